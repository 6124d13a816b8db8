/- The wait scripts' argument, out of the datum that is read / larderlaw18. No condition but that these are ones. -/
import Derived.Test.YtfilpdcphgmhgaaQ9
import Derived.ProofKit
import Derived.SizedLaws
import Derived.LaidMore
import Derived.OpenShut
set_option linter.all false
set_option maxRecDepth 100000
namespace Go.Proofs.Ytfilpdcphgmhgaa
open Go.ChangeShapes Go.WideShapes Go.ChangeAt Go.RowKit
open Go.Ev (ReadsO iv slV I64 Sl Plc PlIn Opw OpwOk Scr plC)
theorem own:ownKnob Try.prog.godebug=none:=by kernel_rfl
theorem c3:Try.prog.cellsOf 3=1:=by kernel_rfl
theorem c9:Try.prog.cellsOf 9=1:=by kernel_rfl
theorem c22:Try.prog.cellsOf 22=1:=by kernel_rfl
theorem c24:Try.prog.cellsOf 24=2:=by kernel_rfl
theorem c28:Try.prog.cellsOf 28=1:=by kernel_rfl
theorem c29:Try.prog.cellsOf 29=1:=by kernel_rfl
theorem c31:Try.prog.cellsOf 31=6:=by kernel_rfl
theorem c40:Try.prog.cellsOf 40=2:=by kernel_rfl
theorem b40:Try.prog.bytesOf 40=24:=by kernel_rfl
theorem b31:Try.prog.bytesOf 31=64:=by kernel_rfl
theorem kids:Kids Try.prog (· < Try.prog.types.size):=kids_rows (by kernel_rfl) (by kernel_rfl)
theorem slices_some:∀ t e,t < Try.prog.types.size→Try.prog.underlying t=some (.slice e)→0 < Try.prog.cellsOf e:=by
 have h:(List.range Try.prog.types.size).all (fun t=>match Try.prog.underlying t with | some (.slice e)=>decide (0 < Try.prog.cellsOf e) | _=>true)=true:=by kernel_rfl
 intro t e ht hu
 have:=List.all_eq_true.1 h t (List.mem_range.2 ht)
 rw [hu] at this
 exact of_decide_eq_true this
section
variable {H:Type} {enc:TypeId × Value→H} {W:World}
theorem weightsAll_mem {P:Program} {e:TypeId}:∀ {ds:List (DataW H)} {d:DataW H},d ∈ ds→∀ n ∈ d.weights P e,n ∈ DataW.weightsAll P e ds
 | d0 :: ds,d,hd,n,hn=>by
  rw [DataW.weightsAll,List.mem_append]
  rcases List.mem_cons.1 hd with rfl | hd
  ·exact .inl hn
  ·exact .inr (weightsAll_mem hd n hn)
theorem block_lt {p:Addr} {v:Value} (h:Go.Ev.cell W.heap p=some v):p.block < W.heap.size:=by
 unfold Go.Ev.cell at h
 exact Nat.lt_of_not_le fun hl=>by
  rw [Array.getElem?_eq_none hl] at h
  cases h
theorem place_of {n:Nat} {cs:List Value} {x:DataW H × List MemPlace} (h:DataW.trod enc Try.prog W 0 (fun _=>true) true n 40 cs=some x):∃ p:Plc,cs=plC p:=by
 obtain ⟨xs,n,_,rfl,hl,hn,hel⟩:=DataW.trod_struct Try.underlying40 h
 rw [c40] at hl
 have e0:DataW.trod enc Try.prog W 0 (fun _=>true) true n 3 ((cs.drop 0).take (Try.prog.cellsOf 3))=xs[0]?:=hel 0 _ rfl
 have e1:DataW.trod enc Try.prog W 0 (fun _=>true) true n 9 ((cs.drop 1).take (Try.prog.cellsOf 9))=xs[1]?:=hel 1 _ rfl
 rw [c3] at e0
 rw [c9] at e1
 match xs,hn with
 | [x0,x1],_ =>
  match cs,hl with
  | [v0,v1],_ =>
   obtain ⟨n0,a0,_,_⟩:=DataW.trod_int Try.underlying3 (show DataW.trod enc Try.prog W 0 (fun _=>true) true n 3 [v0]=some x0 from e0)
   obtain ⟨s,a1,_,_⟩:=DataW.trod_string Try.underlying9 (show DataW.trod enc Try.prog W 0 (fun _=>true) true n 9 [v1]=some x1 from e1)
   simp only [List.cons.injEq,and_true] at a0 a1
   exact ⟨(n0,s),by rw [a0,a1]; rfl⟩
theorem places_of {n:Nat} {v:Value} {x:DataW H × List MemPlace} (h:DataW.trod enc Try.prog W 0 (fun _=>true) true n 28 [v]=some x) (hw:∀ m ∈ x.1.weights Try.prog 28,m ≤ reachBytes) :
  ∃ (d:Sl) (ps:List Plc),v=slV d∧PlIn W.heap d ps∧ps.length < 11000000000000∧∀ p,d.a=some p→ps ≠ []→p.block < W.heap.size:=by
 rcases DataW.trod_slice Try.underlying28 h with ⟨hc,rfl⟩ | ⟨a,len,cap,elems,rest,k,_,hc,rfl,_,hlc,_,hlen,hel3,_,_⟩
 ·exact ⟨⟨none,0,0⟩,[],(List.cons.inj hc).1,⟨rfl,rfl,Nat.le_refl _⟩,by decide,fun _ _ z=>absurd rfl z⟩
 ·rw [c40] at hel3
  have hw1:=hw ((elems.length + rest.length) * Try.prog.bytesOf 40) (by
   simp only [DataW.weights,Try.underlying28,List.mem_cons]
   exact .inl (by rw [List.length_map,List.length_map]))
  rw [b40] at hw1
  have hr:=reachBytes_lt
  have each:∀ i,i < len→∃ p:Plc,∀ j v,(plC p)[j]?=some v→Go.Ev.cell W.heap (a.add (i * 2 + j))=some v:=fun i hi=>by
   have h1:=hel3 i hi
   have hi2:i < elems.length:=by omega
   rw [List.getElem?_eq_getElem hi2] at h1
   obtain ⟨cs1,hc1,hd⟩:=Option.bind_eq_some_iff.1 h1
   obtain ⟨_,hcl,hcc⟩:=World.cells?_some hc1
   obtain ⟨p,hp⟩:=place_of hd
   refine ⟨p,fun j v hj=>?_⟩
   have hjl:j < 2:=(List.getElem?_eq_some_iff.1 hj).1
   have h3:Go.Ev.cell W.heap ((a.add (i * 2)).add j)=cs1[j]?:=hcc j hjl
   rw [← Go.Ev.add_add,h3,hp,hj]
  obtain ⟨f,hf⟩:∃ f:Nat→Plc,∀ i,i < len→∀ j v,(plC (f i))[j]?=some v→Go.Ev.cell W.heap (a.add (i * 2 + j))=some v :=
   ⟨fun i=>if hi:i < len then (each i hi).choose else (0,⟨#[]⟩),fun i hi=>by dsimp only; rw [dif_pos hi]; exact (each i hi).choose_spec⟩
  refine ⟨⟨some a,len,cap⟩,(List.range len).map f,(List.cons.inj hc).1,⟨?_,by simp,hlc⟩,by rw [List.length_map,List.length_range]; omega,fun p hp hne=>?_⟩
  ·intro j v hj
   have hjl:j < len * 2:=by
    have:=(List.getElem?_eq_some_iff.1 hj).1
    rw [Go.Ev.flat_len (sz:=2) (fun _=>rfl)] at this
    simpa using this
   have hd:j=j / 2 * 2 + j % 2:=by omega
   have hi:j / 2 < len:=by omega
   have h4:=Go.Ev.flat_at (sz:=2) (f:=plC) (fun _=>rfl) ((List.range len).map f) (j / 2) (j % 2) (f (j / 2)) (by rw [List.getElem?_map,List.getElem?_range hi]; rfl) (by omega)
   rw [← hd,hj] at h4
   have:=hf (j / 2) hi (j % 2) v h4.symm
   rwa [← hd] at this
  ·obtain rfl:=Option.some.inj hp
   have h0:0 < len:=Nat.pos_of_ne_zero fun e=>hne (by rw [e]; rfl)
   exact block_lt (hf 0 h0 0 _ rfl)
theorem opw_of {n:Nat} {cs:List Value} {x:DataW H × List MemPlace} (h:DataW.trod enc Try.prog W 0 (fun _=>true) true n 31 cs=some x) (hw:∀ m ∈ x.1.weights Try.prog 31,m ≤ reachBytes):∃ o:Opw,cs=o.cells∧OpwOk W.heap o:=by
 obtain ⟨xs,n,_,rfl,hl,hn,hel⟩:=DataW.trod_struct Try.underlying31 h
 rw [c31] at hl
 have e0:DataW.trod enc Try.prog W 0 (fun _=>true) true n 3 ((cs.drop 0).take (Try.prog.cellsOf 3))=xs[0]?:=hel 0 _ rfl
 have e1:DataW.trod enc Try.prog W 0 (fun _=>true) true n 3 ((cs.drop 1).take (Try.prog.cellsOf 3))=xs[1]?:=hel 1 _ rfl
 have e2:DataW.trod enc Try.prog W 0 (fun _=>true) true n 3 ((cs.drop 2).take (Try.prog.cellsOf 3))=xs[2]?:=hel 2 _ rfl
 have e3:DataW.trod enc Try.prog W 0 (fun _=>true) true n 3 ((cs.drop 3).take (Try.prog.cellsOf 3))=xs[3]?:=hel 3 _ rfl
 have e4:DataW.trod enc Try.prog W 0 (fun _=>true) true n 28 ((cs.drop 4).take (Try.prog.cellsOf 28))=xs[4]?:=hel 4 _ rfl
 have e5:DataW.trod enc Try.prog W 0 (fun _=>true) true n 29 ((cs.drop 5).take (Try.prog.cellsOf 29))=xs[5]?:=hel 5 _ rfl
 rw [c3] at e0 e1 e2 e3
 rw [c28] at e4
 rw [c29] at e5
 match xs,hn with
 | [x0,x1,x2,x3,x4,x5],_ =>
  match cs,hl with
  | [v0,v1,v2,v3,v4,v5],_ =>
   obtain ⟨n0,a0,_,w0⟩:=DataW.trod_int Try.underlying3 (show DataW.trod enc Try.prog W 0 (fun _=>true) true n 3 [v0]=some x0 from e0)
   obtain ⟨n1,a1,_,w1⟩:=DataW.trod_int Try.underlying3 (show DataW.trod enc Try.prog W 0 (fun _=>true) true n 3 [v1]=some x1 from e1)
   obtain ⟨n2,a2,_,w2⟩:=DataW.trod_int Try.underlying3 (show DataW.trod enc Try.prog W 0 (fun _=>true) true n 3 [v2]=some x2 from e2)
   obtain ⟨n3,a3,_,w3⟩:=DataW.trod_int Try.underlying3 (show DataW.trod enc Try.prog W 0 (fun _=>true) true n 3 [v3]=some x3 from e3)
   obtain ⟨d,ps,a4,d1,d2,d3⟩:=places_of (show DataW.trod enc Try.prog W 0 (fun _=>true) true n 28 [v4]=some x4 from e4) (fun m hm=>hw m (by
    simp only [DataW.weights,Try.underlying31]
    exact DataW.weights_mem_each (j:=4) (t:=28) rfl rfl m hm))
   obtain ⟨n5,a5,_,w5⟩:=DataW.trod_int Try.underlying29 (show DataW.trod enc Try.prog W 0 (fun _=>true) true n 29 [v5]=some x5 from e5)
   simp only [List.cons.injEq,and_true] at a0 a1 a2 a3 a5
   refine ⟨⟨n0,n1,n2,n3,d,ps,n5⟩,?_,⟨d1,d2,d3,(bounds_u64 w5).1⟩⟩
   rw [a0,a1,a2,a3,a4,a5]
   rfl
theorem wscript_of {n:Nat} {cs:List Value} {x:DataW H × List MemPlace} (h:DataW.trod enc Try.prog W 0 (fun _=>true) true n 24 cs=some x) (hw:∀ m ∈ x.1.weights Try.prog 24,m ≤ reachBytes) :
  ∃ (many:Int) (sl:Sl) (ops:List Opw),cs=[.int .i64 many,.slice sl.a sl.n sl.c]∧Scr W.heap sl ops:=by
 obtain ⟨xs,n,_,rfl,hl,hn,hel⟩:=DataW.trod_struct Try.underlying24 h
 rw [c24] at hl
 have e0:DataW.trod enc Try.prog W 0 (fun _=>true) true n 3 ((cs.drop 0).take (Try.prog.cellsOf 3))=xs[0]?:=hel 0 _ rfl
 have e1:DataW.trod enc Try.prog W 0 (fun _=>true) true n 22 ((cs.drop 1).take (Try.prog.cellsOf 22))=xs[1]?:=hel 1 _ rfl
 rw [c3] at e0
 rw [c22] at e1
 match xs,hn with
 | [x0,x1],_ =>
  match cs,hl with
  | [v0,v1],_ =>
   obtain ⟨n0,a0,_,w0⟩:=DataW.trod_int Try.underlying3 (show DataW.trod enc Try.prog W 0 (fun _=>true) true n 3 [v0]=some x0 from e0)
   simp only [List.cons.injEq,and_true] at a0
   subst a0
   have hw1:∀ m ∈ x1.1.weights Try.prog 22,m ≤ reachBytes:=fun m hm=>hw m (by
    simp only [DataW.weights,Try.underlying24]
    exact DataW.weights_mem_each (j:=1) (t:=22) rfl rfl m hm)
   rcases DataW.trod_slice Try.underlying22 (show DataW.trod enc Try.prog W 0 (fun _=>true) true n 22 [v1]=some x1 from e1) with ⟨hc,rfl⟩ | ⟨a,len,cap,elems,rest,k,_,hc,rfl,_,hlc,_,hlen,hel3,_,_⟩
   ·simp only [List.cons.injEq,and_true] at hc
    subst hc
    exact ⟨n0,⟨none,0,0⟩,[],rfl,rfl,rfl,by decide,nofun,fun _ _ z=>absurd rfl z⟩
   ·simp only [List.cons.injEq,and_true] at hc
    subst hc
    rw [c31] at hel3
    have hw2:=hw1 ((elems.length + rest.length) * Try.prog.bytesOf 31) (by
     simp only [DataW.weights,Try.underlying22,List.mem_cons]
     exact .inl (by rw [List.length_map,List.length_map]))
    rw [b31] at hw2
    have hr:=reachBytes_lt
    have each:∀ i,i < len→∃ o:Opw,OpwOk W.heap o∧∀ j v,o.cells[j]?=some v→Go.Ev.cell W.heap (a.add (i * 6 + j))=some v:=fun i hi=>by
     have h1:=hel3 i hi
     have hi2:i < elems.length:=by omega
     rw [List.getElem?_eq_getElem hi2] at h1
     obtain ⟨cs1,hc1,hd⟩:=Option.bind_eq_some_iff.1 h1
     obtain ⟨_,hcl,hcc⟩:=World.cells?_some hc1
     obtain ⟨o,ho,hok⟩:=opw_of hd (fun m hm=>hw1 m (by
      simp only [DataW.weights,Try.underlying22,List.mem_cons,List.mem_append]
      exact .inr (.inl (weightsAll_mem (List.mem_map.2 ⟨_,List.getElem_mem hi2,rfl⟩) m hm))))
     refine ⟨o,hok,fun j v hj=>?_⟩
     have hjl:j < 6:=(List.getElem?_eq_some_iff.1 hj).1
     have h3:Go.Ev.cell W.heap ((a.add (i * 6)).add j)=cs1[j]?:=hcc j hjl
     rw [← Go.Ev.add_add,h3,ho,hj]
    obtain ⟨f,hf⟩:∃ f:Nat→Opw,∀ i,i < len→OpwOk W.heap (f i)∧∀ j v,(f i).cells[j]?=some v→Go.Ev.cell W.heap (a.add (i * 6 + j))=some v :=
     ⟨fun i=>if hi:i < len then (each i hi).choose else ⟨0,0,0,0,⟨none,0,0⟩,[],0⟩,fun i hi=>by dsimp only; rw [dif_pos hi]; exact (each i hi).choose_spec⟩
    refine ⟨n0,⟨some a,len,cap⟩,(List.range len).map f,rfl,?_,by simp,by rw [List.length_map,List.length_range]; omega,fun o ho=>?_,fun p hp hne=>?_⟩
    ·intro j v hj
     have hjl:j < len * 6:=by
      have:=(List.getElem?_eq_some_iff.1 hj).1
      rw [Go.Ev.flat_len (sz:=6) (fun _=>rfl)] at this
      simpa using this
     have hd:j=j / 6 * 6 + j % 6:=by omega
     have hi:j / 6 < len:=by omega
     have h4:=Go.Ev.flat_at (sz:=6) (f:=Opw.cells) (fun _=>rfl) ((List.range len).map f) (j / 6) (j % 6) (f (j / 6)) (by rw [List.getElem?_map,List.getElem?_range hi]; rfl) (by omega)
     rw [← hd,hj] at h4
     have:=(hf (j / 6) hi).2 (j % 6) v h4.symm
     rwa [← hd] at this
    ·obtain ⟨i,hi,rfl⟩:=List.mem_map.1 ho
     exact (hf i (List.mem_range.1 hi)).1
    ·obtain rfl:=Option.some.inj hp
     have h0:0 < len:=Nat.pos_of_ne_zero fun e=>hne (by rw [e]; rfl)
     exact block_lt ((hf 0 h0).2 0 _ rfl)
theorem kept_all {W W':World} (hs:Go.Ev.Same W W') (hk:Go.Ev.Kept Go.Ev.N W.heap W'.heap) (may:MemPlace→Prop):W.keptBut W' may:=by
 refine ⟨hs.1,hs.2.2,fun i hi=>?_⟩
 rw [hk.2 i hi id]
 cases h:W.heap[i]? with
 | none=>rfl
 | some o =>
  cases o <;> first | exact rfl | exact ⟨rfl,rfl,rfl,fun _ _=>rfl⟩ | exact .inr ⟨rfl,rfl⟩
theorem same_all {W W':World} (hk:Go.Ev.Kept Go.Ev.N W.heap W'.heap) {p:MemPlace} (hp:p.block < W.heap.size):W.sameAt W' p:=by
 cases p with
 | cell b off =>
  show Go.Ev.cell W'.heap ⟨b,off,none⟩=Go.Ev.cell W.heap ⟨b,off,none⟩
  unfold Go.Ev.cell
  rw [hk.2 b hp id]
 | map b=>exact hk.2 b hp id
end
end Go.Proofs.Ytfilpdcphgmhgaa
set_option linter.all false
set_option maxRecDepth 1000000
namespace Go.Ev
open Go.Proofs
def mayB (busy:Bool) (o:Opw):Bool:=decide (0 ≤ o.conn∧o.conn < 8∧busy=false∧(o.kind=2 ∨ o.kind=5)∧0 < o.pls.length∧o.pls.length ≤ 64∧o.time ≤ 4503599627370496)
theorem may_block (busy:Bool) (o:Opw):(blockE busy o.conn o.kind o.pls o.time == 0)=(mayB busy o && o.pls.all fitB):=by
 unfold blockE mayB
 by_cases h1:o.conn < 0 ∨ 8 ≤ o.conn
 ·rw [if_pos h1,decide_eq_false (fun z=>by omega)]; rfl
 rw [if_neg h1]
 cases busy with
 | true=>rw [if_pos rfl,decide_eq_false (fun z=>by cases z.2.2.1)]; rfl
 | false =>
  rw [if_neg (by decide)]
  by_cases h3:o.kind ≠ 2∧o.kind ≠ 5
  ·rw [if_pos h3,decide_eq_false (fun z=>by omega)]; rfl
  rw [if_neg h3]
  by_cases h4:o.pls.length=0 ∨ 64 < o.pls.length ∨ o.pls.all fitB=false
  ·rw [if_pos h4]
   rcases h4 with h4 | h4 | h4
   ·rw [decide_eq_false (fun z=>by omega)]; rfl
   ·rw [decide_eq_false (fun z=>by omega)]; rfl
   ·rw [h4,Bool.and_false]; rfl
  rw [if_neg h4]
  have hf:o.pls.all fitB=true:=by
   cases e:o.pls.all fitB with
   | true=>rfl
   | false=>exact absurd (.inr (.inr e)) h4
  have l1:¬ o.pls.length=0:=fun z=>h4 (.inl z)
  have l2:¬ 64 < o.pls.length:=fun z=>h4 (.inr (.inl z))
  rw [hf,Bool.and_true]
  by_cases h5:o.time > 4503599627370496
  ·rw [if_pos h5,decide_eq_false (fun z=>by omega)]; rfl
  ·rw [if_neg h5,decide_eq_true (⟨by omega,by omega,rfl,by omega,by omega,by omega,by omega⟩)]; rfl
section
variable {h h' h1 h2:Hp} {W:WP} {R:Value→Hp→Prop}
/-- The same numbers, told again. -/
theorem again_ok (x:WRep h W) {now:Int} {s d:Sl} {c e:Nat} {T:List Int} (il:IL h s c (W.ws.map (·.w.conn))) (id:IL h d e T) (tp:T.Perm (duesOf W now)) (ts:T.Pairwise fun a b=>duV W a b < 0)
  {K:Bool→Hp→Prop} (hK:∀ h',Kept N h h'→K true h') :
  CallTo Try.prog 13 #[.pointer (some (ad W.wb))] h fun r h15=>∃ t60:Sl,r=.slice t60.a t60.n t60.c∧CallTo Try.prog 17 #[.slice s.a s.n s.c,.slice t60.a t60.n t60.c] h15 fun r h16=>∃ t61:Bool,r=.bool t61∧Cond t61 (CallTo Try.prog 14 #[.pointer (some (ad W.wb)),.int .u64 now] h16 fun r h17=>∃ t65:Sl,r=.slice t65.a t65.n t65.c∧CallTo Try.prog 17 #[.slice d.a d.n d.c,.slice t65.a t65.n t65.c] h17 fun r h18=>∃ t66:Bool,r=.bool t66∧K t66 h18) (K false h16):=by
 have wl:=wlen8 x.m
 refine wwaiting_ok x fun s' c' h2 il' _ k2=>⟨s',rfl,?_⟩
 have il2:=il.keep k2 fun _=>_root_.id
 refine ints_ok (il_rd il2) il2.n (il_rd il') il'.n (by rw [List.length_map]; omega) ⟨_,rfl,?_⟩
 rw [decide_eq_true rfl]
 refine Cond_t rfl (wdue_ok (x.keepN k2) tp ts fun s'' c'' h3 il'' _ k3=>⟨s'',rfl,?_⟩)
 have id3:=(id.keep k2 fun _=>_root_.id).keep k3 fun _=>_root_.id
 have:=tp.length_eq
 have:=duesOf_len x.m now
 refine ints_ok (il_rd id3) id3.n (il_rd il'') il''.n (by omega) ⟨_,rfl,?_⟩
 rw [decide_eq_true rfl]
 exact hK h3 (k2.trans k3)
theorem refused_ok {a:Sl} {os:List Opw} (x:Scr h a os) {many:Int} (hR:∀ h',Kept N h h'→R (.bool true) h'):CallTo Try.prog 3 #[.agg #[.int .i64 many,.slice a.a a.n a.c]] h R:=by
 refine f3F_ok (a0_1:=a) ?_
 unfold f3F
 refine Let_mk fun h1 e1=>?_
 have k1:Kept N h h1:=e1 ▸ kept_push _ _ _
 have r1:Row h1 h.size [.int .i64 many,.slice a.a a.n a.c]:=e1 ▸ row_new h _ 24
 have n1:nb h=ad h.size:=rfl
 have hs:h.size < h1.size:=row_lt r1
 rw [n1]
 refine wakes_ok fun h2 k2=>⟨true,rfl,Cond_f rfl (wnew_ok fun h3 W0 w0 hws0 htu0 hf0 k3=>⟨_,rfl,Cond_f rfl ?_⟩)⟩
 have xn:=x.n
 have xlt:=x.lt
 refine f3L1_rule (fun m s1 s3 s4 h'=>∃ (i:Nat) (W:WP),i ≤ os.length∧m=os.length - i∧s1=ad h.size∧s3=some (ad W.wb)∧s4=(i:Int)∧i ≤ 300∧WRep h' W∧W.turns ≤ i∧(∀ b,W.foot b→h1.size ≤ b)∧Kept N h1 h') os.length
  ⟨0,W0,Nat.zero_le _,rfl,rfl,rfl,rfl,Nat.zero_le _,w0,by rw [htu0]; exact Nat.le_refl _,fun b hb=>Nat.le_trans k2.1 (hf0 b hb),k2.trans k3⟩ ?_
 clear w0 hws0 htu0 hf0 W0 k3
 rintro m s1 s3 s4 g h4 ⟨i,W,hi,rfl,rfl,rfl,rfl,hi3,w4,htu,hf4,k4⟩
 unfold f3L1
 have r4:=kept_row k4 r1 _root_.id
 have c41:cell h4 ((ad h.size).add 1)=some (.slice a.a a.n a.c):=by rw [add_ad]; exact (cell_row r4 1).trans rfl
 refine ⟨_,c41,Cond_dec (fun hlt=>?_) fun hge=>by unfold f3K1; exact Cond_f rfl (hR h4 (k1.trans k4))⟩
 unfold f3K1
 refine Cond_dec (fun hlt2=>?_) fun _=>hR h4 (k1.trans k4)
 obtain ⟨o,ho⟩:∃ o,os[i]?=some o:=⟨_,List.getElem?_eq_getElem (by omega)⟩
 have hom:=List.mem_of_getElem? ho
 have k04:=k1.trans k4
 have rd4:=reads_keptN k04 x.rd
 obtain ⟨pa,ea,g0⟩:=readsO_get rd4 ((flat_at opw_len os i 0 o ho (by omega)).trans rfl)
 have gg:∀ (j:Nat) (v:Value),j < 6→o.cells[j]?=some v→cell h4 ((pa.add (i * 6)).add j)=some v:=fun j v hj hv=>by
  obtain ⟨p',hp',c⟩:=readsO_get rd4 ((flat_at opw_len os i j o ho hj).trans hv)
  rw [ea] at hp'
  obtain rfl:=Option.some.inj hp'
  rw [add_add]; exact c
 have nxt:IntKind.wrap .i64 ((i:Int) + 1)=((i + 1:Nat):Int):=nxt8 (by omega)
 refine ⟨_,c41,⟨by omega,by omega⟩,PtrOk_of ea ?_⟩
 rw [Int.toNat_natCast]
 refine ⟨_,g0,_,gg 1 _ (by omega) rfl,_,gg 2 _ (by omega) rfl,_,gg 3 _ (by omega) rfl,o.sl,gg 4 _ (by omega) rfl,_,gg 5 _ (by omega) rfl,own6 fun h5 r5 k5=>?_⟩
 have n4:nb h4=ad h4.size:=rfl
 rw [n4]
 have w5:=w4.keepN k5
 have ok5:=((x.ok o hom).kept k04).kept k5
 have fl:∀ b,W.foot b→b < h4.size:=fun b hb=>w4.m.foot_lt hb
 obtain ⟨T,tp,ts⟩:=sorted_exists (w4.m.ordD (l:=duesOf W 4503599627370496) (fun c hc=>duesOf_sub hc) (duesOf_nd w4.m _))
 refine wwaiting_ok w5 fun s c h6 il hfr k6=>⟨s,rfl,wdue_ok (w5.keepN k6) tp ts fun d e h7 id hfr' k7=>⟨d,rfl,?_⟩⟩
 have k57:=k6.trans k7
 have il7:=il.keep k7 fun _=>_root_.id
 have r7:=kept_row k57 r5 _root_.id
 have w7:=w5.keepN k57
 have cc:∀ {g:Hp},Row g h4.size o.cells→∀ (j:Nat) (v:Value),o.cells[j]?=some v→cell g ((ad h4.size).add j)=some v:=fun r j v hv=>by rw [add_ad]; exact (cell_row r j).trans hv
 refine ⟨_,cc r7 2 _ rfl,wuntil_ok w7 fun h8 k8=>⟨_,_,rfl,?_⟩⟩
 have r8:=kept_row k8 r7 _root_.id
 have w8:=w7.keepN k8
 have il8:=il7.keep k8 fun _=>_root_.id
 have id8:=id.keep k8 fun _=>_root_.id
 have k48:Kept N h4 h8:=(k5.trans k57).trans k8
 have k18:Kept N h1 h8:=k4.trans k48
 have ok8:=ok5.kept (k57.trans k8)
 have q4:=k4.1
 have q48:=k48.1
 have wl8:=wlen8 w4.m
 have q14:h4.size < h5.size:=row_lt r5
 -- on to the next step
 have goN:∀ h',Kept N h8 h'→∃ m,m < os.length - i∧∃ (i':Nat) (W':WP),i' ≤ os.length∧m=os.length - i'∧ad h.size=ad h.size∧(some (ad W.wb))=some (ad W'.wb)∧IntKind.wrap .i64 ((i:Int) + 1)=(i':Int)∧i' ≤ 300∧WRep h' W'∧W'.turns ≤ i'∧(∀ b,W'.foot b→h1.size ≤ b)∧Kept N h1 h':=fun h' k=>⟨os.length - (i + 1),by omega,i + 1,W,by omega,rfl,rfl,rfl,nxt,by omega,w8.keepN k,by omega,hf4,k18.trans k⟩
 have goW:∀ g h' W',Kept N h8 g→WRep h' W'→W'.wb=W.wb→W'.turns ≤ W.turns + 1→WTr g W h' W'→∃ m,m < os.length - i∧∃ (i':Nat) (W':WP),i' ≤ os.length∧m=os.length - i'∧ad h.size=ad h.size∧(some (ad W.wb))=some (ad W'.wb)∧IntKind.wrap .i64 ((i:Int) + 1)=(i':Int)∧i' ≤ 300∧WRep h' W'∧W'.turns ≤ i'∧(∀ b,W'.foot b→h1.size ≤ b)∧Kept N h1 h':=fun g h' W' k w' e1 e2 t=>by
  have kk:Kept N h1 g:=k18.trans k
  refine ⟨os.length - (i + 1),by omega,i + 1,W',by omega,rfl,rfl,by rw [e1],nxt,by omega,w',by omega,fun b hb=>?_,kept_fresh kk t.1 hf4⟩
  rcases t.2 b hb with z | z
  ·exact hf4 b z
  ·exact Nat.le_trans kk.1 z
 refine ⟨_,cc r8 1 _ rfl,Cond_b (fun hd=>?_) fun hd=>⟨_,cc r8 2 _ rfl,?_⟩⟩
 ·-- no Block: Release
  refine ⟨_,cc r8 2 _ rfl,wrelease_ok w8 (fun hn h9 k9=>⟨false,rfl,?_⟩) fun y j hsome hj h9 W9 w9 hwb hws hturn t9=>⟨true,rfl,?_⟩⟩
  ·rw [hn]
   refine Cond_f rfl (Cond_t rfl ?_)
   exact again_ok (w8.keepN k9) (il8.keep k9 fun _=>_root_.id) (id8.keep k9 fun _=>_root_.id) tp ts (K:=fun b h18=>f3K2 (fun m s1 s3 s4 h'=>∃ (i:Nat) (W:WP),i ≤ os.length∧m=os.length - i∧s1=ad h.size∧s3=some (ad W.wb)∧s4=(i:Int)∧i ≤ 300∧WRep h' W∧W.turns ≤ i∧(∀ b,W.foot b→h1.size ≤ b)∧Kept N h1 h') (os.length - i) (ad h.size) (some (ad W.wb)) (i:Int) (!b) h18 R) fun h' k=>by
    unfold f3K2
    exact Cond_f rfl (goN h' (k9.trans k))
  ·rw [hsome]
   refine Cond_f rfl (Cond_f rfl ?_)
   unfold f3K2
   exact Cond_f rfl (goW h8 h9 W9 (Kept.refl _ _) w9 hwb (by omega) t9)
 ·-- Block
  have on:=ok8.pl.n
  have k3:∀ b,b=mayB (W.find o.conn).isSome o→f3K3 (fun m s1 s3 s4 h'=>∃ (i:Nat) (W:WP),i ≤ os.length∧m=os.length - i∧s1=ad h.size∧s3=some (ad W.wb)∧s4=(i:Int)∧i ≤ 300∧WRep h' W∧W.turns ≤ i∧(∀ b,W.foot b→h1.size ≤ b)∧Kept N h1 h') (os.length - i) (ad h.size) (some (ad W.wb)) (i:Int) (ad h4.size) s d b h8 R:=fun b hb=>by
   subst hb
   unfold f3K3
   refine f3L2_rule (s6:=s) (s7:=d) (fun m u1 u3 u4 u5 u6 u7 u10 u11 h'=>∃ j:Nat,j ≤ o.pls.length∧m=o.pls.length - j∧u1=ad h.size∧u3=some (ad W.wb)∧u4=(i:Int)∧u5=ad h4.size∧s=u6∧d=u7∧u10=(mayB (W.find o.conn).isSome o && (o.pls.take j).all fitB)∧u11=(j:Int)∧h8=h') o.pls.length
    ⟨0,Nat.zero_le _,rfl,rfl,rfl,rfl,rfl,rfl,rfl,(Bool.and_true _).symm,rfl,rfl⟩ ?_
   rintro m u1 u3 u4 u5 u6 u7 u10 u11 g2 h9 ⟨j,hj,rfl,rfl,rfl,rfl,rfl,rfl,rfl,rfl,rfl,rfl⟩
   unfold f3L2
   refine ⟨_,cc r8 4 _ rfl,Cond_dec (fun hlt3=>?_) fun hge3=>?_⟩
   ·obtain ⟨p,hp⟩:∃ p,o.pls[j]?=some p:=⟨_,List.getElem?_eq_getElem (by omega)⟩
    obtain ⟨pb,eb,d0,d1⟩:=pl_read ok8.pl.rd hp
    have ta:(o.pls.take (j + 1)).all fitB=((o.pls.take j).all fitB && fitB p):=by rw [List.take_add_one,hp,List.all_append]; simp
    have jn:IntKind.wrap .i64 ((j:Int) + 1)=((j + 1:Nat):Int):=by have:=ok8.len; rw [wr (by omega) (by omega)]; rfl
    have go:∀ b,b=(mayB (W.find o.conn).isSome o && (o.pls.take (j + 1)).all fitB)→∃ m,m < o.pls.length - j∧∃ j':Nat,j' ≤ o.pls.length∧m=o.pls.length - j'∧ad h.size=ad h.size∧(some (ad W.wb))=some (ad W.wb)∧(i:Int)=(i:Int)∧ad h4.size=ad h4.size∧s=s∧d=d∧b=(mayB (W.find o.conn).isSome o && (o.pls.take j').all fitB)∧IntKind.wrap .i64 ((j:Int) + 1)=(j':Int)∧h8=h8:=fun b hb=>⟨o.pls.length - (j + 1),by omega,j + 1,by omega,rfl,rfl,rfl,rfl,rfl,rfl,rfl,hb,jn,rfl⟩
    have bad:fitB p=false→false=(mayB (W.find o.conn).isSome o && (o.pls.take (j + 1)).all fitB):=fun e=>by rw [ta,e,Bool.and_false,Bool.and_false]
    refine Cond_b (fun hm=>⟨_,cc r8 4 _ rfl,⟨by omega,by omega⟩,?_⟩) fun hm=>?_
    ·rw [Int.toNat_natCast]
     have n1':¬ 0 ≤ p.1→fitB p=false:=fun z=>by unfold fitB; simp [z]
     have n2':¬ p.1 < 4→fitB p=false:=fun z=>by unfold fitB; simp [z]
     refine PtrOk_of eb ⟨_,d0,Cond_dec (fun z1=>⟨_,cc r8 4 _ rfl,⟨by omega,by omega⟩,PtrOk_of eb ⟨_,d0,Cond_dec (fun z2=>⟨_,cc r8 4 _ rfl,⟨by omega,by omega⟩,PtrOk_of eb ⟨_,d1,?_⟩⟩) fun z2=>?_⟩⟩) fun z1=>?_⟩
     ·unfold f3K4
      refine go _ ?_
      rw [ta,← Bool.and_assoc,hm,Bool.true_and]
      unfold fitB
      have h1:0 ≤ p.1:=by omega
      have h2:p.1 < 4:=by omega
      rw [decide_eq_true h1,decide_eq_true h2,Bool.true_and,Bool.true_and]
      exact decide_eq_decide.2 (by omega)
     ·unfold f3K4
      exact go _ (bad (n2' (by omega)))
     ·unfold f3K4
      exact go _ (bad (n1' (by omega)))
    ·unfold f3K4
     exact go _ (by rw [ta,← Bool.and_assoc,hm,Bool.false_and])
   ·have ej:j=o.pls.length:=by omega
    subst ej
    rw [List.take_length,← may_block]
    refine ⟨_,cc r8 2 _ rfl,_,cc r8 3 _ rfl,o.sl,cc r8 4 _ rfl,_,cc r8 5 _ rfl,twin_ok ok8.pl ok8.len fun s' h9 pi9 hs' k9=>⟨s',rfl,?_⟩⟩
    have r9:=kept_row k9 r8 _root_.id
    have w9:=w8.keepN k9
    have il9:=il8.keep k9 fun _=>_root_.id
    have id9:=id8.keep k9 fun _=>_root_.id
    refine ⟨⟨_,cc r9 5 _ rfl,rfl⟩,⟨_,cc r9 3 _ rfl,rfl⟩,⟨_,cc r9 2 _ rfl,rfl⟩,wblock_ok w9 pi9 (fun p hp hne=>⟨fun hb=>?_,(hs' p hp hne).2⟩) (by omega) ok8.tm (fun h10 hE k10=>⟨_,rfl,?_⟩) fun hE h10 W10 y w10 hwb hws hy hturn t10=>⟨0,rfl,?_⟩⟩
    ·have:=fl _ hb
     have:=(hs' p hp hne).1
     omega
    ·have hb:(blockE (W.find o.conn).isSome o.conn o.kind o.pls o.time == 0)=false:=by simpa using hE
     rw [hb]
     refine Cond_f rfl (Cond_t rfl ?_)
     exact again_ok (w9.keepN k10) (il9.keep k10 fun _=>_root_.id) (id9.keep k10 fun _=>_root_.id) tp ts (K:=fun b h18=>f3K5 (fun m s1 s3 s4 h'=>∃ (i:Nat) (W:WP),i ≤ os.length∧m=os.length - i∧s1=ad h.size∧s3=some (ad W.wb)∧s4=(i:Int)∧i ≤ 300∧WRep h' W∧W.turns ≤ i∧(∀ b,W.foot b→h1.size ≤ b)∧Kept N h1 h') (os.length - i) (ad h.size) (some (ad W.wb)) (i:Int) s false (!b) h18 R) fun h' k=>by
      unfold f3K5
      refine Cond_f rfl (Cond_f rfl ?_)
      unfold f3K6
      exact Cond_f rfl (goN h' ((k9.trans k10).trans k))
    ·rw [hE]
     refine Cond_f rfl (Cond_f rfl ?_)
     unfold f3K5
     refine Cond_f rfl (Cond_t rfl ?_)
     rw [← hwb]
     refine wwaiting_ok w10 fun s'' c'' h11 il'' _ k11=>⟨s'',rfl,?_⟩
     unfold f3K6
     have en:s''.n=s.n + 1:=by
      rw [il''.n,il.n,hws,List.length_map,List.length_map,List.length_append]
      rfl
     have sn:s.n ≤ 8:=by rw [il.n,List.length_map]; exact wl8
     refine Cond_f ?_ ?_
     ·rw [nxt8 (by omega),en]
      exact bne_self_eq_false _
     ·have:=goW h9 h11 W10 k9 (w10.keepN k11) hwb (by omega) (t10.trans (WTr.keepN k11))
      rw [← hwb] at this
      exact this
  have no:∀ {P:Prop},¬ P→(P→False):=fun h=>h
  have mf:¬ (0 ≤ o.conn∧o.conn < 8∧(W.find o.conn).isSome=false∧(o.kind=2 ∨ o.kind=5)∧0 < o.pls.length∧o.pls.length ≤ 64∧o.time ≤ 4503599627370496)→false=mayB (W.find o.conn).isSome o:=fun z=>by unfold mayB; rw [decide_eq_false z]
  have kindOk:0 ≤ o.conn→o.conn < 8→(W.find o.conn).isSome=false→(o.kind=2 ∨ o.kind=5)→∃ t95:Sl,cell h8 ((ad h4.size).add 4)=some (.slice t95.a t95.n t95.c)∧Cond (decide ((((t95.n:Nat):Int)) > (0:Int))) (∃ t101:Sl,cell h8 ((ad h4.size).add 4)=some (.slice t101.a t101.n t101.c)∧Cond (decide ((((t101.n:Nat):Int)) ≤ (64:Int))) (∃ t107:Int,cell h8 ((ad h4.size).add 5)=some (.int .u64 t107)∧f3K3 (fun m s1 s3 s4 h'=>∃ (i:Nat) (W:WP),i ≤ os.length∧m=os.length - i∧s1=ad h.size∧s3=some (ad W.wb)∧s4=(i:Int)∧i ≤ 300∧WRep h' W∧W.turns ≤ i∧(∀ b,W.foot b→h1.size ≤ b)∧Kept N h1 h') (os.length - i) (ad h.size) (some (ad W.wb)) (i:Int) (ad h4.size) s d (decide (t107 ≤ (4503599627370496:Int))) h8 R) (f3K3 (fun m s1 s3 s4 h'=>∃ (i:Nat) (W:WP),i ≤ os.length∧m=os.length - i∧s1=ad h.size∧s3=some (ad W.wb)∧s4=(i:Int)∧i ≤ 300∧WRep h' W∧W.turns ≤ i∧(∀ b,W.foot b→h1.size ≤ b)∧Kept N h1 h') (os.length - i) (ad h.size) (some (ad W.wb)) (i:Int) (ad h4.size) s d false h8 R)) (f3K3 (fun m s1 s3 s4 h'=>∃ (i:Nat) (W:WP),i ≤ os.length∧m=os.length - i∧s1=ad h.size∧s3=some (ad W.wb)∧s4=(i:Int)∧i ≤ 300∧WRep h' W∧W.turns ≤ i∧(∀ b,W.foot b→h1.size ≤ b)∧Kept N h1 h') (os.length - i) (ad h.size) (some (ad W.wb)) (i:Int) (ad h4.size) s d false h8 R):=fun z1 z2 z3 z4 =>
   ⟨o.sl,cc r8 4 _ rfl,Cond_dec (fun z5=>⟨o.sl,cc r8 4 _ rfl,Cond_dec (fun z6=>⟨_,cc r8 5 _ rfl,k3 _ (by
    unfold mayB
    exact decide_eq_decide.2 ⟨fun z7=>⟨z1,z2,z3,z4,by omega,by omega,z7⟩,fun z=>z.2.2.2.2.2.2⟩)⟩) fun z6=>k3 _ (mf (by omega))⟩) fun z5=>k3 _ (mf (by omega))⟩
  refine Cond_dec (fun z1=>⟨_,cc r8 2 _ rfl,Cond_dec (fun z2=>?_) fun z2=>k3 _ (mf (by omega))⟩) fun z1=>k3 _ (mf (by omega))
  cases hsome:(W.find o.conn).isSome with
  | true=>exact Cond_f rfl (k3 _ (mf (by rw [hsome]; rintro ⟨_,_,z,_⟩; cases z)))
  | false =>
   refine Cond_t rfl ⟨_,cc r8 3 _ rfl,Cond_b (fun z=>kindOk (by omega) z2 hsome (.inl (by simpa using z))) fun z=>⟨_,cc r8 3 _ rfl,Cond_b (fun z'=>kindOk (by omega) z2 hsome (.inr (by simpa using z'))) fun z'=>k3 _ (mf ?_)⟩⟩
   have e1:o.kind ≠ 2:=by simpa using z
   have e2:o.kind ≠ 5:=by simpa using z'
   rintro ⟨_,_,_,z3,_⟩
   omega
end
end Go.Ev
