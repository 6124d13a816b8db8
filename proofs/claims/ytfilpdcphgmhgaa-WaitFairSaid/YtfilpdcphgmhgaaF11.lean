/- The program's and the document's side by side: one step / larderlaw18 / The wait scripts' argument, out of the datum that is read. No condition but that these are ones. -/
import Derived.Test.YtfilpdcphgmhgaaF10
import Derived.ProofKit
import Derived.SizedLaws
import Derived.LaidMore
import Derived.OpenShut
set_option linter.all false
set_option maxRecDepth 1000000
namespace Go.Ev
open Go.Proofs
section
variable {h h' h1 h2:Hp} {W W':WP} {D D':DP} {R:Value→Hp→Prop}
theorem zrow_size {z:Array Value} (n:Nat):(zrow z n).toList.length=n:=by rw [Array.length_toList]; exact zrow_len z n
theorem twin_ok {s:Sl} {ps:List Plc} (x:PlIn h s ps) (hlen:ps.length < 11000000000000)
  (hR:∀ s' h',PlIn h' s' ps→(∀ p,s'.a=some p→ps ≠ []→h.size ≤ p.block∧p.block < h'.size)→Kept N h h'→R (.slice s'.a s'.n s'.c) h'):CallTo Try.prog 19 #[.slice s.a s.n s.c] h R:=by
 refine f19F_ok (a0:=s) ?_
 unfold f19F
 have xn:=x.n
 cases ea:s.a with
 | none =>
  have l0:ps.flatMap plC=[]:=by have:=x.rd; rw [ea] at this; exact this
  have hl:=flat_len plC_len ps
  rw [l0] at hl
  have p0:ps=[]:=List.length_eq_zero_iff.1 (by simp at hl; omega)
  exact Cond_t rfl (hR ⟨none,0,0⟩ h ⟨by rw [p0]; exact rfl,by rw [p0]; rfl,Nat.le_refl _⟩ (fun _ _ z=>absurd p0 z) (Kept.refl _ _))
 | some pa =>
  refine Cond_f rfl ⟨⟨by omega,by omega⟩,by omega,by omega,Let_mk fun h1 e1=>?_⟩
  have k1:Kept N h h1:=e1 ▸ kept_push _ _ _
  have r1:Row h1 h.size (zrow #[.int .i64 0,.string ⟨#[]⟩] ((((s.n:Nat):Int)).toNat * 2)).toList:=e1 ▸ row_new h _ 40
  rw [Int.toNat_natCast] at r1 ⊢
  have fl:(ps.flatMap plC).length=min s.n s.n * 2:=by rw [flat_len plC_len,Nat.min_self,xn]
  refine ⟨ps.flatMap plC,by rw [← ea]; exact reads_keptN k1 x.rd,fl,?_⟩
  have fit:0 + 0 + (ps.flatMap plC).length ≤ (zrow #[.int .i64 0,.string ⟨#[]⟩] (s.n * 2)).toList.length:=by rw [zrow_size,fl,Nat.min_self]; omega
  have ha:(nb h).add 0=⟨h.size,0,none⟩:=rfl
  show stsOk h1 ((nb h).add 0) _ 0∧_
  rw [ha]
  refine ⟨stsOk_row _ _ _ 0 0 r1 fit (fun v hv=>?_),?_⟩
  ·obtain ⟨p,_,hp⟩:=List.mem_flatMap.1 hv
   simp only [plC,List.mem_cons,List.not_mem_nil,or_false] at hp
   rcases hp with rfl | rfl <;> rfl
  ·have r2:=row_setcs (ps.flatMap plC) h1 _ 0 0 r1 fit
   have k2:Kept (fun i=>i=h.size) h1 (setcs h1 ⟨h.size,0,none⟩ (ps.flatMap plC) 0):=kept_setcs _ _ _ _ rfl
   generalize setcs h1 ⟨h.size,0,none⟩ (ps.flatMap plC) 0=h2 at r2 k2
   have eo:ovw (zrow #[.int .i64 0,.string ⟨#[]⟩] (s.n * 2)).toList (0 + 0) (ps.flatMap plC)=ps.flatMap plC:=by
    unfold ovw
    rw [List.drop_eq_nil_of_le (by rw [zrow_size,fl,Nat.min_self]; omega)]
    simp
   rw [eo] at r2
   refine hR ⟨some (ad h.size),s.n,s.n⟩ h2 ⟨row_reads r2,xn,Nat.le_refl _⟩ (fun p hp _=>?_) (kept_fresh k1 k2 fun i e=>by omega)
   obtain rfl:=Option.some.inj hp
   exact ⟨Nat.le_refl _,row_lt r2⟩
/-! ### They agree -/
end
end Go.Ev
set_option linter.all false
set_option maxRecDepth 1000000
namespace Go.Ev
open Go.Proofs
structure Sd where
 sb:Nat
 W:WP
 D:DP
def Sd.foot (S:Sd) (b:Nat):Prop:=b=S.sb ∨ S.W.foot b ∨ S.D.foot b
structure SPre (h:Hp) (S:Sd):Prop where
 row:Row h S.sb [.pointer (some (ad S.W.wb)),.pointer (some (ad S.D.db))]
 w:WRep h S.W
 d:DRep h S.D
 wd:∀ b,S.W.foot b→¬ S.D.foot b
 sw:¬ S.W.foot S.sb
 sd:¬ S.D.foot S.sb
structure SRep (h:Hp) (S:Sd):Prop where
 p:SPre h S
 ag:S.W.ws.map (·.w)=S.D.ds.map (·.w)
def STr (h:Hp) (S:Sd) (h':Hp) (S':Sd):Prop:=Kept S.foot h h'∧∀ b,S'.foot b→S.foot b ∨ h.size ≤ b
section
variable {h h' h1 h2:Hp} {S S' S2:Sd} {W':WP} {D':DP} {R:Value→Hp→Prop}
theorem STr.refl (h:Hp) (S:Sd):STr h S h S:=⟨Kept.refl _ _,fun _=>.inl⟩
theorem STr.trans (a:STr h S h' S') (b:STr h' S' h2 S2):STr h S h2 S2 :=
 ⟨⟨Nat.le_trans a.1.1 b.1.1,fun i hi hn=>(b.1.2 i (Nat.lt_of_lt_of_le hi a.1.1) fun o=>(a.2 i o).elim hn fun h=>by omega).trans (a.1.2 i hi hn)⟩,
  fun i o=>(b.2 i o).elim (a.2 i) fun h=>.inr (Nat.le_trans a.1.1 h)⟩
theorem STr.keepN (k:Kept N h h'):STr h S h' S:=⟨k.mono fun _ _ e=>e.elim,fun _=>.inl⟩
theorem SPre.lt (x:SPre h S) {b:Nat} (hb:S.foot b):b < h.size:=by
 rcases hb with e | e | e
 ·rw [e]; exact row_lt x.row
 ·exact x.w.m.foot_lt e
 ·exact x.d.foot_lt e
theorem SPre.keep {Q:Nat→Prop} (x:SPre h S) (k:Kept Q h h') (hQ:∀ b,S.foot b→¬ Q b):SPre h' S :=
 ⟨kept_row k x.row (hQ _ (.inl rfl)),x.w.keep k fun b hb=>hQ b (.inr (.inl hb)),x.d.keep k fun b hb=>hQ b (.inr (.inr hb)),x.wd,x.sw,x.sd⟩
theorem SPre.keepN (x:SPre h S) (k:Kept N h h'):SPre h' S:=x.keep k fun _ _=>_root_.id
theorem SPre.c0 (x:SPre h S):cell h (ad S.sb)=some (.pointer (some (ad S.W.wb))):=cell_row x.row 0
theorem SPre.c1 (x:SPre h S):cell h ((ad S.sb).add 1)=some (.pointer (some (ad S.D.db))):=by rw [add_ad]; exact cell_row x.row 1
theorem SPre.prog (x:SPre h S) (w:WRep h' W') (e:W'.wb=S.W.wb) (t:WTr h S.W h' W'):SPre h' { S with W:=W' }∧STr h S h' { S with W:=W' }:=by
 refine ⟨⟨by show Row h' S.sb [.pointer (some (ad W'.wb)),_]; rw [e]; exact kept_row t.1 x.row x.sw,w,x.d.keep t.1 fun b hb hw=>x.wd b hw hb,fun b hb hd=>?_,fun hb=>?_,x.sd⟩,t.1.mono fun b _ hb=>.inr (.inl hb),fun b hb=>?_⟩
 ·rcases t.2 b hb with hb | hb
  ·exact x.wd b hb hd
  ·have:=x.d.foot_lt hd; omega
 ·rcases t.2 _ hb with hb | hb
  ·exact x.sw hb
  ·have:=x.lt (.inl rfl); have hb:h.size ≤ S.sb:=hb; omega
 ·rcases hb with hb | hb | hb
  ·exact .inl (.inl hb)
  ·exact (t.2 b hb).imp_left fun z=>.inr (.inl z)
  ·exact .inl (.inr (.inr hb))
end
end Go.Ev
set_option linter.all false
set_option maxRecDepth 1000000
namespace Go.Ev
open Go.Proofs
section
variable {h h' h1 h2:Hp} {S S' S2:Sd} {R:Value→Hp→Prop}
def kP:Plc:=(1,⟨#[107]⟩)
theorem kept_foot {W W':WP} {g g':Hp} (k:Kept N h g) (hf:∀ b,W.foot b→h.size ≤ b) (t:WTr g W g' W'):Kept N h g'∧∀ b,W'.foot b→h.size ≤ b :=
 ⟨kept_fresh k t.1 hf,fun b hb=>(t.2 b hb).elim (hf b) fun z=>Nat.le_trans k.1 z⟩
theorem wakes_ok (hR:∀ h',Kept N h h'→R (.bool true) h'):CallTo Try.prog 11 #[] h R:=by
 refine f11F_ok ?_
 unfold f11F
 refine wnew_ok fun h1 W w hws htu hf k1=>⟨_,rfl,Cond_f rfl (Let_mk fun h2 e2=>?_)⟩
 have k2:Kept N h1 h2:=e2 ▸ kept_push _ _ _
 have r2:Row h2 h1.size (plC kP):=e2 ▸ row_new h1 _ 40
 have n1:nb h1=ad h1.size:=rfl
 have w2:=w.keepN k2
 have fn:W.find 3=none:=by unfold WP.find; rw [hws]; rfl
 have E0:blockE (W.find 3).isSome 3 2 [kP] 0=0:=by rw [fn]; kernel_rfl
 rw [n1]
 refine wblock_ok w2 (a:=⟨some (ad h1.size),1,1⟩) (ps:=[kP]) ⟨row_reads r2,rfl,Nat.le_refl _⟩ (fun p hp _=>?_) (by rw [htu]; decide) (Int.le_refl 0) (fun h3 z _=>absurd E0 z) fun _ h3 W3 y w3 hwb hws3 hy hturn t3=>⟨0,rfl,?_⟩
 ·obtain rfl:=Option.some.inj hp
  exact ⟨fun hb=>by have:=w.m.foot_lt hb; exact Nat.lt_irrefl _ this,row_lt r2⟩
 obtain ⟨k3,hf3⟩:=kept_foot (k1.trans k2) hf t3
 have ws3:W3.ws=[y]:=by rw [hws3,hws]; rfl
 have cy:∀ l,connsOf W3.ws kP l=if l=2 then [3] else []:=fun l=>by
  rw [ws3]
  unfold connsOf
  rw [List.filter_cons,hy]
  by_cases e:l=2
  ·subst e
   have:wants ⟨3,2,[kP],0⟩ kP 2=true:=by unfold wants; simp
   rw [if_pos rfl,if_pos this]
   show [y.w.conn]=[3]
   rw [hy]
  ·rw [if_neg e]
   have:wants ⟨3,2,[kP],0⟩ kP l=false:=by
    unfold wants
    rw [decide_eq_false fun z=>e z.symm,Bool.false_and]
   rw [this]
   rfl
 rw [← hwb]
 refine wnext_ok (p:=kP) w3 fun h4 k4=>?_
 rw [cy 2,if_pos rfl]
 refine ⟨3,true,rfl,wnext_ok (p:=kP) (w3.keepN k4) fun h5 k5=>?_⟩
 rw [cy 5,if_neg (by decide)]
 refine ⟨0,false,rfl,Let_mk fun h6 e6=>?_⟩
 have k6:Kept N h5 h6:=e6 ▸ kept_push _ _ _
 have r6:Row h6 h5.size (plC kP):=e6 ▸ row_new h5 _ 40
 have n5:nb h5=ad h5.size:=rfl
 have w5:=(w3.keepN k4).keepN k5
 have w6:=w5.keepN k6
 have f3:(W3.find 3).isSome=true:=by
  unfold WP.find
  rw [ws3,List.find?_cons,hy]
  rfl
 have E1:blockE (W3.find 3).isSome 3 2 [kP] 0=181:=by rw [f3]; kernel_rfl
 have k36:=((k3.trans k4).trans k5).trans k6
 rw [n5]
 refine wblock_ok w6 (a:=⟨some (ad h5.size),1,1⟩) (ps:=[kP]) ⟨row_reads r6,rfl,Nat.le_refl _⟩ (fun p hp _=>?_) (by rw [hturn,htu]; decide) (Int.le_refl 0) (fun h7 z k7=>⟨_,rfl,?_⟩) fun z=>?_
 ·obtain rfl:=Option.some.inj hp
  exact ⟨fun hb=>by have:=w5.m.foot_lt hb; exact Nat.lt_irrefl _ this,row_lt r6⟩
 ·rw [E1]
  exact hR h7 (k36.trans k7)
 ·rw [E1] at z; exact absurd z (by decide)
/-! ### The sides of a script -/
structure Stg (h:Hp) (base:Nat) (s:Sl) (ob:Option Nat) (ss:List Sd):Prop where
 sl:SlAt 1 h s.a s.n s.c ob (ss.map fun S=>.pointer (some (ad S.sb)))
 rep:∀ S ∈ ss,SRep h S
 dis:∀ (i j:Nat) (S T:Sd),i ≠ j→ss[i]?=some S→ss[j]?=some T→∀ b,S.foot b→¬ T.foot b
 od:∀ S ∈ ss,∀ b,ob=some b→¬ S.foot b
 lo:∀ S ∈ ss,∀ b,S.foot b→base ≤ b
 lob:∀ b,ob=some b→base ≤ b
theorem SRep.keep {Q:Nat→Prop} (x:SRep h S) (k:Kept Q h h') (hQ:∀ b,S.foot b→¬ Q b):SRep h' S:=⟨x.p.keep k hQ,x.ag⟩
theorem Stg.keepN {base:Nat} {s:Sl} {ob:Option Nat} {ss:List Sd} (x:Stg h base s ob ss) (k:Kept N h h'):Stg h' base s ob ss :=
 ⟨x.sl.keep fun b hb=>k.2 b (by obtain ⟨_,_,j,r,_⟩:=x.sl.row b hb; exact row_lt r) _root_.id,fun S hS=>(x.rep S hS).keep k fun _ _=>_root_.id,x.dis,x.od,x.lo,x.lob⟩
theorem Stg.step {base:Nat} {s:Sl} {ob:Option Nat} {ss:List Sd} (x:Stg h base s ob ss) {j:Nat} (hj:ss[j]?=some S) (r:SRep h' S') (t:STr h S h' S') (e:S'.sb=S.sb) (hb:base ≤ h.size):Stg h' base s ob (ss.set j S'):=by
 have hS:=List.mem_of_getElem? hj
 have mm:∀ T ∈ ss.set j S',T=S' ∨ ∃ i,i ≠ j∧ss[i]?=some T:=fun T hT=>(mem_set_iff hj).1 hT
 have em:(ss.set j S').map (fun S=>Value.pointer (some (ad S.sb)))=ss.map fun S=>.pointer (some (ad S.sb)):=by
  apply List.ext_getElem?
  intro i
  rw [List.getElem?_map,List.getElem?_map,List.getElem?_set]
  by_cases ei:j=i
  ·subst ei
   rw [if_pos rfl,if_pos (List.getElem?_eq_some_iff.1 hj).1,hj]
   show some (Value.pointer (some (ad S'.sb)))=some (.pointer (some (ad S.sb)))
   rw [e]
  ·rw [if_neg ei]
 have lts:∀ T ∈ ss,∀ b,T.foot b→b < h.size:=fun T hT b hb=>(x.rep T hT).p.lt hb
 have obl:∀ b,ob=some b→b < h.size:=fun b hb=>by obtain ⟨_,_,j,r,_⟩:=x.sl.row b hb; exact row_lt r
 refine ⟨by rw [em]; exact x.sl.keep fun b hb=>t.1.2 b (obl b hb) (x.od S hS b hb),fun T hT=>?_,fun i k A B hik hA hB b hb1 hb2=>?_,fun T hT b hb1 hb2=>?_,fun T hT b hb1=>?_,x.lob⟩
 ·rcases mm T hT with rfl | ⟨i,hne,hi⟩
  ·exact r
  ·exact (x.rep T (List.mem_of_getElem? hi)).keep t.1 fun b hb=>x.dis i j T S hne hi hj b hb
 ·rw [List.getElem?_set] at hA hB
  by_cases e1:j=i
  ·subst e1
   rw [if_pos rfl,if_pos (List.getElem?_eq_some_iff.1 hj).1] at hA
   obtain rfl:=Option.some.inj hA
   rw [if_neg hik] at hB
   rcases t.2 b hb1 with z | z
   ·exact x.dis j k S B hik hj hB b z hb2
   ·have:=lts B (List.mem_of_getElem? hB) b hb2; omega
  ·rw [if_neg e1] at hA
   by_cases e2:j=k
   ·subst e2
    rw [if_pos rfl,if_pos (List.getElem?_eq_some_iff.1 hj).1] at hB
    obtain rfl:=Option.some.inj hB
    rcases t.2 b hb2 with z | z
    ·exact x.dis i j A S hik hA hj b hb1 z
    ·have:=lts A (List.mem_of_getElem? hA) b hb1; omega
   ·rw [if_neg e2] at hB
    exact x.dis i k A B hik hA hB b hb1 hb2
 ·rcases mm T hT with rfl | ⟨i,hne,hi⟩
  ·rcases t.2 b hb2 with z | z
   ·exact x.od S hS b hb1 z
   ·have:=obl b hb1; omega
  ·exact x.od T (List.mem_of_getElem? hi) b hb1 hb2
 ·rcases mm T hT with rfl | ⟨i,hne,hi⟩
  ·rcases t.2 b hb1 with z | z
   ·exact x.lo S hS b z
   ·omega
  ·exact x.lo T (List.mem_of_getElem? hi) b hb1
/-- The script, as it lies. -/
structure Scr (h:Hp) (a:Sl) (os:List Opw):Prop where
 rd:ReadsO h a.a (os.flatMap Opw.cells)
 n:a.n=os.length
 lt:os.length < 2 ^ 62
 ok:∀ o ∈ os,OpwOk h o
 blk:∀ p,a.a=some p→os ≠ []→p.block < h.size
theorem OpwOk.kept {o:Opw} (x:OpwOk h o) (k:Kept N h h'):OpwOk h' o:=⟨x.pl.keepN k,x.len,fun p hp hne=>Nat.lt_of_lt_of_le (x.blk p hp hne) k.1,x.tm⟩
theorem Scr.kept {a:Sl} {os:List Opw} (x:Scr h a os) (k:Kept N h h'):Scr h' a os:=⟨reads_keptN k x.rd,x.n,x.lt,fun o ho=>(x.ok o ho).kept k,fun p hp hne=>Nat.lt_of_lt_of_le (x.blk p hp hne) k.1⟩
end
end Go.Ev
set_option linter.all false
set_option maxRecDepth 100000
namespace Go.Proofs.Ytfilpdcphgmhgaa
open Go.ChangeShapes Go.WideShapes Go.ChangeAt Go.RowKit
open Go.Ev (ReadsO iv slV I64 Sl Plc PlIn Opw OpwOk Scr plC)
theorem own:ownKnob Try.prog.godebug=none:=by kernel_rfl
theorem c3:Try.prog.cellsOf 3=1:=by kernel_rfl
theorem c9:Try.prog.cellsOf 9=1:=by kernel_rfl
theorem c28:Try.prog.cellsOf 28=1:=by kernel_rfl
theorem c29:Try.prog.cellsOf 29=1:=by kernel_rfl
theorem c40:Try.prog.cellsOf 40=2:=by kernel_rfl
theorem b40:Try.prog.bytesOf 40=24:=by kernel_rfl
theorem kids:Kids Try.prog (· < Try.prog.types.size):=kids_rows (by kernel_rfl) (by kernel_rfl)
theorem slices_some:∀ t e,t < Try.prog.types.size→Try.prog.underlying t=some (.slice e)→0 < Try.prog.cellsOf e:=by
 have h:(List.range Try.prog.types.size).all (fun t=>match Try.prog.underlying t with | some (.slice e)=>decide (0 < Try.prog.cellsOf e) | _=>true)=true:=by kernel_rfl
 intro t e ht hu
 have:=List.all_eq_true.1 h t (List.mem_range.2 ht)
 rw [hu] at this
 exact of_decide_eq_true this
section
variable {H:Type} {enc:TypeId × Value→H} {W:World}
theorem weightsAll_mem {P:Program} {e:TypeId}:∀ {ds:List (DataW H)} {d:DataW H},d ∈ ds→∀ n ∈ d.weights P e,n ∈ DataW.weightsAll P e ds
 | d0 :: ds,d,hd,n,hn=>by
  rw [DataW.weightsAll,List.mem_append]
  rcases List.mem_cons.1 hd with rfl | hd
  ·exact .inl hn
  ·exact .inr (weightsAll_mem hd n hn)
theorem block_lt {p:Addr} {v:Value} (h:Go.Ev.cell W.heap p=some v):p.block < W.heap.size:=by
 unfold Go.Ev.cell at h
 exact Nat.lt_of_not_le fun hl=>by
  rw [Array.getElem?_eq_none hl] at h
  cases h
theorem place_of {n:Nat} {cs:List Value} {x:DataW H × List MemPlace} (h:DataW.trod enc Try.prog W 0 (fun _=>true) true n 40 cs=some x):∃ p:Plc,cs=plC p:=by
 obtain ⟨xs,n,_,rfl,hl,hn,hel⟩:=DataW.trod_struct Try.underlying40 h
 rw [c40] at hl
 have e0:DataW.trod enc Try.prog W 0 (fun _=>true) true n 3 ((cs.drop 0).take (Try.prog.cellsOf 3))=xs[0]?:=hel 0 _ rfl
 have e1:DataW.trod enc Try.prog W 0 (fun _=>true) true n 9 ((cs.drop 1).take (Try.prog.cellsOf 9))=xs[1]?:=hel 1 _ rfl
 rw [c3] at e0
 rw [c9] at e1
 match xs,hn with
 | [x0,x1],_ =>
  match cs,hl with
  | [v0,v1],_ =>
   obtain ⟨n0,a0,_,_⟩:=DataW.trod_int Try.underlying3 (show DataW.trod enc Try.prog W 0 (fun _=>true) true n 3 [v0]=some x0 from e0)
   obtain ⟨s,a1,_,_⟩:=DataW.trod_string Try.underlying9 (show DataW.trod enc Try.prog W 0 (fun _=>true) true n 9 [v1]=some x1 from e1)
   simp only [List.cons.injEq,and_true] at a0 a1
   exact ⟨(n0,s),by rw [a0,a1]; rfl⟩
theorem places_of {n:Nat} {v:Value} {x:DataW H × List MemPlace} (h:DataW.trod enc Try.prog W 0 (fun _=>true) true n 28 [v]=some x) (hw:∀ m ∈ x.1.weights Try.prog 28,m ≤ reachBytes) :
  ∃ (d:Sl) (ps:List Plc),v=slV d∧PlIn W.heap d ps∧ps.length < 11000000000000∧∀ p,d.a=some p→ps ≠ []→p.block < W.heap.size:=by
 rcases DataW.trod_slice Try.underlying28 h with ⟨hc,rfl⟩ | ⟨a,len,cap,elems,rest,k,_,hc,rfl,_,hlc,_,hlen,hel3,_,_⟩
 ·exact ⟨⟨none,0,0⟩,[],(List.cons.inj hc).1,⟨rfl,rfl,Nat.le_refl _⟩,by decide,fun _ _ z=>absurd rfl z⟩
 ·rw [c40] at hel3
  have hw1:=hw ((elems.length + rest.length) * Try.prog.bytesOf 40) (by
   simp only [DataW.weights,Try.underlying28,List.mem_cons]
   exact .inl (by rw [List.length_map,List.length_map]))
  rw [b40] at hw1
  have hr:=reachBytes_lt
  have each:∀ i,i < len→∃ p:Plc,∀ j v,(plC p)[j]?=some v→Go.Ev.cell W.heap (a.add (i * 2 + j))=some v:=fun i hi=>by
   have h1:=hel3 i hi
   have hi2:i < elems.length:=by omega
   rw [List.getElem?_eq_getElem hi2] at h1
   obtain ⟨cs1,hc1,hd⟩:=Option.bind_eq_some_iff.1 h1
   obtain ⟨_,hcl,hcc⟩:=World.cells?_some hc1
   obtain ⟨p,hp⟩:=place_of hd
   refine ⟨p,fun j v hj=>?_⟩
   have hjl:j < 2:=(List.getElem?_eq_some_iff.1 hj).1
   have h3:Go.Ev.cell W.heap ((a.add (i * 2)).add j)=cs1[j]?:=hcc j hjl
   rw [← Go.Ev.add_add,h3,hp,hj]
  obtain ⟨f,hf⟩:∃ f:Nat→Plc,∀ i,i < len→∀ j v,(plC (f i))[j]?=some v→Go.Ev.cell W.heap (a.add (i * 2 + j))=some v :=
   ⟨fun i=>if hi:i < len then (each i hi).choose else (0,⟨#[]⟩),fun i hi=>by dsimp only; rw [dif_pos hi]; exact (each i hi).choose_spec⟩
  refine ⟨⟨some a,len,cap⟩,(List.range len).map f,(List.cons.inj hc).1,⟨?_,by simp,hlc⟩,by rw [List.length_map,List.length_range]; omega,fun p hp hne=>?_⟩
  ·intro j v hj
   have hjl:j < len * 2:=by
    have:=(List.getElem?_eq_some_iff.1 hj).1
    rw [Go.Ev.flat_len (sz:=2) (fun _=>rfl)] at this
    simpa using this
   have hd:j=j / 2 * 2 + j % 2:=by omega
   have hi:j / 2 < len:=by omega
   have h4:=Go.Ev.flat_at (sz:=2) (f:=plC) (fun _=>rfl) ((List.range len).map f) (j / 2) (j % 2) (f (j / 2)) (by rw [List.getElem?_map,List.getElem?_range hi]; rfl) (by omega)
   rw [← hd,hj] at h4
   have:=hf (j / 2) hi (j % 2) v h4.symm
   rwa [← hd] at this
  ·obtain rfl:=Option.some.inj hp
   have h0:0 < len:=Nat.pos_of_ne_zero fun e=>hne (by rw [e]; rfl)
   exact block_lt (hf 0 h0 0 _ rfl)
theorem kept_all {W W':World} (hs:Go.Ev.Same W W') (hk:Go.Ev.Kept Go.Ev.N W.heap W'.heap) (may:MemPlace→Prop):W.keptBut W' may:=by
 refine ⟨hs.1,hs.2.2,fun i hi=>?_⟩
 rw [hk.2 i hi id]
 cases h:W.heap[i]? with
 | none=>rfl
 | some o =>
  cases o <;> first | exact rfl | exact ⟨rfl,rfl,rfl,fun _ _=>rfl⟩ | exact .inr ⟨rfl,rfl⟩
theorem same_all {W W':World} (hk:Go.Ev.Kept Go.Ev.N W.heap W'.heap) {p:MemPlace} (hp:p.block < W.heap.size):W.sameAt W' p:=by
 cases p with
 | cell b off =>
  show Go.Ev.cell W'.heap ⟨b,off,none⟩=Go.Ev.cell W.heap ⟨b,off,none⟩
  unfold Go.Ev.cell
  rw [hk.2 b hp id]
 | map b=>exact hk.2 b hp id
end
end Go.Proofs.Ytfilpdcphgmhgaa
set_option linter.all false
set_option maxRecDepth 1000000
namespace Go.Ev
open Go.Proofs
structure AK where
 w:Wtr
 sl:Sl
def AK.val (x:AK):List Value:=[.int .i64 x.w.conn,.int .i64 x.w.kind,.slice x.sl.a x.sl.n x.sl.c,.int .u64 x.w.til]
theorem ak_len (x:AK):x.val.length=4:=rfl
/-- Who waits, and the book that says so. -/
structure FSt (h:Hp) (base:Nat) (W:WP) (s:Sl) (ob:Option Nat) (bs:List AK):Prop where
 w:WRep h W
 sl:SlAt 4 h s.a s.n s.c ob (bs.flatMap AK.val)
 en:∀ y ∈ bs,PlIn h y.sl y.w.pls∧∀ p,y.sl.a=some p→y.w.pls ≠ []→p.block < base
 ag:W.ws.map (·.w)=bs.map (·.w)
 lw:∀ b,W.foot b→base ≤ b
 lo:∀ b,ob=some b→base ≤ b
 ow:∀ b,ob=some b→¬ W.foot b
 bl:base ≤ h.size
section
variable {h h' h2:Hp} {base:Nat} {W W':WP} {s:Sl} {ob:Option Nat} {bs:List AK} {R:Value→Hp→Prop}
theorem FSt.keepN (x:FSt h base W s ob bs) (k:Kept N h h'):FSt h' base W s ob bs :=
 ⟨x.w.keepN k,x.sl.keep fun b hb=>k.2 b (by obtain ⟨_,_,j,r,_⟩:=x.sl.row b hb; exact row_lt r) _root_.id,fun y hy=>⟨(x.en y hy).1.keepN k,(x.en y hy).2⟩,x.ag,x.lw,x.lo,x.ow,Nat.le_trans x.bl k.1⟩
theorem FSt.n (x:FSt h base W s ob bs):s.n=bs.length:=by
 have:=x.sl.len
 rw [flat_len ak_len] at this
 omega
theorem FSt.len (x:FSt h base W s ob bs):bs.length=W.ws.length:=by
 have:=congrArg List.length x.ag
 rw [List.length_map,List.length_map] at this
 exact this.symm
theorem FSt.at_ (x:FSt h base W s ob bs) {i:Nat} {y:AK} (hy:bs[i]?=some y):∃ z,W.ws[i]?=some z∧z.w=y.w:=by
 have:(W.ws.map (·.w))[i]?=some y.w:=by rw [x.ag,List.getElem?_map,hy]; rfl
 rw [List.getElem?_map] at this
 exact Option.map_eq_some_iff.1 this
theorem FSt.read (x:FSt h base W s ob bs) {j:Nat} {y:AK} (hj:bs[j]?=some y):∃ p,s.a=some p∧cell h (p.add (j * 4))=some (.int .i64 y.w.conn)∧cell h ((p.add (j * 4)).add 1)=some (.int .i64 y.w.kind)∧cell h ((p.add (j * 4)).add 2)=some (.slice y.sl.a y.sl.n y.sl.c)∧cell h ((p.add (j * 4)).add 3)=some (.int .u64 y.w.til):=by
 have rd:=x.sl.rd
 obtain ⟨p,hp,c0⟩:=readsO_get rd ((flat_at ak_len bs j 0 y hj (by omega)).trans rfl)
 have g:∀ (i:Nat) (v:Value),i < 4→y.val[i]?=some v→cell h ((p.add (j * 4)).add i)=some v:=fun i v hi hv=>by
  obtain ⟨p',hp',c⟩:=readsO_get rd ((flat_at ak_len bs j i y hj hi).trans hv)
  rw [hp] at hp'
  obtain rfl:=Option.some.inj hp'
  rw [add_add]; exact c
 exact ⟨p,hp,c0,g 1 _ (by omega) rfl,g 2 _ (by omega) rfl,g 3 _ (by omega) rfl⟩
theorem reads_pre {a:Option Addr} {l1 l2:List Value} (r:ReadsO h a (l1 ++ l2)):ReadsO h a l1:=by
 cases a with
 | none=>exact (List.append_eq_nil_iff.1 (show l1 ++ l2=[] from r)).1
 | some p=>intro j v hj; exact r j v (by rw [List.getElem?_append_left (List.getElem?_eq_some_iff.1 hj).1]; exact hj)
theorem gone_ok {a:Sl} {l:List AK} (sa:SlAt 4 h a.a a.n a.c ob (l.flatMap AK.val)) {i:Nat} (hi:i < l.length) (hl:l.length ≤ 8)
  (hR:∀ h' (s':Sl) ob',SlAt 4 h' s'.a s'.n s'.c ob' ((l.eraseIdx i).flatMap AK.val)→(∀ b,ob'=some b→h.size ≤ b)→Kept N h h'→R (.slice s'.a s'.n s'.c) h') :
  CallTo Try.prog 42 #[.slice a.a a.n a.c,.int .i64 (i:Nat)] h R:=by
 refine f42F_ok (a0:=a) ?_
 unfold f42F
 have an:a.n=l.length:=by have:=sa.len; rw [flat_len ak_len] at this; omega
 have ac:a.n ≤ a.c:=by
  cases e:ob with
  | none=>obtain ⟨_,h2,h3⟩:=sa.nil e; omega
  | some b=>exact (sa.row b e).2.1
 have cellv:∀ (m:List AK),∀ v ∈ m.flatMap AK.val,isCell v=true:=fun m v hv=>by
  obtain ⟨y,_,hy⟩:=List.mem_flatMap.1 hv
  unfold AK.val at hy
  simp only [List.mem_cons,List.not_mem_nil,or_false] at hy
  rcases hy with rfl | rfl | rfl | rfl <;> rfl
 have nxt:IntKind.wrap .i64 ((i:Int) + 1)=((i + 1:Nat):Int):=nxt8 (by omega)
 have z0:(0:Int).toNat=0:=rfl
 rw [nxt]
 simp only [Int.toNat_natCast]
 have e12:l.flatMap AK.val=(l.take i).flatMap AK.val ++ (l.drop i).flatMap AK.val:=by rw [← List.flatMap_append,List.take_append_drop]
 have rd1:ReadsO h (if a.c=(0:Int).toNat then a.a else Option.map (fun x=>x.add ((0:Int).toNat * 4)) a.a) ((l.take i).flatMap AK.val):=reads_sl0 (reads_pre (by rw [← e12]; exact sa.rd))
 refine ⟨⟨by omega,by omega⟩,⟨by omega,by omega⟩,(l.take i).flatMap AK.val,rd1,by rw [flat_len ak_len,List.length_take,z0]; congr 1; omega,appT_ok2 (m:=i - (0:Int).toNat) (slAt_nil 4 h) rfl (by rw [flat_len ak_len,List.length_take,z0]; congr 1; omega) (cellv _) (by rw [z0]; omega) (by rw [z0]; omega) fun a1 c1 ob1 h1 sa1 hx=>?_⟩
 have hob1:(∀ b,ob1=some b→h.size ≤ b)∧Kept N h h1:=by
  rcases hx with ⟨e,k⟩ | ⟨e,k⟩
  ·exact ⟨fun b hb=>by rw [e] at hb; (cases hb),k.mono fun _ _ z=>by cases z⟩
  ·exact ⟨fun b hb=>by rw [e] at hb; obtain rfl:=Option.some.inj hb; exact Nat.le_refl _,k⟩
 obtain ⟨lo1,k1⟩:=hob1
 rw [List.nil_append] at sa1
 have rd2:ReadsO h1 (if a.c=i + 1 then a.a else Option.map (fun x=>x.add ((i + 1) * 4)) a.a) ((l.drop (i + 1)).flatMap AK.val):=by
  by_cases ei:a.c=i + 1
  ·rw [if_pos ei]
   have:l.drop (i + 1)=[]:=List.drop_of_length_le (by omega)
   rw [this]
   cases a.a with
   | none=>exact rfl
   | some p=>intro j v hj; simp at hj
  ·rw [if_neg ei]
   have e3:l.flatMap AK.val=(l.take (i + 1)).flatMap AK.val ++ (l.drop (i + 1)).flatMap AK.val:=by rw [← List.flatMap_append,List.take_append_drop]
   have r:=reads_keptN k1 sa.rd
   rw [e3] at r
   have tl:((l.take (i + 1)).flatMap AK.val).length=(i + 1) * 4:=by rw [flat_len ak_len,List.length_take]; congr 1; omega
   cases ea:a.a with
   | none =>
    rw [ea] at r
    exact (List.append_eq_nil_iff.1 (show _ ++ _=[] from r)).2
   | some p =>
    rw [ea] at r
    intro j v hj
    show cell h1 ((p.add ((i + 1) * 4)).add j)=some v
    rw [add_add]
    refine r ((i + 1) * 4 + j) v ?_
    rw [List.getElem?_append_right (by omega),tl,Nat.add_sub_cancel_left]
    exact hj
 refine ⟨⟨by omega,by omega⟩,(l.drop (i + 1)).flatMap AK.val,rd2,by rw [flat_len ak_len,List.length_drop,an],appT_ok2 (m:=a.n - (i + 1)) sa1 rfl (by rw [flat_len ak_len,List.length_drop,an]) (cellv _) (by rw [z0]; omega) (by rw [z0]; omega) fun a2 c2 ob2 h2 sa2 hx2=>?_⟩
 have k12:Kept (fun b=>ob1=some b) h1 h2:=hx2.elim (fun z=>z.2) fun z=>z.2.mono fun _ _ f=>f.elim
 refine hR h2 ⟨a2,_,c2⟩ ob2 ?_ (fun b hb=>?_) (kept_fresh k1 k12 lo1)
 ·rw [List.eraseIdx_eq_take_drop_succ,List.flatMap_append]
  exact sa2
 ·rcases hx2 with ⟨e,_⟩ | ⟨e,_⟩
  ·exact lo1 b (e ▸ hb)
  ·rw [e] at hb
   obtain rfl:=Option.some.inj hb
   exact k1.1
theorem wants_ok {c k t k':Int} {a:Sl} {p:Plc} {ps:List Plc} (x:PlIn h a ps) (hl:ps.length ≤ 64) (hR:∀ h',Kept N h h'→R (.bool (wants ⟨c,k,ps,t⟩ p k')) h') :
  CallTo Try.prog 41 #[.agg #[.int .i64 c,.int .i64 k,.slice a.a a.n a.c,.int .u64 t],.agg #[.int .i64 p.1,.string p.2],.int .i64 k'] h R:=by
 refine f41F_ok (a0_2:=a) ?_
 unfold f41F
 refine Let_mk fun h1 e1=>Let_mk fun h2 e2=>?_
 have k1:Kept N h h1:=e1 ▸ kept_push _ _ _
 have k2:Kept N h1 h2:=e2 ▸ kept_push _ _ _
 have r1:Row h1 h.size [.int .i64 c,.int .i64 k,.slice a.a a.n a.c,.int .u64 t]:=e1 ▸ row_new h _ 57
 have r12:=kept_row k2 r1 _root_.id
 have r2:Row h2 h1.size (plC p):=e2 ▸ row_new h1 _ 40
 have x2:=(x.keepN k1).keepN k2
 have n1:nb h=ad h.size:=rfl
 have n2:nb h1=ad h1.size:=rfl
 have c1:cell h2 ((ad h.size).add 1)=some (.int .i64 k):=by rw [add_ad]; exact (cell_row r12 1).trans rfl
 have c2:cell h2 ((ad h.size).add 2)=some (.slice a.a a.n a.c):=by rw [add_ad]; exact (cell_row r12 2).trans rfl
 have d0:cell h2 (ad h1.size)=some (.int .i64 p.1):=(cell_row r2 0).trans rfl
 have d1:cell h2 ((ad h1.size).add 1)=some (.string p.2):=by rw [add_ad]; exact (cell_row r2 1).trans rfl
 rw [n1,n2]
 have xn:=x.n
 have hR:=hR h2 (k1.trans k2)
 unfold wants at hR
 refine f41L1_rule (fun m s2 s3 s4 s7 h'=>∃ i:Nat,i ≤ ps.length∧m=ps.length - i∧k'=s2∧s3=ad h.size∧s4=ad h1.size∧s7=(i:Int)∧(k=k'→∀ q ∈ ps.take i,q ≠ p)∧h2=h') ps.length ⟨0,Nat.zero_le _,rfl,rfl,rfl,rfl,rfl,fun _=>nofun,rfl⟩ ?_
 rintro m s2 s3 s4 s7 g h3 ⟨i,hi,rfl,rfl,rfl,rfl,rfl,hb,rfl⟩
 unfold f41L1
 refine ⟨_,c2,Cond_dec (fun hlt=>⟨_,c1,?_⟩) fun hge=>?_⟩
 ·obtain ⟨q,hq⟩:∃ q,ps[i]?=some q:=⟨_,List.getElem?_eq_getElem (by omega)⟩
  obtain ⟨pa,ea,g0,g1⟩:=pl_read x2.rd hq
  rw [Int.toNat_natCast]
  have go:(k=k'→q ≠ p)→∃ m,m < ps.length - i∧∃ i':Nat,i' ≤ ps.length∧m=ps.length - i'∧k'=k'∧ad h.size=ad h.size∧ad h1.size=ad h1.size∧IntKind.wrap .i64 ((i:Int) + 1)=(i':Int)∧(k=k'→∀ q ∈ ps.take i',q ≠ p)∧h2=h2:=fun hne=>⟨ps.length - (i + 1),by omega,i + 1,by omega,rfl,rfl,rfl,rfl,nxt8 (by omega),fun ek r hr=>by
   rw [List.take_add_one,hq,List.mem_append] at hr
   rcases hr with hr | hr
   ·exact hb ek r hr
   ·have hr:r=q:=by simpa using hr
    rw [hr]; exact hne ek,rfl⟩
  refine Cond_b (fun e=>⟨_,c2,⟨by omega,by omega⟩,PtrOk_of ea ⟨_,g0,_,d0,Cond_b (fun e2=>⟨_,c2,⟨by omega,by omega⟩,PtrOk_of ea ⟨_,g1,_,d1,?_⟩⟩) fun e2=>?_⟩⟩) fun e=>?_
  ·unfold f41K1
   rw [bl_eq]
   have e:k=k':=by simpa using e
   have e2:q.1=p.1:=by simpa using e2
   refine Cond_dec (fun e3=>?_) fun e3=>go fun _ z=>e3 (by rw [z])
   have:q=p:=Prod.ext e2 e3
   have e4:(ps.any fun q=>decide (q=p))=true:=List.any_eq_true.2 ⟨q,List.mem_of_getElem? hq,by simpa using this⟩
   rw [e4,decide_eq_true e] at hR
   exact hR
  ·unfold f41K1
   have e2:q.1 ≠ p.1:=by simpa using e2
   exact Cond_f rfl (go fun _ z=>e2 (by rw [z]))
  ·unfold f41K1
   have e:k ≠ k':=by simpa using e
   exact Cond_f rfl (go fun z=>absurd z e)
 ·have ei:i=ps.length:=by omega
  subst ei
  rw [List.take_length] at hb
  have:(decide (k=k') && ps.any fun q=>decide (q=p))=false:=by
   by_cases ek:k=k'
   ·rw [decide_eq_true ek,Bool.true_and,List.any_eq_false]
    intro q hq
    simpa using hb ek q hq
   ·rw [decide_eq_false ek,Bool.false_and]
  rw [← this]
  exact hR
theorem fst_find (x:FSt h base W s ob bs) {i:Nat} {y:AK} (hy:bs[i]?=some y):∃ z,W.find y.w.conn=some z∧z.w=y.w:=by
 obtain ⟨z,hz,e⟩:=x.at_ hy
 exact ⟨z,by rw [← e]; exact x.w.m.find_self (List.mem_of_getElem? hz),e⟩
theorem lined_ok (x:FSt h base W s ob bs) (hR:∀ h',Kept N h h'→R (.bool true) h'):CallTo Try.prog 22 #[.pointer (some (ad W.wb)),.slice s.a s.n s.c] h R:=by
 refine f22F_ok (a1:=s) ?_
 unfold f22F
 have xn:=x.n
 have xl:=x.len
 have wl:=wlen8 x.w.m
 refine wwaiting_ok x.w fun d c h1 il hfr k1=>⟨d,rfl,?_⟩
 have dn:d.n=bs.length:=by rw [il.n,List.length_map,xl]
 refine Cond_f (by rw [dn,xn]; exact bne_self_eq_false _) ?_
 refine f22L1_rule (s1:=s) (s5:=d) (fun m s0 s1 s5 s6 h'=>∃ i:Nat,i ≤ bs.length∧m=bs.length - i∧s0=some (ad W.wb)∧s=s1∧d=s5∧s6=(i:Int)∧Kept N h1 h') bs.length ⟨0,Nat.zero_le _,rfl,rfl,rfl,rfl,rfl,Kept.refl _ _⟩ ?_
 rintro m s0 s1 s5 s6 g h2 ⟨i,hi,rfl,rfl,rfl,rfl,rfl,k2⟩
 unfold f22L1
 have k02:=k1.trans k2
 have x2:=x.keepN k02
 have il2:=il.keep k2 fun _=>_root_.id
 refine Cond_dec (fun hlt=>⟨⟨by omega,by omega⟩,?_⟩) fun hge=>hR h2 k02
 obtain ⟨y,hy⟩:∃ y,bs[i]?=some y:=⟨_,List.getElem?_eq_getElem (by omega)⟩
 obtain ⟨z,hz,ez⟩:=x.at_ hy
 have hi':(W.ws.map (·.w.conn))[i]?=some y.w.conn:=by rw [List.getElem?_map,hz]; show some z.w.conn=_; rw [ez]
 have dr:∀ {g:Hp},Kept N h2 g→∃ q,d.a=some q∧cell g (q.add (i * 1))=some (.int .i64 y.w.conn):=fun k=>by
  have ilg:=il2.keep k fun _=>_root_.id
  obtain ⟨q,hq,cq⟩:=readsO_get (il_rd ilg) (show ((W.ws.map (·.w.conn)).map iv)[i]?=some (iv y.w.conn) by rw [List.getElem?_map,hi']; rfl)
  exact ⟨q,hq,by rw [Nat.mul_one]; exact cq⟩
 obtain ⟨q,hq,cq⟩:=dr (Kept.refl N h2)
 obtain ⟨p,hp,c0,c1,c2,c3⟩:=x2.read hy
 obtain ⟨zz,hf,ezz⟩:=fst_find x hy
 rw [Int.toNat_natCast]
 refine PtrOk_of hq ⟨_,cq,⟨by omega,by omega⟩,PtrOk_of hp ⟨_,c0,Cond_f (bne_self_eq_false _) ⟨⟨by omega,by omega⟩,PtrOk_of hq ⟨_,cq,wuntil_ok x2.w fun h3 k3=>⟨_,_,rfl,?_⟩⟩⟩⟩⟩
 rw [hf]
 have x3:=x2.keepN k3
 obtain ⟨p3,hp3,_,_,_,c33⟩:=x3.read hy
 refine Cond_f rfl ⟨⟨by omega,by omega⟩,PtrOk_of hp3 ⟨_,c33,Cond_f (by show (zz.w.til != y.w.til)=false; rw [ezz]; exact bne_self_eq_false _) ⟨⟨by omega,by omega⟩,?_⟩⟩⟩
 obtain ⟨q3,hq3,cq3⟩:=dr k3
 obtain ⟨p4,hp4,_,_,c42,_⟩:=x3.read hy
 refine PtrOk_of hq3 ⟨_,cq3,⟨by omega,by omega⟩,PtrOk_of hp4 ⟨_,c42,wplaces_ok x3.w fun s' b h4 po hfr4 k4=>⟨s',rfl,?_⟩⟩⟩
 have x4:=x3.keepN k4
 have epls:plsOf W y.w.conn=y.w.pls:=by unfold plsOf; rw [hf]; show zz.w.pls=_; rw [ezz]
 rw [epls] at po
 obtain ⟨p5,hp5,_,_,c52,_⟩:=x4.read hy
 have e45:p4=p5:=Option.some.inj (hp4.symm.trans hp5)
 subst e45
 have pl:=(x4.en y (List.mem_of_getElem? hy)).1
 have p1:=(x.w.m.pw zz (WP.find_some hf).1).p1
 rw [ezz] at p1
 refine ⟨⟨_,c52,rfl⟩,true,same_ok po.rd po.n pl.rd pl.n (by omega) ⟨by rw [decide_eq_true rfl],rfl⟩,?_⟩
 unfold f22K1
 exact Cond_f rfl ⟨bs.length - (i + 1),by omega,i + 1,by omega,rfl,rfl,rfl,rfl,nxt8 (by omega),(k2.trans k3).trans k4⟩
end
end Go.Ev
set_option linter.all false
set_option maxRecDepth 1000000
namespace Go.Ev
open Go.Proofs
section
variable {h h' h1 h2:Hp} {base:Nat} {W W' W1:WP} {s s':Sl} {ob ob':Option Nat} {bs:List AK} {R:Value→Hp→Prop}
theorem FSt.sl1 (x:FSt h base W s ob bs) (t:WTr h W h1 W1):SlAt 4 h1 s.a s.n s.c ob (bs.flatMap AK.val) :=
 x.sl.keep fun b hb=>t.1.2 b (by obtain ⟨_,_,j,r,_⟩:=x.sl.row b hb; exact row_lt r) (x.ow b hb)
theorem plin_base {g g':Hp} {S:Nat→Prop} {a:Sl} {ps:List Plc} (x:PlIn g a ps) (hb:∀ p,a.a=some p→ps ≠ []→p.block < base) (hg:base ≤ g.size) (k:Kept S g g') (hS:∀ b,S b→base ≤ b):PlIn g' a ps :=
 ⟨reads_kept2 k x.rd fun p hp hv=>(by
  have hne:ps ≠ []:=fun e=>hv (by rw [e]; rfl)
  have:=hb p hp hne
  exact ⟨by omega,fun hs=>by have:=hS _ hs; omega⟩),x.n,x.c⟩
theorem em_erase {α:Type} (l:List α) (f:α→Wtr) (i:Nat):(l.eraseIdx i).map f=(l.map f).eraseIdx i:=by
 rw [List.eraseIdx_eq_take_drop_succ,List.eraseIdx_eq_take_drop_succ,List.map_append,List.map_take,List.map_drop]
theorem FSt.cut (x:FSt h base W s ob bs) (w:WRep h1 W1) (t:WTr h W h1 W1) {i:Nat} (ews:W1.ws=W.ws.eraseIdx i) (sa:SlAt 4 h2 s'.a s'.n s'.c ob' ((bs.eraseIdx i).flatMap AK.val)) (lo:∀ b,ob'=some b→h1.size ≤ b) (k:Kept N h1 h2):FSt h2 base W1 s' ob' (bs.eraseIdx i):=by
 have q1:=t.1.1
 have bl:=x.bl
 refine ⟨w.keepN k,sa,fun y hy=>?_,by rw [ews,em_erase,em_erase,x.ag],fun b hb=>?_,fun b hb=>?_,fun b hb hf=>?_,?_⟩
 ·obtain ⟨p,q⟩:=x.en y ((List.eraseIdx_sublist bs i).subset hy)
  exact ⟨(plin_base p q bl t.1 x.lw).keepN k,q⟩
 ·rcases t.2 b hb with z | z
  ·exact x.lw b z
  ·omega
 ·have:=lo b hb; omega
 ·have:=lo b hb
  have:=w.m.foot_lt hf
  omega
 ·have:=k.1; omega
theorem fst_conns (x:FSt h base W s ob bs) (p:Plc) (k:Int):connsOf W.ws p k=(bs.filter fun y=>wants y.w p k).map (·.w.conn):=by
 have e:connsOf W.ws p k=((W.ws.map (·.w)).filter fun w=>wants w p k).map (·.conn):=by rw [List.filter_map,List.map_map]; rfl
 rw [e,x.ag,List.filter_map,List.map_map]
 rfl
/-- What a call may change: nothing that lay before the book and the Wait. -/
abbrev KB (base:Nat) (h h':Hp):Prop:=Kept (fun b=>base ≤ b) h h'
theorem KB.ofN (k:Kept N h h'):KB base h h':=k.mono fun _ _ z=>z.elim
theorem wrel_at (x:FSt h base W s ob bs) {i:Nat} {y:AK} (hy:bs[i]?=some y)
  (hR:∀ h' W',WRep h' W'→W'.wb=W.wb→W'.ws=W.ws.eraseIdx i→W'.turns=W.turns→WTr h W h' W'→R (.bool true) h'):CallTo Try.prog 16 #[.pointer (some (ad W.wb)),.int .i64 y.w.conn] h R:=by
 obtain ⟨z,hf,ez⟩:=fst_find x hy
 refine wrelease_ok x.w (fun hn=>by rw [hf] at hn; cases hn) fun y' j hs hj h' W' w e1 e2 e3 t=>?_
 obtain ⟨z',hz',ez'⟩:=x.at_ hy
 have hc:=(WP.find_some hs).2
 obtain rfl:j=i:=map_inj_at x.w.m.cn hj hz' (by rw [hc,ez'])
 exact hR h' W' w e1 e2 e3 t
theorem serve_ok (x:FSt h base W s ob bs) {p:Plc} {k n:Int}
  (hR:∀ h' W' (s':Sl) ob' bs',FSt h' base W' s' ob' bs'→W'.wb=W.wb→W'.turns=W.turns→KB base h h'→(n=1→(∃ y ∈ bs,wants y.w p k=true)→bs'.length + 1=bs.length)→R (.tuple #[.slice s'.a s'.n s'.c,.bool true]) h') :
  CallTo Try.prog 23 #[.pointer (some (ad W.wb)),.slice s.a s.n s.c,.agg #[.int .i64 p.1,.string p.2],.int .i64 k,.int .i64 n] h R:=by
 refine f23F_ok (a1:=s) ?_
 unfold f23F
 refine Let_mk fun h1 e1=>?_
 have k1:Kept N h h1:=e1 ▸ kept_push _ _ _
 have r1:Row h1 h.size (plC p):=e1 ▸ row_new h _ 40
 have n1:nb h=ad h.size:=rfl
 have hs1:h.size < h1.size:=row_lt r1
 have bl:=x.bl
 rw [n1]
 refine f23L1_rule (s1:=s) (fun m s0 s1 s3 s4 s7 s12 h'=>∃ (t:Nat) (W':WP) (ob':Option Nat) (bs':List AK),m=20 - t∧t ≤ 20∧s0=some (ad W'.wb)∧k=s3∧n=s4∧s7=ad h.size∧s12=(t:Int)∧FSt h' base W' s1 ob' bs'∧W'.wb=W.wb∧W'.turns=W.turns∧Row h' h.size (plC p)∧bs'.length + t=bs.length∧(t=0→bs'=bs)∧((t:Int) ≤ n ∨ t=0)∧KB base h h'∧(∀ b,W'.foot b ∨ ob'=some b→b ≠ h.size)) 20
  ⟨0,W,ob,bs,rfl,Nat.zero_le _,rfl,rfl,rfl,rfl,rfl,x.keepN k1,rfl,rfl,r1,rfl,fun _=>rfl,.inr rfl,KB.ofN k1,fun b hb e=>by
   have:b < h.size:=hb.elim (fun z=>x.w.m.foot_lt z) fun z=>by obtain ⟨_,_,j,r,_⟩:=x.sl.row b z; exact row_lt r
   omega⟩ ?_
 rintro m s0 s1 s3 s4 s7 s12 g h2 ⟨t,W2,ob2,bs2,rfl,ht,rfl,rfl,rfl,rfl,rfl,x2,wb2,tu2,r2,hlen,h0,htn,k2,far⟩
 unfold f23L1
 refine Cond_dec (fun hlt=>?_) fun hge=>?_
 case refine_2 =>
  unfold f23K1
  refine Cond_f rfl (hR h2 W2 s1 ob2 bs2 x2 wb2 tu2 k2 fun en _=>?_)
  omega
 unfold f23K1
 refine Cond_dec (fun hlt20=>?_) fun hge20=>hR h2 W2 s1 ob2 bs2 x2 wb2 tu2 k2 fun en _=>by omega
 have d0:∀ {g:Hp},Row g h.size (plC p)→cell g (ad h.size)=some (.int .i64 p.1)∧cell g ((ad h.size).add 1)=some (.string p.2):=fun r=>⟨(cell_row r 0).trans rfl,by rw [add_ad]; exact (cell_row r 1).trans rfl⟩
 refine ⟨_,(d0 r2).1,_,(d0 r2).2,wnext_ok (p:=p) x2.w fun h3 k3=>?_⟩
 have x3:=x2.keepN k3
 have r3:=kept_row k3 r2 _root_.id
 have xn:=x3.n
 have xl:=x3.len
 have wl:=wlen8 x3.w.m
 have hC:=fst_conns x3 p k
 have loop:∀ v b,(connsOf W2.ws p k=[]→v=0∧b=false)→(∀ c t,connsOf W2.ws p k=c :: t→v=c∧b=true)→_:=fun v b hv0 hv1 =>
  f23L2_rule (J1:=fun m s0 s1 s3 s4 s7 s12 h'=>∃ (t:Nat) (W':WP) (ob':Option Nat) (bs':List AK),m=20 - t∧t ≤ 20∧s0=some (ad W'.wb)∧k=s3∧n=s4∧s7=ad h.size∧s12=(t:Int)∧FSt h' base W' s1 ob' bs'∧W'.wb=W.wb∧W'.turns=W.turns∧Row h' h.size (plC p)∧bs'.length + t=bs.length∧(t=0→bs'=bs)∧((t:Int) ≤ n ∨ t=0)∧KB base h h'∧(∀ b,W'.foot b ∨ ob'=some b→b ≠ h.size)) (n1:=20 - t) (R:=R) (s0:=some (ad W2.wb)) (s1:=s1) (s3:=k) (s4:=n) (s7:=ad h.size) (s12:=(t:Int)) (s13:=v) (s14:=b) (s15:=0) (h0:=h3) (fun m u0 u1 u3 u4 u7 u12 u13 u14 u15 h'=>∃ i:Nat,i ≤ bs2.length∧m=bs2.length - i∧u0=some (ad W2.wb)∧s1=u1∧k=u3∧n=u4∧u7=ad h.size∧u12=(t:Int)∧v=u13∧b=u14∧u15=(i:Int)∧(∀ y ∈ bs2.take i,wants y.w p k=false)∧Kept N h3 h') bs2.length
   ⟨0,Nat.zero_le _,rfl,rfl,rfl,rfl,rfl,rfl,rfl,rfl,rfl,rfl,nofun,Kept.refl _ _⟩ (by
  rintro m u0 u1 u3 u4 u7 u12 u13 u14 u15 g2 h4 ⟨i,hi,rfl,rfl,rfl,rfl,rfl,rfl,rfl,rfl,rfl,rfl,hb,k4⟩
  unfold f23L2
  have x4:=x3.keepN k4
  have r4:=kept_row k4 r3 _root_.id
  refine Cond_dec (fun hlt3=>⟨⟨by omega,by omega⟩,?_⟩) fun hge3=>?_
  ·obtain ⟨y,hy⟩:∃ y,bs2[i]?=some y:=⟨_,List.getElem?_eq_getElem (by omega)⟩
   have hym:=List.mem_of_getElem? hy
   obtain ⟨q,hq,c0,c1,c2,c3⟩:=x4.read hy
   obtain ⟨z,hz,ez⟩:=x4.at_ hy
   have p1:=(x4.w.m.pw z (List.mem_of_getElem? hz)).p1
   rw [ez] at p1
   rw [Int.toNat_natCast]
   refine PtrOk_of hq ⟨_,c0,_,c1,_,c2,_,c3,_,(d0 r4).1,_,(d0 r4).2,wants_ok (x4.en y hym).1 p1.2 fun h5 k5=>⟨_,rfl,?_⟩⟩
   unfold f23K2
   have ew:(⟨y.w.conn,y.w.kind,y.w.pls,y.w.til⟩:Wtr)=y.w:=rfl
   rw [ew]
   cases hw:wants y.w p k with
   | false =>
    refine Cond_t rfl ⟨bs2.length - (i + 1),by omega,i + 1,by omega,rfl,(by first | rfl | trivial),(by first | rfl | trivial),(by first | rfl | trivial),(by first | rfl | trivial),(by first | rfl | trivial),(by first | rfl | trivial),(by first | rfl | trivial),(by first | rfl | trivial),nxt8 (by omega),fun r hr=>?_,k4.trans k5⟩
    rw [List.take_add_one,hy,List.mem_append] at hr
    rcases hr with hr | hr
    ·exact hb r hr
    ·have hr:r=y:=by simpa using hr
     rw [hr]; exact hw
   | true =>
    have x5:=x4.keepN k5
    have r5:=kept_row k5 r4 _root_.id
    have hl:=(List.getElem?_eq_some_iff.1 hy).1
    have hcons:∃ tl,connsOf W2.ws p k=y.w.conn :: tl:=by
     rw [hC]
     have e3:bs2=bs2.take i ++ y :: bs2.drop (i + 1):=by
      obtain ⟨hl',rfl⟩:=List.getElem?_eq_some_iff.1 hy
      rw [List.getElem_cons_drop,List.take_append_drop]
     refine ⟨((bs2.drop (i + 1)).filter fun y=>wants y.w p k).map (·.w.conn),?_⟩
     have e4:bs2.filter (fun y=>wants y.w p k)=y :: (bs2.drop (i + 1)).filter fun y=>wants y.w p k:=by
      conv=>lhs; rw [e3]
      rw [List.filter_append,List.filter_cons,hw,List.filter_eq_nil_iff.2 fun r hr=>by rw [hb r hr]; exact Bool.false_ne_true]
      rfl
     rw [e4]
     rfl
    obtain ⟨tl,htl⟩:=hcons
    obtain ⟨rfl,rfl⟩:=hv1 _ _ htl
    refine Cond_f rfl (Cond_f (by rw [beq_eq_false_iff_ne]; omega) (Cond_f rfl ⟨⟨by omega,by omega⟩,?_⟩))
    obtain ⟨q5,hq5,c50,_⟩:=x5.read hy
    rw [Int.toNat_natCast]
    refine PtrOk_of hq5 ⟨_,c50,Cond_f (bne_self_eq_false _) (wrel_at x5 hy fun h6 W6 w6 wb6 ws6 tu6 t6=>⟨true,rfl,?_⟩)⟩
    unfold f23K3
    refine Cond_f rfl (gone_ok (x5.sl1 t6) hl (by omega) fun h7 s7 ob7 sa7 lo7 k7=>⟨s7,rfl,?_⟩)
    have x7:=x5.cut w6 t6 ws6 sa7 lo7 k7
    have q6:=t6.1.1
    have hsz:h.size < h5.size:=row_lt r5
    refine ⟨20 - (t + 1),by omega,t + 1,W6,ob7,_,rfl,by omega,by rw [wb6],rfl,rfl,rfl,nxt8 (by omega),x7,wb6.trans wb2,tu6.trans tu2,kept_row k7 (kept_row t6.1 r5 fun z=>far _ (.inl z) rfl) _root_.id,?_,fun z=>by omega,.inl (by omega),?_,fun b hb e=>?_⟩
    ·rw [List.length_eraseIdx_of_lt hl]; omega
    ·exact ((k2.trans (KB.ofN ((k3.trans k4).trans k5))).trans (t6.1.mono fun b _ z=>x5.lw b z)).trans (KB.ofN k7)
    ·rcases hb with z | z
     ·rcases t6.2 b z with z | z
      ·exact far b (.inl z) e
      ·omega
     ·have:=lo7 b z; omega
  ·have ei:i=bs2.length:=by omega
   subst ei
   rw [List.take_length] at hb
   have hnil:connsOf W2.ws p k=[]:=by
    rw [hC,List.filter_eq_nil_iff.2 fun r hr=>by rw [hb r hr]; exact Bool.false_ne_true]
    rfl
   obtain ⟨rfl,rfl⟩:=hv0 hnil
   unfold f23K2
   refine Cond_f rfl (Cond_t (by rw [xn]; exact beq_self_eq_true _) (Cond_t rfl ?_))
   refine hR h4 W2 s1 ob2 bs2 x4 wb2 tu2 (k2.trans (KB.ofN (k3.trans k4))) fun en ⟨y,hy,hw⟩=>?_
   by_cases tz:t=0
   ·rw [← h0 tz] at hy
    rw [hb y hy] at hw
    cases hw
   ·omega)
 cases hc:connsOf W2.ws p k with
 | nil=>exact ⟨_,_,rfl,loop 0 false (fun _=>⟨rfl,rfl⟩) fun c t e=>by rw [hc] at e; cases e⟩
 | cons c t=>exact ⟨_,_,rfl,loop c true (fun e=>by rw [hc] at e; cases e) fun c' t' e=>by rw [hc] at e; cases e; exact ⟨rfl,rfl⟩⟩
theorem dues_erase {W W':WP} (cn:(W.ws.map (·.w.conn)).Nodup) {j:Nat} {y:PW} (hj:W.ws[j]?=some y) (ews:W'.ws=W.ws.eraseIdx j) (now:Int):duesOf W' now=cut y.w.conn (duesOf W now):=by
 unfold duesOf
 rw [ews,erase_filter cn hj]
 unfold cut
 rw [List.filter_filter,List.filter_map,List.filter_filter]
 congr 2
 funext x
 exact Bool.and_comm _ _
theorem leave_ok (x:FSt h base W s ob bs) {now:Int}
  (hR:∀ h' W' (s':Sl) ob' bs',FSt h' base W' s' ob' bs'→W'.wb=W.wb→W'.turns=W.turns→KB base h h'→R (.tuple #[.slice s'.a s'.n s'.c,.bool true]) h') :
  CallTo Try.prog 38 #[.pointer (some (ad W.wb)),.slice s.a s.n s.c,.int .u64 now] h R:=by
 refine f38F_ok (a1:=s) ?_
 unfold f38F
 have bl:=x.bl
 have wl0:=wlen8 x.w.m
 obtain ⟨T,tp,ts⟩:=sorted_exists (x.w.m.ordD (l:=duesOf W now) (fun c hc=>duesOf_sub hc) (duesOf_nd x.w.m _))
 have tnd:=tp.symm.nodup (duesOf_nd x.w.m now)
 have tl8:T.length ≤ 8:=by have:=tp.length_eq; have:=duesOf_len x.w.m now; omega
 refine wdue_ok x.w tp ts fun d dc h1 il hfr k1=>⟨d,rfl,?_⟩
 have x1:=x.keepN k1
 have dn:=il.n
 have oblt:∀ b,ob=some b→b < h.size:=fun b z=>by obtain ⟨_,_,j,r,_⟩:=x.sl.row b z; exact row_lt r
 refine f38L1_rule (s1:=s) (s8:=d) (fun m s0 s1 s2 s8 s9 s10 h'=>∃ (i:Nat) (W':WP) (ob':Option Nat) (bs':List AK),i ≤ T.length∧m=T.length - i∧s0=some (ad W'.wb)∧now=s2∧d=s8∧s10=(i:Int)∧FSt h' base W' s1 ob' bs'∧W'.wb=W.wb∧W'.turns=W.turns∧IL h' d dc T∧(T.drop i).Perm (duesOf W' now)∧(∀ y ∈ W'.ws,W.tilOf y.w.conn=y.w.til)∧(∀ c ∈ T.drop i,s9 ≤ W.tilOf c)∧(T ≠ []→∀ b,W'.foot b ∨ ob'=some b→b ≠ dc)∧KB base h h') T.length
  ⟨0,W,ob,bs,Nat.zero_le _,rfl,rfl,rfl,rfl,rfl,x1,rfl,rfl,il,tp,fun y hy=>x.w.m.til_self hy,fun c hc=>?_,fun hne b hb e=>?_,KB.ofN k1⟩ ?_
 ·obtain ⟨y,hy,rfl⟩:=List.mem_map.1 (duesOf_sub (tp.mem_iff.1 hc))
  rw [x.w.m.til_self hy]
  exact (x.w.m.pw y hy).tl.1
 ·have:=hfr hne
  have:b < h.size:=hb.elim (fun z=>x.w.m.foot_lt z) (oblt b)
  omega
 rintro m s0 s1 s2 s8 s9 s10 g h2 ⟨i,W2,ob2,bs2,hi,rfl,rfl,rfl,rfl,rfl,x2,wb2,tu2,il2,pm,til2,last,far,k2⟩
 unfold f38L1
 have xn:=x2.n
 have xl:=x2.len
 have wl:=wlen8 x2.w.m
 refine Cond_dec (fun hlt=>?_) fun hge=>?_
 ·-- one who is due
  have hil:i < T.length:=by omega
  obtain ⟨c,hc⟩:∃ c,T[i]?=some c:=⟨_,List.getElem?_eq_getElem hil⟩
  have hdrop:T.drop i=c :: T.drop (i + 1):=by
   obtain ⟨hl',rfl⟩:=List.getElem?_eq_some_iff.1 hc
   exact (List.getElem_cons_drop hl').symm
  have hne:T ≠ []:=fun e=>by rw [e] at hil; cases hil
  have cm:c ∈ T.drop i:=by rw [hdrop]; exact List.mem_cons_self ..
  obtain ⟨z,hzf,hzc⟩:=List.mem_map.1 (show c ∈ (W2.ws.filter fun x=>dueB now x.w.til).map (·.w.conn) from pm.mem_iff.1 cm)
  obtain ⟨hz,hzd⟩:=List.mem_filter.1 hzf
  refine f38L2_rule (s1:=s1) (s8:=d) (fun m u0 u1 u2 u8 u9 u10 u11 h'=>∃ j:Nat,j ≤ bs2.length∧m=bs2.length - j∧u0=some (ad W2.wb)∧s1=u1∧now=u2∧d=u8∧s9=u9∧u10=(i:Int)∧u11=(j:Int)∧(∀ y ∈ bs2.take j,y.w.conn ≠ c)∧h2=h') bs2.length
   ⟨0,Nat.zero_le _,rfl,rfl,rfl,rfl,rfl,rfl,rfl,rfl,nofun,rfl⟩ ?_
  rintro m u0 u1 u2 u8 u9 u10 u11 g2 h3 ⟨j,hj,rfl,rfl,rfl,rfl,rfl,rfl,rfl,rfl,hb,rfl⟩
  unfold f38L2
  obtain ⟨q,hq,cq⟩:=readsO_get (il_rd il2) (show (T.map iv)[i]?=some (iv c) by rw [List.getElem?_map,hc]; rfl)
  have cq1:cell h2 (q.add (i * 1))=some (.int .i64 c):=by rw [Nat.mul_one]; exact cq
  refine Cond_dec (fun hlt2=>⟨⟨by omega,by omega⟩,?_⟩) fun hge2=>?_
  ·obtain ⟨y,hy⟩:∃ y,bs2[j]?=some y:=⟨_,List.getElem?_eq_getElem (by omega)⟩
   have hl:=(List.getElem?_eq_some_iff.1 hy).1
   obtain ⟨p,hp,c0,c1,c2,c3⟩:=x2.read hy
   simp only [Int.toNat_natCast]
   refine PtrOk_of hp ⟨_,c0,⟨by omega,by omega⟩,PtrOk_of hq ⟨_,cq1,?_⟩⟩
   unfold f38K1
   refine Cond_b (fun e=>?_) fun e=>?_
   ·have e:y.w.conn ≠ c:=by simpa using e
    refine ⟨bs2.length - (j + 1),by omega,j + 1,by omega,rfl,(by first | rfl | trivial),(by first | rfl | trivial),(by first | rfl | trivial),(by first | rfl | trivial),(by first | rfl | trivial),(by first | rfl | trivial),nxt8 (by omega),fun r hr=>?_,rfl⟩
    rw [List.take_add_one,hy,List.mem_append] at hr
    rcases hr with hr | hr
    ·exact hb r hr
    ·have hr:r=y:=by simpa using hr
     rw [hr]; exact e
   ·have e:y.w.conn=c:=by simpa using e
    subst e
    obtain ⟨z',hz',ez'⟩:=x2.at_ hy
    obtain rfl:z'=z:=mem_inj x2.w.m.cn (List.mem_of_getElem? hz') hz (by rw [ez',hzc])
    rw [ez'] at hzd
    have due:y.w.til ≠ 0∧y.w.til ≤ now:=by unfold dueB at hzd; simpa using hzd
    have tilc:W.tilOf y.w.conn=y.w.til:=by have:=til2 z' hz; rw [ez'] at this; exact this
    have lst:=last _ cm
    rw [tilc] at lst
    simp only [Int.toNat_natCast]
    refine Cond_f (by rw [beq_eq_false_iff_ne]; omega) ⟨⟨by omega,by omega⟩,PtrOk_of hp ⟨_,c3,Cond_f (by rw [beq_eq_false_iff_ne]; exact due.1) ⟨⟨by omega,by omega⟩,PtrOk_of hp ⟨_,c3,Cond_dec (fun z=>by omega) fun _=>⟨⟨by omega,by omega⟩,PtrOk_of hp ⟨_,c3,Cond_dec (fun z=>by omega) fun _=>⟨⟨by omega,by omega⟩,PtrOk_of hq ⟨_,cq1,wrel_at x2 hy fun h6 W6 w6 wb6 ws6 tu6 t6=>⟨true,rfl,?_⟩⟩⟩⟩⟩⟩⟩⟩⟩
    unfold f38K2
    have sa6:=x2.sl1 t6
    have rd6:=sa6.rd
    obtain ⟨p6,hp6,c63⟩:=readsO_get rd6 ((flat_at ak_len bs2 j 3 y hy (by omega)).trans rfl)
    rw [Int.toNat_natCast]
    refine Cond_f rfl ⟨⟨by omega,by omega⟩,PtrOk_of hp6 ⟨y.w.til,by rw [add_add]; exact c63,gone_ok sa6 hl (by omega) fun h7 s7 ob7 sa7 lo7 k7=>⟨s7,rfl,?_⟩⟩⟩
    have x7:=x2.cut w6 t6 ws6 sa7 lo7 k7
    have q6:=t6.1.1
    have q2:=k2.1
    have dlt:dc < h2.size:=by obtain ⟨_,r,_⟩:=il2.row hne; exact row_lt r
    refine ⟨T.length - (i + 1),by omega,i + 1,W6,ob7,_,by omega,rfl,by rw [wb6],rfl,rfl,nxt8 (by omega),x7,wb6.trans wb2,tu6.trans tu2,(il2.keep t6.1 fun hne z=>far hne _ (.inl z) rfl).keep k7 fun _=>_root_.id,?_,fun v hv=>til2 v ?_,fun c' hc'=>?_,fun hne b hb e=>?_,(k2.trans (t6.1.mono fun b _ z=>x2.lw b z)).trans (KB.ofN k7)⟩
    ·rw [dues_erase x2.w.m.cn hz' ws6,ez']
     have hp1:=pm.filter fun d=>decide (d ≠ y.w.conn)
     have hnd:(y.w.conn :: T.drop (i + 1)).Nodup:=by rw [← hdrop]; exact (List.drop_sublist i T).nodup tnd
     have hnm:=(List.nodup_cons.1 hnd).1
     rw [hdrop,List.filter_cons_of_neg (by simp),List.filter_eq_self.2 fun d hd=>by
      have:d ≠ y.w.conn:=fun e=>hnm (e ▸ hd)
      simpa using this] at hp1
     exact hp1
    ·rw [ws6] at hv
     exact (List.eraseIdx_sublist W2.ws j).subset hv
    ·have hpw:(y.w.conn :: T.drop (i + 1)).Pairwise fun a b=>duV W a b < 0:=by rw [← hdrop]; exact ts.sublist (List.drop_sublist i T)
     have:=(List.pairwise_cons.1 hpw).1 c' hc'
     rw [duV_lt] at this
     omega
    ·rcases hb with z | z
     ·rcases t6.2 b z with z | z
      ·exact far hne b (.inl z) e
      ·omega
     ·have:=lo7 b z; omega
  ·exfalso
   have ej:j=bs2.length:=by omega
   subst ej
   rw [List.take_length] at hb
   obtain ⟨jz,hjz⟩:=List.mem_iff_getElem?.1 hz
   have:(bs2.map (·.w))[jz]?=some z.w:=by rw [← x2.ag,List.getElem?_map,hjz]; rfl
   rw [List.getElem?_map] at this
   obtain ⟨y,hy,ey⟩:=Option.map_eq_some_iff.1 this
   exact hb y (List.mem_of_getElem? hy) (by rw [ey,hzc])
 ·-- none is left
  have ei:i=T.length:=by omega
  subst ei
  rw [List.drop_length] at pm
  have d0:duesOf W2 now=[]:=List.nil_perm.1 pm
  refine f38L3_rule (s1:=s1) (fun m u0 u1 u2 u12 h'=>∃ j:Nat,j ≤ bs2.length∧m=bs2.length - j∧u0=some (ad W2.wb)∧s1=u1∧now=u2∧u12=(j:Int)∧h2=h') bs2.length ⟨0,Nat.zero_le _,rfl,rfl,rfl,rfl,rfl,rfl⟩ ?_
  rintro m u0 u1 u2 u12 g2 h3 ⟨j,hj,rfl,rfl,rfl,rfl,rfl,rfl⟩
  unfold f38L3
  refine Cond_dec (fun hlt2=>⟨⟨by omega,by omega⟩,?_⟩) fun hge2=>?_
  ·obtain ⟨y,hy⟩:∃ y,bs2[j]?=some y:=⟨_,List.getElem?_eq_getElem (by omega)⟩
   obtain ⟨p,hp,c0,c1,c2,c3⟩:=x2.read hy
   obtain ⟨z',hz',ez'⟩:=x2.at_ hy
   have nd:dueB now y.w.til=false:=by
    cases e:dueB now y.w.til with
    | false=>rfl
    | true =>
     exfalso
     have:z'.w.conn ∈ duesOf W2 now:=List.mem_map.2 ⟨z',List.mem_filter.2 ⟨List.mem_of_getElem? hz',by rw [ez']; exact e⟩,rfl⟩
     rw [d0] at this
     cases this
   have go:∃ m,m < bs2.length - j∧∃ j':Nat,j' ≤ bs2.length∧m=bs2.length - j'∧(some (ad W2.wb))=some (ad W2.wb)∧s1=s1∧now=now∧IntKind.wrap .i64 ((j:Int) + 1)=(j':Int)∧h2=h2:=⟨bs2.length - (j + 1),by omega,j + 1,by omega,rfl,rfl,rfl,rfl,nxt8 (by omega),rfl⟩
   rw [Int.toNat_natCast]
   refine PtrOk_of hp ⟨_,c3,Cond_b (fun e=>⟨⟨by omega,by omega⟩,PtrOk_of hp ⟨_,c3,?_⟩⟩) fun e=>by unfold f38K3; exact Cond_f rfl go⟩
   unfold f38K3
   refine Cond_dec (fun e2=>?_) fun _=>go
   have e:y.w.til ≠ 0:=by simpa using e
   unfold dueB at nd
   simp [e,e2] at nd
  ·refine wdue_ok (T:=[]) x2.w (by rw [d0]) List.Pairwise.nil fun d' c' h4 il' _ k4=>⟨d',rfl,?_⟩
   have:d'.n=0:=il'.n
   rw [this]
   exact hR h4 W2 s1 ob2 bs2 (x2.keepN k4) wb2 tu2 (k2.trans (KB.ofN k4))
end
end Go.Ev
