/- The outright statements' make: a list with these elements, on a heap with room / ChainTurns: what its parts come to / The chain statements' arguments, out of the datum that is read / ChainTurns: the law's own call / ChainStrikes: the statement's own rest / ChainStrikes: the law's own call / ChainFull: the law's own call / ChainShaken: what a step tells / ChainShaken: two lists on one heap; two such heaps. No condition but that these are ones. -/
import Derived.Test.YtngcoodbepbhbaaS20
import Derived.ProofKit
import Derived.SizedLaws
import Derived.LaidMore
import Derived.OpenShut
set_option linter.all false
set_option maxRecDepth 1000000
namespace Go.Ev
open Go.Proofs
/-- Lists of bytes, where they lie. -/
structure RL0 (h:Hp) (a:Sl) (sls:List Sl) (rows:List (List Nat)):Prop where
 rd:ReadsO h a.a (sls.map slV)
 n:a.n=sls.length
 len:sls.length=rows.length
 each:∀ (i:Nat) (c:Sl) (r:List Nat),sls[i]?=some c→rows[i]?=some r→ReadsO h c.a (r.map bv)∧c.n=r.length∧Bytes8 r∧c.n ≤ c.c∧r.length < 140737488355328∧∀ p,c.a=some p→r ≠ []→p.block < h.size
 out:∀ p,a.a=some p→sls ≠ []→p.block < h.size
/-- What is the heap's own is new. -/
def Frsh (h0:Hp) (q:HQ):Prop:=∀ b,q.role b ≠ .out→h0.size ≤ b
section
variable {h h' h2 h0:Hp} {q q' q2:HQ} {s s' s2:RS} {nd nd' nd2:List NodeD} {n:NodeD} {id lb hn:Nat} {L L' L2:LD} {R:Value→Hp→Prop} {b:List Nat} {ids:List Nat} {lim:Nat} {a:Sl} {sls:List Sl} {rows:List (List Nat)}
theorem Frsh.old (f:Frsh h0 q) {b:Nat} (hb:b < h0.size):q.role b=.out:=Classical.byContradiction fun hn=>by have:=f b hn; omega
theorem Frsh.ex (f:Frsh h0 q) (hs:h0.size ≤ h.size) (e:Ex h q h' q'):Frsh h0 q':=fun b hb=>Classical.byContradiction fun hlt=>hb (e.out (by omega) (f.old (by omega)))
theorem Frsh.kept (f:Frsh h0 q) (k:Kept N h0 h) (e:Ex h q h' q'):Kept N h0 h' :=
 ⟨Nat.le_trans k.1 e.2.1,fun i hi _=>(e.2.2 i (Nat.lt_of_lt_of_le hi k.1) (f.old hi)).2.trans (k.2 i hi _root_.id)⟩
theorem kept_tr {a b c:Hp} (x:Kept N a b) (y:Kept N b c):Kept N a c:=⟨Nat.le_trans x.1 y.1,fun j hj _=>(y.2 j (Nat.lt_of_lt_of_le hj x.1) _root_.id).trans (x.2 j hj _root_.id)⟩
theorem RL0.rl (x:RL0 h0 a sls rows) (k:Kept N h0 h) (f:Frsh h0 q):RL h q a sls rows :=
 ⟨reads_keptN k x.rd,x.n,x.len,fun i c r hc hr=>(have e:=x.each i c r hc hr; ⟨⟨reads_keptN k e.1,e.2.1,e.2.2.1,fun p hp hn=>⟨f.old (e.2.2.2.2.2 p hp hn),Nat.lt_of_lt_of_le (e.2.2.2.2.2 p hp hn) k.1⟩⟩,e.2.2.2.1,e.2.2.2.2.1⟩),
  fun p hp hn=>⟨f.old (x.out p hp hn),Nat.lt_of_lt_of_le (x.out p hp hn) k.1⟩⟩
theorem Src.take {c:Sl} {r:List Nat} (x:Src h q c r) (k:Nat):Src h q ⟨c.a,min c.n k,c.c⟩ (r.take k):=by
 refine ⟨?_,by rw [List.length_take,x.n]; exact Nat.min_comm _ _,fun y hy=>x.b8 y (List.mem_of_mem_take hy),fun p hp hn=>x.out p hp fun z=>hn (by rw [z,List.take_nil])⟩
 have rd:=x.rd
 rw [List.map_take]
 revert rd
 generalize r.map bv=vs
 intro rd
 by_cases h0:vs.take k=[]
 ·rw [h0]
  cases hc:c.a with
  | none=>rfl
  | some p=>exact fun j v hv=>by cases hv
 ·cases hc:c.a with
  | none=>rw [hc] at rd; exact absurd (by rw [show vs=[] from rd]; simp) h0
  | some p=>rw [hc] at rd; exact fun j v hv=>rd j v (by
    have hj:j < k:=by have:=(List.getElem?_eq_some_iff.1 hv).1; rw [List.length_take] at this; omega
    rwa [List.getElem?_take_of_lt hj] at hv)
/-- Slices of lists that are laid one by one into a new one. -/
structure SlsIn (h0 h:Hp) (M:Mem) (w:Sl) (l:List Sl):Prop where
 sep:Sep h M
 sl:IsSl 1 M 0 w (l.map slV)
 own:∀ b,M.own b→h0.size ≤ b
 k:Kept N h0 h
theorem SlsIn.nil (h0:Hp):SlsIn h0 h0 ⟨fun _=>none,fun _=>[]⟩ ⟨none,0,0⟩ [] :=
 ⟨⟨fun y b hy=>by (cases hy),fun y z b hy _=>by (cases hy)⟩,⟨by simp,fun _=>⟨rfl,rfl,rfl⟩,fun b hb=>by cases hb⟩,(fun b ⟨y,hy⟩=>by cases hy),Kept.refl _ _⟩
theorem SlsIn.len {M:Mem} {w:Sl} {l:List Sl} (x:SlsIn h0 h M w l):w.n=l.length:=by have:=x.sl.len; rw [List.length_map] at this; omega
theorem SlsIn.keepN {M:Mem} {w:Sl} {l:List Sl} (x:SlsIn h0 h M w l) (k:Kept N h h'):SlsIn h0 h' M w l:=⟨x.sep.keepN k,x.sl,x.own,kept_tr x.k k⟩
theorem SlsIn.add {M:Mem} {w c:Sl} {l:List Sl} (x:SlsIn h0 h M w l) (hl:l.length ≤ 100000000) {t e:TypeId} {K:Option Addr→Nat→Nat→Hp→Prop}
  (hK:∀ a' c' h2 M',SlsIn h0 h2 M' ⟨a',w.n + 1,c'⟩ (l ++ [c])→K a' (w.n + 1) c' h2) :
  Let (h.push (.cells #[.slice c.a c.n c.c] t)) fun h2=>appSl e 1 24 #[.slice none 0 0] w.a w.n w.c (some (nb h)) 1 h2 K:=by
 have hwn:=x.len
 refine x.sl.app1 x.sep rfl rfl (fun v hv=>by rw [List.mem_singleton.1 hv]; rfl) (by omega) (by omega) fun a' c' h2 ob cc p2 sl2 ch2=>?_
 refine hK a' c' h2 (M.upd 0 ob cc) ⟨p2,by rw [List.map_append]; exact sl2,fun b hb=>(ch2.2 b hb).elim (x.own b) fun z=>Nat.le_trans x.k.1 z,Nat.le_trans x.k.1 ch2.1.1,fun i hi _=>?_⟩
 exact (ch2.1.2 i (Nat.lt_of_lt_of_le hi x.k.1) fun ho=>by have:=x.own i ho; omega).trans (x.k.2 i hi _root_.id)
theorem SlsIn.rl {M:Mem} {w:Sl} {l:List Sl} (x:SlsIn h0 h M w l) (g:Gs h0 q s nd) (hl:l.length=rows.length) (he:∀ (i:Nat) (c:Sl) (r:List Nat),l[i]?=some c→rows[i]?=some r→Src h q c r∧c.n ≤ c.c∧r.length < 140737488355328):RL h q w l rows:=by
 refine ⟨slAt_reads (x.sl.slAt x.sep),x.len,hl,he,fun p hp hn=>?_⟩
 obtain ⟨b,hb,ha⟩:=x.sl.some_of (fun e=>hn (List.map_eq_nil_iff.1 e))
 rw [hp] at ha
 obtain rfl:p=ad b:=Option.some.inj ha
 exact ⟨g.st.fr (x.own b ⟨0,hb⟩),x.sep.lt hb⟩
end
end Go.Ev
set_option linter.all false
set_option maxRecDepth 1000000
namespace Go.Ev
open Go.Proofs
/-- A list on a great heap, what lay there ahead of it as it was. -/
structure Stg (h1 h:Hp) (q:HQ) (s:RS) (nd:List NodeD) (lb:Nat) (L:LD):Prop where
 x:Solo h q s nd lb L 1048576
 k:Kept N h1 h
 f:Frsh h1 q
/-- Bytes, where they lie. -/
structure Bt (h:Hp) (a:Sl) (b:List Nat):Prop where
 rd:ReadsO h a.a (b.map bv)
 n:a.n=b.length
 cap:a.n ≤ a.c
 b8:Bytes8 b
 lt:b.length < 140737488355328
 out:∀ p,a.a=some p→b ≠ []→p.block < h.size
section
variable {h h' h2 h0 h1:Hp} {q q' q2:HQ} {s s' s2:RS} {nd nd' nd2:List NodeD} {n:NodeD} {id lb hn:Nat} {L L' L2:LD} {R:Value→Hp→Prop} {b:List Nat} {ids:List Nat} {lim:Nat} {a:Sl} {sls:List Sl} {rows w:List (List Nat)} {M:Mem} {cs:List Nat} {r:List Nat} {c:Nat}
theorem Stg.ex (x:Stg h1 h q s nd lb L) (y:Solo h' q' s' nd' lb L' 1048576) (e:Ex h q h' q'):Stg h1 h' q' s' nd' lb L':=⟨y,x.f.kept x.k e,x.f.ex x.k.1 e⟩
theorem Stg.aft (x:Stg h1 h q s nd lb L) (a:Aft h q s nd L h' q' s' nd' L'):Stg h1 h' q' s' nd' lb L':=x.ex (x.x.aft a) a.ex
theorem Stg.keepN (x:Stg h1 h q s nd lb L) (k:Kept N h h'):Stg h1 h' q s nd lb L:=⟨x.x.keepN k,kept_tr x.k k,x.f⟩
theorem Bt.src (y:Bt h1 a b) (x:Stg h1 h q s nd lb L):Src h q a b:=⟨reads_keptN x.k y.rd,y.n,y.b8,fun p hp hn=>⟨x.f.old (y.out p hp hn),Nat.lt_of_lt_of_le (y.out p hp hn) x.k.1⟩⟩
theorem reads_take {a:Option Addr} {vs:List Value} (rd:ReadsO h a vs) (k:Nat):ReadsO h a (vs.take k):=by
 revert rd
 by_cases h0:vs.take k=[]
 ·intro _
  rw [h0]
  cases a with
  | none=>rfl
  | some p=>exact fun j v hv=>by cases hv
 ·intro rd
  cases a with
  | none=>exact absurd (by rw [show vs=[] from rd]; simp) h0
  | some p=>exact fun j v hv=>rd j v (by
    have hj:j < k:=by have:=(List.getElem?_eq_some_iff.1 hv).1; rw [List.length_take] at this; omega
    rwa [List.getElem?_take_of_lt hj] at hv)
theorem Bt.take (y:Bt h1 a b) (k:Nat):Bt h1 ⟨a.a,min a.n k,a.c⟩ (b.take k) :=
 ⟨by rw [List.map_take]; exact reads_take y.rd k,by rw [List.length_take,y.n]; exact Nat.min_comm _ _,by show min a.n k ≤ a.c; have:=y.cap; omega,fun x hx=>y.b8 x (List.mem_of_mem_take hx),by rw [List.length_take]; have:=y.lt; omega,fun p hp hn=>y.out p hp fun z=>hn (by rw [z,List.take_nil])⟩
theorem row_src (row:Row h c (r.map bv)) (b8:Bytes8 r) (ho:q.role c=.out):Src h q ⟨some (ad c),r.length,r.length⟩ r :=
 ⟨row_reads row,rfl,b8,fun p hp _=>by obtain rfl:=Option.some.inj hp; exact ⟨ho,row_lt row⟩⟩
/-! ### Pop on such a list; pushes -/
/-! ### Lists that are collected while the heap turns -/
theorem RowsAt.keep {S:Nat→Prop} (x:RowsAt h0 h a M cs rows) (k:Kept S h h') (hS:∀ b,M.own b→¬ S b):RowsAt h0 h' a M cs rows:=⟨x.sep.keep k hS,x.len,x.sl,x.el,x.no,x.new⟩
theorem RowsAt.ex (x:RowsAt h0 h a M cs rows) (ho:∀ b,M.own b→q.role b=.out) (e:Ex h q h' q'):RowsAt h0 h' a M cs rows∧∀ b,M.own b→q'.role b=.out :=
 ⟨x.keep e.kept fun b hb hn=>hn (ho b hb),fun b hb=>e.out (x.sep.own_lt hb) (ho b hb)⟩
end
end Go.Ev
set_option linter.all false
set_option maxRecDepth 100000
namespace Go.Proofs.Ytngcoodbepbhbaa
open Go.ChangeShapes Go.WideShapes Go.ChangeAt Go.RowKit
open Go.Ev (Reads ReadsO uv bv slV I64 Sl RL0 Bt)
theorem own:ownKnob Try.prog.godebug=none:=by kernel_rfl
theorem c3:Try.prog.cellsOf 3=1:=by kernel_rfl
theorem c5:Try.prog.cellsOf 5=1:=by kernel_rfl
theorem c4:Try.prog.cellsOf 4=1:=by kernel_rfl
theorem c23:Try.prog.cellsOf 23=1:=by kernel_rfl
theorem b3:Try.prog.bytesOf 3=8:=by kernel_rfl
theorem b5:Try.prog.bytesOf 5=1:=by kernel_rfl
theorem kids:Kids Try.prog (· < Try.prog.types.size):=kids_rows (by kernel_rfl) (by kernel_rfl)
theorem slices_some:∀ t e,t < Try.prog.types.size→Try.prog.underlying t=some (.slice e)→0 < Try.prog.cellsOf e:=by
 have h:(List.range Try.prog.types.size).all (fun t=>match Try.prog.underlying t with | some (.slice e)=>decide (0 < Try.prog.cellsOf e) | _=>true)=true:=by kernel_rfl
 intro t e ht hu
 have:=List.all_eq_true.1 h t (List.mem_range.2 ht)
 rw [hu] at this
 exact of_decide_eq_true this
section
variable {H:Type} {enc:TypeId × Value→H} {W:World}
theorem weightsAll_mem {P:Program} {e:TypeId}:∀ {ds:List (DataW H)} {d:DataW H},d ∈ ds→∀ n ∈ d.weights P e,n ∈ DataW.weightsAll P e ds
 | d0 :: ds,d,hd,n,hn=>by
  rw [DataW.weightsAll,List.mem_append]
  rcases List.mem_cons.1 hd with rfl | hd
  ·exact .inl hn
  ·exact .inr (weightsAll_mem hd n hn)
theorem i64_of {n:Int} (h:(Lit.int .i64 n).wf=true):I64 n:=by
 have:=bounds_i64 h
 exact ⟨this.1,by omega⟩
theorem bytes_of {n:Nat} {v:Value} {x:DataW H × List MemPlace} (h:DataW.trod enc Try.prog W 0 (fun _=>true) true n 23 [v]=some x) (hw:∀ m ∈ x.1.weights Try.prog 23,m ≤ reachBytes) :
  ∃ (d:Sl) (l:List Nat),v=slV d∧ReadsO W.heap d.a (l.map bv)∧d.n=l.length∧(∀ c ∈ l,c < 256)∧l.length < 140737488355328∧(∀ p,d.a=some p→l ≠ []→p.block < W.heap.size)∧d.n ≤ d.c:=by
 rcases open_ints Try.underlying23 Try.underlying5 c5 h with ⟨hcs,_⟩ | ⟨a,len,cap,zs,hcs,_,hl,_,hz,hx,hcell,hwz⟩
 ·refine ⟨⟨none,0,0⟩,[],?_,rfl,rfl,by simp,by decide,nofun,Nat.le_refl _⟩
  exact (List.cons.inj hcs).1
 ·simp only [if_true] at hz
  have hw1:=hw ((len + (cap - len)) * Try.prog.bytesOf 5) (by
   rw [hx]
   have e1:((lits (H:=H) .u8 (zs.take len)).length)=len:=by simp [lits]; omega
   have e2:((lits (H:=H) .u8 (zs.drop len)).length)=cap - len:=by simp [lits]; omega
   simp only [DataW.weights,Try.underlying23,List.mem_cons]
   exact .inl (by rw [e1,e2]))
  rw [b5] at hw1
  have hr:=reachBytes_lt
  have wz:∀ i,i < zs.length→0 ≤ zs.getD i 0∧zs.getD i 0 ≤ 255:=fun i hi=>by
   rw [List.getD_eq_getElem?_getD,List.getElem?_eq_getElem hi]
   exact bounds_u8 (hwz _ (List.getElem_mem hi))
  have ll:((zs.take len).map Int.toNat).length=len:=by rw [List.length_map,List.length_take]; omega
  have rd:∀ i,i < len→Go.Ev.cell W.heap (a.add i)=some (bv ((zs.take len).map Int.toNat)[i]!):=fun i hi=>by
   have h1:Go.Ev.cell W.heap (a.add i)=some (.int .u8 (zs.getD i 0)):=hcell i (by omega)
   have h2:=wz i (by omega)
   have e:((zs.take len).map Int.toNat)[i]! = (zs.getD i 0).toNat:=by
    rw [List.getElem!_eq_getElem?_getD,List.getElem?_map,List.getElem?_take,if_pos hi,List.getElem?_eq_getElem (by omega),List.getD_eq_getElem?_getD,List.getElem?_eq_getElem (by omega)]
    rfl
   rw [h1,e]
   unfold bv
   rw [Int.toNat_of_nonneg h2.1]
  refine ⟨⟨some a,len,cap⟩,(zs.take len).map Int.toNat,?_,?_,ll.symm,?_,by omega,?_,by show len ≤ cap; omega⟩
  ·simpa [slV] using hcs
  ·intro j u hj
   rw [List.getElem?_map] at hj
   obtain ⟨z,hz1,rfl⟩:=Option.map_eq_some_iff.1 hj
   have hjl:j < len:=by have:=(List.getElem?_eq_some_iff.1 hz1).1; rw [ll] at this; exact this
   rw [rd j hjl,List.getElem!_eq_getElem?_getD,hz1]
   rfl
  ·intro c hc
   obtain ⟨z,hz1,rfl⟩:=List.mem_map.1 hc
   have:=bounds_u8 (hwz z (List.mem_of_mem_take hz1))
   omega
  ·intro p hp hne
   obtain rfl:=Option.some.inj hp
   have h0:0 < len:=Nat.pos_of_ne_zero fun e=>hne (List.length_eq_zero_iff.1 (ll.trans e))
   have h1:=rd 0 h0
   unfold Go.Ev.cell at h1
   have eb:(a.add 0).block=a.block:=rfl
   rw [eb] at h1
   exact Nat.lt_of_not_le fun hl=>by
    rw [Array.getElem?_eq_none hl] at h1
    cases h1
theorem kept_all {W W':World} (hs:Go.Ev.Same W W') (hk:Go.Ev.Kept Go.Ev.N W.heap W'.heap) (may:MemPlace→Prop):W.keptBut W' may:=by
 refine ⟨hs.1,hs.2.2,fun i hi=>?_⟩
 rw [hk.2 i hi id]
 cases h:W.heap[i]? with
 | none=>rfl
 | some o =>
  cases o <;> first | exact rfl | exact ⟨rfl,rfl,rfl,fun _ _=>rfl⟩ | exact .inr ⟨rfl,rfl⟩
theorem same_all {W W':World} (hk:Go.Ev.Kept Go.Ev.N W.heap W'.heap) {p:MemPlace} (hp:p.block < W.heap.size):W.sameAt W' p:=by
 cases p with
 | cell b off =>
  show Go.Ev.cell W'.heap ⟨b,off,none⟩=Go.Ev.cell W.heap ⟨b,off,none⟩
  unfold Go.Ev.cell
  rw [hk.2 b hp id]
 | map b=>exact hk.2 b hp id
end
end Go.Proofs.Ytngcoodbepbhbaa
set_option linter.all false
set_option maxRecDepth 1000000
namespace Go.Ev
open Go.Proofs
section
variable {h h' h2 h0 h1:Hp} {q q' q2:HQ} {s s' s2:RS} {nd nd' nd2:List NodeD} {n:NodeD} {id lb hn:Nat} {L L' L2:LD} {R:Value→Hp→Prop} {b:List Nat} {ids:List Nat} {lim:Nat} {a:Sl} {sls:List Sl} {rows w:List (List Nat)} {M:Mem} {cs:List Nat} {r:List Nat} {c:Nat}
theorem RL0.keepN (x:RL0 h a sls rows) (k:Kept N h h'):RL0 h' a sls rows :=
 ⟨reads_keptN k x.rd,x.n,x.len,fun i c r hc hr=>(have e:=x.each i c r hc hr; ⟨reads_keptN k e.1,e.2.1,e.2.2.1,e.2.2.2.1,e.2.2.2.2.1,fun p hp hn=>Nat.lt_of_lt_of_le (e.2.2.2.2.2 p hp hn) k.1⟩),
  fun p hp hn=>Nat.lt_of_lt_of_le (x.out p hp hn) k.1⟩
theorem Bt.keepN (x:Bt h a b) (k:Kept N h h'):Bt h' a b:=⟨reads_keptN k x.rd,x.n,x.cap,x.b8,x.lt,fun p hp hn=>Nat.lt_of_lt_of_le (x.out p hp hn) k.1⟩
/-- What comes off such a list, from that end on. -/
def comes (fr:Bool) (w:List (List Nat)):List (List Nat):=if fr=true then w else w.reverse
def stays (fr:Bool) (w:List (List Nat)) (k:Nat):List (List Nat):=if fr=true then w.drop k else w.take (w.length - k)
def laid (fr:Bool) (w:List (List Nat)) (k:Nat):List (List Nat):=if fr=true then ((comes fr w).take k).reverse else (comes fr w).take k
end
end Go.Ev
set_option linter.all false
set_option maxRecDepth 1000000
namespace Go.Ev
open Go.Proofs
section
variable {h h' h2 h0 h1:Hp} {q q' q2:HQ} {s s' s2:RS} {nd nd' nd2:List NodeD} {n:NodeD} {id lb hn:Nat} {L L' L2:LD} {R:Value→Hp→Prop} {b:List Nat} {ids:List Nat} {lim:Nat} {a:Sl} {sls:List Sl} {rows w:List (List Nat)} {M:Mem} {cs:List Nat} {r:List Nat} {c:Nat}
theorem SlsIn.cap {w:Sl} {l:List Sl} (x:SlsIn h0 h M w l):w.n ≤ w.c:=by
 cases hl:M.loc 0 with
 | none=>have:=x.sl.nil hl; omega
 | some b=>exact (x.sl.row b hl).2.1
end
end Go.Ev
set_option linter.all false
set_option maxRecDepth 1000000
namespace Go.Ev
open Go.Proofs
section
variable {h h' h2 h0 h1:Hp} {q q' q2:HQ} {s s' s2:RS} {nd nd' nd2:List NodeD} {n:NodeD} {id lb hn:Nat} {L L' L2:LD} {R:Value→Hp→Prop} {b:List Nat} {ids:List Nat} {lim:Nat} {a:Sl} {sls:List Sl} {rows w:List (List Nat)} {M:Mem} {cs:List Nat} {r:List Nat} {c:Nat}
theorem SlsIn.addn {M:Mem} {w:Sl} {l l2:List Sl} {bs:Option Addr} {m:Nat} (x:SlsIn h0 h M w l) (rd:ReadsO h bs (l2.map slV)) (hm:m=l2.length) (hl:l.length + l2.length ≤ 100000000) {e:TypeId} {K:Option Addr→Nat→Nat→Hp→Prop}
  (hK:∀ a' c' h2 M',SlsIn h0 h2 M' ⟨a',w.n + m,c'⟩ (l ++ l2)→K a' (w.n + m) c' h2) :
  appSl e 1 24 #[.slice none 0 0] w.a w.n w.c bs m h K:=by
 have hwn:=x.len
 subst hm
 refine ⟨l2.map slV,rd,by rw [List.length_map,Nat.mul_one],x.sl.app x.sep rfl (by rw [List.length_map,Nat.mul_one]) (fun v hv=>by obtain ⟨z,_,rfl⟩:=List.mem_map.1 hv; rfl) (by omega) (by omega) fun a' c' h2 ob cc p2 sl2 ch2=>?_⟩
 refine hK a' c' h2 (M.upd 0 ob cc) ⟨p2,by rw [List.map_append]; exact sl2,fun b hb=>(ch2.2 b hb).elim (x.own b) fun z=>Nat.le_trans x.k.1 z,Nat.le_trans x.k.1 ch2.1.1,fun i hi _=>?_⟩
 exact (ch2.1.2 i (Nat.lt_of_lt_of_le hi x.k.1) fun ho=>by have:=x.own i ho; omega).trans (x.k.2 i hi _root_.id)
end
end Go.Ev
set_option linter.all false
set_option maxRecDepth 1000000
namespace Go.Ev
open Go.Proofs
section
variable {h h' h2 h0 h1:Hp} {q q' q2:HQ} {s s' s2:RS} {nd nd' nd2:List NodeD} {n:NodeD} {id lb hn:Nat} {L L' L2:LD} {R:Value→Hp→Prop} {b:List Nat} {ids:List Nat} {lim:Nat} {a:Sl} {sls:List Sl} {rows w:List (List Nat)} {M:Mem} {cs:List Nat} {r:List Nat} {c:Nat}
theorem Solo.write (x:Solo h q s nd lb L lim) {tb:Nat} (k:Kept (fun b=>b=tb) h h') (ho:q.role tb=.out) (hne:lb ≠ tb):Solo h' q s nd lb L lim :=
 ⟨⟨x.o.g.keepO k fun b e=>e ▸ ho,⟨kept_row k x.o.l.row hne,x.o.l.out⟩,x.o.pos,x.o.lt,x.o.held,x.o.c⟩,x.rt,x.rl,x.lim⟩
theorem Solo.rootsN (x:Solo h q s nd lb L lim):s.rootsN=1:=by
 have rt:=x.rt
 unfold RS.rootsN
 generalize s.roots=l at rt
 cases l with
 | nil=>have:=rt 0; simp at this
 | cons y l =>
  have h0:=rt 0
  have h0:y=some L.hd:=by simpa using h0
  have:l.filter Option.isSome=[]:=by
   rw [List.filter_eq_nil_iff]
   intro z hz
   obtain ⟨j,hj⟩:=List.mem_iff_getElem?.1 hz
   have:=rt (j + 1)
   rw [List.getD_eq_getElem?_getD,List.getElem?_cons_succ,hj,if_neg (by omega)] at this
   have this:z=none:=this
   rw [this]; simp
  rw [h0,List.filter_cons_of_pos rfl,this]; rfl
end
end Go.Ev
set_option linter.all false
set_option maxRecDepth 1000000
namespace Go.Ev
open Go.Proofs
instance (k:Nat) (i n:Int):Decidable (InL k i n):=by unfold InL; exact inferInstance
def byt (v:Int):Nat:=(IntKind.wrap .u8 v).toNat
theorem bv_byt (v:Int):Value.int .u8 (IntKind.wrap .u8 v)=bv (byt v):=by
 unfold bv byt
 have:=wrap_u8' (x:=v)
 have h0:0 ≤ IntKind.wrap .u8 v:=by rw [this]; omega
 rw [Int.toNat_of_nonneg h0]
theorem byt_lt (v:Int):byt v < 256:=by
 unfold byt
 have:=wrap_u8' (x:=v)
 omega
def hi8 (v:Int):Int:=Int.fdiv v (2 ^ (min (8:Int).toNat (IntKind.bits .i64)))
/-- Bytes that are laid into a slice of one's own. -/
structure By (h0 h:Hp) (q:HQ) (M:Mem) (w:Sl) (l:List Nat):Prop where
 sep:Sep h M
 sl:IsSl 1 M 0 w (l.map bv)
 own:∀ b,M.own b→h0.size ≤ b∧q.role b=.out
section
variable {h h' h2 h0 h1:Hp} {q q' q2:HQ} {s s' s2:RS} {nd nd' nd2:List NodeD} {n:NodeD} {id lb hn:Nat} {L L' L2:LD} {R:Value→Hp→Prop} {b:List Nat} {ids:List Nat} {lim:Nat} {a:Sl} {sls:List Sl} {rows:List (List Nat)} {M:Mem} {cs:List Nat} {r:List Nat} {c:Nat} {w:Sl} {l:List Nat}
theorem By.ex (x:By h0 h q M w l) (e:Ex h q h' q'):By h0 h' q' M w l :=
 ⟨x.sep.keep e.kept fun b hb hn=>hn (x.own b hb).2,x.sl,fun b hb=>⟨(x.own b hb).1,e.out (x.sep.own_lt hb) (x.own b hb).2⟩⟩
theorem By.keepN (x:By h0 h q M w l) (k:Kept N h h'):By h0 h' q M w l:=⟨x.sep.keepN k,x.sl,x.own⟩
theorem By.len (x:By h0 h q M w l):w.n=l.length:=by have:=x.sl.len; rw [List.length_map] at this; omega
theorem By.reads (x:By h0 h q M w l):ReadsO h w.a (l.map bv):=slAt_reads (x.sl.slAt x.sep)
/-- More bytes behind them. -/
theorem By.addn (x:By h0 h q M w l) (fr:∀ b,h.size ≤ b→q.role b=.out) (h0le:h0.size ≤ h.size) {l2:List Nat} {bs:Option Addr} {m:Nat} (rd:ReadsO h bs (l2.map bv)) (hm:m=l2.length) (hl:l.length + l2.length ≤ 1099511627776) {e:TypeId} {K:Option Addr→Nat→Nat→Hp→Prop}
  (hK:∀ a' c' h2 M',By h0 h2 q M' ⟨a',w.n + m,c'⟩ (l ++ l2)→Kept M.own h h2→(∀ b,M'.own b→M.own b ∨ h.size ≤ b)→K a' (w.n + m) c' h2) :
  appSl e 1 1 #[.int .u8 0] w.a w.n w.c bs m h K:=by
 have hwn:=x.len
 subst hm
 refine ⟨l2.map bv,rd,by rw [List.length_map,Nat.mul_one],x.sl.app x.sep rfl (by rw [List.length_map,Nat.mul_one]) (fun v hv=>by obtain ⟨z,_,rfl⟩:=List.mem_map.1 hv; rfl) (by omega) (by omega) fun a' c' h2 ob cc p2 sl2 ch2=>?_⟩
 exact hK a' c' h2 (M.upd 0 ob cc) ⟨p2,by rw [List.map_append]; exact sl2,fun b hb=>(ch2.2 b hb).elim (x.own b) fun z=>⟨Nat.le_trans h0le z,fr b z⟩⟩ ch2.1 ch2.2
theorem Aft.keepO (a:Aft h q s nd L h' q' s' nd' L') {S:Nat→Prop} (k:Kept S h' h2) (hS:∀ b,S b→h.size ≤ b∧q'.role b=.out):Aft h q s nd L h2 q' s' nd' L' :=
 ⟨a.g.keepO k fun b e=>(hS b e).2,⟨a.ex.1,Nat.le_trans a.ex.2.1 k.1,fun b hb ho=>⟨(a.ex.2.2 b hb ho).1,(k.2 b (Nat.lt_of_lt_of_le hb a.ex.2.1) fun e=>by have:=(hS b e).1; omega).trans (a.ex.2.2 b hb ho).2⟩⟩,a.req,a.rlen,a.lim,a.len,a.fr,a.new,a.hd,a.c⟩
theorem Aft.pre (k:Kept N h h2) (g:Gs h q s nd) (a:Aft h2 q s nd L h' q' s' nd' L'):Aft h q s nd L h' q' s' nd' L' :=
 ⟨a.g,(Ex.of_kept k fun b hb=>g.st.fr hb).trans a.ex,a.req,a.rlen,a.lim,a.len,a.fr,a.new,a.hd,a.c⟩
/-- What each of the lists handed out adds. -/
def told2 (rows:List (List Nat)):List Nat:=(rows.map fun r=>[byt (r.length:Nat),byt (hi8 (r.length:Nat))] ++ r).flatten
/-- What a step tells behind its kind, and the list behind it. -/
def told1 (rows:List (List Nat)) (k:Int) (fr:Bool) (i m:Int) (b:List Nat):List Nat × List (List Nat) :=
 if k=5 then ([byt (if 4096 < b.length then 41 else 0)],if 4096 < b.length then rows else if fr=true then b :: rows else rows ++ [b])
 else if k=8 then ([byt (if InL rows.length i 1 then (if 4096 < b.length then 41 else 0) else 52)],if InL rows.length i 1∧b.length ≤ 4096 then rows.set i.toNat b else rows)
 else if k=9 then ([byt (if InL rows.length i 0 then (if 4096 < b.length then 41 else 0) else 52)],if InL rows.length i 0∧b.length ≤ 4096 then ins rows i.toNat b else rows)
 else if k=10 then ([byt (if InL rows.length i m then 0 else 52)],if InL rows.length i m then rows.take i.toNat ++ rows.drop (i.toNat + m.toNat) else rows)
 else if k=6 then (if rows=[] then ([byt 53],rows) else ([byt 0] ++ (rows[if fr=true then 0 else rows.length - 1]?).getD [],del rows (if fr=true then 0 else rows.length - 1)))
 else if k=7 then (if InL rows.length i 1 then ([byt 0] ++ (rows[i.toNat]?).getD []) else [byt 52],rows)
 else if k=11 then ([byt 0,byt ((if fr=true then (strk b rows m).2 else (strk b rows.reverse m).2:Nat):Int),byt (hi8 ((if fr=true then (strk b rows m).2 else (strk b rows.reverse m).2:Nat):Int))],if fr=true then (strk b rows m).1 else (strk b rows.reverse m).1.reverse)
 else if k=12 then (if InL rows.length i m then [byt 0,byt (((rows.drop i.toNat).take m.toNat).length:Nat),byt (hi8 (((rows.drop i.toNat).take m.toNat).length:Nat))] ++ told2 ((rows.drop i.toNat).take m.toNat) else [byt 52,byt ((0:Nat):Int),byt (hi8 ((0:Nat):Int))],rows)
 else if k=4 then ([byt (rows.length:Nat),byt (hi8 (rows.length:Nat))],rows)
 else ([],rows)
theorem told2_take {k:Nat} (h:rows[k]?=some r):told2 (rows.take (k + 1))=(told2 (rows.take k) ++ [byt (r.length:Nat),byt (hi8 (r.length:Nat))]) ++ r:=by
 unfold told2
 rw [RS.take_snoc h]
 simp
theorem told2_le (hr:∀ r ∈ rows,r.length ≤ 4096):(told2 rows).length ≤ 4098 * rows.length:=by
 induction rows with
 | nil=>simp [told2]
 | cons x t ih =>
  have h1:=hr x (List.mem_cons_self ..)
  have h2:=ih fun r h=>hr r (List.mem_cons_of_mem _ h)
  unfold told2 at h2 ⊢
  simp only [List.map_cons,List.flatten_cons,List.length_append,List.length_cons,List.length_nil] at h2 ⊢
  omega
theorem told_ok (o:Opn h q s nd lb hn L) {a:Sl} (sr:Src h q a b) (hbl:b.length < 140737488355328) (hrl:s.roots.length < 99999999) {k x1 x2 i m:Int} {fr:Bool}
  (hk:-9223372036854775808 ≤ k∧k < 9223372036854775808) (hi:-9223372036854775808 ≤ i∧i < 9223372036854775808) (hm:-9223372036854775808 ≤ m∧m < 9223372036854775808)
  (hroom:∃ ids,Lv nd s.roots ids∧room2 s.limit (1 + RS.liveS nd ids) (RS.liveB nd ids) (2 + wordsN b.length))
  (hR:∀ h' q' s' nd' L' M w,Aft h q s nd L h' q' s' nd' L'→By h h' q' M w (byt k :: (told1 L.rows k fr i m b).1)→L'.rows=(told1 L.rows k fr i m b).2→R (.slice w.a w.n w.c) h') :
  CallTo Try.prog 33 #[.pointer (some (ad lb)),.agg #[.int .i64 k,.int .i64 x1,.int .i64 x2,.bool fr,.int .i64 i,.int .i64 m,.slice a.a a.n a.c]] h R:=by
 obtain ⟨lv,hlv,hrm⟩:=hroom
 refine f33F_ok ?_
 unfold f33F
 refine Let_mk fun h1 e1=>?_
 have k1:Kept N h h1:=e1 ▸ kept_push _ _ _
 have row1:Row h1 h.size [.int .i64 k,.int .i64 x1,.int .i64 x2,.bool fr,.int .i64 i,.int .i64 m,.slice a.a a.n a.c]:=e1 ▸ row_new h #[.int .i64 k,.int .i64 x1,.int .i64 x2,.bool fr,.int .i64 i,.int .i64 m,.slice a.a a.n a.c] _
 rw [show nb h=ad h.size from rfl]
 refine ⟨k,cell_row row1 0,Let_mk fun h2 e2=>?_⟩
 have k2:Kept N h1 h2:=e2 ▸ kept_push _ _ _
 have row2:Row h2 h1.size [.int .u8 (IntKind.wrap .u8 k)]:=e2 ▸ row_new h1 #[.int .u8 (IntKind.wrap .u8 k)] _
 rw [show nb h1=ad h1.size from rfl]
 have k12:=kept_tr k1 k2
 have o2:=o.keepN k12
 have row:=kept_row k2 row1 _root_.id
 have cl:∀ (j:Nat) (v:Value),[Value.int .i64 k,.int .i64 x1,.int .i64 x2,.bool fr,.int .i64 i,.int .i64 m,.slice a.a a.n a.c][j]?=some v→cell h2 ((ad h.size).add j)=some v:=fun j v hv=>by
  rw [add_ad]; exact (cell_row row j).trans hv
 refine ⟨k,cell_row row 0,?_⟩
 have sr2:Src h2 q a b:=sr.ex (Ex.of_kept k12 fun b hb=>o.g.st.fr hb)
 have by0:∃ M,By h h2 q M ⟨some (ad h1.size),1,1⟩ [byt k]:=by
  refine ⟨⟨fun y=>if y=0 then some h1.size else none,fun y=>[bv (byt k)]⟩,⟨fun y c hy=>?_,fun y z c hy hz=>?_⟩,⟨rfl,fun e=>?_,fun c e=>?_⟩,?_⟩
  ·have hy:(if y=0 then some h1.size else none)=some c:=hy
   split at hy
   ·obtain rfl:=Option.some.inj hy
    rw [← bv_byt]; exact row2
   ·cases hy
  ·have hy:(if y=0 then some h1.size else none)=some c:=hy
   have hz:(if z=0 then some h1.size else none)=some c:=hz
   split at hy
   ·split at hz
    ·omega
    ·cases hz
   ·cases hy
  ·cases e
  ·obtain rfl:=Option.some.inj e
   exact ⟨rfl,Nat.le_refl _,[],rfl,rfl⟩
  ·rintro c ⟨y,hy⟩
   have hy:(if y=0 then some h1.size else none)=some c:=hy
   split at hy
   ·obtain rfl:=Option.some.inj hy
    exact ⟨k1.1,o.g.st.fr k1.1⟩
   ·cases hy
 obtain ⟨M,by0⟩:=by0
 -- a call is done, some bytes more are told
 have fin:∀ {g:Hp} {q' s' nd' L'} (l2:List Int),Aft h2 q s nd L g q' s' nd' L'→L'.rows=(told1 L.rows k fr i m b).2→l2.length ≤ 4→∀ {t e:TypeId} {K:Option Addr→Nat→Nat→Hp→Prop},
   (∀ g1,Kept N g g1→Aft h q s nd L g1 q' s' nd' L'→∀ a' c' h4 M',By h h4 q' M' ⟨a',1 + l2.length,c'⟩ (byt k :: l2.map byt)→Kept M.own g1 h4→(∀ b,M'.own b→M.own b ∨ g1.size ≤ b)→Aft h q s nd L h4 q' s' nd' L'→K a' (1 + l2.length) c' h4) →
   Let (g.push (.cells (l2.map fun v=>Value.int .u8 (IntKind.wrap .u8 v)).toArray t)) fun h5=>appSl e 1 1 #[.int .u8 0] (some (ad h1.size)) 1 1 (some (nb g)) l2.length h5 K:=fun {g q' s' nd' L'} l2 af er hl2 {t e K} hK=>Let_mk fun h5 e5=>by
  have k5:Kept N g h5:=e5 ▸ kept_push _ _ _
  have row5:Row h5 g.size (l2.map fun v=>Value.int .u8 (IntKind.wrap .u8 v)):=e5 ▸ row_new g (l2.map fun v=>Value.int .u8 (IntKind.wrap .u8 v)).toArray _
  have em:(l2.map fun v=>Value.int .u8 (IntKind.wrap .u8 v))=(l2.map byt).map bv:=by rw [List.map_map]; exact List.map_congr_left fun v _=>bv_byt v
  rw [em] at row5
  have by5:=(by0.ex af.ex).keepN k5
  have af5:=(Aft.pre k12 o.g af).keepN k5
  have hsz:=af5.ex.2.1
  refine by5.addn (w:=⟨some (ad h1.size),1,1⟩) (l2:=l2.map byt) (fun b hb=>af5.g.st.fr hb) hsz (row_reads row5) (by simp) (by simp; omega) fun a' c' h4 M' by4 k4 own4=>?_
  exact hK h5 k5 af5 a' c' h4 M' by4 k4 own4 (af5.keepO k4 fun b hb=>by5.own b hb)
 -- and that is all
 have all:∀ {g:Hp} {q' s' nd' L'} (l2:List Int),Aft h2 q s nd L g q' s' nd' L'→told1 L.rows k fr i m b=(l2.map byt,L'.rows)→l2.length ≤ 4→∀ {t e:TypeId},
   Let (g.push (.cells (l2.map fun v=>Value.int .u8 (IntKind.wrap .u8 v)).toArray t)) fun h5=>appSl e 1 1 #[.int .u8 0] (some (ad h1.size)) 1 1 (some (nb g)) l2.length h5 fun ra rn rc h6=>R (.slice ra rn rc) h6:=fun {g q' s' nd' L'} l2 af et hl2 {t e} =>
  fin l2 af (by rw [et]) hl2 fun g1 kg af1 a' c' h4 M' by4 k4 own4 af4=>hR h4 q' s' nd' L' M' ⟨a',1 + l2.length,c'⟩ af4 (by rw [et]; exact by4) (by rw [et])
 -- bytes of a block of the call's are told too
 have all2:∀ {g:Hp} {q' s' nd' L'} (l2:List Int) (a2:Sl) (r:List Nat),Aft h2 q s nd L g q' s' nd' L'→told1 L.rows k fr i m b=(l2.map byt ++ r,L'.rows)→l2.length ≤ 4→ReadsO g a2.a (r.map bv)→a2.n=r.length→r.length ≤ 4096→(∀ p,a2.a=some p→h2.size ≤ p.block∧p.block < g.size)→∀ {t e e2:TypeId},
   Let (g.push (.cells (l2.map fun v=>Value.int .u8 (IntKind.wrap .u8 v)).toArray t)) fun h5=>appSl e 1 1 #[.int .u8 0] (some (ad h1.size)) 1 1 (some (nb g)) l2.length h5 fun ra rn rc h6=>appSl e2 1 1 #[.int .u8 0] ra rn rc a2.a a2.n h6 fun ra rn rc h7=>R (.slice ra rn rc) h7:=fun {g q' s' nd' L'} l2 a2 r af et hl2 rd hn hr hp {t e e2}=>by
  refine fin l2 af (by rw [et]) hl2 fun g1 kg af1 a' c' h4 M' by4 k4 own4 af4=>?_
  have rd4:ReadsO h4 a2.a (r.map bv):=reads_kept2 k4 (reads_keptN kg rd) fun p hpa hn'=>⟨Nat.lt_of_lt_of_le (hp p hpa).2 kg.1,fun ho=>by have:=by0.sep.own_lt ho; have:=(hp p hpa).1; omega⟩
  refine by4.addn (w:=⟨a',1 + l2.length,c'⟩) (fun b hb=>af4.g.st.fr hb) af4.ex.2.1 rd4 hn (by simp; omega) fun a'' c'' h6 M'' by6 k6 own6=>?_
  exact hR h6 q' s' nd' L' M'' ⟨a'',1 + l2.length + a2.n,c''⟩ (af4.keepO k6 fun b hb=>by4.own b hb) (by rw [et]; exact by6) (by rw [et])
 have stay:Aft h2 q s nd L h2 q s nd L:=Aft.refl o2 o2.g (Ex.refl _ _)
 have rl4:∀ r ∈ L.rows,r.length ≤ 4096:=fun r hr=>by
  obtain ⟨j,hj⟩:=List.mem_iff_getElem?.1 hr
  exact (o.c.bn j r hj).2.len
 by_cases hk5:k=5
 ·subst hk5
  refine Cond_t rfl ⟨fr,cl 3 _ rfl,a,cl 6 _ rfl,lpush o2 sr2 hbl hrl (fun hl h' q' af=>⟨_,rfl,lnum ⟨_,rfl,all [41] af ?_ (by simp)⟩⟩) (fun hl _ _ _ _ _ hno=>absurd hrm (hno _ hlv)) fun h' q' s' nd' L' ok af er _=>⟨_,rfl,lnum ⟨_,rfl,all [0] af ?_ (by simp)⟩⟩⟩
  ·simp [told1,hl]
  ·have:=ok.len
   simp [told1,er,Nat.not_lt.2 this]
 refine Cond_f (by rw [beq_eq_false_iff_ne]; exact hk5) ?_
 by_cases hk8:k=8
 ·subst hk8
  refine Cond_t rfl ⟨i,cl 4 _ rfl,a,cl 6 _ rfl,lsetr o2 sr2 hbl hi (fun hin=>⟨_,rfl,lnum ⟨_,rfl,all [52] stay ?_ (by simp)⟩⟩) (fun hin hl h' q' af=>⟨_,rfl,lnum ⟨_,rfl,all [41] af ?_ (by simp)⟩⟩) (fun _ hl _ _ _ _ hno=>absurd hrm.1 (hno _ hlv)) fun h' q' s' nd' L' hin ok af _ er _=>⟨_,rfl,lnum ⟨_,rfl,all [0] af ?_ (by simp)⟩⟩⟩
  ·simp [told1,hin]
  ·simp [told1,hin,hl,Nat.not_le.2 hl]
  ·have:=ok.len
   simp [told1,er,hin,this,Nat.not_lt.2 this]
 refine Cond_f (by rw [beq_eq_false_iff_ne]; exact hk8) ?_
 by_cases hk9:k=9
 ·subst hk9
  refine Cond_t rfl ⟨i,cl 4 _ rfl,a,cl 6 _ rfl,linsert o2 sr2 hbl hrl hi (fun hin=>⟨_,rfl,lnum ⟨_,rfl,all [52] stay ?_ (by simp)⟩⟩) (fun hin hl h' q' af=>⟨_,rfl,lnum ⟨_,rfl,all [41] af ?_ (by simp)⟩⟩) (fun _ hl _ _ _ _ _ hno=>absurd hrm (hno _ hlv)) fun h' q' s' nd' L' hin ok af er _=>⟨_,rfl,lnum ⟨_,rfl,all [0] af ?_ (by simp)⟩⟩⟩
  ·simp [told1,hin]
  ·simp [told1,hin,hl,Nat.not_le.2 hl]
  ·have:=ok.len
   simp [told1,er,hin,this,Nat.not_lt.2 this]
 refine Cond_f (by rw [beq_eq_false_iff_ne]; exact hk9) ?_
 by_cases hk10:k=10
 ·subst hk10
  refine Cond_t rfl ⟨i,cl 4 _ rfl,m,cl 5 _ rfl,lcut o2 hi (fun hin=>⟨_,rfl,lnum ⟨_,rfl,all [52] stay ?_ (by simp)⟩⟩) fun h' q' s' nd' L' hin af _ er=>⟨_,rfl,lnum ⟨_,rfl,all [0] af ?_ (by simp)⟩⟩⟩
  ·simp [told1,hin]
  ·simp [told1,er,hin]
 refine Cond_f (by rw [beq_eq_false_iff_ne]; exact hk10) ?_
 by_cases hk6:k=6
 ·subst hk6
  refine Cond_t rfl ⟨fr,cl 3 _ rfl,lpop o2 (fun hemp=>⟨⟨_,_,_⟩,_,rfl,lnum ⟨_,rfl,all2 [53] ⟨none,0,0⟩ [] stay ?_ (by simp) rfl rfl (by simp) (fun p hp=>by cases hp)⟩⟩) fun r c h' q' s' nd' L' hr af _ er row hc ho=>⟨⟨_,_,_⟩,_,rfl,lnum ⟨_,rfl,all2 [0] ⟨some (ad c),r.length,r.length⟩ r af ?_ (by simp) (row_reads row) rfl (rl4 r (List.mem_of_getElem? hr)) (fun p hp=>?_)⟩⟩⟩
  ·simp [told1,hemp]
  ·have hne:L.rows ≠ []:=fun e=>by rw [e] at hr; simp at hr
   unfold told1
   rw [if_neg (by omega),if_neg (by omega),if_neg (by omega),if_neg (by omega),if_pos rfl,if_neg hne,hr,er]
   rfl
  ·obtain rfl:=Option.some.inj hp
   exact ⟨hc,row_lt row⟩
 refine Cond_f (by rw [beq_eq_false_iff_ne]; exact hk6) ?_
 by_cases hk7:k=7
 ·subst hk7
  refine Cond_t rfl ⟨i,cl 4 _ rfl,lgetr o2 hi (fun hin=>⟨⟨_,_,_⟩,_,rfl,lnum ⟨_,rfl,all2 [52] ⟨none,0,0⟩ [] stay ?_ (by simp) rfl rfl (by simp) (fun p hp=>by cases hp)⟩⟩) fun r c h' hin hr row hc kk=>⟨⟨_,_,_⟩,_,rfl,lnum ⟨_,rfl,all2 [0] ⟨some (ad c),r.length,r.length⟩ r (stay.keepN kk) ?_ (by simp) (row_reads row) rfl (rl4 r (List.mem_of_getElem? hr)) (fun p hp=>?_)⟩⟩⟩
  ·simp [told1,hin]
  ·unfold told1
   rw [if_neg (by omega),if_neg (by omega),if_neg (by omega),if_neg (by omega),if_neg (by omega),if_pos rfl,if_pos hin,hr]
   rfl
  ·obtain rfl:=Option.some.inj hp
   exact ⟨hc,row_lt row⟩
 refine Cond_f (by rw [beq_eq_false_iff_ne]; exact hk7) ?_
 by_cases hk11:k=11
 ·subst hk11
  refine Cond_t rfl ⟨fr,cl 3 _ rfl,m,cl 5 _ rfl,a,cl 6 _ rfl,lstrike o2 hm sr2 fun h' q' s' nd' L' af _ er=>⟨_,_,rfl,lnum ⟨_,rfl,by omega,all [0,_,hi8 _] af ?_ (by simp)⟩⟩⟩
  unfold told1
  rw [if_neg (by omega),if_neg (by omega),if_neg (by omega),if_neg (by omega),if_neg (by omega),if_neg (by omega),if_pos rfl,er]
  rfl
 refine Cond_f (by rw [beq_eq_false_iff_ne]; exact hk11) ?_
 by_cases hk12:k=12
 ·subst hk12
  have loop:∀ {g:Hp} {q':HQ} {s':RS} {nd':List NodeD} {L':LD} {a2:Sl} {Mr:Mem} {cs:List Nat} {T:List (List Nat)} {w:Sl} {M1:Mem} {l0:List Nat},By h g q' M1 w (byt 12 :: l0)→RowsAt h2 g a2 Mr cs T→(∀ b,M1.own b→¬ Mr.own b)→Aft h q s nd L g q' s' nd' L'→told1 L.rows 12 fr i m b=(l0 ++ told2 T,L'.rows)→l0.length ≤ 4→T.length ≤ 2097152→(∀ r ∈ T,r.length ≤ 4096) →
    LoopEv (evC Try.prog tab lv33 (sub [1,1,0,1,0,1,1,1,1,1,1,1,1,1,1,1,1,1,1,1,0,1,1,1,0,0] body33)) (contAt Try.prog tab lv33 [1,1,0,1,0,1,1,1,1,1,1,1,1,1,1,1,1,1,1,1,0,1,1,1,0] body33 [] (bodyK Try.prog Try.f33 [] R)) [(5,.slice w.a w.n w.c),(16,.slice a2.a a2.n a2.c),(18,.int .i64 0)] 207 g:=fun {g q' s' nd' L' a2 Mr cs T w M1 l0} byg ra hd af et hl0 hT hT4=>by
   have an:=ra.n_eq
   refine f33L1_rule (s5:=w) (s16:=a2) (fun p s5 s16 s18 h4=>∃ (j:Nat) (M2:Mem),j ≤ T.length∧p=T.length - j∧a2=s16∧s18=(j:Int)∧By h h4 q' M2 s5 ((byt 12 :: l0) ++ told2 (T.take j))∧RowsAt h2 h4 a2 Mr cs T∧(∀ b,M2.own b→¬ Mr.own b)∧Aft h q s nd L h4 q' s' nd' L') T.length
    ⟨0,M1,Nat.zero_le _,rfl,rfl,rfl,by simpa [told2] using byg,ra,hd,af⟩ ?_
   rintro p s5 s16 s18 g0 h4 ⟨j,M2,hj,rfl,rfl,rfl,by4,ra4,hd4,af4⟩
   unfold f33L1
   rw [an]
   refine Cond_dec (fun hlt=>?_) fun hge=>?_
   ·have hjl:j < T.length:=by omega
    have hTj:T[j]?=some (T[j]'hjl):=List.getElem?_eq_getElem hjl
    generalize T[j]'hjl=r at hTj
    have hr4:=hT4 r (List.mem_of_getElem? hTj)
    obtain ⟨c,bk,hcs,ha,hc2,row,_⟩:=ra4.get hTj
    have tl:=told2_le (rows:=T.take j) fun r hr=>hT4 r (List.mem_of_mem_take hr)
    have hjt:(T.take j).length ≤ 2097152:=by rw [List.length_take]; omega
    have bnd:(0:Int) ≤ (j:Int)∧(j:Int) < ((T.length:Nat):Int):=⟨by omega,by omega⟩
    refine ⟨bnd,PtrOk_of ha ⟨⟨_,_,_⟩,by rw [Int.toNat_natCast]; exact hc2,bnd,PtrOk_of ha ⟨⟨_,_,_⟩,by rw [Int.toNat_natCast]; exact hc2,by omega,Let_mk fun h5 e5=>?_⟩⟩⟩
    have k5:Kept N h4 h5:=e5 ▸ kept_push _ _ _
    have row5:Row h5 h4.size [.int .u8 (IntKind.wrap .u8 ((r.length:Nat):Int)),.int .u8 (IntKind.wrap .u8 (hi8 ((r.length:Nat):Int)))]:=e5 ▸ row_new h4 #[.int .u8 (IntKind.wrap .u8 ((r.length:Nat):Int)),.int .u8 (IntKind.wrap .u8 (hi8 ((r.length:Nat):Int)))] _
    rw [bv_byt,bv_byt] at row5
    have af5:=af4.keepN k5
    refine (by4.keepN k5).addn (l2:=[byt (r.length:Nat),byt (hi8 (r.length:Nat))]) (fun b hb=>af5.g.st.fr hb) af5.ex.2.1 (row_reads row5) rfl (by simp; omega) fun a6 c6 h6 M6 by6 k6 own6=>?_
    have ra5:=ra4.keepN k5
    have ra6:=ra5.keep k6 fun b hb ho=>hd4 b ho hb
    have hd6:∀ b,M6.own b→¬ Mr.own b:=fun b hb hr'=>(own6 b hb).elim (fun z=>hd4 b z hr') fun z=>by have:=ra5.sep.own_lt hr'; omega
    have af6:=af5.keepO k6 fun b hb=>by4.own b hb
    obtain ⟨c',bk',hcs',ha',hc2',row',_⟩:=ra6.get hTj
    refine ⟨bnd,PtrOk_of ha' ⟨⟨_,_,_⟩,by rw [Int.toNat_natCast]; exact hc2',?_⟩⟩
    refine by6.addn (w:=⟨a6,s5.n + 2,c6⟩) (l2:=r) (fun b hb=>af6.g.st.fr hb) af6.ex.2.1 (row_reads row') rfl (by simp; omega) fun a7 c7 h7 M7 by7 k7 own7=>?_
    refine ⟨T.length - (j + 1),by omega,j + 1,M7,hjl,rfl,rfl,by rw [wrap_i64' (by omega) (by omega)]; rfl,?_,ra6.keep k7 fun b hb ho=>hd6 b ho hb,fun b hb hr'=>(own7 b hb).elim (fun z=>hd6 b z hr') fun z=>(by have:=ra6.sep.own_lt hr'; omega),af6.keepO k7 fun b hb=>by6.own b hb⟩
    rw [told2_take hTj,← List.append_assoc,← List.append_assoc]
    exact by7
   ·obtain rfl:j=T.length:=by omega
    rw [List.take_length] at by4
    exact hR h4 q' s' nd' L' M2 s5 af4 (by rw [et]; exact by4) (by rw [et])
  refine Cond_t rfl ⟨i,cl 4 _ rfl,m,cl 5 _ rfl,lslice o2 hi (fun hin=>⟨⟨_,_,_⟩,_,rfl,lnum ⟨_,rfl,by omega,?_⟩⟩) fun a2 Mr cs h' hin ra kk=>⟨_,_,rfl,lnum ⟨_,rfl,by omega,?_⟩⟩⟩
  ·have et:told1 L.rows 12 fr i m b=([(52:Int),((0:Nat):Int),hi8 ((0:Nat):Int)].map byt,L.rows):=by simp [told1,hin]
   refine fin [52,((0:Nat):Int),hi8 ((0:Nat):Int)] stay (by rw [et]) (by simp) fun g1 kg af1 a' c' h4 M' by4 k4 own4 af4=>?_
   refine loop (w:=⟨a',1 + 3,c'⟩) (a2:=⟨none,0,0⟩) (T:=[]) (l0:=[(52:Int),((0:Nat):Int),hi8 ((0:Nat):Int)].map byt) by4 (RowsAt.nil h2 h4) (fun b hb ⟨y,hy⟩=>by cases hy) af4 (by rw [et]; simp [told2]) (by simp) (by simp) (by simp)
  ·have et:told1 L.rows 12 fr i m b=([(0:Int),((a2.n:Nat):Int),hi8 ((a2.n:Nat):Int)].map byt ++ told2 ((L.rows.drop i.toNat).take m.toNat),L.rows):=by
    rw [ra.n_eq]
    unfold told1
    rw [if_neg (by omega),if_neg (by omega),if_neg (by omega),if_neg (by omega),if_neg (by omega),if_neg (by omega),if_neg (by omega),if_pos rfl,if_pos hin]
    rfl
   have ol:=o.len
   refine fin [0,((a2.n:Nat):Int),hi8 ((a2.n:Nat):Int)] (stay.keepN kk) (by rw [et]) (by simp) fun g1 kg af1 a' c' h4 M' by4 k4 own4 af4=>?_
   have hdis:∀ b,M.own b→¬ Mr.own b:=fun b hb hr'=>by have:=by0.sep.own_lt hb; have:=ra.new b hr'; omega
   refine loop (w:=⟨a',1 + 3,c'⟩) (l0:=[(0:Int),((a2.n:Nat):Int),hi8 ((a2.n:Nat):Int)].map byt) by4 ((ra.keepN kg).keep k4 fun b hb ho=>hdis b ho hb) (fun b hb hr'=>(own4 b hb).elim (fun z=>hdis b z hr') fun z=>by have:=(ra.keepN kg).sep.own_lt hr'; omega) af4 et (by simp) (by rw [List.length_take,List.length_drop]; omega) fun r hr=>rl4 r (List.mem_of_mem_drop (List.mem_of_mem_take hr))
 refine Cond_f (by rw [beq_eq_false_iff_ne]; exact hk12) ?_
 by_cases hk4:k=4
 ·subst hk4
  exact Cond_t rfl (llen o2 ⟨_,rfl,by omega,all [((L.rows.length:Nat):Int),hi8 ((L.rows.length:Nat):Int)] stay (by simp [told1]) (by simp)⟩)
 refine Cond_f (by rw [beq_eq_false_iff_ne]; exact hk4) ?_
 have et:told1 L.rows k fr i m b=([],L.rows):=by
  unfold told1
  rw [if_neg hk5,if_neg hk8,if_neg hk9,if_neg hk10,if_neg hk6,if_neg hk7,if_neg hk11,if_neg hk12,if_neg hk4]
 exact hR h2 q s nd L M ⟨some (ad h1.size),1,1⟩ (Aft.pre k12 o.g stay) (by rw [et]; exact by0) (by rw [et])
end
end Go.Ev
set_option linter.all false
set_option maxRecDepth 1000000
namespace Go.Ev
open Go.Proofs
/-- What lists come to, at most. -/
def wt (rows:List (List Nat)):Nat:=(rows.map fun r=>16 + r.length / 8).sum
theorem wt_app (a c:List (List Nat)):wt (a ++ c)=wt a + wt c:=by unfold wt; simp
theorem wt_cons (r:List Nat) (c:List (List Nat)):wt (r :: c)=16 + r.length / 8 + wt c:=by unfold wt; simp
theorem wt_rev (a:List (List Nat)):wt a.reverse=wt a:=by
 induction a with
 | nil=>rfl
 | cons r t ih=>rw [List.reverse_cons,wt_app,wt_cons,ih,wt_cons]; unfold wt; simp; omega
theorem wt_take_drop (a:List (List Nat)) (i:Nat):wt (a.take i) + wt (a.drop i)=wt a:=by rw [← wt_app,List.take_append_drop]
theorem wt_drop_le (a:List (List Nat)) (i j:Nat) (h:i ≤ j):wt (a.drop j) ≤ wt (a.drop i):=by
 have:=wt_take_drop (a.drop i) (j - i)
 rw [List.drop_drop,show i + (j - i)=j by omega] at this
 omega
theorem wt_strk (b:List Nat):∀ (l:List (List Nat)) (m:Int),wt (strk b l m).1 ≤ wt l
 | [],_=>Nat.le_refl _
 | r :: t,m=>by
  unfold strk
  split
  ·have:=wt_strk b t (m - 1); rw [wt_cons]; show wt (strk b t (m - 1)).1 ≤ _; omega
  ·have:=wt_strk b t m; show wt (r :: (strk b t m).1) ≤ _; rw [wt_cons,wt_cons]; omega
theorem wt_told (rows:List (List Nat)) (k:Int) (fr:Bool) (i m:Int) (b:List Nat):wt (told1 rows k fr i m b).2 ≤ wt rows + (16 + b.length / 8):=by
 have td:∀ i j,i ≤ j→wt (rows.take i ++ rows.drop j) ≤ wt rows:=fun i j h=>by
  have h1:=wt_take_drop rows i
  have h2:=wt_drop_le rows i j h
  rw [wt_app]; omega
 unfold told1
 split
 ·show wt (if 4096 < b.length then rows else if fr=true then b :: rows else rows ++ [b]) ≤ _
  split
  ·omega
  ·split
   ·rw [wt_cons]; omega
   ·rw [wt_app]; unfold wt; simp
 split
 ·show wt (if InL rows.length i 1∧b.length ≤ 4096 then rows.set i.toNat b else rows) ≤ _
  split
  ·rename_i hin
   have hl:i.toNat < rows.length:=by have:=hin.1.2.2.2; have:=hin.1.1; omega
   rw [List.set_eq_take_append_cons_drop,if_pos hl,wt_app,wt_cons]
   have h1:=wt_take_drop rows i.toNat
   have h2:=wt_drop_le rows i.toNat (i.toNat + 1) (by omega)
   omega
  ·omega
 split
 ·show wt (if InL rows.length i 0∧b.length ≤ 4096 then ins rows i.toNat b else rows) ≤ _
  split
  ·unfold ins
   have h1:=wt_take_drop rows i.toNat
   rw [wt_app,wt_cons]; omega
  ·omega
 split
 ·show wt (if InL rows.length i m then rows.take i.toNat ++ rows.drop (i.toNat + m.toNat) else rows) ≤ _
  split
  ·have:=td i.toNat (i.toNat + m.toNat) (by omega); omega
  ·omega
 split
 ·split
  ·show wt rows ≤ _; omega
  ·show wt (del rows _) ≤ _
   unfold del
   have:=td (if fr=true then 0 else rows.length - 1) ((if fr=true then 0 else rows.length - 1) + 1) (by omega)
   omega
 split
 ·show wt rows ≤ _; omega
 split
 ·show wt (if fr=true then (strk b rows m).1 else (strk b rows.reverse m).1.reverse) ≤ _
  split
  ·have:=wt_strk b rows m; omega
  ·rw [wt_rev]
   have:=wt_strk b rows.reverse m
   rw [wt_rev] at this; omega
 split
 ·show wt rows ≤ _; omega
 split
 ·show wt rows ≤ _; omega
 ·show wt rows ≤ _; omega
theorem wt_ge:∀ rows:List (List Nat),4 * rows.length + rowS rows + rowB rows ≤ wt rows
 | []=>by simp [rowS,rowB,wt]
 | r :: t=>by
  have:=wt_ge t
  unfold rowS rowB wt at *
  simp only [List.map_cons,List.sum_cons,List.length_cons] at *
  have h1:=wordsN_le r.length
  have h2:cntS (2 + wordsN r.length) + cntB (2 + wordsN r.length) ≤ 3 + wordsN r.length:=by unfold cntS cntB; split <;> omega
  omega
theorem room_wt {S B z:Nat} (h1:S + B ≤ 131200) (h2:z ≤ 131200):room2 1048576 S B z:=by
 unfold room2 roomK cntS cntB
 constructor
 ·split
  ·omega
  ·omega
 ·rw [if_pos (by omega)]
  split <;> omega
theorem freeAt_of {l:List (Option Nat)}:∀ {m:Nat},(∀ j,j < m→l.getD j none ≠ none)→l.getD m none=none→RS.freeAt l=m:=by
 induction l with
 | nil =>
  intro m h _
  cases m with
  | zero=>rfl
  | succ m=>exact absurd rfl (h 0 (by omega))
 | cons x t ih =>
  intro m h h2
  cases m with
  | zero =>
   have:x=none:=h2
   subst this; rfl
  | succ m =>
   have h0:x ≠ none:=h 0 (by omega)
   cases x with
   | none=>exact absurd rfl h0
   | some x =>
    show RS.freeAt t + 1=m + 1
    rw [ih (m:=m) (fun j hj=>h (j + 1) (by omega)) h2]
/-- Some lists on one heap (two at most), each held by a handle. -/
structure Duo (m:Nat) (h:Hp) (q:HQ) (s:RS) (nd:List NodeD) (lb:Nat→Nat) (L:Nat→LD):Prop where
 g:Gs h q s nd
 o:∀ k,k < m→Opn h q s nd (lb k) (k + 1) (L k)
 dis:∀ j k,j < m→k < m→j ≠ k→∀ y,y ∈ (L j).all→y ∉ (L k).all
 rt:∀ j,s.roots.getD j none=if j < m then some (L j).hd else none
 rl:s.roots.length ≤ 3
 lim:s.limit=1048576
 m2:m ≤ 2
def idsM (L:Nat→LD):Nat→List Nat
 | 0=>[]
 | m + 1=>idsM L m ++ (L m).all
def wtM (L:Nat→LD):Nat→Nat
 | 0=>0
 | m + 1=>wtM L m + wt (L m).rows
section
variable {h h' h2 h0 h1:Hp} {q q' q2:HQ} {s s' s2:RS} {nd nd' nd2:List NodeD} {n:NodeD} {id hn m:Nat} {L:Nat→LD} {L' L2:LD} {R:Value→Hp→Prop} {b:List Nat} {ids:List Nat} {lb:Nat→Nat}
theorem mem_idsM {x:Nat}:∀ {m:Nat},x ∈ idsM L m ↔ ∃ j,j < m∧x ∈ (L j).all
 | 0=>⟨fun h=>(by cases h),fun ⟨j,hj,_⟩=>by omega⟩
 | m + 1=>by
  show x ∈ idsM L m ++ (L m).all ↔ _
  rw [List.mem_append,mem_idsM (m:=m)]
  constructor
  ·rintro (⟨j,hj,hx⟩ | hx)
   ·exact ⟨j,by omega,hx⟩
   ·exact ⟨m,by omega,hx⟩
  ·rintro ⟨j,hj,hx⟩
   by_cases e:j=m
   ·subst e; exact .inr hx
   ·exact .inl ⟨j,by omega,hx⟩
theorem Duo.nod (x:Duo m h q s nd lb L):∀ j,j ≤ m→(idsM L j).Nodup
 | 0,_=>List.nodup_nil
 | j + 1,hj=>List.nodup_append.2 ⟨x.nod j (by omega),(x.o j (by omega)).c.dis,fun a ha c hc e=>by
  obtain ⟨k,hk,hx⟩:=mem_idsM.1 ha
  exact x.dis k j (by omega) (by omega) (by omega) a hx (e ▸ hc)⟩
theorem Duo.lv (x:Duo m h q s nd lb L):Lv nd s.roots (idsM L m):=by
 refine Lv.of (x.nod m (Nat.le_refl _)) (fun id hid h0=>?_) (fun y hy n hn z hz h0=>?_) fun y hy=>?_
 ·obtain ⟨j,hj⟩:=mem_roots.1 hid
  rw [x.rt] at hj
  split at hj
  ·rename_i hj2
   rw [← Option.some.inj hj]
   exact mem_idsM.2 ⟨j,hj2,List.mem_cons_self ..⟩
  ·cases hj
 ·obtain ⟨j,hj,hx⟩:=mem_idsM.1 hy
  exact mem_idsM.2 ⟨j,hj,(x.o j hj).c.closed hx hn hz h0⟩
 ·obtain ⟨j,hj,hx⟩:=mem_idsM.1 hy
  exact (x.o j hj).rch hx
theorem Duo.free (x:Duo m h q s nd lb L):RS.freeAt s.roots=m :=
 freeAt_of (fun j hj=>by rw [x.rt,if_pos hj]; simp) (by rw [x.rt,if_neg (by omega)])
theorem Duo.live (x:Duo m h q s nd lb L):∀ j,j ≤ m→RS.liveS nd (idsM L j) + RS.liveB nd (idsM L j) ≤ 4 * j + wtM L j
 | 0,_=>by show RS.liveS nd [] + RS.liveB nd [] ≤ _; simp [RS.liveS,RS.liveB]
 | j + 1,hj=>by
  have ih:=x.live j (by omega)
  obtain ⟨a1,a2⟩:=live_all (x.o j (by omega)).c
  have g0:=wt_ge (L j).rows
  show RS.liveS nd (idsM L j ++ (L j).all) + RS.liveB nd (idsM L j ++ (L j).all) ≤ 4 * (j + 1) + (wtM L j + wt (L j).rows)
  rw [(live_append _ _).1,(live_append _ _).2,a1,a2]
  omega
theorem Duo.room (x:Duo m h q s nd lb L) (hw:wtM L m ≤ 131150) {z:Nat} (hz:z ≤ 131200):∃ ids,Lv nd s.roots ids∧room2 s.limit (1 + RS.liveS nd ids) (RS.liveB nd ids) z:=by
 have:=x.live m (Nat.le_refl _)
 have:=x.m2
 refine ⟨_,x.lv,?_⟩
 rw [x.lim]
 exact room_wt (by omega) hz
/-- A call on one of them. -/
def setLD (L:Nat→LD) (k:Nat) (L':LD):Nat→LD:=fun j=>if j=k then L' else L j
theorem setLD_self {k:Nat}:setLD L k L' k=L':=if_pos rfl
theorem setLD_ne {j k:Nat} (h:j ≠ k):setLD L k L' j=L j:=if_neg h
theorem Duo.aft (x:Duo m h q s nd lb L) {k:Nat} (hk:k < m) (a:Aft h q s nd (L k) h' q' s' nd' L'):Duo m h' q' s' nd' lb (setLD L k L'):=by
 have hh:∀ j,(setLD L k L' j).hd=(L j).hd:=fun j=>by
  unfold setLD
  split
  ·rename_i e; rw [e]; exact a.hd
  ·rfl
 have dn:∀ y,y ∈ L'.all→∀ j,j < m→j ≠ k→y ∉ (L j).all:=fun y hy j hj hne hy'=>by
  rcases a.new y hy with z | z
  ·exact x.dis k j hk hj (fun e=>hne e.symm) y z hy'
  ·have:=x.g.lt ((x.o j hj).here hy'); omega
 refine ⟨a.g,fun j hj=>?_,fun j j2 hj hj2 hne y hy hy'=>?_,fun j=>?_,?_,a.lim.trans x.lim,x.m2⟩
 ·unfold setLD
  split
  ·rename_i e; subst e; exact a.opn (x.o j hj)
  ·rename_i e; exact a.other (x.o j hj) (x.dis j k hj hk e)
 ·by_cases e:j=k
  ·subst e
   rw [setLD_self] at hy
   rw [setLD_ne (fun e=>hne e.symm)] at hy'
   exact dn y hy j2 hj2 (fun e=>hne e.symm) hy'
  ·rw [setLD_ne e] at hy
   by_cases e2:j2=k
   ·subst e2
    rw [setLD_self] at hy'
    exact dn y hy' j hj hne hy
   ·rw [setLD_ne e2] at hy'
    exact x.dis j j2 hj hj2 hne y hy hy'
 ·rw [a.req,x.rt]
  split
  ·rw [hh j]
  ·rfl
 ·have:=a.rlen; have:=x.free; have:=x.rl; have:=x.m2; omega
theorem Duo.keepO (x:Duo m h q s nd lb L) {S:Nat→Prop} (k:Kept S h h') (hS:∀ b,S b→q.role b=.out) (hl:∀ j,j < m→¬ S (lb j)):Duo m h' q s nd lb L :=
 ⟨x.g.keepO k hS,fun j hj=>(have o:=x.o j hj; ⟨o.g.keepO k hS,⟨kept_row k o.l.row (hl j hj),o.l.out⟩,o.pos,o.lt,o.held,o.c⟩),x.dis,x.rt,x.rl,x.lim,x.m2⟩
theorem Duo.keepN (x:Duo m h q s nd lb L) (k:Kept N h h'):Duo m h' q s nd lb L:=x.keepO k (fun _ e=>e.elim) fun _ _ e=>e
/-- The heap has moved its objects; all is there. -/
theorem Duo.gc (x:Duo m h q s nd lb L) (g:Gs h' q' s' nd) (er:s'.roots=s.roots) (el:s'.limit=s.limit) (ex:Ex h q h' q'):Duo m h' q' s' nd lb L :=
 ⟨g,fun j hj=>(have o:=x.o j hj; ⟨g,o.l.ex ex,o.pos,o.lt,by rw [er]; exact o.held,o.c⟩),x.dis,fun j=>by rw [er]; exact x.rt j,by rw [er]; exact x.rl,el.trans x.lim,x.m2⟩
theorem Duo.rootsN (x:Duo 2 h q s nd lb L):s.rootsN=2:=by
 have h0:=x.rt 0
 have h1:=x.rt 1
 have h2:=x.rt 2
 have hl:=x.rl
 unfold RS.rootsN
 generalize s.roots=l at h0 h1 h2 hl
 match l with
 | []=>simp at h0
 | [_]=>simp at h1
 | [some a,some c]=>rfl
 | [none,c]=>simp at h0
 | [some a,none]=>simp at h1
 | [a,c,some d]=>simp at h2
 | [some a,some c,none]=>rfl
 | [none,c,none]=>simp at h0
 | [some a,none,none]=>simp at h1
 | _ :: _ :: _ :: _ :: _=>simp at hl
def setN (f:Nat→Nat) (k:Nat) (x:Nat):Nat→Nat:=fun j=>if j=k then x else f j
/-- One list more. -/
theorem Duo.new (x:Duo m h q s nd lb L) (hm:m < 2) (hw:wtM L m ≤ 131150)
  (hok:∀ h' q' s' nd' b L',Duo (m + 1) h' q' s' nd' (setN lb m b) (setLD L m L')→L'.rows=[]→Ex h q h' q'→h.size ≤ b→R (.tuple #[.pointer (some (ad b)),.int .i64 0]) h') :
  CallTo Try.prog 12 #[.pointer (some (ad q.hb))] h R:=by
 have hrl:=x.rl
 have hf:=x.free
 refine lnew x.g (by omega) (fun h' q' s' g er el ex hr=>absurd ?_ (hr _ x.lv)) fun h' q' s' b o er el ex hb _=>hok h' q' s' _ b ⟨nd.length,[],[],[]⟩ ⟨o.g,fun j hj=>?_,fun j k hj hk hne y hy hy'=>?_,fun j=>?_,?_,el.trans x.lim,by omega⟩ rfl ex hb
 ·have:=x.live m (Nat.le_refl _)
  rw [x.lim]
  unfold roomK
  rw [if_pos (by omega)]
  omega
 ·by_cases e:j=m
  ·subst e
   rw [setLD_self]
   unfold setN
   rw [if_pos rfl]
   rw [hf] at o
   exact o
  ·have oj:=x.o j (by omega)
   rw [setLD_ne e]
   unfold setN
   rw [if_neg e]
   refine ⟨o.g,oj.l.ex ex,oj.pos,oj.lt,?_,oj.c.keep fun y hy=>List.getElem?_append_left (oj.g.lt (oj.here hy))⟩
   rw [er,rootL_get,if_neg (by rw [hf]; omega)]
   exact oj.held
 ·have key:∀ j,j < m→∀ y,y ∈ (L j).all→y ∉ (⟨nd.length,[],[],[]⟩:LD).all:=fun j hj y hy hy'=>by
   have h1:=x.g.lt ((x.o j hj).here hy)
   have h2:y=nd.length:=by
    have:y ∈ [nd.length]:=hy'
    simpa using this
   omega
  by_cases e:j=m
  ·subst e
   rw [setLD_self] at hy
   rw [setLD_ne (fun e=>hne e.symm)] at hy'
   exact key k (by omega) y hy' hy
  ·rw [setLD_ne e] at hy
   by_cases e2:k=m
   ·subst e2
    rw [setLD_self] at hy'
    exact key j (by omega) y hy hy'
   ·rw [setLD_ne e2] at hy'
    exact x.dis j k (by omega) (by omega) hne y hy hy'
 ·rw [er,rootL_get,hf]
  by_cases e:j=m
  ·subst e
   rw [if_pos rfl,if_pos (by omega),setLD_self]
  ·rw [if_neg e,x.rt,setLD_ne e]
   by_cases hj:j < m
   ·rw [if_pos hj,if_pos (by omega)]
   ·rw [if_neg hj,if_neg (by omega)]
 ·rw [er]
  have:=rootL_len3 s.roots nd.length
  omega
/-! ### Two heaps -/
structure Two (S:Nat→Prop) (h1 h:Hp) (m:Nat) (q:HQ) (s:RS) (nd:List NodeD) (lb:Nat→Nat) (L:Nat→LD) (m':Nat) (q':HQ) (s':RS) (nd':List NodeD) (lb':Nat→Nat) (L':Nat→LD):Prop where
 a:Duo m h q s nd lb L
 b:Duo m' h q' s' nd' lb' L'
 dis:∀ x,q.role x ≠ .out→q'.role x=.out
 la:∀ k,k < m→q'.role (lb k)=.out
 lc:∀ k,k < m'→q.role (lb' k)=.out
 k:Kept S h1 h
 fa:Frsh h1 q
 fb:Frsh h1 q'
 ha:∀ k,k < m→h1.size ≤ lb k
 hc:∀ k,k < m'→h1.size ≤ lb' k
variable {Lb Lb2 La:Nat→LD} {lb' lb2:Nat→Nat} {s0 s1:RS} {q0 q1:HQ} {nd0 nd1:List NodeD} {S:Nat→Prop} {m' m2:Nat}
theorem Two.swap (x:Two S h1 h m q s nd lb L m' q' s' nd' lb' Lb):Two S h1 h m' q' s' nd' lb' Lb m q s nd lb L :=
 ⟨x.b,x.a,fun y hy=>Classical.byContradiction fun hn=>hy (x.dis y hn),x.lc,x.la,x.k,x.fb,x.fa,x.hc,x.ha⟩
/-- The one acts, the other is as it was. -/
theorem Two.act (x:Two S h1 h m q s nd lb L m' q' s' nd' lb' Lb) (y:Duo m2 h2 q1 s1 nd1 lb2 La) (ex:Ex h q h2 q1) (hl:∀ k,k < m2→q'.role (lb2 k)=.out∧h1.size ≤ lb2 k):Two S h1 h2 m2 q1 s1 nd1 lb2 La m' q' s' nd' lb' Lb where
 a:=y
 b:=x.b.keepO ex.kept x.dis fun j hj hn=>hn (x.lc j hj)
 dis:=fun z hz=>by
  by_cases hlt:z < h.size
  ·exact x.dis z fun e=>hz (ex.out hlt e)
  ·exact x.b.g.st.fr (by omega)
 la:=fun k hk=>(hl k hk).1
 lc:=fun k hk=>ex.out (row_lt (x.b.o k hk).l.row) (x.lc k hk)
 k:=⟨Nat.le_trans x.k.1 ex.2.1,fun b hb hn=>(ex.2.2 b (Nat.lt_of_lt_of_le hb x.k.1) (x.fa.old hb)).2.trans (x.k.2 b hb hn)⟩
 fa:=x.fa.ex x.k.1 ex
 fb:=x.fb
 ha:=fun k hk=>(hl k hk).2
 hc:=x.hc
theorem Two.act1 (x:Two S h1 h m q s nd lb L m' q' s' nd' lb' Lb) (y:Duo m h2 q1 s1 nd1 lb La) (ex:Ex h q h2 q1):Two S h1 h2 m q1 s1 nd1 lb La m' q' s' nd' lb' Lb:=x.act y ex fun k hk=>⟨x.la k hk,x.ha k hk⟩
theorem Two.keepN (x:Two S h1 h m q s nd lb L m' q' s' nd' lb' Lb) (k:Kept N h h2):Two S h1 h2 m q s nd lb L m' q' s' nd' lb' Lb :=
 ⟨x.a.keepN k,x.b.keepN k,x.dis,x.la,x.lc,⟨Nat.le_trans x.k.1 k.1,fun b hb hn=>(k.2 b (Nat.lt_of_lt_of_le hb x.k.1) _root_.id).trans (x.k.2 b hb hn)⟩,x.fa,x.fb,x.ha,x.hc⟩
/-- Written in what was there ahead of both. -/
theorem Two.write (x:Two S h1 h m q s nd lb L m' q' s' nd' lb' Lb) {tb:Nat} (ht:tb < h1.size) (hS:S tb) (k:Kept (fun b=>b=tb) h h2):Two S h1 h2 m q s nd lb L m' q' s' nd' lb' Lb :=
 ⟨x.a.keepO k (fun b e=>e ▸ x.fa.old ht) fun j hj e=>(by have:=x.ha j hj; omega),x.b.keepO k (fun b e=>e ▸ x.fb.old ht) fun j hj e=>(by have:=x.hc j hj; omega),x.dis,x.la,x.lc,⟨Nat.le_trans x.k.1 k.1,fun b hb hn=>(k.2 b (Nat.lt_of_lt_of_le hb x.k.1) fun e=>hn (e ▸ hS)).trans (x.k.2 b hb hn)⟩,x.fa,x.fb,x.ha,x.hc⟩
end
end Go.Ev
