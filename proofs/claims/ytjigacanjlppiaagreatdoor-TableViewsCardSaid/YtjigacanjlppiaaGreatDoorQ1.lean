/- An evaluator of the model's memory operation. No condition. -/
import Derived.Calls
import Derived.MapKept
import Derived.Maps.RangeRun
set_option linter.all false
set_option maxRecDepth 1000000
open Go.IntKind (wrap)
namespace Go
abbrev bp := @List.getElem?_eq_some_iff
abbrev br := @List.getElem?_eq_getElem
abbrev bt := @Option.some.inj
abbrev bu := @Int.toNat_natCast
abbrev bx := @List.mem_of_getElem?
abbrev bA := @List.length_map
abbrev bB := @List.getD_eq_getElem?_getD
abbrev bD := @List.getElem?_map
abbrev bG := @List.length_append
abbrev bH := @Nat.le_refl
abbrev bI := @List.mem_append
abbrev bJ := @List.mem_cons_of_mem
abbrev bK := @List.mem_append_right
abbrev bL := @List.getElem?_append_left
abbrev bM := @List.mem_singleton
abbrev bN := @List.getElem?_append_right
abbrev bP := @Nat.le_trans
abbrev bQ := @List.mem_cons_self
abbrev bT := @List.mem_iff_getElem?
abbrev bV := @List.getElem?_eq_none
abbrev bW := @List.mem_append_left
abbrev bZ := @Nat.lt_of_lt_of_le
abbrev cd := @List.length_set
abbrev ce := @List.append_assoc
abbrev ck := @List.mem_cons
abbrev cu := @List.nodup_append
abbrev cx := @List.map_append
abbrev cy := @List.mem_map
abbrev cD := @List.map_congr_left
abbrev cE := @List.getElem?_set_self
abbrev cG := @List.ext_getElem?
abbrev cJ := @List.flatMap_cons
abbrev cP := @Nat.zero_le
abbrev cQ := @Nat.mul_one
abbrev cU := @List.map_cons
abbrev cV := @List.nodup_cons
abbrev dl := @List.getElem?_set_ne
abbrev dm := @List.length_take
abbrev dp := @Int.eq_ofNat_of_zero_le
abbrev dx := @Option.some.injEq
abbrev dy := @Bool.false_eq_true
abbrev dA := @List.length_eq_zero_iff
abbrev dB := @List.mem_or_eq_of_mem_set
abbrev dD := @Nat.sub_self
abbrev dE := @List.take_length
abbrev dF := @List.length_cons
abbrev dK := @List.mem_of_mem_take
abbrev dQ := @List.getElem?_modify
abbrev dR := @Option.map_some
abbrev dT := @List.length_filter_le
abbrev dU := @List.mem_filter
abbrev dX := @Option.bind_some
abbrev dY := @List.mem_flatten
abbrev d6 := @List.getElem?_zip_eq_some
abbrev d8 := @List.drop_eq_getElem_cons
abbrev eD := @Bool.and_eq_true
abbrev eP := @List.filter_cons
abbrev eS := @Nat.lt_or_ge
abbrev eT := @List.take_of_length_le
abbrev eU := @List.nil_append
abbrev eV := @List.append_nil
abbrev eW := @List.getElem?_set
abbrev eZ := @List.take_append_drop
abbrev fg := @List.set_cons_succ
abbrev fh := @List.map_map
abbrev fi := @List.getElem?_drop
abbrev fj := @Int.toNat_of_nonneg
abbrev fm := @Nat.add_sub_cancel_left
abbrev fo := @Nat.zero_add
abbrev fq := @List.length_replicate
abbrev ft := @List.mem_filterMap
abbrev fu := @List.length_drop
abbrev fx := @Array.length_toList
abbrev fD := @Int.tdiv_eq_ediv_of_nonneg
abbrev fI := @List.filter_cons_of_pos
abbrev fL := @List.getElem?_range
abbrev fP := @Prod.mk.injEq
abbrev fQ := @Nat.pow_le_pow_right
abbrev fS := @Nat.mod_eq_of_lt
abbrev fT := @List.Perm.refl
abbrev fZ := @List.size_toArray
abbrev f8 := @List.sum_cons
abbrev f9 := @List.getElem?_take_of_lt
abbrev gd := @Array.ext'
abbrev gp := @List.set_append_right
abbrev gu := @List.filter_cons_of_neg
abbrev gv := @List.drop_length
abbrev gA := @Nat.mul_le_mul_right
abbrev gB := @List.take_append_of_le_length
abbrev gE := @List.mem_replicate
abbrev gF := @List.getElem?_take
abbrev gG := @List.filter_append
abbrev gH := @List.drop_of_length_le
abbrev gI := @Int.emod_lt_of_pos
abbrev gQ := @List.nodup_nil
abbrev gT := @List.perm_middle
abbrev gV := @Nat.le_succ
abbrev gW := @List.flatMap_append
abbrev gY := @Array.getElem?_modify
abbrev hY := @Nat.add_mul
abbrev ie := @List.prefix_refl
abbrev ig := @List.map_set
abbrev ii := @List.Perm.append_right
abbrev ip := @List.mem_of_find?_eq_some
abbrev iq := @Classical.byContradiction
abbrev iw := @List.filterMap_cons
abbrev iF := @Nat.add_zero
abbrev iG := @List.sum_append
abbrev iH := @Array.size_push
abbrev iW := @List.flatMap_nil
abbrev jd := @Option.map_eq_some_iff
abbrev je := @List.filter_eq_nil_iff
abbrev jf := @List.drop_eq_nil_of_le
abbrev jg := @Array.getElem?_eq_some_iff
abbrev jh := @Array.getElem?_eq_none
abbrev ji := @Nat.min_eq_left
abbrev jk := @Int.emod_nonneg
abbrev ju := @List.perm_append_comm
abbrev jv := @List.filterMap_append
abbrev jB := @Nat.mod_lt
abbrev jC := @Nat.add_sub_cancel
abbrev jD := @List.set_cons_zero
abbrev jE := @Option.isSome_iff_exists
abbrev jF := @Nat.mul_comm
abbrev jP := @List.take_succ
abbrev jQ := @List.mem_range
abbrev jU := @List.getElem?_replicate
abbrev jV := @List.getElem?_inj
abbrev ki := @List.flatten_append
abbrev kj := @List.filter_sublist
abbrev kG := @Nat.two_pow_add_eq_or_of_lt
abbrev kI := @List.map_nil
abbrev kP := @List.drop_append
abbrev kU := @List.zip_cons_cons
abbrev lh := @List.exists_mem_of_ne_nil
abbrev lB := @List.set_append_left
abbrev lC := @List.range_eq_range'
abbrev lD := @List.pairwise_map
abbrev lE := @List.mem_of_mem_drop
abbrev mb := @Option.getD_some
abbrev mc := @Nat.and_two_pow_sub_one_eq_mod
abbrev me := @List.range'_succ
abbrev mf := @List.mem_flatMap
abbrev mg := @List.all_eq_true
abbrev mr := @Nat.pow_succ
abbrev ms := @Nat.le_of_lt
abbrev mu := @List.find?_eq_none
abbrev mw := @Int.natCast_nonneg
abbrev my := @Array.ext_getElem?
abbrev mI := @Int.natCast_mul
abbrev mL := @Nat.add_assoc
abbrev mM := @List.map_take
abbrev mQ := @List.Perm.append_left
abbrev mW := @Nat.lt_trichotomy
abbrev mX := @List.take_sublist
abbrev mY := @List.take_add_one
abbrev mZ := @List.Sublist.refl
abbrev nG := @Nat.pow_lt_pow_right
abbrev nH := @Nat.eq_of_testBit_eq
abbrev nI := @Bool.not_false
abbrev nJ := @Array.getElem?_append_left
abbrev nP := @Nat.succ_mul
abbrev nQ := @List.getElem_mem
abbrev nX := @List.map_eq_nil_iff
abbrev nY := @List.filter_eq_self
abbrev nZ := @List.drop_succ_cons
abbrev ox := @List.find?_some
abbrev oy := @Iff.rfl
abbrev oI := @Option.isSome_none
abbrev oJ := @Nat.eq_zero_or_pos
abbrev oK := @List.pairwise_cons
abbrev oL := @List.append_of_mem
abbrev oX := @Nat.exists_eq_add_of_le
abbrev oY := @List.getElem?_cons_succ
abbrev pG := @Nat.zero_mul
abbrev pI := @Nat.testBit_eq_decide_div_mod_eq
abbrev pJ := @List.set_set
abbrev pK := @List.mem_range'_1
abbrev pL := @List.length_pos_of_mem
abbrev pM := @List.flatten_cons
abbrev pN := @List.drop_sublist
abbrev pP := @List.Pairwise.and
abbrev pQ := @Bool.not_eq_true'
abbrev pZ := @List.getElem?_toArray
abbrev p7 := @List.count_cons_of_ne
abbrev qC := @Nat.le_add_right
abbrev qD := @List.not_mem_nil
abbrev qE := @List.flatMap_map
abbrev qF := @Bool.not_eq_true
abbrev qN := @Bool.not_true
abbrev rz := @Prod.mk.inj
abbrev rJ := @List.zip_append
abbrev rK := @List.length_zip
abbrev rL := @List.cons.injEq
abbrev rM := @Bool.or_eq_true
abbrev rN := @Bool.eq_iff_iff
abbrev rS := @List.take_succ_cons
abbrev rU := @List.replicate_zero
abbrev rV := @List.replicate_succ
abbrev rW := @List.getD_cons_succ
abbrev rY := @Array.toList_modify
abbrev sB := @Nat.succ_pos
abbrev sC := @Nat.add_comm
abbrev tt := @List.take_zero
abbrev tu := @List.filter_filter
abbrev tx := @List.drop_zero
abbrev tA := @List.drop_drop
abbrev tB := @List.Perm.cons_inv
abbrev tC := @Int.ofNat_tdiv
abbrev uj := @Nat.pow_pos
abbrev uk := @Nat.or_lt_two_pow
abbrev ul := @List.length_range
abbrev uC := @Bool.or_false
abbrev Ev.Hp := Array Obj
abbrev Ev.RP := Value → Ev.Hp → Prop
abbrev Ev.OA := Option Addr
abbrev Ev.LN := List Nat
abbrev Ev.LV := List Value
end Go
namespace Go.Ev
def cell(h:Hp)(a:Addr):Option Value :=
 match h[a.block]? with
 |some (.cells c _ _)=>if a.spot.isSome then none else c[a.off]?
 |_=>none
def frz(h:Hp)(a:Addr):Bool :=
 match h[a.block]? with
 |some (.cells _ _ (lo,hi))=>lo≤a.off&&a.off<hi
 |_=>false
def NK(h:Hp)(r:Nat):Option (TypeId × Nat) :=
 match h[r]? with
 |some (.cells c elem _)=>some (elem,c.size)
 |_=>none
def fy(h:Hp)(a:Addr)(v:Value):Hp :=
 h.modify a.block fun
  | .cells c elem frozen=>.cells (if a.spot.isSome then c else c.setIfInBounds a.off v) elem frozen
  |o=>o
def gZ(h:Hp)(a:Addr):Prop:=(∃u,cell h a=some u)∧frz h a=false
def uX:Obj→Bool
 | .cells ..=>false
 |_=>true
def gj(w w':World):Prop:=w'.os=w.os∧w'.tape=w.tape∧w'.output=w.output∧w.drawn≤w'.drawn
theorem gj.refl(w:World):gj w w:=⟨rfl,rfl,rfl,bH _⟩
theorem gj.trans {a b c:World}(h:gj a b)(k:gj b c):gj a c:=⟨k.1.trans h.1,k.2.1.trans h.2.1,k.2.2.1.trans h.2.2.1,bP h.2.2.2 k.2.2.2⟩
structure Sl where
 a:OA
 n:Nat
 c:Nat
inductive VK where
 |int (k:IntKind)
 |bool
 |str
 |ptr
 |sl
 |mp
 |any
def VK.ex:VK→(Value→Prop)→Prop
 | .int k,φ=>∃n:Int,φ (.int k n)
 | .bool,φ=>∃b:Bool,φ (.bool b)
 | .str,φ=>∃s:ByteArray,φ (.string s)
 | .ptr,φ=>∃p:OA,φ (.pointer p)
 | .sl,φ=>∃s:Sl,φ (.slice s.a s.n s.c)
 | .mp,φ=>∃r:Option Nat,φ (.map r)
 | .any,φ=>∃v:Value,φ v
theorem VK.ow {k:VK}{φ:Value→Prop}(h:k.ex φ):∃v,φ v:=by
 cases k<;>(obtain⟨x,hx⟩:=h;exact⟨_,hx⟩)
def bX(t:Bool)(A B:Prop):Prop:=match t with|true=>A|false=>B
def bE(p:OA)(K:Addr→Prop):Prop:=match p with|some a=>K a|none=>False
def mj:Value→Bool
 | .agg _=>false
 | .tuple _=>false
 |_=>true
def nT {α:Type}(P:Program):Sem α→List VK→Hp→(α→List VK→Hp→Prop)→Prop
 | .pure a,vs,h,K=>K a vs h
 | .load _ a k,vs,h,K=>(vs.headD .any).ex fun v=>cell h a=some v∧nT P (k v) vs.tail h K
 | .store _ a v k,vs,h,K=>bX (mj v) (gZ h a∧nT P k vs (fy h a v) K) False
 | .new o k,vs,h,K=>nT P (k h.size) vs (h.push o) K
 | .shape r k,vs,h,K=>nT P (k (NK h r)) vs h K
 | .freeze _ _ _,_,_,_=>False
 | .frozen a k,vs,h,K=>nT P (k (frz h a)) vs h K
 | .getObj r k,vs,h,K=>∃o,h[r]?=some o∧uX o=true∧nT P (k o) vs h K
 | .setObj r o k,vs,h,K=>(∃u,h[r]?=some u∧uX u=true)∧nT P k vs (h.setIfInBounds r o) K
 | .choose q k,vs,h,K=>if q.forced then nT P (k 0) vs h K else ∀t,nT P (k (q.cut t)) vs h K
 | .sys _ _,_,_,_=>False
 | .program k,vs,h,K=>nT P (k P) vs h K
 | .mark _ k,vs,h,K=>nT P k vs h K
 | .halt _,_,_,_=>False
theorem MO {α:Type}{P:Program}:∀(s:Sem α) (vs:List VK) (w:World) (K:α→List VK→Hp→Prop),nT P s vs w.heap K →
  ∃a uD w',s.run P w=.ok a w'∧gj w w'∧K a uD w'.heap:=by
 intro s
 induction s with
 |pure a=>exact fun vs w K h=>⟨a,vs,w,rfl,gj.refl _,h⟩
 |load m a k ih =>
  intro vs w K h
  obtain⟨v,hv,h⟩:=VK.ow h
  have hv':w.cell? a=some v:=hv
  obtain⟨x,uD,w',hr,hs,hk⟩:=ih v _ _ _ h
  exact⟨x,uD,w',by rw [Sem.run,hv'];exact hr,hs,hk⟩
 |store m a v k ih =>
  intro vs w K h
  simp only [nT]at h
  cases hc:mj v with
  |false=>rw [hc]at h;exact h.elim
  |true =>
   rw [hc]at h
   obtain⟨⟨⟨u,hu⟩,hf⟩,h⟩:=h
   have hu':w.cell? a=some u:=hu
   have hf':w.frozen? a=false:=hf
   have S8:(w.setCell a v).heap=fy w.heap a v:=rfl
   rw [←S8]at h
   obtain⟨x,uD,w',hr,hs,hk⟩:=ih _ _ _ h
   refine⟨x,uD,w',?_,hs,hk⟩
   rw [←hr]
   cases v<;>first | (simp [mj]at hc;done)|simp [Sem.run,hu',hf']
 |new o k ih =>
  intro vs w K h
  obtain⟨x,uD,w',hr,hs,hk⟩:=ih w.heap.size vs {w with heap:=w.heap.push o} K h
  exact⟨x,uD,w',by rw [Sem.run];exact hr,⟨hs.1,hs.2.1,hs.2.2⟩,hk⟩
 |shape r k ih =>
  intro vs w K h
  obtain⟨x,uD,w',hr,hs,hk⟩:=ih (NK w.heap r) vs w K h
  exact⟨x,uD,w',by rw [Sem.run];exact hr,hs,hk⟩
 |freeze=>exact fun vs w K h=>h.elim
 |frozen a k ih =>
  intro vs w K h
  obtain⟨x,uD,w',hr,hs,hk⟩:=ih (frz w.heap a) vs w K h
  exact⟨x,uD,w',by rw [Sem.run];exact hr,hs,hk⟩
 |getObj r k ih =>
  intro vs w K h
  obtain⟨o,ho,hn,h⟩:=h
  obtain⟨x,uD,w',hr,hs,hk⟩:=ih o vs w K h
  refine⟨x,uD,w',?_,hs,hk⟩
  rw [←hr,Sem.run,ho]
  cases o<;>first | (simp [uX]at hn;done)|rfl
 |setObj r o k ih =>
  intro vs w K h
  obtain⟨⟨u,hu,hn⟩,h⟩:=h
  obtain⟨x,uD,w',hr,hs,hk⟩:=ih vs {w with heap:=w.heap.setIfInBounds r o} K h
  refine⟨x,uD,w',?_,⟨hs.1,hs.2.1,hs.2.2⟩,hk⟩
  rw [←hr,Sem.run,hu]
  cases u<;>first | (simp [uX]at hn;done)|rfl
 |choose q k ih =>
  intro vs w K h
  simp only [nT]at h
  by_cases hq:q.forced=true
  ·rw [if_pos hq]at h
   obtain⟨x,uD,w',hr,hs,hk⟩:=ih 0 vs w K h
   exact⟨x,uD,w',by rw [Sem.run,if_pos hq];exact hr,hs,hk⟩
  ·rw [if_neg hq]at h
   obtain⟨x,uD,w',hr,hs,hk⟩:=ih _ vs {w with drawn:=w.drawn+1} K (h (w.tape w.drawn q))
   exact⟨x,uD,w',by rw [Sem.run,if_neg hq];exact hr,⟨hs.1,hs.2.1,hs.2.2.1,Nat.le_of_succ_le hs.2.2.2⟩,hk⟩
 |sys=>exact fun vs w K h=>h.elim
 |program k ih =>
  intro vs w K h
  obtain⟨x,uD,w',hr,hs,hk⟩:=ih P vs w K h
  exact⟨x,uD,w',by rw [Sem.run];exact hr,hs,hk⟩
 |mark m k ih =>
  intro vs w K h
  obtain⟨x,uD,w',hr,hs,hk⟩:=ih vs w K h
  exact⟨x,uD,w',by rw [Sem.run];exact hr,hs,hk⟩
 |halt=>exact fun vs w K h=>h.elim
def bq(P:Program)(f:FuncId)(args:Array Value)(h:Hp)(R:RP):Prop :=
 ∀w:World,w.heap=h→Calls P f args w fun e w'=>∃v,e=.returned v∧gj w w'∧R v w'.heap
theorem bq.mono {P:Program}{f:FuncId}{args:Array Value}{h:Hp}{R R':RP}(c:bq P f args h R)
  (hr:∀v h',R v h'→R' v h'):bq P f args h R' :=
 fun w hw=>(c w hw).mono fun _ _ ⟨v,he,hs,hR⟩=>⟨v,he,hs,hr _ _ hR⟩
def dz(env:LV):Operand→Value
 | .tmp t=>env.getD t undef
 | .const v=>v
 | .global g=>.pointer (some ⟨g,0,none⟩)
 | .func f=>.func (.func f) #[] #[]
def j9(env:LV)(D:List Deferred):Act:=⟨env.toArray,D⟩
theorem mK(env:LV)(D:List Deferred):(j9 env D).eval=dz env:=by
 funext x
 cases x<;>simp [Act.eval,dz,j9]
def A8(env:LV)(dst:Option Tmp)(v:Value):LV:=match dst with|some d=>env.set d v|none=>env
theorem om(env:LV)(D:List Deferred)(dst:Option Tmp)(v:Value):(j9 env D).put dst v=j9 (A8 env dst v) D:=by
 cases dst<;>simp [Act.put,j9,A8]
def A9 {α:Type}(P:Program):Sem α→Option α
 | .pure a=>some a
 | .program k=>A9 P (k P)
 |_=>none
theorem GJ {α:Type}{P:Program}:∀(s:Sem α) (a:α),A9 P s=some a→∀w,s.run P w=.ok a w:=by
 intro s
 induction s with
 |pure b=>intro a h w;simp only [A9,dx]at h;rw [h];rfl
 |program k ih=>intro a h w;rw [Sem.run];exact ih P a h w
 |_=>intros;simp [A9]at *
def xE(P:Program)(s:Sem Next)(K:Value→Prop):Prop :=
 match A9 P s with
 |some (.value v)=>K v
 |_=>False
def m6(P:Program)(t:TypeId):Nat:=match P.info? t with|some i=>i.size|none=>0
def FT(P:Program)(t:TypeId):Nat:=match P.info? t with|some i=>i.bytes|none=>0
def Wk(P:Program)(t:TypeId)(x i:Value)(K:Value→Prop):Prop :=
 match P.underlying t,x,i with
 |some (.slice e),.slice a n _,.int _ j=>(0≤j∧j<n)∧bX (P.info? e).isSome (bE a fun b=>K (.pointer (some (b.add (j.toNat*m6 P e))))) False
 |some (.array len e),.pointer a,.int _ j=>(0≤j∧j<len)∧bX (P.info? e).isSome (bE a fun b=>K (.pointer (some (b.add (j.toNat*m6 P e))))) False
 |_,_,_=>False
def vU:Option Value→Option (Option Int)
 |none=>some none
 |some (.int _ n)=>some (some n)
 |_=>none
def IE(P:Program)(t:TypeId)(x:Value)(lo hi mx:Option Value)(K:Value→Prop):Prop :=
 match P.underlying t,x,vU lo,vU hi,vU mx with
 |some (.slice e),.slice a n c,some lo,some none,some none =>
  (0≤lo.getD 0∧lo.getD 0≤n)∧bX (P.info? e).isSome (
   K (.slice (if c=(lo.getD 0).toNat then a else a.map (·.add ((lo.getD 0).toNat*m6 P e))) (n-(lo.getD 0).toNat) (c-(lo.getD 0).toNat))) False
 |some (.slice e),.slice a _ c,some lo,some (some hi),some none =>
  (0≤hi∧hi≤c)∧(0≤lo.getD 0∧lo.getD 0≤hi)∧bX (P.info? e).isSome (
   K (.slice (if c=(lo.getD 0).toNat then a else a.map (·.add ((lo.getD 0).toNat*m6 P e))) (hi.toNat-(lo.getD 0).toNat) (c-(lo.getD 0).toNat))) False
 |some (.slice e),.slice a _ c,some lo,some (some hi),some (some mx) =>
  (0≤mx∧mx≤c)∧(0≤hi∧hi≤mx)∧(0≤lo.getD 0∧lo.getD 0≤hi)∧bX (P.info? e).isSome (
   K (.slice (if mx.toNat=(lo.getD 0).toNat then a else a.map (·.add ((lo.getD 0).toNat*m6 P e))) (hi.toNat-(lo.getD 0).toNat) (mx.toNat-(lo.getD 0).toNat))) False
 |some .string,.string s,some lo,some none,some none =>
  (0≤lo.getD 0∧lo.getD 0≤s.size)∧K (.string (s.extract (lo.getD 0).toNat s.size))
 |some .string,.string s,some lo,some (some hi),some none =>
  (0≤hi∧hi≤s.size)∧(0≤lo.getD 0∧lo.getD 0≤hi)∧K (.string (s.extract (lo.getD 0).toNat hi.toNat))
 |_,_,_,_,_=>False
def UO(P:Program)(t:TypeId)(x i:Value)(K:Value→Prop):Prop :=
 match P.underlying t,x,i with
 |some .string,.string s,.int _ j=>(0≤j∧j<s.size)∧K (.int .u8 (s[j.toNat]?.getD 0).toNat)
 |_,_,_=>False
def VA(cs:Array Value)(i:Nat):Nat→Nat→(LV→Prop)→Prop
 | 0,_,φ=>φ []
 |n+1,j,φ=>∃v,cs[i+j]?=some v∧VA cs i n (j+1) fun vs=>φ (v::vs)
def N8(P:Program)(e:TypeId)(cs:Array Value)(i:Nat)(K:Value→Prop):Prop :=
 match P.underlying e with
 |some (.struct _)=>bX (P.info? e).isSome (VA cs i (m6 P e) 0 fun vs=>K (.agg vs.toArray)) False
 |some (.array _ _)=>False
 |some _=>∃v,cs[i]?=some v∧K v
 |none=>False
def Zm(P:Program)(len:Nat)(e:TypeId)(x i:Value)(K:Value→Prop):Prop :=
 match i with
 | .int _ j=>(0≤j∧j<len)∧bX (P.info? e).isSome (∃cs:Array Value,x=.agg cs∧N8 P e cs (j.toNat*m6 P e) K) False
 |_=>False
def UP(op:BinOp)(x y:Value)(K:Value→Prop)(oR:Prop):Prop :=
 match op,x,y with
 | .add,.string a,.string b=>a.size+b.size<2 ^ 62∧K (.string (a++b))
 |_,_,_=>oR
def Ie(op:BinOp)(x y:Value)(K:Value→Prop):Prop :=
 match op,x,y with
 | .quo,.int k a,.int _ b=>b≠0∧K (.int k (k.wrap (a.tdiv b)))
 | .rem,.int k a,.int _ b=>b≠0∧K (.int k (a.tmod b))
 | .shl,.int k a,.int _ b=>0≤b∧K (.int k (k.wrap (a*2 ^ (min b.toNat k.bits))))
 | .shr,.int k a,.int _ b=>0≤b∧K (.int k (a.fdiv (2 ^ (min b.toNat k.bits))))
 |_,_,_=>False
def HJ(P:Program)(t:TypeId)(x y:Value):Option Bool :=
 match P.underlying t,x,y with
 |some (.pointer _),.pointer p,.pointer none=>some p.isNone
 |some (.pointer _),.pointer none,.pointer q=>some q.isNone
 |some (.slice _),.slice a _ _,.slice none _ _=>some a.isNone
 |some (.slice _),.slice none _ _,.slice b _ _=>some b.isNone
 |some (.map _ _),.map r,.map none=>some r.isNone
 |some (.map _ _),.map none,.map r=>some r.isNone
 |_,_,_=>none
def Zq(P:Program)(t:TypeId):Option Bool:=match P.underlying t with|some (.struct _)=>some true|some (.array _ _)=>some true|some _=>some false|none=>none
def QM(P:Program)(t:TypeId)(cs:Array Value)(off:Nat):Option Value :=
 match Zq P t with
 |some true=>match P.info? t with|some i=>some (.agg (cs.extract off (off+i.size)))|none=>none
 |some false=>cs[off]?
 |none=>none
def aje:Option Bool→Option Bool→Option Bool
 |some a,some b=>some (a&&b)
 |_,_=>none
def Tu(P:Program)(eq:TypeId→Value→Value→Option Bool)(xs ys:Array Value):List Field→Option Bool
 | []=>some true
 |f::fs =>
  match f.name == "_" with
  |true=>Tu P eq xs ys fs
  |false =>
   match QM P f.type xs f.offset,QM P f.type ys f.offset with
   |some u,some v=>aje (eq f.type u v) (Tu P eq xs ys fs)
   |_,_=>none
def acB(P:Program):Nat→TypeId→Value→Value→Option Bool
 | 0,_,_,_=>none
 |d+1,t,x,y =>
  match P.underlying t,x,y with
  |some .bool,.bool a,.bool b=>some (a==b)
  |some (.int _),.int k a,.int k' b=>match k==k' with|true=>some (a==b)|false=>none
  |some .string,.string a,.string b=>some (a==b)
  |some (.struct fs),.agg xs,.agg ys=>match P.stoodInHeld t with|true=>none|false=>Tu P (acB P d) xs ys fs.toList
  |_,_,_=>none
def xw:Value→Value→Bool
 | .int k _,.int k' _=>k==k'
 |_,_=>false
def RI(P:Program)(t:TypeId)(x y:Value)(K:Bool→Prop)(oR:Prop):Prop :=
 match x,y with
 | .agg xs,.agg ys =>
  match Program.eqGuardType P P.depth t with
  |true=>False
  |false=>match acB P 20 t (.agg xs) (.agg ys)with|some b=>K b|none=>False
 |_,_=>oR
def wa(P:Program)(o:Oper)(env:LV)(K:Value→Prop):Prop :=
 match o.op with
 | .nilCheck x =>
  match dz env x with
  | .pointer p=>bE p fun a=>K (.pointer (some a))
  |_=>xE P (execOp (dz env) o) K
 | .indexAddr t x i=>Wk P t (dz env x) (dz env i) K
 | .index t x i=>match P.underlying t with
  |some .string=>UO P t (dz env x) (dz env i) K
  |some (.array len e)=>Zm P len e (dz env x) (dz env i) K
  |_=>xE P (execOp (dz env) o) K
 | .slice t x lo hi mx=>IE P t (dz env x) (lo.map (dz env)) (hi.map (dz env)) (mx.map (dz env)) K
 | .binOp op t x y _ =>
  match op with
  | .quo=>bX (xw (dz env x) (dz env y)) (Ie .quo (dz env x) (dz env y) K) False
  | .rem=>bX (xw (dz env x) (dz env y)) (Ie .rem (dz env x) (dz env y) K) False
  | .shl=>Ie .shl (dz env x) (dz env y) K
  | .shr=>Ie .shr (dz env x) (dz env y) K
  | .eql=>match HJ P t (dz env x) (dz env y)with
   |some b=>K (.bool b)
   |none=>RI P t (dz env x) (dz env y) (fun b=>K (.bool b)) (xE P (execOp (dz env) o) K)
  | .neq=>match HJ P t (dz env x) (dz env y)with
   |some b=>K (.bool (!b))
   |none=>RI P t (dz env x) (dz env y) (fun b=>K (.bool (!b))) (xE P (execOp (dz env) o) K)
  |_=>UP op (dz env x) (dz env y) K (xE P (execOp (dz env) o) K)
 |_=>xE P (execOp (dz env) o) K
def Ir(P:Program)(o:Oper)(env:LV)(v:Value):Prop:=∀w,(execOp (dz env) o).run P w=.ok (.value v) w
theorem nN {P:Program}{s:Sem Next}{K:Value→Prop}(h:xE P s K):∃v,(∀w,s.run P w=.ok (.value v) w)∧K v:=by
 unfold xE at h
 split at h
 ·rename_i v hv;exact⟨v,GJ _ _ hv,h⟩
 ·exact h.elim
theorem bE.UT {p:OA}{K:Addr→Prop}(h:bE p K):∃a,p=some a∧K a:=by
 cases p with
 |none=>exact h.elim
 |some a=>exact⟨a,rfl,h⟩
theorem run_bind {α β:Type}(P:Program)(s:Sem α)(f:α→Sem β)(w:World):
  (s >>= f).run P w=match s.run P w with | .ok a w'=>(f a).run P w' | .halt x w'=>.halt x w':=by
 show (s.bind f).run P w=_
 induction s generalizing w with
 |pure a=>rfl
 |load m a k ih =>
  simp only [Sem.bind,Sem.run]
  cases w.cell? a with
  |some v=>exact ih v w
  |none =>
   cases w.farLoad P a (m==.atomic)with
   |ok r=>exact ih r.1 w
   |error e=>rfl
 |store m a v k ih =>
  cases v<;>simp only [Sem.bind,Sem.run] <;>
   (cases w.cell? a with
    |some u =>
     simp only []
     split
     ·rfl
     ·exact ih _
    |none =>
     simp only []
     cases w.farStore P a _ (m==.atomic)with
     |ok r=>exact ih r.1
     |error e=>rfl)
 |new o k ih=>simp only [Sem.bind,Sem.run];exact ih _ _
 |shape r k ih=>simp only [Sem.bind,Sem.run];exact ih _ _
 |freeze a n k ih=>simp only [Sem.bind,Sem.run];exact ih _
 |frozen a k ih=>simp only [Sem.bind,Sem.run];exact ih _ _
 |getObj r k ih =>
  simp only [Sem.bind,Sem.run]
  cases w.heap[r]? with
  |none=>rfl
  |some o=>cases o<;>first|rfl|exact ih _ w
 |setObj r o k ih =>
  simp only [Sem.bind,Sem.run]
  cases w.heap[r]? with
  |none=>rfl
  |some u=>cases u<;>first|rfl|exact ih _
 |choose q k ih =>
  simp only [Sem.bind,Sem.run]
  split
  ·exact ih _ _
  ·exact ih _ _
 |sys c k ih=>simp only [Sem.bind,Sem.run];exact ih _ _
 |program k ih=>simp only [Sem.bind,Sem.run];exact ih _ _
 |mark m k ih=>simp only [Sem.bind,Sem.run];exact ih _
 |halt h=>rfl
section
variable {P:Program}
theorem f7 {t:Bool}{A:Prop}(h:bX t A False):t=true∧A:=by
 cases t with
 |true=>exact⟨rfl,h⟩
 |false=>exact h.elim
theorem cH {α:Type}(a:α)(w:World):(Pure.pure a:Sem α).run P w=.ok a w:=rfl
theorem run_program(w:World):(Go.program).run P w=.ok P w:=rfl
theorem run_underlying {t:TypeId}{d:TypeDesc}(h:P.underlying t=some d)(w:World):(Go.underlying t).run P w=.ok d w:=by
 unfold Go.underlying
 rw [run_bind,run_program]
 simp only [h]
 rfl
theorem run_typeInfo {t:TypeId}{i:TypeInfo}(h:P.info? t=some i)(w:World):(Go.typeInfo t).run P w=.ok i w:=by
 unfold Go.typeInfo
 rw [run_bind,run_program]
 simp only [h]
 rfl
theorem run_sizeOf {t:TypeId}(h:(P.info? t).isSome=true) (w:World):(Go.sizeOf t).run P w=.ok (m6 P t) w:=by
 obtain⟨i,hi⟩:=jE.1 h
 unfold Go.sizeOf m6
 rw [run_bind,run_typeInfo hi]
 simp only [hi]
 rfl
theorem ED {t e:TypeId}{b:Addr}{n c:Nat}{k:IntKind}{j:Int}(ht:P.underlying t=some (.slice e)) (he:(P.info? e).isSome=true) (h0:0≤j) (h1:j<n) (w:World) :
  (Instr.indexAt t (.slice (some b) n c) (.int k j)).run P w=.ok (.pointer (some (b.add (j.toNat*m6 P e)))) w:=by
 unfold Instr.indexAt
 simp only [run_bind,asIntOf,cH,run_underlying ht]
 rw [if_pos ⟨h0,h1⟩]
 simp only [run_bind,run_sizeOf he,cH]
theorem Di {t e:TypeId}{b:Addr}{len:Nat}{k:IntKind}{j:Int}(ht:P.underlying t=some (.array len e)) (he:(P.info? e).isSome=true) (h0:0≤j) (h1:j<len) (w:World) :
  (Instr.indexAt t (.pointer (some b)) (.int k j)).run P w=.ok (.pointer (some (b.add (j.toNat*m6 P e)))) w:=by
 unfold Instr.indexAt
 simp only [run_bind,asIntOf,cH,run_underlying ht,Instr.sureAddr]
 rw [if_pos ⟨h0,h1⟩]
 simp only [run_bind,run_sizeOf he,cH]
theorem Lw {t:TypeId}{x i:Value}{K:Value→Prop}(h:Wk P t x i K):∃v,(∀w,(Instr.indexAt t x i).run P w=.ok v w)∧K v:=by
 unfold Wk at h
 split at h
 ·rename_i e a n c k j ht
  obtain⟨⟨h0,h1⟩,h⟩:=h
  obtain⟨he,h⟩:=f7 h
  obtain⟨b,rfl,hk⟩:=h.UT
  exact⟨_,ED ht he h0 h1,hk⟩
 ·rename_i len e a k j ht
  obtain⟨⟨h0,h1⟩,h⟩:=h
  obtain⟨he,h⟩:=f7 h
  obtain⟨b,rfl,hk⟩:=h.UT
  exact⟨_,Di ht he h0 h1,hk⟩
 ·exact h.elim
theorem run_sliceBound {k:IntKind}{i:Int}{y:Nat}{code:BoundsCode}(h0:0≤i)(h1:i≤y)(w:World):(Instr.sliceBound (.int k i) y code).run P w=.ok i.toNat w:=by
 unfold Instr.sliceBound
 simp only [run_bind,asIntOf,cH]
 rw [if_pos ⟨h0,h1⟩,cH]
theorem oT {x:Option Value}(h:vU x=some none):x=none:=by
 unfold vU at h
 split at h
 ·rfl
 ·simp at h
 ·cases h
theorem ub {x:Option Value}{n:Int}(h:vU x=some (some n)):∃k,x=some (.int k n):=by
 unfold vU at h
 split at h
 ·simp at h
 ·rename_i k m;simp only [dx]at h;subst h;exact⟨k,rfl⟩
 ·cases h
theorem sW {x:Option Value}{o:Option Int}(h:vU x=some o):(x=none∧o=none)∨∃k n,x=some (.int k n)∧o=some n:=by
 unfold vU at h
 split at h
 ·simp only [dx]at h;exact .inl ⟨rfl,h.symm⟩
 ·rename_i k m;simp only [dx]at h;exact .inr ⟨k,m,rfl,h.symm⟩
 ·cases h
theorem sJ {t:TypeId}{x:Value}{lo hi mx:Option Value}{d:TypeDesc}(ht:P.underlying t=some d)(hd:∀n e,d≠.array n e)(w:World):
  (Instr.sliceAt t x lo hi mx).run P w=(Instr.slice t x lo hi mx).run P w:=by
 unfold Instr.sliceAt
 rw [run_bind,run_underlying ht]
 cases d<;>first|rfl|exact absurd rfl (hd _ _)
theorem GA {t:TypeId}{x:Value}{lo hi mx:Option Value}{K:Value→Prop}(h:IE P t x lo hi mx K):
  ∃v,(∀w,(Instr.sliceAt t x lo hi mx).run P w=.ok v w)∧K v:=by
 unfold IE at h
 split at h
 ·rename_i e a n c F3 ht hl hh hm
  obtain⟨⟨h0,h1⟩,h⟩:=h
  obtain⟨he,hk⟩:=f7 h
  rw [oT hh,oT hm]
  refine⟨_,fun w=>?_,hk⟩
  rw [sJ ht (fun _ _ h=>by cases h)]
  unfold Instr.slice
  rw [run_bind,run_underlying ht]
  rcases sW hl with⟨rfl,rfl⟩|⟨kl,m,rfl,rfl⟩
  ·simp only [run_bind,Instr.sliceBounds,cH,run_sizeOf he];rfl
  ·simp only [run_bind,Instr.sliceBounds,cH,run_sizeOf he,run_sliceBound (i:=m) (y:=n) h0 h1];rfl
 ·rename_i e a n c F3 Jh ht hl hh hm
  obtain⟨⟨g0,g1⟩,⟨h0,h1⟩,h⟩:=h
  obtain⟨he,hk⟩:=f7 h
  obtain⟨kh,rfl⟩:=ub hh
  rw [oT hm]
  refine⟨_,fun w=>?_,hk⟩
  rw [sJ ht (fun _ _ h=>by cases h)]
  unfold Instr.slice
  rw [run_bind,run_underlying ht]
  rcases sW hl with⟨rfl,rfl⟩|⟨kl,m,rfl,rfl⟩
  ·simp only [run_bind,Instr.sliceBounds,cH,run_sizeOf he,run_sliceBound g0 g1];rfl
  ·simp only [run_bind,Instr.sliceBounds,cH,run_sizeOf he,run_sliceBound g0 g1,run_sliceBound (i:=m) (y:=Jh.toNat) h0 (by simp at h1;omega)];rfl
 ·rename_i e a n c F3 Jh mx' ht hl hh hm
  obtain⟨⟨f0,f1⟩,⟨g0,g1⟩,⟨h0,h1⟩,h⟩:=h
  obtain⟨he,hk⟩:=f7 h
  obtain⟨kh,rfl⟩:=ub hh
  obtain⟨km,rfl⟩:=ub hm
  refine⟨_,fun w=>?_,hk⟩
  rw [sJ ht (fun _ _ h=>by cases h)]
  unfold Instr.slice
  rw [run_bind,run_underlying ht]
  rcases sW hl with⟨rfl,rfl⟩|⟨kl,m,rfl,rfl⟩
  ·simp only [run_bind,Instr.sliceBounds,cH,run_sizeOf he,run_sliceBound f0 f1,run_sliceBound (i:=Jh) (y:=mx'.toNat) g0 (by omega)];rfl
  ·simp only [run_bind,Instr.sliceBounds,cH,run_sizeOf he,run_sliceBound f0 f1,run_sliceBound (i:=Jh) (y:=mx'.toNat) g0 (by omega),run_sliceBound (i:=m) (y:=Jh.toNat) h0 (by simp at h1;omega)];rfl
 ·rename_i s F3 ht hl hh hm
  obtain⟨⟨h0,h1⟩,hk⟩:=h
  rw [oT hh,oT hm]
  refine⟨_,fun w=>?_,hk⟩
  rw [sJ ht (fun _ _ h=>by cases h)]
  unfold Instr.slice
  rw [run_bind,run_underlying ht]
  rcases sW hl with⟨rfl,rfl⟩|⟨kl,m,rfl,rfl⟩
  ·simp only [oI,dy,if_false,run_bind,Instr.sliceBounds,cH];rfl
  ·simp only [oI,dy,if_false,run_bind,Instr.sliceBounds,cH,run_sliceBound (i:=m) (y:=s.size) h0 h1];rfl
 ·rename_i s F3 Jh ht hl hh hm
  obtain⟨⟨g0,g1⟩,⟨h0,h1⟩,hk⟩:=h
  obtain⟨kh,rfl⟩:=ub hh
  rw [oT hm]
  refine⟨_,fun w=>?_,hk⟩
  rw [sJ ht (fun _ _ h=>by cases h)]
  unfold Instr.slice
  rw [run_bind,run_underlying ht]
  rcases sW hl with⟨rfl,rfl⟩|⟨kl,m,rfl,rfl⟩
  ·simp only [oI,dy,if_false,run_bind,Instr.sliceBounds,cH,run_sliceBound g0 g1];rfl
  ·simp only [oI,dy,if_false,run_bind,Instr.sliceBounds,cH,run_sliceBound g0 g1,run_sliceBound (i:=m) (y:=Jh.toNat) h0 (by simp at h1;omega)];rfl
 ·exact h.elim
theorem aoD {t:TypeId}{x i:Value}{K:Value→Prop}(h:UO P t x i K):∃v,(∀w,(Instr.index t x i).run P w=.ok v w)∧K v:=by
 unfold UO at h
 split at h
 ·rename_i s k j ht
  obtain⟨⟨h0,h1⟩,hk⟩:=h
  refine⟨_,fun w=>?_,hk⟩
  have fE:j.toNat<s.size:=by omega
  have hs:s[j.toNat]?=some s[j.toNat]:=getElem?_pos s j.toNat fE
  unfold Instr.index
  simp only [run_bind,asIntOf,cH,run_underlying ht,if_pos h0,hs]
  rfl
 ·exact h.elim
theorem HE {cs:Array Value}{i:Nat}:∀ {n j:Nat} {φ:LV→Prop},VA cs i n j φ→∃vs:LV,vs.length=n∧(∀k v,vs[k]?=some v→cs[i+(j+k)]?=some v)∧φ vs
 | 0,_,_,h=>⟨[],rfl,by simp,h⟩
 |n+1,j,_,h=>by
  obtain⟨v,hv,h⟩:=h
  obtain⟨vs,hl,hc,hφ⟩:=HE h
  refine⟨v::vs,by simp [hl],fun k u hk=>?_,hφ⟩
  cases k with
  |zero=>simp only [List.getElem?_cons_zero,dx]at hk;subst hk;exact hv
  |succ k =>
   rw [show j+(k+1)=j+1+k by omega]
   exact hc k u (by simpa using hk)
theorem NR {e:TypeId}{cs:Array Value}{i:Nat}{K:Value→Prop}(h:N8 P e cs i K):∃v,(∀w,(Go.part e cs i).run P w=.ok v w)∧K v:=by
 unfold N8 at h
 split at h
 ·rename_i fs ht
  obtain⟨hi,h⟩:=f7 h
  obtain⟨vs,hl,hc,hk⟩:=HE h
  refine⟨_,fun w=>?_,hk⟩
  unfold Go.part
  simp only [run_bind,Go.isAgg,run_underlying ht,cH,if_true,run_sizeOf hi]
  congr 2
  apply Array.ext
  ·simp only [Array.size_extract,fZ,hl]
   by_cases h0:vs.length=0
   ·omega
   ·have:=hc (vs.length-1) vs[vs.length-1] (by simp)
    have:=(jg.1 this).1
    omega
  ·intro k h1 h2
   have Rb:k<vs.length:=by simpa using h2
   have:=hc k vs[k] (br Rb)
   rw [fo]at this
   have h3:=(jg.1 this)
   simp only [Array.getElem_extract,List.getElem_toArray]
   exact h3.2
 ·exact h.elim
 ·rename_i d h1 h2 ht
  obtain⟨v,hv,hk⟩:=h
  refine⟨v,fun w=>?_,hk⟩
  unfold Go.part
  simp only [run_bind,Go.isAgg,run_underlying ht]
  cases d<;>first|exact absurd ht (h1 _)|exact absurd ht (h2 _ _) | (simp only [cH,dy,if_false,hv])
 ·exact h.elim
theorem Nb {t:TypeId}{len:Nat}{e:TypeId}(ht:P.underlying t=some (.array len e)) {x i:Value} {K:Value→Prop} (h:Zm P len e x i K):∃v,(∀w,(Instr.index t x i).run P w=.ok v w)∧K v:=by
 unfold Zm at h
 split at h
 ·rename_i k j
  obtain⟨⟨h0,h1⟩,h⟩:=h
  obtain⟨hi,cs,rfl,h'⟩:=f7 h
  obtain⟨v,hv,hk⟩:=NR h'
  refine⟨v,fun w=>?_,hk⟩
  unfold Instr.index
  simp only [run_bind,asIntOf,cH,run_underlying ht]
  rw [if_pos ⟨h0,h1⟩]
  simp only [run_bind,run_sizeOf hi,hv]
 ·exact h.elim
theorem qT {op:BinOp}{t:TypeId}{x y:Operand}{a b:Value}(h:op≠.eql)(h':op≠.neq)(w:World):(eqGuard op t x y a b).run P w=.ok () w:=by
 cases op<;>first|exact absurd rfl h|exact absurd rfl h'|rfl
theorem uf {op:BinOp}{t:TypeId}{x y:Value}{K:Value→Prop}(h:Ie op x y K)(hk:op=.quo∨op=.rem→xw x y=true):
  ∃v,(∀w,(binOp op t x y).run P w=.ok v w)∧K v:=by
 unfold Ie at h
 split at h
 ·rename_i k a k' b
  have hkk:k=k':=by simpa [xw]using hk (.inl rfl)
  subst hkk
  obtain⟨hb,hK⟩:=h
  refine⟨_,fun w=>?_,hK⟩
  simp only [binOp,ne_eq,not_true_eq_false,if_false,Op.intDiv,if_neg hb]
  rfl
 ·rename_i k a k' b
  have hkk:k=k':=by simpa [xw]using hk (.inr rfl)
  subst hkk
  obtain⟨hb,hK⟩:=h
  refine⟨_,fun w=>?_,hK⟩
  simp only [binOp,ne_eq,not_true_eq_false,if_false,Op.intDiv,if_neg hb]
  rfl
 ·rename_i k a k' b
  obtain⟨hb,hK⟩:=h
  refine⟨_,fun w=>?_,hK⟩
  simp only [binOp,Op.shift,if_neg (show ¬b<0 by omega)]
  rfl
 ·rename_i k a k' b
  obtain⟨hb,hK⟩:=h
  refine⟨_,fun w=>?_,hK⟩
  simp only [binOp,Op.shift,if_neg (show ¬b<0 by omega)]
  rfl
 ·exact h.elim
theorem KZ {t:TypeId}{x y:Value}{b:Bool}(h:HJ P t x y=some b)(w:World):(Op.equal t x y).run P w=.ok b w:=by
 unfold HJ at h
 unfold Op.equal
 rw [show Op.maxDepth=9999+1 from rfl]
 split at h<;>first | (cases h;done)|skip
 all_goals
  rename_i ht
  simp only [dx]at h
  subst h
  rw [Op.equalIn.eq_def]
  simp only []
  rw [run_bind,run_underlying ht]
 ·rename_i p;cases p<;>rfl
 ·rename_i p _;cases p<;>rfl
 ·rename_i p _ _ _ _;cases p<;>rfl
 ·rename_i p _ _;cases p<;>rfl
 ·rename_i p;cases p<;>rfl
 ·rename_i p _;cases p<;>rfl
theorem Hw {t:TypeId}{b:Bool}(h:Zq P t=some b)(w:World):(Go.isAgg t).run P w=.ok b w:=by
 unfold Zq at h
 unfold Go.isAgg
 split at h
 ·rename_i fs ht;rw [run_bind,run_underlying ht];simp only [dx]at h;subst h;rfl
 ·rename_i n e ht;rw [run_bind,run_underlying ht];simp only [dx]at h;subst h;rfl
 ·rename_i d h1 h2 ht
  rw [run_bind,run_underlying ht]
  simp only [dx]at h
  subst h
  cases d<;>first|rfl|exact absurd rfl (h1 _)|exact absurd rfl (h2 _ _)
 ·cases h
theorem KI {t:TypeId}{cs:Array Value}{off:Nat}{v:Value}(h:QM P t cs off=some v)(w:World):(Go.part t cs off).run P w=.ok v w:=by
 unfold QM at h
 unfold Go.part
 split at h
 ·rename_i ha
  split at h
  ·rename_i i hi
   rw [run_bind,Hw ha]
   simp only [if_true,run_bind,run_sizeOf (P:=P) (t:=t) (by rw [hi];rfl),cH]
   have:m6 P t=i.size:=by unfold m6;rw [hi]
   rw [this]
   simp only [dx]at h
   rw [h]
  ·cases h
 ·rename_i ha
  rw [run_bind,Hw ha]
  simp only [dy,if_false,h,cH]
 ·cases h
theorem TL {a b:Option Bool}{r:Bool}(h:aje a b=some r):∃x y,a=some x∧b=some y∧r=(x&&y):=by
 unfold aje at h
 split at h
 ·rename_i x y;exact⟨x,y,rfl,rfl,by simpa using h.symm⟩
 ·cases h
theorem agy {d':Nat}{eq:TypeId→Value→Value→Option Bool}{xs ys:Array Value}(heq:∀t u v b,eq t u v=some b→∀w,(Op.equalIn d' t u v).run P w=.ok b w) (w:World) :
  ∀(l:List Field) (b:Bool),Tu P eq xs ys l=some b→(forIn l ((none:Option Bool),()) fun(f:Field) __s =>
     if f.name ≠ "_" then do
      let Cz ←part f.type xs f.offset
      let Nh ←part f.type ys f.offset
      let Cz ←Op.equalIn d' f.type Cz Nh
      if(!Cz)=true then(Pure.pure (ForInStep.done (some false,())):Sem _)else Pure.pure (ForInStep.yield (none,()))
     else Pure.pure (ForInStep.yield (none,()))).run P w=.ok (if b=true then none else some false,()) w:=by
 intro l
 induction l with
 |nil=>intro b h;simp only [Tu,dx]at h;subst h;rfl
 |cons f l ih =>
  intro b h
  rw [List.forIn_cons]
  unfold Tu at h
  split at h
  ·rename_i hn
   have Tc:f.name = "_" := by simpa using hn
   rw [run_bind]
   simp only [Tc,ne_eq,not_true_eq_false,if_false,cH]
   exact ih b h
  ·rename_i hn
   have Tc:¬f.name = "_" := by simpa using hn
   split at h
   ·rename_i u v hu hv
    obtain⟨a,c,ha,hc,rfl⟩:=TL h
    rw [run_bind]
    simp only [ne_eq,Tc,not_false_eq_true,if_true,run_bind,KI hu,KI hv,heq _ _ _ _ ha]
    cases a with
    |true=>simp only [qN,dy,if_false,cH,Bool.true_and];exact ih c hc
    |false=>simp only [nI,if_true,cH,Bool.false_and];rfl
   ·cases h
theorem Py:∀(d d':Nat) (t:TypeId) (x y:Value) (b:Bool),d≤d'→acB P d t x y=some b→∀w,(Op.equalIn d' t x y).run P w=.ok b w:=by
 intro d
 induction d with
 |zero=>intro d' t x y b _ h;cases h
 |succ d ih =>
  intro d' t x y b hd h w
  obtain⟨d',rfl⟩:∃e,d'=e+1:=⟨d'-1,by omega⟩
  unfold acB at h
  rw [Op.equalIn.eq_def]
  simp only []
  split at h
  ·rename_i ht
   rw [run_bind,run_underlying ht]
   simp only [dx]at h
   rw [←h];rfl
  ·rename_i k0 k a k' b' ht
   rw [run_bind,run_underlying ht]
   split at h
   ·rename_i hk
    obtain rfl:k=k':=by simpa using hk
    simp only [dx]at h
    rw [←h]
    simp only [if_true]
    rfl
   ·cases h
  ·rename_i ht
   rw [run_bind,run_underlying ht]
   simp only [dx]at h
   rw [←h];rfl
  ·rename_i fs xs ys ht
   rw [run_bind,run_underlying ht]
   split at h
   ·cases h
   ·rename_i GV
    simp only [run_bind,run_program,GV,dy,if_false]
    rw [←Array.forIn_toList,agy (fun t u v b hb=>ih d' t u v b (by omega) hb) w _ _ h]
    cases b<;>rfl
  ·cases h
theorem zo {op:BinOp}{t:TypeId}{x y:Operand}{a:OA}{v:Value}(w:World):(eqGuard op t x y (.pointer a) v).run P w=.ok () w:=by
 cases op<;>rfl
theorem A1 {op:BinOp}{t:TypeId}{x y:Operand}{a:OA}{n c:Nat}{v:Value}(w:World):(eqGuard op t x y (.slice a n c) v).run P w=.ok () w:=by
 cases op<;>rfl
theorem zp {op:BinOp}{t:TypeId}{x y:Operand}{r:Option Nat}{v:Value}(w:World):(eqGuard op t x y (.map r) v).run P w=.ok () w:=by
 cases op<;>rfl
theorem HI {t:TypeId}{x y:Operand}{a b:Value}{r:Bool}(h:HJ P t a b=some r)(w:World):
  (do eqGuard .eql t x y a b;binOp .eql t a b:Sem Value).run P w=.ok (.bool r) w∧(do eqGuard .neq t x y a b;binOp .neq t a b:Sem Value).run P w=.ok (.bool (!r)) w:=by
 have hs:=KZ h w
 unfold HJ at h
 split at h<;>first | (cases h;done)|skip
 all_goals
  refine⟨?_,?_⟩
  ·first|rw [run_bind,zo] |rw [run_bind,A1] |rw [run_bind,zp]
   simp only [binOp]
   rw [run_bind,hs]
   rfl
  ·first|rw [run_bind,zo] |rw [run_bind,A1] |rw [run_bind,zp]
   simp only [binOp]
   rw [run_bind,hs]
   rfl
theorem C5 {t:TypeId}{x y:Operand}{a b:Value}{K:Bool→Prop}{oR:Prop}(h:RI P t a b K oR):oR∨∃r,K r ∧
  ∀w,(do eqGuard .eql t x y a b;binOp .eql t a b:Sem Value).run P w=.ok (.bool r) w∧(do eqGuard .neq t x y a b;binOp .neq t a b:Sem Value).run P w=.ok (.bool (!r)) w:=by
 unfold RI at h
 split at h
 ·rename_i xs ys
  split at h
  ·exact h.elim
  ·rename_i hg
   split at h
   ·rename_i r hr
    refine .inr ⟨r,h,fun w=>?_⟩
    have hs:(Op.equal t (.agg xs) (.agg ys)).run P w=.ok r w:=by
     unfold Op.equal
     exact Py 20 Op.maxDepth t _ _ r (by unfold Op.maxDepth;omega) hr w
    have e1:(eqGuard .eql t x y (.agg xs) (.agg ys)).run P w=.ok () w:=by
     unfold eqGuard
     simp only [qN,dy,if_false,run_bind,run_program,hg,nI,if_true]
     rfl
    have e2:(eqGuard .neq t x y (.agg xs) (.agg ys)).run P w=.ok () w:=by
     unfold eqGuard
     simp only [qN,dy,if_false,run_bind,run_program,hg,nI,if_true]
     rfl
    exact⟨by rw [run_bind,e1];simp only [binOp];rw [run_bind,hs];rfl,by rw [run_bind,e2];simp only [binOp];rw [run_bind,hs];rfl⟩
   ·exact h.elim
 ·exact .inl h
theorem vY {o:Oper}{env:LV}{K:Value→Prop}(h:wa P o env K):∃v,Ir P o env v∧K v:=by
 unfold wa at h
 split at h
 ·rename_i x mC
  split at h
  ·rename_i p hx
   obtain⟨a,rfl,hk⟩:=h.UT
   refine⟨_,fun w=>?_,hk⟩
   simp only [execOp,mC,hx]
   rfl
  ·exact nN h
 ·rename_i t x i mC
  obtain⟨v,hv,hk⟩:=Lw h
  exact⟨v,fun w=>by simp only [execOp,mC,run_bind,hv,cH],hk⟩
 ·rename_i t x i mC
  split at h
  ·obtain⟨v,hv,hk⟩:=aoD h
   exact⟨v,fun w=>by simp only [execOp,mC,run_bind,hv,cH],hk⟩
  ·rename_i len e ht
   obtain⟨v,hv,hk⟩:=Nb ht h
   exact⟨v,fun w=>by simp only [execOp,mC,run_bind,hv,cH],hk⟩
  ·exact nN h
 ·rename_i t x lo hi mx mC
  obtain⟨v,hv,hk⟩:=GA h
  exact⟨v,fun w=>by simp only [execOp,mC,run_bind,hv,cH],hk⟩
 ·rename_i op t x y yt mC
  split at h
  ·obtain⟨hs,h⟩:=f7 h
   obtain⟨v,hv,hk⟩:=uf (P:=P) (t:=t) h (fun _=>hs)
   exact⟨v,fun w=>by simp only [execOp,mC,run_bind,qT (op:=.quo) (by simp) (by simp),hv,cH],hk⟩
  ·obtain⟨hs,h⟩:=f7 h
   obtain⟨v,hv,hk⟩:=uf (P:=P) (t:=t) h (fun _=>hs)
   exact⟨v,fun w=>by simp only [execOp,mC,run_bind,qT (op:=.rem) (by simp) (by simp),hv,cH],hk⟩
  ·obtain⟨v,hv,hk⟩:=uf (P:=P) (t:=t) h (by simp)
   exact⟨v,fun w=>by simp only [execOp,mC,run_bind,qT (op:=.shl) (by simp) (by simp),hv,cH],hk⟩
  ·obtain⟨v,hv,hk⟩:=uf (P:=P) (t:=t) h (by simp)
   exact⟨v,fun w=>by simp only [execOp,mC,run_bind,qT (op:=.shr) (by simp) (by simp),hv,cH],hk⟩
  ·split at h
   ·rename_i b hb
    refine⟨_,fun w=>?_,h⟩
    have:=(HI (x:=x) (y:=y) hb w).1
    simp only [execOp,mC]
    rw [run_bind,this]
    rfl
   ·rcases C5 (x:=x) (y:=y) h with h|⟨r,hk,hr⟩
    ·exact nN h
    ·refine⟨_,fun w=>?_,hk⟩
     simp only [execOp,mC]
     rw [run_bind,(hr w).1]
     rfl
  ·split at h
   ·rename_i b hb
    refine⟨_,fun w=>?_,h⟩
    have:=(HI (x:=x) (y:=y) hb w).2
    simp only [execOp,mC]
    rw [run_bind,this]
    rfl
   ·rcases C5 (x:=x) (y:=y) h with h|⟨r,hk,hr⟩
    ·exact nN h
    ·refine⟨_,fun w=>?_,hk⟩
     simp only [execOp,mC]
     rw [run_bind,(hr w).2]
     rfl
  ·rename_i c1 c2 c3 c4 c5 c6
   clear c1 c2 c3 c4 c5 c6
   unfold UP at h
   split at h
   ·rename_i a b hx hy
    obtain⟨fE,hk⟩:=h
    have fE:a.size+b.size<4611686018427387904:=fE
    refine⟨_,fun w=>?_,hk⟩
    have Ox:¬((a.size+b.size:Nat):Int)>IntKind.i64.max:=by
     show ¬((a.size+b.size:Nat):Int)>9223372036854775807
     omega
    simp only [execOp,mC,hx,hy,run_bind,qT (op:=.add) (by simp) (by simp),binOp,Op.stringOp,if_neg Ox,cH]
   ·exact nN h
 ·exact nN h
end
def qU {α:Type}(P:Program):Sem α→List VK→Hp→(α→List VK→Prop)→Prop
 | .pure a,vs,_,K=>K a vs
 | .load _ a k,vs,h,K=>(vs.headD .any).ex fun v=>cell h a=some v∧qU P (k v) vs.tail h K
 | .shape r k,vs,h,K=>qU P (k (NK h r)) vs h K
 | .getObj r k,vs,h,K=>∃o,h[r]?=some o∧uX o=true∧qU P (k o) vs h K
 | .program k,vs,h,K=>qU P (k P) vs h K
 |_,_,_,_=>False
theorem nm {α:Type}{P:Program}:∀(s:Sem α) (vs:List VK) (w:World) (K:α→List VK→Prop),qU P s vs w.heap K →
  ∃a uD,s.run P w=.ok a w∧K a uD:=by
 intro s
 induction s with
 |pure a=>exact fun vs w K h=>⟨a,vs,rfl,h⟩
 |load m a k ih =>
  intro vs w K h
  obtain⟨v,hv,h⟩:=VK.ow h
  have hv':w.cell? a=some v:=hv
  obtain⟨x,uD,hr,hk⟩:=ih v _ _ _ h
  exact⟨x,uD,by rw [Sem.run,hv'];exact hr,hk⟩
 |shape r k ih =>
  intro vs w K h
  obtain⟨x,uD,hr,hk⟩:=ih (NK w.heap r) vs w K h
  exact⟨x,uD,by rw [Sem.run];exact hr,hk⟩
 |getObj r k ih =>
  intro vs w K h
  obtain⟨o,ho,hn,h⟩:=h
  obtain⟨x,uD,hr,hk⟩:=ih o vs w K h
  refine⟨x,uD,?_,hk⟩
  rw [←hr,Sem.run,ho]
  cases o<;>first | (simp [uX]at hn;done)|rfl
 |program k ih =>
  intro vs w K h
  obtain⟨x,uD,hr,hk⟩:=ih P vs w K h
  exact⟨x,uD,by rw [Sem.run];exact hr,hk⟩
 |_=>exact fun vs w K h=>h.elim
def Da(h:Hp)(a:Addr)(l:LV):Prop:=∀j v,l[j]?=some v→cell h (a.add j)=some v
def dZ(h:Hp):OA→LV→Prop
 |some a,l=>Da h a l
 |none,l=>l=[]
def o9(h:Hp)(a:Addr):LV→Nat→Hp
 | [],_=>h
 |v::r,i=>o9 (fy h (a.add i) v) a r (i+1)
def wH(h:Hp)(a:Addr):LV→Nat→Prop
 | [],_=>True
 |v::r,i=>mj v=true∧gZ h (a.add i)∧wH (fy h (a.add i) v) a r (i+1)
def ja(z:Array Value)(n:Nat):Array Value:=(Array.range n).map (z[·%z.size]!)
section
variable {P:Program}
theorem run_load {a:Addr}{v:Value}{w:World}(h:cell w.heap a=some v):(Go.load a).run P w=.ok v w:=by
 have h':w.cell? a=some v:=h
 unfold Go.load
 rw [Sem.run,h']
 rfl
theorem run_loadCellsFrom(a:Addr):∀(l:LV) (i:Nat) (vG:Array Value) (w:World),(∀j v,l[j]?=some v→cell w.heap (a.add (i+j))=some v) →
  (loadCellsFrom a i l.length vG).run P w=.ok (vG++l.toArray) w:=by
 intro l
 induction l with
 |nil=>intro i vG w _;simp [loadCellsFrom,cH]
 |cons x l ih =>
  intro i vG w h
  simp only [dF,loadCellsFrom,run_bind]
  have h0:cell w.heap (a.add i)=some x:=h 0 x rfl
  rw [run_load h0]
  simp only []
  rw [ih (i+1) (vG.push x) w (fun j v hj=>by have:=h (j+1) v (by simpa using hj);rwa [show i+(j+1)=i+1+j by omega]at this)]
  simp
theorem run_loadCells {a:Addr}{l:LV}{n:Nat}{w:World}(h:Da w.heap a l)(hn:l.length=n):(loadCells a n).run P w=.ok l.toArray w:=by
 unfold loadCells
 rw [←hn,run_loadCellsFrom a l 0 #[] w (fun j v hj=>by rw [fo];exact h j v hj)]
 simp
theorem run_store {a:Addr}{v:Value}{w:World}(hc:mj v=true)(h:gZ w.heap a):(Go.store a v).run P w=.ok () (w.setCell a v):=by
 obtain⟨⟨u,hu⟩,hf⟩:=h
 have hu':w.cell? a=some u:=hu
 have hf':w.frozen? a=false:=hf
 unfold Go.store
 cases v<;>first | (simp [mj]at hc;done)|simp [Sem.run,hu',hf']
theorem sN(a:Addr):∀(l:LV) (i:Nat) (w:World),wH w.heap a l i →
  ∃w',(storeCells a l i).run P w=.ok () w'∧gj w w'∧w'.heap=o9 w.heap a l i:=by
 intro l
 induction l with
 |nil=>intro i w _;exact⟨w,rfl,gj.refl _,rfl⟩
 |cons x l ih =>
  intro i w h
  obtain⟨h1,h2,h3⟩:=h
  have S8:(w.setCell (a.add i) x).heap=fy w.heap (a.add i) x:=rfl
  rw [←S8]at h3
  obtain⟨w',hr,hs,hh⟩:=ih (i+1) _ h3
  refine⟨w',?_,hs,hh⟩
  rw [storeCells,run_bind,run_store h1 h2]
  exact hr
theorem lx {b:OA}{m c sz n:Nat}{l:LV}{w:World}(h:dZ w.heap b l)(hn:l.length=n*sz):
  (Builtin.firstCells sz n (.slice b m c)).run P w=.ok l.toArray w:=by
 cases b with
 |none=>have:l=[]:=h;subst this;rfl
 |some a=>exact run_loadCells h hn
theorem lF {t:TypeId}{i:TypeInfo}{v:Value}(h:P.info? t=some i)(hz:i.zero=some v)(w:World):(Go.zeroValue t).run P w=.ok v w:=by
 unfold Go.zeroValue
 rw [run_bind,run_typeInfo h]
 simp only [hz]
 rfl
theorem qg(e:TypeId)(cs:Array Value)(w:World):(Go.newRow e cs).run P w=.ok ⟨w.heap.size,0,none⟩ {w with heap:=w.heap.push (.cells cs e)}:=by
 unfold Go.newRow
 rw [run_bind]
 unfold Go.newObj
 rw [Sem.run]
 rfl
theorem run_askRoom(n:Nat)(w:World):(Go.askRoom n).run P w=.ok () w:=by
 unfold Go.askRoom
 split
 ·unfold Go.mark;rw [Sem.run];rfl
 ·rfl
end
def xf(P:Program)(e:TypeId):Option (Array Value):=match P.info? e with|some i=>(match i.zero with|some v=>some v.cells|none=>none)|none=>none
def Oe(P:Program)(t:TypeId)(len cap:Value)(h:Hp)(K:RP):Prop :=
 match P.underlying t,len,cap with
 |some (.slice e),.int _ l,.int _ c =>
  match xf P e with
  |some z=>(0≤l∧l≤c)∧c<2 ^ 62∧FT P e*c≤2 ^ 48 ∧
    K (.slice (some ⟨h.size,0,none⟩) l.toNat c.toNat) (h.push (.cells (ja z (c.toNat*m6 P e)) e))
  |none=>False
 |_,_,_=>False
section
variable {P:Program}
theorem DY {x:Int}(h0:0≤x)(h1:x<2 ^ 62):IntKind.i64.wrap x=x:=by
 have h1':x<4611686018427387904:=h1
 have e:x%2 ^ 64=x:=by omega
 simp only [IntKind.wrap,IntKind.signed,IntKind.bits,e]
 rw [if_neg]
 simp
 omega
theorem IX {t:TypeId}{len cap:Value}{w:World}{K:RP}(h:Oe P t len cap w.heap K):
  ∃v w',(Instr.makeSlice t len cap).run P w=.ok v w'∧gj w w'∧K v w'.heap:=by
 unfold Oe at h
 split at h
 ·rename_i e k l k' c ht
  split at h
  ·rename_i z hz
   obtain⟨⟨h0,h1⟩,h2,h3,hk⟩:=h
   unfold xf at hz
   split at hz
   ·rename_i i hi
    split at hz
    ·rename_i v hv
     obtain rfl:v.cells=z:=by simpa using hz
     have HZ:FT P e=i.bytes:=by unfold FT;rw [hi]
     have vF:m6 P e=i.size:=by unfold m6;rw [hi]
     have hs:(P.info? e).isSome=true:=by rw [hi];rfl
     refine⟨_,{w with heap:=w.heap.push (.cells (ja v.cells (c.toNat*m6 P e)) e)},?_,?_,hk⟩
     ·unfold Instr.makeSlice
      rw [run_bind,run_underlying ht]
      simp only [run_bind,asInt,asIntOf,cH,run_typeInfo hi]
      rw [DY h0 (by omega),DY (by omega) h2]
      have h3':(i.bytes:Int)*c≤2 ^ 48:=by rw [←HZ];exact h3
      have I9:¬((decide (c<0)||decide (2 ^ 48<(i.bytes:Int)*c))||decide (l<0)||decide (c<l))=true:=by
       simp only [rM,decide_eq_true_eq,not_or]
       omega
      simp only [gt_iff_lt]
      rw [if_neg I9]
      simp only [run_bind,run_askRoom,run_sizeOf hs,vF]
      by_cases hn:c.toNat*i.size=0
      ·simp only [hn,if_true,ja]
       rw [run_bind,cH]
       simp only [run_bind,qg,cH]
       simp [Array.range]
      ·simp only [hn,if_false,run_bind,lF hi hv,cH,qg,ja]
     ·exact⟨rfl,rfl,rfl,(by first|exact bH _|exact gV _|simp)⟩
    ·cases hz
   ·cases hz
  ·exact h.elim
 ·exact h.elim
end
def Bl(h:Hp)(jc:OA)(off:Nat)(fz:LV)(K:Hp→Prop):Prop :=
 match jc with
 |some a=>wH h (a.add off) fz 0∧K (o9 h (a.add off) fz 0)
 |none=>K h
def DS(P:Program)(e:TypeId)(z:Array Value)(jc:OA)(n c need:Nat)(fz:LV)(h:Hp)(K:RP):Prop :=
 (need≤c→Bl h jc (n*m6 P e) fz fun h'=>K (.slice jc need c) h') ∧
 (c<need→(2*need+768)*FT P e≤2 ^ 48∧need<2 ^ 62∧∃B2,dZ h jc B2∧B2.length=n*m6 P e ∧
  ∀nc,need≤nc→nc<2 ^ 63→K (.slice (some ⟨h.size,0,none⟩) need nc) (h.push (.cells (B2.toArray++fz.toArray++ja z ((nc-need)*z.size)) e)))
def yI(P:Program)(t:TypeId):Bool:=match P.underlying t with|some (.int _)=>true|_=>false
def FW(P:Program)(st xt:TypeId)(s x:Value)(h:Hp)(K:RP):Prop :=
 match P.underlying st,s,x with
 |some (.slice e),.slice jc n c,.slice b2 m _ =>
  match xf P e with
  |some z=>bX ((P.underlying xt).isSome&&!yI P xt) (∃fz,dZ h b2 fz∧fz.length=m*m6 P e∧DS P e z jc n c (n+m) fz h K) False
  |none=>False
 |some (.slice e),.slice jc n c,.string b =>
  match xf P e with
  |some z=>bX ((P.underlying xt).isSome&&!yI P xt&&m6 P e==1) (DS P e z jc n c (n+b.size) (b.data.toList.map fun u=>.int .u8 u.toNat) h K) False
  |none=>False
 |some (.slice e),.slice jc n c,.int _ m =>
  match xf P e with
  |some z=>bX (yI P xt&&z.size==m6 P e) ((0≤m∧m<2 ^ 62)∧m*FT P e≤2 ^ 48∧DS P e z jc n c (n+m.toNat) (ja z (m.toNat*z.size)).toList h K) False
  |none=>False
 |_,_,_=>False
def PD(P:Program)(dt:TypeId)(d s:Value)(h:Hp)(K:RP):Prop :=
 match P.underlying dt,d,s with
 |some (.slice e),.slice jc n _,.slice b2 m _ =>
  bX (P.info? e).isSome (∃fz,dZ h b2 fz∧fz.length=min m n*m6 P e∧Bl h jc 0 fz fun h'=>K (.int .i64 (min m n:Nat)) h') False
 |_,_,_=>False
section
variable {P:Program}
theorem zY {need c:Nat}(h:c<need):Builtin.nextslicecap need c≤2*need+768:=by
 have hg:∀r x,x≤2*need+768→Builtin.growBy need r x≤2*need+768:=by
  intro r
  induction r with
  |zero=>intro x hx;exact hx
  |succ r ih =>
   intro x hx
   unfold Builtin.growBy
   split
   ·exact hx
   ·exact ih _ (by omega)
 unfold Builtin.nextslicecap
 split
 ·omega
 ·split
  ·omega
  ·exact hg 4 c (by omega)
theorem C0 {d:TypeDesc}(h:(match some d with|some (TypeDesc.int _)=>true|_=>false)=false):∀k,d≠.int k:=by
 intro k hk
 subst hk
 simp at h
theorem tK {e:TypeId}{z:Array Value}(h:xf P e=some z):∃i v,P.info? e=some i∧i.zero=some v∧v.cells=z:=by
 unfold xf at h
 split at h
 ·rename_i i hi
  split at h
  ·rename_i v hv
   exact⟨i,v,hi,hv,by simpa using h⟩
  ·cases h
 ·cases h
theorem run_choose {q:Question}(hq:q.forced=false)(w:World):(Go.choose q).run P w=.ok (q.cut (w.tape w.drawn q)) {w with drawn:=w.drawn+1}:=by
 unfold Go.choose
 rw [Sem.run,hq]
 rfl
theorem Iy {e:TypeId}{z:Array Value}{jc:OA}{n c need:Nat}{fz:LV}{w:World}{K:RP}(hT:DS P e z jc n c need fz w.heap K)(hc:need≤c):
  ∃w',(match jc with
   |some a=>do
    storeCells (a.add (n*m6 P e)) fz.toArray.toList
    Pure.pure (Value.slice jc need c)
   |_=>Pure.pure (Value.slice jc need c):Sem Value).run P w=.ok (.slice jc need c) w'∧gj w w'∧K (.slice jc need c) w'.heap:=by
 have h:=hT.1 hc
 cases jc with
 |none=>exact⟨w,rfl,gj.refl _,h⟩
 |some a =>
  obtain⟨h1,h2⟩:=h
  obtain⟨w',hr,hs,hh⟩:=sN (P:=P) (a.add (n*m6 P e)) fz 0 w h1
  refine⟨w',?_,hs,by rw [hh];exact h2⟩
  simp only [run_bind,hr,cH]
theorem J7 {argTypes:Array TypeId}{ty st xt:TypeId}{s x:Value}{w:World}{K:RP}(h0:argTypes[0]?=some st)(h1:argTypes[1]?=some xt)
  (h:FW P st xt s x w.heap K):∃v w',(Builtin.append_ argTypes ty #[s,x]).run P w=.ok v w'∧gj w w'∧K v w'.heap:=by
 unfold FW at h
 split at h
 ·rename_i e jc n c b2 m c2 ht
  split at h
  ·rename_i z hz
   obtain⟨hx,fz,hr,hl,hT⟩:=f7 h
   simp only [eD,pQ]at hx
   obtain⟨hx,Fh⟩:=hx
   obtain⟨i,v,hi,hv,rfl⟩:=tK hz
   obtain⟨d,hd⟩:=jE.1 hx
   have hs:(P.info? e).isSome=true:=by rw [hi];rfl
   have vF:m6 P e=i.size:=by unfold m6;rw [hi]
   have HZ:FT P e=i.bytes:=by unfold FT;rw [hi]
   have iS:=C0 (d:=d) (by unfold yI at Fh;rw [hd]at Fh;exact Fh)
   unfold Builtin.append_
   simp only [h0,h1]
   have g0:(#[Value.slice jc n c,Value.slice b2 m c2]:Array Value)[0]?=some (Value.slice jc n c):=rfl
   have g1:(#[Value.slice jc n c,Value.slice b2 m c2]:Array Value)[1]?=some (Value.slice b2 m c2):=rfl
   simp only [g0,g1]
   simp only [run_bind,run_underlying ht,run_sizeOf hs,run_underlying hd,cH]
   simp only [dy,if_false,Builtin.lenOf,run_bind,cH,nI,if_true]
   have hfc:=fun w'=>lx (P:=P) (c:=c2) (m:=m) (sz:=m6 P e) (n:=m) (w:=w') (l:=fz) (b:=b2)
   by_cases hc:n+m≤c
   ·simp only [hc,if_true,run_bind,hfc w hr hl]
    obtain⟨w',h1,h2,h3⟩:=Iy hT hc
    exact⟨_,w',h1,h2,h3⟩
   ·obtain⟨Tj,vW,B2,ho,hol,hK⟩:=hT.2 (by omega)
    have hnx:=zY (need:=n+m) (c:=c) (by omega)
    have uc:Builtin.nextslicecap (n+m) c*i.bytes≤2 ^ 48:=by
     rw [HZ]at Tj
     exact bP (gA _ hnx) Tj
    have Ox:¬((n+m:Nat):Int)>IntKind.i64.max:=by
     show ¬((n+m:Nat):Int)>9223372036854775807
     have LS:n+m<4611686018427387904:=vW
     omega
    simp only [hc,if_false,run_bind,run_typeInfo hi,Ox,false_and,Nat.not_lt.2 uc,gt_iff_lt]
    rw [run_choose rfl]
    simp only [run_askRoom]
    generalize Tb:(Question.appendCap (n+m) c e).cut (w.tape w.drawn (Question.appendCap (n+m) c e))=nc
    have LS:n+m<4611686018427387904:=vW
    have Fb:n+m≤nc∧nc<2 ^ 63:=by
     rw [←Tb]
     simp only [Question.cut]
     have:=jB (w.tape w.drawn (Question.appendCap (n+m) c e)) (show 0<2 ^ 63-(n+m)by omega)
     omega
    have hfo:=lx (P:=P) (c:=c) (m:=n) (sz:=m6 P e) (n:=n) (w:={w with drawn:=w.drawn+1}) (l:=B2) (b:=jc) ho hol
    simp only [hfo,hfc {w with drawn:=w.drawn+1} hr hl,lF hi hv,qg,cH]
    exact⟨_,_,rfl,⟨rfl,rfl,rfl,(by first|exact bH _|exact gV _|simp)⟩,hK nc Fb.1 Fb.2⟩
  ·exact h.elim
 ·rename_i e jc n c b ht
  split at h
  ·rename_i z hz
   obtain⟨hx,hT⟩:=f7 h
   simp only [eD,pQ]at hx
   obtain⟨⟨hx,Fh⟩,_⟩:=hx
   obtain⟨i,v,hi,hv,rfl⟩:=tK hz
   obtain⟨d,hd⟩:=jE.1 hx
   have hs:(P.info? e).isSome=true:=by rw [hi];rfl
   have HZ:FT P e=i.bytes:=by unfold FT;rw [hi]
   have iS:=C0 (d:=d) (by unfold yI at Fh;rw [hd]at Fh;exact Fh)
   have Q4:((b.extract 0 b.size).data.map fun u=>Value.int .u8 u.toNat)=(b.data.toList.map fun u=>Value.int .u8 u.toNat).toArray:=by
    have e1:b.extract 0 b.size=b:=by simp
    rw [e1]
    apply gd
    simp
   unfold Builtin.append_
   simp only [h0,h1]
   have g0:(#[Value.slice jc n c,Value.string b]:Array Value)[0]?=some (Value.slice jc n c):=rfl
   have g1:(#[Value.slice jc n c,Value.string b]:Array Value)[1]?=some (Value.string b):=rfl
   simp only [g0,g1]
   simp only [run_bind,run_underlying ht,run_sizeOf hs,run_underlying hd,cH]
   simp only [dy,if_false,Builtin.lenOf,run_bind,cH,nI,if_true,Builtin.firstCells,Q4]
   by_cases hc:n+b.size≤c
   ·simp only [hc,if_true,run_bind,cH]
    obtain⟨w',h1,h2,h3⟩:=Iy hT hc
    exact⟨_,w',h1,h2,h3⟩
   ·obtain⟨Tj,vW,B2,ho,hol,hK⟩:=hT.2 (by omega)
    have hnx:=zY (need:=n+b.size) (c:=c) (by omega)
    have uc:Builtin.nextslicecap (n+b.size) c*i.bytes≤2 ^ 48:=by
     rw [HZ]at Tj
     exact bP (gA _ hnx) Tj
    have Ox:¬((n+b.size:Nat):Int)>IntKind.i64.max:=by
     show ¬((n+b.size:Nat):Int)>9223372036854775807
     have LS:n+b.size<4611686018427387904:=vW
     omega
    simp only [hc,if_false,run_bind,run_typeInfo hi,Ox,false_and,Nat.not_lt.2 uc,gt_iff_lt]
    rw [run_choose rfl]
    simp only [run_askRoom]
    generalize Tb:(Question.appendCap (n+b.size) c e).cut (w.tape w.drawn (Question.appendCap (n+b.size) c e))=nc
    have LS:n+b.size<4611686018427387904:=vW
    have Fb:n+b.size≤nc∧nc<2 ^ 63:=by
     rw [←Tb]
     simp only [Question.cut]
     have:=jB (w.tape w.drawn (Question.appendCap (n+b.size) c e)) (show 0<2 ^ 63-(n+b.size)by omega)
     omega
    have hfo:=lx (P:=P) (c:=c) (m:=n) (sz:=m6 P e) (n:=n) (w:={w with drawn:=w.drawn+1}) (l:=B2) (b:=jc) ho hol
    unfold Builtin.firstCells at hfo
    simp only [hfo,lF hi hv,qg,cH]
    exact⟨_,_,rfl,⟨rfl,rfl,rfl,(by first|exact bH _|exact gV _|simp)⟩,hK nc Fb.1 Fb.2⟩
  ·exact h.elim
 ·rename_i e jc n c k m ht
  split at h
  ·rename_i z hz
   obtain⟨hx,⟨hm0,hm1⟩,hmb,hT⟩:=f7 h
   simp only [eD,beq_iff_eq]at hx
   obtain⟨Fh,hzs⟩:=hx
   obtain⟨i,v,hi,hv,rfl⟩:=tK hz
   have hs:(P.info? e).isSome=true:=by rw [hi];rfl
   have vF:m6 P e=i.size:=by unfold m6;rw [hi]
   have HZ:FT P e=i.bytes:=by unfold FT;rw [hi]
   obtain⟨kd,hd⟩:∃kd,P.underlying xt=some (.int kd):=by
    unfold yI at Fh
    split at Fh
    ·rename_i kd hd;exact⟨kd,hd⟩
    ·cases Fh
   have Q4:∀w',(if m.toNat*m6 P e=0 then(Pure.pure #[]:Sem (Array Value))else do Pure.pure (Builtin.zeroCells (←zeroValue e).cells m.toNat)).run P w'=.ok (ja v.cells (m.toNat*v.cells.size)) w':=by
    intro w'
    split
    ·rename_i h0
     rw [←hzs]at h0
     rw [h0,cH]
     simp [ja]
    ·simp only [run_bind,lF hi hv,cH]
     rfl
   have hta:(ja v.cells (m.toNat*v.cells.size)).toList.toArray=ja v.cells (m.toNat*v.cells.size):=Array.toArray_toList
   have atl:m*i.bytes≤2 ^ 48:=by rw [←HZ];exact hmb
   unfold Builtin.append_
   simp only [h0,h1]
   have g0:(#[Value.slice jc n c,Value.int k m]:Array Value)[0]?=some (Value.slice jc n c):=rfl
   have g1:(#[Value.slice jc n c,Value.int k m]:Array Value)[1]?=some (Value.int k m):=rfl
   simp only [g0,g1]
   simp only [run_bind,run_underlying ht,run_sizeOf hs,run_underlying hd,cH,asInt,asIntOf,if_true,DY hm0 hm1,Int.not_lt.2 hm0,if_false,run_typeInfo hi,gt_iff_lt,Int.not_lt.2 atl,qN,dy,true_or,and_true]
   by_cases hc:n+m.toNat≤c
   ·simp only [hc,if_true,run_bind,Q4]
    obtain⟨w',h1,h2,h3⟩:=Iy hT hc
    rw [hta]at h1
    exact⟨_,w',h1,h2,h3⟩
   ·obtain⟨Tj,vW,B2,ho,hol,hK⟩:=hT.2 (by omega)
    have hnx:=zY (need:=n+m.toNat) (c:=c) (by omega)
    have uc:Builtin.nextslicecap (n+m.toNat) c*i.bytes≤2 ^ 48:=by
     rw [HZ]at Tj
     exact bP (gA _ hnx) Tj
    have Ox:¬IntKind.i64.max<((n+m.toNat:Nat):Int):=by
     show ¬9223372036854775807<((n+m.toNat:Nat):Int)
     have LS:n+m.toNat<4611686018427387904:=vW
     omega
    simp only [hc,if_false,run_bind,run_typeInfo hi,Ox,Nat.not_lt.2 uc]
    rw [run_choose rfl]
    simp only [run_askRoom]
    generalize Tb:(Question.appendCap (n+m.toNat) c e).cut (w.tape w.drawn (Question.appendCap (n+m.toNat) c e))=nc
    have LS:n+m.toNat<4611686018427387904:=vW
    have Fb:n+m.toNat≤nc∧nc<2 ^ 63:=by
     rw [←Tb]
     simp only [Question.cut]
     have:=jB (w.tape w.drawn (Question.appendCap (n+m.toNat) c e)) (show 0<2 ^ 63-(n+m.toNat)by omega)
     omega
    have hfo:=lx (P:=P) (c:=c) (m:=n) (sz:=m6 P e) (n:=n) (w:={w with drawn:=w.drawn+1}) (l:=B2) (b:=jc) ho hol
    simp only [hfo,Q4,lF hi hv,qg,cH]
    have hK':=hK nc Fb.1 Fb.2
    rw [hta]at hK'
    exact⟨_,_,rfl,⟨rfl,rfl,rfl,(by first|exact bH _|exact gV _|simp)⟩,hK'⟩
  ·exact h.elim
 ·exact h.elim
theorem PC {argTypes:Array TypeId}{ty dt:TypeId}{d s:Value}{w:World}{K:RP}(h0:argTypes[0]?=some dt)
  (h:PD P dt d s w.heap K):∃v w',(Builtin.copy_ argTypes ty #[d,s]).run P w=.ok v w'∧gj w w'∧K v w'.heap:=by
 unfold PD at h
 split at h
 ·rename_i e jc n c b2 m c2 ht
  obtain⟨hs,fz,hr,hl,hT⟩:=f7 h
  unfold Builtin.copy_
  simp only [h0]
  have g0:(#[Value.slice jc n c,Value.slice b2 m c2]:Array Value)[0]?=some (Value.slice jc n c):=rfl
  have g1:(#[Value.slice jc n c,Value.slice b2 m c2]:Array Value)[1]?=some (Value.slice b2 m c2):=rfl
  have Ff:fz.length=Nat.min m n*m6 P e:=hl
  simp only [g0,g1]
  simp only [run_bind,run_underlying ht,run_sizeOf hs,cH,Builtin.lenOf,lx hr Ff]
  cases jc with
  |none=>exact⟨_,w,rfl,gj.refl _,hT⟩
  |some a =>
   obtain⟨h1,h2⟩:=hT
   obtain⟨w',hr,hs,hh⟩:=sN (P:=P) (a.add 0) fz 0 w h1
   refine⟨_,w',?_,hs,by rw [hh];exact h2⟩
   have Uc:(storeCells a fz).run P w=.ok () w':=hr
   simp only [run_bind,Uc,cH]
   rfl
 ·exact h.elim
end
section
open Go.MapKept
structure acV (P:Program) (kt:TypeId) (Ok:Value→Prop):Prop where
 check:∀(em:Bool) {v:Value} (w:World),Ok v→(Instr.checkKey em 10000 kt v).run P w=.ok () w
 find:∀ {x:Value} (es:List MapEntry) (w:World),Ok x→(∀e∈es,Ok e.key) →
  ((Instr.findKey kt x es).run P w=.ok none w∧∀e∈es,e.key≠x)∨∃j e,(Instr.findKey kt x es).run P w=.ok (some (j,e.val)) w∧es[j]?=some e∧e.key=x
 adw:∀ {v:Value} (w:World),Ok v→(Instr.keyThatStays v v).run P w=.ok v w
structure Is (Ok:Value→Prop) (h:Hp) (r:Nat) (es:List MapEntry) (uy:Nat):Prop where
 ob:h[r]?=some (.map es.toArray uy)
 ok:∀e∈es,Ok e.key
 nd:(es.map (·.key)).Nodup
def aoZ(es:List MapEntry)(k v:Value):Prop:=∃e∈es,e.key=k∧e.val=v
def Sa(es:List MapEntry)(k:Value):Prop:=∀e∈es,e.key≠k
def zV(P:Program)(t:TypeId):Option Value:=match P.info? t with|some i=>i.zero|none=>none
def Ke(P:Program)(kt et:TypeId)(x key:Value)(h:Hp)(v:Value)(ok:Bool):Prop :=
 ∃Ok,acV P kt Ok∧Ok key∧((x=.map none∧ok=false∧zV P et=some v) ∨
  ∃r es uy,x=.map (some r)∧Is Ok h r es uy∧((ok=true∧aoZ es key v)∨(ok=false∧Sa es key∧zV P et=some v)))
def Zw(P:Program)(kt:TypeId)(x key val:Value)(h:Hp)(K:Hp→Prop):Prop :=
 ∃Ok r es uy,acV P kt Ok∧Ok key∧x=.map (some r)∧Is Ok h r es uy∧(Sa es key→K (h.setIfInBounds r (.map (es++[({key:=key,val:=val,born:=uy}:MapEntry)]).toArray (uy+1)))) ∧
  ∀j e,es[j]?=some e→e.key=key→K (h.setIfInBounds r (.map (es.set j {e with val:=val}).toArray uy))
def Zz(P:Program)(kt:TypeId)(x key:Value)(h:Hp)(K:Hp→Prop):Prop :=
 ∃Ok r es uy,acV P kt Ok∧Ok key∧x=.map (some r)∧Is Ok h r es uy∧(Sa es key→K (h.setIfInBounds r (.map es.toArray uy))) ∧
  ∀j e,es[j]?=some e→e.key=key→K (h.setIfInBounds r (.map (es.eraseIdx j).toArray uy))
def R9(P:Program)(kt et:TypeId)(x key:Value)(h:Hp)(K:Value→Int→Hp→Prop):Prop :=
 ∃Ok r,∃es:List MapEntry,∃uy z,acV P kt Ok∧Ok key∧x=.map (some r)∧Is Ok h r es uy∧zV P et=some z∧(Sa es key→K z (uy:Nat) (h.setIfInBounds r (.map (es++[({key:=key,val:=z,born:=uy}:MapEntry)]).toArray (uy+1)))) ∧
  ∀(j:Nat) (e:MapEntry),es[j]?=some e→e.key=key→K e.val (e.born:Nat) (h.setIfInBounds r (.map es.toArray uy))
def Zx(x:Value)(Qr:Int)(val:Value)(h:Hp)(K:Hp→Prop):Prop :=
 ∃r,∃es:List MapEntry,∃uy j e,x=.map (some r)∧h[r]?=some (.map es.toArray uy)∧es[j]?=some e∧Qr=(e.born:Int)∧(∀i e',i<j→es[i]?=some e'→e'.born≠e.born)∧K (h.setIfInBounds r (.map (es.set j {e with val:=val}).toArray uy))
def Ni(x:Value)(h:Hp)(K:Hp→Prop):Prop:=∃r es uy,x=.map (some r)∧h[r]?=some (.map es uy)∧K (h.push (.mapIter (some r) uy #[] uy))
def R8(it:Value)(h:Hp)(KF:Prop)(KT:Value→RP):Prop :=
 ∃r m es uy gU seen c0,it=.pointer (some ⟨r,0,none⟩)∧h[r]?=some (.mapIter (some m) gU seen c0)∧h[m]?=some (.map es uy)∧(∀e∈es.toList,e.born<gU)∧gU≤c0 ∧
  ((∀e∈es.toList,e.born∈seen.toList)→KF)∧∀e∈es.toList,¬e.born∈seen.toList→KT e.key e.val (h.setIfInBounds r (.mapIter (some m) gU (seen.push e.born) uy))
def Zy(it:Value)(h:Hp)(a b:Value):Prop :=
 ∃r m es uy gU seen e,it=.pointer (some ⟨r,0,none⟩)∧h[r]?=some (.mapIter (some m) gU seen uy)∧h[m]?=some (.map es uy)∧seen.back?=some e.born∧e∈es.toList∧(∀x∈es.toList,x.born=e.born→x=e)∧e.key=a∧e.val=b
def Dyn(P:Program)(v:Value)(args:LV)(h:Hp)(R:RP):Prop :=
 ∃g first gP,v=.func (.func g) first gP∧(∀(args:Array Value) (w:World),(callFunc g args).run P w=.ok (.enter g args) w)∧bq P g (first.toList++args++gP.toList).toArray h R
section
variable {P:Program}
theorem NP {t:TypeId}{v:Value}(h:zV P t=some v)(w:World):(Go.zeroValue t).run P w=.ok v w:=by
 unfold zV at h
 split at h
 ·rename_i i hi;exact lF hi h w
 ·cases h
theorem Is.abA {Ok:Value→Prop}{h:Hp}{r:Nat}{es:List MapEntry}{uy:Nat}(m:Is Ok h r es uy){e e':MapEntry}(he:e∈es)(OB:e'∈es)(hk:e.key=e'.key):e=e':=by
 have nd:=m.nd
 clear m
 induction es with
 |nil=>cases he
 |cons a l ih =>
  rw [cU,cV]at nd
  rcases ck.1 he with rfl|h1<;>rcases ck.1 OB with rfl|h2
  ·rfl
  ·exact absurd (cy.2 ⟨e',h2,hk.symm⟩) nd.1
  ·exact absurd (cy.2 ⟨e,h1,hk⟩) nd.1
  ·exact ih h1 h2 nd.2
theorem EC {xt kt et:TypeId}{x key v:Value}{ok co:Bool}{w:World}(ht:P.underlying xt=some (.map kt et)) (h:Ke P kt et x key w.heap v ok) :
  (Instr.lookup xt x key co).run P w=.ok (if co then .tuple #[v,.bool ok]else v) w:=by
 obtain⟨Ok,L,hk,h⟩:=h
 rcases h with⟨rfl,rfl,hz⟩|⟨r,es,uy,rfl,m,h⟩
 ·have hf:(Instr.findKey kt key ([]:List MapEntry)).run P w=.ok none w:=by
   rcases L.find [] w hk (fun e he=>by cases he)with⟨h1,_⟩|⟨j,e,_,h2,_⟩
   ·exact h1
   ·simp at h2
  unfold Instr.lookup
  simp only [run_bind,run_underlying ht,cH,L.check _ w hk,List.isEmpty_toArray]
  simp only [hf,run_bind,NP hz,cH]
 ·unfold Instr.lookup
  simp only [run_bind,run_underlying ht,Go.MapKept.run_getObj_map m.ob,cH,L.check _ w hk]
  rcases L.find es w hk m.ok with⟨h1,h2⟩|⟨j,e,h1,h2,h3⟩
  ·simp only [h1]
   rcases h with⟨_,e,he,hek,_⟩|⟨rfl,_,hz⟩
   ·exact absurd hek (h2 e he)
   ·simp only [run_bind,NP hz,cH]
  ·simp only [h1,cH]
   have hm:=bx h2
   rcases h with⟨rfl,e',OB,hek,hv⟩|⟨_,hl,_⟩
   ·have:e'=e:=m.abA OB hm (hek.trans h3.symm)
    subst this
    rw [←hv]
    rfl
   ·exact absurd h3 (hl e hm)
theorem GD {mt kt et:TypeId}{x key val:Value}{w:World}{K:Hp→Prop}(ht:P.underlying mt=some (.map kt et)) (h:Zw P kt x key val w.heap K) :
  ∃w',(Instr.mapUpdate mt x key val).run P w=.ok () w'∧gj w w'∧K w'.heap:=by
 obtain⟨Ok,r,es,uy,L,hk,rfl,m,k1,k2⟩:=h
 unfold Instr.mapUpdate
 simp only [run_bind,run_underlying ht,Go.MapKept.run_getObj_map m.ob,L.check _ w hk]
 rcases L.find es w hk m.ok with⟨h1,h2⟩|⟨j,e,h1,h2,h3⟩
 ·simp only [h1,run_bind]
  refine⟨_,Go.MapKept.run_setObj_map _ m.ob,⟨rfl,rfl,rfl,(by first|exact bH _|exact gV _|simp)⟩,?_⟩
  have:=k1 h2
  simpa using this
 ·have he:(es.toArray[j]?.map (·.key)).getD key=key:=by simp [h2,h3]
  simp only [h1,run_bind,he,L.adw w hk]
  refine⟨_,Go.MapKept.run_setObj_map _ m.ob,⟨rfl,rfl,rfl,(by first|exact bH _|exact gV _|simp)⟩,?_⟩
  have:=k2 j e h2 h3
  have e1:(es.set j {e with val:=val}).toArray=es.toArray.modify j fun e=>{e with key:=key,val:=val}:=by
   apply gd
   rw [rY]
   apply cG
   intro i
   rw [dQ,eW]
   have hj:=(bp.1 h2).1
   by_cases zc:j=i
   ·subst zc
    obtain⟨ek,ev,eb⟩:=e
    obtain rfl:ek=key:=h3
    have Rb:es[j]=⟨ek,ev,eb⟩:=by rw [br hj]at h2;exact bt h2
    simp [hj,Rb]
   ·simp [zc]
  rw [e1]at this
  exact this
theorem NU {mt kt et ty:TypeId}{iL:Array TypeId}{x key:Value}{w:World}{K:Hp→Prop}(h0:iL[0]?=some mt)(ht:P.underlying mt=some (.map kt et)) (h:Zz P kt x key w.heap K) :
  ∃w',(Builtin.delete_ iL ty #[x,key]).run P w=.ok (.tuple #[]) w'∧gj w w'∧K w'.heap:=by
 obtain⟨Ok,r,es,uy,L,hk,rfl,m,k1,k2⟩:=h
 unfold Builtin.delete_
 have g1:(#[Value.map (some r),key]:Array Value)[0]?=some (.map (some r)):=rfl
 have g2:(#[Value.map (some r),key]:Array Value)[1]?=some key:=rfl
 simp only [h0,g1,g2,run_bind,run_underlying ht,Go.MapKept.run_getObj_map m.ob,L.check _ w hk]
 rcases L.find es w hk m.ok with⟨h1,h2⟩|⟨j,e,h1,h2,h3⟩
 ·simp only [h1,run_bind,Go.MapKept.run_setObj_map _ m.ob,cH]
  exact⟨_,rfl,⟨rfl,rfl,rfl,(by first|exact bH _|exact gV _|simp)⟩,k1 h2⟩
 ·simp only [h1,run_bind,Go.MapKept.run_setObj_map _ m.ob,cH]
  refine⟨_,rfl,⟨rfl,rfl,rfl,(by first|exact bH _|exact gV _|simp)⟩,?_⟩
  have:=k2 j e h2 h3
  have e1:(es.eraseIdx j).toArray=es.toArray.eraseIdxIfInBounds j:=by
   apply gd
   rw [Array.toList_eraseIdxIfInBounds]
  rw [e1]at this
  exact this
theorem Sy {xt kt et:TypeId}{x:Value}{w:World}{K:Hp→Prop}(ht:P.underlying xt=some (.map kt et)) (h:Ni x w.heap K) :
  ∃w',(Instr.range xt x).run P w=.ok (.pointer (some ⟨w.heap.size,0,none⟩)) w'∧gj w w'∧K w'.heap:=by
 obtain⟨r,es,uy,rfl,hb,hk⟩:=h
 unfold Instr.range
 simp only [run_bind,run_underlying ht,Go.MapKept.run_getObj_map hb,cH]
 exact⟨_,rfl,⟨rfl,rfl,rfl,(by first|exact bH _|exact gV _|simp)⟩,hk⟩
theorem Vf {it:Value}{ty:TypeId}{w:World}{KF:Prop}{KT:Value→RP}(h:R8 it w.heap KF KT):
  ((Instr.next it false ty).run P w=.ok (.tuple #[.bool false]) w∧KF)∨∃k v w',(Instr.next it false ty).run P w=.ok (.tuple #[.bool true,k,v]) w'∧gj w w'∧KT k v w'.heap:=by
 obtain⟨r,m,es,uy,gU,seen,c0,rfl,hr,hm,LG,hsc,kf,kt⟩:=h
 rcases run_next_at (P:=P) w ty r m gU c0 seen es uy hr hm LG hsc with⟨h0,Ca⟩|⟨e,he,w1,hw,Ca⟩
 ·refine .inl ⟨Ca,kf fun e he=>?_⟩
  have h1:leftOf es seen=#[]:=Array.eq_empty_of_size_eq_zero h0
  unfold leftOf at h1
  have:=(Array.filter_eq_empty_iff.1 h1) e (by simpa using he)
  simpa using this
 ·refine .inr ⟨_,_,_,Ca,?_,?_⟩
  ·rcases hw with rfl|rfl<;>exact⟨rfl,rfl,rfl,(by first|exact bH _|exact gV _|simp)⟩
  ·unfold leftOf at he
   have he2:e∈es.toList∧¬e.born∈seen.toList:=by simpa using he
   have:=kt e he2.1 he2.2
   rcases hw with rfl|rfl<;>exact this
theorem Sz {it:Value}{w:World}{a b:Value}(h:Zy it w.heap a b):(Instr.entry it).run P w=.ok (.tuple #[a,b]) w:=by
 obtain⟨r,m,es,uy,gU,seen,e,rfl,hr,hm,hs,he,hu,rfl,rfl⟩:=h
 have hf:es.find? (fun x=>x.born==e.born)=some e:=by
  rw [←Array.find?_toList]
  cases h:es.toList.find? (fun x=>x.born==e.born)with
  |none=>exact absurd (mu.1 h e he) (by simp)
  |some x =>
   have h1:=ox h
   have h2:=ip h
   rw [hu x h2 (by simpa using h1)]
 unfold Instr.entry
 simp only [getObj,run_bind,Sem.run,hr,hm,hs,bne_self_eq_false,dy,if_false,hf,cH]
theorem IP {mt kt et:TypeId}{x key:Value}{w:World}{K:Value→Int→Hp→Prop}(ht:P.underlying mt=some (.map kt et)) (h:R9 P kt et x key w.heap K) :
  ∃v b w',(Instr.mapEntry mt x key).run P w=.ok (.tuple #[v,.int .i64 b]) w'∧gj w w'∧K v b w'.heap:=by
 obtain⟨Ok,r,es,uy,z,L,hk,rfl,m,hz,k1,k2⟩:=h
 unfold Instr.mapEntry
 simp only [run_bind,run_underlying ht,Go.MapKept.run_getObj_map m.ob,L.check _ w hk]
 rcases L.find es w hk m.ok with⟨h1,h2⟩|⟨j,e,h1,h2,h3⟩
 ·simp only [h1,run_bind,NP hz,Go.MapKept.run_setObj_map _ m.ob,cH]
  refine⟨z,(uy:Nat),_,rfl,⟨rfl,rfl,rfl,(by first|exact bH _|exact gV _|simp)⟩,?_⟩
  have:=k1 h2
  simpa using this
 ·have he:(es.toArray[j]?.map (·.key)).getD key=key:=by simp [h2,h3]
  have hb:(es.toArray[j]?.map fun x=>(x.born:Int)).getD 0=(e.born:Int):=by simp [h2]
  simp only [h1,run_bind,he,hb,L.adw w hk,Go.MapKept.run_setObj_map _ m.ob,cH]
  refine⟨e.val,(e.born:Nat),_,rfl,⟨rfl,rfl,rfl,(by first|exact bH _|exact gV _|simp)⟩,?_⟩
  have:=k2 j e h2 h3
  have e1:es.toArray=es.toArray.modify j fun e=>{e with key:=key}:=by
   apply gd
   rw [rY]
   apply cG
   intro i
   rw [dQ]
   by_cases zc:j=i
   ·subst zc
    obtain⟨ek,ev,eb⟩:=e
    obtain rfl:ek=key:=h3
    simp [h2]
   ·simp [zc]
  rw [e1]at this
  exact this
theorem EE {mt:TypeId}{x val:Value}{Qr:Int}{kd:IntKind}{w:World}{K:Hp→Prop}(h:Zx x Qr val w.heap K):
  ∃w',(Instr.entryStore mt x (.int kd Qr) val).run P w=.ok () w'∧gj w w'∧K w'.heap:=by
 obtain⟨r,es,uy,j,e,rfl,hb,hj,rfl,fE,hK⟩:=h
 have hf:es.toArray.findIdx? (fun x=>(x.born:Int)==(e.born:Int))=some j:=by
  rw [List.findIdx?_toArray,List.findIdx?_eq_some_iff_getElem]
  have nK:=(bp.1 hj).1
  refine⟨nK,?_,fun i hi=>?_⟩
  ·have:es[j]=e:=by rw [br nK]at hj;exact bt hj
   simp [this]
  ·have:=fE i es[i] hi (br (by omega))
   simp only [beq_iff_eq]
   omega
 unfold Instr.entryStore
 simp only [run_bind,Go.MapKept.run_getObj_map hb,asInt,asIntOf,cH,hf]
 refine⟨_,Go.MapKept.run_setObj_map _ hb,⟨rfl,rfl,rfl,(by first|exact bH _|exact gV _|simp)⟩,?_⟩
 have e1:(es.set j {e with val:=val}).toArray=es.toArray.modify j fun e=>{e with val:=val}:=by
  apply gd
  rw [rY]
  apply cG
  intro i
  rw [dQ,eW]
  have nK:=(bp.1 hj).1
  by_cases zc:j=i
  ·subst zc
   have Rb:es[j]=e:=by rw [br nK]at hj;exact bt hj
   simp [nK,Rb]
  ·simp [zc]
 rw [e1]at hK
 exact hK
end
end
end Go.Ev
