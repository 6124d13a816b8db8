/- An evaluator of the model's memory operations on the heap alone, and its soundness / The evaluator's pure operations / The evaluator's pure operations are sound: each yields its value in every world / Reading, rows of cells, make, append and copy, each with its soundness. No condition but that these are ones. -/
import Derived.Calls
set_option linter.all false
namespace Go.Ev

abbrev Hp:=Array Obj
def cell (h:Hp) (a:Addr):Option Value :=
 match h[a.block]? with
 | some (.cells c _ _)=>if a.spot.isSome then none else c[a.off]?
 | _=>none
def frz (h:Hp) (a:Addr):Bool :=
 match h[a.block]? with
 | some (.cells _ _ (lo,hi))=>lo ≤ a.off && a.off < hi
 | _=>false
def shp (h:Hp) (r:Nat):Option (TypeId × Nat) :=
 match h[r]? with
 | some (.cells c elem _)=>some (elem,c.size)
 | _=>none
def setc (h:Hp) (a:Addr) (v:Value):Hp :=
 h.modify a.block fun
  | .cells c elem frozen=>.cells (if a.spot.isSome then c else c.setIfInBounds a.off v) elem frozen
  | o=>o
def stOk (h:Hp) (a:Addr):Prop:=(∃ u,cell h a=some u)∧frz h a=false
def notCells:Obj→Bool
 | .cells ..=>false
 | _=>true

/-- Same streams, tape and outside. -/
def Same (w w':World):Prop:=w'.os=w.os∧w'.tape=w.tape∧w'.output=w.output
theorem Same.refl (w:World):Same w w:=⟨rfl,rfl,rfl⟩
theorem Same.trans {a b c:World} (h:Same a b) (k:Same b c):Same a c:=⟨k.1.trans h.1,k.2.1.trans h.2.1,k.2.2.trans h.2.2⟩

structure Sl where
 a:Option Addr
 n:Nat
 c:Nat

inductive VK where
 | int (k:IntKind)
 | bool
 | str
 | ptr
 | sl
 | mp
 | any

def VK.ex:VK→(Value→Prop)→Prop
 | .int k,φ=>∃ n:Int,φ (.int k n)
 | .bool,φ=>∃ b:Bool,φ (.bool b)
 | .str,φ=>∃ s:ByteArray,φ (.string s)
 | .ptr,φ=>∃ p:Option Addr,φ (.pointer p)
 | .sl,φ=>∃ s:Sl,φ (.slice s.a s.n s.c)
 | .mp,φ=>∃ r:Option Nat,φ (.map r)
 | .any,φ=>∃ v:Value,φ v
theorem VK.ex_some {k:VK} {φ:Value→Prop} (h:k.ex φ):∃ v,φ v:=by
 cases k <;> (obtain ⟨x,hx⟩:=h; exact ⟨_,hx⟩)

def Cond (t:Bool) (A B:Prop):Prop:=match t with | true=>A | false=>B
def PtrOk (p:Option Addr) (K:Addr→Prop):Prop:=match p with | some a=>K a | none=>False
def isCell:Value→Bool
 | .agg _=>false
 | .tuple _=>false
 | _=>true

/-- What a piece of the model's own operations comes to, on the heap alone. 'vs': the kinds that the next loads are taken at. -/
def evSem {α:Type} (P:Program):Sem α→List VK→Hp→(α→List VK→Hp→Prop)→Prop
 | .pure a,vs,h,K=>K a vs h
 | .load _ a k,vs,h,K=>(vs.headD .any).ex fun v=>cell h a=some v∧evSem P (k v) vs.tail h K
 | .store _ a v k,vs,h,K=>Cond (isCell v) (stOk h a∧evSem P k vs (setc h a v) K) False
 | .new o k,vs,h,K=>evSem P (k h.size) vs (h.push o) K
 | .shape r k,vs,h,K=>evSem P (k (shp h r)) vs h K
 | .freeze _ _ _,_,_,_=>False
 | .frozen a k,vs,h,K=>evSem P (k (frz h a)) vs h K
 | .getObj r k,vs,h,K=>∃ o,h[r]?=some o∧notCells o=true∧evSem P (k o) vs h K
 | .setObj r o k,vs,h,K=>(∃ u,h[r]?=some u∧notCells u=true)∧evSem P k vs (h.setIfInBounds r o) K
 | .choose q k,vs,h,K=>if q.forced then evSem P (k 0) vs h K else ∀ t,evSem P (k (q.cut t)) vs h K
 | .sys _ _,_,_,_=>False
 | .program k,vs,h,K=>evSem P (k P) vs h K
 | .mark _ k,vs,h,K=>evSem P k vs h K
 | .halt _,_,_,_=>False

theorem evSem_sound {α:Type} {P:Program}:∀ (s:Sem α) (vs:List VK) (w:World) (K:α→List VK→Hp→Prop),evSem P s vs w.heap K →
  ∃ a vs' w',s.run P w=.ok a w'∧Same w w'∧K a vs' w'.heap:=by
 intro s
 induction s with
 | pure a=>exact fun vs w K h=>⟨a,vs,w,rfl,Same.refl _,h⟩
 | load m a k ih =>
  intro vs w K h
  obtain ⟨v,hv,h⟩:=VK.ex_some h
  have hv':w.cell? a=some v:=hv
  obtain ⟨x,vs',w',hr,hs,hk⟩:=ih v _ _ _ h
  exact ⟨x,vs',w',by rw [Sem.run,hv']; exact hr,hs,hk⟩
 | store m a v k ih =>
  intro vs w K h
  simp only [evSem] at h
  cases hc:isCell v with
  | false=>rw [hc] at h; exact h.elim
  | true =>
   rw [hc] at h
   obtain ⟨⟨⟨u,hu⟩,hf⟩,h⟩:=h
   have hu':w.cell? a=some u:=hu
   have hf':w.frozen? a=false:=hf
   have hset:(w.setCell a v).heap=setc w.heap a v:=rfl
   rw [← hset] at h
   obtain ⟨x,vs',w',hr,hs,hk⟩:=ih _ _ _ h
   refine ⟨x,vs',w',?_,hs,hk⟩
   rw [← hr]
   cases v <;> first | (simp [isCell] at hc; done) | simp [Sem.run,hu',hf']
 | new o k ih =>
  intro vs w K h
  obtain ⟨x,vs',w',hr,hs,hk⟩:=ih w.heap.size vs { w with heap:=w.heap.push o } K h
  exact ⟨x,vs',w',by rw [Sem.run]; exact hr,⟨hs.1,hs.2.1,hs.2.2⟩,hk⟩
 | shape r k ih =>
  intro vs w K h
  obtain ⟨x,vs',w',hr,hs,hk⟩:=ih (shp w.heap r) vs w K h
  exact ⟨x,vs',w',by rw [Sem.run]; exact hr,hs,hk⟩
 | freeze=>exact fun vs w K h=>h.elim
 | frozen a k ih =>
  intro vs w K h
  obtain ⟨x,vs',w',hr,hs,hk⟩:=ih (frz w.heap a) vs w K h
  exact ⟨x,vs',w',by rw [Sem.run]; exact hr,hs,hk⟩
 | getObj r k ih =>
  intro vs w K h
  obtain ⟨o,ho,hn,h⟩:=h
  obtain ⟨x,vs',w',hr,hs,hk⟩:=ih o vs w K h
  refine ⟨x,vs',w',?_,hs,hk⟩
  rw [← hr,Sem.run,ho]
  cases o <;> first | (simp [notCells] at hn; done) | rfl
 | setObj r o k ih =>
  intro vs w K h
  obtain ⟨⟨u,hu,hn⟩,h⟩:=h
  obtain ⟨x,vs',w',hr,hs,hk⟩:=ih vs { w with heap:=w.heap.setIfInBounds r o } K h
  refine ⟨x,vs',w',?_,⟨hs.1,hs.2.1,hs.2.2⟩,hk⟩
  rw [← hr,Sem.run,hu]
  cases u <;> first | (simp [notCells] at hn; done) | rfl
 | choose q k ih =>
  intro vs w K h
  simp only [evSem] at h
  by_cases hq:q.forced=true
  ·rw [if_pos hq] at h
   obtain ⟨x,vs',w',hr,hs,hk⟩:=ih 0 vs w K h
   exact ⟨x,vs',w',by rw [Sem.run,if_pos hq]; exact hr,hs,hk⟩
  ·rw [if_neg hq] at h
   obtain ⟨x,vs',w',hr,hs,hk⟩:=ih _ vs { w with drawn:=w.drawn + 1 } K (h (w.tape w.drawn q))
   exact ⟨x,vs',w',by rw [Sem.run,if_neg hq]; exact hr,⟨hs.1,hs.2.1,hs.2.2⟩,hk⟩
 | sys=>exact fun vs w K h=>h.elim
 | program k ih =>
  intro vs w K h
  obtain ⟨x,vs',w',hr,hs,hk⟩:=ih P vs w K h
  exact ⟨x,vs',w',by rw [Sem.run]; exact hr,hs,hk⟩
 | mark m k ih =>
  intro vs w K h
  obtain ⟨x,vs',w',hr,hs,hk⟩:=ih vs w K h
  exact ⟨x,vs',w',by rw [Sem.run]; exact hr,hs,hk⟩
 | halt=>exact fun vs w K h=>h.elim

/-- What may be said of a call, on the heap alone. -/
def CallTo (P:Program) (f:FuncId) (args:Array Value) (h:Hp) (R:Value→Hp→Prop):Prop :=
 ∀ w:World,w.heap=h→Calls P f args w fun e w'=>∃ v,e=.returned v∧Same w w'∧R v w'.heap
theorem CallTo.mono {P:Program} {f:FuncId} {args:Array Value} {h:Hp} {R R':Value→Hp→Prop} (c:CallTo P f args h R)
  (hr:∀ v h',R v h'→R' v h'):CallTo P f args h R' :=
 fun w hw=>(c w hw).mono fun _ _ ⟨v,he,hs,hR⟩=>⟨v,he,hs,hr _ _ hR⟩
end Go.Ev
set_option linter.all false
namespace Go.Ev

/-! ### Operands -/
def evalL (env:List Value):Operand→Value
 | .tmp t=>env.getD t undef
 | .const v=>v
 | .global g=>.pointer (some ⟨g,0,none⟩)
 | .func f=>.func (.func f) #[] #[]
def actL (env:List Value) (D:List Deferred):Act:=⟨env.toArray,D⟩
theorem eval_actL (env:List Value) (D:List Deferred):(actL env D).eval=evalL env:=by
 funext x
 cases x <;> simp [Act.eval,evalL,actL]
def putL (env:List Value) (dst:Option Tmp) (v:Value):List Value:=match dst with | some d=>env.set d v | none=>env
theorem put_actL (env:List Value) (D:List Deferred) (dst:Option Tmp) (v:Value):(actL env D).put dst v=actL (putL env dst v) D:=by
 cases dst <;> simp [Act.put,actL,putL]

/-! ### Operations that look at no memory -/
def pureVal {α:Type} (P:Program):Sem α→Option α
 | .pure a=>some a
 | .program k=>pureVal P (k P)
 | _=>none
theorem pureVal_sound {α:Type} {P:Program}:∀ (s:Sem α) (a:α),pureVal P s=some a→∀ w,s.run P w=.ok a w:=by
 intro s
 induction s with
 | pure b=>intro a h w; simp only [pureVal,Option.some.injEq] at h; rw [h]; rfl
 | program k ih=>intro a h w; rw [Sem.run]; exact ih P a h w
 | _=>intros; simp [pureVal] at *
def ofPure (P:Program) (s:Sem Next) (K:Value→Prop):Prop :=
 match pureVal P s with
 | some (.value v)=>K v
 | _=>False
def szOf (P:Program) (t:TypeId):Nat:=match P.info? t with | some i=>i.size | none=>0
def byOf (P:Program) (t:TypeId):Nat:=match P.info? t with | some i=>i.bytes | none=>0

def idxAt (P:Program) (t:TypeId) (x i:Value) (K:Value→Prop):Prop :=
 match P.underlying t,x,i with
 | some (.slice e),.slice a n _,.int _ j=>(0 ≤ j∧j < n)∧Cond (P.info? e).isSome (PtrOk a fun b=>K (.pointer (some (b.add (j.toNat * szOf P e))))) False
 | some (.array len e),.pointer a,.int _ j=>(0 ≤ j∧j < len)∧Cond (P.info? e).isSome (PtrOk a fun b=>K (.pointer (some (b.add (j.toNat * szOf P e))))) False
 | _,_,_=>False
def intOf?:Option Value→Option (Option Int)
 | none=>some none
 | some (.int _ n)=>some (some n)
 | _=>none
def sliceEv (P:Program) (t:TypeId) (x:Value) (lo hi mx:Option Value) (K:Value→Prop):Prop :=
 match P.underlying t,x,intOf? lo,intOf? hi,intOf? mx with
 | some (.slice e),.slice a n c,some lo,some none,some none =>
  (0 ≤ lo.getD 0∧lo.getD 0 ≤ n)∧Cond (P.info? e).isSome (
   K (.slice (if c=(lo.getD 0).toNat then a else a.map (·.add ((lo.getD 0).toNat * szOf P e))) (n - (lo.getD 0).toNat) (c - (lo.getD 0).toNat))) False
 | some (.slice e),.slice a _ c,some lo,some (some hi),some none =>
  (0 ≤ hi∧hi ≤ c)∧(0 ≤ lo.getD 0∧lo.getD 0 ≤ hi)∧Cond (P.info? e).isSome (
   K (.slice (if c=(lo.getD 0).toNat then a else a.map (·.add ((lo.getD 0).toNat * szOf P e))) (hi.toNat - (lo.getD 0).toNat) (c - (lo.getD 0).toNat))) False
 | some (.slice e),.slice a _ c,some lo,some (some hi),some (some mx) =>
  (0 ≤ mx∧mx ≤ c)∧(0 ≤ hi∧hi ≤ mx)∧(0 ≤ lo.getD 0∧lo.getD 0 ≤ hi)∧Cond (P.info? e).isSome (
   K (.slice (if mx.toNat=(lo.getD 0).toNat then a else a.map (·.add ((lo.getD 0).toNat * szOf P e))) (hi.toNat - (lo.getD 0).toNat) (mx.toNat - (lo.getD 0).toNat))) False
 | some .string,.string s,some lo,some none,some none =>
  (0 ≤ lo.getD 0∧lo.getD 0 ≤ s.size)∧K (.string (s.extract (lo.getD 0).toNat s.size))
 | some .string,.string s,some lo,some (some hi),some none =>
  (0 ≤ hi∧hi ≤ s.size)∧(0 ≤ lo.getD 0∧lo.getD 0 ≤ hi)∧K (.string (s.extract (lo.getD 0).toNat hi.toNat))
 | _,_,_,_,_=>False
def strAt (P:Program) (t:TypeId) (x i:Value) (K:Value→Prop):Prop :=
 match P.underlying t,x,i with
 | some .string,.string s,.int _ j=>(0 ≤ j∧j < s.size)∧K (.int .u8 (s[j.toNat]?.getD 0).toNat)
 | _,_,_=>False
/-- So many cells of an array value, from a place. -/
def pickL (cs:Array Value) (i:Nat):Nat→Nat→(List Value→Prop)→Prop
 | 0,_,φ=>φ []
 | n + 1,j,φ=>∃ v,cs[i + j]?=some v∧pickL cs i n (j + 1) fun vs=>φ (v :: vs)
def partEv (P:Program) (e:TypeId) (cs:Array Value) (i:Nat) (K:Value→Prop):Prop :=
 match P.underlying e with
 | some (.struct _)=>Cond (P.info? e).isSome (pickL cs i (szOf P e) 0 fun vs=>K (.agg vs.toArray)) False
 | some (.array _ _)=>False
 | some _=>∃ v,cs[i]?=some v∧K v
 | none=>False
def arrAt (P:Program) (len:Nat) (e:TypeId) (x i:Value) (K:Value→Prop):Prop :=
 match i with
 | .int _ j=>(0 ≤ j∧j < len)∧Cond (P.info? e).isSome (∃ cs:Array Value,x=.agg cs∧partEv P e cs (j.toNat * szOf P e) K) False
 | _=>False
def strAdd (op:BinOp) (x y:Value) (K:Value→Prop) (other:Prop):Prop :=
 match op,x,y with
 | .add,.string a,.string b=>a.size + b.size < 2 ^ 62∧K (.string (a ++ b))
 | _,_,_=>other
def divEv (op:BinOp) (x y:Value) (K:Value→Prop):Prop :=
 match op,x,y with
 | .quo,.int k a,.int _ b=>b ≠ 0∧K (.int k (k.wrap (a.tdiv b)))
 | .rem,.int k a,.int _ b=>b ≠ 0∧K (.int k (a.tmod b))
 | .shl,.int k a,.int _ b=>0 ≤ b∧K (.int k (k.wrap (a * 2 ^ (min b.toNat k.bits))))
 | .shr,.int k a,.int _ b=>0 ≤ b∧K (.int k (a.fdiv (2 ^ (min b.toNat k.bits))))
 | _,_,_=>False
/-- '== nil' (and its like): the other side may be a variable. -/
def nilEq (P:Program) (t:TypeId) (x y:Value):Option Bool :=
 match P.underlying t,x,y with
 | some (.pointer _),.pointer p,.pointer none=>some p.isNone
 | some (.pointer _),.pointer none,.pointer q=>some q.isNone
 | some (.slice _),.slice a _ _,.slice none _ _=>some a.isNone
 | some (.slice _),.slice none _ _,.slice b _ _=>some b.isNone
 | some (.map _ _),.map r,.map none=>some r.isNone
 | some (.map _ _),.map none,.map r=>some r.isNone
 | _,_,_=>none
def aggTy (P:Program) (t:TypeId):Option Bool:=match P.underlying t with | some (.struct _)=>some true | some (.array _ _)=>some true | some _=>some false | none=>none
def partV (P:Program) (t:TypeId) (cs:Array Value) (off:Nat):Option Value :=
 match aggTy P t with
 | some true=>match P.info? t with | some i=>some (.agg (cs.extract off (off + i.size))) | none=>none
 | some false=>cs[off]?
 | none=>none
def andO:Option Bool→Option Bool→Option Bool
 | some a,some b=>some (a && b)
 | _,_=>none
def eqFs (P:Program) (eq:TypeId→Value→Value→Option Bool) (xs ys:Array Value):List Field→Option Bool
 | []=>some true
 | f :: fs =>
  match f.name == "_" with
  | true=>eqFs P eq xs ys fs
  | false =>
   match partV P f.type xs f.offset,partV P f.type ys f.offset with
   | some u,some v=>andO (eq f.type u v) (eqFs P eq xs ys fs)
   | _,_=>none
/-- Equality of values of plain types: integers, bools, strings, structs of such. -/
def eqTy (P:Program):Nat→TypeId→Value→Value→Option Bool
 | 0,_,_,_=>none
 | d + 1,t,x,y =>
  match P.underlying t,x,y with
  | some .bool,.bool a,.bool b=>some (a == b)
  | some (.int _),.int k a,.int k' b=>match k == k' with | true=>some (a == b) | false=>none
  | some .string,.string a,.string b=>some (a == b)
  | some (.struct fs),.agg xs,.agg ys=>match P.stoodInHeld t with | true=>none | false=>eqFs P (eqTy P d) xs ys fs.toList
  | _,_,_=>none
def sameKind:Value→Value→Bool
 | .int k _,.int k' _=>k == k'
 | _,_=>false
def eqAgg (P:Program) (t:TypeId) (x y:Value) (K:Bool→Prop) (other:Prop):Prop :=
 match x,y with
 | .agg xs,.agg ys =>
  match Program.eqGuardType P P.depth t with
  | true=>False
  | false=>match eqTy P 20 t (.agg xs) (.agg ys) with | some b=>K b | none=>False
 | _,_=>other
/-- The op yields the value in every world. -/
def evPure (P:Program) (o:Oper) (env:List Value) (K:Value→Prop):Prop :=
 match o.op with
 | .nilCheck x =>
  match evalL env x with
  | .pointer p=>PtrOk p fun a=>K (.pointer (some a))
  | _=>ofPure P (execOp (evalL env) o) K
 | .indexAddr t x i=>idxAt P t (evalL env x) (evalL env i) K
 | .index t x i=>match P.underlying t with
  | some .string=>strAt P t (evalL env x) (evalL env i) K
  | some (.array len e)=>arrAt P len e (evalL env x) (evalL env i) K
  | _=>ofPure P (execOp (evalL env) o) K
 | .slice t x lo hi mx=>sliceEv P t (evalL env x) (lo.map (evalL env)) (hi.map (evalL env)) (mx.map (evalL env)) K
 | .binOp op t x y _ =>
  match op with
  | .quo=>Cond (sameKind (evalL env x) (evalL env y)) (divEv .quo (evalL env x) (evalL env y) K) False
  | .rem=>Cond (sameKind (evalL env x) (evalL env y)) (divEv .rem (evalL env x) (evalL env y) K) False
  | .shl=>divEv .shl (evalL env x) (evalL env y) K
  | .shr=>divEv .shr (evalL env x) (evalL env y) K
  | .eql=>match nilEq P t (evalL env x) (evalL env y) with
   | some b=>K (.bool b)
   | none=>eqAgg P t (evalL env x) (evalL env y) (fun b=>K (.bool b)) (ofPure P (execOp (evalL env) o) K)
  | .neq=>match nilEq P t (evalL env x) (evalL env y) with
   | some b=>K (.bool (!b))
   | none=>eqAgg P t (evalL env x) (evalL env y) (fun b=>K (.bool (!b))) (ofPure P (execOp (evalL env) o) K)
  | _=>strAdd op (evalL env x) (evalL env y) K (ofPure P (execOp (evalL env) o) K)
 | _=>ofPure P (execOp (evalL env) o) K

def YieldsAll (P:Program) (o:Oper) (env:List Value) (v:Value):Prop:=∀ w,(execOp (evalL env) o).run P w=.ok (.value v) w

theorem ofPure_sound {P:Program} {s:Sem Next} {K:Value→Prop} (h:ofPure P s K):∃ v,(∀ w,s.run P w=.ok (.value v) w)∧K v:=by
 unfold ofPure at h
 split at h
 ·rename_i v hv; exact ⟨v,pureVal_sound _ _ hv,h⟩
 ·exact h.elim
theorem PtrOk.some' {p:Option Addr} {K:Addr→Prop} (h:PtrOk p K):∃ a,p=some a∧K a:=by
 cases p with
 | none=>exact h.elim
 | some a=>exact ⟨a,rfl,h⟩
theorem run_bind {α β:Type} (P:Program) (s:Sem α) (f:α→Sem β) (w:World) :
  (s >>= f).run P w=match s.run P w with | .ok a w'=>(f a).run P w' | .halt x w'=>.halt x w':=by
 show (s.bind f).run P w=_
 induction s generalizing w with
 | pure a=>rfl
 | load m a k ih =>
  simp only [Sem.bind,Sem.run]
  cases w.cell? a with
  | some v=>exact ih v w
  | none =>
   cases w.farLoad P a (m == .atomic) with
   | ok r=>exact ih r.1 w
   | error e=>rfl
 | store m a v k ih =>
  cases v <;> simp only [Sem.bind,Sem.run] <;>
   (cases w.cell? a with
    | some u =>
     simp only []
     split
     ·rfl
     ·exact ih _
    | none =>
     simp only []
     cases w.farStore P a _ (m == .atomic) with
     | ok r=>exact ih r.1
     | error e=>rfl)
 | new o k ih=>simp only [Sem.bind,Sem.run]; exact ih _ _
 | shape r k ih=>simp only [Sem.bind,Sem.run]; exact ih _ _
 | freeze a n k ih=>simp only [Sem.bind,Sem.run]; exact ih _
 | frozen a k ih=>simp only [Sem.bind,Sem.run]; exact ih _ _
 | getObj r k ih =>
  simp only [Sem.bind,Sem.run]
  cases w.heap[r]? with
  | none=>rfl
  | some o=>cases o <;> first | rfl | exact ih _ w
 | setObj r o k ih =>
  simp only [Sem.bind,Sem.run]
  cases w.heap[r]? with
  | none=>rfl
  | some u=>cases u <;> first | rfl | exact ih _
 | choose q k ih =>
  simp only [Sem.bind,Sem.run]
  split
  ·exact ih _ _
  ·exact ih _ _
 | sys c k ih=>simp only [Sem.bind,Sem.run]; exact ih _ _
 | program k ih=>simp only [Sem.bind,Sem.run]; exact ih _ _
 | mark m k ih=>simp only [Sem.bind,Sem.run]; exact ih _
 | halt h=>rfl
end Go.Ev
set_option linter.all false
namespace Go.Ev
section
variable {P:Program}
theorem Cond_true' {t:Bool} {A:Prop} (h:Cond t A False):t=true∧A:=by
 cases t with
 | true=>exact ⟨rfl,h⟩
 | false=>exact h.elim
theorem run_pure {α:Type} (a:α) (w:World):(Pure.pure a:Sem α).run P w=.ok a w:=rfl
theorem run_program (w:World):(Go.program).run P w=.ok P w:=rfl
theorem run_underlying {t:TypeId} {d:TypeDesc} (h:P.underlying t=some d) (w:World):(Go.underlying t).run P w=.ok d w:=by
 unfold Go.underlying
 rw [run_bind,run_program]
 simp only [h]
 rfl
theorem run_typeInfo {t:TypeId} {i:TypeInfo} (h:P.info? t=some i) (w:World):(Go.typeInfo t).run P w=.ok i w:=by
 unfold Go.typeInfo
 rw [run_bind,run_program]
 simp only [h]
 rfl
theorem run_sizeOf {t:TypeId} (h:(P.info? t).isSome=true) (w:World):(Go.sizeOf t).run P w=.ok (szOf P t) w:=by
 obtain ⟨i,hi⟩:=Option.isSome_iff_exists.1 h
 unfold Go.sizeOf szOf
 rw [run_bind,run_typeInfo hi]
 simp only [hi]
 rfl
theorem run_indexAt_sl {t e:TypeId} {b:Addr} {n c:Nat} {k:IntKind} {j:Int} (ht:P.underlying t=some (.slice e)) (he:(P.info? e).isSome=true) (h0:0 ≤ j) (h1:j < n) (w:World) :
  (Instr.indexAt t (.slice (some b) n c) (.int k j)).run P w=.ok (.pointer (some (b.add (j.toNat * szOf P e)))) w:=by
 unfold Instr.indexAt
 simp only [run_bind,asIntOf,run_pure,run_underlying ht]
 rw [if_pos ⟨h0,h1⟩]
 simp only [run_bind,run_sizeOf he,run_pure]
theorem run_indexAt_arr {t e:TypeId} {b:Addr} {len:Nat} {k:IntKind} {j:Int} (ht:P.underlying t=some (.array len e)) (he:(P.info? e).isSome=true) (h0:0 ≤ j) (h1:j < len) (w:World) :
  (Instr.indexAt t (.pointer (some b)) (.int k j)).run P w=.ok (.pointer (some (b.add (j.toNat * szOf P e)))) w:=by
 unfold Instr.indexAt
 simp only [run_bind,asIntOf,run_pure,run_underlying ht,Instr.sureAddr]
 rw [if_pos ⟨h0,h1⟩]
 simp only [run_bind,run_sizeOf he,run_pure]
theorem idxAt_sound {t:TypeId} {x i:Value} {K:Value→Prop} (h:idxAt P t x i K):∃ v,(∀ w,(Instr.indexAt t x i).run P w=.ok v w)∧K v:=by
 unfold idxAt at h
 split at h
 ·rename_i e a n c k j ht
  obtain ⟨⟨h0,h1⟩,h⟩:=h
  obtain ⟨he,h⟩:=Cond_true' h
  obtain ⟨b,rfl,hk⟩:=h.some'
  exact ⟨_,run_indexAt_sl ht he h0 h1,hk⟩
 ·rename_i len e a k j ht
  obtain ⟨⟨h0,h1⟩,h⟩:=h
  obtain ⟨he,h⟩:=Cond_true' h
  obtain ⟨b,rfl,hk⟩:=h.some'
  exact ⟨_,run_indexAt_arr ht he h0 h1,hk⟩
 ·exact h.elim
theorem run_sliceBound {k:IntKind} {i:Int} {y:Nat} {code:BoundsCode} (h0:0 ≤ i) (h1:i ≤ y) (w:World):(Instr.sliceBound (.int k i) y code).run P w=.ok i.toNat w:=by
 unfold Instr.sliceBound
 simp only [run_bind,asIntOf,run_pure]
 rw [if_pos ⟨h0,h1⟩,run_pure]
theorem intOf?_none {x:Option Value} (h:intOf? x=some none):x=none:=by
 unfold intOf? at h
 split at h
 ·rfl
 ·simp at h
 ·cases h
theorem intOf?_some {x:Option Value} {n:Int} (h:intOf? x=some (some n)):∃ k,x=some (.int k n):=by
 unfold intOf? at h
 split at h
 ·simp at h
 ·rename_i k m; simp only [Option.some.injEq] at h; subst h; exact ⟨k,rfl⟩
 ·cases h
theorem intOf?_any {x:Option Value} {o:Option Int} (h:intOf? x=some o):(x=none∧o=none) ∨ ∃ k n,x=some (.int k n)∧o=some n:=by
 unfold intOf? at h
 split at h
 ·simp only [Option.some.injEq] at h; exact .inl ⟨rfl,h.symm⟩
 ·rename_i k m; simp only [Option.some.injEq] at h; exact .inr ⟨k,m,rfl,h.symm⟩
 ·cases h
theorem sliceAt_eq {t:TypeId} {x:Value} {lo hi mx:Option Value} {d:TypeDesc} (ht:P.underlying t=some d) (hd:∀ n e,d ≠ .array n e) (w:World) :
  (Instr.sliceAt t x lo hi mx).run P w=(Instr.slice t x lo hi mx).run P w:=by
 unfold Instr.sliceAt
 rw [run_bind,run_underlying ht]
 cases d <;> first | rfl | exact absurd rfl (hd _ _)
theorem sliceEv_sound {t:TypeId} {x:Value} {lo hi mx:Option Value} {K:Value→Prop} (h:sliceEv P t x lo hi mx K) :
  ∃ v,(∀ w,(Instr.sliceAt t x lo hi mx).run P w=.ok v w)∧K v:=by
 unfold sliceEv at h
 split at h
 ·rename_i e a n c lo' ht hl hh hm
  obtain ⟨⟨h0,h1⟩,h⟩:=h
  obtain ⟨he,hk⟩:=Cond_true' h
  rw [intOf?_none hh,intOf?_none hm]
  refine ⟨_,fun w=>?_,hk⟩
  rw [sliceAt_eq ht (fun _ _ h=>by cases h)]
  unfold Instr.slice
  rw [run_bind,run_underlying ht]
  rcases intOf?_any hl with ⟨rfl,rfl⟩ | ⟨kl,m,rfl,rfl⟩
  ·simp only [run_bind,Instr.sliceBounds,run_pure,run_sizeOf he]; rfl
  ·simp only [run_bind,Instr.sliceBounds,run_pure,run_sizeOf he,run_sliceBound (i:=m) (y:=n) h0 h1]; rfl
 ·rename_i e a n c lo' hi' ht hl hh hm
  obtain ⟨⟨g0,g1⟩,⟨h0,h1⟩,h⟩:=h
  obtain ⟨he,hk⟩:=Cond_true' h
  obtain ⟨kh,rfl⟩:=intOf?_some hh
  rw [intOf?_none hm]
  refine ⟨_,fun w=>?_,hk⟩
  rw [sliceAt_eq ht (fun _ _ h=>by cases h)]
  unfold Instr.slice
  rw [run_bind,run_underlying ht]
  rcases intOf?_any hl with ⟨rfl,rfl⟩ | ⟨kl,m,rfl,rfl⟩
  ·simp only [run_bind,Instr.sliceBounds,run_pure,run_sizeOf he,run_sliceBound g0 g1]; rfl
  ·simp only [run_bind,Instr.sliceBounds,run_pure,run_sizeOf he,run_sliceBound g0 g1,run_sliceBound (i:=m) (y:=hi'.toNat) h0 (by simp at h1; omega)]; rfl
 ·rename_i e a n c lo' hi' mx' ht hl hh hm
  obtain ⟨⟨f0,f1⟩,⟨g0,g1⟩,⟨h0,h1⟩,h⟩:=h
  obtain ⟨he,hk⟩:=Cond_true' h
  obtain ⟨kh,rfl⟩:=intOf?_some hh
  obtain ⟨km,rfl⟩:=intOf?_some hm
  refine ⟨_,fun w=>?_,hk⟩
  rw [sliceAt_eq ht (fun _ _ h=>by cases h)]
  unfold Instr.slice
  rw [run_bind,run_underlying ht]
  rcases intOf?_any hl with ⟨rfl,rfl⟩ | ⟨kl,m,rfl,rfl⟩
  ·simp only [run_bind,Instr.sliceBounds,run_pure,run_sizeOf he,run_sliceBound f0 f1,run_sliceBound (i:=hi') (y:=mx'.toNat) g0 (by omega)]; rfl
  ·simp only [run_bind,Instr.sliceBounds,run_pure,run_sizeOf he,run_sliceBound f0 f1,run_sliceBound (i:=hi') (y:=mx'.toNat) g0 (by omega),run_sliceBound (i:=m) (y:=hi'.toNat) h0 (by simp at h1; omega)]; rfl
 ·rename_i s lo' ht hl hh hm
  obtain ⟨⟨h0,h1⟩,hk⟩:=h
  rw [intOf?_none hh,intOf?_none hm]
  refine ⟨_,fun w=>?_,hk⟩
  rw [sliceAt_eq ht (fun _ _ h=>by cases h)]
  unfold Instr.slice
  rw [run_bind,run_underlying ht]
  rcases intOf?_any hl with ⟨rfl,rfl⟩ | ⟨kl,m,rfl,rfl⟩
  ·simp only [Option.isSome_none,Bool.false_eq_true,if_false,run_bind,Instr.sliceBounds,run_pure]; rfl
  ·simp only [Option.isSome_none,Bool.false_eq_true,if_false,run_bind,Instr.sliceBounds,run_pure,run_sliceBound (i:=m) (y:=s.size) h0 h1]; rfl
 ·rename_i s lo' hi' ht hl hh hm
  obtain ⟨⟨g0,g1⟩,⟨h0,h1⟩,hk⟩:=h
  obtain ⟨kh,rfl⟩:=intOf?_some hh
  rw [intOf?_none hm]
  refine ⟨_,fun w=>?_,hk⟩
  rw [sliceAt_eq ht (fun _ _ h=>by cases h)]
  unfold Instr.slice
  rw [run_bind,run_underlying ht]
  rcases intOf?_any hl with ⟨rfl,rfl⟩ | ⟨kl,m,rfl,rfl⟩
  ·simp only [Option.isSome_none,Bool.false_eq_true,if_false,run_bind,Instr.sliceBounds,run_pure,run_sliceBound g0 g1]; rfl
  ·simp only [Option.isSome_none,Bool.false_eq_true,if_false,run_bind,Instr.sliceBounds,run_pure,run_sliceBound g0 g1,run_sliceBound (i:=m) (y:=hi'.toNat) h0 (by simp at h1; omega)]; rfl
 ·exact h.elim
theorem strAt_sound {t:TypeId} {x i:Value} {K:Value→Prop} (h:strAt P t x i K):∃ v,(∀ w,(Instr.index t x i).run P w=.ok v w)∧K v:=by
 unfold strAt at h
 split at h
 ·rename_i s k j ht
  obtain ⟨⟨h0,h1⟩,hk⟩:=h
  refine ⟨_,fun w=>?_,hk⟩
  have hlt:j.toNat < s.size:=by omega
  have hs:s[j.toNat]?=some s[j.toNat]:=getElem?_pos s j.toNat hlt
  unfold Instr.index
  simp only [run_bind,asIntOf,run_pure,run_underlying ht,if_pos h0,hs]
  rfl
 ·exact h.elim
theorem pickL_out {cs:Array Value} {i:Nat}:∀ {n j:Nat} {φ:List Value→Prop},pickL cs i n j φ→∃ vs:List Value,vs.length=n∧(∀ k v,vs[k]?=some v→cs[i + (j + k)]?=some v)∧φ vs
 | 0,_,_,h=>⟨[],rfl,by simp,h⟩
 | n + 1,j,_,h=>by
  obtain ⟨v,hv,h⟩:=h
  obtain ⟨vs,hl,hc,hφ⟩:=pickL_out h
  refine ⟨v :: vs,by simp [hl],fun k u hk=>?_,hφ⟩
  cases k with
  | zero=>simp only [List.getElem?_cons_zero,Option.some.injEq] at hk; subst hk; exact hv
  | succ k =>
   rw [show j + (k + 1)=j + 1 + k by omega]
   exact hc k u (by simpa using hk)
theorem run_partEv {e:TypeId} {cs:Array Value} {i:Nat} {K:Value→Prop} (h:partEv P e cs i K):∃ v,(∀ w,(Go.part e cs i).run P w=.ok v w)∧K v:=by
 unfold partEv at h
 split at h
 ·rename_i fs ht
  obtain ⟨hi,h⟩:=Cond_true' h
  obtain ⟨vs,hl,hc,hk⟩:=pickL_out h
  refine ⟨_,fun w=>?_,hk⟩
  unfold Go.part
  simp only [run_bind,Go.isAgg,run_underlying ht,run_pure,if_true,run_sizeOf hi]
  congr 2
  apply Array.ext
  ·simp only [Array.size_extract,List.size_toArray,hl]
   by_cases h0:vs.length=0
   ·omega
   ·have:=hc (vs.length - 1) vs[vs.length - 1] (by simp)
    have:=(Array.getElem?_eq_some_iff.1 this).1
    omega
  ·intro k h1 h2
   have h2':k < vs.length:=by simpa using h2
   have:=hc k vs[k] (List.getElem?_eq_getElem h2')
   rw [Nat.zero_add] at this
   have h3:=(Array.getElem?_eq_some_iff.1 this)
   simp only [Array.getElem_extract,List.getElem_toArray]
   exact h3.2
 ·exact h.elim
 ·rename_i d h1 h2 ht
  obtain ⟨v,hv,hk⟩:=h
  refine ⟨v,fun w=>?_,hk⟩
  unfold Go.part
  simp only [run_bind,Go.isAgg,run_underlying ht]
  cases d <;> first | exact absurd ht (h1 _) | exact absurd ht (h2 _ _) | (simp only [run_pure,Bool.false_eq_true,if_false,hv])
 ·exact h.elim
theorem arrAt_sound {t:TypeId} {len:Nat} {e:TypeId} (ht:P.underlying t=some (.array len e)) {x i:Value} {K:Value→Prop} (h:arrAt P len e x i K):∃ v,(∀ w,(Instr.index t x i).run P w=.ok v w)∧K v:=by
 unfold arrAt at h
 split at h
 ·rename_i k j
  obtain ⟨⟨h0,h1⟩,h⟩:=h
  obtain ⟨hi,cs,rfl,h'⟩:=Cond_true' h
  obtain ⟨v,hv,hk⟩:=run_partEv h'
  refine ⟨v,fun w=>?_,hk⟩
  unfold Instr.index
  simp only [run_bind,asIntOf,run_pure,run_underlying ht]
  rw [if_pos ⟨h0,h1⟩]
  simp only [run_bind,run_sizeOf hi,hv]
 ·exact h.elim
theorem run_eqGuard {op:BinOp} {t:TypeId} {x y:Operand} {a b:Value} (h:op ≠ .eql) (h':op ≠ .neq) (w:World):(eqGuard op t x y a b).run P w=.ok () w:=by
 cases op <;> first | exact absurd rfl h | exact absurd rfl h' | rfl
theorem divEv_sound {op:BinOp} {t:TypeId} {x y:Value} {K:Value→Prop} (h:divEv op x y K) (hk:op=.quo ∨ op=.rem→sameKind x y=true) :
  ∃ v,(∀ w,(binOp op t x y).run P w=.ok v w)∧K v:=by
 unfold divEv at h
 split at h
 ·rename_i k a k' b
  have hkk:k=k':=by simpa [sameKind] using hk (.inl rfl)
  subst hkk
  obtain ⟨hb,hK⟩:=h
  refine ⟨_,fun w=>?_,hK⟩
  simp only [binOp,ne_eq,not_true_eq_false,if_false,Op.intDiv,if_neg hb]
  rfl
 ·rename_i k a k' b
  have hkk:k=k':=by simpa [sameKind] using hk (.inr rfl)
  subst hkk
  obtain ⟨hb,hK⟩:=h
  refine ⟨_,fun w=>?_,hK⟩
  simp only [binOp,ne_eq,not_true_eq_false,if_false,Op.intDiv,if_neg hb]
  rfl
 ·rename_i k a k' b
  obtain ⟨hb,hK⟩:=h
  refine ⟨_,fun w=>?_,hK⟩
  simp only [binOp,Op.shift,if_neg (show ¬ b < 0 by omega)]
  rfl
 ·rename_i k a k' b
  obtain ⟨hb,hK⟩:=h
  refine ⟨_,fun w=>?_,hK⟩
  simp only [binOp,Op.shift,if_neg (show ¬ b < 0 by omega)]
  rfl
 ·exact h.elim
theorem nilEq_sound {t:TypeId} {x y:Value} {b:Bool} (h:nilEq P t x y=some b) (w:World):(Op.equal t x y).run P w=.ok b w:=by
 unfold nilEq at h
 unfold Op.equal
 rw [show Op.maxDepth=9999 + 1 from rfl]
 split at h <;> first | (cases h; done) | skip
 all_goals
  rename_i ht
  simp only [Option.some.injEq] at h
  subst h
  rw [Op.equalIn.eq_def]
  simp only []
  rw [run_bind,run_underlying ht]
 ·rename_i p; cases p <;> rfl
 ·rename_i p _; cases p <;> rfl
 ·rename_i p _ _ _ _; cases p <;> rfl
 ·rename_i p _ _; cases p <;> rfl
 ·rename_i p; cases p <;> rfl
 ·rename_i p _; cases p <;> rfl
theorem run_isAgg {t:TypeId} {b:Bool} (h:aggTy P t=some b) (w:World):(Go.isAgg t).run P w=.ok b w:=by
 unfold aggTy at h
 unfold Go.isAgg
 split at h
 ·rename_i fs ht; rw [run_bind,run_underlying ht]; simp only [Option.some.injEq] at h; subst h; rfl
 ·rename_i n e ht; rw [run_bind,run_underlying ht]; simp only [Option.some.injEq] at h; subst h; rfl
 ·rename_i d h1 h2 ht
  rw [run_bind,run_underlying ht]
  simp only [Option.some.injEq] at h
  subst h
  cases d <;> first | rfl | exact absurd rfl (h1 _) | exact absurd rfl (h2 _ _)
 ·cases h
theorem run_part {t:TypeId} {cs:Array Value} {off:Nat} {v:Value} (h:partV P t cs off=some v) (w:World):(Go.part t cs off).run P w=.ok v w:=by
 unfold partV at h
 unfold Go.part
 split at h
 ·rename_i ha
  split at h
  ·rename_i i hi
   rw [run_bind,run_isAgg ha]
   simp only [if_true,run_bind,run_sizeOf (P:=P) (t:=t) (by rw [hi]; rfl),run_pure]
   have:szOf P t=i.size:=by unfold szOf; rw [hi]
   rw [this]
   simp only [Option.some.injEq] at h
   rw [h]
  ·cases h
 ·rename_i ha
  rw [run_bind,run_isAgg ha]
  simp only [Bool.false_eq_true,if_false,h,run_pure]
 ·cases h
theorem andO_some {a b:Option Bool} {r:Bool} (h:andO a b=some r):∃ x y,a=some x∧b=some y∧r=(x && y):=by
 unfold andO at h
 split at h
 ·rename_i x y; exact ⟨x,y,rfl,rfl,by simpa using h.symm⟩
 ·cases h
theorem run_fs {d':Nat} {eq:TypeId→Value→Value→Option Bool} {xs ys:Array Value} (heq:∀ t u v b,eq t u v=some b→∀ w,(Op.equalIn d' t u v).run P w=.ok b w) (w:World) :
  ∀ (l:List Field) (b:Bool),eqFs P eq xs ys l=some b→(forIn l ((none:Option Bool),()) fun (f:Field) __s =>
     if f.name ≠ "_" then do
      let __do_lift ← part f.type xs f.offset
      let __do_lift_1 ← part f.type ys f.offset
      let __do_lift ← Op.equalIn d' f.type __do_lift __do_lift_1
      if (!__do_lift)=true then (Pure.pure (ForInStep.done (some false,())):Sem _) else Pure.pure (ForInStep.yield (none,()))
     else Pure.pure (ForInStep.yield (none,()))).run P w=.ok (if b=true then none else some false,()) w:=by
 intro l
 induction l with
 | nil=>intro b h; simp only [eqFs,Option.some.injEq] at h; subst h; rfl
 | cons f l ih =>
  intro b h
  rw [List.forIn_cons]
  unfold eqFs at h
  split at h
  ·rename_i hn
   have hn':f.name = "_" := by simpa using hn
   rw [run_bind]
   simp only [hn',ne_eq,not_true_eq_false,if_false,run_pure]
   exact ih b h
  ·rename_i hn
   have hn':¬ f.name = "_" := by simpa using hn
   split at h
   ·rename_i u v hu hv
    obtain ⟨a,c,ha,hc,rfl⟩:=andO_some h
    rw [run_bind]
    simp only [ne_eq,hn',not_false_eq_true,if_true,run_bind,run_part hu,run_part hv,heq _ _ _ _ ha]
    cases a with
    | true=>simp only [Bool.not_true,Bool.false_eq_true,if_false,run_pure,Bool.true_and]; exact ih c hc
    | false=>simp only [Bool.not_false,if_true,run_pure,Bool.false_and]; rfl
   ·cases h
theorem eqTy_sound:∀ (d d':Nat) (t:TypeId) (x y:Value) (b:Bool),d ≤ d'→eqTy P d t x y=some b→∀ w,(Op.equalIn d' t x y).run P w=.ok b w:=by
 intro d
 induction d with
 | zero=>intro d' t x y b _ h; cases h
 | succ d ih =>
  intro d' t x y b hd h w
  obtain ⟨d',rfl⟩:∃ e,d'=e + 1:=⟨d' - 1,by omega⟩
  unfold eqTy at h
  rw [Op.equalIn.eq_def]
  simp only []
  split at h
  ·rename_i ht
   rw [run_bind,run_underlying ht]
   simp only [Option.some.injEq] at h
   rw [← h]; rfl
  ·rename_i k0 k a k' b' ht
   rw [run_bind,run_underlying ht]
   split at h
   ·rename_i hk
    obtain rfl:k=k':=by simpa using hk
    simp only [Option.some.injEq] at h
    rw [← h]
    simp only [if_true]
    rfl
   ·cases h
  ·rename_i ht
   rw [run_bind,run_underlying ht]
   simp only [Option.some.injEq] at h
   rw [← h]; rfl
  ·rename_i fs xs ys ht
   rw [run_bind,run_underlying ht]
   split at h
   ·cases h
   ·rename_i hst
    simp only [run_bind,run_program,hst,Bool.false_eq_true,if_false]
    rw [← Array.forIn_toList,run_fs (fun t u v b hb=>ih d' t u v b (by omega) hb) w _ _ h]
    cases b <;> rfl
  ·cases h
theorem run_guard_ptr {op:BinOp} {t:TypeId} {x y:Operand} {a:Option Addr} {v:Value} (w:World):(eqGuard op t x y (.pointer a) v).run P w=.ok () w:=by
 cases op <;> rfl
theorem run_guard_sl {op:BinOp} {t:TypeId} {x y:Operand} {a:Option Addr} {n c:Nat} {v:Value} (w:World):(eqGuard op t x y (.slice a n c) v).run P w=.ok () w:=by
 cases op <;> rfl
theorem run_guard_map {op:BinOp} {t:TypeId} {x y:Operand} {r:Option Nat} {v:Value} (w:World):(eqGuard op t x y (.map r) v).run P w=.ok () w:=by
 cases op <;> rfl
theorem nilEq_run {t:TypeId} {x y:Operand} {a b:Value} {r:Bool} (h:nilEq P t a b=some r) (w:World) :
  (do eqGuard .eql t x y a b; binOp .eql t a b:Sem Value).run P w=.ok (.bool r) w∧(do eqGuard .neq t x y a b; binOp .neq t a b:Sem Value).run P w=.ok (.bool (!r)) w:=by
 have hs:=nilEq_sound h w
 unfold nilEq at h
 split at h <;> first | (cases h; done) | skip
 all_goals
  refine ⟨?_,?_⟩
  ·first | rw [run_bind,run_guard_ptr] | rw [run_bind,run_guard_sl] | rw [run_bind,run_guard_map]
   simp only [binOp]
   rw [run_bind,hs]
   rfl
  ·first | rw [run_bind,run_guard_ptr] | rw [run_bind,run_guard_sl] | rw [run_bind,run_guard_map]
   simp only [binOp]
   rw [run_bind,hs]
   rfl
theorem eqAgg_sound {t:TypeId} {x y:Operand} {a b:Value} {K:Bool→Prop} {other:Prop} (h:eqAgg P t a b K other):other ∨ ∃ r,K r ∧
  ∀ w,(do eqGuard .eql t x y a b; binOp .eql t a b:Sem Value).run P w=.ok (.bool r) w∧(do eqGuard .neq t x y a b; binOp .neq t a b:Sem Value).run P w=.ok (.bool (!r)) w:=by
 unfold eqAgg at h
 split at h
 ·rename_i xs ys
  split at h
  ·exact h.elim
  ·rename_i hg
   split at h
   ·rename_i r hr
    refine .inr ⟨r,h,fun w=>?_⟩
    have hs:(Op.equal t (.agg xs) (.agg ys)).run P w=.ok r w:=by
     unfold Op.equal
     exact eqTy_sound 20 Op.maxDepth t _ _ r (by unfold Op.maxDepth; omega) hr w
    have e1:(eqGuard .eql t x y (.agg xs) (.agg ys)).run P w=.ok () w:=by
     unfold eqGuard
     simp only [Bool.not_true,Bool.false_eq_true,if_false,run_bind,run_program,hg,Bool.not_false,if_true]
     rfl
    have e2:(eqGuard .neq t x y (.agg xs) (.agg ys)).run P w=.ok () w:=by
     unfold eqGuard
     simp only [Bool.not_true,Bool.false_eq_true,if_false,run_bind,run_program,hg,Bool.not_false,if_true]
     rfl
    exact ⟨by rw [run_bind,e1]; simp only [binOp]; rw [run_bind,hs]; rfl,by rw [run_bind,e2]; simp only [binOp]; rw [run_bind,hs]; rfl⟩
   ·exact h.elim
 ·exact .inl h
theorem evPure_sound {o:Oper} {env:List Value} {K:Value→Prop} (h:evPure P o env K):∃ v,YieldsAll P o env v∧K v:=by
 unfold evPure at h
 split at h
 ·rename_i x hop
  split at h
  ·rename_i p hx
   obtain ⟨a,rfl,hk⟩:=h.some'
   refine ⟨_,fun w=>?_,hk⟩
   simp only [execOp,hop,hx]
   rfl
  ·exact ofPure_sound h
 ·rename_i t x i hop
  obtain ⟨v,hv,hk⟩:=idxAt_sound h
  exact ⟨v,fun w=>by simp only [execOp,hop,run_bind,hv,run_pure],hk⟩
 ·rename_i t x i hop
  split at h
  ·obtain ⟨v,hv,hk⟩:=strAt_sound h
   exact ⟨v,fun w=>by simp only [execOp,hop,run_bind,hv,run_pure],hk⟩
  ·rename_i len e ht
   obtain ⟨v,hv,hk⟩:=arrAt_sound ht h
   exact ⟨v,fun w=>by simp only [execOp,hop,run_bind,hv,run_pure],hk⟩
  ·exact ofPure_sound h
 ·rename_i t x lo hi mx hop
  obtain ⟨v,hv,hk⟩:=sliceEv_sound h
  exact ⟨v,fun w=>by simp only [execOp,hop,run_bind,hv,run_pure],hk⟩
 ·rename_i op t x y yt hop
  split at h
  ·obtain ⟨hs,h⟩:=Cond_true' h
   obtain ⟨v,hv,hk⟩:=divEv_sound (P:=P) (t:=t) h (fun _=>hs)
   exact ⟨v,fun w=>by simp only [execOp,hop,run_bind,run_eqGuard (op:=.quo) (by simp) (by simp),hv,run_pure],hk⟩
  ·obtain ⟨hs,h⟩:=Cond_true' h
   obtain ⟨v,hv,hk⟩:=divEv_sound (P:=P) (t:=t) h (fun _=>hs)
   exact ⟨v,fun w=>by simp only [execOp,hop,run_bind,run_eqGuard (op:=.rem) (by simp) (by simp),hv,run_pure],hk⟩
  ·obtain ⟨v,hv,hk⟩:=divEv_sound (P:=P) (t:=t) h (by simp)
   exact ⟨v,fun w=>by simp only [execOp,hop,run_bind,run_eqGuard (op:=.shl) (by simp) (by simp),hv,run_pure],hk⟩
  ·obtain ⟨v,hv,hk⟩:=divEv_sound (P:=P) (t:=t) h (by simp)
   exact ⟨v,fun w=>by simp only [execOp,hop,run_bind,run_eqGuard (op:=.shr) (by simp) (by simp),hv,run_pure],hk⟩
  ·split at h
   ·rename_i b hb
    refine ⟨_,fun w=>?_,h⟩
    have:=(nilEq_run (x:=x) (y:=y) hb w).1
    simp only [execOp,hop]
    rw [run_bind,this]
    rfl
   ·rcases eqAgg_sound (x:=x) (y:=y) h with h | ⟨r,hk,hr⟩
    ·exact ofPure_sound h
    ·refine ⟨_,fun w=>?_,hk⟩
     simp only [execOp,hop]
     rw [run_bind,(hr w).1]
     rfl
  ·split at h
   ·rename_i b hb
    refine ⟨_,fun w=>?_,h⟩
    have:=(nilEq_run (x:=x) (y:=y) hb w).2
    simp only [execOp,hop]
    rw [run_bind,this]
    rfl
   ·rcases eqAgg_sound (x:=x) (y:=y) h with h | ⟨r,hk,hr⟩
    ·exact ofPure_sound h
    ·refine ⟨_,fun w=>?_,hk⟩
     simp only [execOp,hop]
     rw [run_bind,(hr w).2]
     rfl
  ·rename_i c1 c2 c3 c4 c5 c6
   clear c1 c2 c3 c4 c5 c6
   unfold strAdd at h
   split at h
   ·rename_i a b hx hy
    obtain ⟨hlt,hk⟩:=h
    have hlt:a.size + b.size < 4611686018427387904:=hlt
    refine ⟨_,fun w=>?_,hk⟩
    have hmax:¬ ((a.size + b.size:Nat):Int) > IntKind.i64.max:=by
     show ¬ ((a.size + b.size:Nat):Int) > 9223372036854775807
     omega
    simp only [execOp,hop,hx,hy,run_bind,run_eqGuard (op:=.add) (by simp) (by simp),binOp,Op.stringOp,if_neg hmax,run_pure]
   ·exact ofPure_sound h
 ·exact ofPure_sound h
end
end Go.Ev
set_option linter.all false
namespace Go.Ev

/-! ### Reading -/
def rdSem {α:Type} (P:Program):Sem α→List VK→Hp→(α→List VK→Prop)→Prop
 | .pure a,vs,_,K=>K a vs
 | .load _ a k,vs,h,K=>(vs.headD .any).ex fun v=>cell h a=some v∧rdSem P (k v) vs.tail h K
 | .shape r k,vs,h,K=>rdSem P (k (shp h r)) vs h K
 | .getObj r k,vs,h,K=>∃ o,h[r]?=some o∧notCells o=true∧rdSem P (k o) vs h K
 | .program k,vs,h,K=>rdSem P (k P) vs h K
 | _,_,_,_=>False
theorem rdSem_sound {α:Type} {P:Program}:∀ (s:Sem α) (vs:List VK) (w:World) (K:α→List VK→Prop),rdSem P s vs w.heap K →
  ∃ a vs',s.run P w=.ok a w∧K a vs':=by
 intro s
 induction s with
 | pure a=>exact fun vs w K h=>⟨a,vs,rfl,h⟩
 | load m a k ih =>
  intro vs w K h
  obtain ⟨v,hv,h⟩:=VK.ex_some h
  have hv':w.cell? a=some v:=hv
  obtain ⟨x,vs',hr,hk⟩:=ih v _ _ _ h
  exact ⟨x,vs',by rw [Sem.run,hv']; exact hr,hk⟩
 | shape r k ih =>
  intro vs w K h
  obtain ⟨x,vs',hr,hk⟩:=ih (shp w.heap r) vs w K h
  exact ⟨x,vs',by rw [Sem.run]; exact hr,hk⟩
 | getObj r k ih =>
  intro vs w K h
  obtain ⟨o,ho,hn,h⟩:=h
  obtain ⟨x,vs',hr,hk⟩:=ih o vs w K h
  refine ⟨x,vs',?_,hk⟩
  rw [← hr,Sem.run,ho]
  cases o <;> first | (simp [notCells] at hn; done) | rfl
 | program k ih =>
  intro vs w K h
  obtain ⟨x,vs',hr,hk⟩:=ih P vs w K h
  exact ⟨x,vs',by rw [Sem.run]; exact hr,hk⟩
 | _=>exact fun vs w K h=>h.elim

/-! ### Rows of cells -/
def Reads (h:Hp) (a:Addr) (l:List Value):Prop:=∀ j v,l[j]?=some v→cell h (a.add j)=some v
def ReadsO (h:Hp):Option Addr→List Value→Prop
 | some a,l=>Reads h a l
 | none,l=>l=[]
def setcs (h:Hp) (a:Addr):List Value→Nat→Hp
 | [],_=>h
 | v :: r,i=>setcs (setc h (a.add i) v) a r (i + 1)
def stsOk (h:Hp) (a:Addr):List Value→Nat→Prop
 | [],_=>True
 | v :: r,i=>isCell v=true∧stOk h (a.add i)∧stsOk (setc h (a.add i) v) a r (i + 1)
def zrow (z:Array Value) (n:Nat):Array Value:=(Array.range n).map (z[· % z.size]!)

section
variable {P:Program}
theorem run_load {a:Addr} {v:Value} {w:World} (h:cell w.heap a=some v):(Go.load a).run P w=.ok v w:=by
 have h':w.cell? a=some v:=h
 unfold Go.load
 rw [Sem.run,h']
 rfl
theorem run_loadCellsFrom (a:Addr):∀ (l:List Value) (i:Nat) (acc:Array Value) (w:World),(∀ j v,l[j]?=some v→cell w.heap (a.add (i + j))=some v) →
  (loadCellsFrom a i l.length acc).run P w=.ok (acc ++ l.toArray) w:=by
 intro l
 induction l with
 | nil=>intro i acc w _; simp [loadCellsFrom,run_pure]
 | cons x l ih =>
  intro i acc w h
  simp only [List.length_cons,loadCellsFrom,run_bind]
  have h0:cell w.heap (a.add i)=some x:=h 0 x rfl
  rw [run_load h0]
  simp only []
  rw [ih (i + 1) (acc.push x) w (fun j v hj=>by have:=h (j + 1) v (by simpa using hj); rwa [show i + (j + 1)=i + 1 + j by omega] at this)]
  simp
theorem run_loadCells {a:Addr} {l:List Value} {n:Nat} {w:World} (h:Reads w.heap a l) (hn:l.length=n):(loadCells a n).run P w=.ok l.toArray w:=by
 unfold loadCells
 rw [← hn,run_loadCellsFrom a l 0 #[] w (fun j v hj=>by rw [Nat.zero_add]; exact h j v hj)]
 simp
theorem run_store {a:Addr} {v:Value} {w:World} (hc:isCell v=true) (h:stOk w.heap a):(Go.store a v).run P w=.ok () (w.setCell a v):=by
 obtain ⟨⟨u,hu⟩,hf⟩:=h
 have hu':w.cell? a=some u:=hu
 have hf':w.frozen? a=false:=hf
 unfold Go.store
 cases v <;> first | (simp [isCell] at hc; done) | simp [Sem.run,hu',hf']
theorem run_storeCells (a:Addr):∀ (l:List Value) (i:Nat) (w:World),stsOk w.heap a l i →
  ∃ w',(storeCells a l i).run P w=.ok () w'∧Same w w'∧w'.heap=setcs w.heap a l i:=by
 intro l
 induction l with
 | nil=>intro i w _; exact ⟨w,rfl,Same.refl _,rfl⟩
 | cons x l ih =>
  intro i w h
  obtain ⟨h1,h2,h3⟩:=h
  have hset:(w.setCell (a.add i) x).heap=setc w.heap (a.add i) x:=rfl
  rw [← hset] at h3
  obtain ⟨w',hr,hs,hh⟩:=ih (i + 1) _ h3
  refine ⟨w',?_,hs,hh⟩
  rw [storeCells,run_bind,run_store h1 h2]
  exact hr
theorem run_firstCells_sl {b:Option Addr} {m c sz n:Nat} {l:List Value} {w:World} (h:ReadsO w.heap b l) (hn:l.length=n * sz) :
  (Builtin.firstCells sz n (.slice b m c)).run P w=.ok l.toArray w:=by
 cases b with
 | none=>have:l=[]:=h; subst this; rfl
 | some a=>exact run_loadCells h hn
theorem run_zeroValue {t:TypeId} {i:TypeInfo} {v:Value} (h:P.info? t=some i) (hz:i.zero=some v) (w:World):(Go.zeroValue t).run P w=.ok v w:=by
 unfold Go.zeroValue
 rw [run_bind,run_typeInfo h]
 simp only [hz]
 rfl
theorem run_newRow (e:TypeId) (cs:Array Value) (w:World):(Go.newRow e cs).run P w=.ok ⟨w.heap.size,0,none⟩ { w with heap:=w.heap.push (.cells cs e) }:=by
 unfold Go.newRow
 rw [run_bind]
 unfold Go.newObj
 rw [Sem.run]
 rfl
theorem run_askRoom (n:Nat) (w:World):(Go.askRoom n).run P w=.ok () w:=by
 unfold Go.askRoom
 split
 ·unfold Go.mark; rw [Sem.run]; rfl
 ·rfl
end

/-! ### make -/
def zeroOf (P:Program) (e:TypeId):Option (Array Value):=match P.info? e with | some i=>(match i.zero with | some v=>some v.cells | none=>none) | none=>none
def makeEv (P:Program) (t:TypeId) (len cap:Value) (h:Hp) (K:Value→Hp→Prop):Prop :=
 match P.underlying t,len,cap with
 | some (.slice e),.int _ l,.int _ c =>
  match zeroOf P e with
  | some z=>(0 ≤ l∧l ≤ c)∧c < 2 ^ 62∧byOf P e * c ≤ 2 ^ 48 ∧
    K (.slice (some ⟨h.size,0,none⟩) l.toNat c.toNat) (h.push (.cells (zrow z (c.toNat * szOf P e)) e))
  | none=>False
 | _,_,_=>False
section
variable {P:Program}
theorem wrap_i64 {x:Int} (h0:0 ≤ x) (h1:x < 2 ^ 62):IntKind.i64.wrap x=x:=by
 have h1':x < 4611686018427387904:=h1
 have e:x % 2 ^ 64=x:=by omega
 simp only [IntKind.wrap,IntKind.signed,IntKind.bits,e]
 rw [if_neg]
 simp
 omega
theorem makeEv_sound {t:TypeId} {len cap:Value} {w:World} {K:Value→Hp→Prop} (h:makeEv P t len cap w.heap K) :
  ∃ v w',(Instr.makeSlice t len cap).run P w=.ok v w'∧Same w w'∧K v w'.heap:=by
 unfold makeEv at h
 split at h
 ·rename_i e k l k' c ht
  split at h
  ·rename_i z hz
   obtain ⟨⟨h0,h1⟩,h2,h3,hk⟩:=h
   unfold zeroOf at hz
   split at hz
   ·rename_i i hi
    split at hz
    ·rename_i v hv
     obtain rfl:v.cells=z:=by simpa using hz
     have hby:byOf P e=i.bytes:=by unfold byOf; rw [hi]
     have hsz:szOf P e=i.size:=by unfold szOf; rw [hi]
     have hs:(P.info? e).isSome=true:=by rw [hi]; rfl
     refine ⟨_,{ w with heap:=w.heap.push (.cells (zrow v.cells (c.toNat * szOf P e)) e) },?_,?_,hk⟩
     ·unfold Instr.makeSlice
      rw [run_bind,run_underlying ht]
      simp only [run_bind,asInt,asIntOf,run_pure,run_typeInfo hi]
      rw [wrap_i64 h0 (by omega),wrap_i64 (by omega) h2]
      have h3':(i.bytes:Int) * c ≤ 2 ^ 48:=by rw [← hby]; exact h3
      have ht1:¬ ((decide (c < 0) || decide (2 ^ 48 < (i.bytes:Int) * c)) || decide (l < 0) || decide (c < l))=true:=by
       simp only [Bool.or_eq_true,decide_eq_true_eq,not_or]
       omega
      simp only [gt_iff_lt]
      rw [if_neg ht1]
      simp only [run_bind,run_askRoom,run_sizeOf hs,hsz]
      by_cases hn:c.toNat * i.size=0
      ·simp only [hn,if_true,zrow]
       rw [run_bind,run_pure]
       simp only [run_bind,run_newRow,run_pure]
       simp [Array.range]
      ·simp only [hn,if_false,run_bind,run_zeroValue hi hv,run_pure,run_newRow,zrow]
     ·exact ⟨rfl,rfl,rfl⟩
    ·cases hz
   ·cases hz
  ·exact h.elim
 ·exact h.elim
end

/-! ### append, copy -/
def fromBase (h:Hp) (base:Option Addr) (off:Nat) (news:List Value) (K:Hp→Prop):Prop :=
 match base with
 | some a=>stsOk h (a.add off) news 0∧K (setcs h (a.add off) news 0)
 | none=>K h
def appTail (P:Program) (e:TypeId) (z:Array Value) (base:Option Addr) (n c need:Nat) (news:List Value) (h:Hp) (K:Value→Hp→Prop):Prop :=
 (need ≤ c→fromBase h base (n * szOf P e) news fun h'=>K (.slice base need c) h') ∧
 (c < need→(2 * need + 768) * byOf P e ≤ 2 ^ 48∧need < 2 ^ 62∧∃ olds,ReadsO h base olds∧olds.length=n * szOf P e ∧
  ∀ nc,need ≤ nc→nc < 2 ^ 63→K (.slice (some ⟨h.size,0,none⟩) need nc) (h.push (.cells (olds.toArray ++ news.toArray ++ zrow z ((nc - need) * z.size)) e)))
def isIntTy (P:Program) (t:TypeId):Bool:=match P.underlying t with | some (.int _)=>true | _=>false
def appendEv (P:Program) (st xt:TypeId) (s x:Value) (h:Hp) (K:Value→Hp→Prop):Prop :=
 match P.underlying st,s,x with
 | some (.slice e),.slice base n c,.slice b2 m _ =>
  match zeroOf P e with
  | some z=>Cond ((P.underlying xt).isSome && !isIntTy P xt) (∃ news,ReadsO h b2 news∧news.length=m * szOf P e∧appTail P e z base n c (n + m) news h K) False
  | none=>False
 | some (.slice e),.slice base n c,.string b =>
  match zeroOf P e with
  | some z=>Cond ((P.underlying xt).isSome && !isIntTy P xt && szOf P e == 1) (appTail P e z base n c (n + b.size) (b.data.toList.map fun u=>.int .u8 u.toNat) h K) False
  | none=>False
 | some (.slice e),.slice base n c,.int _ m =>
  match zeroOf P e with
  | some z=>Cond (isIntTy P xt && z.size == szOf P e) ((0 ≤ m∧m < 2 ^ 62)∧m * byOf P e ≤ 2 ^ 48∧appTail P e z base n c (n + m.toNat) (zrow z (m.toNat * z.size)).toList h K) False
  | none=>False
 | _,_,_=>False
def copyEv (P:Program) (dt:TypeId) (d s:Value) (h:Hp) (K:Value→Hp→Prop):Prop :=
 match P.underlying dt,d,s with
 | some (.slice e),.slice base n _,.slice b2 m _ =>
  Cond (P.info? e).isSome (∃ news,ReadsO h b2 news∧news.length=min m n * szOf P e∧fromBase h base 0 news fun h'=>K (.int .i64 (min m n:Nat)) h') False
 | _,_,_=>False

section
variable {P:Program}
theorem nextcap_le {need c:Nat} (h:c < need):Builtin.nextslicecap need c ≤ 2 * need + 768:=by
 have hg:∀ r x,x ≤ 2 * need + 768→Builtin.growBy need r x ≤ 2 * need + 768:=by
  intro r
  induction r with
  | zero=>intro x hx; exact hx
  | succ r ih =>
   intro x hx
   unfold Builtin.growBy
   split
   ·exact hx
   ·exact ih _ (by omega)
 unfold Builtin.nextslicecap
 split
 ·omega
 ·split
  ·omega
  ·exact hg 4 c (by omega)
theorem Addr.add_zero (a:Addr):a.add 0=a:=rfl
theorem isInt_false {d:TypeDesc} (h:(match some d with | some (TypeDesc.int _)=>true | _=>false)=false):∀ k,d ≠ .int k:=by
 intro k hk
 subst hk
 simp at h
theorem zeroOf_some {e:TypeId} {z:Array Value} (h:zeroOf P e=some z):∃ i v,P.info? e=some i∧i.zero=some v∧v.cells=z:=by
 unfold zeroOf at h
 split at h
 ·rename_i i hi
  split at h
  ·rename_i v hv
   exact ⟨i,v,hi,hv,by simpa using h⟩
  ·cases h
 ·cases h
theorem run_choose {q:Question} (hq:q.forced=false) (w:World):(Go.choose q).run P w=.ok (q.cut (w.tape w.drawn q)) { w with drawn:=w.drawn + 1 }:=by
 unfold Go.choose
 rw [Sem.run,hq]
 rfl
/-- What is common to the three appends. -/
theorem tail_in {e:TypeId} {z:Array Value} {base:Option Addr} {n c need:Nat} {news:List Value} {w:World} {K:Value→Hp→Prop} (hT:appTail P e z base n c need news w.heap K) (hc:need ≤ c) :
  ∃ w',(match base with
   | some a=>do
    storeCells (a.add (n * szOf P e)) news.toArray.toList
    Pure.pure (Value.slice base need c)
   | _=>Pure.pure (Value.slice base need c):Sem Value).run P w=.ok (.slice base need c) w'∧Same w w'∧K (.slice base need c) w'.heap:=by
 have h:=hT.1 hc
 cases base with
 | none=>exact ⟨w,rfl,Same.refl _,h⟩
 | some a =>
  obtain ⟨h1,h2⟩:=h
  obtain ⟨w',hr,hs,hh⟩:=run_storeCells (P:=P) (a.add (n * szOf P e)) news 0 w h1
  refine ⟨w',?_,hs,by rw [hh]; exact h2⟩
  simp only [run_bind,hr,run_pure]
theorem append_sound {argTypes:Array TypeId} {ty st xt:TypeId} {s x:Value} {w:World} {K:Value→Hp→Prop} (h0:argTypes[0]?=some st) (h1:argTypes[1]?=some xt)
  (h:appendEv P st xt s x w.heap K):∃ v w',(Builtin.append_ argTypes ty #[s,x]).run P w=.ok v w'∧Same w w'∧K v w'.heap:=by
 unfold appendEv at h
 split at h
 ·rename_i e base n c b2 m c2 ht
  split at h
  ·rename_i z hz
   obtain ⟨hx,news,hr,hl,hT⟩:=Cond_true' h
   simp only [Bool.and_eq_true,Bool.not_eq_true'] at hx
   obtain ⟨hx,hint⟩:=hx
   obtain ⟨i,v,hi,hv,rfl⟩:=zeroOf_some hz
   obtain ⟨d,hd⟩:=Option.isSome_iff_exists.1 hx
   have hs:(P.info? e).isSome=true:=by rw [hi]; rfl
   have hsz:szOf P e=i.size:=by unfold szOf; rw [hi]
   have hby:byOf P e=i.bytes:=by unfold byOf; rw [hi]
   have hne:=isInt_false (d:=d) (by unfold isIntTy at hint; rw [hd] at hint; exact hint)
   unfold Builtin.append_
   simp only [h0,h1]
   have g0:(#[Value.slice base n c,Value.slice b2 m c2]:Array Value)[0]?=some (Value.slice base n c):=rfl
   have g1:(#[Value.slice base n c,Value.slice b2 m c2]:Array Value)[1]?=some (Value.slice b2 m c2):=rfl
   simp only [g0,g1]
   simp only [run_bind,run_underlying ht,run_sizeOf hs,run_underlying hd,run_pure]
   simp only [Bool.false_eq_true,if_false,Builtin.lenOf,run_bind,run_pure,Bool.not_false,if_true]
   have hfc:=fun w'=>run_firstCells_sl (P:=P) (c:=c2) (m:=m) (sz:=szOf P e) (n:=m) (w:=w') (l:=news) (b:=b2)
   by_cases hc:n + m ≤ c
   ·simp only [hc,if_true,run_bind,hfc w hr hl]
    obtain ⟨w',h1,h2,h3⟩:=tail_in hT hc
    exact ⟨_,w',h1,h2,h3⟩
   ·obtain ⟨hb1,hb2,olds,ho,hol,hK⟩:=hT.2 (by omega)
    have hnx:=nextcap_le (need:=n + m) (c:=c) (by omega)
    have hle:Builtin.nextslicecap (n + m) c * i.bytes ≤ 2 ^ 48:=by
     rw [hby] at hb1
     exact Nat.le_trans (Nat.mul_le_mul_right _ hnx) hb1
    have hmax:¬ ((n + m:Nat):Int) > IntKind.i64.max:=by
     show ¬ ((n + m:Nat):Int) > 9223372036854775807
     have hb2':n + m < 4611686018427387904:=hb2
     omega
    simp only [hc,if_false,run_bind,run_typeInfo hi,hmax,false_and,Nat.not_lt.2 hle,gt_iff_lt]
    rw [run_choose rfl]
    simp only [run_askRoom]
    generalize hnc:(Question.appendCap (n + m) c e).cut (w.tape w.drawn (Question.appendCap (n + m) c e))=nc
    have hb2':n + m < 4611686018427387904:=hb2
    have hnc1:n + m ≤ nc∧nc < 2 ^ 63:=by
     rw [← hnc]
     simp only [Question.cut]
     have:=Nat.mod_lt (w.tape w.drawn (Question.appendCap (n + m) c e)) (show 0 < 2 ^ 63 - (n + m) by omega)
     omega
    have hfo:=run_firstCells_sl (P:=P) (c:=c) (m:=n) (sz:=szOf P e) (n:=n) (w:={ w with drawn:=w.drawn + 1 }) (l:=olds) (b:=base) ho hol
    simp only [hfo,hfc { w with drawn:=w.drawn + 1 } hr hl,run_zeroValue hi hv,run_newRow,run_pure]
    exact ⟨_,_,rfl,⟨rfl,rfl,rfl⟩,hK nc hnc1.1 hnc1.2⟩
  ·exact h.elim
 ·rename_i e base n c b ht
  split at h
  ·rename_i z hz
   obtain ⟨hx,hT⟩:=Cond_true' h
   simp only [Bool.and_eq_true,Bool.not_eq_true'] at hx
   obtain ⟨⟨hx,hint⟩,_⟩:=hx
   obtain ⟨i,v,hi,hv,rfl⟩:=zeroOf_some hz
   obtain ⟨d,hd⟩:=Option.isSome_iff_exists.1 hx
   have hs:(P.info? e).isSome=true:=by rw [hi]; rfl
   have hby:byOf P e=i.bytes:=by unfold byOf; rw [hi]
   have hne:=isInt_false (d:=d) (by unfold isIntTy at hint; rw [hd] at hint; exact hint)
   have hnews:((b.extract 0 b.size).data.map fun u=>Value.int .u8 u.toNat)=(b.data.toList.map fun u=>Value.int .u8 u.toNat).toArray:=by
    have e1:b.extract 0 b.size=b:=by simp
    rw [e1]
    apply Array.ext'
    simp
   unfold Builtin.append_
   simp only [h0,h1]
   have g0:(#[Value.slice base n c,Value.string b]:Array Value)[0]?=some (Value.slice base n c):=rfl
   have g1:(#[Value.slice base n c,Value.string b]:Array Value)[1]?=some (Value.string b):=rfl
   simp only [g0,g1]
   simp only [run_bind,run_underlying ht,run_sizeOf hs,run_underlying hd,run_pure]
   simp only [Bool.false_eq_true,if_false,Builtin.lenOf,run_bind,run_pure,Bool.not_false,if_true,Builtin.firstCells,hnews]
   by_cases hc:n + b.size ≤ c
   ·simp only [hc,if_true,run_bind,run_pure]
    obtain ⟨w',h1,h2,h3⟩:=tail_in hT hc
    exact ⟨_,w',h1,h2,h3⟩
   ·obtain ⟨hb1,hb2,olds,ho,hol,hK⟩:=hT.2 (by omega)
    have hnx:=nextcap_le (need:=n + b.size) (c:=c) (by omega)
    have hle:Builtin.nextslicecap (n + b.size) c * i.bytes ≤ 2 ^ 48:=by
     rw [hby] at hb1
     exact Nat.le_trans (Nat.mul_le_mul_right _ hnx) hb1
    have hmax:¬ ((n + b.size:Nat):Int) > IntKind.i64.max:=by
     show ¬ ((n + b.size:Nat):Int) > 9223372036854775807
     have hb2':n + b.size < 4611686018427387904:=hb2
     omega
    simp only [hc,if_false,run_bind,run_typeInfo hi,hmax,false_and,Nat.not_lt.2 hle,gt_iff_lt]
    rw [run_choose rfl]
    simp only [run_askRoom]
    generalize hnc:(Question.appendCap (n + b.size) c e).cut (w.tape w.drawn (Question.appendCap (n + b.size) c e))=nc
    have hb2':n + b.size < 4611686018427387904:=hb2
    have hnc1:n + b.size ≤ nc∧nc < 2 ^ 63:=by
     rw [← hnc]
     simp only [Question.cut]
     have:=Nat.mod_lt (w.tape w.drawn (Question.appendCap (n + b.size) c e)) (show 0 < 2 ^ 63 - (n + b.size) by omega)
     omega
    have hfo:=run_firstCells_sl (P:=P) (c:=c) (m:=n) (sz:=szOf P e) (n:=n) (w:={ w with drawn:=w.drawn + 1 }) (l:=olds) (b:=base) ho hol
    unfold Builtin.firstCells at hfo
    simp only [hfo,run_zeroValue hi hv,run_newRow,run_pure]
    exact ⟨_,_,rfl,⟨rfl,rfl,rfl⟩,hK nc hnc1.1 hnc1.2⟩
  ·exact h.elim
 ·rename_i e base n c k m ht
  split at h
  ·rename_i z hz
   obtain ⟨hx,⟨hm0,hm1⟩,hmb,hT⟩:=Cond_true' h
   simp only [Bool.and_eq_true,beq_iff_eq] at hx
   obtain ⟨hint,hzs⟩:=hx
   obtain ⟨i,v,hi,hv,rfl⟩:=zeroOf_some hz
   have hs:(P.info? e).isSome=true:=by rw [hi]; rfl
   have hsz:szOf P e=i.size:=by unfold szOf; rw [hi]
   have hby:byOf P e=i.bytes:=by unfold byOf; rw [hi]
   obtain ⟨kd,hd⟩:∃ kd,P.underlying xt=some (.int kd):=by
    unfold isIntTy at hint
    split at hint
    ·rename_i kd hd; exact ⟨kd,hd⟩
    ·cases hint
   have hnews:∀ w',(if m.toNat * szOf P e=0 then (Pure.pure #[]:Sem (Array Value)) else do Pure.pure (Builtin.zeroCells (← zeroValue e).cells m.toNat)).run P w'=.ok (zrow v.cells (m.toNat * v.cells.size)) w':=by
    intro w'
    split
    ·rename_i h0
     rw [← hzs] at h0
     rw [h0,run_pure]
     simp [zrow]
    ·simp only [run_bind,run_zeroValue hi hv,run_pure]
     rfl
   have hta:(zrow v.cells (m.toNat * v.cells.size)).toList.toArray=zrow v.cells (m.toNat * v.cells.size):=Array.toArray_toList
   have hmb':m * i.bytes ≤ 2 ^ 48:=by rw [← hby]; exact hmb
   unfold Builtin.append_
   simp only [h0,h1]
   have g0:(#[Value.slice base n c,Value.int k m]:Array Value)[0]?=some (Value.slice base n c):=rfl
   have g1:(#[Value.slice base n c,Value.int k m]:Array Value)[1]?=some (Value.int k m):=rfl
   simp only [g0,g1]
   simp only [run_bind,run_underlying ht,run_sizeOf hs,run_underlying hd,run_pure,asInt,asIntOf,if_true,wrap_i64 hm0 hm1,Int.not_lt.2 hm0,if_false,run_typeInfo hi,gt_iff_lt,Int.not_lt.2 hmb',Bool.not_true,Bool.false_eq_true,true_or,and_true]
   by_cases hc:n + m.toNat ≤ c
   ·simp only [hc,if_true,run_bind,hnews]
    obtain ⟨w',h1,h2,h3⟩:=tail_in hT hc
    rw [hta] at h1
    exact ⟨_,w',h1,h2,h3⟩
   ·obtain ⟨hb1,hb2,olds,ho,hol,hK⟩:=hT.2 (by omega)
    have hnx:=nextcap_le (need:=n + m.toNat) (c:=c) (by omega)
    have hle:Builtin.nextslicecap (n + m.toNat) c * i.bytes ≤ 2 ^ 48:=by
     rw [hby] at hb1
     exact Nat.le_trans (Nat.mul_le_mul_right _ hnx) hb1
    have hmax:¬ IntKind.i64.max < ((n + m.toNat:Nat):Int):=by
     show ¬ 9223372036854775807 < ((n + m.toNat:Nat):Int)
     have hb2':n + m.toNat < 4611686018427387904:=hb2
     omega
    simp only [hc,if_false,run_bind,run_typeInfo hi,hmax,Nat.not_lt.2 hle]
    rw [run_choose rfl]
    simp only [run_askRoom]
    generalize hnc:(Question.appendCap (n + m.toNat) c e).cut (w.tape w.drawn (Question.appendCap (n + m.toNat) c e))=nc
    have hb2':n + m.toNat < 4611686018427387904:=hb2
    have hnc1:n + m.toNat ≤ nc∧nc < 2 ^ 63:=by
     rw [← hnc]
     simp only [Question.cut]
     have:=Nat.mod_lt (w.tape w.drawn (Question.appendCap (n + m.toNat) c e)) (show 0 < 2 ^ 63 - (n + m.toNat) by omega)
     omega
    have hfo:=run_firstCells_sl (P:=P) (c:=c) (m:=n) (sz:=szOf P e) (n:=n) (w:={ w with drawn:=w.drawn + 1 }) (l:=olds) (b:=base) ho hol
    simp only [hfo,hnews,run_zeroValue hi hv,run_newRow,run_pure]
    have hK':=hK nc hnc1.1 hnc1.2
    rw [hta] at hK'
    exact ⟨_,_,rfl,⟨rfl,rfl,rfl⟩,hK'⟩
  ·exact h.elim
 ·exact h.elim
theorem copy_sound {argTypes:Array TypeId} {ty dt:TypeId} {d s:Value} {w:World} {K:Value→Hp→Prop} (h0:argTypes[0]?=some dt)
  (h:copyEv P dt d s w.heap K):∃ v w',(Builtin.copy_ argTypes ty #[d,s]).run P w=.ok v w'∧Same w w'∧K v w'.heap:=by
 unfold copyEv at h
 split at h
 ·rename_i e base n c b2 m c2 ht
  obtain ⟨hs,news,hr,hl,hT⟩:=Cond_true' h
  unfold Builtin.copy_
  simp only [h0]
  have g0:(#[Value.slice base n c,Value.slice b2 m c2]:Array Value)[0]?=some (Value.slice base n c):=rfl
  have g1:(#[Value.slice base n c,Value.slice b2 m c2]:Array Value)[1]?=some (Value.slice b2 m c2):=rfl
  have hl':news.length=Nat.min m n * szOf P e:=hl
  simp only [g0,g1]
  simp only [run_bind,run_underlying ht,run_sizeOf hs,run_pure,Builtin.lenOf,run_firstCells_sl hr hl']
  cases base with
  | none=>exact ⟨_,w,rfl,Same.refl _,hT⟩
  | some a =>
   obtain ⟨h1,h2⟩:=hT
   obtain ⟨w',hr,hs,hh⟩:=run_storeCells (P:=P) (a.add 0) news 0 w h1
   refine ⟨_,w',?_,hs,by rw [hh]; exact h2⟩
   have hr':(storeCells a news).run P w=.ok () w':=hr
   simp only [run_bind,hr',run_pure]
   rfl
 ·exact h.elim
end
end Go.Ev
