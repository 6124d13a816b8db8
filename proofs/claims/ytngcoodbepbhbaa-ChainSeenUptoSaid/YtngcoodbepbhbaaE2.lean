/- Maps for the evaluator: keys that compare, what lies in a map, looking up, putting, taking out, going through; calls of values that hold functions / One operation of the program, calls too, and its soundness / A region whose order is drawn: one order stands for all. No condition but that these are ones. -/
import Derived.Test.YtngcoodbepbhbaaE1
import Derived.MapKept
import Derived.Maps.RangeRun
import Derived.Laws.BytesString
import Derived.Orders
set_option linter.all false
namespace Go.Ev
open Go.MapKept
/-- Keys of a type, among which '==' tells whether they are the same. -/
structure KLaw (P:Program) (kt:TypeId) (Ok:Value→Prop):Prop where
 check:∀ (em:Bool) {v:Value} (w:World),Ok v→(Instr.checkKey em 10000 kt v).run P w=.ok () w
 find:∀ {x:Value} (es:List MapEntry) (w:World),Ok x→(∀ e ∈ es,Ok e.key) →
  ((Instr.findKey kt x es).run P w=.ok none w∧∀ e ∈ es,e.key ≠ x) ∨ ∃ j e,(Instr.findKey kt x es).run P w=.ok (some (j,e.val)) w∧es[j]?=some e∧e.key=x
 stays:∀ {v:Value} (w:World),Ok v→(Instr.keyThatStays v v).run P w=.ok v w
/-- A map: its entries, all with good keys, no two alike. -/
structure MapAt (Ok:Value→Prop) (h:Hp) (r:Nat) (es:List MapEntry) (clk:Nat):Prop where
 ob:h[r]?=some (.map es.toArray clk)
 ok:∀ e ∈ es,Ok e.key
 nd:(es.map (·.key)).Nodup
def Finds (es:List MapEntry) (k v:Value):Prop:=∃ e ∈ es,e.key=k∧e.val=v
def Lacks (es:List MapEntry) (k:Value):Prop:=∀ e ∈ es,e.key ≠ k
def zV (P:Program) (t:TypeId):Option Value:=match P.info? t with | some i=>i.zero | none=>none
def MapGet (P:Program) (kt et:TypeId) (x key:Value) (h:Hp) (v:Value) (ok:Bool):Prop :=
 ∃ Ok,KLaw P kt Ok∧Ok key∧((x=.map none∧ok=false∧zV P et=some v) ∨
  ∃ r es clk,x=.map (some r)∧MapAt Ok h r es clk∧((ok=true∧Finds es key v) ∨ (ok=false∧Lacks es key∧zV P et=some v)))
def MapPut (P:Program) (kt:TypeId) (x key val:Value) (h:Hp) (K:Hp→Prop):Prop :=
 ∃ Ok r es clk,KLaw P kt Ok∧Ok key∧x=.map (some r)∧MapAt Ok h r es clk∧(Lacks es key→K (h.setIfInBounds r (.map (es ++ [({ key:=key,val:=val,born:=clk }:MapEntry)]).toArray (clk + 1)))) ∧
  ∀ j e,es[j]?=some e→e.key=key→K (h.setIfInBounds r (.map (es.set j { e with val:=val }).toArray clk))
def MapDel (P:Program) (kt:TypeId) (x key:Value) (h:Hp) (K:Hp→Prop):Prop :=
 ∃ Ok r es clk,KLaw P kt Ok∧Ok key∧x=.map (some r)∧MapAt Ok h r es clk∧(Lacks es key→K (h.setIfInBounds r (.map es.toArray clk))) ∧
  ∀ j e,es[j]?=some e→e.key=key→K (h.setIfInBounds r (.map (es.eraseIdx j).toArray clk))
def MapGrab (P:Program) (kt et:TypeId) (x key:Value) (h:Hp) (K:Value→Int→Hp→Prop):Prop :=
 ∃ Ok r,∃ es:List MapEntry,∃ clk z,KLaw P kt Ok∧Ok key∧x=.map (some r)∧MapAt Ok h r es clk∧zV P et=some z∧(Lacks es key→K z (clk:Nat) (h.setIfInBounds r (.map (es ++ [({ key:=key,val:=z,born:=clk }:MapEntry)]).toArray (clk + 1)))) ∧
  ∀ (j:Nat) (e:MapEntry),es[j]?=some e→e.key=key→K e.val (e.born:Nat) (h.setIfInBounds r (.map es.toArray clk))
def MapLay (x:Value) (stamp:Int) (val:Value) (h:Hp) (K:Hp→Prop):Prop :=
 ∃ r,∃ es:List MapEntry,∃ clk j e,x=.map (some r)∧h[r]?=some (.map es.toArray clk)∧es[j]?=some e∧stamp=(e.born:Int)∧(∀ i e',i < j→es[i]?=some e'→e'.born ≠ e.born)∧K (h.setIfInBounds r (.map (es.set j { e with val:=val }).toArray clk))
def MapRange (x:Value) (h:Hp) (K:Hp→Prop):Prop:=∃ r es clk,x=.map (some r)∧h[r]?=some (.map es clk)∧K (h.push (.mapIter (some r) clk #[] clk))
def MapNext (it:Value) (h:Hp) (KF:Prop) (KT:Value→Value→Hp→Prop):Prop :=
 ∃ r m es clk since seen c0,it=.pointer (some ⟨r,0,none⟩)∧h[r]?=some (.mapIter (some m) since seen c0)∧h[m]?=some (.map es clk)∧(∀ e ∈ es.toList,e.born < since)∧since ≤ c0 ∧
  ((∀ e ∈ es.toList,e.born ∈ seen.toList)→KF)∧∀ e ∈ es.toList,¬ e.born ∈ seen.toList→KT e.key e.val (h.setIfInBounds r (.mapIter (some m) since (seen.push e.born) clk))
def MapEnt (it:Value) (h:Hp) (a b:Value):Prop :=
 ∃ r m es clk since seen e,it=.pointer (some ⟨r,0,none⟩)∧h[r]?=some (.mapIter (some m) since seen clk)∧h[m]?=some (.map es clk)∧seen.back?=some e.born∧e ∈ es.toList∧(∀ x ∈ es.toList,x.born=e.born→x=e)∧e.key=a∧e.val=b
/-- A call of whatever function a value holds. -/
def Dyn (P:Program) (v:Value) (args:List Value) (h:Hp) (R:Value→Hp→Prop):Prop :=
 ∃ g first captured,v=.func (.func g) first captured∧(∀ (args:Array Value) (w:World),(callFunc g args).run P w=.ok (.enter g args) w)∧CallTo P g (first.toList ++ args ++ captured.toList).toArray h R
section
variable {P:Program}
theorem run_zV {t:TypeId} {v:Value} (h:zV P t=some v) (w:World):(Go.zeroValue t).run P w=.ok v w:=by
 unfold zV at h
 split at h
 ·rename_i i hi; exact run_zeroValue hi h w
 ·cases h
theorem MapAt.find_eq {Ok:Value→Prop} {h:Hp} {r:Nat} {es:List MapEntry} {clk:Nat} (m:MapAt Ok h r es clk) {e e':MapEntry} (he:e ∈ es) (he':e' ∈ es) (hk:e.key=e'.key):e=e':=by
 have nd:=m.nd
 clear m
 induction es with
 | nil=>cases he
 | cons a l ih =>
  rw [List.map_cons,List.nodup_cons] at nd
  rcases List.mem_cons.1 he with rfl | h1 <;> rcases List.mem_cons.1 he' with rfl | h2
  ·rfl
  ·exact absurd (List.mem_map.2 ⟨e',h2,hk.symm⟩) nd.1
  ·exact absurd (List.mem_map.2 ⟨e,h1,hk⟩) nd.1
  ·exact ih h1 h2 nd.2
theorem run_lookup {xt kt et:TypeId} {x key v:Value} {ok:Bool} {co:Bool} {w:World} (ht:P.underlying xt=some (.map kt et)) (h:MapGet P kt et x key w.heap v ok) :
  (Instr.lookup xt x key co).run P w=.ok (if co then .tuple #[v,.bool ok] else v) w:=by
 obtain ⟨Ok,L,hk,h⟩:=h
 rcases h with ⟨rfl,rfl,hz⟩ | ⟨r,es,clk,rfl,m,h⟩
 ·have hf:(Instr.findKey kt key ([]:List MapEntry)).run P w=.ok none w:=by
   rcases L.find [] w hk (fun e he=>by cases he) with ⟨h1,_⟩ | ⟨j,e,_,h2,_⟩
   ·exact h1
   ·simp at h2
  unfold Instr.lookup
  simp only [run_bind,run_underlying ht,run_pure,L.check _ w hk,List.isEmpty_toArray]
  simp only [hf,run_bind,run_zV hz,run_pure]
 ·unfold Instr.lookup
  simp only [run_bind,run_underlying ht,Go.MapKept.run_getObj_map m.ob,run_pure,L.check _ w hk]
  rcases L.find es w hk m.ok with ⟨h1,h2⟩ | ⟨j,e,h1,h2,h3⟩
  ·simp only [h1]
   rcases h with ⟨_,e,he,hek,_⟩ | ⟨rfl,_,hz⟩
   ·exact absurd hek (h2 e he)
   ·simp only [run_bind,run_zV hz,run_pure]
  ·simp only [h1,run_pure]
   have hm:=List.mem_of_getElem? h2
   rcases h with ⟨rfl,e',he',hek,hv⟩ | ⟨_,hl,_⟩
   ·have:e'=e:=m.find_eq he' hm (hek.trans h3.symm)
    subst this
    rw [← hv]
    rfl
   ·exact absurd h3 (hl e hm)
theorem run_mapUpdate {mt kt et:TypeId} {x key val:Value} {w:World} {K:Hp→Prop} (ht:P.underlying mt=some (.map kt et)) (h:MapPut P kt x key val w.heap K) :
  ∃ w',(Instr.mapUpdate mt x key val).run P w=.ok () w'∧Same w w'∧K w'.heap:=by
 obtain ⟨Ok,r,es,clk,L,hk,rfl,m,k1,k2⟩:=h
 unfold Instr.mapUpdate
 simp only [run_bind,run_underlying ht,Go.MapKept.run_getObj_map m.ob,L.check _ w hk]
 rcases L.find es w hk m.ok with ⟨h1,h2⟩ | ⟨j,e,h1,h2,h3⟩
 ·simp only [h1,run_bind]
  refine ⟨_,Go.MapKept.run_setObj_map _ m.ob,⟨rfl,rfl,rfl⟩,?_⟩
  have:=k1 h2
  simpa using this
 ·have he:(es.toArray[j]?.map (·.key)).getD key=key:=by simp [h2,h3]
  simp only [h1,run_bind,he,L.stays w hk]
  refine ⟨_,Go.MapKept.run_setObj_map _ m.ob,⟨rfl,rfl,rfl⟩,?_⟩
  have:=k2 j e h2 h3
  have e1:(es.set j { e with val:=val }).toArray=es.toArray.modify j fun e=>{ e with key:=key,val:=val }:=by
   apply Array.ext'
   rw [Array.toList_modify]
   apply List.ext_getElem?
   intro i
   rw [List.getElem?_modify,List.getElem?_set]
   have hj:=(List.getElem?_eq_some_iff.1 h2).1
   by_cases hij:j=i
   ·subst hij
    obtain ⟨ek,ev,eb⟩:=e
    obtain rfl:ek=key:=h3
    have h2':es[j]=⟨ek,ev,eb⟩:=by rw [List.getElem?_eq_getElem hj] at h2; exact Option.some.inj h2
    simp [hj,h2']
   ·simp [hij]
  rw [e1] at this
  exact this
theorem run_delete {mt kt et ty:TypeId} {at_:Array TypeId} {x key:Value} {w:World} {K:Hp→Prop} (h0:at_[0]?=some mt) (ht:P.underlying mt=some (.map kt et)) (h:MapDel P kt x key w.heap K) :
  ∃ w',(Builtin.delete_ at_ ty #[x,key]).run P w=.ok (.tuple #[]) w'∧Same w w'∧K w'.heap:=by
 obtain ⟨Ok,r,es,clk,L,hk,rfl,m,k1,k2⟩:=h
 unfold Builtin.delete_
 have g1:(#[Value.map (some r),key]:Array Value)[0]?=some (.map (some r)):=rfl
 have g2:(#[Value.map (some r),key]:Array Value)[1]?=some key:=rfl
 simp only [h0,g1,g2,run_bind,run_underlying ht,Go.MapKept.run_getObj_map m.ob,L.check _ w hk]
 rcases L.find es w hk m.ok with ⟨h1,h2⟩ | ⟨j,e,h1,h2,h3⟩
 ·simp only [h1,run_bind,Go.MapKept.run_setObj_map _ m.ob,run_pure]
  exact ⟨_,rfl,⟨rfl,rfl,rfl⟩,k1 h2⟩
 ·simp only [h1,run_bind,Go.MapKept.run_setObj_map _ m.ob,run_pure]
  refine ⟨_,rfl,⟨rfl,rfl,rfl⟩,?_⟩
  have:=k2 j e h2 h3
  have e1:(es.eraseIdx j).toArray=es.toArray.eraseIdxIfInBounds j:=by
   apply Array.ext'
   rw [Array.toList_eraseIdxIfInBounds]
  rw [e1] at this
  exact this
theorem run_range {xt kt et:TypeId} {x:Value} {w:World} {K:Hp→Prop} (ht:P.underlying xt=some (.map kt et)) (h:MapRange x w.heap K) :
  ∃ w',(Instr.range xt x).run P w=.ok (.pointer (some ⟨w.heap.size,0,none⟩)) w'∧Same w w'∧K w'.heap:=by
 obtain ⟨r,es,clk,rfl,hb,hk⟩:=h
 unfold Instr.range
 simp only [run_bind,run_underlying ht,Go.MapKept.run_getObj_map hb,run_pure]
 exact ⟨_,rfl,⟨rfl,rfl,rfl⟩,hk⟩
theorem run_next {it:Value} {ty:TypeId} {w:World} {KF:Prop} {KT:Value→Value→Hp→Prop} (h:MapNext it w.heap KF KT) :
  ((Instr.next it false ty).run P w=.ok (.tuple #[.bool false]) w∧KF) ∨ ∃ k v w',(Instr.next it false ty).run P w=.ok (.tuple #[.bool true,k,v]) w'∧Same w w'∧KT k v w'.heap:=by
 obtain ⟨r,m,es,clk,since,seen,c0,rfl,hr,hm,hold,hsc,kf,kt⟩:=h
 rcases run_next_at (P:=P) w ty r m since c0 seen es clk hr hm hold hsc with ⟨h0,hrun⟩ | ⟨e,he,w1,hw,hrun⟩
 ·refine .inl ⟨hrun,kf fun e he=>?_⟩
  have h1:leftOf es seen=#[]:=Array.eq_empty_of_size_eq_zero h0
  unfold leftOf at h1
  have:=(Array.filter_eq_empty_iff.1 h1) e (by simpa using he)
  simpa using this
 ·refine .inr ⟨_,_,_,hrun,?_,?_⟩
  ·rcases hw with rfl | rfl <;> exact ⟨rfl,rfl,rfl⟩
  ·unfold leftOf at he
   have he2:e ∈ es.toList∧¬ e.born ∈ seen.toList:=by simpa using he
   have:=kt e he2.1 he2.2
   rcases hw with rfl | rfl <;> exact this
theorem run_entry {it:Value} {w:World} {a b:Value} (h:MapEnt it w.heap a b):(Instr.entry it).run P w=.ok (.tuple #[a,b]) w:=by
 obtain ⟨r,m,es,clk,since,seen,e,rfl,hr,hm,hs,he,hu,rfl,rfl⟩:=h
 have hf:es.find? (fun x=>x.born == e.born)=some e:=by
  rw [← Array.find?_toList]
  cases h:es.toList.find? (fun x=>x.born == e.born) with
  | none=>exact absurd (List.find?_eq_none.1 h e he) (by simp)
  | some x =>
   have h1:=List.find?_some h
   have h2:=List.mem_of_find?_eq_some h
   rw [hu x h2 (by simpa using h1)]
 unfold Instr.entry
 simp only [getObj,run_bind,Sem.run,hr,hm,hs,bne_self_eq_false,Bool.false_eq_true,if_false,hf,run_pure]
theorem run_mapEntry {mt kt et:TypeId} {x key:Value} {w:World} {K:Value→Int→Hp→Prop} (ht:P.underlying mt=some (.map kt et)) (h:MapGrab P kt et x key w.heap K) :
  ∃ v b w',(Instr.mapEntry mt x key).run P w=.ok (.tuple #[v,.int .i64 b]) w'∧Same w w'∧K v b w'.heap:=by
 obtain ⟨Ok,r,es,clk,z,L,hk,rfl,m,hz,k1,k2⟩:=h
 unfold Instr.mapEntry
 simp only [run_bind,run_underlying ht,Go.MapKept.run_getObj_map m.ob,L.check _ w hk]
 rcases L.find es w hk m.ok with ⟨h1,h2⟩ | ⟨j,e,h1,h2,h3⟩
 ·simp only [h1,run_bind,run_zV hz,Go.MapKept.run_setObj_map _ m.ob,run_pure]
  refine ⟨z,(clk:Nat),_,rfl,⟨rfl,rfl,rfl⟩,?_⟩
  have:=k1 h2
  simpa using this
 ·have he:(es.toArray[j]?.map (·.key)).getD key=key:=by simp [h2,h3]
  have hb:(es.toArray[j]?.map fun x=>(x.born:Int)).getD 0=(e.born:Int):=by simp [h2]
  simp only [h1,run_bind,he,hb,L.stays w hk,Go.MapKept.run_setObj_map _ m.ob,run_pure]
  refine ⟨e.val,(e.born:Nat),_,rfl,⟨rfl,rfl,rfl⟩,?_⟩
  have:=k2 j e h2 h3
  have e1:es.toArray=es.toArray.modify j fun e=>{ e with key:=key }:=by
   apply Array.ext'
   rw [Array.toList_modify]
   apply List.ext_getElem?
   intro i
   rw [List.getElem?_modify]
   by_cases hij:j=i
   ·subst hij
    obtain ⟨ek,ev,eb⟩:=e
    obtain rfl:ek=key:=h3
    simp [h2]
   ·simp [hij]
  rw [e1] at this
  exact this
theorem run_entryStore {mt:TypeId} {x val:Value} {stamp:Int} {kd:IntKind} {w:World} {K:Hp→Prop} (h:MapLay x stamp val w.heap K) :
  ∃ w',(Instr.entryStore mt x (.int kd stamp) val).run P w=.ok () w'∧Same w w'∧K w'.heap:=by
 obtain ⟨r,es,clk,j,e,rfl,hb,hj,rfl,hlt,hK⟩:=h
 have hf:es.toArray.findIdx? (fun x=>(x.born:Int) == (e.born:Int))=some j:=by
  rw [List.findIdx?_toArray,List.findIdx?_eq_some_iff_getElem]
  have hjl:=(List.getElem?_eq_some_iff.1 hj).1
  refine ⟨hjl,?_,fun i hi=>?_⟩
  ·have:es[j]=e:=by rw [List.getElem?_eq_getElem hjl] at hj; exact Option.some.inj hj
   simp [this]
  ·have:=hlt i es[i] hi (List.getElem?_eq_getElem (by omega))
   simp only [beq_iff_eq]
   omega
 unfold Instr.entryStore
 simp only [run_bind,Go.MapKept.run_getObj_map hb,asInt,asIntOf,run_pure,hf]
 refine ⟨_,Go.MapKept.run_setObj_map _ hb,⟨rfl,rfl,rfl⟩,?_⟩
 have e1:(es.set j { e with val:=val }).toArray=es.toArray.modify j fun e=>{ e with val:=val }:=by
  apply Array.ext'
  rw [Array.toList_modify]
  apply List.ext_getElem?
  intro i
  rw [List.getElem?_modify,List.getElem?_set]
  have hjl:=(List.getElem?_eq_some_iff.1 hj).1
  by_cases hij:j=i
  ·subst hij
   have h2':es[j]=e:=by rw [List.getElem?_eq_getElem hjl] at hj; exact Option.some.inj hj
   simp [hjl,h2']
  ·simp [hij]
 rw [e1] at hK
 exact hK
end
end Go.Ev
set_option linter.all false
namespace Go.Ev

inductive RK where
 | leaf (k:VK)
 | agg (ks:List VK)
def leavesEx:List VK→(List Value→Prop)→Prop
 | [],φ=>φ []
 | k :: ks,φ=>k.ex fun v=>leavesEx ks fun vs=>φ (v :: vs)
def RK.ex:RK→(Value→Prop)→Prop
 | .leaf k,φ=>k.ex φ
 | .agg ks,φ=>leavesEx ks fun vs=>φ (.agg vs.toArray)
def ressEx:List RK→(List Value→Prop)→Prop
 | [],φ=>φ []
 | k :: ks,φ=>k.ex fun v=>ressEx ks fun vs=>φ (v :: vs)
def resEx:List RK→(Value→Prop)→Prop
 | [],φ=>φ (.tuple #[])
 | [k],φ=>k.ex φ
 | ks,φ=>ressEx ks fun vs=>φ (.tuple vs.toArray)
theorem leavesEx_some:∀ {ks:List VK} {φ:List Value→Prop},leavesEx ks φ→∃ v,φ v
 | [],_,h=>⟨_,h⟩
 | k :: ks,_,h=>by
  obtain ⟨v,h⟩:=VK.ex_some (k:=k) h
  obtain ⟨vs,h⟩:=leavesEx_some h
  exact ⟨_,h⟩
theorem RK.ex_some {k:RK} {φ:Value→Prop} (h:k.ex φ):∃ v,φ v:=by
 cases k with
 | leaf k=>exact VK.ex_some h
 | agg ks=>obtain ⟨vs,h⟩:=leavesEx_some h; exact ⟨_,h⟩
theorem ressEx_some:∀ {ks:List RK} {φ:List Value→Prop},ressEx ks φ→∃ v,φ v
 | [],_,h=>⟨_,h⟩
 | k :: ks,_,h=>by
  obtain ⟨v,h⟩:=RK.ex_some (k:=k) h
  obtain ⟨vs,h⟩:=ressEx_some h
  exact ⟨_,h⟩
theorem resEx_some {ks:List RK} {φ:Value→Prop} (h:resEx ks φ):∃ v,φ v:=by
 unfold resEx at h
 split at h
 ·exact ⟨_,h⟩
 ·exact RK.ex_some h
 ·obtain ⟨vs,h⟩:=ressEx_some h; exact ⟨_,h⟩

/-- What the evaluator goes by: kinds are hints and owe nothing. -/
structure Tab where
 tk:TypeId→List VK
 rk:FuncId→List RK
 quiet:FuncId→Bool
 callee:FuncId→Bool
 meth:String→Option (TypeId × FuncId)
 ext:FuncId→Bool:=fun _=>false
 rt:TypeId→List RK:=fun _=>[]
 ent:String→List RK:=fun _=>[]

def Callable (P:Program) (f:FuncId):Prop:=∀ (args:Array Value) (w:World),(callFunc f args).run P w=.ok (.enter f args) w
structure TabOk (P:Program) (T:Tab):Prop where
 callee:∀ f,T.callee f=true→Callable P f
 meth:∀ m t f,T.meth m=some (t,f)→∀ (a:Option Addr) (args:Array Value) (w:World),
  (callMethod (.iface t (.pointer a)) m args).run P w=.ok (.enter f (#[.pointer a] ++ args)) w
 ahead:∀ m t f,T.meth m=some (t,f)→∀ (a:Addr) (w:World),(nilAhead (P.types.size + Made.depth) t (.pointer (some a)) m).run P w=.ok (some false) w

/-- As evPure; and a method value's nil check. -/
def evPureM (P:Program) (T:Tab) (o:Oper) (env:List Value) (K:Value→Prop):Prop :=
 match o.op with
 | .nilCheck x =>
  match evalL env x with
  | .func (.method m) first captured =>
   match T.meth m,first.toList with
   | some (t,_),[r]=>∃ a:Addr,r=.iface t (.pointer (some a))∧K (.func (.method m) first captured)
   | _,_=>False
  | _=>evPure P o env K
 | _=>evPure P o env K
/-- A call of a function without a body that answers at once and leaves all as it is. -/
def ExtTo (P:Program) (f:FuncId) (args:Array Value) (h:Hp) (v:Value):Prop:=∀ w:World,w.heap=h→(callFunc f args).run P w=.ok (.value v) w
def callEv (P:Program) (T:Tab) (f:FuncId) (args:Array Value) (h:Hp) (K:Value→Hp→Prop):Prop :=
 Cond (T.callee f) (CallTo P f args h fun v h'=>resEx (T.rk f) fun u=>v=u∧K u h') (Cond (T.ext f) (resEx (T.rk f) fun u=>ExtTo P f args h u∧K u h) False)
def ofNext (K:Value→Hp→Prop):Next→List VK→Hp→Prop
 | .value v,_,h=>K v h
 | .skip,_,h=>K undef h
 | _,_,_=>False
def clrO (z:Array Value) (a:Option Addr) (n:Nat) (h:Hp) (K:Hp→Prop):Prop :=
 match a with
 | none=>K h
 | some b=>stsOk h b (zrow z (n * z.size)).toList 0∧K (setcs h b (zrow z (n * z.size)).toList 0)
def clearEv (P:Program) (t:TypeId) (x:Value) (h:Hp) (K:Value→Hp→Prop):Prop :=
 match P.underlying t,x with
 | some (.slice e),.slice a n _ =>
  match zeroOf P e with
  | some z=>clrO z a n h fun h'=>K (.tuple #[]) h'
  | none=>False
 | _,_=>False
def rk1 (T:Tab) (t:TypeId) (φ:Value→Prop):Prop:=match T.rt t with | [k]=>k.ex φ | _=>False
def lookEv (P:Program) (T:Tab) (xt:TypeId) (x key:Value) (co:Bool) (h:Hp) (K:Value→Hp→Prop):Prop :=
 match P.underlying xt with
 | some (.map kt et)=>rk1 T et fun v=>∃ ok:Bool,MapGet P kt et x key h v ok∧K (if co then .tuple #[v,.bool ok] else v) h
 | _=>False
def updEv (P:Program) (t:TypeId) (m k v:Value) (h:Hp) (K:Value→Hp→Prop):Prop:=match P.underlying t with | some (.map kt _)=>MapPut P kt m k v h fun h'=>K undef h' | _=>False
def rangeEv (P:Program) (t:TypeId) (x:Value) (h:Hp) (K:Value→Hp→Prop):Prop:=match P.underlying t with | some (.map _ _)=>MapRange x h fun h'=>K (.pointer (some ⟨h.size,0,none⟩)) h' | _=>False
def nextEv (s:Bool) (it:Value) (h:Hp) (K:Value→Hp→Prop):Prop :=
 match s with
 | false=>MapNext it h (K (.tuple #[.bool false]) h) fun a b h'=>K (.tuple #[.bool true,a,b]) h'
 | true=>False
def entryEv (T:Tab) (pos:String) (it:Value) (h:Hp) (K:Value→Hp→Prop):Prop :=
 match T.ent pos with
 | [kk,kv]=>kk.ex fun a=>kv.ex fun b=>MapEnt it h a b∧K (.tuple #[a,b]) h
 | _=>False
def delEv (P:Program) (t:TypeId) (m k:Value) (h:Hp) (K:Value→Hp→Prop):Prop:=match P.underlying t with | some (.map kt _)=>MapDel P kt m k h fun h'=>K (.tuple #[]) h' | _=>False
def grabEv (P:Program) (T:Tab) (t:TypeId) (m k:Value) (h:Hp) (K:Value→Hp→Prop):Prop :=
 match P.underlying t with | some (.map kt et)=>MapGrab P kt et m k h fun a b h'=>rk1 T et fun v=>a=v∧K (.tuple #[v,.int .i64 b]) h' | _=>False
def layEv (m s v:Value) (h:Hp) (K:Value→Hp→Prop):Prop:=match s with | .int _ n=>MapLay m n v h fun h'=>K undef h' | _=>False
def dynEv (P:Program) (T:Tab) (ty:TypeId) (v:Value) (args:List Value) (h:Hp) (K:Value→Hp→Prop):Prop:=Dyn P v args h fun r h'=>resEx (T.rt ty) fun u=>r=u∧K u h'
def isTmp:Operand→Bool
 | .tmp _=>true
 | _=>false
def builtinEv (P:Program) (o:Oper) (b:Builtin) (argTypes:Array TypeId) (args:List Value) (env:List Value) (h:Hp) (K:Value→Hp→Prop):Prop :=
 match b,args with
 | .append,[s,x]=>match argTypes[0]?,argTypes[1]? with
  | some st,some xt=>appendEv P st xt s x h K
  | _,_=>False
 | .copy,[d,s]=>match argTypes[0]? with
  | some dt=>copyEv P dt d s h K
  | none=>False
 | .clear,[x]=>match argTypes[0]? with
  | some t=>match x with
   | .slice _ _ _=>clearEv P t x h K
   | _=>evSem P (execOp (evalL env) o) [] h (ofNext K)
  | none=>False
 | .len,[x]=>match x with
  | .map _=>rdSem P (execOp (evalL env) o) [] h fun nx vs=>ofNext K nx vs h
  | _=>evPure P o env fun v=>K v h
 | .delete,[m,k]=>match argTypes[0]? with
  | some t=>delEv P t m k h K
  | none=>False
 | .cap,_=>evPure P o env fun v=>K v h
 | .min,_=>evPure P o env fun v=>K v h
 | .max,_=>evPure P o env fun v=>K v h
 | _,_=>evSem P (execOp (evalL env) o) [] h (ofNext K)
/-- A load of so many cells that the value is kept whole. -/
def Great (h:Hp) (a:Addr) (n:Nat) (v:Value):Prop:=∃ l:List Value,l.length=n∧Reads h a l∧v=.agg l.toArray
def loadEv (P:Program) (T:Tab) (o:Oper) (t:TypeId) (a:Value) (env:List Value) (h:Hp) (K:Value→Hp→Prop):Prop :=
 match T.tk t with
 | []=>match P.underlying t with
  | some (.array _ _)=>match a with
   | .pointer (some b)=>Cond (P.info? t).isSome (∃ v,Great h b (szOf P t) v∧K v h) False
   | _=>False
  | _=>rdSem P (execOp (evalL env) o) [] h fun nx vs=>ofNext K nx vs h
 | k :: ks=>rdSem P (execOp (evalL env) o) (k :: ks) h fun nx vs=>ofNext K nx vs h
/-- A block told to hold a text. -/
def markH (h:Hp) (b:Nat):Hp:=h.modify b fun
 | .cells c e (lo,hi)=>.cells c e (if lo == hi then (c.size,c.size + 1) else (min lo c.size,max hi (c.size + 1)))
 | o=>o
/-- What n bytes from a place on spell. -/
def Spells (h:Hp) (a:Option Addr) (n:Nat) (s:ByteArray):Prop:=s.size=n∧ReadsO h a (s.data.toList.map fun b=>.int .u8 b.toNat)
def convEv (P:Program) (T:Tab) (o:Oper) (src dst:TypeId) (x:Value) (env:List Value) (h:Hp) (K:Value→Hp→Prop):Prop :=
 match x with
 | .slice a n _=>match P.underlying src,P.underlying dst with
  | some (.slice e),some .string=>match P.underlying e with
   | some (.int .u8)=>∃ s:ByteArray,Spells h a n s∧K (.string s) h
   | _=>False
  | some (.slice _),some (.slice e)=>match P.underlying e with
   | some (.int .u8)=>Cond (src == dst) (PtrOk a fun p=>K x (markH h p.block)) False
   | _=>False
  | _,_=>False
 | .string s=>match P.underlying src,P.underlying dst with
  | some _,some (.slice e)=>match P.underlying e with
   | some (.int .u8)=>s.size < 2 ^ 62∧∀ nc,s.size ≤ nc→nc < 2 ^ 63→K (.slice (some ⟨h.size,0,none⟩) s.size nc)
     (h.push (.cells ((s.data.map fun b=>Value.int .u8 b.toNat) ++ Array.replicate (nc - s.size) (.int .u8 0)) e (nc,nc + 1)))
   | _=>False
  | _,_=>evPureM P T o env fun v=>K v h
 | _=>evPureM P T o env fun v=>K v h
def evOp (P:Program) (T:Tab) (o:Oper) (env:List Value) (h:Hp) (K:Value→Hp→Prop):Prop :=
 match o.op with
 | .load t a=>loadEv P T o t (evalL env a) env h K
 | .convert src dst x=>convEv P T o src dst (evalL env x) env h K
 | .store ..=>evSem P (execOp (evalL env) o) [] h (ofNext K)
 | .alloc _=>evSem P (execOp (evalL env) o) [] h (ofNext K)
 | .box ..=>evSem P (execOp (evalL env) o) [] h (ofNext K)
 | .buildSlice ..=>evSem P (execOp (evalL env) o) [] h (ofNext K)
 | .makeMap ..=>evSem P (execOp (evalL env) o) [] h (ofNext K)
 | .makeSlice t l c=>makeEv P t (evalL env l) (evalL env c) h K
 | .lookup t x k co=>lookEv P T t (evalL env x) (evalL env k) co h K
 | .mapUpdate t m k v=>updEv P t (evalL env m) (evalL env k) (evalL env v) h K
 | .mapEntry t m k=>grabEv P T t (evalL env m) (evalL env k) h K
 | .entryStore _ m s v=>layEv (evalL env m) (evalL env s) (evalL env v) h K
 | .range t x=>rangeEv P t (evalL env x) h K
 | .next it s=>nextEv s (evalL env it) h K
 | .entry it=>entryEv T o.pos (evalL env it) h K
 | .call c =>
  match c.callee with
  | .value f =>
   if isTmp f=true then dynEv P T o.type (evalL env f) (c.args.toList.map (evalL env)) h K else
   match evalL env f with
   | .func (.func g) first captured=>callEv P T g ((first.toList ++ c.args.toList.map (evalL env) ++ captured.toList).toArray) h K
   | _=>False
  | .invoke r m =>
   match T.meth m with
   | some (t,f)=>∃ a:Option Addr,evalL env r=.iface t (.pointer a)∧CallTo P f ((.pointer a :: c.args.toList.map (evalL env)).toArray) h fun v h'=>resEx (T.rk f) fun u=>v=u∧K u h'
   | none=>False
  | .builtin b=>builtinEv P o b c.argTypes (c.args.toList.map (evalL env)) env h K
 | _=>evPureM P T o env fun v=>K v h

/-- What soundness of one operation is: it goes on with a value, or calls. -/
def OpOk (P:Program) (o:Oper) (env:List Value) (w:World) (K:Value→Hp→Prop):Prop :=
 (∃ v w',((execOp (evalL env) o).run P w=.ok (.value v) w' ∨ ((execOp (evalL env) o).run P w=.ok .skip w'∧v=undef))∧Same w w'∧K v w'.heap) ∨
 (∃ f args,(execOp (evalL env) o).run P w=.ok (.enter f args) w∧CallTo P f args w.heap K)

section
variable {P:Program}
theorem ofNext_ok {o:Oper} {env:List Value} {w:World} {K:Value→Hp→Prop} {nx:Next} {vs:List VK} {w':World}
  (hr:(execOp (evalL env) o).run P w=.ok nx w') (hs:Same w w') (hk:ofNext K nx vs w'.heap):OpOk P o env w K:=by
 cases nx <;> first | exact hk.elim | skip
 ·exact .inl ⟨_,w',.inl hr,hs,hk⟩
 ·exact .inl ⟨_,w',.inr ⟨hr,rfl⟩,hs,hk⟩
theorem opOk_evSem {o:Oper} {env:List Value} {w:World} {K:Value→Hp→Prop} {vs:List VK} (h:evSem P (execOp (evalL env) o) vs w.heap (ofNext K)):OpOk P o env w K:=by
 obtain ⟨nx,vs',w',hr,hs,hk⟩:=evSem_sound _ _ _ _ h
 exact ofNext_ok hr hs hk
theorem opOk_rdSem {o:Oper} {env:List Value} {w:World} {K:Value→Hp→Prop} {vs:List VK} (h:rdSem P (execOp (evalL env) o) vs w.heap fun nx vs=>ofNext K nx vs w.heap):OpOk P o env w K:=by
 obtain ⟨nx,vs',hr,hk⟩:=rdSem_sound _ _ _ _ h
 exact ofNext_ok hr (Same.refl _) hk
theorem opOk_evPure {o:Oper} {env:List Value} {w:World} {K:Value→Hp→Prop} (h:evPure P o env fun v=>K v w.heap):OpOk P o env w K:=by
 obtain ⟨v,hv,hk⟩:=evPure_sound h
 exact .inl ⟨v,w,.inl (hv w),Same.refl _,hk⟩
theorem evPureM_sound {T:Tab} (hT:TabOk P T) {o:Oper} {env:List Value} {K:Value→Prop} (h:evPureM P T o env K):∃ v,YieldsAll P o env v∧K v:=by
 unfold evPureM at h
 split at h
 ·rename_i x hop
  split at h
  ·rename_i m first captured hx
   split at h
   ·rename_i t f r hm hf
    obtain ⟨a,rfl,hk⟩:=h
    refine ⟨_,fun w=>?_,hk⟩
    have hf0:first[0]?=some (Value.iface t (.pointer (some a))):=by
     rw [← Array.getElem?_toList,hf]; rfl
    have ha:=hT.ahead m t _ hm a w
    simp only [execOp,hop,hx,hf0,run_bind,run_program,ha]
    rfl
   ·exact h.elim
  ·exact evPure_sound h
 ·exact evPure_sound h
theorem opOk_evPureM {T:Tab} (hT:TabOk P T) {o:Oper} {env:List Value} {w:World} {K:Value→Hp→Prop} (h:evPureM P T o env fun v=>K v w.heap):OpOk P o env w K:=by
 obtain ⟨v,hv,hk⟩:=evPureM_sound hT h
 exact .inl ⟨v,w,.inl (hv w),Same.refl _,hk⟩
theorem opOk_val {o:Oper} {env:List Value} {w w':World} {v:Value} {K:Value→Hp→Prop} (hr:(execOp (evalL env) o).run P w=.ok (.value v) w') (hs:Same w w') (hk:K v w'.heap):OpOk P o env w K :=
 .inl ⟨v,w',.inl hr,hs,hk⟩
theorem args_toList {α:Type} (f:Operand→α) (args:Array Operand):args.map f=(args.toList.map f).toArray:=by
 apply Array.ext'
 simp
theorem run_storeZ (a:Addr) (z:Array Value) (n:Nat) {w:World} (h:stsOk w.heap a (zrow z (n * z.size)).toList 0) :
  ∃ w',(storeCells a (Builtin.zeroCells z n).toList).run P w=.ok () w'∧Same w w'∧w'.heap=setcs w.heap a (zrow z (n * z.size)).toList 0 :=
 run_storeCells a _ 0 w h
theorem run_builtin {o:Oper} {c:Call} {b:Builtin} {env:List Value} {w:World} (ho:o.op=.call c) (hb:c.callee=.builtin b) :
  ∃ consts,(execOp (evalL env) o).run P w=(builtin b c.argTypes o.type consts (c.args.toList.map (evalL env)).toArray).run P w:=by
 obtain ⟨consts,hc⟩:∃ consts,resolve (evalL env) c o.type=Pure.pure { target:=.builtin b c.argTypes o.type consts,args:=c.args.map (evalL env) }:=by
  unfold resolve
  rw [hb]
  exact ⟨_,rfl⟩
 refine ⟨consts,?_⟩
 simp only [execOp,ho,run_bind,hc,run_pure,invoke,args_toList (evalL env)]
theorem builtinEv_sound {o:Oper} {c:Call} {b:Builtin} {env:List Value} {w:World} {K:Value→Hp→Prop} (ho:o.op=.call c) (hb:c.callee=.builtin b)
  (h:builtinEv P o b c.argTypes (c.args.toList.map (evalL env)) env w.heap K):OpOk P o env w K:=by
 unfold builtinEv at h
 obtain ⟨consts,hrun⟩:=run_builtin (P:=P) (env:=env) (w:=w) ho hb
 split at h
 ·rename_i s x hargs
  split at h
  ·rename_i st xt h0 h1
   obtain ⟨v,w',hr,hs,hk⟩:=append_sound (ty:=o.type) h0 h1 h
   refine opOk_val ?_ hs hk
   rw [hrun,hargs]
   simp only [builtin,run_bind,hr,run_pure]
  ·exact h.elim
 ·rename_i d s hargs
  split at h
  ·rename_i dt h0
   obtain ⟨v,w',hr,hs,hk⟩:=copy_sound (ty:=o.type) h0 h
   refine opOk_val ?_ hs hk
   rw [hrun,hargs]
   simp only [builtin,run_bind,hr,run_pure]
  ·exact h.elim
 ·rename_i x hargs
  split at h
  ·rename_i t h0
   split at h
   ·unfold clearEv at h
    split at h
    ·rename_i e a n c' ht heq
     rw [heq] at hargs
     split at h
     ·rename_i z hz
      obtain ⟨i,v,hi,hv,rfl⟩:=zeroOf_some hz
      have g0:(#[Value.slice a n c']:Array Value)[0]?=some (Value.slice a n c'):=rfl
      cases a with
      | none =>
       refine opOk_val (v:=.tuple #[]) (w':=w) ?_ (Same.refl _) h
       rw [hrun,hargs]
       simp only [builtin,run_bind,Builtin.clear_,h0,g0,run_underlying ht]
       rfl
      | some a =>
       obtain ⟨h1,h2⟩:=h
       obtain ⟨w',hr,hs,hh⟩:=run_storeZ (P:=P) a v.cells n h1
       refine opOk_val (v:=.tuple #[]) (w':=w') ?_ hs (by rw [hh]; exact h2)
       rw [hrun,hargs]
       simp only [builtin,run_bind,Builtin.clear_,h0,g0,run_underlying ht]
       cases n with
       | zero =>
        have hh':w'.heap=w.heap:=by rw [hh]; simp [zrow,setcs]
        simp [Builtin.zeroCells,storeCells,run_pure] at hr
        rw [hr]
        rfl
       | succ n=>simp only [run_bind,run_zeroValue hi hv,hr,run_pure]
     ·exact h.elim
    ·exact h.elim
   ·exact opOk_evSem h
  ·exact h.elim
 ·split at h
  ·exact opOk_rdSem h
  ·exact opOk_evPure h
 ·rename_i m k hargs
  split at h
  ·rename_i t h0
   unfold delEv at h
   split at h
   ·rename_i kt et ht
    obtain ⟨w',hr,hs,hk⟩:=run_delete (ty:=o.type) h0 ht h
    refine opOk_val ?_ hs hk
    rw [hrun,hargs]
    simp only [builtin,run_bind,hr,run_pure]
   ·exact h.elim
  ·exact h.elim
 ·exact opOk_evPure h
 ·exact opOk_evPure h
 ·exact opOk_evPure h
 ·exact opOk_evSem h
theorem modify_push {α:Type} (a:Array α) (o:α) (f:α→α):(a.push o).modify a.size f=a.push (f o):=by
 apply Array.ext
 ·simp
 ·intro i h1 h2
  rw [Array.getElem_modify,Array.getElem_push,Array.getElem_push]
  have h3:i < a.size + 1:=by simpa using h2
  by_cases hi:i < a.size
  ·rw [if_neg (by omega)]; simp [hi]
  ·rw [if_pos (by omega)]; simp [hi]
theorem foldl_push (l:List UInt8):∀ s:ByteArray,((l.map fun b=>(b.toNat:Int)).foldl (fun r n=>r.push (UInt8.ofNat n.toNat)) s)=⟨s.data ++ l.toArray⟩:=by
 induction l with
 | nil=>intro s; simp
 | cons b l ih =>
  intro s
  simp only [List.map_cons,List.foldl_cons]
  rw [ih]
  congr 1
  simp [ByteArray.push]
theorem convEv_sound {T:Tab} (hT:TabOk P T) {o:Oper} {src dst:TypeId} {x:Operand} {env:List Value} {w:World} {K:Value→Hp→Prop} (hop:o.op=.convert src dst x)
  (h:convEv P T o src dst (evalL env x) env w.heap K):OpOk P o env w K:=by
 unfold convEv at h
 split at h
 ·rename_i a n c hx
  split at h
  ·rename_i e hs hd
   split at h
   ·rename_i he
    obtain ⟨s,⟨hn,hr⟩,hk⟩:=h
    refine opOk_val (v:=.string s) (w':=w) ?_ (Same.refl _) hk
    simp only [execOp,hop,hx,run_bind,Go.run_convert_bytes_string w src dst e a n c hs he hd]
    cases a with
    | none =>
     have h0:s.data.toList=[]:=List.map_eq_nil_iff.1 hr
     have:s=ByteArray.empty:=by
      cases s with
      | mk d=>simp only [Array.toList_eq_nil_iff] at h0; subst h0; rfl
     subst this
     rfl
    | some a =>
     have hl:(s.data.toList.map fun b=>Value.int .u8 b.toNat).length=n:=by simp [← hn]
     have h1:=run_loadCells (P:=P) hr hl
     have e1:(s.data.toList.map fun b=>Value.int .u8 b.toNat)=(s.data.toList.map fun b=>(b.toNat:Int)).map (Value.int .u8):=by simp
     rw [e1] at h1
     rw [Go.run_bytesToString w a n c _ h1,foldl_push]
     simp only [run_pure]
     congr 3
     cases s
     simp
   ·exact h.elim
  ·rename_i e0 e hs hd
   split at h
   ·rename_i he
    obtain ⟨hsd,h⟩:=Cond_true' h
    cases a with
    | none=>exact h.elim
    | some p =>
     rw [hx] at h
     have h:K (.slice (some p) n c) (markH w.heap p.block):=h
     refine opOk_val (v:=.slice (some p) n c) (w':={ w with heap:=markH w.heap p.block }) ?_ ⟨rfl,rfl,rfl⟩ h
     have hconv:(convert src dst (.slice (some p) n c)).run P w=(do markStringish p; Pure.pure (Value.slice (some p) n c):Sem Value).run P w:=by
      unfold convert
      simp only [run_bind,run_underlying hs,run_underlying hd]
      simp only [run_bind,run_underlying he,hsd]
     have hmk:(markStringish p).run P w=.ok () { w with heap:=markH w.heap p.block }:=by
      unfold markStringish
      rw [run_bind]
      simp only [Go.shape,Sem.run]
      cases hb:w.heap[p.block]? with
      | none =>
       have:w.shape? p.block=none:=by unfold World.shape?; rw [hb]
       simp only [this,run_pure]
       congr 1
       have:markH w.heap p.block=w.heap:=by
        unfold markH
        apply Array.ext_getElem?
        intro i
        rw [Array.getElem?_modify]
        split
        ·rename_i e; subst e; rw [hb]; rfl
        ·rfl
       rw [this]
      | some ob =>
       cases ob with
       | cells cs el fr =>
        have:w.shape? p.block=some (el,cs.size):=by unfold World.shape?; rw [hb]
        simp only [this,freeze,Sem.run]
        have hq:(w.heap.modify p.block fun x=>match x with
          | Obj.cells c elem (lo,hi)=>Obj.cells c elem (if lo == hi then (cs.size,cs.size + 1) else (min lo cs.size,max hi (cs.size + 1)))
          | o=>o)=markH w.heap p.block:=by
         unfold markH
         apply Array.ext_getElem?
         intro i
         rw [Array.getElem?_modify,Array.getElem?_modify]
         split
         ·rename_i e; subst e; rw [hb]; rfl
         ·rfl
        rw [← hq]
        rfl
       | _ =>
        have:w.shape? p.block=none:=by unfold World.shape?; rw [hb]
        simp only [this,run_pure]
        congr 1
        have:markH w.heap p.block=w.heap:=by
         unfold markH
         apply Array.ext_getElem?
         intro i
         rw [Array.getElem?_modify]
         split
         ·rename_i e; subst e; rw [hb]; rfl
         ·rfl
        rw [this]
     simp only [execOp,hop,hx,run_bind,hconv,hmk,run_pure]
   ·exact h.elim
  ·exact h.elim
 ·rename_i s hx
  split at h
  ·rename_i d0 e hsrc hd
   split at h
   ·rename_i he
    obtain ⟨hs,h⟩:=h
    have hs:s.size < 4611686018427387904:=hs
    generalize hnc:(Question.appendCap s.size 0 e).cut (w.tape w.drawn (Question.appendCap s.size 0 e))=nc
    have hnc1:s.size ≤ nc∧nc < 2 ^ 63:=by
     rw [← hnc]
     simp only [Question.cut]
     have:=Nat.mod_lt (w.tape w.drawn (Question.appendCap s.size 0 e)) (show 0 < 2 ^ 63 - s.size by omega)
     omega
    have hsz:((s.data.map fun b=>Value.int .u8 b.toNat) ++ Array.replicate (nc - s.size) (Value.int .u8 0)).size=nc:=by
     simp only [Array.size_append,Array.size_map,Array.size_replicate]
     have:s.data.size=s.size:=rfl
     omega
    refine opOk_val (v:=.slice (some ⟨w.heap.size,0,none⟩) s.size nc)
     (w':={ w with drawn:=w.drawn + 1,heap:=w.heap.push (.cells ((s.data.map fun b=>Value.int .u8 b.toNat) ++ Array.replicate (nc - s.size) (.int .u8 0)) e (nc,nc + 1)) })
     ?_ ⟨rfl,rfl,rfl⟩ (h nc hnc1.1 hnc1.2)
    simp only [execOp,hop,hx,run_bind]
    have hconv:∀ w',(convert src dst (.string s)).run P w'=(Conv.stringToBytes e s).run P w':=by
     intro w'
     unfold convert
     simp only [run_bind,run_underlying hsrc,run_underlying hd]
     simp only [run_bind,run_underlying he]
    rw [hconv]
    unfold Conv.stringToBytes
    simp only [run_bind,run_choose (P:=P) (q:=.appendCap s.size 0 e) rfl,hnc,run_newRow]
    generalize hX:((s.data.map fun b=>Value.int .u8 b.toNat) ++ Array.replicate (nc - s.size) (Value.int .u8 0))=X at hsz ⊢
    subst hsz
    have hsh:({ w with heap:=w.heap.push (Obj.cells X e),drawn:=w.drawn + 1 }:World).shape? w.heap.size=some (e,X.size):=by
     simp [World.shape?]
    have hmk:(markStringish ⟨w.heap.size,0,none⟩).run P { w with heap:=w.heap.push (Obj.cells X e),drawn:=w.drawn + 1 }=.ok () { w with heap:=w.heap.push (Obj.cells X e (X.size,X.size + 1)),drawn:=w.drawn + 1 }:=by
     unfold markStringish
     rw [run_bind]
     simp only [Go.shape,Sem.run,hsh,freeze]
     simp only [World.freeze,run_pure,Sem.run,Nat.succ_ne_zero,if_false,modify_push]
     simp
    simp only [hmk,run_pure]
   ·exact h.elim
  ·exact opOk_evPureM hT h
 ·exact opOk_evPureM hT h
theorem loadEv_sound {T:Tab} {o:Oper} {t:TypeId} {x:Operand} {env:List Value} {w:World} {K:Value→Hp→Prop} (hop:o.op=.load t x)
  (h:loadEv P T o t (evalL env x) env w.heap K):OpOk P o env w K:=by
 unfold loadEv at h
 split at h
 ·split at h
  ·rename_i n e ht
   split at h
   ·rename_i b hx
    obtain ⟨hi,v,⟨l,hl,hr,rfl⟩,hk⟩:=Cond_true' h
    refine opOk_val (v:=.agg l.toArray) (w':=w) ?_ (Same.refl _) hk
    simp only [execOp,hop,hx,Instr.loadAt,Instr.sureAddr,run_bind,run_pure,loadVar,Go.isAgg,run_underlying ht,if_true,run_sizeOf hi,run_loadCells (P:=P) hr hl]
   ·exact h.elim
  ·exact opOk_rdSem h
 ·exact opOk_rdSem h
theorem evOp_sound {T:Tab} (hT:TabOk P T) {o:Oper} {env:List Value} {w:World} {K:Value→Hp→Prop} (h:evOp P T o env w.heap K):OpOk P o env w K:=by
 unfold evOp at h
 split at h
 ·rename_i t a hop; exact loadEv_sound hop h
 ·rename_i s d x hop; exact convEv_sound hT hop h
 ·exact opOk_evSem h
 ·exact opOk_evSem h
 ·exact opOk_evSem h
 ·exact opOk_evSem h
 ·exact opOk_evSem h
 ·rename_i t l c hop
  obtain ⟨v,w',hr,hs,hk⟩:=makeEv_sound h
  refine opOk_val ?_ hs hk
  simp only [execOp,hop,run_bind,hr,run_pure]
 ·rename_i t x k co hop
  unfold lookEv at h
  split at h
  ·rename_i kt et ht
   unfold rk1 at h
   split at h
   ·rename_i rk hrk
    obtain ⟨v,ok,hg,hk⟩:=RK.ex_some h
    refine opOk_val ?_ (Same.refl _) hk
    simp only [execOp,hop,run_bind,run_lookup ht hg,run_pure]
   ·exact h.elim
  ·exact h.elim
 ·rename_i t m k v hop
  unfold updEv at h
  split at h
  ·rename_i kt et ht
   obtain ⟨w',hr,hs,hk⟩:=run_mapUpdate ht h
   refine .inl ⟨undef,w',.inr ⟨?_,rfl⟩,hs,hk⟩
   simp only [execOp,hop,run_bind,hr,run_pure]
  ·exact h.elim
 ·rename_i t m k hop
  unfold grabEv at h
  split at h
  ·rename_i kt et ht
   obtain ⟨a,b,w',hr,hs,hk⟩:=run_mapEntry ht h
   unfold rk1 at hk
   split at hk
   ·obtain ⟨v,rfl,hk⟩:=RK.ex_some hk
    refine opOk_val ?_ hs hk
    simp only [execOp,hop,run_bind,hr,run_pure]
   ·exact hk.elim
  ·exact h.elim
 ·rename_i t m s v hop
  unfold layEv at h
  split at h
  ·rename_i kd n hs0
   obtain ⟨w',hr,hs,hk⟩:=run_entryStore (P:=P) (mt:=t) (kd:=kd) h
   refine .inl ⟨undef,w',.inr ⟨?_,rfl⟩,hs,hk⟩
   simp only [execOp,hop,hs0,run_bind,hr,run_pure]
  ·exact h.elim
 ·rename_i t x hop
  unfold rangeEv at h
  split at h
  ·rename_i kt et ht
   obtain ⟨w',hr,hs,hk⟩:=run_range ht h
   refine opOk_val ?_ hs hk
   simp only [execOp,hop,run_bind,hr,run_pure]
  ·exact h.elim
 ·rename_i it s hop
  unfold nextEv at h
  split at h
  ·rcases run_next (P:=P) (ty:=o.type) h with ⟨hr,hk⟩ | ⟨k,v,w',hr,hs,hk⟩
   ·refine opOk_val ?_ (Same.refl _) hk
    simp only [execOp,hop,run_bind,hr,run_pure]
   ·refine opOk_val ?_ hs hk
    simp only [execOp,hop,run_bind,hr,run_pure]
  ·exact h.elim
 ·rename_i it hop
  unfold entryEv at h
  split at h
  ·obtain ⟨a,h⟩:=RK.ex_some h
   obtain ⟨b,he,hk⟩:=RK.ex_some h
   refine opOk_val ?_ (Same.refl _) hk
   simp only [execOp,hop,run_bind,run_entry he,run_pure]
  ·exact h.elim
 ·rename_i c hop
  split at h
  ·rename_i f hf
   split at h
   ·rename_i htmp
    obtain ⟨g,first,captured,hv,hg,hcall⟩:=h
    have ha:first ++ c.args.map (evalL env) ++ captured=(first.toList ++ c.args.toList.map (evalL env) ++ captured.toList).toArray:=by
     apply Array.ext'
     simp
    refine .inr ⟨g,_,?_,hcall.mono fun v h' hv=>?_⟩
    ·simp only [execOp,hop,run_bind,resolve,hf,hv,Deferred.ofValue,run_pure,invoke]
     rw [ha,hg]
    ·obtain ⟨u,rfl,hk⟩:=resEx_some hv
     exact hk
   split at h
   ·rename_i g first captured hv
    have ha:first ++ c.args.map (evalL env) ++ captured=(first.toList ++ c.args.toList.map (evalL env) ++ captured.toList).toArray:=by
     apply Array.ext'
     simp
    unfold callEv at h
    cases hc:T.callee g with
    | false =>
     rw [hc] at h
     obtain ⟨_,hcall⟩:=Cond_true' (show Cond (T.ext g) _ False from h)
     obtain ⟨u,hu,hk⟩:=resEx_some hcall
     refine opOk_val (v:=u) (w':=w) ?_ (Same.refl _) hk
     simp only [execOp,hop,run_bind,resolve,hf,hv,Deferred.ofValue,run_pure,invoke]
     rw [ha]
     exact hu w rfl
    | true =>
    rw [hc] at h
    have hcall:CallTo P g (first.toList ++ c.args.toList.map (evalL env) ++ captured.toList).toArray w.heap (fun v h'=>resEx (T.rk g) fun u=>v=u∧K u h'):=h
    refine .inr ⟨g,_,?_,hcall.mono fun v h' hv=>?_⟩
    ·have hg:=hT.callee g hc
     simp only [execOp,hop,run_bind,resolve,hf,hv,Deferred.ofValue,run_pure,invoke]
     rw [ha,hg]
    ·obtain ⟨u,rfl,hk⟩:=resEx_some hv
     exact hk
   ·exact h.elim
  ·rename_i r m hr
   split at h
   ·rename_i t f hm
    obtain ⟨a,ha,hcall⟩:=h
    refine .inr ⟨f,_,?_,hcall.mono fun v h' hv=>?_⟩
    ·have hg:=hT.meth m t f hm
     simp only [execOp,hop,run_bind,resolve,hr,ha,run_pure,invoke]
     have e0:(#[Value.iface t (.pointer a)] ++ c.args.map (evalL env))[0]?=some (Value.iface t (.pointer a)):=by
      rw [Array.getElem?_append_left (by simp)]
      rfl
     have ha':#[Value.pointer a] ++ (#[Value.iface t (.pointer a)] ++ c.args.map (evalL env)).extract 1 (#[Value.iface t (.pointer a)] ++ c.args.map (evalL env)).size=(.pointer a :: c.args.toList.map (evalL env)).toArray:=by
      apply Array.ext'
      simp [List.take_of_length_le]
     simp only [e0]
     rw [hg,ha']
    ·obtain ⟨u,rfl,hk⟩:=resEx_some hv
     exact hk
   ·exact h.elim
  ·rename_i b hb
   exact builtinEv_sound hop hb h
 ·exact opOk_evPureM hT h
end
end Go.Ev
set_option linter.all false
namespace Go.Ev

/-! ### A region whose order is drawn: what may be taken first, and what must stay as it was -/
structure Pend where
 i:Nat
 W:Nat→Bool
 S:Hp→Prop
def waits (o:Oper) (W:Nat→Bool):Bool:=o.after.any fun e=>Region.binds .any e && W e.on
def Pend.upd (p:Pend) (j:Nat) (o:Oper):Pend:=⟨p.i,fun k=>p.W k || (k == j && waits o p.W),p.S⟩
/-- Operation number j is taken ahead of its time: whoever waits for it waits for all that it waits for. -/
def hypL (ps:List Pend) (j:Nat) (o:Oper):List Pend:=ps.map fun p=>p.upd j o
/-- An operation has come up: what it waited for has come up too. -/
def runL (ps:List Pend) (o:Oper):List Pend:=ps.filter fun p=>!waits o p.W

def YS (P:Program) (ops:Array Oper) (w0:World) (S:Hp→Prop) (o:Oper) (v:Value) (a:Act):Prop :=
 (Region.wanted o (yielded ops a.tmps)=true∧∀ w,Same w0 w→S w.heap →
  ((execOp a.eval o).run P w=.ok (.value v) w ∨ ∃ f args,(execOp a.eval o).run P w=.ok (.enter f args) w ∧
   Calls P f args w fun e w'=>e=.returned v∧Same w w'∧w'.heap=w.heap)) ∨
 (Region.wanted o (yielded ops a.tmps)=false∧v=undef)

section
variable {P:Program} {ops:Array Oper} {Q:Exit→Act→World→Prop} {w0:World} {S:Hp→Prop}

theorem YS.of_same {o:Oper} {v:Value} {a a':Act} (hy:YS P ops w0 S o v a) (he:execOp a'.eval o=execOp a.eval o)
  (hw:Region.wanted o (yielded ops a'.tmps)=Region.wanted o (yielded ops a.tmps)):YS P ops w0 S o v a':=by
 unfold YS at *
 rw [he,hw]
 exact hy
theorem YS.wpOp {i:Nat} {o:Oper} {v:Value} {a:Act} {w:World} {K:Act→World→Prop} (hi:ops[i]?=some o) (hy:YS P ops w0 S o v a) (hs:Same w0 w) (hS:S w.heap)
  (hk:∀ w',Same w w'→w'.heap=w.heap→K (a.put o.dst v) w'):wpOp P ops Q i K a w:=by
 unfold Go.wpOp
 simp only [hi]
 rcases hy with ⟨hw,hv⟩ | ⟨hw,rfl⟩
 ·simp only [hw,if_true,Oper.wp]
  refine .inl ?_
  rcases hv w hs hS with h | ⟨f,args,h,hc⟩
  ·rw [h,Oper.upon_value]; exact hk w (Same.refl _) rfl
  ·rw [h,Oper.upon_enter]
   refine hc.mono fun e w' ⟨he,hs',hh⟩=>?_
   subst he
   exact hk w' hs' hh
 ·simp only [hw,Bool.false_eq_true,if_false]; exact hk w (Same.refl _) rfl
theorem wpOp_putS {j:Nat} {oi oj:Oper} {v:Value} (hj:ops[j]?=some oj) (hap:oi.apart ops oj=true)
  (hsi:∀ cs b,oi.op ≠ .select cs b) (hsj:∀ cs b,oj.op ≠ .select cs b)
  (hQ:∀ c a w,¬ Q (.panic c) a w) {K:Act→World→Prop} {a:Act} {w:World}
  (hy:YS P ops w0 S oi v a) (h:wpOp P ops Q j K (a.put oi.dst v) w) :
  wpOp P ops Q j (fun a' w'=>YS P ops w0 S oi v a'∧K (a'.put oi.dst v) w') a w:=by
 obtain ⟨h1,h2,h3⟩:=Oper.apart_spec hap
 have keep:∀ (a:Act),YS P ops w0 S oi v a→∀ u,YS P ops w0 S oi v (a.put oj.dst u):=fun a hy u =>
  hy.of_same (execOp_put oi hsi a oj.dst u h3) (wanted_put oi a oj.dst u h3)
 have keepD:∀ d,YS P ops w0 S oi v { a with defers:=d :: a.defers }:=fun d=>hy.of_same rfl rfl
 unfold Go.wpOp at *
 simp only [hj] at *
 rw [wanted_put oj a oi.dst v h1] at h
 split
 ·rename_i hw
  simp only [hw,if_true] at h
  rcases h with h | ⟨hasks,hlets⟩
  case inr=>exact .inr ⟨by unfold Oper.asks at *; rw [execOp_put oj hsj a oi.dst v h1] at hasks; exact hasks,hlets⟩
  refine .inl ?_
  unfold Oper.wp at *
  rw [execOp_put oj hsj a oi.dst v h1] at h
  generalize (execOp a.eval oj).run P w=r at *
  cases r with
  | ok n w' =>
   cases n <;> simp only [Oper.upon] at h ⊢
   case value u=>exact ⟨keep a hy u,by rw [← Act.put_comm a v u h2]; exact h⟩
   case skip=>exact ⟨keep a hy _,by rw [← Act.put_comm a v undef h2]; exact h⟩
   case defer d =>
    refine ⟨keep _ (keepD d) _,?_⟩
    rw [← Act.put_comm _ v undef h2,← Act.put_defers]
    exact h
   case enter f args =>
    refine Calls.mono h fun e w'' he=>?_
    cases e with
    | returned u=>exact ⟨keep a hy u,by rw [← Act.put_comm a v u h2]; exact he⟩
    | panicked c=>exact absurd he (hQ _ _ _)
    | outgrown=>exact he
   case row row args=>exact Rows.mono h fun u w'' he=>⟨keep a hy u,by rw [← Act.put_comm a v u h2]; exact he⟩
  | halt x w' =>
   cases x <;> simp only [Oper.upon] at h ⊢
   case panic u=>exact absurd h (hQ _ _ _)
 ·rename_i hw
  simp only [hw] at h
  exact ⟨keep a hy _,by rw [← Act.put_comm a v undef h2]; exact h⟩

def wpP (P:Program) (ops:Array Oper) (Q:Exit→Act→World→Prop) (w0:World):Nat→List Pend→Array Bool→Act→Hp→Prop
 | 0,_,listed,a,h=>Region.ready .any ops listed=[]∧∀ w,Same w0 w→w.heap=h→Q .normal a w
 | fuel + 1,ps,listed,a,h=>∀ w,Same w0 w→w.heap=h →
  (Region.ready .any ops listed=[]→Q .normal a w) ∧
  ∀ j o,j ∈ Region.ready .any ops listed→ops[j]?=some o →
   wpOp P ops Q j (fun a' w'=>Same w0 w'∧(∀ p ∈ runL ps o,p.S w'.heap)∧wpP P ops Q w0 fuel (runL ps o) (listed.setIfInBounds j true) a' w'.heap) a w

theorem wpAny_of_P:∀ (fuel:Nat) (ps:List Pend) (listed:Array Bool) (a:Act) (w:World),Same w0 w→wpP P ops Q w0 fuel ps listed a w.heap→wpAny P .any ops Q fuel listed a w
 | 0,_,_,_,w,hs,h=>⟨h.1,h.2 w hs rfl⟩
 | fuel + 1,_,listed,a,w,hs,h=>⟨(h w hs rfl).1,fun i hi=>by
   obtain ⟨_,o,ho,_⟩:=mem_ready.1 hi
   exact wpOp_mono (fun a' w' h'=>wpAny_of_P fuel _ _ a' w' h'.1 h'.2.2) ((h w hs rfl).2 i o hi ho)⟩
theorem runL_sub {ps ps':List Pend} {o:Oper} (h:∀ p ∈ ps,p ∈ ps'):∀ p ∈ runL ps o,p ∈ runL ps' o:=by
 intro p hp
 unfold runL at *
 rw [List.mem_filter] at *
 exact ⟨h p hp.1,hp.2⟩
theorem wpP_sub:∀ (fuel:Nat) (ps ps':List Pend) (listed:Array Bool) (a:Act) (h:Hp),(∀ p ∈ ps,p ∈ ps')→wpP P ops Q w0 fuel ps' listed a h→wpP P ops Q w0 fuel ps listed a h
 | 0,_,_,_,_,_,_,H=>H
 | fuel + 1,_,_,_,_,_,hsub,H=>fun w hs hw=>⟨(H w hs hw).1,fun j o hj ho =>
   wpOp_mono (fun a' _ h'=>⟨h'.1,fun p hp=>h'.2.1 p (runL_sub hsub p hp),wpP_sub fuel _ _ _ a' _ (runL_sub hsub) h'.2.2⟩) ((H w hs hw).2 j o hj ho)⟩

theorem waits_ext {j:Nat} {o:Oper} {listed:Array Bool} {i:Nat} (hj:j ∈ Region.ready .any ops listed) (ho:ops[j]?=some o) (hi:listed.getD i false=false) (W:Nat→Bool) (b:Bool) :
  waits o (fun k=>W k || (k == i && b))=waits o W:=by
 obtain ⟨_,o',ho',hall⟩:=mem_ready.1 hj
 rw [ho] at ho'
 obtain rfl:o=o':=by simpa using ho'
 unfold waits
 rw [Bool.eq_iff_iff]
 simp only [Array.any_eq_true',Bool.and_eq_true]
 constructor
 ·rintro ⟨e,he,hb,hw⟩
  refine ⟨e,he,hb,?_⟩
  simp only [Bool.or_eq_true,Bool.and_eq_true,beq_iff_eq] at hw
  rcases hw with hw | ⟨rfl,_⟩
  ·exact hw
  ·rw [hall e he hb] at hi; cases hi
 ·rintro ⟨e,he,hb,hw⟩
  exact ⟨e,he,hb,by simp [hw]⟩
theorem unlisted {i:Nat} {listed:Array Bool} (hi:i ∈ Region.ready .any ops listed):listed.getD i false=false:=by
 have h0:=(mem_ready.1 hi).1
 rcases Nat.lt_or_ge i listed.size with h' | h'
 ·simp [h'] at h0 ⊢; exact h0
 ·simp [Array.getElem?_eq_none h']
theorem run_in_hyp {ps:List Pend} {i:Nat} {o:Oper}:∀ p ∈ runL ps o,p ∈ hypL ps i o:=by
 intro p hp
 unfold runL at hp
 rw [List.mem_filter] at hp
 obtain ⟨hp,hw⟩:=hp
 refine List.mem_map.2 ⟨p,hp,?_⟩
 have hw':waits o p.W=false:=by simpa using hw
 unfold Pend.upd
 simp only [hw',Bool.and_false,Bool.or_false]

theorem wpP_first {i:Nat} {oi:Oper} {v:Value} (hi:ops[i]?=some oi) (hsel:∀ (j:Nat) (o:Oper) cs b,ops[j]?=some o→o.op ≠ .select cs b)
  (hQ:∀ c a w,¬ Q (.panic c) a w) :
  ∀ (fuel:Nat) (ps:List Pend) (listed:Array Bool) (a:Act) (h:Hp),
   (∀ j oj,ops[j]?=some oj→j ≠ i→listed.getD j true=false→(∀ e ∈ oj.after,Region.binds .any e=true→e.on ≠ i)→oi.apart ops oj=true) →
   i ∈ Region.ready .any ops listed→YS P ops w0 S oi v a→S h→(∀ p ∈ ps,p.S h) →
   wpP P ops Q w0 fuel (⟨i,fun k=>k == i,S⟩ :: hypL ps i oi) (listed.setIfInBounds i true) (a.put oi.dst v) h→wpP P ops Q w0 (fuel + 1) ps listed a h:=by
 intro fuel
 have selfCase:∀ (n:Nat) (ps:List Pend) (listed:Array Bool) (a:Act) (w:World),YS P ops w0 S oi v a→Same w0 w→S w.heap→(∀ p ∈ ps,p.S w.heap) →
   wpP P ops Q w0 n (⟨i,fun k=>k == i,S⟩ :: hypL ps i oi) (listed.setIfInBounds i true) (a.put oi.dst v) w.heap →
   wpOp P ops Q i (fun a' w'=>Same w0 w'∧(∀ p ∈ runL ps oi,p.S w'.heap)∧wpP P ops Q w0 n (runL ps oi) (listed.setIfInBounds i true) a' w'.heap) a w:=by
  intro n ps listed a w hy hs hS hob H
  refine hy.wpOp hi hs hS fun w' hs' hh'=>⟨hs.trans hs',fun p hp=>?_,?_⟩
  ·rw [hh']; exact hob p (List.mem_filter.1 hp).1
  ·rw [hh']
   exact wpP_sub n _ _ _ _ _ (fun p hp=>List.mem_cons_of_mem _ (run_in_hyp p hp)) H
 induction fuel with
 | zero =>
  intro ps listed a h _ hr hy hS hob H w hs hw
  refine ⟨fun h=>(by rw [h] at hr; cases hr),fun j o hj hoj=>?_⟩
  by_cases hji:j=i
  ·subst hji
   rw [hi] at hoj
   obtain rfl:oi=o:=by simpa using hoj
   subst hw
   exact selfCase 0 ps listed a w hy hs hS hob H
  ·have:=ready_mono hj hji
   rw [H.1] at this
   cases this
 | succ fuel ih =>
  intro ps listed a h hfree hr hy hS hob H w hs hw
  refine ⟨fun h=>(by rw [h] at hr; cases hr),fun j oj hj hoj=>?_⟩
  by_cases hji:j=i
  ·subst hji
   rw [hi] at hoj
   obtain rfl:oi=oj:=by simpa using hoj
   subst hw
   exact selfCase (fuel + 1) ps listed a w hy hs hS hob H
  ·subst hw
   have h1:=(H w hs rfl).2 j oj (ready_mono hj hji) hoj
   obtain ⟨hjun,oj',hoj',hall⟩:=mem_ready.1 hj
   rw [hoj] at hoj'
   obtain rfl:oj=oj':=by simpa using hoj'
   have hnot:∀ e ∈ oj.after,Region.binds .any e=true→e.on ≠ i:=fun e he hb heq=>by
    have h1:=hall e he hb
    rw [heq,unlisted hr] at h1
    cases h1
   have hwait:waits oj (fun k=>k == i)=false:=by
    rw [Bool.eq_false_iff]
    intro hc
    unfold waits at hc
    simp only [Array.any_eq_true',Bool.and_eq_true,beq_iff_eq] at hc
    obtain ⟨e,he,hb,heq⟩:=hc
    exact hnot e he hb heq
   have h2:=wpOp_putS hoj (hfree j oj hoj hji hjun hnot) (fun cs b=>hsel i oi cs b hi) (fun cs b=>hsel j oj cs b hoj) hQ hy h1
   have hfree':∀ k ok,ops[k]?=some ok→k ≠ i→(listed.setIfInBounds j true).getD k true=false →
     (∀ e ∈ ok.after,Region.binds .any e=true→e.on ≠ i)→oi.apart ops ok=true:=fun k ok hk hki hun hno=>by
    refine hfree k ok hk hki ?_ hno
    by_cases hjk:j=k
    ·subst hjk; exact hjun
    ·rw [getD_set_ne true hjk] at hun; exact hun
   refine wpOp_mono (fun a' w' h3=>?_) h2
   obtain ⟨hy',hs',hob',hP⟩:=h3
   have hhead:runL (⟨i,fun k=>k == i,S⟩ :: hypL ps i oi) oj=⟨i,fun k=>k == i,S⟩ :: runL (hypL ps i oi) oj:=by
    unfold runL
    rw [List.filter_cons_of_pos (by simp [hwait])]
   rw [hhead] at hob' hP
   have hin:∀ p ∈ ps,waits oj p.W=false→p.upd i oi ∈ runL (hypL ps i oi) oj:=fun p hp hw=>by
    refine List.mem_filter.2 ⟨List.mem_map.2 ⟨p,hp,rfl⟩,?_⟩
    have e:waits oj (fun k=>p.W k || (k == i && waits oi p.W))=waits oj p.W:=waits_ext hj hoj (unlisted hr) _ _
    simp only [Pend.upd,e,hw,Bool.not_false]
   have hS':S w'.heap:=hob' ⟨i,fun k=>k == i,S⟩ (List.mem_cons_self ..)
   have hobj:∀ p ∈ runL ps oj,p.S w'.heap:=fun p hp=>by
    obtain ⟨hp,hw⟩:=List.mem_filter.1 hp
    have hx:(p.upd i oi).S w'.heap:=hob' _ (List.mem_cons_of_mem _ (hin p hp (by simpa using hw)))
    exact hx
   refine ⟨hs',hobj,ih (runL ps oj) _ a' w'.heap hfree' (ready_mono hr (Ne.symm hji)) hy' hS' hobj ?_⟩
   rw [Array.setIfInBounds_comm _ _ hji]
   refine wpP_sub _ _ _ _ _ _ (fun p hp=>?_) hP
   rcases List.mem_cons.1 hp with rfl | hp
   ·exact List.mem_cons_self ..
   ·obtain ⟨q,hq,rfl⟩:=List.mem_map.1 hp
    obtain ⟨hq,hw⟩:=List.mem_filter.1 hq
    exact List.mem_cons_of_mem _ (hin q hq (by simpa using hw))
end
end Go.Ev
