/- Memory by parts: blocks by number, what lies in them, slices over them / Lists of rows, slices' cells, what is read stays read / Maps in memory, as lists of entries: their keys, what lies in them, going through them / Printed by a program (own work) out of the loaded functions: what each says of the heap, and that the evaluator says the same. No condition but that these are ones. -/
import Derived.Test.YtfilpdcphgmhgaaF3
import Derived.Test.YtfilpdcphgmhgaaF2
import Derived.Test.YtfilpdcphgmhgaaProg
set_option linter.all false
set_option maxRecDepth 100000
namespace Go.Ev
structure Mem where
 loc:Nat→Option Nat
 cont:Nat→List Value
structure Sep (h:Hp) (M:Mem):Prop where
 row:∀ x b,M.loc x=some b→Row h b (M.cont x)
 inj:∀ x y b,M.loc x=some b→M.loc y=some b→x=y
def Mem.own (M:Mem) (b:Nat):Prop:=∃ x,M.loc x=some b
def Mem.upd (M:Mem) (x:Nat) (b:Option Nat) (c:List Value):Mem:=⟨fun y=>if y=x then b else M.loc y,fun y=>if y=x then c else M.cont y⟩
theorem Mem.loc_self (M:Mem) (x:Nat) (b:Option Nat) (c:List Value):(M.upd x b c).loc x=b:=if_pos rfl
theorem Mem.cont_self (M:Mem) (x:Nat) (b:Option Nat) (c:List Value):(M.upd x b c).cont x=c:=if_pos rfl
theorem Mem.loc_ne (M:Mem) {x y:Nat} (b:Option Nat) (c:List Value) (h:y ≠ x):(M.upd x b c).loc y=M.loc y:=if_neg h
theorem Mem.cont_ne (M:Mem) {x y:Nat} (b:Option Nat) (c:List Value) (h:y ≠ x):(M.upd x b c).cont y=M.cont y:=if_neg h
/-- What a call that works on the parts may change. -/
def Chg (h:Hp) (M:Mem) (h':Hp) (M':Mem):Prop:=Kept M.own h h'∧∀ b,M'.own b→M.own b ∨ h.size ≤ b
section
variable {h h' h2:Hp} {M M' M2:Mem}
theorem Chg.refl (h:Hp) (M:Mem):Chg h M h M:=⟨Kept.refl _ _,fun _=>.inl⟩
theorem Chg.trans (a:Chg h M h' M') (b:Chg h' M' h2 M2):Chg h M h2 M2 :=
 ⟨⟨Nat.le_trans a.1.1 b.1.1,fun i hi hn=>(b.1.2 i (Nat.lt_of_lt_of_le hi a.1.1) fun o=>(a.2 i o).elim hn fun h=>by omega).trans (a.1.2 i hi hn)⟩,
  fun i o=>(b.2 i o).elim (a.2 i) fun h=>.inr (Nat.le_trans a.1.1 h)⟩
theorem Sep.lt (s:Sep h M) {x b:Nat} (hx:M.loc x=some b):b < h.size:=row_lt (s.row x b hx)
theorem Sep.keep (s:Sep h M) {S:Nat→Prop} (k:Kept S h h') (hS:∀ b,M.own b→¬ S b):Sep h' M:=⟨fun x b hx=>kept_row k (s.row x b hx) (hS b ⟨x,hx⟩),s.inj⟩
theorem Sep.keepN (s:Sep h M) (k:Kept (fun _=>False) h h'):Sep h' M:=s.keep k fun _ _ e=>e
theorem Sep.cell (s:Sep h M) {x b:Nat} (hx:M.loc x=some b) (o:Nat):Go.Ev.cell h ⟨b,o,none⟩=(M.cont x)[o]?:=cell_row (s.row x b hx) o
/-- One cell of a part is written. -/
theorem Sep.st (s:Sep h M) {x b o:Nat} (hx:M.loc x=some b) {a:Addr} {v:Value} (ha:a=⟨b,o,none⟩) (ho:o < (M.cont x).length) {K:Hp→Prop}
  (hK:∀ h',Sep h' (M.upd x (some b) ((M.cont x).set o v))→Chg h M h' (M.upd x (some b) ((M.cont x).set o v))→K h'):stOk h a∧Let (setc h a v) fun h'=>K h':=by
 subst ha
 refine ⟨stOk_row (s.row x b hx) ho,hK _ ⟨fun y c hy=>?_,fun y z c hy hz=>?_⟩ ⟨?_,fun c hc=>?_⟩⟩
 ·by_cases e:y=x
  ·subst e
   rw [Mem.loc_self] at hy
   obtain rfl:=Option.some.inj hy
   rw [Mem.cont_self]
   exact row_setc (s.row y b hx) o v
  ·rw [Mem.loc_ne _ _ _ e] at hy
   rw [Mem.cont_ne _ _ _ e]
   exact row_setc_ne (s.row y c hy) v fun (e':c=b)=>e (s.inj y x b (e' ▸ hy) hx)
 ·have loc:∀ w,(M.upd x (some b) ((M.cont x).set o v)).loc w=some c→M.loc w=some c:=fun w hw=>by
   by_cases e:w=x
   ·subst e; rw [Mem.loc_self] at hw; rw [hx]; exact hw
   ·rwa [Mem.loc_ne _ _ _ e] at hw
  exact s.inj y z c (loc y hy) (loc z hz)
 ·exact kept_setc h o v ⟨x,hx⟩
 ·obtain ⟨y,hy⟩:=hc
  by_cases e:y=x
  ·subst e; rw [Mem.loc_self] at hy; obtain rfl:=Option.some.inj hy; exact .inl ⟨y,hx⟩
  ·rw [Mem.loc_ne _ _ _ e] at hy; exact .inl ⟨y,hy⟩
/-- A part's block is another, new one (or none). -/
theorem Sep.renew (s:Sep h M) {x:Nat} {ob:Option Nat} {c:List Value} (k:Kept (fun b=>M.loc x=some b) h h') (hr:∀ b,ob=some b→Row h' b c) (hn:∀ b,ob=some b→M.loc x=some b ∨ h.size ≤ b) :
  Sep h' (M.upd x ob c)∧Chg h M h' (M.upd x ob c):=by
 have lo:∀ y c',y ≠ x→M.loc y=some c'→c' < h.size:=fun y c' _ hy=>s.lt hy
 refine ⟨⟨fun y c' hy=>?_,fun y z c' hy hz=>?_⟩,⟨k.mono fun b _ e=>⟨x,e⟩,fun b hb=>?_⟩⟩
 ·by_cases e:y=x
  ·subst e
   rw [Mem.loc_self] at hy
   rw [Mem.cont_self]
   exact hr c' hy
  ·rw [Mem.loc_ne _ _ _ e] at hy
   rw [Mem.cont_ne _ _ _ e]
   exact kept_row k (s.row y c' hy) fun e'=>e (s.inj y x c' hy e')
 ·by_cases e:y=x <;> by_cases e2:z=x
  ·rw [e,e2]
  ·subst e
   rw [Mem.loc_self] at hy
   rw [Mem.loc_ne _ _ _ e2] at hz
   rcases hn c' hy with h1 | h1
   ·exact absurd (s.inj z y c' hz h1) e2
   ·have:=s.lt hz; omega
  ·subst e2
   rw [Mem.loc_self] at hz
   rw [Mem.loc_ne _ _ _ e] at hy
   rcases hn c' hz with h1 | h1
   ·exact absurd (s.inj y z c' hy h1) e
   ·have:=s.lt hy; omega
  ·rw [Mem.loc_ne _ _ _ e] at hy
   rw [Mem.loc_ne _ _ _ e2] at hz
   exact s.inj y z c' hy hz
 ·obtain ⟨y,hy⟩:=hb
  by_cases e:y=x
  ·subst e
   rw [Mem.loc_self] at hy
   exact (hn b hy).imp_left fun h=>⟨y,h⟩
  ·rw [Mem.loc_ne _ _ _ e] at hy; exact .inl ⟨y,hy⟩
theorem Sep.push (s:Sep h M) (x:Nat) (arr:Array Value) (t:TypeId):Sep (h.push (.cells arr t)) (M.upd x (some h.size) arr.toList)∧Chg h M (h.push (.cells arr t)) (M.upd x (some h.size) arr.toList) :=
 s.renew (kept_push _ _ _) (fun b e=>by obtain rfl:=Option.some.inj e; exact row_new h arr t) fun b e=>.inr (by obtain rfl:=Option.some.inj e; exact Nat.le_refl _)
theorem Sep.drop (s:Sep h M) (x:Nat) (c:List Value):Sep h (M.upd x none c)∧Chg h M h (M.upd x none c):=s.renew (Kept.refl _ _) (fun b e=>by cases e) fun b e=>by cases e
end
/-- A slice over a part. -/
structure IsSl (sz:Nat) (M:Mem) (x:Nat) (s:Sl) (vs:List Value):Prop where
 len:vs.length=s.n * sz
 nil:M.loc x=none→s.a=none∧s.n=0∧s.c=0
 row:∀ b,M.loc x=some b→s.a=some (ad b)∧s.n ≤ s.c∧∃ junk,M.cont x=vs ++ junk∧vs.length + junk.length=s.c * sz
section
variable {h h':Hp} {M M':Mem} {sz x y:Nat} {s:Sl} {vs:List Value}
theorem IsSl.other (i:IsSl sz M y s vs) {b:Option Nat} {c:List Value} (h:y ≠ x):IsSl sz (M.upd x b c) y s vs :=
 ⟨i.len,fun e=>i.nil (by rwa [Mem.loc_ne _ _ _ h] at e),fun b' e=>by
  rw [Mem.loc_ne _ _ _ h] at e
  rw [Mem.cont_ne _ _ _ h]
  exact i.row b' e⟩
theorem IsSl.some_of (i:IsSl sz M x s vs) (hn:vs ≠ []):∃ b,M.loc x=some b∧s.a=some (ad b):=by
 cases hl:M.loc x with
 | none =>
  have:=(i.nil hl).2.1
  have:=i.len
  exact absurd (List.length_eq_zero_iff.1 (by rw [i.len,‹s.n=0›]; omega)) hn
 | some b=>exact ⟨b,rfl,(i.row b hl).1⟩
/-- A cell of a slice. -/
theorem IsSl.at (i:IsSl sz M x s vs) (p:Sep h M) {o:Nat} {v:Value} (hv:vs[o]?=some v):∃ b,M.loc x=some b∧s.a=some (ad b)∧cell h ⟨b,o,none⟩=some v:=by
 have ho:=(List.getElem?_eq_some_iff.1 hv).1
 obtain ⟨b,hb,ha⟩:=i.some_of (fun e=>by rw [e] at ho; simp at ho)
 obtain ⟨_,_,j,h3,_⟩:=i.row b hb
 exact ⟨b,hb,ha,by rw [p.cell hb,h3,List.getElem?_append_left ho]; exact hv⟩
/-- A cell of a slice is written. -/
theorem IsSl.set (i:IsSl sz M x s vs) {b o:Nat} (hb:M.loc x=some b) (v:Value) (ho:o < vs.length):o < (M.cont x).length∧IsSl sz (M.upd x (some b) ((M.cont x).set o v)) x s (vs.set o v):=by
 obtain ⟨h1,h2,j,h3,h4⟩:=i.row b hb
 refine ⟨by rw [h3,List.length_append]; omega,⟨by rw [List.length_set]; exact i.len,(fun e=>by rw [Mem.loc_self] at e; cases e),fun b' e=>?_⟩⟩
 rw [Mem.loc_self] at e
 obtain rfl:=Option.some.inj e
 rw [Mem.cont_self]
 exact ⟨h1,h2,j,by rw [h3,List.set_append_left _ _ ho],by rw [List.length_set]; exact h4⟩
end
end Go.Ev
set_option linter.all false
set_option maxRecDepth 100000
namespace Go.Ev
abbrev N:Nat→Prop:=fun _=>False
def iv (n:Int):Value:=.int .i64 n
def slV (s:Sl):Value:=.slice s.a s.n s.c
def I64 (n:Int):Prop:=-9223372036854775808 ≤ n∧n < 9223372036854775808
theorem PtrOk_of {x:Option Addr} {a:Addr} {K:Addr→Prop} (e:x=some a) (h:K a):PtrOk x K:=e ▸ h
theorem PtrOk_mk {a:Addr} {K:Addr→Prop} (h:K a):PtrOk (some a) K:=h
theorem Let_mk {α:Type} {x:α} {K:α→Prop} (h:∀ y,y=x→K y):Let x K:=h x rfl
theorem row_st {h:Hp} {b:Nat} {cs:List Value} {i:Nat} {v:Value} (hr:Row h b cs) {a:Addr} (ha:a=⟨b,i,none⟩) (hi:i < cs.length) {K:Hp→Prop} (hK:∀ h',Row h' b (cs.set i v)→Kept (fun x=>x=b) h h'→K h') :
  Go.Ev.stOk h a∧Let (setc h a v) fun h'=>K h':=by
 subst ha
 exact ⟨stOk_row hr hi,hK _ (row_setc hr i v) (kept_setc h i v rfl)⟩
section
variable {h h':Hp}
theorem flat_len {α:Type} {f:α→List Value} {sz:Nat} (hf:∀ x,(f x).length=sz):∀ l:List α,(l.flatMap f).length=l.length * sz
 | []=>by simp
 | x :: l=>by rw [List.flatMap_cons,List.length_append,hf,flat_len hf l,List.length_cons,Nat.add_mul]; omega
theorem flat_at {α:Type} {f:α→List Value} {sz:Nat} (hf:∀ x,(f x).length=sz):∀ (l:List α) (i j:Nat) (x:α),l[i]?=some x→j < sz→(l.flatMap f)[i * sz + j]?=(f x)[j]?
 | [],_,_,_,h,_=>by simp at h
 | y :: l,0,j,x,h,hj=>by
  obtain rfl:y=x:=by simpa using h
  rw [List.flatMap_cons,Nat.zero_mul,Nat.zero_add,List.getElem?_append_left (by rw [hf]; exact hj)]
 | y :: l,i + 1,j,x,h,hj=>by
  rw [List.flatMap_cons,List.getElem?_append_right (by rw [hf,Nat.add_mul]; omega),hf]
  have e:(i + 1) * sz + j - sz=i * sz + j:=by rw [Nat.add_mul]; omega
  rw [e]
  exact flat_at hf l i j x (by simpa using h) hj
theorem reads_kept {h h':Hp} {S:Nat→Prop} (k:Kept S h h') {a:Option Addr} {vs:List Value} (r:ReadsO h a vs) (hS:∀ p,a=some p→p.block < h.size∧¬ S p.block):ReadsO h' a vs:=by
 cases a with
 | none=>exact r
 | some p =>
  obtain ⟨h1,h2⟩:=hS p rfl
  have e:=k.2 _ h1 h2
  intro j v hv
  have:=r j v hv
  unfold cell at this ⊢
  have eb:(p.add j).block=p.block:=by unfold Addr.add; split <;> rfl
  rw [eb] at this ⊢
  rw [e]
  exact this
theorem reads_kept2 {h h':Hp} {S:Nat→Prop} (k:Kept S h h') {a:Option Addr} {vs:List Value} (r:ReadsO h a vs) (hS:∀ p,a=some p→vs ≠ []→p.block < h.size∧¬ S p.block):ReadsO h' a vs:=by
 by_cases hv:vs=[]
 ·subst hv
  cases a with
  | none=>rfl
  | some p=>intro j v hv; simp at hv
 ·exact reads_kept k r fun p hp=>hS p hp hv
theorem reads_keptN {h h':Hp} (k:Kept (fun _=>False) h h') {a:Option Addr} {vs:List Value} (r:ReadsO h a vs):ReadsO h' a vs:=by
 refine reads_kept2 k r fun p hp hv=>⟨?_,id⟩
 subst hp
 cases vs with
 | nil=>exact absurd rfl hv
 | cons v vs =>
  have h0:cell h (p.add 0)=some v:=r 0 v rfl
  unfold cell at h0
  have eb:(p.add 0).block=p.block:=by unfold Addr.add; rfl
  rw [eb] at h0
  by_cases hl:p.block < h.size
  ·exact hl
  ·rw [Array.getElem?_eq_none (by omega)] at h0
   cases h0
theorem readsO_get {h:Hp} {a:Option Addr} {vs:List Value} (r:ReadsO h a vs) {i:Nat} {v:Value} (hv:vs[i]?=some v):∃ p,a=some p∧cell h (p.add i)=some v:=by
 cases a with
 | none =>
  have e:vs=[]:=r
  rw [e] at hv
  cases hv
 | some p=>exact ⟨p,rfl,r i v hv⟩
theorem row_reads {h:Hp} {b:Nat} {vs:List Value} (r:Row h b vs):ReadsO h (some (ad b)) vs:=reads_row r fun j v hv=>by rw [Nat.zero_add]; exact hv
theorem add_add (p:Addr) (a b:Nat):(p.add a).add b=p.add (a + b):=by
 unfold Addr.add
 by_cases ha:a=0
 ·subst ha; simp
 ·by_cases hb:b=0
  ·subst hb; simp
  ·rw [if_neg ha,if_neg hb,if_neg (by omega),Nat.add_assoc]
end
end Go.Ev
set_option linter.all false
set_option maxRecDepth 100000
namespace Go.Ev
open Go.MapKept
section
variable {P:Program}
def IntK (v:Value):Prop:=∃ n:Int,v=.int .i64 n
theorem klaw_int {kt:TypeId} (hk:P.underlying kt=some (.int .i64)):KLaw P kt IntK:=by
 have isK:∀ {v:Value},IntK v→IsKey (.int .i64) v:=fun {v} ⟨n,e⟩=>by rw [e]; rfl
 refine ⟨fun em v w h=>run_checkKey hk (isK h) em 9999,fun {x} es w hx hes=>?_,fun {v} w h=>run_keyThatStays (isK h)⟩
 rcases findNow_spec (isK hx) es 0 (fun y hy=>isK (hes y hy)) with ⟨h1,h2⟩ | ⟨j,e0,h1,h2,h3⟩
 ·exact .inl ⟨run_findKey hk h1,h2⟩
 ·exact .inr ⟨j,e0,by simpa using run_findKey hk h1,h2,h3⟩
theorem run_ask {kt:TypeId} {Ok:Value→Prop} (heq:∀ a b,Ok a→Ok b→∃ t:Bool,eqTy P 20 kt a b=some t∧(t=true ↔ a=b)) {x:Value} (hx:Ok x) (w:World):∀ (es:List MapEntry) (i:Nat),(∀ e ∈ es,Ok e.key) →
  ((Instr.findAsking kt x es i).run P w=.ok none w∧∀ e ∈ es,e.key ≠ x) ∨ ∃ j e,(Instr.findAsking kt x es i).run P w=.ok (some (i + j,e.val)) w∧es[j]?=some e∧e.key=x:=by
 intro es
 induction es with
 | nil=>exact fun i _=>.inl ⟨rfl,fun e he=>by cases he⟩
 | cons a l ih =>
  intro i hok
  obtain ⟨t,ht,hi⟩:=heq x a.key hx (hok a (List.mem_cons_self ..))
  have hr:=eqTy_sound 20 Op.maxDepth kt x a.key t (by unfold Op.maxDepth; omega) ht w
  unfold Instr.findAsking
  have hr':(Op.equal kt x a.key).run P w=.ok t w:=hr
  simp only [run_bind,hr']
  cases t with
  | true =>
   refine .inr ⟨0,a,?_,rfl,(hi.1 rfl).symm⟩
   rfl
  | false =>
   have hne:a.key ≠ x:=fun e=>by have:=hi.2 e.symm; cases this
   rcases ih (i + 1) (fun e he=>hok e (List.mem_cons_of_mem _ he)) with ⟨h1,h2⟩ | ⟨j,e,h1,h2,h3⟩
   ·exact .inl ⟨h1,fun e he=>(List.mem_cons.1 he).elim (fun z=>z ▸ hne) (h2 e)⟩
   ·exact .inr ⟨j + 1,e,by rw [show i + (j + 1)=i + 1 + j by omega]; exact h1,h2,h3⟩
/-- Keys that are structs of plain things. -/
theorem klaw_struct {kt:TypeId} {Ok:Value→Prop} {fs:Array Field} (hk:P.underlying kt=some (.struct fs)) (hc:∀ (em:Bool) (v:Value) (w:World),Ok v→(Instr.checkKey em 10000 kt v).run P w=.ok () w)
  (heq:∀ a b,Ok a→Ok b→∃ t:Bool,eqTy P 20 kt a b=some t∧(t=true ↔ a=b)) (hs:∀ v,Ok v→Instr.sameBits 10000 v v=true):KLaw P kt Ok:=by
 refine ⟨fun em v w h=>hc em v w h,fun {x} es w hx hes=>?_,fun {v} w h=>?_⟩
 ·unfold Instr.findKey
  simp only [run_bind,run_underlying hk]
  cases es with
  | nil=>exact .inl ⟨rfl,fun e he=>by cases he⟩
  | cons a l =>
   have:Instr.findNow (.struct fs) x (a :: l) 0=none:=by
    unfold Instr.findNow Instr.sameNow
    rfl
   simp only [this]
   have:=run_ask heq hx w (a :: l) 0 hes
   simpa using this
 ·unfold Instr.keyThatStays
  rw [if_pos (hs v h)]
  rfl
end
theorem kept_seti (h:Hp) (r:Nat) (o:Obj):Kept (fun b=>b=r) h (h.setIfInBounds r o):=⟨by simp,fun i _ hn=>by rw [Array.getElem?_setIfInBounds,if_neg fun e=>hn e.symm]⟩
theorem seti_self {h:Hp} {r:Nat} {o o':Obj} (hr:h[r]?=some o'):(h.setIfInBounds r o)[r]?=some o:=by
 have:=(Array.getElem?_eq_some_iff.1 hr).1
 rw [Array.getElem?_setIfInBounds,if_pos rfl,if_pos this]
theorem kept_ob {S:Nat→Prop} {h h':Hp} (k:Kept S h h') {r:Nat} {o:Obj} (hr:h[r]?=some o) (hS:¬ S r):h'[r]?=some o:=by
 rw [k.2 r (Array.getElem?_eq_some_iff.1 hr).1 hS]; exact hr
theorem ob_lt {h:Hp} {r:Nat} {o:Obj} (hr:h[r]?=some o):r < h.size:=(Array.getElem?_eq_some_iff.1 hr).1
/-! ### Going through a map -/
structure MIt (h:Hp) (it r:Nat) (es:List MapEntry) (clk:Nat) (vis:List MapEntry):Prop where
 ob:h[it]?=some (.mapIter (some r) clk (vis.map (·.born)).toArray clk)
 mp:h[r]?=some (.map es.toArray clk)
 sub:∀ e ∈ vis,e ∈ es
 nd:vis.Nodup
 bn:(es.map (·.born)).Nodup
 lt:∀ e ∈ es,e.born < clk
theorem born_inj:∀ {es:List MapEntry},(es.map (·.born)).Nodup→∀ {a b:MapEntry},a ∈ es→b ∈ es→a.born=b.born→a=b
 | [],_,a,b,ha,_,_=>by cases ha
 | x :: l,h,a,b,ha,hb,e=>by
  rw [List.map_cons,List.nodup_cons] at h
  rcases List.mem_cons.1 ha with rfl | h1 <;> rcases List.mem_cons.1 hb with rfl | h2
  ·rfl
  ·exact absurd (List.mem_map.2 ⟨b,h2,e.symm⟩) h.1
  ·exact absurd (List.mem_map.2 ⟨a,h1,e⟩) h.1
  ·exact born_inj h.2 h1 h2 e
theorem nodup_of_map {α β:Type} {f:α→β}:∀ {l:List α},(l.map f).Nodup→l.Nodup
 | [],_=>List.nodup_nil
 | x :: l,h=>by
  rw [List.map_cons,List.nodup_cons] at h
  exact List.nodup_cons.2 ⟨fun hx=>h.1 (List.mem_map.2 ⟨x,hx,rfl⟩),nodup_of_map h.2⟩
section
variable {h h':Hp} {it r clk:Nat} {es vis:List MapEntry}
theorem MIt.keep {S:Nat→Prop} (x:MIt h it r es clk vis) (k:Kept S h h') (h1:¬ S it) (h2:¬ S r):MIt h' it r es clk vis:=⟨kept_ob k x.ob h1,kept_ob k x.mp h2,x.sub,x.nd,x.bn,x.lt⟩
def leftM (es vis:List MapEntry):Nat:=(es.filter fun e=>decide (¬ e.born ∈ vis.map (·.born))).length
theorem leftM_lt (x:MIt h it r es clk vis) {e:MapEntry} (he:e ∈ es) (hv:e ∉ vis):leftM es (vis ++ [e]) < leftM es vis:=by
 unfold leftM
 have hb:¬ e.born ∈ vis.map (·.born):=fun hm=>by
  obtain ⟨e',h1,h2⟩:=List.mem_map.1 hm
  exact hv (born_inj x.bn (x.sub e' h1) he h2 ▸ h1)
 have key:∀ l:List MapEntry,e ∈ l→(l.filter fun e'=>decide (¬ e'.born ∈ (vis ++ [e]).map (·.born))).length < (l.filter fun e'=>decide (¬ e'.born ∈ vis.map (·.born))).length:=by
  have mono:∀ l:List MapEntry,(l.filter fun e'=>decide (¬ e'.born ∈ (vis ++ [e]).map (·.born))).length ≤ (l.filter fun e'=>decide (¬ e'.born ∈ vis.map (·.born))).length:=by
   intro l
   induction l with
   | nil=>exact Nat.le_refl _
   | cons a l ih =>
    rw [List.filter_cons,List.filter_cons]
    by_cases h1:a.born ∈ vis.map (·.born)
    ·have h2:a.born ∈ (vis ++ [e]).map (·.born):=by rw [List.map_append]; exact List.mem_append_left _ h1
     simp only [h1,h2,not_true_eq_false,decide_false,Bool.false_eq_true,if_false]
     exact ih
    ·by_cases h2:a.born ∈ (vis ++ [e]).map (·.born)
     ·simp only [h1,h2,not_true_eq_false,not_false_eq_true,decide_false,decide_true,Bool.false_eq_true,if_false,if_true,List.length_cons]
      omega
     ·simp only [h1,h2,not_false_eq_true,decide_true,if_true,List.length_cons]
      omega
  intro l hl
  induction l with
  | nil=>cases hl
  | cons a l ih =>
   rw [List.filter_cons,List.filter_cons]
   rcases List.mem_cons.1 hl with rfl | hl
   ·have h2:e.born ∈ (vis ++ [e]).map (·.born):=by rw [List.map_append]; exact List.mem_append_right _ (List.mem_singleton.2 rfl)
    simp only [hb,h2,not_true_eq_false,not_false_eq_true,decide_false,decide_true,Bool.false_eq_true,if_false,if_true,List.length_cons]
    have:=mono l
    omega
   ·have i:=ih hl
    by_cases h1:a.born ∈ vis.map (·.born)
    ·have h2:a.born ∈ (vis ++ [e]).map (·.born):=by rw [List.map_append]; exact List.mem_append_left _ h1
     simp only [h1,h2,not_true_eq_false,decide_false,Bool.false_eq_true,if_false]
     exact i
    ·by_cases h2:a.born ∈ (vis ++ [e]).map (·.born)
     ·simp only [h1,h2,not_true_eq_false,not_false_eq_true,decide_false,decide_true,Bool.false_eq_true,if_false,if_true,List.length_cons]
      omega
     ·simp only [h1,h2,not_false_eq_true,decide_true,if_true,List.length_cons]
      omega
 exact key es he
theorem MIt.next (x:MIt h it r es clk vis) (hir:it ≠ r) {KF:Prop} {KT:Value→Value→Hp→Prop} (hF:vis.Perm es→KF) (hT:∀ e h',e ∈ es→e ∉ vis→MIt h' it r es clk (vis ++ [e])→Kept (fun b=>b=it) h h'→KT e.key e.val h') :
  MapNext (.pointer (some ⟨it,0,none⟩)) h KF KT:=by
 refine ⟨it,r,es.toArray,clk,clk,_,clk,rfl,x.ob,x.mp,x.lt,Nat.le_refl _,fun hall=>hF ?_,fun e he hn=>?_⟩
 ·refine (List.perm_ext_iff_of_nodup x.nd (nodup_of_map x.bn)).2 fun e=>⟨x.sub e,fun he=>?_⟩
  have:=hall e he
  obtain ⟨e',h1,h2⟩:=List.mem_map.1 this
  exact born_inj x.bn (x.sub e' h1) he h2 ▸ h1
 ·have hv:e ∉ vis:=fun hv=>hn (List.mem_map.2 ⟨e,hv,rfl⟩)
  have k:=kept_seti h it (.mapIter (some r) clk (((vis.map (·.born)).toArray).push e.born) clk)
  refine hT e _ he hv ⟨?_,kept_ob k x.mp fun z=>hir z.symm,fun a ha=>?_,?_,x.bn,x.lt⟩ k
  ·rw [seti_self x.ob]
   simp
  ·rcases List.mem_append.1 ha with ha | ha
   ·exact x.sub a ha
   ·rw [List.mem_singleton.1 ha]; exact he
  ·rw [List.nodup_append]
   exact ⟨x.nd,by simp,fun a ha b hb e'=>hv (by rw [← List.mem_singleton.1 hb,← e']; exact ha)⟩
theorem MIt.ent {e:MapEntry} (x:MIt h it r es clk (vis ++ [e])):MapEnt (.pointer (some ⟨it,0,none⟩)) h e.key e.val:=by
 have he:=x.sub e (List.mem_append_right _ (List.mem_singleton.2 rfl))
 refine ⟨it,r,es.toArray,clk,clk,_,e,rfl,x.ob,x.mp,?_,he,fun a ha hb=>born_inj x.bn ha he hb,rfl,rfl⟩
 simp
theorem MIt.begin (mp:h[r]?=some (.map es.toArray clk)) (bn:(es.map (·.born)).Nodup) (lt:∀ e ∈ es,e.born < clk) {K:Hp→Prop} (hK:∀ h',MIt h' h.size r es clk []→Kept (fun _=>False) h h'→K h'):MapRange (.map (some r)) h K:=by
 refine ⟨r,es.toArray,clk,rfl,mp,hK _ ⟨?_,kept_ob (kept_push h _ fun _=>False) mp id,nofun,List.nodup_nil,bn,lt⟩ (kept_push h _ _)⟩
 simp
end
end Go.Ev
namespace Go.Ev
open Go.Proofs
def tkL:List (List VK):=[[],[.any],[.int .i64],[.int .i64],[.bool],[.int .u8],[.int .u8],[.int .i64,.int .i64,.bool,.int .u8],[.int .i64,.int .i64,.bool,.int .u8],[.str],[.str],[.str],[.int .u64],[.str,.int .u64],[.str,.int .u64],[.ptr],[.ptr],[.ptr],[.ptr],[.ptr],[.any],[.int .i32],[.sl],[.int .i64,.sl],[.int .i64,.sl],[.any],[.ptr],[.any],[.sl],[.int .u64],[.int .i64,.int .i64,.int .i64,.int .i64,.sl,.int .u64],[.int .i64,.int .i64,.int .i64,.int .i64,.sl,.int .u64],[.sl],[.any],[.any],[],[.any],[.any],[.any],[.int .i64,.str],[.int .i64,.str],[.int .i64],[.any],[.any],[.any],[.any],[.sl],[.sl],[.sl],[.sl],[],[.any],[.int .i64,.int .i64,.int .i64,.sl,.int .u64,.int .i64],[.int .i64,.int .i64,.int .i64,.sl,.int .u64,.int .i64],[.any],[.any],[.int .i64,.int .i64,.sl,.int .u64],[.int .i64,.int .i64,.sl,.int .u64],[.any],[],[.any],[.mp],[.mp],[.mp,.mp,.int .i64],[.mp,.mp,.int .i64],[.any],[.any],[.int .i64,.sl,.int .u64,.int .i64],[.int .i64,.sl,.int .u64,.int .i64],[.any],[],[.any],[.int .i64,.str,.int .i64],[.int .i64,.str,.int .i64],[.any],[.any],[.sl],[.ptr],[.ptr],[.sl],[.sl],[.sl],[.ptr,.ptr],[.ptr,.ptr],[.any],[.any],[.any],[.any],[.any],[.any],[.sl],[.sl],[.any],[.any],[.any],[.any],[.any],[.any],[.any],[.any],[.int .u64],[.any],[.any],[.any],[.any],[.any],[.int .i64,.int .i64,.sl,.int .u64],[.int .i64,.int .i64,.sl,.int .u64],[.sl],[.any],[.int .i64],[],[.any],[.any],[.any],[.any],[.any],[.int .u32],[.any],[.any],[.int .u64],[.any],[.any],[.any],[.ptr],[.any],[.ptr],[],[.any],[.any],[.ptr,.ptr,.ptr,.str],[.ptr,.ptr,.ptr,.str],[],[],[],[.any],[.int .u8],[.int .u8],[.any],[.ptr],[.int .i32],[.int .i32],[.int .u64,.int .u64,.int .u32,.int .u8,.int .u8,.int .u8,.int .u8,.any,.ptr,.int .i32,.int .i32],[.int .u64,.int .u64,.int .u32,.int .u8,.int .u8,.int .u8,.int .u8,.any,.ptr,.int .i32,.int .i32],[.any]]
def rkL:List (List RK):=[[],[],[],[.leaf .bool],[.leaf .bool],[.leaf .bool],[.leaf .bool],[.leaf .bool],[.leaf .bool],[.leaf .bool],[.leaf .bool],[.leaf .bool],[.leaf .ptr],[.leaf .sl],[.leaf .sl],[.leaf (.int .u64),.leaf .bool],[.leaf .bool],[.leaf .bool],[.leaf (.int .i64)],[.leaf .sl],[.leaf .bool],[.leaf .sl,.leaf .bool],[.leaf .bool],[.leaf .sl,.leaf .bool],[.leaf .bool],[.leaf .bool],[.leaf (.int .i64),.leaf .bool],[],[.leaf (.int .i64)],[.leaf (.int .i64)],[.leaf (.int .i64)],[.leaf (.int .i64)],[.leaf .bool],[.leaf (.int .i64)],[.leaf .sl],[.leaf (.int .i64)],[.leaf .sl],[.leaf .bool],[.leaf .sl,.leaf .bool],[.leaf .bool],[.leaf .sl],[.leaf .bool],[.leaf .sl],[.leaf (.int .i64)],[.leaf .sl],[.leaf .sl],[.leaf .sl],[.leaf .sl],[.leaf .sl],[.leaf .bool],[],[],[.leaf .sl],[.leaf .sl],[],[.leaf (.int .i64)],[.leaf .bool],[.leaf .bool],[.leaf .bool],[.leaf .bool],[.agg [.int .i64,.str]],[.leaf (.int .i64),.leaf .bool],[.leaf (.int .u64),.leaf .bool],[.leaf (.int .i64)],[.leaf .bool],[.leaf .sl],[],[],[],[.leaf (.int .i64),.leaf (.int .i64)],[],[.leaf .bool],[.leaf (.int .i64)],[.leaf (.int .i64),.leaf .bool],[.leaf (.int .i64)],[.leaf (.int .i64)],[.leaf .bool],[],[.leaf (.int .u64)],[.leaf (.int .u64)],[.leaf (.int .i64)],[.leaf (.int .i64)],[.leaf (.int .i64),.leaf (.int .i64)],[.leaf .str],[],[.leaf .str],[],[.leaf .str],[],[.leaf .str],[],[.leaf .str],[],[.leaf .str],[],[.leaf (.int .i64)],[.leaf .str],[],[.leaf .str],[.leaf .str]]
def rtL:List (List RK):=[[],[.leaf .any],[.leaf (.int .i64)],[.leaf (.int .i64)],[.leaf .bool],[.leaf (.int .u8)],[.leaf (.int .u8)],[.agg [.int .i64,.int .i64,.bool,.int .u8]],[.agg [.int .i64,.int .i64,.bool,.int .u8]],[.leaf .str],[.leaf .str],[.leaf .str],[.leaf (.int .u64)],[.agg [.str,.int .u64]],[.agg [.str,.int .u64]],[.leaf .ptr],[.leaf .ptr],[.leaf .ptr],[.agg [.ptr]],[.agg [.ptr]],[.leaf .any],[.leaf (.int .i32)],[.leaf .sl],[.agg [.int .i64,.sl]],[.agg [.int .i64,.sl]],[.leaf .any],[.leaf .ptr],[.leaf .any],[.leaf .sl],[.leaf (.int .u64)],[.agg [.int .i64,.int .i64,.int .i64,.int .i64,.sl,.int .u64]],[.agg [.int .i64,.int .i64,.int .i64,.int .i64,.sl,.int .u64]],[.leaf .sl],[.leaf .any],[.leaf .any],[.leaf (.int .u64),.leaf .bool],[.leaf .any],[.leaf .any],[.leaf .any],[.agg [.int .i64,.str]],[.agg [.int .i64,.str]],[.leaf (.int .i64)],[.leaf .any],[.leaf .any],[.leaf .any],[.leaf .any],[.leaf .sl],[.agg [.sl]],[.agg [.sl]],[.leaf .sl],[.leaf .sl,.leaf .bool],[.leaf .any],[.agg [.int .i64,.int .i64,.int .i64,.sl,.int .u64,.int .i64]],[.agg [.int .i64,.int .i64,.int .i64,.sl,.int .u64,.int .i64]],[.leaf .any],[.leaf .any],[.agg [.int .i64,.int .i64,.sl,.int .u64]],[.agg [.int .i64,.int .i64,.sl,.int .u64]],[.leaf .any],[.leaf (.int .i64),.leaf .bool],[.leaf .any],[.leaf .mp],[.leaf .mp],[.agg [.mp,.mp,.int .i64]],[.agg [.mp,.mp,.int .i64]],[.leaf .any],[.leaf .any],[.agg [.int .i64,.sl,.int .u64,.int .i64]],[.agg [.int .i64,.sl,.int .u64,.int .i64]],[.leaf .any],[.agg [.int .i64,.sl,.int .u64,.int .i64],.leaf .bool],[.leaf .any],[.agg [.int .i64,.str,.int .i64]],[.agg [.int .i64,.str,.int .i64]],[.leaf .any],[.leaf .any],[.leaf .sl],[.leaf .ptr],[.leaf .ptr],[.leaf .sl],[.agg [.sl]],[.agg [.sl]],[.agg [.ptr,.ptr]],[.agg [.ptr,.ptr]],[.leaf .any],[.leaf .any],[.leaf .any],[.leaf .any],[.leaf .any],[.leaf .any],[.leaf .sl],[.leaf .sl],[.leaf .any],[.leaf .any],[.leaf .any],[.leaf .any],[.leaf .any],[.leaf .any],[.leaf .any],[.leaf .any],[.leaf (.int .u64)],[.leaf .any],[.leaf .any],[.leaf .any],[.leaf .any],[.leaf .any],[.agg [.int .i64,.int .i64,.sl,.int .u64]],[.agg [.int .i64,.int .i64,.sl,.int .u64]],[.leaf .sl],[.leaf .any],[.leaf (.int .i64)],[.leaf (.int .i64),.leaf (.int .i64)],[.leaf .any],[.leaf .any],[.leaf .any],[.leaf .any],[.leaf .any],[.leaf (.int .u32)],[.leaf .any],[.leaf .any],[.leaf (.int .u64)],[.leaf .any],[.leaf .any],[.leaf .any],[.leaf .ptr],[.leaf .any],[.leaf .ptr],[.leaf (.int .i64),.leaf (.int .i64)],[.leaf .any],[.leaf .any],[.agg [.ptr,.ptr,.ptr,.str]],[.agg [.ptr,.ptr,.ptr,.str]],[],[],[],[.leaf .any],[.leaf (.int .u8)],[.leaf (.int .u8)],[.leaf .any],[.leaf .ptr],[.leaf (.int .i32)],[.leaf (.int .i32)],[.agg [.int .u64,.int .u64,.int .u32,.int .u8,.int .u8,.int .u8,.int .u8,.any,.ptr,.int .i32,.int .i32]],[.agg [.int .u64,.int .u64,.int .u32,.int .u8,.int .u8,.int .u8,.int .u8,.any,.ptr,.int .i32,.int .i32]],[.leaf .any]]
def quietL:List Bool:=[false,false,true,false,false,false,false,false,false,false,false,false,false,false,false,false,false,true,false,false,false,false,false,false,false,false,false,false,true,true,true,true,false,true,false,false,false,false,false,true,false,false,false,false,false,false,false,false,false,true,false,false,false,false,false,true,true,true,false,false,false,false,true,true,true,false,false,false,false,false,false,false,false,false,true,true,false,false,true,false,false,false,false,false,false,false,false,false,false,false,false,false,false,false,false,false,false,false,false,false]
def calleeL:List Bool:=[false,false,true,true,true,true,true,true,true,true,true,true,true,true,true,true,true,true,true,true,true,true,true,true,true,true,true,true,true,true,true,true,true,true,true,true,true,true,true,true,true,true,true,true,true,true,true,true,true,true,true,true,true,true,true,true,true,true,true,true,true,true,true,true,true,true,true,true,true,true,true,true,true,true,true,true,true,true,true,true,true,true,true,false,false,false,false,false,false,false,false,false,false,false,false,false,false,false,false,false]
def extL:List Bool:=[true,true,false,false,false,false,false,false,false,false,false,false,false,false,false,false,false,false,false,false,false,false,false,false,false,false,false,false,false,false,false,false,false,false,false,false,false,false,false,false,false,false,false,false,false,false,false,false,false,false,false,false,false,false,false,false,false,false,false,false,false,false,false,false,false,false,false,false,false,false,false,false,false,false,false,false,false,false,false,false,false,false,false,true,true,true,true,true,true,true,true,true,true,true,true,true,true,true,true,true]
noncomputable def tab:Tab:={ tk:=fun t=>tkL.getD t [],rk:=fun f=>rkL.getD f [],quiet:=fun f=>quietL.getD f false,callee:=fun f=>calleeL.getD f false,ext:=fun f=>extL.getD f false,rt:=fun t=>rtL.getD t [],ent:=fun p=>if p = "wait.go:153" then [.leaf (.int .i64),.leaf .any] else if p = "wait.go:127" then [.leaf (.int .i64),.agg [.int .i64,.sl,.int .u64,.int .i64]] else [],meth:=fun m=>none }
theorem mixed:Try.prog.follows .mixedOrders=true:=by kernel_rfl
noncomputable def calleeOk (f:Nat):Bool:=match Try.prog.funcs[f]? with | some fn=>!(fn.name == "runtime.NumGoroutine") && fn.body.isSome | none=>false
theorem callable_of_ok {f:Nat} (h:calleeOk f=true):Callable Try.prog f:=by
 unfold calleeOk at h
 split at h
 ·rename_i fn hf
  simp only [Bool.and_eq_true,Bool.not_eq_true'] at h
  exact callable_of hf h.1 h.2
 ·cases h
theorem calleeL_len:calleeL.length=100:=by kernel_rfl
theorem callees:((List.range 100).all fun f=>!calleeL.getD f false || calleeOk f)=true:=by kernel_rfl
theorem tab_ok:TabOk Try.prog tab:=by
 refine ⟨fun f hf=>?_,fun m t f hm a args w=>?_,fun m t f hm a w=>?_⟩
 ·have hf:calleeL.getD f false=true:=hf
  by_cases hlt:f < 100
  ·have:=List.all_eq_true.1 callees f (List.mem_range.2 hlt)
   rw [hf] at this
   have hc:calleeOk f=true:=by simpa using this
   exact callable_of_ok hc
  ·rw [List.getD_eq_getElem?_getD,List.getElem?_eq_none (Nat.le_trans (Nat.le_of_eq calleeL_len:calleeL.length ≤ 100) (Nat.le_of_not_lt hlt))] at hf
   cases hf
 ·simp only [tab] at hm
  cases hm
 ·simp only [tab] at hm
  cases hm
end Go.Ev
set_option linter.all false
set_option maxRecDepth 100000
namespace Go.Ev
open Go.Proofs
/- slices.SortFunc[[]int,int] -/
noncomputable def body27:Code:=(Try.f27.body).getD .skip
def lv27 (m:Nat):List Nat:=[]
def f27F (a0:Sl) (a1:Value) (h:Hp) (R:Value→Hp→Prop):Prop :=
 CallTo Try.prog 55 #[.int .u64 (IntKind.wrap .u64 (((a0.n:Nat):Int)))] h fun r h1=>∃ t11:Int,r=.int .i64 t11∧CallTo Try.prog 54 #[.slice a0.a a0.n a0.c,.int .i64 0,.int .i64 (((a0.n:Nat):Int)),.int .i64 t11,a1] h1 fun r h2=>r=.tuple #[]∧R (.tuple #[]:Value) h2
theorem f27F_eq (a0:Sl) (a1:Value) (h:Hp) (R:Value→Hp→Prop):evF Try.prog tab lv27 Try.f27 body27 [] [.slice a0.a a0.n a0.c,a1] h R=f27F a0 a1 h R:=by kernel_rfl
theorem f27F_ok {a0:Sl} {a1:Value} {h:Hp} {R:Value→Hp→Prop} (hF:f27F a0 a1 h R):CallTo Try.prog 27 #[.slice a0.a a0.n a0.c,a1] h R :=
 callTo_of_ev (lv:=lv27) (hints:=[]) (c:=body27) (args:=[.slice a0.a a0.n a0.c,a1]) mixed tab_ok Try.func27 (by kernel_rfl) (by kernel_rfl) (by rw [f27F_eq]; exact hF)
/- slices.Index[[]int,int] -/
noncomputable def body33:Code:=(Try.f33.body).getD .skip
def lv33 (m:Nat):List Nat:=if m=2 then [0,1,7,8] else []
def f33I1 (J:Nat→Sl→Int→Int→Int→Hp→Prop) (n:Nat) (env:List Value) (h:Hp):Prop:=lenIs env 19 (DecL env 0 fun s0=>DecI .i64 env 1 fun s1=>DecI .i64 env 7 fun s7=>DecI .i64 env 8 fun s8=>J n s0 s1 s7 s8 h)
def f33L1 (J1:Nat→Sl→Int→Int→Int→Hp→Prop) (n1:Nat) (s0:Sl) (s1:Int) (s7:Int) (s8:Int) (g:Nat→Value) (h:Hp) (R:Value→Hp→Prop):Prop :=
 Cond (decide (s8 < s7)) ((0 ≤ s8∧s8 < ((s0.n:Nat):Int))∧PtrOk s0.a fun p14=>∃ t15:Int,cell h (p14.add (s8.toNat * 1))=some (.int .i64 t15)∧Cond (s1 == t15) (R (.int .i64 s8:Value) h) (∃ m,m < n1∧J1 m s0 s1 s7 (IntKind.wrap .i64 (s8 + (1:Int))) h)) (R ((.int .i64 (-1):Value)) h)
theorem f33L1_eq (J1:Nat→Sl→Int→Int→Int→Hp→Prop) (n1:Nat) (s0:Sl) (s1:Int) (s7:Int) (s8:Int) (g:Nat→Value) (h:Hp) (R:Value→Hp→Prop):(evC Try.prog tab lv33 (sub [1,0,1,0,0] body33)) (loopK (f33I1 J1) n1 (contAt Try.prog tab lv33 [1,0,1,0] body33 [] (bodyK Try.prog Try.f33 [] R))) (mkEnv 19 [(0,.slice s0.a s0.n s0.c),(1,.int .i64 s1),(7,.int .i64 s7),(8,.int .i64 s8)] g) h=f33L1 J1 n1 s0 s1 s7 s8 g h R:=by kernel_rfl
theorem f33I1_at (J:Nat→Sl→Int→Int→Int→Hp→Prop) (n:Nat) (s0:Sl) (s1:Int) (s7:Int) (s8:Int) (g:Nat→Value) (h:Hp):f33I1 J n (mkEnv 19 [(0,.slice s0.a s0.n s0.c),(1,.int .i64 s1),(7,.int .i64 s7),(8,.int .i64 s8)] g) h=J n s0 s1 s7 s8 h:=by kernel_rfl
theorem f33L1_rule  {R:Value→Hp→Prop} {s0:Sl} {s1:Int} {s7:Int} {s8:Int} {h0:Hp} (J:Nat→Sl→Int→Int→Int→Hp→Prop) (n0:Nat) (hi:J n0 s0 s1 s7 s8 h0)
  (hr:∀ n s0 s1 s7 s8 g h,J n s0 s1 s7 s8 h→f33L1  J n s0 s1 s7 s8 g h R):LoopEv (evC Try.prog tab lv33 (sub [1,0,1,0,0] body33)) (contAt Try.prog tab lv33 [1,0,1,0] body33 [] (bodyK Try.prog Try.f33 [] R)) [(0,.slice s0.a s0.n s0.c),(1,.int .i64 s1),(7,.int .i64 s7),(8,.int .i64 s8)] 19 h0:=by
 refine ⟨f33I1 J,n0,fun g=>by rw [f33I1_at]; exact hi,fun n env h hI=>?_⟩
 clear hi
 clear s0 s1 s7 s8
 obtain ⟨hlen,hI⟩:=Cond_true' hI
 have hlen:env.length=19:=by simpa using hlen
 obtain ⟨s0,es0,hI⟩:=DecL.out hI
 obtain ⟨s1,es1,hI⟩:=DecI.out hI
 obtain ⟨s7,es7,hI⟩:=DecI.out hI
 obtain ⟨s8,es8,hI⟩:=DecI.out hI
 rw [mkEnv_of (l:=[(0,.slice s0.a s0.n s0.c),(1,.int .i64 s1),(7,.int .i64 s7),(8,.int .i64 s8)]) hlen (by simp only [List.mem_cons,List.not_mem_nil,or_false,forall_eq_or_imp,forall_eq]; exact ⟨es0,es1,es7,es8⟩)]
 rw [f33L1_eq]
 exact hr n s0 s1 s7 s8 _ h hI
def f33F (a0:Sl) (a1:Int) (h:Hp) (R:Value→Hp→Prop):Prop :=
 LoopEv (evC Try.prog tab lv33 (sub [1,0,1,0,0] body33)) (contAt Try.prog tab lv33 [1,0,1,0] body33 [] (bodyK Try.prog Try.f33 [] R)) [(0,.slice a0.a a0.n a0.c),(1,.int .i64 a1),(7,.int .i64 (((a0.n:Nat):Int))),(8,.int .i64 0)] 19 h
theorem f33F_eq (a0:Sl) (a1:Int) (h:Hp) (R:Value→Hp→Prop):evF Try.prog tab lv33 Try.f33 body33 [] [.slice a0.a a0.n a0.c,.int .i64 a1] h R=f33F a0 a1 h R:=by kernel_rfl
theorem f33F_ok {a0:Sl} {a1:Int} {h:Hp} {R:Value→Hp→Prop} (hF:f33F a0 a1 h R):CallTo Try.prog 33 #[.slice a0.a a0.n a0.c,.int .i64 a1] h R :=
 callTo_of_ev (lv:=lv33) (hints:=[]) (c:=body33) (args:=[.slice a0.a a0.n a0.c,.int .i64 a1]) mixed tab_ok Try.func33 (by kernel_rfl) (by kernel_rfl) (by rw [f33F_eq]; exact hF)
/- slices.Delete[[]int,int] -/
noncomputable def body34:Code:=(Try.f34.body).getD .skip
def lv34 (m:Nat):List Nat:=[]
def f34F (a0:Sl) (a1:Int) (a2:Int) (h:Hp) (R:Value→Hp→Prop):Prop :=
 (0 ≤ (((a0.n:Nat):Int))∧(((a0.n:Nat):Int)) ≤ ((a0.c:Nat):Int))∧(0 ≤ a2∧a2 ≤ (((a0.n:Nat):Int)))∧(0 ≤ a1∧a1 ≤ a2)∧Cond (a1 == a2) (R (.slice a0.a a0.n a0.c:Value) h) ((0 ≤ a1∧a1 ≤ ((a0.c:Nat):Int))∧(0 ≤ (0:Int)∧(0:Int) ≤ a1)∧(0 ≤ a2∧a2 ≤ ((a0.n:Nat):Int))∧appSl 3 1 8 #[.int .i64 0] (if a0.c=(0:Int).toNat then a0.a else Option.map (fun x=>x.add ((0:Int).toNat * 1)) a0.a) (a1.toNat - (0:Int).toNat) (a0.c - (0:Int).toNat) (if a0.c=a2.toNat then a0.a else Option.map (fun x=>x.add (a2.toNat * 1)) a0.a) (a0.n - a2.toNat) h fun ra1 rn1 rc1 h1=>(0 ≤ (((a0.n:Nat):Int))∧(((a0.n:Nat):Int)) ≤ ((rc1:Nat):Int))∧(0 ≤ (((rn1:Nat):Int))∧(((rn1:Nat):Int)) ≤ (((a0.n:Nat):Int)))∧clrO #[.int .i64 0] (if rc1=(((rn1:Nat):Int)).toNat then ra1 else Option.map (fun x=>x.add ((((rn1:Nat):Int)).toNat * 1)) ra1) ((((a0.n:Nat):Int)).toNat - (((rn1:Nat):Int)).toNat) h1 fun h2=>R (.slice ra1 rn1 rc1:Value) h2)
theorem f34F_eq (a0:Sl) (a1:Int) (a2:Int) (h:Hp) (R:Value→Hp→Prop):evF Try.prog tab lv34 Try.f34 body34 [] [.slice a0.a a0.n a0.c,.int .i64 a1,.int .i64 a2] h R=f34F a0 a1 a2 h R:=by kernel_rfl
theorem f34F_ok {a0:Sl} {a1:Int} {a2:Int} {h:Hp} {R:Value→Hp→Prop} (hF:f34F a0 a1 a2 h R):CallTo Try.prog 34 #[.slice a0.a a0.n a0.c,.int .i64 a1,.int .i64 a2] h R :=
 callTo_of_ev (lv:=lv34) (hints:=[]) (c:=body34) (args:=[.slice a0.a a0.n a0.c,.int .i64 a1,.int .i64 a2]) mixed tab_ok Try.func34 (by kernel_rfl) (by kernel_rfl) (by rw [f34F_eq]; exact hF)
/- slices.Clone[[]larder/api.Place,larder/api.Place] -/
noncomputable def body36:Code:=(Try.f36.body).getD .skip
def lv36 (m:Nat):List Nat:=[]
def f36F (a0:Sl) (h:Hp) (R:Value→Hp→Prop):Prop :=
 Cond (Option.isNone a0.a) (R (.slice none 0 0:Value) h) (Let (h.push (.cells #[] 40)) fun h1=>appSl 40 2 24 #[.int .i64 0,.string ⟨#[]⟩] (some (nb h)) 0 0 a0.a a0.n h1 fun ra2 rn2 rc2 h2=>R (.slice ra2 rn2 rc2:Value) h2)
theorem f36F_eq (a0:Sl) (h:Hp) (R:Value→Hp→Prop):evF Try.prog tab lv36 Try.f36 body36 [] [.slice a0.a a0.n a0.c] h R=f36F a0 h R:=by kernel_rfl
theorem f36F_ok {a0:Sl} {h:Hp} {R:Value→Hp→Prop} (hF:f36F a0 h R):CallTo Try.prog 36 #[.slice a0.a a0.n a0.c] h R :=
 callTo_of_ev (lv:=lv36) (hints:=[]) (c:=body36) (args:=[.slice a0.a a0.n a0.c]) mixed tab_ok Try.func36 (by kernel_rfl) (by kernel_rfl) (by rw [f36F_eq]; exact hF)
/- slices.pdqsortCmpFunc[int] -/
noncomputable def body54:Code:=(Try.f54.body).getD .skip
def lv54 (m:Nat):List Nat:=if m=2 then [0,1,2,3,4,10,11] else []
def f54I1 (J:Nat→Sl→Int→Int→Int→Value→Bool→Bool→Hp→Prop) (n:Nat) (env:List Value) (h:Hp):Prop:=lenIs env 148 (DecL env 0 fun s0=>DecI .i64 env 1 fun s1=>DecI .i64 env 2 fun s2=>DecI .i64 env 3 fun s3=>DecV env 4 fun s4=>DecB env 10 fun s10=>DecB env 11 fun s11=>J n s0 s1 s2 s3 s4 s10 s11 h)
def f54K5 (J1:Nat→Sl→Int→Int→Int→Value→Bool→Bool→Hp→Prop) (n1:Nat) (x0:Sl) (x1:Int) (x2:Int) (x3:Int) (x4:Value) (x10:Bool) (x11:Bool) (x12:Int) (x13:Int) (x97:Bool) (h:Hp) (R:Value→Hp→Prop):Prop :=
 Cond x97 (CallTo Try.prog 72 #[.slice x0.a x0.n x0.c,.int .i64 x1,.int .i64 x2,.int .i64 x13,x4] h fun r h8=>∃ t103:Int,r=.int .i64 t103∧∃ m,m < n1∧J1 m x0 t103 x2 x3 x4 x10 x11 h8) (CallTo Try.prog 73 #[.slice x0.a x0.n x0.c,.int .i64 x1,.int .i64 x2,.int .i64 x13,x4] h fun r h9=>∃ t111_0:Int,∃ t111_1:Bool,r=.tuple #[.int .i64 t111_0,.bool t111_1]∧(8:Int) ≠ 0∧Cond (decide ((IntKind.wrap .i64 (t111_0 - x1)) < (IntKind.wrap .i64 (x2 - t111_0)))) (CallTo Try.prog 54 #[.slice x0.a x0.n x0.c,.int .i64 x1,.int .i64 t111_0,.int .i64 x3,x4] h9 fun r h10=>r=.tuple #[]∧∃ m,m < n1∧J1 m x0 (IntKind.wrap .i64 (t111_0 + (1:Int))) x2 x3 x4 (decide ((IntKind.wrap .i64 (t111_0 - x1)) ≥ (IntKind.wrap .i64 (Int.tdiv x12 (8:Int))))) t111_1 h10) (CallTo Try.prog 54 #[.slice x0.a x0.n x0.c,.int .i64 (IntKind.wrap .i64 (t111_0 + (1:Int))),.int .i64 x2,.int .i64 x3,x4] h9 fun r h11=>r=.tuple #[]∧∃ m,m < n1∧J1 m x0 x1 t111_0 x3 x4 (decide ((IntKind.wrap .i64 (x2 - t111_0)) ≥ (IntKind.wrap .i64 (Int.tdiv x12 (8:Int))))) t111_1 h11))
def f54K4 (J1:Nat→Sl→Int→Int→Int→Value→Bool→Bool→Hp→Prop) (n1:Nat) (x0:Sl) (x1:Int) (x2:Int) (x3:Int) (x4:Value) (x10:Bool) (x11:Bool) (x12:Int) (x13:Int) (h:Hp) (R:Value→Hp→Prop):Prop :=
 Cond (decide (x1 > (0:Int))) ((0 ≤ (IntKind.wrap .i64 (x1 - (1:Int)))∧(IntKind.wrap .i64 (x1 - (1:Int))) < ((x0.n:Nat):Int))∧PtrOk x0.a fun p88=>∃ t89:Int,cell h (p88.add ((IntKind.wrap .i64 (x1 - (1:Int))).toNat * 1))=some (.int .i64 t89)∧(0 ≤ x13∧x13 < ((x0.n:Nat):Int))∧PtrOk x0.a fun p92=>∃ t93:Int,cell h (p92.add (x13.toNat * 1))=some (.int .i64 t93)∧Dyn Try.prog x4 [.int .i64 t89,.int .i64 t93] h fun r h7=>∃ t94:Int,r=.int .i64 t94∧f54K5 J1 n1 x0 x1 x2 x3 x4 x10 x11 x12 x13 (!(decide (t94 < (0:Int)))) h7 R) (f54K5 J1 n1 x0 x1 x2 x3 x4 x10 x11 x12 x13 false h R)
def f54K3 (J1:Nat→Sl→Int→Int→Int→Value→Bool→Bool→Hp→Prop) (n1:Nat) (x0:Sl) (x1:Int) (x2:Int) (x3:Int) (x4:Value) (x10:Bool) (x11:Bool) (x12:Int) (x13:Int) (x75:Bool) (h:Hp) (R:Value→Hp→Prop):Prop :=
 Cond x75 (CallTo Try.prog 71 #[.slice x0.a x0.n x0.c,.int .i64 x1,.int .i64 x2,x4] h fun r h6=>∃ t80:Bool,r=.bool t80∧Cond t80 (R (.tuple #[]:Value) h6) (f54K4 J1 n1 x0 x1 x2 x3 x4 x10 x11 x12 x13 h6 R)) (f54K4 J1 n1 x0 x1 x2 x3 x4 x10 x11 x12 x13 h R)
def f54K2 (J1:Nat→Sl→Int→Int→Int→Value→Bool→Bool→Hp→Prop) (n1:Nat) (x0:Sl) (x1:Int) (x2:Int) (x3:Int) (x4:Value) (x10:Bool) (x11:Bool) (x12:Int) (x13:Int) (x14:Int) (h:Hp) (R:Value→Hp→Prop):Prop :=
 Cond x10 (Cond x11 (f54K3 J1 n1 x0 x1 x2 x3 x4 x10 x11 x12 x13 (x14 == (1:Int)) h R) (f54K3 J1 n1 x0 x1 x2 x3 x4 x10 x11 x12 x13 false h R)) (f54K3 J1 n1 x0 x1 x2 x3 x4 x10 x11 x12 x13 false h R)
def f54K1 (J1:Nat→Sl→Int→Int→Int→Value→Bool→Bool→Hp→Prop) (n1:Nat) (x0:Sl) (x1:Int) (x2:Int) (x3:Int) (x4:Value) (x10:Bool) (x11:Bool) (x12:Int) (h:Hp) (R:Value→Hp→Prop):Prop :=
 CallTo Try.prog 69 #[.slice x0.a x0.n x0.c,.int .i64 x1,.int .i64 x2,x4] h fun r h4=>∃ t52_0:Int,∃ t52_1:Int,r=.tuple #[.int .i64 t52_0,.int .i64 t52_1]∧Cond (t52_1 == (2:Int)) (CallTo Try.prog 70 #[.slice x0.a x0.n x0.c,.int .i64 x1,.int .i64 x2,x4] h4 fun r h5=>r=.tuple #[]∧f54K2 J1 n1 x0 x1 x2 x3 x4 x10 x11 x12 (IntKind.wrap .i64 ((IntKind.wrap .i64 (x2 - (1:Int))) - (IntKind.wrap .i64 (t52_0 - x1)))) (1:Int) h5 R) (f54K2 J1 n1 x0 x1 x2 x3 x4 x10 x11 x12 t52_0 t52_1 h4 R)
def f54L1 (J1:Nat→Sl→Int→Int→Int→Value→Bool→Bool→Hp→Prop) (n1:Nat) (s0:Sl) (s1:Int) (s2:Int) (s3:Int) (s4:Value) (s10:Bool) (s11:Bool) (g:Nat→Value) (h:Hp) (R:Value→Hp→Prop):Prop :=
 Cond (decide ((IntKind.wrap .i64 (s2 - s1)) ≤ (12:Int))) (CallTo Try.prog 66 #[.slice s0.a s0.n s0.c,.int .i64 s1,.int .i64 s2,s4] h fun r h1=>r=.tuple #[]∧R (.tuple #[]:Value) h1) (Cond (s3 == (0:Int)) (CallTo Try.prog 67 #[.slice s0.a s0.n s0.c,.int .i64 s1,.int .i64 s2,s4] h fun r h2=>r=.tuple #[]∧R (.tuple #[]:Value) h2) (Cond (!s10) (CallTo Try.prog 68 #[.slice s0.a s0.n s0.c,.int .i64 s1,.int .i64 s2,s4] h fun r h3=>r=.tuple #[]∧f54K1 J1 n1 s0 s1 s2 (IntKind.wrap .i64 (s3 - (1:Int))) s4 s10 s11 (IntKind.wrap .i64 (s2 - s1)) h3 R) (f54K1 J1 n1 s0 s1 s2 s3 s4 s10 s11 (IntKind.wrap .i64 (s2 - s1)) h R)))
theorem f54L1_eq (J1:Nat→Sl→Int→Int→Int→Value→Bool→Bool→Hp→Prop) (n1:Nat) (s0:Sl) (s1:Int) (s2:Int) (s3:Int) (s4:Value) (s10:Bool) (s11:Bool) (g:Nat→Value) (h:Hp) (R:Value→Hp→Prop):(evC Try.prog tab lv54 (sub [1,1,0,0] body54)) (loopK (f54I1 J1) n1 (contAt Try.prog tab lv54 [1,1,0] body54 [] (bodyK Try.prog Try.f54 [] R))) (mkEnv 148 [(0,.slice s0.a s0.n s0.c),(1,.int .i64 s1),(2,.int .i64 s2),(3,.int .i64 s3),(4,s4),(10,.bool s10),(11,.bool s11)] g) h=f54L1 J1 n1 s0 s1 s2 s3 s4 s10 s11 g h R:=by kernel_rfl
theorem f54I1_at (J:Nat→Sl→Int→Int→Int→Value→Bool→Bool→Hp→Prop) (n:Nat) (s0:Sl) (s1:Int) (s2:Int) (s3:Int) (s4:Value) (s10:Bool) (s11:Bool) (g:Nat→Value) (h:Hp):f54I1 J n (mkEnv 148 [(0,.slice s0.a s0.n s0.c),(1,.int .i64 s1),(2,.int .i64 s2),(3,.int .i64 s3),(4,s4),(10,.bool s10),(11,.bool s11)] g) h=J n s0 s1 s2 s3 s4 s10 s11 h:=by kernel_rfl
theorem f54L1_rule  {R:Value→Hp→Prop} {s0:Sl} {s1:Int} {s2:Int} {s3:Int} {s4:Value} {s10:Bool} {s11:Bool} {h0:Hp} (J:Nat→Sl→Int→Int→Int→Value→Bool→Bool→Hp→Prop) (n0:Nat) (hi:J n0 s0 s1 s2 s3 s4 s10 s11 h0)
  (hr:∀ n s0 s1 s2 s3 s4 s10 s11 g h,J n s0 s1 s2 s3 s4 s10 s11 h→f54L1  J n s0 s1 s2 s3 s4 s10 s11 g h R):LoopEv (evC Try.prog tab lv54 (sub [1,1,0,0] body54)) (contAt Try.prog tab lv54 [1,1,0] body54 [] (bodyK Try.prog Try.f54 [] R)) [(0,.slice s0.a s0.n s0.c),(1,.int .i64 s1),(2,.int .i64 s2),(3,.int .i64 s3),(4,s4),(10,.bool s10),(11,.bool s11)] 148 h0:=by
 refine ⟨f54I1 J,n0,fun g=>by rw [f54I1_at]; exact hi,fun n env h hI=>?_⟩
 clear hi
 clear s0 s1 s2 s3 s4 s10 s11
 obtain ⟨hlen,hI⟩:=Cond_true' hI
 have hlen:env.length=148:=by simpa using hlen
 obtain ⟨s0,es0,hI⟩:=DecL.out hI
 obtain ⟨s1,es1,hI⟩:=DecI.out hI
 obtain ⟨s2,es2,hI⟩:=DecI.out hI
 obtain ⟨s3,es3,hI⟩:=DecI.out hI
 obtain ⟨s4,es4,hI⟩:=DecV.out hI
 obtain ⟨s10,es10,hI⟩:=DecB.out hI
 obtain ⟨s11,es11,hI⟩:=DecB.out hI
 rw [mkEnv_of (l:=[(0,.slice s0.a s0.n s0.c),(1,.int .i64 s1),(2,.int .i64 s2),(3,.int .i64 s3),(4,s4),(10,.bool s10),(11,.bool s11)]) hlen (by simp only [List.mem_cons,List.not_mem_nil,or_false,forall_eq_or_imp,forall_eq]; exact ⟨es0,es1,es2,es3,es4,es10,es11⟩)]
 rw [f54L1_eq]
 exact hr n s0 s1 s2 s3 s4 s10 s11 _ h hI
def f54F (a0:Sl) (a1:Int) (a2:Int) (a3:Int) (a4:Value) (h:Hp) (R:Value→Hp→Prop):Prop :=
 LoopEv (evC Try.prog tab lv54 (sub [1,1,0,0] body54)) (contAt Try.prog tab lv54 [1,1,0] body54 [] (bodyK Try.prog Try.f54 [] R)) [(0,.slice a0.a a0.n a0.c),(1,.int .i64 a1),(2,.int .i64 a2),(3,.int .i64 a3),(4,a4),(10,.bool true),(11,.bool true)] 148 h
theorem f54F_eq (a0:Sl) (a1:Int) (a2:Int) (a3:Int) (a4:Value) (h:Hp) (R:Value→Hp→Prop):evF Try.prog tab lv54 Try.f54 body54 [] [.slice a0.a a0.n a0.c,.int .i64 a1,.int .i64 a2,.int .i64 a3,a4] h R=f54F a0 a1 a2 a3 a4 h R:=by kernel_rfl
theorem f54F_ok {a0:Sl} {a1:Int} {a2:Int} {a3:Int} {a4:Value} {h:Hp} {R:Value→Hp→Prop} (hF:f54F a0 a1 a2 a3 a4 h R):CallTo Try.prog 54 #[.slice a0.a a0.n a0.c,.int .i64 a1,.int .i64 a2,.int .i64 a3,a4] h R :=
 callTo_of_ev (lv:=lv54) (hints:=[]) (c:=body54) (args:=[.slice a0.a a0.n a0.c,.int .i64 a1,.int .i64 a2,.int .i64 a3,a4]) mixed tab_ok Try.func54 (by kernel_rfl) (by kernel_rfl) (by rw [f54F_eq]; exact hF)
/- slices.insertionSortCmpFunc[int] -/
noncomputable def body66:Code:=(Try.f66.body).getD .skip
def lv66 (m:Nat):List Nat:=if m=1 then [0,1,2,3,8] else if m=4 then [0,1,2,3,8,9] else []
def f66I1 (J:Nat→Sl→Int→Int→Value→Int→Hp→Prop) (n:Nat) (env:List Value) (h:Hp):Prop:=lenIs env 53 (DecL env 0 fun s0=>DecI .i64 env 1 fun s1=>DecI .i64 env 2 fun s2=>DecV env 3 fun s3=>DecI .i64 env 8 fun s8=>J n s0 s1 s2 s3 s8 h)
def f66I2 (J:Nat→Sl→Int→Int→Value→Int→Int→Hp→Prop) (n:Nat) (env:List Value) (h:Hp):Prop:=lenIs env 53 (DecL env 0 fun s0=>DecI .i64 env 1 fun s1=>DecI .i64 env 2 fun s2=>DecV env 3 fun s3=>DecI .i64 env 8 fun s8=>DecI .i64 env 9 fun s9=>J n s0 s1 s2 s3 s8 s9 h)
def f66K1 (J1:Nat→Sl→Int→Int→Value→Int→Hp→Prop) (n1:Nat) (J2:Nat→Sl→Int→Int→Value→Int→Int→Hp→Prop) (n2:Nat) (x0:Sl) (x1:Int) (x2:Int) (x3:Value) (x8:Int) (x9:Int) (x34:Bool) (h:Hp) (R:Value→Hp→Prop):Prop :=
 Cond x34 ((0 ≤ (IntKind.wrap .i64 (x9 - (1:Int)))∧(IntKind.wrap .i64 (x9 - (1:Int))) < ((x0.n:Nat):Int))∧PtrOk x0.a fun p45=>∃ t46:Int,cell h (p45.add ((IntKind.wrap .i64 (x9 - (1:Int))).toNat * 1))=some (.int .i64 t46)∧(0 ≤ x9∧x9 < ((x0.n:Nat):Int))∧PtrOk x0.a fun p49=>∃ t50:Int,cell h (p49.add (x9.toNat * 1))=some (.int .i64 t50)∧(0 ≤ x9∧x9 < ((x0.n:Nat):Int))∧PtrOk x0.a fun p51=>stOk h (p51.add (x9.toNat * 1))∧Let (setc h (p51.add (x9.toNat * 1)) (.int .i64 t46)) fun h2=>(0 ≤ (IntKind.wrap .i64 (x9 - (1:Int)))∧(IntKind.wrap .i64 (x9 - (1:Int))) < ((x0.n:Nat):Int))∧PtrOk x0.a fun p52=>stOk h2 (p52.add ((IntKind.wrap .i64 (x9 - (1:Int))).toNat * 1))∧Let (setc h2 (p52.add ((IntKind.wrap .i64 (x9 - (1:Int))).toNat * 1)) (.int .i64 t50)) fun h3=>∃ m,m < n2∧J2 m x0 x1 x2 x3 x8 (IntKind.wrap .i64 (x9 - (1:Int))) h3) (∃ m,m < n1∧J1 m x0 x1 x2 x3 (IntKind.wrap .i64 (x8 + (1:Int))) h)
def f66L1 (J1:Nat→Sl→Int→Int→Value→Int→Hp→Prop) (n1:Nat) (s0:Sl) (s1:Int) (s2:Int) (s3:Value) (s8:Int) (g:Nat→Value) (h:Hp) (R:Value→Hp→Prop):Prop :=
 Cond (decide (s8 < s2)) (LoopEv (evC Try.prog tab lv66 (sub [1,0,0,1,0,0,1,0,0] body66)) (contAt Try.prog tab lv66 [1,0,0,1,0,0,1,0] body66 [loopK (f66I1 J1) n1] (bodyK Try.prog Try.f66 [] R)) [(0,.slice s0.a s0.n s0.c),(1,.int .i64 s1),(2,.int .i64 s2),(3,s3),(8,.int .i64 s8),(9,.int .i64 s8)] 53 h) (R (.tuple #[]:Value) h)
theorem f66L1_eq (J1:Nat→Sl→Int→Int→Value→Int→Hp→Prop) (n1:Nat) (s0:Sl) (s1:Int) (s2:Int) (s3:Value) (s8:Int) (g:Nat→Value) (h:Hp) (R:Value→Hp→Prop):(evC Try.prog tab lv66 (sub [1,0,0] body66)) (loopK (f66I1 J1) n1 (contAt Try.prog tab lv66 [1,0] body66 [] (bodyK Try.prog Try.f66 [] R))) (mkEnv 53 [(0,.slice s0.a s0.n s0.c),(1,.int .i64 s1),(2,.int .i64 s2),(3,s3),(8,.int .i64 s8)] g) h=f66L1 J1 n1 s0 s1 s2 s3 s8 g h R:=by kernel_rfl
theorem f66I1_at (J:Nat→Sl→Int→Int→Value→Int→Hp→Prop) (n:Nat) (s0:Sl) (s1:Int) (s2:Int) (s3:Value) (s8:Int) (g:Nat→Value) (h:Hp):f66I1 J n (mkEnv 53 [(0,.slice s0.a s0.n s0.c),(1,.int .i64 s1),(2,.int .i64 s2),(3,s3),(8,.int .i64 s8)] g) h=J n s0 s1 s2 s3 s8 h:=by kernel_rfl
theorem f66L1_rule  {R:Value→Hp→Prop} {s0:Sl} {s1:Int} {s2:Int} {s3:Value} {s8:Int} {h0:Hp} (J:Nat→Sl→Int→Int→Value→Int→Hp→Prop) (n0:Nat) (hi:J n0 s0 s1 s2 s3 s8 h0)
  (hr:∀ n s0 s1 s2 s3 s8 g h,J n s0 s1 s2 s3 s8 h→f66L1  J n s0 s1 s2 s3 s8 g h R):LoopEv (evC Try.prog tab lv66 (sub [1,0,0] body66)) (contAt Try.prog tab lv66 [1,0] body66 [] (bodyK Try.prog Try.f66 [] R)) [(0,.slice s0.a s0.n s0.c),(1,.int .i64 s1),(2,.int .i64 s2),(3,s3),(8,.int .i64 s8)] 53 h0:=by
 refine ⟨f66I1 J,n0,fun g=>by rw [f66I1_at]; exact hi,fun n env h hI=>?_⟩
 clear hi
 clear s0 s1 s2 s3 s8
 obtain ⟨hlen,hI⟩:=Cond_true' hI
 have hlen:env.length=53:=by simpa using hlen
 obtain ⟨s0,es0,hI⟩:=DecL.out hI
 obtain ⟨s1,es1,hI⟩:=DecI.out hI
 obtain ⟨s2,es2,hI⟩:=DecI.out hI
 obtain ⟨s3,es3,hI⟩:=DecV.out hI
 obtain ⟨s8,es8,hI⟩:=DecI.out hI
 rw [mkEnv_of (l:=[(0,.slice s0.a s0.n s0.c),(1,.int .i64 s1),(2,.int .i64 s2),(3,s3),(8,.int .i64 s8)]) hlen (by simp only [List.mem_cons,List.not_mem_nil,or_false,forall_eq_or_imp,forall_eq]; exact ⟨es0,es1,es2,es3,es8⟩)]
 rw [f66L1_eq]
 exact hr n s0 s1 s2 s3 s8 _ h hI
def f66L2 (J1:Nat→Sl→Int→Int→Value→Int→Hp→Prop) (n1:Nat) (J2:Nat→Sl→Int→Int→Value→Int→Int→Hp→Prop) (n2:Nat) (s0:Sl) (s1:Int) (s2:Int) (s3:Value) (s8:Int) (s9:Int) (g:Nat→Value) (h:Hp) (R:Value→Hp→Prop):Prop :=
 Cond (decide (s9 > s1)) ((0 ≤ s9∧s9 < ((s0.n:Nat):Int))∧PtrOk s0.a fun p25=>∃ t26:Int,cell h (p25.add (s9.toNat * 1))=some (.int .i64 t26)∧(0 ≤ (IntKind.wrap .i64 (s9 - (1:Int)))∧(IntKind.wrap .i64 (s9 - (1:Int))) < ((s0.n:Nat):Int))∧PtrOk s0.a fun p30=>∃ t31:Int,cell h (p30.add ((IntKind.wrap .i64 (s9 - (1:Int))).toNat * 1))=some (.int .i64 t31)∧Dyn Try.prog s3 [.int .i64 t26,.int .i64 t31] h fun r h1=>∃ t32:Int,r=.int .i64 t32∧f66K1 J1 n1 J2 n2 s0 s1 s2 s3 s8 s9 (decide (t32 < (0:Int))) h1 R) (f66K1 J1 n1 J2 n2 s0 s1 s2 s3 s8 s9 false h R)
theorem f66L2_eq (J1:Nat→Sl→Int→Int→Value→Int→Hp→Prop) (n1:Nat) (J2:Nat→Sl→Int→Int→Value→Int→Int→Hp→Prop) (n2:Nat) (s0:Sl) (s1:Int) (s2:Int) (s3:Value) (s8:Int) (s9:Int) (g:Nat→Value) (h:Hp) (R:Value→Hp→Prop):(evC Try.prog tab lv66 (sub [1,0,0,1,0,0,1,0,0] body66)) (loopK (f66I2 J2) n2 (contAt Try.prog tab lv66 [1,0,0,1,0,0,1,0] body66 [loopK (f66I1 J1) n1] (bodyK Try.prog Try.f66 [] R))) (mkEnv 53 [(0,.slice s0.a s0.n s0.c),(1,.int .i64 s1),(2,.int .i64 s2),(3,s3),(8,.int .i64 s8),(9,.int .i64 s9)] g) h=f66L2 J1 n1 J2 n2 s0 s1 s2 s3 s8 s9 g h R:=by kernel_rfl
theorem f66I2_at (J:Nat→Sl→Int→Int→Value→Int→Int→Hp→Prop) (n:Nat) (s0:Sl) (s1:Int) (s2:Int) (s3:Value) (s8:Int) (s9:Int) (g:Nat→Value) (h:Hp):f66I2 J n (mkEnv 53 [(0,.slice s0.a s0.n s0.c),(1,.int .i64 s1),(2,.int .i64 s2),(3,s3),(8,.int .i64 s8),(9,.int .i64 s9)] g) h=J n s0 s1 s2 s3 s8 s9 h:=by kernel_rfl
theorem f66L2_rule {J1:Nat→Sl→Int→Int→Value→Int→Hp→Prop} {n1:Nat} {R:Value→Hp→Prop} {s0:Sl} {s1:Int} {s2:Int} {s3:Value} {s8:Int} {s9:Int} {h0:Hp} (J:Nat→Sl→Int→Int→Value→Int→Int→Hp→Prop) (n0:Nat) (hi:J n0 s0 s1 s2 s3 s8 s9 h0)
  (hr:∀ n s0 s1 s2 s3 s8 s9 g h,J n s0 s1 s2 s3 s8 s9 h→f66L2 J1 n1 J n s0 s1 s2 s3 s8 s9 g h R):LoopEv (evC Try.prog tab lv66 (sub [1,0,0,1,0,0,1,0,0] body66)) (contAt Try.prog tab lv66 [1,0,0,1,0,0,1,0] body66 [loopK (f66I1 J1) n1] (bodyK Try.prog Try.f66 [] R)) [(0,.slice s0.a s0.n s0.c),(1,.int .i64 s1),(2,.int .i64 s2),(3,s3),(8,.int .i64 s8),(9,.int .i64 s9)] 53 h0:=by
 refine ⟨f66I2 J,n0,fun g=>by rw [f66I2_at]; exact hi,fun n env h hI=>?_⟩
 clear hi
 clear s0 s1 s2 s3 s8 s9
 obtain ⟨hlen,hI⟩:=Cond_true' hI
 have hlen:env.length=53:=by simpa using hlen
 obtain ⟨s0,es0,hI⟩:=DecL.out hI
 obtain ⟨s1,es1,hI⟩:=DecI.out hI
 obtain ⟨s2,es2,hI⟩:=DecI.out hI
 obtain ⟨s3,es3,hI⟩:=DecV.out hI
 obtain ⟨s8,es8,hI⟩:=DecI.out hI
 obtain ⟨s9,es9,hI⟩:=DecI.out hI
 rw [mkEnv_of (l:=[(0,.slice s0.a s0.n s0.c),(1,.int .i64 s1),(2,.int .i64 s2),(3,s3),(8,.int .i64 s8),(9,.int .i64 s9)]) hlen (by simp only [List.mem_cons,List.not_mem_nil,or_false,forall_eq_or_imp,forall_eq]; exact ⟨es0,es1,es2,es3,es8,es9⟩)]
 rw [f66L2_eq]
 exact hr n s0 s1 s2 s3 s8 s9 _ h hI
def f66F (a0:Sl) (a1:Int) (a2:Int) (a3:Value) (h:Hp) (R:Value→Hp→Prop):Prop :=
 LoopEv (evC Try.prog tab lv66 (sub [1,0,0] body66)) (contAt Try.prog tab lv66 [1,0] body66 [] (bodyK Try.prog Try.f66 [] R)) [(0,.slice a0.a a0.n a0.c),(1,.int .i64 a1),(2,.int .i64 a2),(3,a3),(8,.int .i64 (IntKind.wrap .i64 (a1 + (1:Int))))] 53 h
theorem f66F_eq (a0:Sl) (a1:Int) (a2:Int) (a3:Value) (h:Hp) (R:Value→Hp→Prop):evF Try.prog tab lv66 Try.f66 body66 [] [.slice a0.a a0.n a0.c,.int .i64 a1,.int .i64 a2,a3] h R=f66F a0 a1 a2 a3 h R:=by kernel_rfl
theorem f66F_ok {a0:Sl} {a1:Int} {a2:Int} {a3:Value} {h:Hp} {R:Value→Hp→Prop} (hF:f66F a0 a1 a2 a3 h R):CallTo Try.prog 66 #[.slice a0.a a0.n a0.c,.int .i64 a1,.int .i64 a2,a3] h R :=
 callTo_of_ev (lv:=lv66) (hints:=[]) (c:=body66) (args:=[.slice a0.a a0.n a0.c,.int .i64 a1,.int .i64 a2,a3]) mixed tab_ok Try.func66 (by kernel_rfl) (by kernel_rfl) (by rw [f66F_eq]; exact hF)
end Go.Ev
