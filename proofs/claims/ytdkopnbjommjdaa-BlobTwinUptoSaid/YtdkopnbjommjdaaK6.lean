/- A region whose order is drawn: one order stands for all. No condition. -/
import Derived.Test.YtdkopnbjommjdaaK5
import Derived.Orders
set_option linter.all false
namespace Go.Ev

/-! ### A region whose order is drawn: what may be taken first, and what must stay as it was -/
structure Pend where
  i : Nat
  W : Nat → Bool
  S : Hp → Prop
def waits (o : Oper) (W : Nat → Bool) : Bool := o.after.any fun e => Region.binds .any e && W e.on
def Pend.upd (p : Pend) (j : Nat) (o : Oper) : Pend := ⟨p.i, fun k => p.W k || (k == j && waits o p.W), p.S⟩
/-- Operation number j is taken ahead of its time: whoever waits for it waits for all that it waits for. -/
def hypL (ps : List Pend) (j : Nat) (o : Oper) : List Pend := ps.map fun p => p.upd j o
/-- An operation has come up: what it waited for has come up too. -/
def runL (ps : List Pend) (o : Oper) : List Pend := ps.filter fun p => !waits o p.W

def YS (P : Program) (ops : Array Oper) (w0 : World) (S : Hp → Prop) (o : Oper) (v : Value) (a : Act) : Prop :=
  (Region.wanted o (yielded ops a.tmps) = true ∧ ∀ w, Same w0 w → S w.heap →
    ((execOp a.eval o).run P w = .ok (.value v) w ∨ ∃ f args, (execOp a.eval o).run P w = .ok (.enter f args) w ∧
      Calls P f args w fun e w' => e = .returned v ∧ Same w w' ∧ w'.heap = w.heap)) ∨
  (Region.wanted o (yielded ops a.tmps) = false ∧ v = undef)

section
variable {P : Program} {ops : Array Oper} {Q : Exit → Act → World → Prop} {w0 : World} {S : Hp → Prop}

theorem YS.of_same {o : Oper} {v : Value} {a a' : Act} (hy : YS P ops w0 S o v a) (he : execOp a'.eval o = execOp a.eval o)
    (hw : Region.wanted o (yielded ops a'.tmps) = Region.wanted o (yielded ops a.tmps)) : YS P ops w0 S o v a' := by
  unfold YS at *
  rw [he, hw]
  exact hy
theorem YS.wpOp {i : Nat} {o : Oper} {v : Value} {a : Act} {w : World} {K : Act → World → Prop} (hi : ops[i]? = some o) (hy : YS P ops w0 S o v a) (hs : Same w0 w) (hS : S w.heap)
    (hk : ∀ w', Same w w' → w'.heap = w.heap → K (a.put o.dst v) w') : wpOp P ops Q i K a w := by
  unfold Go.wpOp
  simp only [hi]
  rcases hy with ⟨hw, hv⟩ | ⟨hw, rfl⟩
  · simp only [hw, if_true, Oper.wp]
    refine .inl ?_
    rcases hv w hs hS with h | ⟨f, args, h, hc⟩
    · rw [h, Oper.upon_value]; exact hk w (Same.refl _) rfl
    · rw [h, Oper.upon_enter]
      refine hc.mono fun e w' ⟨he, hs', hh⟩ => ?_
      subst he
      exact hk w' hs' hh
  · simp only [hw, Bool.false_eq_true, if_false]; exact hk w (Same.refl _) rfl
theorem wpOp_putS {j : Nat} {oi oj : Oper} {v : Value} (hj : ops[j]? = some oj) (hap : oi.apart ops oj = true)
    (hsi : ∀ cs b, oi.op ≠ .select cs b) (hsj : ∀ cs b, oj.op ≠ .select cs b)
    (hQ : ∀ c a w, ¬ Q (.panic c) a w) {K : Act → World → Prop} {a : Act} {w : World}
    (hy : YS P ops w0 S oi v a) (h : wpOp P ops Q j K (a.put oi.dst v) w) :
    wpOp P ops Q j (fun a' w' => YS P ops w0 S oi v a' ∧ K (a'.put oi.dst v) w') a w := by
  obtain ⟨h1, h2, h3⟩ := Oper.apart_spec hap
  have keep : ∀ (a : Act), YS P ops w0 S oi v a → ∀ u, YS P ops w0 S oi v (a.put oj.dst u) := fun a hy u =>
    hy.of_same (execOp_put oi hsi a oj.dst u h3) (wanted_put oi a oj.dst u h3)
  have keepD : ∀ d, YS P ops w0 S oi v { a with defers := d :: a.defers } := fun d => hy.of_same rfl rfl
  unfold Go.wpOp at *
  simp only [hj] at *
  rw [wanted_put oj a oi.dst v h1] at h
  split
  · rename_i hw
    simp only [hw, if_true] at h
    rcases h with h | ⟨hasks, hlets⟩
    case inr => exact .inr ⟨by unfold Oper.asks at *; rw [execOp_put oj hsj a oi.dst v h1] at hasks; exact hasks, hlets⟩
    refine .inl ?_
    unfold Oper.wp at *
    rw [execOp_put oj hsj a oi.dst v h1] at h
    generalize (execOp a.eval oj).run P w = r at *
    cases r with
    | ok n w' =>
      cases n <;> simp only [Oper.upon] at h ⊢
      case value u => exact ⟨keep a hy u, by rw [← Act.put_comm a v u h2]; exact h⟩
      case skip => exact ⟨keep a hy _, by rw [← Act.put_comm a v undef h2]; exact h⟩
      case defer d =>
        refine ⟨keep _ (keepD d) _, ?_⟩
        rw [← Act.put_comm _ v undef h2, ← Act.put_defers]
        exact h
      case enter f args =>
        refine Calls.mono h fun e w'' he => ?_
        cases e with
        | returned u => exact ⟨keep a hy u, by rw [← Act.put_comm a v u h2]; exact he⟩
        | panicked c => exact absurd he (hQ _ _ _)
        | outgrown => exact he
      case row row args => exact Rows.mono h fun u w'' he => ⟨keep a hy u, by rw [← Act.put_comm a v u h2]; exact he⟩
    | halt x w' =>
      cases x <;> simp only [Oper.upon] at h ⊢
      case panic u => exact absurd h (hQ _ _ _)
  · rename_i hw
    simp only [hw] at h
    exact ⟨keep a hy _, by rw [← Act.put_comm a v undef h2]; exact h⟩

def wpP (P : Program) (ops : Array Oper) (Q : Exit → Act → World → Prop) (w0 : World) : Nat → List Pend → Array Bool → Act → Hp → Prop
  | 0, _, listed, a, h => Region.ready .any ops listed = [] ∧ ∀ w, Same w0 w → w.heap = h → Q .normal a w
  | fuel + 1, ps, listed, a, h => ∀ w, Same w0 w → w.heap = h →
    (Region.ready .any ops listed = [] → Q .normal a w) ∧
    ∀ j o, j ∈ Region.ready .any ops listed → ops[j]? = some o →
      wpOp P ops Q j (fun a' w' => Same w0 w' ∧ (∀ p ∈ runL ps o, p.S w'.heap) ∧ wpP P ops Q w0 fuel (runL ps o) (listed.setIfInBounds j true) a' w'.heap) a w

theorem wpAny_of_P : ∀ (fuel : Nat) (ps : List Pend) (listed : Array Bool) (a : Act) (w : World), Same w0 w → wpP P ops Q w0 fuel ps listed a w.heap → wpAny P .any ops Q fuel listed a w
  | 0, _, _, _, w, hs, h => ⟨h.1, h.2 w hs rfl⟩
  | fuel + 1, _, listed, a, w, hs, h => ⟨(h w hs rfl).1, fun i hi => by
      obtain ⟨_, o, ho, _⟩ := mem_ready.1 hi
      exact wpOp_mono (fun a' w' h' => wpAny_of_P fuel _ _ a' w' h'.1 h'.2.2) ((h w hs rfl).2 i o hi ho)⟩
theorem runL_sub {ps ps' : List Pend} {o : Oper} (h : ∀ p ∈ ps, p ∈ ps') : ∀ p ∈ runL ps o, p ∈ runL ps' o := by
  intro p hp
  unfold runL at *
  rw [List.mem_filter] at *
  exact ⟨h p hp.1, hp.2⟩
theorem wpP_sub : ∀ (fuel : Nat) (ps ps' : List Pend) (listed : Array Bool) (a : Act) (h : Hp), (∀ p ∈ ps, p ∈ ps') → wpP P ops Q w0 fuel ps' listed a h → wpP P ops Q w0 fuel ps listed a h
  | 0, _, _, _, _, _, _, H => H
  | fuel + 1, _, _, _, _, _, hsub, H => fun w hs hw => ⟨(H w hs hw).1, fun j o hj ho =>
      wpOp_mono (fun a' _ h' => ⟨h'.1, fun p hp => h'.2.1 p (runL_sub hsub p hp), wpP_sub fuel _ _ _ a' _ (runL_sub hsub) h'.2.2⟩) ((H w hs hw).2 j o hj ho)⟩

theorem waits_ext {j : Nat} {o : Oper} {listed : Array Bool} {i : Nat} (hj : j ∈ Region.ready .any ops listed) (ho : ops[j]? = some o) (hi : listed.getD i false = false) (W : Nat → Bool) (b : Bool) :
    waits o (fun k => W k || (k == i && b)) = waits o W := by
  obtain ⟨_, o', ho', hall⟩ := mem_ready.1 hj
  rw [ho] at ho'
  obtain rfl : o = o' := by simpa using ho'
  unfold waits
  rw [Bool.eq_iff_iff]
  simp only [Array.any_eq_true', Bool.and_eq_true]
  constructor
  · rintro ⟨e, he, hb, hw⟩
    refine ⟨e, he, hb, ?_⟩
    simp only [Bool.or_eq_true, Bool.and_eq_true, beq_iff_eq] at hw
    rcases hw with hw | ⟨rfl, _⟩
    · exact hw
    · rw [hall e he hb] at hi; cases hi
  · rintro ⟨e, he, hb, hw⟩
    exact ⟨e, he, hb, by simp [hw]⟩
theorem unlisted {i : Nat} {listed : Array Bool} (hi : i ∈ Region.ready .any ops listed) : listed.getD i false = false := by
  have h0 := (mem_ready.1 hi).1
  rcases Nat.lt_or_ge i listed.size with h' | h'
  · simp [h'] at h0 ⊢; exact h0
  · simp [Array.getElem?_eq_none h']
theorem run_in_hyp {ps : List Pend} {i : Nat} {o : Oper} : ∀ p ∈ runL ps o, p ∈ hypL ps i o := by
  intro p hp
  unfold runL at hp
  rw [List.mem_filter] at hp
  obtain ⟨hp, hw⟩ := hp
  refine List.mem_map.2 ⟨p, hp, ?_⟩
  have hw' : waits o p.W = false := by simpa using hw
  unfold Pend.upd
  simp only [hw', Bool.and_false, Bool.or_false]

theorem wpP_first {i : Nat} {oi : Oper} {v : Value} (hi : ops[i]? = some oi) (hsel : ∀ (j : Nat) (o : Oper) cs b, ops[j]? = some o → o.op ≠ .select cs b)
    (hQ : ∀ c a w, ¬ Q (.panic c) a w) :
    ∀ (fuel : Nat) (ps : List Pend) (listed : Array Bool) (a : Act) (h : Hp),
      (∀ j oj, ops[j]? = some oj → j ≠ i → listed.getD j true = false → (∀ e ∈ oj.after, Region.binds .any e = true → e.on ≠ i) → oi.apart ops oj = true) →
      i ∈ Region.ready .any ops listed → YS P ops w0 S oi v a → S h → (∀ p ∈ ps, p.S h) →
      wpP P ops Q w0 fuel (⟨i, fun k => k == i, S⟩ :: hypL ps i oi) (listed.setIfInBounds i true) (a.put oi.dst v) h → wpP P ops Q w0 (fuel + 1) ps listed a h := by
  intro fuel
  have selfCase : ∀ (n : Nat) (ps : List Pend) (listed : Array Bool) (a : Act) (w : World), YS P ops w0 S oi v a → Same w0 w → S w.heap → (∀ p ∈ ps, p.S w.heap) →
      wpP P ops Q w0 n (⟨i, fun k => k == i, S⟩ :: hypL ps i oi) (listed.setIfInBounds i true) (a.put oi.dst v) w.heap →
      wpOp P ops Q i (fun a' w' => Same w0 w' ∧ (∀ p ∈ runL ps oi, p.S w'.heap) ∧ wpP P ops Q w0 n (runL ps oi) (listed.setIfInBounds i true) a' w'.heap) a w := by
    intro n ps listed a w hy hs hS hob H
    refine hy.wpOp hi hs hS fun w' hs' hh' => ⟨hs.trans hs', fun p hp => ?_, ?_⟩
    · rw [hh']; exact hob p (List.mem_filter.1 hp).1
    · rw [hh']
      exact wpP_sub n _ _ _ _ _ (fun p hp => List.mem_cons_of_mem _ (run_in_hyp p hp)) H
  induction fuel with
  | zero =>
    intro ps listed a h _ hr hy hS hob H w hs hw
    refine ⟨fun h => (by rw [h] at hr; cases hr), fun j o hj hoj => ?_⟩
    by_cases hji : j = i
    · subst hji
      rw [hi] at hoj
      obtain rfl : oi = o := by simpa using hoj
      subst hw
      exact selfCase 0 ps listed a w hy hs hS hob H
    · have := ready_mono hj hji
      rw [H.1] at this
      cases this
  | succ fuel ih =>
    intro ps listed a h hfree hr hy hS hob H w hs hw
    refine ⟨fun h => (by rw [h] at hr; cases hr), fun j oj hj hoj => ?_⟩
    by_cases hji : j = i
    · subst hji
      rw [hi] at hoj
      obtain rfl : oi = oj := by simpa using hoj
      subst hw
      exact selfCase (fuel + 1) ps listed a w hy hs hS hob H
    · subst hw
      have h1 := (H w hs rfl).2 j oj (ready_mono hj hji) hoj
      obtain ⟨hjun, oj', hoj', hall⟩ := mem_ready.1 hj
      rw [hoj] at hoj'
      obtain rfl : oj = oj' := by simpa using hoj'
      have hnot : ∀ e ∈ oj.after, Region.binds .any e = true → e.on ≠ i := fun e he hb heq => by
        have h1 := hall e he hb
        rw [heq, unlisted hr] at h1
        cases h1
      have hwait : waits oj (fun k => k == i) = false := by
        rw [Bool.eq_false_iff]
        intro hc
        unfold waits at hc
        simp only [Array.any_eq_true', Bool.and_eq_true, beq_iff_eq] at hc
        obtain ⟨e, he, hb, heq⟩ := hc
        exact hnot e he hb heq
      have h2 := wpOp_putS hoj (hfree j oj hoj hji hjun hnot) (fun cs b => hsel i oi cs b hi) (fun cs b => hsel j oj cs b hoj) hQ hy h1
      have hfree' : ∀ k ok, ops[k]? = some ok → k ≠ i → (listed.setIfInBounds j true).getD k true = false →
          (∀ e ∈ ok.after, Region.binds .any e = true → e.on ≠ i) → oi.apart ops ok = true := fun k ok hk hki hun hno => by
        refine hfree k ok hk hki ?_ hno
        by_cases hjk : j = k
        · subst hjk; exact hjun
        · rw [getD_set_ne true hjk] at hun; exact hun
      refine wpOp_mono (fun a' w' h3 => ?_) h2
      obtain ⟨hy', hs', hob', hP⟩ := h3
      have hhead : runL (⟨i, fun k => k == i, S⟩ :: hypL ps i oi) oj = ⟨i, fun k => k == i, S⟩ :: runL (hypL ps i oi) oj := by
        unfold runL
        rw [List.filter_cons_of_pos (by simp [hwait])]
      rw [hhead] at hob' hP
      have hin : ∀ p ∈ ps, waits oj p.W = false → p.upd i oi ∈ runL (hypL ps i oi) oj := fun p hp hw => by
        refine List.mem_filter.2 ⟨List.mem_map.2 ⟨p, hp, rfl⟩, ?_⟩
        have e : waits oj (fun k => p.W k || (k == i && waits oi p.W)) = waits oj p.W := waits_ext hj hoj (unlisted hr) _ _
        simp only [Pend.upd, e, hw, Bool.not_false]
      have hS' : S w'.heap := hob' ⟨i, fun k => k == i, S⟩ (List.mem_cons_self ..)
      have hobj : ∀ p ∈ runL ps oj, p.S w'.heap := fun p hp => by
        obtain ⟨hp, hw⟩ := List.mem_filter.1 hp
        have hx : (p.upd i oi).S w'.heap := hob' _ (List.mem_cons_of_mem _ (hin p hp (by simpa using hw)))
        exact hx
      refine ⟨hs', hobj, ih (runL ps oj) _ a' w'.heap hfree' (ready_mono hr (Ne.symm hji)) hy' hS' hobj ?_⟩
      rw [Array.setIfInBounds_comm _ _ hji]
      refine wpP_sub _ _ _ _ _ _ (fun p hp => ?_) hP
      rcases List.mem_cons.1 hp with rfl | hp
      · exact List.mem_cons_self ..
      · obtain ⟨q, hq, rfl⟩ := List.mem_map.1 hp
        obtain ⟨hq, hw⟩ := List.mem_filter.1 hq
        exact List.mem_cons_of_mem _ (hin q hq (by simpa using hw))
end
end Go.Ev
