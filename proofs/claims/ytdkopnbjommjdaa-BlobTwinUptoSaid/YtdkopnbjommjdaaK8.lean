/- The evaluator is sound down to the model's own calls. No condition. -/
import Derived.Test.YtdkopnbjommjdaaK7
set_option linter.all false
namespace Go.Ev
section
variable {P : Program} {T : Tab} {D : List Deferred} {w0 : World}
theorem wpP_triv {ops : Array Oper} {Q : Exit → Act → World → Prop} : ∀ (fuel : Nat) (ps ps' : List Pend) (listed : Array Bool) (a : Act) (h : Hp), (∀ p ∈ ps', p ∈ ps ∨ ∀ h, p.S h) →
    wpP P ops Q w0 fuel ps listed a h → wpP P ops Q w0 fuel ps' listed a h
  | 0, _, _, _, _, _, _, H => H
  | fuel + 1, ps, ps', _, _, _, hsub, H => fun w hs hw => ⟨(H w hs hw).1, fun j o hj ho => by
      have hsub' : ∀ p ∈ runL ps' o, p ∈ runL ps o ∨ ∀ h, p.S h := fun p hp => by
        obtain ⟨hp, hw⟩ := List.mem_filter.1 hp
        exact (hsub p hp).imp (fun h => List.mem_filter.2 ⟨h, hw⟩) id
      exact wpOp_mono (fun a' w' h' => ⟨h'.1, fun p hp => (hsub' p hp).elim (h'.2.1 p) (fun h => h _), wpP_triv fuel _ _ _ a' _ hsub' h'.2.2⟩) ((H w hs hw).2 j o hj ho)⟩
theorem oblK_sound {o : Oper} {h : Hp} : ∀ (ps : List Pend) (X : List Pend → Prop), oblK o h ps X → (∀ p ∈ runL ps o, p.S h) ∧ X (runL ps o) := by
  intro ps
  induction ps with
  | nil => exact fun X hX => ⟨fun p hp => (by cases hp), hX⟩
  | cons p ps ih =>
    intro X hX
    rcases Cond.split hX with ⟨hw, hX⟩ | ⟨hw, hS, hX⟩
    · obtain ⟨h1, h2⟩ := ih X hX
      have e : runL (p :: ps) o = runL ps o := List.filter_cons_of_neg (by simp [hw])
      rw [e]
      exact ⟨h1, h2⟩
    · obtain ⟨h1, h2⟩ := ih _ hX
      have e : runL (p :: ps) o = p :: runL ps o := List.filter_cons_of_pos (by simp [hw])
      rw [e]
      refine ⟨fun q hq => ?_, h2⟩
      rcases List.mem_cons.1 hq with rfl | hq
      · exact hS
      · exact h1 q hq
theorem allL_mem {φ : Nat → Prop} : ∀ {l : List Nat}, allL l φ → ∀ i ∈ l, φ i
  | [], _, _, hi => by cases hi
  | [i], h, j, hj => by
    rw [List.mem_singleton] at hj
    rw [hj]; exact h
  | i :: j :: l, h, k, hk => by
    rcases List.mem_cons.1 hk with rfl | hk
    · exact h.1
    · exact allL_mem h.2 k hk
theorem evR_sound (hT : TabOk P T) {ops : Array Oper} {Q : Kc} (hsel : Region.noSelect ops = true) : ∀ (fuel : Nat) (ps : List Pend) (listed : Array Bool) (env : List Value) (h : Hp), (∀ p ∈ ps, p.S h) →
    evR P T ops (Q .normal) fuel ps listed env h → wpP P ops (lift D w0 Q) w0 fuel ps listed (actL env D) h := by
  intro fuel
  induction fuel with
  | zero =>
    intro ps listed env h _ H
    unfold evR at H
    split at H
    · rename_i hr
      exact ⟨hr, fun w hs hw => ⟨hs, env, rfl, hw ▸ H⟩⟩
    · exact H.elim
  | succ fuel ih =>
    intro ps listed env h hps H
    unfold evR at H
    split at H
    · rename_i i hfind
      have hi : i ∈ Region.ready .any ops listed := List.mem_of_find?_eq_some hfind
      split at H
      · rename_i o ho
        obtain ⟨hfree, H⟩ := Cond_true' H
        have hhyp : ∀ S : Hp → Prop, S h → ∀ p ∈ hypL ps i o, p.S h := fun S _ p hp => by
          obtain ⟨q, hq, rfl⟩ := List.mem_map.1 hp
          exact hps q hq
        have etm : (actL env D).tmps = env.toArray := rfl
        rcases evG_sound H with ⟨hw, H⟩ | ⟨hw, H⟩
        · obtain ⟨v, S, hR, hS, hrun⟩ := evQ_sound hT H
          have hy : YS P ops w0 (S.getD fun _ => True) o v (actL env D) := .inl ⟨by rw [etm]; exact hw, fun w _ hS => by rw [eval_actL]; exact hrun w hS⟩
          refine wpP_first ho (Region.noSelect_spec hsel) (fun c a w h => h.2.elim fun _ h => h.2) fuel ps listed (actL env D) h (Region.free_spec ho hfree) hi hy hS hps ?_
          rw [put_actL]
          cases S with
          | none =>
            refine wpP_triv fuel (hypL ps i o) _ _ _ _ (fun p hp => ?_) (ih _ _ _ _ (hhyp (fun _ => True) trivial) hR)
            rcases List.mem_cons.1 hp with rfl | hp
            · exact .inr fun _ => trivial
            · exact .inl hp
          | some S =>
            refine ih _ _ _ _ (fun p hp => ?_) hR
            rcases List.mem_cons.1 hp with rfl | hp
            · exact hS
            · exact hhyp S hS p hp
        · have hy : YS P ops w0 (fun _ => True) o undef (actL env D) := .inr ⟨by rw [etm]; exact hw, rfl⟩
          refine wpP_first ho (Region.noSelect_spec hsel) (fun c a w h => h.2.elim fun _ h => h.2) fuel ps listed (actL env D) h (Region.free_spec ho hfree) hi hy trivial hps ?_
          rw [put_actL]
          refine wpP_triv fuel (hypL ps i o) _ _ _ _ (fun p hp => ?_) (ih _ _ _ _ (hhyp (fun _ => True) trivial) H)
          rcases List.mem_cons.1 hp with rfl | hp
          · exact .inr fun _ => trivial
          · exact .inl hp
      · exact H.elim
    · split at H
      · rename_i hr
        intro w hs hw
        refine ⟨fun _ => ⟨hs, env, rfl, hw ▸ H⟩, fun j o hj => ?_⟩
        rw [hr] at hj
        cases hj
      · rename_i r rs hr
        intro w hs hw
        refine ⟨fun h0 => (by rw [hr] at h0; cases h0), fun j o hj ho => ?_⟩
        rw [hr] at hj
        have H := allL_mem H j hj
        simp only [ho] at H
        unfold wpOp
        simp only [ho]
        have etm : (actL env D).tmps = env.toArray := rfl
        rw [etm]
        subst hw
        rcases evG_sound H with ⟨hw, H⟩ | ⟨hw, H⟩
        · rw [if_pos hw]
          refine .inl (OpOk.wp hs (evOp_sound hT H) fun v w' hs' hk => ?_)
          obtain ⟨h1, h2⟩ := oblK_sound _ _ hk
          exact ⟨hs', h1, ih _ _ _ _ h1 h2⟩
        · rw [hw]
          simp only [Bool.false_eq_true, if_false]
          rw [put_actL]
          obtain ⟨h1, h2⟩ := oblK_sound _ _ H
          exact ⟨hs, h1, ih _ _ _ _ h1 h2⟩

/-! ### Code -/
/-- What a piece of code owes: it is as the evaluator says from every world of that heap. -/
def CodeOk (P : Program) (D : List Deferred) (w0 : World) (c : Code) (ev : Kc → List Value → Hp → Prop) : Prop :=
  ∀ (Q : Kc) (env : List Value) (w : World), Same w0 w → ev Q env w.heap → c.wp P (lift D w0 Q) (actL env D) w
theorem wp_loopEv {c : Code} {Q : Exit → Act → World → Prop} {a : Act} {w : World} (I : Nat → Act → World → Prop) (n : Nat) (h0 : I n a w)
    (round : ∀ n a w, I n a w → c.wp P (Exit.then (fun a' w' => ∃ m, m < n ∧ I m a' w') Q) a w) : (Code.loop c).wp P Q a w := by
  intro b k cs
  have key : ∀ n a w, I n a w →
      ∃ e a' w', Q e a' w' ∧ Arrives P (lone (b.at a (.code c :: .inLoop c :: k)) cs w) b k cs e a' w' := by
    intro n
    induction n using Nat.strongRecOn with
    | _ n ih =>
      intro a w hI
      obtain ⟨e, a₁, w₁, hq, harr⟩ := round n a w hI b (.inLoop c :: k) cs
      cases e with
      | normal =>
        obtain ⟨m, hlt, hI₁⟩ := hq
        obtain ⟨e₂, a₂, w₂, hq₂, harr₂⟩ := ih m hlt a₁ w₁ hI₁
        exact ⟨e₂, a₂, w₂, hq₂, .of_steps (Steps.trans harr (.one step_inLoop)) harr₂⟩
      | exit id => exact ⟨_, a₁, w₁, hq, .pass (x := .inLoop c) rfl (fun _ _ => .inl (by simp)) harr⟩
      | goto l => exact ⟨_, a₁, w₁, hq, .pass (x := .inLoop c) rfl (fun _ _ => .inl (by simp)) harr⟩
      | ret => exact ⟨_, a₁, w₁, hq, .pass (x := .inLoop c) rfl (fun _ _ => .inl (by simp)) harr⟩
      | panic ch => exact ⟨_, a₁, w₁, hq, .pass (x := .inLoop c) rfl (fun _ _ => .inl (by simp)) harr⟩
      | outgrown => exact ⟨_, a₁, w₁, hq, .pass (x := .inLoop c) rfl (fun _ _ => .inl (by simp)) harr⟩
  obtain ⟨e, a', w', hq, harr⟩ := key n a w h0
  exact ⟨e, a', w', hq, .of_steps (.one step_loop) harr⟩
/-- No select in any region that draws. -/
def noSel : Code → Bool
  | .seq a b => noSel a && noSel b
  | .cond _ a b => noSel a && noSel b
  | .block _ c => noSel c
  | .loop c => noSel c
  | .region _ ops draw => !draw || Region.noSelect ops
  | _ => true
theorem evC_sound {lv : Nat → List Nat} (hm : P.follows .mixedOrders = true) (hT : TabOk P T) : ∀ (c : Code), noSel c = true → CodeOk P D w0 c (evC P T lv c) := by
  intro c
  induction c with
  | skip => exact fun _ Q env w hs h => wp_skip ⟨hs, env, rfl, h⟩
  | ret => exact fun _ Q env w hs h => wp_ret ⟨hs, env, rfl, h⟩
  | exit id => exact fun _ Q env w hs h => wp_exit ⟨hs, env, rfl, h⟩
  | seq a b iha ihb =>
    intro hn Q env w hs h
    simp only [noSel, Bool.and_eq_true] at hn
    refine wp_seq (wp_mono (iha hn.1 _ env w hs h) fun e a' w' hl => ?_)
    obtain ⟨hs', env', rfl, hl⟩ := hl
    cases e <;> first | exact hl.elim | exact ⟨hs', env', rfl, hl⟩ | exact ihb hn.2 Q env' w' hs' hl
  | cond c a b iha ihb =>
    intro hn Q env w hs h
    simp only [noSel, Bool.and_eq_true] at hn
    unfold evC at h
    split at h
    · rename_i t hc
      have hc' : (actL env D).eval c = .bool t := by rw [eval_actL]; exact hc
      rcases h.split with ⟨rfl, hx⟩ | ⟨rfl, hx⟩
      · exact wp_cond_true hc' (iha hn.1 Q env w hs hx)
      · exact wp_cond_false hc' (ihb hn.2 Q env w hs hx)
    · exact h.elim
  | block id c ih =>
    intro hn Q env w hs h
    refine wp_block (wp_mono (ih hn _ env w hs h) fun e a' w' hl => ?_)
    obtain ⟨hs', env', rfl, hl⟩ := hl
    cases e with
    | exit id' =>
      show if id' = id then _ else _
      simp only [blockK] at hl
      split at hl
      · rename_i hid; rw [if_pos hid]; exact ⟨hs', env', rfl, hl⟩
      · rename_i hid; rw [if_neg hid]; exact ⟨hs', env', rfl, hl⟩
    | _ => first | exact hl.elim | exact ⟨hs', env', rfl, hl⟩
  | loop c ih =>
    intro hn Q env w hs h
    obtain ⟨I, n, hg, round⟩ := h
    have h0 : I n env w.heap := by
      have := hg fun k => env.getD k undef
      have e : mkEnv env.length (pairsOf (lv (firstR c)) env) (fun k => env.getD k undef) = env := mkEnv_self _ _
      rwa [e] at this
    refine wp_loopEv (fun n a w => Same w0 w ∧ ∃ env, a = actL env D ∧ I n env w.heap) n ⟨hs, env, rfl, h0⟩ fun n a w hI => ?_
    obtain ⟨hs', env', rfl, hI⟩ := hI
    refine wp_mono (ih hn _ env' w hs' (round n env' w.heap hI)) fun e a' w' hl => ?_
    obtain ⟨hs'', env'', rfl, hl⟩ := hl
    cases e <;> first | exact hl.elim | exact ⟨hs'', env'', rfl, hl⟩ | (obtain ⟨m, hlt, hm⟩ := hl; exact ⟨m, hlt, hs'', env'', rfl, hm⟩)
  | region id ops draw =>
    intro hn Q env w hs h
    unfold evC at h
    cases draw with
    | false =>
      simp only [Bool.false_eq_true, if_false] at h
      refine wp_region ?_
      have := evOps_sound (P := P) (D := D) (w0 := w0) hT (ops := ops) ops.toList 0 env w (fun i => by simp) hs h
      rw [Array.length_toList] at this
      rwa [List.range_eq_range']
    | true =>
      simp only [if_true] at h
      have hsel : Region.noSelect ops = true := by simpa [noSel] using hn
      refine wp_region_any hm ?_
      exact wpAny_of_P ops.size [] _ _ { w with drawn := w.drawn + 1 } ⟨hs.1, hs.2.1, hs.2.2⟩ (evR_sound hT hsel ops.size [] _ env w.heap (fun p hp => by cases hp) h)
  | _ => exact fun _ Q env w hs h => h.elim

/-! ### Calls -/
def bodyK (P : Program) (fn : Func) (hints : List VK) (R : Value → Hp → Prop) : Kc
  | .normal, env, h => rdSem P (results fn env.toArray) hints h fun v _ => R v h
  | .ret, env, h => rdSem P (results fn env.toArray) hints h fun v _ => R v h
  | _, _, _ => False
def envOf (fn : Func) (args : List Value) : List Value := args ++ List.replicate (fn.ntmps - args.length) undef
def evF (P : Program) (T : Tab) (lv : Nat → List Nat) (fn : Func) (c : Code) (hints : List VK) (args : List Value) (h : Hp) (R : Value → Hp → Prop) : Prop :=
  evC P T lv c (bodyK P fn hints R) (envOf fn args) h
theorem callTo_of_ev {lv : Nat → List Nat} (hm : P.follows .mixedOrders = true) (hT : TabOk P T) {f : FuncId} {fn : Func} {c : Code} {hints : List VK} {args : List Value} {h : Hp} {R : Value → Hp → Prop} (hf : P.funcs[f]? = some fn) (hb : fn.body = some c)
    (hn : noSel c = true) (he : evF P T lv fn c hints args h R) : CallTo P f args.toArray h R := by
  intro w hw
  subst hw
  refine calls_of_wp hf hb ?_
  have key := evC_sound (D := []) (w0 := w) hm hT c hn _ _ w (Same.refl _) he
  have e : ({ tmps := args.toArray ++ Array.replicate (fn.ntmps - args.toArray.size) undef, defers := [] } : Act) = actL (envOf fn args) [] := by
    unfold actL envOf
    congr 1
    apply Array.ext'
    simp
  rw [e]
  refine wp_mono key fun e a w' hl => ?_
  obtain ⟨hs, env, rfl, hl⟩ := hl
  cases e <;> first | exact hl.elim | skip
  all_goals
    obtain ⟨v, vs, hr, hk⟩ := rdSem_sound _ _ _ _ hl
    exact ⟨rfl, v, hr, v, rfl, hs, hk⟩
end
end Go.Ev
