/- The evaluator's pure operations are sound: each yields its value in every world. No condition. -/
import Derived.Test.YtdkopnbjommjdaaK2
set_option linter.all false
namespace Go.Ev
section
variable {P : Program}
theorem Cond_true' {t : Bool} {A : Prop} (h : Cond t A False) : t = true ∧ A := by
  cases t with
  | true => exact ⟨rfl, h⟩
  | false => exact h.elim
theorem run_pure {α : Type} (a : α) (w : World) : (Pure.pure a : Sem α).run P w = .ok a w := rfl
theorem run_program (w : World) : (Go.program).run P w = .ok P w := rfl
theorem run_underlying {t : TypeId} {d : TypeDesc} (h : P.underlying t = some d) (w : World) : (Go.underlying t).run P w = .ok d w := by
  unfold Go.underlying
  rw [run_bind, run_program]
  simp only [h]
  rfl
theorem run_typeInfo {t : TypeId} {i : TypeInfo} (h : P.info? t = some i) (w : World) : (Go.typeInfo t).run P w = .ok i w := by
  unfold Go.typeInfo
  rw [run_bind, run_program]
  simp only [h]
  rfl
theorem run_sizeOf {t : TypeId} (h : (P.info? t).isSome = true) (w : World) : (Go.sizeOf t).run P w = .ok (szOf P t) w := by
  obtain ⟨i, hi⟩ := Option.isSome_iff_exists.1 h
  unfold Go.sizeOf szOf
  rw [run_bind, run_typeInfo hi]
  simp only [hi]
  rfl
theorem run_indexAt_sl {t e : TypeId} {b : Addr} {n c : Nat} {k : IntKind} {j : Int} (ht : P.underlying t = some (.slice e)) (he : (P.info? e).isSome = true) (h0 : 0 ≤ j) (h1 : j < n) (w : World) :
    (Instr.indexAt t (.slice (some b) n c) (.int k j)).run P w = .ok (.pointer (some (b.add (j.toNat * szOf P e)))) w := by
  unfold Instr.indexAt
  simp only [run_bind, asIntOf, run_pure, run_underlying ht]
  rw [if_pos ⟨h0, h1⟩]
  simp only [run_bind, run_sizeOf he, run_pure]
theorem run_indexAt_arr {t e : TypeId} {b : Addr} {len : Nat} {k : IntKind} {j : Int} (ht : P.underlying t = some (.array len e)) (he : (P.info? e).isSome = true) (h0 : 0 ≤ j) (h1 : j < len) (w : World) :
    (Instr.indexAt t (.pointer (some b)) (.int k j)).run P w = .ok (.pointer (some (b.add (j.toNat * szOf P e)))) w := by
  unfold Instr.indexAt
  simp only [run_bind, asIntOf, run_pure, run_underlying ht, Instr.sureAddr]
  rw [if_pos ⟨h0, h1⟩]
  simp only [run_bind, run_sizeOf he, run_pure]
theorem idxAt_sound {t : TypeId} {x i : Value} {K : Value → Prop} (h : idxAt P t x i K) : ∃ v, (∀ w, (Instr.indexAt t x i).run P w = .ok v w) ∧ K v := by
  unfold idxAt at h
  split at h
  · rename_i e a n c k j ht
    obtain ⟨⟨h0, h1⟩, h⟩ := h
    obtain ⟨he, h⟩ := Cond_true' h
    obtain ⟨b, rfl, hk⟩ := h.some'
    exact ⟨_, run_indexAt_sl ht he h0 h1, hk⟩
  · rename_i len e a k j ht
    obtain ⟨⟨h0, h1⟩, h⟩ := h
    obtain ⟨he, h⟩ := Cond_true' h
    obtain ⟨b, rfl, hk⟩ := h.some'
    exact ⟨_, run_indexAt_arr ht he h0 h1, hk⟩
  · exact h.elim
theorem run_sliceBound {k : IntKind} {i : Int} {y : Nat} {code : BoundsCode} (h0 : 0 ≤ i) (h1 : i ≤ y) (w : World) : (Instr.sliceBound (.int k i) y code).run P w = .ok i.toNat w := by
  unfold Instr.sliceBound
  simp only [run_bind, asIntOf, run_pure]
  rw [if_pos ⟨h0, h1⟩, run_pure]
theorem intOf?_none {x : Option Value} (h : intOf? x = some none) : x = none := by
  unfold intOf? at h
  split at h
  · rfl
  · simp at h
  · cases h
theorem intOf?_some {x : Option Value} {n : Int} (h : intOf? x = some (some n)) : ∃ k, x = some (.int k n) := by
  unfold intOf? at h
  split at h
  · simp at h
  · rename_i k m; simp only [Option.some.injEq] at h; subst h; exact ⟨k, rfl⟩
  · cases h
theorem intOf?_any {x : Option Value} {o : Option Int} (h : intOf? x = some o) : (x = none ∧ o = none) ∨ ∃ k n, x = some (.int k n) ∧ o = some n := by
  unfold intOf? at h
  split at h
  · simp only [Option.some.injEq] at h; exact .inl ⟨rfl, h.symm⟩
  · rename_i k m; simp only [Option.some.injEq] at h; exact .inr ⟨k, m, rfl, h.symm⟩
  · cases h
theorem sliceAt_eq {t : TypeId} {x : Value} {lo hi mx : Option Value} {d : TypeDesc} (ht : P.underlying t = some d) (hd : ∀ n e, d ≠ .array n e) (w : World) :
    (Instr.sliceAt t x lo hi mx).run P w = (Instr.slice t x lo hi mx).run P w := by
  unfold Instr.sliceAt
  rw [run_bind, run_underlying ht]
  cases d <;> first | rfl | exact absurd rfl (hd _ _)
theorem sliceEv_sound {t : TypeId} {x : Value} {lo hi mx : Option Value} {K : Value → Prop} (h : sliceEv P t x lo hi mx K) :
    ∃ v, (∀ w, (Instr.sliceAt t x lo hi mx).run P w = .ok v w) ∧ K v := by
  unfold sliceEv at h
  split at h
  · rename_i e a n c lo' ht hl hh hm
    obtain ⟨⟨h0, h1⟩, h⟩ := h
    obtain ⟨he, hk⟩ := Cond_true' h
    rw [intOf?_none hh, intOf?_none hm]
    refine ⟨_, fun w => ?_, hk⟩
    rw [sliceAt_eq ht (fun _ _ h => by cases h)]
    unfold Instr.slice
    rw [run_bind, run_underlying ht]
    rcases intOf?_any hl with ⟨rfl, rfl⟩ | ⟨kl, m, rfl, rfl⟩
    · simp only [run_bind, Instr.sliceBounds, run_pure, run_sizeOf he]; rfl
    · simp only [run_bind, Instr.sliceBounds, run_pure, run_sizeOf he, run_sliceBound (i := m) (y := n) h0 h1]; rfl
  · rename_i e a n c lo' hi' ht hl hh hm
    obtain ⟨⟨g0, g1⟩, ⟨h0, h1⟩, h⟩ := h
    obtain ⟨he, hk⟩ := Cond_true' h
    obtain ⟨kh, rfl⟩ := intOf?_some hh
    rw [intOf?_none hm]
    refine ⟨_, fun w => ?_, hk⟩
    rw [sliceAt_eq ht (fun _ _ h => by cases h)]
    unfold Instr.slice
    rw [run_bind, run_underlying ht]
    rcases intOf?_any hl with ⟨rfl, rfl⟩ | ⟨kl, m, rfl, rfl⟩
    · simp only [run_bind, Instr.sliceBounds, run_pure, run_sizeOf he, run_sliceBound g0 g1]; rfl
    · simp only [run_bind, Instr.sliceBounds, run_pure, run_sizeOf he, run_sliceBound g0 g1, run_sliceBound (i := m) (y := hi'.toNat) h0 (by simp at h1; omega)]; rfl
  · rename_i e a n c lo' hi' mx' ht hl hh hm
    obtain ⟨⟨f0, f1⟩, ⟨g0, g1⟩, ⟨h0, h1⟩, h⟩ := h
    obtain ⟨he, hk⟩ := Cond_true' h
    obtain ⟨kh, rfl⟩ := intOf?_some hh
    obtain ⟨km, rfl⟩ := intOf?_some hm
    refine ⟨_, fun w => ?_, hk⟩
    rw [sliceAt_eq ht (fun _ _ h => by cases h)]
    unfold Instr.slice
    rw [run_bind, run_underlying ht]
    rcases intOf?_any hl with ⟨rfl, rfl⟩ | ⟨kl, m, rfl, rfl⟩
    · simp only [run_bind, Instr.sliceBounds, run_pure, run_sizeOf he, run_sliceBound f0 f1, run_sliceBound (i := hi') (y := mx'.toNat) g0 (by omega)]; rfl
    · simp only [run_bind, Instr.sliceBounds, run_pure, run_sizeOf he, run_sliceBound f0 f1, run_sliceBound (i := hi') (y := mx'.toNat) g0 (by omega), run_sliceBound (i := m) (y := hi'.toNat) h0 (by simp at h1; omega)]; rfl
  · rename_i s lo' ht hl hh hm
    obtain ⟨⟨h0, h1⟩, hk⟩ := h
    rw [intOf?_none hh, intOf?_none hm]
    refine ⟨_, fun w => ?_, hk⟩
    rw [sliceAt_eq ht (fun _ _ h => by cases h)]
    unfold Instr.slice
    rw [run_bind, run_underlying ht]
    rcases intOf?_any hl with ⟨rfl, rfl⟩ | ⟨kl, m, rfl, rfl⟩
    · simp only [Option.isSome_none, Bool.false_eq_true, if_false, run_bind, Instr.sliceBounds, run_pure]; rfl
    · simp only [Option.isSome_none, Bool.false_eq_true, if_false, run_bind, Instr.sliceBounds, run_pure, run_sliceBound (i := m) (y := s.size) h0 h1]; rfl
  · rename_i s lo' hi' ht hl hh hm
    obtain ⟨⟨g0, g1⟩, ⟨h0, h1⟩, hk⟩ := h
    obtain ⟨kh, rfl⟩ := intOf?_some hh
    rw [intOf?_none hm]
    refine ⟨_, fun w => ?_, hk⟩
    rw [sliceAt_eq ht (fun _ _ h => by cases h)]
    unfold Instr.slice
    rw [run_bind, run_underlying ht]
    rcases intOf?_any hl with ⟨rfl, rfl⟩ | ⟨kl, m, rfl, rfl⟩
    · simp only [Option.isSome_none, Bool.false_eq_true, if_false, run_bind, Instr.sliceBounds, run_pure, run_sliceBound g0 g1]; rfl
    · simp only [Option.isSome_none, Bool.false_eq_true, if_false, run_bind, Instr.sliceBounds, run_pure, run_sliceBound g0 g1, run_sliceBound (i := m) (y := hi'.toNat) h0 (by simp at h1; omega)]; rfl
  · exact h.elim
theorem strAt_sound {t : TypeId} {x i : Value} {K : Value → Prop} (h : strAt P t x i K) : ∃ v, (∀ w, (Instr.index t x i).run P w = .ok v w) ∧ K v := by
  unfold strAt at h
  split at h
  · rename_i s k j ht
    obtain ⟨⟨h0, h1⟩, hk⟩ := h
    refine ⟨_, fun w => ?_, hk⟩
    have hlt : j.toNat < s.size := by omega
    have hs : s[j.toNat]? = some s[j.toNat] := getElem?_pos s j.toNat hlt
    unfold Instr.index
    simp only [run_bind, asIntOf, run_pure, run_underlying ht, if_pos h0, hs]
    rfl
  · exact h.elim
theorem pickL_out {cs : Array Value} {i : Nat} : ∀ {n j : Nat} {φ : List Value → Prop}, pickL cs i n j φ → ∃ vs : List Value, vs.length = n ∧ (∀ k v, vs[k]? = some v → cs[i + (j + k)]? = some v) ∧ φ vs
  | 0, _, _, h => ⟨[], rfl, by simp, h⟩
  | n + 1, j, _, h => by
    obtain ⟨v, hv, h⟩ := h
    obtain ⟨vs, hl, hc, hφ⟩ := pickL_out h
    refine ⟨v :: vs, by simp [hl], fun k u hk => ?_, hφ⟩
    cases k with
    | zero => simp only [List.getElem?_cons_zero, Option.some.injEq] at hk; subst hk; exact hv
    | succ k =>
      rw [show j + (k + 1) = j + 1 + k by omega]
      exact hc k u (by simpa using hk)
theorem run_partEv {e : TypeId} {cs : Array Value} {i : Nat} {K : Value → Prop} (h : partEv P e cs i K) : ∃ v, (∀ w, (Go.part e cs i).run P w = .ok v w) ∧ K v := by
  unfold partEv at h
  split at h
  · rename_i fs ht
    obtain ⟨hi, h⟩ := Cond_true' h
    obtain ⟨vs, hl, hc, hk⟩ := pickL_out h
    refine ⟨_, fun w => ?_, hk⟩
    unfold Go.part
    simp only [run_bind, Go.isAgg, run_underlying ht, run_pure, if_true, run_sizeOf hi]
    congr 2
    apply Array.ext
    · simp only [Array.size_extract, List.size_toArray, hl]
      by_cases h0 : vs.length = 0
      · omega
      · have := hc (vs.length - 1) vs[vs.length - 1] (by simp)
        have := (Array.getElem?_eq_some_iff.1 this).1
        omega
    · intro k h1 h2
      have h2' : k < vs.length := by simpa using h2
      have := hc k vs[k] (List.getElem?_eq_getElem h2')
      rw [Nat.zero_add] at this
      have h3 := (Array.getElem?_eq_some_iff.1 this)
      simp only [Array.getElem_extract, List.getElem_toArray]
      exact h3.2
  · exact h.elim
  · rename_i d h1 h2 ht
    obtain ⟨v, hv, hk⟩ := h
    refine ⟨v, fun w => ?_, hk⟩
    unfold Go.part
    simp only [run_bind, Go.isAgg, run_underlying ht]
    cases d <;> first | exact absurd ht (h1 _) | exact absurd ht (h2 _ _) | (simp only [run_pure, Bool.false_eq_true, if_false, hv])
  · exact h.elim
theorem arrAt_sound {t : TypeId} {len : Nat} {e : TypeId} (ht : P.underlying t = some (.array len e)) {x i : Value} {K : Value → Prop} (h : arrAt P len e x i K) : ∃ v, (∀ w, (Instr.index t x i).run P w = .ok v w) ∧ K v := by
  unfold arrAt at h
  split at h
  · rename_i k j
    obtain ⟨⟨h0, h1⟩, h⟩ := h
    obtain ⟨hi, cs, rfl, h'⟩ := Cond_true' h
    obtain ⟨v, hv, hk⟩ := run_partEv h'
    refine ⟨v, fun w => ?_, hk⟩
    unfold Instr.index
    simp only [run_bind, asIntOf, run_pure, run_underlying ht]
    rw [if_pos ⟨h0, h1⟩]
    simp only [run_bind, run_sizeOf hi, hv]
  · exact h.elim
theorem run_eqGuard {op : BinOp} {t : TypeId} {x y : Operand} {a b : Value} (h : op ≠ .eql) (h' : op ≠ .neq) (w : World) : (eqGuard op t x y a b).run P w = .ok () w := by
  cases op <;> first | exact absurd rfl h | exact absurd rfl h' | rfl
theorem divEv_sound {op : BinOp} {t : TypeId} {x y : Value} {K : Value → Prop} (h : divEv op x y K) (hk : op = .quo ∨ op = .rem → sameKind x y = true) :
    ∃ v, (∀ w, (binOp op t x y).run P w = .ok v w) ∧ K v := by
  unfold divEv at h
  split at h
  · rename_i k a k' b
    have hkk : k = k' := by simpa [sameKind] using hk (.inl rfl)
    subst hkk
    obtain ⟨hb, hK⟩ := h
    refine ⟨_, fun w => ?_, hK⟩
    simp only [binOp, ne_eq, not_true_eq_false, if_false, Op.intDiv, if_neg hb]
    rfl
  · rename_i k a k' b
    have hkk : k = k' := by simpa [sameKind] using hk (.inr rfl)
    subst hkk
    obtain ⟨hb, hK⟩ := h
    refine ⟨_, fun w => ?_, hK⟩
    simp only [binOp, ne_eq, not_true_eq_false, if_false, Op.intDiv, if_neg hb]
    rfl
  · rename_i k a k' b
    obtain ⟨hb, hK⟩ := h
    refine ⟨_, fun w => ?_, hK⟩
    simp only [binOp, Op.shift, if_neg (show ¬ b < 0 by omega)]
    rfl
  · rename_i k a k' b
    obtain ⟨hb, hK⟩ := h
    refine ⟨_, fun w => ?_, hK⟩
    simp only [binOp, Op.shift, if_neg (show ¬ b < 0 by omega)]
    rfl
  · exact h.elim
theorem nilEq_sound {t : TypeId} {x y : Value} {b : Bool} (h : nilEq P t x y = some b) (w : World) : (Op.equal t x y).run P w = .ok b w := by
  unfold nilEq at h
  unfold Op.equal
  rw [show Op.maxDepth = 9999 + 1 from rfl]
  split at h <;> first | (cases h; done) | skip
  all_goals
    rename_i ht
    simp only [Option.some.injEq] at h
    subst h
    rw [Op.equalIn.eq_def]
    simp only []
    rw [run_bind, run_underlying ht]
  · rename_i p; cases p <;> rfl
  · rename_i p _; cases p <;> rfl
  · rename_i p _ _ _ _; cases p <;> rfl
  · rename_i p _ _; cases p <;> rfl
  · rename_i p; cases p <;> rfl
  · rename_i p _; cases p <;> rfl
theorem run_isAgg {t : TypeId} {b : Bool} (h : aggTy P t = some b) (w : World) : (Go.isAgg t).run P w = .ok b w := by
  unfold aggTy at h
  unfold Go.isAgg
  split at h
  · rename_i fs ht; rw [run_bind, run_underlying ht]; simp only [Option.some.injEq] at h; subst h; rfl
  · rename_i n e ht; rw [run_bind, run_underlying ht]; simp only [Option.some.injEq] at h; subst h; rfl
  · rename_i d h1 h2 ht
    rw [run_bind, run_underlying ht]
    simp only [Option.some.injEq] at h
    subst h
    cases d <;> first | rfl | exact absurd rfl (h1 _) | exact absurd rfl (h2 _ _)
  · cases h
theorem run_part {t : TypeId} {cs : Array Value} {off : Nat} {v : Value} (h : partV P t cs off = some v) (w : World) : (Go.part t cs off).run P w = .ok v w := by
  unfold partV at h
  unfold Go.part
  split at h
  · rename_i ha
    split at h
    · rename_i i hi
      rw [run_bind, run_isAgg ha]
      simp only [if_true, run_bind, run_sizeOf (P := P) (t := t) (by rw [hi]; rfl), run_pure]
      have : szOf P t = i.size := by unfold szOf; rw [hi]
      rw [this]
      simp only [Option.some.injEq] at h
      rw [h]
    · cases h
  · rename_i ha
    rw [run_bind, run_isAgg ha]
    simp only [Bool.false_eq_true, if_false, h, run_pure]
  · cases h
theorem andO_some {a b : Option Bool} {r : Bool} (h : andO a b = some r) : ∃ x y, a = some x ∧ b = some y ∧ r = (x && y) := by
  unfold andO at h
  split at h
  · rename_i x y; exact ⟨x, y, rfl, rfl, by simpa using h.symm⟩
  · cases h
theorem run_fs {d' : Nat} {eq : TypeId → Value → Value → Option Bool} {xs ys : Array Value} (heq : ∀ t u v b, eq t u v = some b → ∀ w, (Op.equalIn d' t u v).run P w = .ok b w) (w : World) :
    ∀ (l : List Field) (b : Bool), eqFs P eq xs ys l = some b → (forIn l ((none : Option Bool), ()) fun (f : Field) __s =>
          if f.name ≠ "_" then do
            let __do_lift ← part f.type xs f.offset
            let __do_lift_1 ← part f.type ys f.offset
            let __do_lift ← Op.equalIn d' f.type __do_lift __do_lift_1
            if (!__do_lift) = true then (Pure.pure (ForInStep.done (some false, ())) : Sem _) else Pure.pure (ForInStep.yield (none, ()))
          else Pure.pure (ForInStep.yield (none, ()))).run P w = .ok (if b = true then none else some false, ()) w := by
  intro l
  induction l with
  | nil => intro b h; simp only [eqFs, Option.some.injEq] at h; subst h; rfl
  | cons f l ih =>
    intro b h
    rw [List.forIn_cons]
    unfold eqFs at h
    split at h
    · rename_i hn
      have hn' : f.name = "_" := by simpa using hn
      rw [run_bind]
      simp only [hn', ne_eq, not_true_eq_false, if_false, run_pure]
      exact ih b h
    · rename_i hn
      have hn' : ¬ f.name = "_" := by simpa using hn
      split at h
      · rename_i u v hu hv
        obtain ⟨a, c, ha, hc, rfl⟩ := andO_some h
        rw [run_bind]
        simp only [ne_eq, hn', not_false_eq_true, if_true, run_bind, run_part hu, run_part hv, heq _ _ _ _ ha]
        cases a with
        | true => simp only [Bool.not_true, Bool.false_eq_true, if_false, run_pure, Bool.true_and]; exact ih c hc
        | false => simp only [Bool.not_false, if_true, run_pure, Bool.false_and]; rfl
      · cases h
theorem eqTy_sound : ∀ (d d' : Nat) (t : TypeId) (x y : Value) (b : Bool), d ≤ d' → eqTy P d t x y = some b → ∀ w, (Op.equalIn d' t x y).run P w = .ok b w := by
  intro d
  induction d with
  | zero => intro d' t x y b _ h; cases h
  | succ d ih =>
    intro d' t x y b hd h w
    obtain ⟨d', rfl⟩ : ∃ e, d' = e + 1 := ⟨d' - 1, by omega⟩
    unfold eqTy at h
    rw [Op.equalIn.eq_def]
    simp only []
    split at h
    · rename_i ht
      rw [run_bind, run_underlying ht]
      simp only [Option.some.injEq] at h
      rw [← h]; rfl
    · rename_i k0 k a k' b' ht
      rw [run_bind, run_underlying ht]
      split at h
      · rename_i hk
        obtain rfl : k = k' := by simpa using hk
        simp only [Option.some.injEq] at h
        rw [← h]
        simp only [if_true]
        rfl
      · cases h
    · rename_i ht
      rw [run_bind, run_underlying ht]
      simp only [Option.some.injEq] at h
      rw [← h]; rfl
    · rename_i fs xs ys ht
      rw [run_bind, run_underlying ht]
      split at h
      · cases h
      · rename_i hst
        simp only [run_bind, run_program, hst, Bool.false_eq_true, if_false]
        rw [← Array.forIn_toList, run_fs (fun t u v b hb => ih d' t u v b (by omega) hb) w _ _ h]
        cases b <;> rfl
    · cases h
theorem run_guard_ptr {op : BinOp} {t : TypeId} {x y : Operand} {a : Option Addr} {v : Value} (w : World) : (eqGuard op t x y (.pointer a) v).run P w = .ok () w := by
  cases op <;> rfl
theorem run_guard_sl {op : BinOp} {t : TypeId} {x y : Operand} {a : Option Addr} {n c : Nat} {v : Value} (w : World) : (eqGuard op t x y (.slice a n c) v).run P w = .ok () w := by
  cases op <;> rfl
theorem run_guard_map {op : BinOp} {t : TypeId} {x y : Operand} {r : Option Nat} {v : Value} (w : World) : (eqGuard op t x y (.map r) v).run P w = .ok () w := by
  cases op <;> rfl
theorem nilEq_run {t : TypeId} {x y : Operand} {a b : Value} {r : Bool} (h : nilEq P t a b = some r) (w : World) :
    (do eqGuard .eql t x y a b; binOp .eql t a b : Sem Value).run P w = .ok (.bool r) w ∧ (do eqGuard .neq t x y a b; binOp .neq t a b : Sem Value).run P w = .ok (.bool (!r)) w := by
  have hs := nilEq_sound h w
  unfold nilEq at h
  split at h <;> first | (cases h; done) | skip
  all_goals
    refine ⟨?_, ?_⟩
    · first | rw [run_bind, run_guard_ptr] | rw [run_bind, run_guard_sl] | rw [run_bind, run_guard_map]
      simp only [binOp]
      rw [run_bind, hs]
      rfl
    · first | rw [run_bind, run_guard_ptr] | rw [run_bind, run_guard_sl] | rw [run_bind, run_guard_map]
      simp only [binOp]
      rw [run_bind, hs]
      rfl
theorem eqAgg_sound {t : TypeId} {x y : Operand} {a b : Value} {K : Bool → Prop} {other : Prop} (h : eqAgg P t a b K other) : other ∨ ∃ r, K r ∧
    ∀ w, (do eqGuard .eql t x y a b; binOp .eql t a b : Sem Value).run P w = .ok (.bool r) w ∧ (do eqGuard .neq t x y a b; binOp .neq t a b : Sem Value).run P w = .ok (.bool (!r)) w := by
  unfold eqAgg at h
  split at h
  · rename_i xs ys
    split at h
    · exact h.elim
    · rename_i hg
      split at h
      · rename_i r hr
        refine .inr ⟨r, h, fun w => ?_⟩
        have hs : (Op.equal t (.agg xs) (.agg ys)).run P w = .ok r w := by
          unfold Op.equal
          exact eqTy_sound 20 Op.maxDepth t _ _ r (by unfold Op.maxDepth; omega) hr w
        have e1 : (eqGuard .eql t x y (.agg xs) (.agg ys)).run P w = .ok () w := by
          unfold eqGuard
          simp only [Bool.not_true, Bool.false_eq_true, if_false, run_bind, run_program, hg, Bool.not_false, if_true]
          rfl
        have e2 : (eqGuard .neq t x y (.agg xs) (.agg ys)).run P w = .ok () w := by
          unfold eqGuard
          simp only [Bool.not_true, Bool.false_eq_true, if_false, run_bind, run_program, hg, Bool.not_false, if_true]
          rfl
        exact ⟨by rw [run_bind, e1]; simp only [binOp]; rw [run_bind, hs]; rfl, by rw [run_bind, e2]; simp only [binOp]; rw [run_bind, hs]; rfl⟩
      · exact h.elim
  · exact .inl h
theorem evPure_sound {o : Oper} {env : List Value} {K : Value → Prop} (h : evPure P o env K) : ∃ v, YieldsAll P o env v ∧ K v := by
  unfold evPure at h
  split at h
  · rename_i x hop
    split at h
    · rename_i p hx
      obtain ⟨a, rfl, hk⟩ := h.some'
      refine ⟨_, fun w => ?_, hk⟩
      simp only [execOp, hop, hx]
      rfl
    · exact ofPure_sound h
  · rename_i t x i hop
    obtain ⟨v, hv, hk⟩ := idxAt_sound h
    exact ⟨v, fun w => by simp only [execOp, hop, run_bind, hv, run_pure], hk⟩
  · rename_i t x i hop
    split at h
    · obtain ⟨v, hv, hk⟩ := strAt_sound h
      exact ⟨v, fun w => by simp only [execOp, hop, run_bind, hv, run_pure], hk⟩
    · rename_i len e ht
      obtain ⟨v, hv, hk⟩ := arrAt_sound ht h
      exact ⟨v, fun w => by simp only [execOp, hop, run_bind, hv, run_pure], hk⟩
    · exact ofPure_sound h
  · rename_i t x lo hi mx hop
    obtain ⟨v, hv, hk⟩ := sliceEv_sound h
    exact ⟨v, fun w => by simp only [execOp, hop, run_bind, hv, run_pure], hk⟩
  · rename_i op t x y yt hop
    split at h
    · obtain ⟨hs, h⟩ := Cond_true' h
      obtain ⟨v, hv, hk⟩ := divEv_sound (P := P) (t := t) h (fun _ => hs)
      exact ⟨v, fun w => by simp only [execOp, hop, run_bind, run_eqGuard (op := .quo) (by simp) (by simp), hv, run_pure], hk⟩
    · obtain ⟨hs, h⟩ := Cond_true' h
      obtain ⟨v, hv, hk⟩ := divEv_sound (P := P) (t := t) h (fun _ => hs)
      exact ⟨v, fun w => by simp only [execOp, hop, run_bind, run_eqGuard (op := .rem) (by simp) (by simp), hv, run_pure], hk⟩
    · obtain ⟨v, hv, hk⟩ := divEv_sound (P := P) (t := t) h (by simp)
      exact ⟨v, fun w => by simp only [execOp, hop, run_bind, run_eqGuard (op := .shl) (by simp) (by simp), hv, run_pure], hk⟩
    · obtain ⟨v, hv, hk⟩ := divEv_sound (P := P) (t := t) h (by simp)
      exact ⟨v, fun w => by simp only [execOp, hop, run_bind, run_eqGuard (op := .shr) (by simp) (by simp), hv, run_pure], hk⟩
    · split at h
      · rename_i b hb
        refine ⟨_, fun w => ?_, h⟩
        have := (nilEq_run (x := x) (y := y) hb w).1
        simp only [execOp, hop]
        rw [run_bind, this]
        rfl
      · rcases eqAgg_sound (x := x) (y := y) h with h | ⟨r, hk, hr⟩
        · exact ofPure_sound h
        · refine ⟨_, fun w => ?_, hk⟩
          simp only [execOp, hop]
          rw [run_bind, (hr w).1]
          rfl
    · split at h
      · rename_i b hb
        refine ⟨_, fun w => ?_, h⟩
        have := (nilEq_run (x := x) (y := y) hb w).2
        simp only [execOp, hop]
        rw [run_bind, this]
        rfl
      · rcases eqAgg_sound (x := x) (y := y) h with h | ⟨r, hk, hr⟩
        · exact ofPure_sound h
        · refine ⟨_, fun w => ?_, hk⟩
          simp only [execOp, hop]
          rw [run_bind, (hr w).2]
          rfl
    · rename_i c1 c2 c3 c4 c5 c6
      clear c1 c2 c3 c4 c5 c6
      unfold strAdd at h
      split at h
      · rename_i a b hx hy
        obtain ⟨hlt, hk⟩ := h
        have hlt : a.size + b.size < 4611686018427387904 := hlt
        refine ⟨_, fun w => ?_, hk⟩
        have hmax : ¬ ((a.size + b.size : Nat) : Int) > IntKind.i64.max := by
          show ¬ ((a.size + b.size : Nat) : Int) > 9223372036854775807
          omega
        simp only [execOp, hop, hx, hy, run_bind, run_eqGuard (op := .add) (by simp) (by simp), binOp, Op.stringOp, if_neg hmax, run_pure]
      · exact ofPure_sound h
  · exact ofPure_sound h
end
end Go.Ev
