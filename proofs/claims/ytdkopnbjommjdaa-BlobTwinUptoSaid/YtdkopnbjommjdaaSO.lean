/- Slices whose head moves within their block (l = l[1:]). No condition. -/
import Derived.Test.YtdkopnbjommjdaaAB
set_option linter.all false
namespace Go.Ev
/-- As SlAt, but the slice may begin within its block. -/
structure SlO (sz : Nat) (h : Hp) (a : Option Addr) (n c : Nat) (ob : Option Nat) (vs : List Value) : Prop where
  len : vs.length = n * sz
  nil : ob = none → a = none ∧ n = 0 ∧ c = 0
  row : ∀ b, ob = some b → ∃ off, a = some ⟨b, off, none⟩ ∧ n ≤ c ∧ ∃ pre junk, (c ≠ 0 → pre.length = off) ∧ Row h b (pre ++ (vs ++ junk)) ∧ vs.length + junk.length = c * sz
theorem SlAt.slO {sz : Nat} {h : Hp} {a : Option Addr} {n c : Nat} {ob : Option Nat} {vs : List Value} (s : SlAt sz h a n c ob vs) : SlO sz h a n c ob vs :=
  ⟨s.len, s.nil, fun b e => by obtain ⟨h1, h2, j, h3, h4⟩ := s.row b e; exact ⟨0, h1, h2, [], j, fun _ => rfl, h3, h4⟩⟩
theorem slO_nil (sz : Nat) (h : Hp) : SlO sz h none 0 0 none [] := (slAt_nil sz h).slO
theorem SlO.keep {sz : Nat} {h h' : Hp} {a : Option Addr} {n c : Nat} {ob : Option Nat} {vs : List Value} (s : SlO sz h a n c ob vs) (hk : ∀ b, ob = some b → h'[b]? = h[b]?) : SlO sz h' a n c ob vs :=
  ⟨s.len, s.nil, fun b hb => by obtain ⟨off, h1, h2, p, j, h3, h4, h5⟩ := s.row b hb; exact ⟨off, h1, h2, p, j, h3, row_keep h4 (hk b hb), h5⟩⟩
theorem SlO.kept {sz : Nat} {h h' : Hp} {a : Option Addr} {n c : Nat} {ob : Option Nat} {vs : List Value} {S : Nat → Prop} (s : SlO sz h a n c ob vs) (k : Kept S h h') (hS : ∀ b, ob = some b → ¬ S b) : SlO sz h' a n c ob vs :=
  s.keep fun b e => by
    obtain ⟨_, _, _, _, _, _, hr, _⟩ := s.row b e
    exact k.2 b (row_lt hr) (hS b e)
theorem SlO.lt {sz : Nat} {h : Hp} {a : Option Addr} {n c b : Nat} {vs : List Value} (s : SlO sz h a n c (some b) vs) : b < h.size := by
  obtain ⟨_, _, _, _, _, _, hr, _⟩ := s.row b rfl
  exact row_lt hr
/-- The cell at a place of a slice of one-cell elements. -/
theorem SlO.at {h : Hp} {a : Option Addr} {n c : Nat} {ob : Option Nat} {vs : List Value} (s : SlO 1 h a n c ob vs) {i : Nat} {v : Value} (hv : vs[i]? = some v) : ∃ p : Addr, a = some p ∧ cell h (p.add (i * 1)) = some v := by
  have hi := (List.getElem?_eq_some_iff.1 hv).1
  have hl := s.len
  cases ob with
  | none => have := (s.nil rfl).2.1; omega
  | some b =>
    obtain ⟨off, rfl, h2, pre, junk, h3, h4, h5⟩ := s.row b rfl
    refine ⟨_, rfl, ?_⟩
    rw [add_mk, Nat.mul_one, cell_row h4, List.getElem?_append_right (by have := h3 (by omega); omega), h3 (by omega), Nat.add_sub_cancel_left, List.getElem?_append_left hi]
    exact hv
/-- l[1:] -/
theorem SlO.tail {h : Hp} {a : Option Addr} {n c : Nat} {ob : Option Nat} {v : Value} {vs : List Value} (s : SlO 1 h a n c ob (v :: vs)) :
    SlO 1 h (if c = 1 then a else Option.map (fun x => x.add (1 * 1)) a) (n - 1) (c - 1) ob vs := by
  have hl := s.len
  rw [List.length_cons] at hl
  cases ob with
  | none => have := (s.nil rfl).2.1; omega
  | some b =>
    obtain ⟨off, rfl, h2, pre, junk, h3, h4, h5⟩ := s.row b rfl
    rw [List.length_cons] at h5
    refine ⟨by omega, nofun, fun b' e => ?_⟩
    obtain rfl := Option.some.inj e
    have hp := h3 (by omega)
    have e1 : pre ++ (v :: vs ++ junk) = (pre ++ [v]) ++ (vs ++ junk) := by simp
    rw [e1] at h4
    by_cases hc : c = 1
    · rw [if_pos hc]
      exact ⟨off, rfl, by omega, pre ++ [v], junk, fun h => by omega, h4, by omega⟩
    · rw [if_neg hc]
      exact ⟨off + 1, by rw [Option.map_some, add_mk], by omega, pre ++ [v], junk, fun _ => by simp [hp], h4, by omega⟩
theorem appO_ok {e sz bys : Nat} {z : Array Value} {a : Option Addr} {n c m : Nat} {ob : Option Nat} {vs news : List Value} {h : Hp} {K : Option Addr → Nat → Nat → Hp → Prop}
    (s : SlO sz h a n c ob vs) (hz : z.size = sz) (hl : news.length = m * sz) (hcell : ∀ v ∈ news, isCell v = true) (hb : (2 * (n + m) + 768) * bys ≤ 2 ^ 48) (hlt : n + m < 2 ^ 62)
    (hK : ∀ a' c' ob' h', SlO sz h' a' (n + m) c' ob' (vs ++ news) → (ob' = ob ∧ Kept (fun b => ob = some b) h h' ∨ ob' = some h.size ∧ Kept (fun _ => False) h h') → K a' (n + m) c' h') :
    appT e sz bys z a n c (n + m) news h K := by
  have hvl := s.len
  refine ⟨fun hc => ?_, fun hc => ⟨hb, hlt, ?_⟩⟩
  · cases ob with
    | none =>
      obtain ⟨rfl, rfl, rfl⟩ := s.nil rfl
      obtain rfl : m = 0 := by omega
      have hn : news = [] := List.length_eq_zero_iff.1 (by omega)
      have hv : vs = [] := List.length_eq_zero_iff.1 (by omega)
      subst hn hv
      exact hK none 0 none h (slO_nil sz h) (.inl ⟨rfl, Kept.refl _ _⟩)
    | some b =>
      obtain ⟨off, rfl, h2, pre, j, hp, hr, hcl⟩ := s.row b rfl
      show stsOk h ((⟨b, off, none⟩ : Addr).add (n * sz)) news 0 ∧ _
      rw [add_mk]
      have hfit : n * sz + news.length ≤ (vs ++ j).length := by
        rw [List.length_append, hcl, hl]
        have := Nat.mul_le_mul_right sz hc
        rw [Nat.add_mul] at this
        omega
      by_cases h0 : c = 0
      · subst h0
        have hm : m = 0 := by omega
        have hn0 : n = 0 := by omega
        have hn : news = [] := List.length_eq_zero_iff.1 (by rw [hl, hm]; omega)
        subst hn
        refine ⟨trivial, hK _ 0 (some b) h ⟨by simp [hvl, hm], nofun, fun b' e => ?_⟩ (.inl ⟨rfl, Kept.refl _ _⟩)⟩
        obtain rfl := Option.some.inj e
        exact ⟨off, rfl, by omega, pre, j, fun h => absurd rfl h, by rw [List.append_nil]; exact hr, by simpa using hcl⟩
      · have hpl := hp h0
        have hfit2 : off + n * sz + 0 + news.length ≤ (pre ++ (vs ++ j)).length := by rw [List.length_append, hpl]; omega
        refine ⟨stsOk_row news h _ _ 0 hr hfit2 hcell, ?_⟩
        refine hK _ c (some b) _ ⟨by simp [hvl, hl, Nat.add_mul], nofun, fun b' e => ?_⟩ (.inl ⟨rfl, kept_setcs h _ _ _ rfl⟩)
        obtain rfl := Option.some.inj e
        refine ⟨off, rfl, hc, pre, j.drop news.length, fun _ => hpl, ?_, ?_⟩
        · have := row_setcs news h _ (off + n * sz) 0 hr hfit2
          rw [Nat.add_zero] at this
          have e1 : ovw (pre ++ (vs ++ j)) (off + n * sz) news = pre ++ (vs ++ news ++ j.drop news.length) := by
            unfold ovw
            rw [← hvl, ← hpl]
            have t1 : (pre ++ (vs ++ j)).take (pre.length + vs.length) = pre ++ vs := by
              rw [← List.append_assoc, List.take_append_of_le_length (by simp), List.take_of_length_le (by simp)]
            have t2 : (pre ++ (vs ++ j)).drop (pre.length + vs.length + news.length) = j.drop news.length := by
              rw [← List.append_assoc, List.drop_append, List.drop_eq_nil_of_le (by simp), List.nil_append]
              congr 1
              simp
            rw [t1, t2]
            simp
          rwa [e1] at this
        · rw [List.length_append, List.length_drop, hl]
          rw [List.length_append, hcl] at hfit
          omega
  · refine ⟨vs, ?_, hvl, fun nc h1 h2 => ?_⟩
    · cases ob with
      | none =>
        obtain ⟨rfl, rfl, rfl⟩ := s.nil rfl
        exact List.length_eq_zero_iff.1 (by omega)
      | some b =>
        obtain ⟨off, rfl, hnc, pre, j, hp, hr, hcl⟩ := s.row b rfl
        by_cases h0 : c = 0
        · have : vs = [] := List.length_eq_zero_iff.1 (by have : n = 0 := by omega
                                                          rw [hvl, this]; omega)
          subst this
          intro i v hv
          simp at hv
        · exact reads_row hr fun i v hv => by
            rw [List.getElem?_append_right (by have := hp h0; omega), hp h0, Nat.add_sub_cancel_left, List.getElem?_append_left (List.getElem?_eq_some_iff.1 hv).1]; exact hv
    · refine hK _ nc (some h.size) _ ⟨by simp [hvl, hl, Nat.add_mul], nofun, fun b' hb' => ?_⟩ (.inr ⟨rfl, kept_push _ _ _⟩)
      obtain rfl : h.size = b' := by simpa using hb'
      refine ⟨0, rfl, h1, [], (zrow z ((nc - (n + m)) * z.size)).toList, fun _ => rfl, ?_, ?_⟩
      · have := row_new h (vs.toArray ++ news.toArray ++ zrow z ((nc - (n + m)) * z.size)) e
        simpa using this
      · have e1 : (zrow z ((nc - (n + m)) * z.size)).toList.length = (nc - (n + m)) * sz := by
          rw [Array.length_toList, zrow_len, hz]
        rw [e1, List.length_append, hvl, hl, ← Nat.add_mul, ← Nat.add_mul]
        congr 1
        omega
end Go.Ev
