/- Objects and their words, as plain lists. No condition. -/
import Derived.Test.YtdkopnbjommjdaaN
set_option linter.all false
namespace Go.Ev
/-! ### Objects and their words -/
structure AObj where
  kind : Nat
  refs : List Nat
  raws : List Nat
  fwd : Option Nat
def hdw (k r w : Nat) : Nat := k + r * 256 + w * 4294967296
namespace AObj
def head (o : AObj) : Nat := match o.fwd with | none => hdw o.kind o.refs.length o.raws.length | some t => 9223372036854775808 + t
def flds (o : AObj) : List Nat := o.refs ++ o.raws
def size (o : AObj) : Nat := 1 + o.flds.length
def enc (o : AObj) : List Nat := o.head :: o.flds
structure Ok (o : AObj) : Prop where
  k1 : 1 ≤ o.kind
  k2 : o.kind ≤ 255
  nr : o.refs.length ≤ 1048576
  nw : o.raws.length ≤ 1048576
  fl : ∀ x ∈ o.flds, x < 18446744073709551616
  fw : ∀ t, o.fwd = some t → t < 9223372036854775808
def setF (o : AObj) (i v : Nat) : AObj := if i < o.refs.length then { o with refs := o.refs.set i v } else { o with raws := o.raws.set (i - o.refs.length) v }
theorem size_eq (o : AObj) : o.size = 1 + o.refs.length + o.raws.length := by simp [size, flds]; omega
theorem enc_len (o : AObj) : o.enc.length = o.size := by simp [enc, size]; omega
theorem flds_setF (o : AObj) (i v : Nat) : (o.setF i v).flds = o.flds.set i v := by
  unfold setF flds
  split
  · rename_i h; simp only; rw [List.set_append_left _ _ h]
  · rename_i h; simp only; rw [List.set_append_right _ _ (by omega)]
theorem head_setF (o : AObj) (i v : Nat) : (o.setF i v).head = o.head := by
  unfold setF
  split
  · simp [head]
  · simp [head]
theorem size_setF (o : AObj) (i v : Nat) : (o.setF i v).size = o.size := by
  simp [size, flds_setF]
theorem head_lt (o : AObj) (h : o.Ok) : o.head < 18446744073709551616 := by
  unfold head
  split
  · have := h.k2; have := h.nr; have := h.nw; unfold hdw; omega
  · rename_i t ht; have := h.fw t ht; omega
theorem head_plain {o : AObj} (h : o.Ok) (hf : o.fwd = none) : o.head = hdw o.kind o.refs.length o.raws.length ∧ o.head < 9223372036854775808 := by
  unfold head
  rw [hf]
  have := h.k2; have := h.nr; have := h.nw
  exact ⟨rfl, by unfold hdw; simp only; omega⟩
end AObj
def wordsOf (os : List AObj) : List Nat := 0 :: os.flatMap AObj.enc
def used (os : List AObj) : Nat := (wordsOf os).length
def pos (os : List AObj) (i : Nat) : Nat := used (os.take i)
/-- The number of the object that begins at a place (p: where the first one does). -/
def idxFrom : List AObj → Nat → Nat → Option Nat
  | [], _, _ => none
  | o :: r, p, at_ => if at_ = p then some 0 else (idxFrom r (p + o.size) at_).map (· + 1)
def idx (os : List AObj) (at_ : Nat) : Option Nat := idxFrom os 1 at_
theorem used_eq (os : List AObj) : used os = 1 + (os.map AObj.size).sum := by
  unfold used wordsOf
  rw [List.length_cons, List.length_flatMap]
  have : (os.map fun a => a.enc.length) = os.map AObj.size := List.map_congr_left fun o _ => o.enc_len
  rw [this]; omega
theorem used_nil : used [] = 1 := rfl
theorem used_app (a b : List AObj) : used (a ++ b) = used a + used b - 1 := by
  simp only [used_eq, List.map_append, List.sum_append]; omega
theorem used_snoc (os : List AObj) (o : AObj) : used (os ++ [o]) = used os + o.size := by
  simp only [used_eq, List.map_append, List.sum_append, List.map_cons, List.map_nil, List.sum_cons, List.sum_nil]; omega
theorem used_pos (os : List AObj) : 1 ≤ used os := by rw [used_eq]; omega
theorem wordsOf_snoc (os : List AObj) (o : AObj) : wordsOf (os ++ [o]) = wordsOf os ++ o.enc := by
  simp [wordsOf]
theorem pos_zero (os : List AObj) : pos os 0 = 1 := rfl
theorem size_pos (o : AObj) : 1 ≤ o.size := by unfold AObj.size; omega
theorem pos_succ {os : List AObj} {i : Nat} {o : AObj} (h : os[i]? = some o) : pos os (i + 1) = pos os i + o.size := by
  unfold pos
  obtain ⟨hi, he⟩ := List.getElem?_eq_some_iff.1 h
  rw [List.take_add_one, h, Option.toList_some, used_snoc]
theorem pos_ge (os : List AObj) (i : Nat) : 1 ≤ pos os i := used_pos _
theorem pos_len (os : List AObj) : pos os os.length = used os := by unfold pos; rw [List.take_length]
theorem pos_mono {os : List AObj} {i j : Nat} (h : i ≤ j) : pos os i ≤ pos os j := by
  unfold pos
  have e : os.take j = os.take i ++ (os.drop i).take (j - i) := by
    rw [← List.take_add]; congr 1; omega
  rw [e, used_app]
  have := used_pos ((os.drop i).take (j - i))
  omega
theorem pos_lt {os : List AObj} {i j : Nat} (h : i < j) (hj : j ≤ os.length) : pos os i < pos os j := by
  have hi : i < os.length := by omega
  have h1 := pos_succ (os := os) (i := i) (List.getElem?_eq_getElem hi)
  have h2 := pos_mono (os := os) (i := i + 1) (j := j) h
  have := size_pos os[i]
  omega
theorem pos_lt_used {os : List AObj} {i : Nat} (h : i < os.length) : pos os i < used os := by
  rw [← pos_len]; exact pos_lt h (Nat.le_refl _)
theorem pos_size_le {os : List AObj} {i : Nat} {o : AObj} (h : os[i]? = some o) : pos os i + o.size ≤ used os := by
  rw [← pos_succ h, ← pos_len]
  obtain ⟨hi, _⟩ := List.getElem?_eq_some_iff.1 h
  exact pos_mono hi
theorem pos_inj {os : List AObj} {i j : Nat} (hi : i < os.length) (hj : j < os.length) (h : pos os i = pos os j) : i = j := by
  rcases Nat.lt_trichotomy i j with hl | hl | hl
  · have := pos_lt hl (Nat.le_of_lt hj); omega
  · exact hl
  · have := pos_lt hl (Nat.le_of_lt hi); omega
theorem idxFrom_some : ∀ (os : List AObj) (p a i : Nat), idxFrom os p a = some i ↔ i < os.length ∧ p + (((os.take i).map AObj.size).sum) = a := by
  intro os
  induction os with
  | nil => intro p a i; simp [idxFrom]
  | cons o r ih =>
    intro p a i
    unfold idxFrom
    split
    · rename_i h
      subst h
      cases i with
      | zero => simp
      | succ i =>
        have := size_pos o
        constructor
        · intro h; simp at h
        · rintro ⟨_, h⟩; simp at h; omega
    · rename_i h
      cases i with
      | zero => simp; omega
      | succ i =>
        simp only [Option.map_eq_some_iff, Nat.add_right_cancel_iff, exists_eq_right, ih, List.length_cons, List.take_succ_cons, List.map_cons, List.sum_cons]
        constructor
        · rintro ⟨h1, h2⟩; exact ⟨by omega, by omega⟩
        · rintro ⟨h1, h2⟩; exact ⟨by omega, by omega⟩
theorem idx_some {os : List AObj} {a i : Nat} : idx os a = some i ↔ i < os.length ∧ pos os i = a := by
  unfold idx pos
  rw [idxFrom_some, used_eq]
theorem idx_pos {os : List AObj} {i : Nat} (h : i < os.length) : idx os (pos os i) = some i := idx_some.2 ⟨h, rfl⟩
theorem idx_zero (os : List AObj) : idx os 0 = none := by
  cases h : idx os 0 with
  | none => rfl
  | some i => have := (idx_some.1 h).2; have := pos_ge os i; omega
theorem idx_lt {os : List AObj} {a i : Nat} (h : idx os a = some i) : a < used os := by
  obtain ⟨h1, h2⟩ := idx_some.1 h
  rw [← h2]; exact pos_lt_used h1
theorem idx_none_of_ge {os : List AObj} {a : Nat} (h : used os ≤ a) : idx os a = none := by
  cases hi : idx os a with
  | none => rfl
  | some i => have := idx_lt hi; omega
theorem pos_snoc {os : List AObj} {o : AObj} {i : Nat} (h : i ≤ os.length) : pos (os ++ [o]) i = pos os i := by
  unfold pos
  rw [List.take_append_of_le_length h]
theorem idx_snoc (os : List AObj) (o : AObj) (a : Nat) : idx (os ++ [o]) a = if a = used os then some os.length else idx os a := by
  split
  · rename_i h
    subst h
    rw [idx_some]
    exact ⟨by simp, by rw [pos_snoc (Nat.le_refl _), pos_len]⟩
  · rename_i h
    cases hi : idx os a with
    | some i =>
      obtain ⟨h1, h2⟩ := idx_some.1 hi
      rw [idx_some]
      exact ⟨by simp; omega, by rw [pos_snoc (Nat.le_of_lt h1), h2]⟩
    | none =>
      cases hj : idx (os ++ [o]) a with
      | none => rfl
      | some j =>
        obtain ⟨h1, h2⟩ := idx_some.1 hj
        by_cases hl : j < os.length
        · rw [pos_snoc (Nat.le_of_lt hl)] at h2
          rw [idx_some.2 ⟨hl, h2⟩] at hi
          cases hi
        · have : j = os.length := by simp at h1; omega
          subst this
          rw [pos_snoc (Nat.le_refl _), pos_len] at h2
          exact absurd h2.symm h
/-- A place's word. -/
theorem words_split {os : List AObj} {i : Nat} {o : AObj} (h : os[i]? = some o) : ∃ r, wordsOf os = wordsOf (os.take i) ++ (o.enc ++ r) := by
  obtain ⟨hi, he⟩ := List.getElem?_eq_some_iff.1 h
  refine ⟨(os.drop (i + 1)).flatMap AObj.enc, ?_⟩
  have e : os = os.take i ++ o :: os.drop (i + 1) := by
    rw [← he, ← List.drop_eq_getElem_cons hi, List.take_append_drop]
  conv => lhs; rw [e]
  simp [wordsOf]
theorem word_head {os : List AObj} {i : Nat} {o : AObj} (h : os[i]? = some o) : (wordsOf os)[pos os i]? = some o.head := by
  obtain ⟨r, e⟩ := words_split h
  rw [e, List.getElem?_append_right (by show (wordsOf (os.take i)).length ≤ used (os.take i); exact Nat.le_refl _)]
  have : pos os i - (wordsOf (os.take i)).length = 0 := by show used (os.take i) - used (os.take i) = 0; omega
  rw [this]; rfl
theorem word_fld {os : List AObj} {i j : Nat} {o : AObj} (h : os[i]? = some o) (hj : j < o.flds.length) : (wordsOf os)[pos os i + 1 + j]? = o.flds[j]? := by
  obtain ⟨r, e⟩ := words_split h
  rw [e, List.getElem?_append_right (by show used (os.take i) ≤ used (os.take i) + 1 + j; omega)]
  have : pos os i + 1 + j - (wordsOf (os.take i)).length = j + 1 := by show used (os.take i) + 1 + j - used (os.take i) = j + 1; omega
  rw [this]
  unfold AObj.enc
  rw [List.cons_append, List.getElem?_cons_succ, List.getElem?_append_left hj]
theorem pos_modify {os : List AObj} {i j : Nat} {f : AObj → AObj} (hf : ∀ o, (f o).size = o.size) : pos (os.modify i f) j = pos os j := by
  unfold pos
  rw [used_eq, used_eq]
  congr 2
  rw [List.map_take, List.map_take]
  congr 1
  apply List.ext_getElem?
  intro k
  rw [List.getElem?_map, List.getElem?_map, List.getElem?_modify]
  cases os[k]? with
  | none => rfl
  | some o => simp only [Option.map_some]; split <;> simp [hf]
theorem used_modify {os : List AObj} {i : Nat} {f : AObj → AObj} (hf : ∀ o, (f o).size = o.size) : used (os.modify i f) = used os := by
  have := pos_modify (os := os) (i := i) (j := os.length) hf
  rw [← pos_len, ← pos_len, List.length_modify]; exact this
theorem idx_modify {os : List AObj} {i a : Nat} {f : AObj → AObj} (hf : ∀ o, (f o).size = o.size) : idx (os.modify i f) a = idx os a := by
  cases h : idx os a with
  | some j =>
    obtain ⟨h1, h2⟩ := idx_some.1 h
    exact idx_some.2 ⟨by simpa using h1, by rw [pos_modify hf, h2]⟩
  | none =>
    cases hj : idx (os.modify i f) a with
    | none => rfl
    | some j =>
      obtain ⟨h1, h2⟩ := idx_some.1 hj
      rw [pos_modify hf] at h2
      rw [idx_some.2 ⟨by simpa using h1, h2⟩] at h
      cases h
theorem words_modify {os : List AObj} {i : Nat} {o : AObj} {f : AObj → AObj} (h : os[i]? = some o) (j v : Nat) (hj : j < o.size) (he : (f o).enc = o.enc.set j v) :
    wordsOf (os.modify i f) = (wordsOf os).set (pos os i + j) v := by
  obtain ⟨hi, hio⟩ := List.getElem?_eq_some_iff.1 h
  have e : os = os.take i ++ o :: os.drop (i + 1) := by
    rw [← hio, ← List.drop_eq_getElem_cons hi, List.take_append_drop]
  have e2 : os.modify i f = os.take i ++ f o :: os.drop (i + 1) := by
    rw [List.modify_eq_take_cons_drop hi, hio]
  rw [e2]
  have hl : (wordsOf (os.take i)).length = pos os i := rfl
  have e3 : wordsOf os = wordsOf (os.take i) ++ (o.enc ++ (os.drop (i + 1)).flatMap AObj.enc) := by
    conv => lhs; rw [e]
    simp [wordsOf]
  rw [e3, List.set_append_right _ _ (by omega), hl, Nat.add_sub_cancel_left, List.set_append_left _ _ (by rw [AObj.enc_len]; exact hj), ← he]
  simp [wordsOf]
theorem words_setF {os : List AObj} {i j v : Nat} {o : AObj} (h : os[i]? = some o) (hj : j < o.flds.length) :
    wordsOf (os.modify i fun o => o.setF j v) = (wordsOf os).set (pos os i + 1 + j) v := by
  rw [show pos os i + 1 + j = pos os i + (j + 1) by omega]
  refine words_modify h (j + 1) v (by unfold AObj.size; omega) ?_
  unfold AObj.enc
  rw [AObj.head_setF, AObj.flds_setF, List.set_cons_succ]
theorem words_fwd {os : List AObj} {i t : Nat} {o : AObj} (h : os[i]? = some o) :
    wordsOf (os.modify i fun o => { o with fwd := some t }) = (wordsOf os).set (pos os i) (9223372036854775808 + t) := by
  exact words_modify h 0 _ (size_pos o) rfl
theorem words_lt {os : List AObj} (h : ∀ o ∈ os, o.Ok) : ∀ x ∈ wordsOf os, x < 18446744073709551616 := by
  intro x hx
  unfold wordsOf at hx
  rcases List.mem_cons.1 hx with rfl | hx
  · omega
  · obtain ⟨o, ho, hx⟩ := List.mem_flatMap.1 hx
    unfold AObj.enc at hx
    rcases List.mem_cons.1 hx with rfl | hx
    · exact o.head_lt (h o ho)
    · exact (h o ho).fl x hx

/-! ### The bits that say where an object begins -/
def bitAt (fs : List Nat) (p : Nat) : Bool := (fs.getD (p / 64) 0).testBit (p % 64)
structure FirstOk (fs : List Nat) (os : List AObj) : Prop where
  bit : ∀ p, bitAt fs p = (idx os p).isSome
  len : used os ≤ fs.length * 64
  lt : ∀ x ∈ fs, x < 18446744073709551616
theorem FirstOk.modify {fs : List Nat} {os : List AObj} {i : Nat} {f : AObj → AObj} (h : FirstOk fs os) (hf : ∀ o, (f o).size = o.size) : FirstOk fs (os.modify i f) :=
  ⟨fun p => by rw [idx_modify hf]; exact h.bit p, by rw [used_modify hf]; exact h.len, h.lt⟩
theorem bitAt_zeros (fs : List Nat) (k p : Nat) : bitAt (fs ++ List.replicate k 0) p = bitAt fs p := by
  unfold bitAt
  congr 1
  rw [List.getD_eq_getElem?_getD, List.getD_eq_getElem?_getD]
  by_cases h : p / 64 < fs.length
  · rw [List.getElem?_append_left h]
  · rw [List.getElem?_append_right (by omega), List.getElem?_eq_none (l := fs) (by omega), List.getElem?_replicate]
    split <;> rfl
theorem bitAt_set {fs : List Nat} {a p : Nat} (h : a / 64 < fs.length) : bitAt (fs.set (a / 64) (fs.getD (a / 64) 0 ||| 2 ^ (a % 64))) p = (bitAt fs p || p == a) := by
  unfold bitAt
  rw [List.getD_eq_getElem?_getD, List.getD_eq_getElem?_getD (l := fs) (i := p / 64)]
  by_cases hp : p / 64 = a / 64
  · rw [hp, List.getElem?_set_self h, Option.getD_some, Nat.testBit_or, Nat.testBit_two_pow, List.getD_eq_getElem?_getD]
    congr 1
    rw [Bool.eq_iff_iff]
    simp only [decide_eq_true_eq, beq_iff_eq]
    omega
  · rw [List.getElem?_set_ne (by omega)]
    have : (p == a) = false := by rw [beq_eq_false_iff_ne]; intro e; subst e; exact hp rfl
    rw [this, Bool.or_false]
theorem FirstOk.snoc {fs : List Nat} {os : List AObj} {o : AObj} (h : FirstOk fs os) {k : Nat} (hl : used os + o.size ≤ (fs.length + k) * 64) :
    FirstOk ((fs ++ List.replicate k 0).set (used os / 64) ((fs ++ List.replicate k 0).getD (used os / 64) 0 ||| 2 ^ (used os % 64))) (os ++ [o]) := by
  have hs := size_pos o
  have hlt : used os / 64 < (fs ++ List.replicate k 0).length := by simp; omega
  refine ⟨fun p => ?_, ?_, ?_⟩
  · rw [bitAt_set hlt, bitAt_zeros, h.bit, idx_snoc]
    by_cases hp : p = used os
    · rw [if_pos hp]; simp [hp]
    · rw [if_neg hp]; simp [hp]
  · rw [used_snoc]; simp; omega
  · intro x hx
    rcases List.mem_or_eq_of_mem_set hx with hx | hx
    · rcases List.mem_append.1 hx with hx | hx
      · exact h.lt x hx
      · rw [(List.mem_replicate.1 hx).2]; omega
    · rw [hx]
      have h1 : (fs ++ List.replicate k 0).getD (used os / 64) 0 < 2 ^ 64 := by
        rw [List.getD_eq_getElem?_getD, List.getElem?_eq_getElem hlt, Option.getD_some]
        have := List.getElem_mem hlt
        rcases List.mem_append.1 this with hx | hx
        · exact h.lt _ hx
        · rw [(List.mem_replicate.1 hx).2]; omega
      have h2 : 2 ^ (used os % 64) < 2 ^ 64 := Nat.pow_lt_pow_right (by omega) (by omega)
      exact Nat.or_lt_two_pow h1 h2
theorem firstOk_nil : FirstOk [0] [] := by
  refine ⟨fun p => ?_, by simp [used_nil], by simp⟩
  unfold bitAt
  have : ([0] : List Nat).getD (p / 64) 0 = 0 := by
    rw [List.getD_eq_getElem?_getD]
    cases p / 64 with
    | zero => rfl
    | succ n => simp
  rw [this]
  simp [idx, idxFrom]
end Go.Ev
