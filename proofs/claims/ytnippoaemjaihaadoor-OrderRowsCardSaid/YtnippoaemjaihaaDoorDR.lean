/-
  The walk through the program's small functions for the statement OrderRows: the table's copy, the document's table, their comparison, the marks, the names.
  No condition but that the variable's cells read as the row lays them.
-/
import Derived.Test.YtnippoaemjaihaaDoorHM
import Derived.Test.YtnippoaemjaihaaDoorGD
set_option maxRecDepth 100000
namespace Go.Ev
open Go.Proofs
/-- A command's cells. -/
abbrev Cmd := ByteArray × Int × Bool × Int × Int × Int × Int
def flat (r : Cmd) : List Value := [.string r.1, .int .i64 r.2.1, .bool r.2.2.1, .int .i64 r.2.2.2.1, .int .i64 r.2.2.2.2.1, .int .i64 r.2.2.2.2.2.1, .int .i64 r.2.2.2.2.2.2]
def rws : List Cmd := [
  (⟨#[90, 65, 68, 68]⟩, (-4), true, 1, 1, 1, 0),
  (⟨#[90, 67, 65, 82, 68]⟩, 2, false, 1, 1, 1, 0),
  (⟨#[90, 67, 79, 85, 78, 84]⟩, 4, false, 1, 1, 1, 0),
  (⟨#[90, 68, 73, 70, 70]⟩, (-3), false, 0, 0, 0, 1),
  (⟨#[90, 68, 73, 70, 70, 83, 84, 79, 82, 69]⟩, (-4), true, 1, 1, 1, 2),
  (⟨#[90, 73, 78, 67, 82, 66, 89]⟩, 4, true, 1, 1, 1, 0),
  (⟨#[90, 73, 78, 84, 69, 82]⟩, (-3), false, 0, 0, 0, 1),
  (⟨#[90, 73, 78, 84, 69, 82, 67, 65, 82, 68]⟩, (-3), false, 0, 0, 0, 1),
  (⟨#[90, 73, 78, 84, 69, 82, 83, 84, 79, 82, 69]⟩, (-4), true, 1, 1, 1, 2),
  (⟨#[90, 76, 69, 88, 67, 79, 85, 78, 84]⟩, 4, false, 1, 1, 1, 0),
  (⟨#[90, 77, 80, 79, 80]⟩, (-4), true, 0, 0, 0, 1),
  (⟨#[90, 77, 83, 67, 79, 82, 69]⟩, (-3), false, 1, 1, 1, 0),
  (⟨#[90, 80, 79, 80, 77, 65, 88]⟩, (-2), true, 1, 1, 1, 0),
  (⟨#[90, 80, 79, 80, 77, 73, 78]⟩, (-2), true, 1, 1, 1, 0),
  (⟨#[90, 82, 65, 78, 71, 69]⟩, (-4), false, 1, 1, 1, 0),
  (⟨#[90, 82, 65, 78, 71, 69, 66, 89, 76, 69, 88]⟩, (-4), false, 1, 1, 1, 0),
  (⟨#[90, 82, 65, 78, 71, 69, 66, 89, 83, 67, 79, 82, 69]⟩, (-4), false, 1, 1, 1, 0),
  (⟨#[90, 82, 65, 78, 71, 69, 83, 84, 79, 82, 69]⟩, (-5), true, 1, 2, 1, 0),
  (⟨#[90, 82, 65, 78, 75]⟩, (-3), false, 1, 1, 1, 0),
  (⟨#[90, 82, 69, 77]⟩, (-3), true, 1, 1, 1, 0),
  (⟨#[90, 82, 69, 77, 82, 65, 78, 71, 69, 66, 89, 76, 69, 88]⟩, 4, true, 1, 1, 1, 0),
  (⟨#[90, 82, 69, 77, 82, 65, 78, 71, 69, 66, 89, 82, 65, 78, 75]⟩, 4, true, 1, 1, 1, 0),
  (⟨#[90, 82, 69, 77, 82, 65, 78, 71, 69, 66, 89, 83, 67, 79, 82, 69]⟩, 4, true, 1, 1, 1, 0),
  (⟨#[90, 82, 69, 86, 82, 65, 78, 71, 69]⟩, (-4), false, 1, 1, 1, 0),
  (⟨#[90, 82, 69, 86, 82, 65, 78, 71, 69, 66, 89, 76, 69, 88]⟩, (-4), false, 1, 1, 1, 0),
  (⟨#[90, 82, 69, 86, 82, 65, 78, 71, 69, 66, 89, 83, 67, 79, 82, 69]⟩, (-4), false, 1, 1, 1, 0),
  (⟨#[90, 82, 69, 86, 82, 65, 78, 75]⟩, (-3), false, 1, 1, 1, 0),
  (⟨#[90, 83, 67, 65, 78]⟩, (-3), false, 1, 1, 1, 0),
  (⟨#[90, 83, 67, 79, 82, 69]⟩, 3, false, 1, 1, 1, 0),
  (⟨#[90, 85, 78, 73, 79, 78]⟩, (-3), false, 0, 0, 0, 1),
  (⟨#[90, 85, 78, 73, 79, 78, 83, 84, 79, 82, 69]⟩, (-4), true, 1, 1, 1, 2)]
def flats (l : List Cmd) : List Value := l.flatMap flat
theorem flat_len (r : Cmd) : (flat r).length = 7 := rfl
theorem flats_len : ∀ l : List Cmd, (flats l).length = l.length * 7
  | [] => rfl
  | r :: l => by
    show (flat r ++ flats l).length = _
    rw [List.length_append, flat_len, flats_len l, List.length_cons]; omega
theorem flats_get : ∀ (l : List Cmd) (i : Nat) (r : Cmd) (j : Nat), l[i]? = some r → j < 7 → (flats l)[i * 7 + j]? = (flat r)[j]?
  | [], i, r, j, h, _ => by simp at h
  | a :: l, 0, r, j, h, hj => by
    obtain rfl : a = r := by simpa using h
    show (flat a ++ flats l)[0 * 7 + j]? = _
    rw [Nat.zero_mul, Nat.zero_add, List.getElem?_append_left (by rw [flat_len]; exact hj)]
  | a :: l, i + 1, r, j, h, hj => by
    show (flat a ++ flats l)[(i + 1) * 7 + j]? = _
    rw [List.getElem?_append_right (by rw [flat_len]; omega), flat_len, show (i + 1) * 7 + j - 7 = i * 7 + j by omega]
    exact flats_get l i r j (by simpa using h) hj
theorem flats_take {l : List Cmd} {i : Nat} {r : Cmd} (h : l[i]? = some r) : flats (l.take (i + 1)) = flats (l.take i) ++ flat r := by
  have : l.take (i + 1) = l.take i ++ [r] := by
    rw [List.take_add_one, h]; rfl
  rw [this]
  show List.flatMap flat _ = _
  rw [List.flatMap_append]
  simp [flats]
theorem flat_cell (r : Cmd) : ∀ v ∈ flat r, isCell v = true := by
  intro v hv
  simp only [flat, List.mem_cons, List.not_mem_nil, or_false] at hv
  rcases hv with rfl | rfl | rfl | rfl | rfl | rfl | rfl <;> rfl
abbrev N : Nat → Prop := fun _ => False

theorem put7 {h : Hp} {b o : Nat} {cs : List Value} (hr : Row h b cs) (ho : o + 7 ≤ cs.length) (v0 v1 v2 v3 v4 v5 v6 : Value) {K : Hp → Prop}
    (hK : ∀ h', Row h' b (ovw cs o [v0, v1, v2, v3, v4, v5, v6]) → Kept (fun i => i = b) h h' → K h') :
    stOk h ⟨b, o, none⟩ ∧ Let (setc h ⟨b, o, none⟩ v0) fun h1 => stOk h1 ((⟨b, o, none⟩ : Addr).add 1) ∧ Let (setc h1 ((⟨b, o, none⟩ : Addr).add 1) v1) fun h2 =>
    stOk h2 ((⟨b, o, none⟩ : Addr).add 2) ∧ Let (setc h2 ((⟨b, o, none⟩ : Addr).add 2) v2) fun h3 => stOk h3 ((⟨b, o, none⟩ : Addr).add 3) ∧ Let (setc h3 ((⟨b, o, none⟩ : Addr).add 3) v3) fun h4 =>
    stOk h4 ((⟨b, o, none⟩ : Addr).add 4) ∧ Let (setc h4 ((⟨b, o, none⟩ : Addr).add 4) v4) fun h5 => stOk h5 ((⟨b, o, none⟩ : Addr).add 5) ∧ Let (setc h5 ((⟨b, o, none⟩ : Addr).add 5) v5) fun h6 =>
    stOk h6 ((⟨b, o, none⟩ : Addr).add 6) ∧ Let (setc h6 ((⟨b, o, none⟩ : Addr).add 6) v6) fun h7 => K h7 := by
  have h1 := row_setc hr o v0
  have h2 := row_setc h1 (o + 1) v1
  have h3 := row_setc h2 (o + 2) v2
  have h4 := row_setc h3 (o + 3) v3
  have h5 := row_setc h4 (o + 4) v4
  have h6 := row_setc h5 (o + 5) v5
  have h7 := row_setc h6 (o + 6) v6
  simp only [Let, add_mk]
  refine ⟨stOk_row hr (by omega), stOk_row h1 (by simp; omega), stOk_row h2 (by simp; omega), stOk_row h3 (by simp; omega), stOk_row h4 (by simp; omega), stOk_row h5 (by simp; omega), stOk_row h6 (by simp; omega), hK _ ?_ ?_⟩
  · have e := row_setcs [v0, v1, v2, v3, v4, v5, v6] h cs o 0 hr (by simpa using ho)
    simpa only [setcs, add_mk, Nat.add_zero, Nat.zero_add, Nat.reduceAdd] using e
  · have e := kept_setcs h (b := b) o 0 [v0, v1, v2, v3, v4, v5, v6] (S := fun i => i = b) rfl
    simpa only [setcs, add_mk, Nat.add_zero, Nat.zero_add, Nat.reduceAdd] using e
theorem get7 {h : Hp} {b o : Nat} {cs : List Value} (hr : Row h b cs) (r : Cmd) (hc : ∀ j, j < 7 → cs[o + j]? = (flat r)[j]?) {K : ByteArray → Int → Bool → Int → Int → Int → Int → Prop}
    (hK : K r.1 r.2.1 r.2.2.1 r.2.2.2.1 r.2.2.2.2.1 r.2.2.2.2.2.1 r.2.2.2.2.2.2) :
    ∃ t0 : ByteArray, cell h ⟨b, o, none⟩ = some (.string t0) ∧ ∃ t1 : Int, cell h ((⟨b, o, none⟩ : Addr).add 1) = some (.int .i64 t1) ∧ ∃ t2 : Bool, cell h ((⟨b, o, none⟩ : Addr).add 2) = some (.bool t2) ∧
    ∃ t3 : Int, cell h ((⟨b, o, none⟩ : Addr).add 3) = some (.int .i64 t3) ∧ ∃ t4 : Int, cell h ((⟨b, o, none⟩ : Addr).add 4) = some (.int .i64 t4) ∧ ∃ t5 : Int, cell h ((⟨b, o, none⟩ : Addr).add 5) = some (.int .i64 t5) ∧
    ∃ t6 : Int, cell h ((⟨b, o, none⟩ : Addr).add 6) = some (.int .i64 t6) ∧ K t0 t1 t2 t3 t4 t5 t6 := by
  simp only [add_mk]
  refine ⟨_, (cell_row hr _).trans (hc 0 (by omega)), _, (cell_row hr _).trans (hc 1 (by omega)), _, (cell_row hr _).trans (hc 2 (by omega)), _, (cell_row hr _).trans (hc 3 (by omega)), _, (cell_row hr _).trans (hc 4 (by omega)),
    _, (cell_row hr _).trans (hc 5 (by omega)), _, (cell_row hr _).trans (hc 6 (by omega)), hK⟩
theorem ovw7 (c0 c1 c2 c3 c4 c5 c6 : Value) (r : Cmd) : ovw [c0, c1, c2, c3, c4, c5, c6] 0 (flat r) = flat r := rfl
theorem kept_new {h h' : Hp} (k : Kept (fun i => i = h.size) h h') : Kept N h h' := k.mono fun i hi e => by omega

/-! ### row -/
theorem row_ok {s : ByteArray} {a f l c : Int} {w : Bool} {h : Hp} {R : Value → Hp → Prop}
    (hR : ∀ h', Kept N h h' → R (.agg (flat (s, a, w, f, l, if 0 < f then 1 else 0, c)).toArray) h') :
    CallTo Tryd.prog 9 #[.string s, .int .i64 a, .bool w, .int .i64 f, .int .i64 l, .int .i64 c] h R := by
  refine f9F_ok ?_
  unfold f9F
  show Let _ _
  unfold Let
  have hnew := row_new h #[.string ⟨#[]⟩, .int .i64 0, .bool false, .int .i64 0, .int .i64 0, .int .i64 0, .int .i64 0] 28
  have go : ∀ st : Int, (∀ h', Kept N h h' → R (.agg (flat (s, a, w, f, l, st, c)).toArray) h') →
      f9K1 s a w f l c (nb h) st (h.push (.cells #[.string ⟨#[]⟩, .int .i64 0, .bool false, .int .i64 0, .int .i64 0, .int .i64 0, .int .i64 0] 28)) R := by
    intro st hst
    unfold f9K1
    refine put7 (o := 0) hnew (by simp) _ _ _ _ _ _ _ fun h' hr hk => ?_
    refine get7 (o := 0) hr (s, a, w, f, l, st, c) (fun j hj => by rw [Nat.zero_add]; rfl) ?_
    refine hst h' ⟨Nat.le_trans (by simp) hk.1, fun i hi _ => ?_⟩
    rw [hk.2 i (by simp; omega) (by omega)]
    exact push_old h _ hi
  refine Cond_dec (fun hf => ?_) fun hf => ?_
  · exact go 1 (by rw [if_pos (show 0 < f from hf)] at hR; exact hR)
  · exact go 0 (by rw [if_neg (show ¬ 0 < f from hf)] at hR; exact hR)

/-! ### the document's table -/
theorem doc_ok {h : Hp} {R : Value → Hp → Prop}
    (hR : ∀ b h', SlAt 7 h' (some (ad b)) 31 31 (some b) (flats rws) → h.size ≤ b → Kept N h h' → R (.slice (some (ad b)) 31 31) h') : CallTo Tryd.prog 8 #[] h R := by
  refine f8F_ok ?_
  unfold f8F
  refine row_ok fun h1 k1 => ⟨_, _, _, _, _, _, _, rfl, ?_⟩
  refine row_ok fun h2 k2 => ⟨_, _, _, _, _, _, _, rfl, ?_⟩
  replace k1 := Kept.trans k1 k2
  clear k2
  refine row_ok fun h3 k3 => ⟨_, _, _, _, _, _, _, rfl, ?_⟩
  replace k1 := Kept.trans k1 k3
  clear k3
  refine row_ok fun h4 k4 => ⟨_, _, _, _, _, _, _, rfl, ?_⟩
  replace k1 := Kept.trans k1 k4
  clear k4
  refine row_ok fun h5 k5 => ⟨_, _, _, _, _, _, _, rfl, ?_⟩
  replace k1 := Kept.trans k1 k5
  clear k5
  refine row_ok fun h6 k6 => ⟨_, _, _, _, _, _, _, rfl, ?_⟩
  replace k1 := Kept.trans k1 k6
  clear k6
  refine row_ok fun h7 k7 => ⟨_, _, _, _, _, _, _, rfl, ?_⟩
  replace k1 := Kept.trans k1 k7
  clear k7
  refine row_ok fun h8 k8 => ⟨_, _, _, _, _, _, _, rfl, ?_⟩
  replace k1 := Kept.trans k1 k8
  clear k8
  refine row_ok fun h9 k9 => ⟨_, _, _, _, _, _, _, rfl, ?_⟩
  replace k1 := Kept.trans k1 k9
  clear k9
  refine row_ok fun h10 k10 => ⟨_, _, _, _, _, _, _, rfl, ?_⟩
  replace k1 := Kept.trans k1 k10
  clear k10
  refine row_ok fun h11 k11 => ⟨_, _, _, _, _, _, _, rfl, ?_⟩
  replace k1 := Kept.trans k1 k11
  clear k11
  refine row_ok fun h12 k12 => ⟨_, _, _, _, _, _, _, rfl, ?_⟩
  replace k1 := Kept.trans k1 k12
  clear k12
  refine row_ok fun h13 k13 => ⟨_, _, _, _, _, _, _, rfl, ?_⟩
  replace k1 := Kept.trans k1 k13
  clear k13
  refine row_ok fun h14 k14 => ⟨_, _, _, _, _, _, _, rfl, ?_⟩
  replace k1 := Kept.trans k1 k14
  clear k14
  refine row_ok fun h15 k15 => ⟨_, _, _, _, _, _, _, rfl, ?_⟩
  replace k1 := Kept.trans k1 k15
  clear k15
  refine row_ok fun h16 k16 => ⟨_, _, _, _, _, _, _, rfl, ?_⟩
  replace k1 := Kept.trans k1 k16
  clear k16
  refine row_ok fun h17 k17 => ⟨_, _, _, _, _, _, _, rfl, ?_⟩
  replace k1 := Kept.trans k1 k17
  clear k17
  refine row_ok fun h18 k18 => ⟨_, _, _, _, _, _, _, rfl, ?_⟩
  replace k1 := Kept.trans k1 k18
  clear k18
  refine row_ok fun h19 k19 => ⟨_, _, _, _, _, _, _, rfl, ?_⟩
  replace k1 := Kept.trans k1 k19
  clear k19
  refine row_ok fun h20 k20 => ⟨_, _, _, _, _, _, _, rfl, ?_⟩
  replace k1 := Kept.trans k1 k20
  clear k20
  refine row_ok fun h21 k21 => ⟨_, _, _, _, _, _, _, rfl, ?_⟩
  replace k1 := Kept.trans k1 k21
  clear k21
  refine row_ok fun h22 k22 => ⟨_, _, _, _, _, _, _, rfl, ?_⟩
  replace k1 := Kept.trans k1 k22
  clear k22
  refine row_ok fun h23 k23 => ⟨_, _, _, _, _, _, _, rfl, ?_⟩
  replace k1 := Kept.trans k1 k23
  clear k23
  refine row_ok fun h24 k24 => ⟨_, _, _, _, _, _, _, rfl, ?_⟩
  replace k1 := Kept.trans k1 k24
  clear k24
  refine row_ok fun h25 k25 => ⟨_, _, _, _, _, _, _, rfl, ?_⟩
  replace k1 := Kept.trans k1 k25
  clear k25
  refine row_ok fun h26 k26 => ⟨_, _, _, _, _, _, _, rfl, ?_⟩
  replace k1 := Kept.trans k1 k26
  clear k26
  refine row_ok fun h27 k27 => ⟨_, _, _, _, _, _, _, rfl, ?_⟩
  replace k1 := Kept.trans k1 k27
  clear k27
  refine row_ok fun h28 k28 => ⟨_, _, _, _, _, _, _, rfl, ?_⟩
  replace k1 := Kept.trans k1 k28
  clear k28
  refine row_ok fun h29 k29 => ⟨_, _, _, _, _, _, _, rfl, ?_⟩
  replace k1 := Kept.trans k1 k29
  clear k29
  refine row_ok fun h30 k30 => ⟨_, _, _, _, _, _, _, rfl, ?_⟩
  replace k1 := Kept.trans k1 k30
  clear k30
  refine row_ok fun h31 k31 => ⟨_, _, _, _, _, _, _, rfl, ?_⟩
  replace k1 := Kept.trans k1 k31
  clear k31
  show Let _ _
  unfold Let
  refine hR h31.size _ ⟨rfl, nofun, fun b' hb' => ?_⟩ k1.1 (k1.trans (kept_push _ _ _))
  obtain rfl : h31.size = b' := by simpa using hb'
  refine ⟨rfl, Nat.le_refl _, [], ?_, rfl⟩
  rw [List.append_nil]
  exact row_new h31 _ 28

/-! ### Commands -/
theorem wrap_sm {x : Int} (h0 : 0 ≤ x) (h1 : x < 1000000) : IntKind.wrap .i64 x = x := wrap_i64' (by omega) (by omega)
theorem cmds_ok {h : Hp} {R : Value → Hp → Prop} (hg : Reads h ⟨0, 0, none⟩ (flats rws))
    (hR : ∀ b c h', SlAt 7 h' (some (ad b)) 31 c (some b) (flats rws) → h.size ≤ b → Kept N h h' → R (.slice (some (ad b)) 31 c) h') : CallTo Tryd.prog 4 #[] h R := by
  refine f4F_ok ?_
  unfold f4F
  refine ⟨.agg (flats rws).toArray, ⟨flats rws, rfl, hg, rfl⟩, ?_⟩
  refine f4L1_rule (s1 := ⟨none, 0, 0⟩) (fun n s1 s4 s5 h' => ∃ (i : Nat) (ob : Option Nat), i ≤ 31 ∧ n = 31 - i ∧ s5 = i ∧ s4 = .agg (flats rws).toArray ∧ s1.n = i ∧
    SlAt 7 h' s1.a i s1.c ob (flats (rws.take i)) ∧ (∀ b, ob = some b → h.size ≤ b) ∧ Kept N h h') 31 ⟨0, none, by omega, rfl, rfl, rfl, rfl, slAt_nil 7 h, nofun, Kept.refl _ _⟩ ?_
  rintro n s1 s4 s5 g h1 ⟨i, ob, hi, rfl, rfl, rfl, hn, hs, hb, hk⟩
  unfold f4L1
  refine Cond_dec (fun hlt => ?_) fun hge => ?_
  · have hi31 : i < 31 := by omega
    have hri : rws[i]? = some rws[i] := List.getElem?_eq_getElem hi31
    generalize rws[i] = r at hri
    have hv : ∀ j, j < 7 → (flats rws).toArray[(i : Int).toNat * 7 + j]? = (flat r)[j]? := fun j hj => by
      rw [List.getElem?_toArray]; exact flats_get rws i r j hri hj
    refine ⟨⟨by omega, by omega⟩, _, rfl, _, hv 0 (by omega), _, hv 1 (by omega), _, hv 2 (by omega), _, hv 3 (by omega), _, hv 4 (by omega), _, hv 5 (by omega), _, hv 6 (by omega), ?_⟩
    have hnew := row_new h1 #[.string ⟨#[]⟩, .int .i64 0, .bool false, .int .i64 0, .int .i64 0, .int .i64 0, .int .i64 0] 28
    refine put7 (o := 0) hnew (by simp) _ _ _ _ _ _ _ fun h2 hr hk2 => ?_
    refine get7 (o := 0) hr r (fun j hj => by rw [Nat.zero_add]; rfl) ?_
    have hk3 : Kept N h1 h2 := ⟨Nat.le_trans (by simp) hk2.1, fun k hk _ => by rw [hk2.2 k (by simp; omega) (by omega)]; exact push_old h1 _ hk⟩
    show appSl _ _ _ _ _ _ _ _ _ _ _
    have hs2 : SlAt 7 (h2.push (.cells (flat r).toArray 28)) s1.a i s1.c ob (flats (rws.take i)) := by
      cases ob with
      | none => exact hs.keep nofun
      | some b =>
        exact hs.keep fun b' hb' => by
          obtain rfl : b = b' := by simpa using hb'
          have := hs.lt
          rw [push_old _ _ (Nat.lt_of_lt_of_le this hk3.1)]
          exact hk3.2 b this (fun e => e)
    refine ⟨flat r, reads_row (row_new h2 (flat r).toArray 28) (fun j v hj => by rw [Nat.zero_add]; exact hj), rfl, ?_⟩
    rw [hn]
    refine appT_ok hs2 rfl rfl (flat_cell r) (by omega) (by omega) fun a' c' ob' h3 hs3 hob hk4 => ?_
    refine ⟨31 - (i + 1), by omega, i + 1, ob', by omega, rfl, ?_, rfl, rfl, ?_, ?_, ?_⟩
    · rw [wrap_sm (by omega) (by omega)]; omega
    · rw [flats_take hri]; exact hs3
    · intro b e
      rcases hob with rfl | rfl
      · exact hb b e
      · obtain rfl := Option.some.inj e
        have := hk.1; have := hk3.1
        simp; omega
    · refine ⟨Nat.le_trans hk.1 (Nat.le_trans hk3.1 (Nat.le_trans (by simp) hk4.1)), fun k hk5 _ => ?_⟩
      have h1l := Nat.lt_of_lt_of_le hk5 hk.1
      have h2l := Nat.lt_of_lt_of_le h1l hk3.1
      rw [hk4.2 k (by simp; omega) (fun e => by have := hb k e; omega), push_old _ _ h2l, hk3.2 k h1l (fun e => e)]
      exact hk.2 k hk5 (fun e => e)
  · obtain rfl : i = 31 := by omega
    cases ob with
    | none => exact absurd (hs.nil rfl).2.1 (by omega)
    | some b =>
      have h1 := (hs.row b rfl).1
      rw [hn, h1]
      rw [h1] at hs
      exact hR b s1.c _ hs (hb b rfl) hk

/-! ### rows: are they the document's? -/
theorem PtrOk_mk {a : Addr} {K : Addr → Prop} (h : K a) : PtrOk (some a) K := h
theorem Let_mk {α : Type} {x : α} {K : α → Prop} (h : ∀ y, y = x → K y) : Let x K := h x rfl
theorem k1_ok {J1 : Nat → Sl → Sl → Int → Hp → Prop} {n1 : Nat} {x0 x3 : Sl} {x4 : Int} {h : Hp} {R : Value → Hp → Prop} {bx by' : Nat} {r : Cmd} (hx : Row h bx (flat r)) (hy : Row h by' (flat r))
    (hK : ∃ m, m < n1 ∧ J1 m x0 x3 (IntKind.wrap .i64 (x4 + 1)) h) : f5K1 J1 n1 x0 x3 x4 ⟨bx, 0, none⟩ ⟨by', 0, none⟩ h R := by
  unfold f5K1
  simp only [add_mk]
  have cx : ∀ j, cell h ⟨bx, j, none⟩ = (flat r)[j]? := fun j => cell_row hx j
  have cy : ∀ j, cell h ⟨by', j, none⟩ = (flat r)[j]? := fun j => cell_row hy j
  refine ⟨_, cx 0, _, cy 0, Cond_f (by simp) ⟨_, cx 1, _, cy 1, Cond_f (by simp) ⟨_, cx 2, _, cy 2, Cond_f (by simp) ⟨_, cx 3, _, cy 3, Cond_f (by simp) ⟨_, cx 4, _, cy 4, Cond_f (by simp)
    ⟨_, cx 5, _, cy 5, Cond_f (by simp) ⟨_, cx 6, _, cy 6, ?_⟩⟩⟩⟩⟩⟩⟩
  unfold f5K2
  exact Cond_f (by simp) hK
theorem slat_get {h : Hp} {n c b : Nat} {l : List Cmd} (s : SlAt 7 h (some (ad b)) n c (some b) (flats l)) : ∃ cs, Row h b cs ∧ ∀ i r, l[i]? = some r → ∀ j, j < 7 → cs[i * 7 + j]? = (flat r)[j]? := by
  obtain ⟨_, _, junk, hr, _⟩ := s.row b rfl
  refine ⟨_, hr, fun i r hi j hj => ?_⟩
  have h1 := flats_get l i r j hi hj
  have h2 : i < l.length := (List.getElem?_eq_some_iff.1 hi).1
  rw [List.getElem?_append_left (by rw [flats_len]; omega)]
  exact h1
theorem rows_ok {b c : Nat} {h : Hp} {R : Value → Hp → Prop} (hs : SlAt 7 h (some (ad b)) 31 c (some b) (flats rws)) (hR : ∀ h', Kept N h h' → R (.bool true) h') :
    CallTo Tryd.prog 5 #[.slice (some (ad b)) 31 c] h R := by
  refine f5F_ok (a0 := ⟨some (ad b), 31, c⟩) ?_
  unfold f5F
  refine doc_ok fun b2 h1 hs2 hb2 hk1 => ⟨⟨some (ad b2), 31, 31⟩, rfl, ?_⟩
  refine Cond_f rfl ?_
  refine f5L1_rule (s0 := ⟨some (ad b), 31, c⟩) (s3 := ⟨some (ad b2), 31, 31⟩) (fun n s0 s3 s4 h' => ∃ i : Nat, i ≤ 31 ∧ n = 31 - i ∧ s4 = i ∧ s0 = ⟨some (ad b), 31, c⟩ ∧ s3 = ⟨some (ad b2), 31, 31⟩ ∧ Kept N h1 h') 31
    ⟨0, by omega, rfl, rfl, rfl, rfl, Kept.refl _ _⟩ ?_
  rintro n s0 s3 s4 g h2 ⟨i, hi, rfl, rfl, rfl, rfl, hk2⟩
  unfold f5L1
  refine Cond_dec (fun hlt => ?_) fun hge => ?_
  · have hi31 : i < 31 := by have : (i : Int) < 31 := hlt; omega
    have hri : rws[i]? = some rws[i] := List.getElem?_eq_getElem hi31
    generalize rws[i] = r at hri
    have hb1 : b < h.size := hs.lt
    have hs' : SlAt 7 h2 (some (ad b)) 31 c (some b) (flats rws) := (hs.keep fun b' e => by
      obtain rfl := Option.some.inj e
      exact hk1.2 b hb1 (fun e => e)).keep fun b' e => by
        obtain rfl := Option.some.inj e
        exact hk2.2 b (Nat.lt_of_lt_of_le hb1 hk1.1) (fun e => e)
    have hs2' : SlAt 7 h2 (some (ad b2)) 31 31 (some b2) (flats rws) := hs2.keep fun b' e => by
      obtain rfl := Option.some.inj e
      exact hk2.2 b2 hs2.lt (fun e => e)
    have c1 : (0 : Int) ≤ (i : Int) ∧ (i : Int) < ((31 : Nat) : Int) := ⟨by omega, by omega⟩
    obtain ⟨cs, hr, hcs⟩ := slat_get hs'
    obtain ⟨cs2, hr2, hcs2⟩ := slat_get hs2'
    have idx : ∀ b : Nat, (ad b).add ((i : Int).toNat * 7) = ⟨b, i * 7, none⟩ := fun b => by rw [add_ad]; rfl
    have hd : ∃ m, m < 31 - i ∧ ∃ k : Nat, k ≤ 31 ∧ m = 31 - k ∧ IntKind.wrap .i64 ((i : Int) + 1) = k := ⟨31 - (i + 1), by omega, i + 1, by omega, rfl, by rw [wrap_sm (by omega) (by omega)]; rfl⟩
    have hcs' := fun j hj => hcs i r hri j hj
    have hcs2' := fun j hj => hcs2 i r hri j hj
    refine ⟨c1, PtrOk_mk ?_⟩
    simp only [idx]
    refine get7 hr r hcs' ?_
    refine ⟨c1, PtrOk_mk ?_⟩
    simp only [idx]
    refine get7 hr2 r hcs2' ?_
    constructor
    · refine Let_mk fun h3 e3 => ?_
      have k3 : Kept N h2 h3 := e3 ▸ kept_push _ _ _
      refine ⟨get7 (kept_row k3 hr2 id) r hcs2' rfl, get7 (kept_row k3 hr id) r hcs' rfl, Let_mk fun h4 e4 => ?_⟩
      have k4 : Kept N h2 h4 := k3.trans (e4 ▸ kept_push _ _ _)
      refine ⟨get7 (kept_row k4 hr2 id) r hcs2' rfl, get7 (kept_row k4 hr id) r hcs' rfl, ?_⟩
      have x3 : Row h3 h2.size _ := e3 ▸ row_new h2 _ 28
      have x4 : Row h4 h2.size _ := e4 ▸ row_push x3 _
      have y4 : Row h4 h3.size _ := e4 ▸ row_new h3 _ 28
      refine put7 (o := 0) x4 (by simp) _ _ _ _ _ _ _ fun h5 x5 k5 => ?_
      have k5' : Kept N h2 h5 := ⟨Nat.le_trans k4.1 k5.1, fun j hj _ => by rw [k5.2 j (Nat.lt_of_lt_of_le hj k4.1) (by omega)]; exact k4.2 j hj id⟩
      have hlt34 : h2.size < h3.size := row_lt x3
      have y5 := kept_row k5 y4 (by omega)
      refine ⟨get7 (kept_row k5' hr2 id) r hcs2' rfl, ?_⟩
      refine put7 (o := 0) y5 (by simp) _ _ _ _ _ _ _ fun h6 y6 k6 => ?_
      have x6 := kept_row k6 x5 (by omega)
      have k6' : Kept N h2 h6 := ⟨Nat.le_trans k5'.1 k6.1, fun j hj _ => by rw [k6.2 j (Nat.lt_of_lt_of_le hj k5'.1) (by omega)]; exact k5'.2 j hj id⟩
      obtain ⟨m, hm, k, hk, hmk, hw⟩ := hd
      exact k1_ok (r := r) x6 y6 ⟨m, hm, k, hk, hmk, hw, rfl, rfl, hk2.trans k6'⟩
    · refine Let_mk fun h3 e3 => ?_
      have k3 : Kept N h2 h3 := e3 ▸ kept_push _ _ _
      refine ⟨get7 (kept_row k3 hr2 id) r hcs2' rfl, get7 (kept_row k3 hr id) r hcs' rfl, Let_mk fun h4 e4 => ?_⟩
      have k4 : Kept N h2 h4 := k3.trans (e4 ▸ kept_push _ _ _)
      refine ⟨get7 (kept_row k4 hr2 id) r hcs2' rfl, get7 (kept_row k4 hr id) r hcs' rfl, ?_⟩
      have x3 : Row h3 h2.size _ := e3 ▸ row_new h2 _ 28
      have x4 : Row h4 h2.size _ := e4 ▸ row_push x3 _
      have y4 : Row h4 h3.size _ := e4 ▸ row_new h3 _ 28
      have hlt34 : h2.size < h3.size := row_lt x3
      refine put7 (o := 0) y4 (by simp) _ _ _ _ _ _ _ fun h5 y5 k5 => ?_
      have k5' : Kept N h2 h5 := ⟨Nat.le_trans k4.1 k5.1, fun j hj _ => by rw [k5.2 j (Nat.lt_of_lt_of_le hj k4.1) (by omega)]; exact k4.2 j hj id⟩
      have x5 := kept_row k5 x4 (by omega)
      refine ⟨get7 (kept_row k5' hr2 id) r hcs2' rfl, ?_⟩
      refine put7 (o := 0) x5 (by simp) _ _ _ _ _ _ _ fun h6 x6 k6 => ?_
      have y6 := kept_row k6 y5 (by omega)
      have k6' : Kept N h2 h6 := ⟨Nat.le_trans k5'.1 k6.1, fun j hj _ => by rw [k6.2 j (Nat.lt_of_lt_of_le hj k5'.1) (by omega)]; exact k5'.2 j hj id⟩
      obtain ⟨m, hm, k, hk, hmk, hw⟩ := hd
      exact k1_ok (r := r) y6 x6 ⟨m, hm, k, hk, hmk, hw, rfl, rfl, hk2.trans k6'⟩
  · exact hR h2 (hk1.trans hk2)

/-! ### mark, named -/
def mk (i : Int) : ByteArray := ⟨#[109, 97, 114, 107]⟩ ++ ⟨#[UInt8.ofNat (IntKind.wrap .u8 (IntKind.wrap .i64 (97 + Int.tmod i 26))).toNat, UInt8.ofNat (IntKind.wrap .u8 (IntKind.wrap .i64 (97 + IntKind.wrap .i64 (Int.tdiv i 26)))).toNat]⟩
theorem u8_back (x : Int) : ((UInt8.ofNat (IntKind.wrap .u8 x).toNat).toNat : Int) = IntKind.wrap .u8 x := by
  have h : IntKind.wrap .u8 x = x % 256 := by unfold IntKind.wrap; simp [IntKind.signed, IntKind.bits]
  rw [h, UInt8.toNat_ofNat']
  omega
theorem mark_ok {i : Int} {h : Hp} {R : Value → Hp → Prop} (hR : ∀ h', Kept N h h' → R (.string (mk i)) h') : CallTo Tryd.prog 6 #[.int .i64 i] h R := by
  refine f6F_ok ?_
  unfold f6F
  refine ⟨by omega, by omega, Let_mk fun h1 e1 => ⟨⟨#[UInt8.ofNat (IntKind.wrap .u8 (IntKind.wrap .i64 (97 + Int.tmod i 26))).toNat, UInt8.ofNat (IntKind.wrap .u8 (IntKind.wrap .i64 (97 + IntKind.wrap .i64 (Int.tdiv i 26)))).toNat]⟩, ⟨rfl, ?_⟩, ?_, ?_⟩⟩
  · subst e1
    show Reads _ ⟨h.size, 0, none⟩ _
    refine reads_row (row_new h _ 5) fun j v hj => ?_
    rw [Nat.zero_add]
    rw [← hj]
    simp only [List.map_cons, List.map_nil, u8_back]
  · show (4 + 2 : Nat) < 4611686018427387904
    omega
  · exact hR h1 (e1 ▸ kept_push _ _ _)
theorem named_ok {b n c : Nat} {s : ByteArray} {h : Hp} {R : Value → Hp → Prop} (hn : n < 1000) (hc : ∀ k, k < n → cell h ⟨b, k * 7, none⟩ = some (.string s)) (hR : R (.bool true) h) :
    CallTo Tryd.prog 7 #[.slice (some (ad b)) n c, .string s] h R := by
  refine f7F_ok (a0 := ⟨some (ad b), n, c⟩) ?_
  unfold f7F
  refine f7L1_rule (s0 := ⟨some (ad b), n, c⟩) (fun m s0 s1 s5 h' => ∃ i : Nat, i ≤ n ∧ m = n - i ∧ s0 = ⟨some (ad b), n, c⟩ ∧ s1 = s ∧ s5 = i ∧ h' = h) n ⟨0, by omega, rfl, rfl, rfl, rfl, rfl⟩ ?_
  rintro m s0 s1 s5 g h1 ⟨i, hi, rfl, rfl, rfl, rfl, rfl⟩
  unfold f7L1
  refine Cond_dec (fun hlt => ?_) fun hge => hR
  have hlt' : i < n := by have : (i : Int) < (n : Int) := hlt; omega
  refine ⟨⟨by omega, hlt⟩, PtrOk_mk ⟨s1, ?_, Cond_f (by simp) ⟨n - (i + 1), by omega, i + 1, by omega, rfl, rfl, rfl, ?_, rfl⟩⟩⟩
  · rw [add_ad]
    exact hc i hlt'
  · rw [wrap_sm (by omega) (by omega)]; rfl

/-! ### slices of cells that are written over; what a list of lists holds -/
theorem ovw_app {vs junk l : List Value} {o : Nat} (h : o + l.length ≤ vs.length) : ovw (vs ++ junk) o l = ovw vs o l ++ junk := by
  unfold ovw
  rw [List.take_append_of_le_length (by omega), List.drop_append_of_le_length h, List.append_assoc, List.append_assoc, List.append_assoc]
theorem slat_ovw {sz : Nat} {h h' : Hp} {a : Option Addr} {n c b : Nat} {vs junk l : List Value} {o : Nat} (s : SlAt sz h a n c (some b) vs) (hl : o + l.length ≤ vs.length) (hj : vs.length + junk.length = c * sz)
    (hr : Row h' b (ovw (vs ++ junk) o l)) : SlAt sz h' a n c (some b) (ovw vs o l) := by
  obtain ⟨h1, h2, _, _, _⟩ := s.row b rfl
  refine ⟨by rw [ovw_len hl]; exact s.len, nofun, fun b' e => ?_⟩
  obtain rfl := Option.some.inj e
  exact ⟨h1, h2, junk, by rw [← ovw_app hl]; exact hr, by rw [ovw_len hl]; exact hj⟩
theorem slat_kept {sz : Nat} {h h' : Hp} {a : Option Addr} {n c b : Nat} {vs : List Value} {S : Nat → Prop} (s : SlAt sz h a n c (some b) vs) (k : Kept S h h') (hb : ¬ S b) : SlAt sz h' a n c (some b) vs :=
  s.keep fun b' e => by obtain rfl := Option.some.inj e; exact k.2 b s.lt hb
theorem slat_kept' {sz : Nat} {h h' : Hp} {a : Option Addr} {n c : Nat} {ob : Option Nat} {vs : List Value} {S : Nat → Prop} (s : SlAt sz h a n c ob vs) (k : Kept S h h') (hb : ∀ b, ob = some b → ¬ S b) : SlAt sz h' a n c ob vs := by
  cases ob with
  | none => exact s.keep nofun
  | some b => exact slat_kept s k (hb b rfl)
def Nm (k : Nat) (vs : List Value) (s : ByteArray) : Prop := ∀ q, q < k → vs[q * 7]? = some (.string s)
def sv (n : Nat) (p : Nat × Nat) : Value := .slice (some (ad p.1)) n p.2
theorem reads_kept {h h' : Hp} {b : Nat} {l : List Value} {S : Nat → Prop} (hr : Reads h ⟨b, 0, none⟩ l) (hne : l ≠ []) (k : Kept S h h') (hS : ¬ S b) : Reads h' ⟨b, 0, none⟩ l := by
  have hb : b < h.size := by
    cases l with
    | nil => exact absurd rfl hne
    | cons v l =>
      have h0 := hr 0 v rfl
      unfold cell at h0
      split at h0
      · rename_i c e f hx
        exact (Array.getElem?_eq_some_iff.1 hx).1
      · cases h0
  intro j v hj
  have := hr j v hj
  rw [add_mk] at this ⊢
  unfold cell at this ⊢
  rw [k.2 b hb hS]
  exact this

structure S1 (h0 h : Hp) (s1 : Sl) (lo : Nat) (bs : List (Nat × Nat)) : Prop where
  n : s1.n = 40
  len : bs.length = 40
  lst : SlAt 1 h s1.a 40 s1.c (some lo) (bs.map (sv 31))
  lo0 : h0.size ≤ lo
  lo1 : ∀ p ∈ bs, p.1 ≠ lo
  own : ∀ p ∈ bs, h0.size ≤ p.1
  nd : bs.Pairwise fun p q => p.1 ≠ q.1
  kept : Kept N h0 h
theorem S1.keep {h0 h h' : Hp} {s1 : Sl} {lo : Nat} {bs : List (Nat × Nat)} (s : S1 h0 h s1 lo bs) {S : Nat → Prop} (k : Kept S h h') (hS : ∀ b, S b → h0.size ≤ b) (hlo : ¬ S lo) : S1 h0 h' s1 lo bs :=
  ⟨s.n, s.len, slat_kept s.lst k hlo, s.lo0, s.lo1, s.own, s.nd, Nat.le_trans s.kept.1 k.1, fun i hi _ => (k.2 i (Nat.lt_of_lt_of_le hi s.kept.1) fun e => by have := hS i e; omega).trans (s.kept.2 i hi id)⟩
theorem S1.a {h0 h : Hp} {s1 : Sl} {lo : Nat} {bs : List (Nat × Nat)} (s : S1 h0 h s1 lo bs) : s1.a = some (ad lo) := (s.lst.row lo rfl).1
theorem S1.at {h0 h : Hp} {s1 : Sl} {lo : Nat} {bs : List (Nat × Nat)} (s : S1 h0 h s1 lo bs) {i : Nat} {p : Nat × Nat} (hp : bs[i]? = some p) : cell h ((ad lo).add ((i : Int).toNat * 1)) = some (.slice (some (ad p.1)) 31 p.2) := by
  rw [add_ad, Nat.mul_one]
  have hi := (List.getElem?_eq_some_iff.1 hp).1
  show cell h ⟨lo, i, none⟩ = _
  rw [s.lst.cell (by rw [List.length_map]; exact hi), List.getElem?_map, hp]
  rfl
/-- Every list's own cells; those of the first i bear their marks. -/
def Marked (h : Hp) (bs : List (Nat × Nat)) (i k : Nat) : Prop := ∀ j p, bs[j]? = some p → ∃ vs, SlAt 7 h (some (ad p.1)) 31 p.2 (some p.1) vs ∧ (j < i → Nm 31 vs (mk j)) ∧ (j = i → Nm k vs (mk j))
theorem Marked.keep {h h' : Hp} {bs : List (Nat × Nat)} {i k : Nat} (m : Marked h bs i k) {S : Nat → Prop} (kk : Kept S h h') (hS : ∀ p ∈ bs, ¬ S p.1) : Marked h' bs i k := fun j p hp => by
  obtain ⟨vs, h1, h2⟩ := m j p hp
  exact ⟨vs, slat_kept h1 kk (hS p (List.mem_of_getElem? hp)), h2⟩
end Go.Ev
