/- fit, Collect, Resize, find and what goes through it: as the document's heap. No condition but that the heap is one. -/
import Derived.Test.YtdkopnbjommjdaaHO
set_option linter.all false
set_option maxRecDepth 100000
namespace Go.Ev
open Go.Proofs
namespace RS
def resize (s : RS) (n : Int) : RS × Int :=
  if n < 64 ∨ n > 524288 then (s, 36)
  else if s.collection.used > n ∨ 2 * n + s.collection.large > s.limit then (s.collection, 31)
  else (s.collection.become n.toNat, 0)
theorem used_words {s : RS} (v : s.Inv) (sp : List AObj) : Go.Ev.used (s.words sp).half = s.used := (used_map (fun id => s.enc_size id) _).trans v.u1.symm
theorem Inv.resize {s : RS} (v : s.Inv) (n : Int) : (s.resize n).1.Inv := by
  unfold RS.resize
  split
  · exact v
  · split
    · exact v.collection
    · have : s.collection.limit = s.limit := rfl
      exact v.collection.become (by omega) (by omega) (by omega)
end RS
section
variable {h : Hp} {hb : Nat} {role : Nat → Role} {m : MH} {G : Geo} {s : RS} {sp : List AObj}
theorem fit_ok (v : s.Inv) (rp : HRep h hb role (s.words sp) G) {k : Nat} (hk : k ≤ 1000000) {R : Value → Hp → Prop}
    (hR : ∀ h' role' G' sp', HRep h' hb role' ((s.fit k).words sp') G' → ExtO h role h' role' → R (.tuple #[]) h') : CallTo Try.prog 55 #[.pointer (some (ad hb)), .int .i64 (k : Nat)] h R := by
  have i1 := v.u1
  have i2 := v.u2
  have i3 := v.h2
  have i4 := v.l2
  have i5 := v.h1
  obtain ⟨w1, w2, w3⟩ := want_facts (s.used + k)
  refine f55F_ok ?_
  unfold f55F
  have c1 : cell h ((ad hb).add 1) = some (.pointer (some (ad G.Lh.pb))) := (rp.c 1).trans rfl
  have c0 : cell h (ad hb) = some (.int .i64 (s.limit : Nat)) := rp.c0
  have c6 : cell h ((ad hb).add 6) = some (.int .i64 (s.large : Nat)) := (rp.c 6).trans rfl
  obtain ⟨wch, fch, fsh, ra⟩ := rp.half
  have hu := RS.used_words v sp
  have hz : (s.words sp).hz = s.half := rfl
  refine PtrOk_mk ⟨_, c1, _, aused_ok ra ⟨rfl, rfl⟩, PtrOk_mk ⟨_, c1, _, asize_ok ra ⟨rfl, rfl⟩, ?_⟩⟩
  rw [hu, hz]
  have e0 : IntKind.wrap .i64 (((s.used : Nat) : Int) + ((k : Nat) : Int)) = ((s.used + k : Nat) : Int) := by rw [wrap_ar (by omega) (by omega)]; omega
  rw [e0, wrap_ar (x := (4 : Int) * _) (by omega) (by omega), wrap_ar (x := (3 : Int) * _) (by omega) (by omega), wrap_ar (x := (8 : Int) * _) (by omega) (by omega)]
  refine Cond_dec (fun hc => ?_) fun hc => ?_
  · have hc : 3 * s.half < 4 * (s.used + k) := by omega
    refine ⟨_, want_ok (by omega) ⟨rfl, rfl⟩, PtrOk_mk ⟨_, c0, PtrOk_mk ⟨_, c6, by omega, ?_⟩⟩⟩
    have e1 : IntKind.wrap .i64 (Int.tdiv (IntKind.wrap .i64 (((s.limit : Nat) : Int) - ((s.large : Nat) : Int))) (2 : Int)) = (((s.limit - s.large) / 2 : Nat) : Int) := by
      rw [wrap_ar (x := ((s.limit : Nat) : Int) - ((s.large : Nat) : Int)) (by omega) (by omega), tdiv_nn (by omega), wrap_ar (by omega) (by omega)]; omega
    have e2 : (if (((s.limit - s.large) / 2 : Nat) : Int) < ((want (s.used + k) : Nat) : Int) then (((s.limit - s.large) / 2 : Nat) : Int) else ((want (s.used + k) : Nat) : Int)) = ((min (want (s.used + k)) ((s.limit - s.large) / 2) : Nat) : Int) := by
      split <;> omega
    rw [e1, e2]
    have ef : s.fit k = if s.half < min (want (s.used + k)) ((s.limit - s.large) / 2) then s.become (min (want (s.used + k)) ((s.limit - s.large) / 2)) else s := by unfold RS.fit; rw [if_pos hc]
    refine Cond_dec (fun ht => ?_) fun ht => ?_
    · rw [ef, if_pos (by omega)] at hR
      exact become_ok v rp (by omega) (by omega) (by omega) fun h' role' G' sp' rp' x' => ⟨rfl, hR h' role' G' sp' rp' x'⟩
    · rw [ef, if_neg (by omega)] at hR
      exact hR h role G sp rp (ExtO.refl h role)
  · have hc : ¬ 3 * s.half < 4 * (s.used + k) := by omega
    have ef : s.fit k = if 64 < s.half ∧ 8 * (s.used + k) < s.half then s.become (want (s.used + k)) else s := by unfold RS.fit; rw [if_neg hc]
    refine Cond_dec (fun h1 => ?_) fun h1 => ?_
    · unfold f55K1
      refine Cond_dec (fun h2 => ?_) fun h2 => ?_
      · rw [ef, if_pos (by omega)] at hR
        refine want_ok (by omega) ⟨_, rfl, ?_⟩
        exact become_ok v rp (by omega) (by omega) (by omega) fun h' role' G' sp' rp' x' => ⟨rfl, hR h' role' G' sp' rp' x'⟩
      · rw [ef, if_neg (by omega)] at hR
        exact hR h role G sp rp (ExtO.refl h role)
    · unfold f55K1
      rw [ef, if_neg (by omega)] at hR
      exact Cond_f rfl (hR h role G sp rp (ExtO.refl h role))
theorem hcollect_ok (v : s.Inv) (rp : HRep h hb role (s.words sp) G) {R : Value → Hp → Prop}
    (hR : ∀ h' role' G' sp', HRep h' hb role' (s.collect.words sp') G' → ExtO h role h' role' → R (.tuple #[]) h') : CallTo Try.prog 28 #[.pointer (some (ad hb))] h R := by
  refine f28F_ok ?_
  unfold f28F
  exact collect_ok v rp fun h1 role1 G1 sp1 rp1 x1 => ⟨rfl, fit_ok v.collection rp1 (k := 0) (by omega) fun h2 role2 G2 sp2 rp2 x2 => ⟨rfl, hR h2 role2 G2 sp2 rp2 (x1.trans x2)⟩⟩
theorem hresize_ok (v : s.Inv) (rp : HRep h hb role (s.words sp) G) {n : Int} {R : Value → Hp → Prop}
    (hR : ∀ h' role' G' sp', HRep h' hb role' ((s.resize n).1.words sp') G' → ExtO h role h' role' → R (.int .i64 (s.resize n).2) h') : CallTo Try.prog 47 #[.pointer (some (ad hb)), .int .i64 n] h R := by
  have i4 := v.l2
  refine f47F_ok ?_
  unfold f47F
  have bad : n < 64 ∨ n > 524288 → f47K1 (some (ad hb)) n true h R := fun hb' => by
    unfold f47K1
    have e : s.resize n = (s, 36) := by unfold RS.resize; rw [if_pos hb']
    rw [e] at hR
    exact Cond_t rfl (hR h role G sp rp (ExtO.refl h role))
  refine Cond_dec (fun h1 => bad (.inl h1)) fun h1 => ?_
  by_cases h2 : n > 524288
  · rw [decide_eq_true h2]; exact bad (.inr h2)
  rw [decide_eq_false h2]
  unfold f47K1
  refine Cond_f rfl (collect_ok v rp fun h1 role1 G1 sp1 rp1 x1 => ⟨rfl, ?_⟩)
  have v1 := v.collection
  have c1 : cell h1 ((ad hb).add 1) = some (.pointer (some (ad G1.Lh.pb))) := (rp1.c 1).trans rfl
  have c0 : cell h1 (ad hb) = some (.int .i64 (s.limit : Nat)) := rp1.c0
  have c6 : cell h1 ((ad hb).add 6) = some (.int .i64 (s.collection.large : Nat)) := (rp1.c 6).trans rfl
  obtain ⟨wch, fch, fsh, ra⟩ := rp1.half
  have hu := RS.used_words v1 sp1
  have e0 : s.resize n = if s.collection.used > n ∨ 2 * n + s.collection.large > s.limit then (s.collection, 31) else (s.collection.become n.toNat, 0) := by unfold RS.resize; rw [if_neg (by omega)]
  have i3 := v1.h2
  have i6 : s.collection.limit = s.limit := rfl
  refine PtrOk_mk ⟨_, c1, _, aused_ok ra ⟨rfl, rfl⟩, ?_⟩
  rw [hu]
  refine Cond_dec (fun hc => ?_) fun hc => PtrOk_mk ⟨_, c6, PtrOk_mk ⟨_, c0, ?_⟩⟩
  · rw [e0, if_pos (.inl (by omega))] at hR
    exact hR h1 role1 G1 sp1 rp1 x1
  · rw [wrap_ar (x := (2 : Int) * n) (by omega) (by omega), wrap_ar (by omega) (by omega)]
    refine Cond_dec (fun hd => ?_) fun hd => ?_
    · rw [e0, if_pos (.inr (by omega))] at hR
      exact hR h1 role1 G1 sp1 rp1 x1
    · rw [e0, if_neg (by omega)] at hR
      obtain ⟨k, rfl⟩ := Int.eq_ofNat_of_zero_le (show 0 ≤ n by omega)
      exact become_ok v1 rp1 (by omega) (by omega) (by omega) fun h2 role2 G2 sp2 rp2 x2 => ⟨rfl, hR h2 role2 G2 sp2 rp2 (x1.trans x2)⟩
end
end Go.Ev
