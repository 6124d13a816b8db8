/- Alloc, Stats: as the document's heap. No condition but that the heap is one. -/
import Derived.Test.YtdkopnbjommjdaaHX
set_option linter.all false
set_option maxRecDepth 100000
namespace Go.Ev
open Go.Proofs
section
variable {h : Hp} {hb : Nat} {role : Nat → Role} {m : MH} {G : Geo} {s : RS} {sp : List AObj}
theorem tdiv2 {x : Int} (h1 : -100000000 ≤ x) (h2 : x ≤ 100000000) : IntKind.wrap .i64 (Int.tdiv x 2) = Int.tdiv x 2 := by
  apply wrap_ar
  · rcases Int.lt_or_le x 0 with h | h
    · have : Int.tdiv x 2 = - ((-x) / 2) := by
        rw [← Int.tdiv_eq_ediv_of_nonneg (by omega), Int.neg_tdiv]; omega
      omega
    · rw [Int.tdiv_eq_ediv_of_nonneg h]; omega
  · rcases Int.lt_or_le x 0 with h | h
    · have : Int.tdiv x 2 = - ((-x) / 2) := by
        rw [← Int.tdiv_eq_ediv_of_nonneg (by omega), Int.neg_tdiv]; omega
      omega
    · rw [Int.tdiv_eq_ediv_of_nonneg h]; omega
theorem RS.collection_limit (s : RS) : s.collection.limit = s.limit := rfl
theorem RS.become_fields (s : RS) (n : Nat) : (s.become n).limit = s.limit ∧ (s.become n).used = s.used ∧ (s.become n).large = s.large ∧ (s.become n).kept = s.kept ∧ (s.become n).slots = s.slots ∧ (s.become n).half = n ∧ (s.become n).objs = s.objs ∧ (s.become n).small = s.small ∧ (s.become n).roots = s.roots := by
  unfold RS.become
  split
  · rename_i h; exact ⟨rfl, rfl, rfl, rfl, rfl, h.symm, rfl, rfl, rfl⟩
  · exact ⟨rfl, rfl, rfl, rfl, rfl, rfl, rfl, rfl, rfl⟩
theorem RS.fit_fields (s : RS) (n : Nat) : (s.fit n).limit = s.limit ∧ (s.fit n).used = s.used ∧ (s.fit n).large = s.large ∧ (s.fit n).kept = s.kept ∧ (s.fit n).slots = s.slots ∧ (s.fit n).objs = s.objs ∧ (s.fit n).small = s.small ∧ (s.fit n).roots = s.roots := by
  have hb := fun n => s.become_fields n
  unfold RS.fit
  split
  · split
    · exact ⟨(hb _).1, (hb _).2.1, (hb _).2.2.1, (hb _).2.2.2.1, (hb _).2.2.2.2.1, (hb _).2.2.2.2.2.2.1, (hb _).2.2.2.2.2.2.2.1, (hb _).2.2.2.2.2.2.2.2⟩
    · exact ⟨rfl, rfl, rfl, rfl, rfl, rfl, rfl, rfl⟩
  · split
    · exact ⟨(hb _).1, (hb _).2.1, (hb _).2.2.1, (hb _).2.2.2.1, (hb _).2.2.2.2.1, (hb _).2.2.2.2.2.2.1, (hb _).2.2.2.2.2.2.2.1, (hb _).2.2.2.2.2.2.2.2⟩
    · exact ⟨rfl, rfl, rfl, rfl, rfl, rfl, rfl, rfl⟩
theorem RS.collect_limit (s : RS) : s.collect.limit = s.limit := (s.collection.fit_fields 0).1
/-- What follows in begin behind the collection. -/
theorem begin_rest (v : s.Inv) (rp : HRep h hb role (s.words sp) G) {k r w : Nat} (h1 : 1 ≤ k) (h2 : k ≤ 255) (h3 : r ≤ 1048576) (h4 : w ≤ 1048576) (h5 : 64 < 1 + r + w) {R : Value → Hp → Prop}
    (hR : ∀ h' role' G' sp', HRep h' hb role' ((s.block2 k r w).1.words sp') G' → ExtO h role h' role' → R (.tuple #[uv (s.block2 k r w).2.1, .int .i64 (s.block2 k r w).2.2]) h') (hc : s.limit < 2 * s.half + s.large + (2 + r + w)) :
    (IntKind.wrap .i64 ((IntKind.wrap .i64 (((s.limit : Nat) : Int) - ((s.large : Nat) : Int))) - ((2 + r + w : Nat) : Int)) < 0 → R (.tuple #[.int .u64 0, .int .i64 31]) h) ∧
    (IntKind.wrap .i64 (Int.tdiv (IntKind.wrap .i64 ((IntKind.wrap .i64 (((s.limit : Nat) : Int) - ((s.large : Nat) : Int))) - ((2 + r + w : Nat) : Int))) (2 : Int)) < 64 → R (.tuple #[.int .u64 0, .int .i64 31]) h) ∧
    (IntKind.wrap .i64 (Int.tdiv (IntKind.wrap .i64 ((IntKind.wrap .i64 (((s.limit : Nat) : Int) - ((s.large : Nat) : Int))) - ((2 + r + w : Nat) : Int))) (2 : Int)) < ((s.used : Nat) : Int) → R (.tuple #[.int .u64 0, .int .i64 31]) h) ∧
    (¬ IntKind.wrap .i64 ((IntKind.wrap .i64 (((s.limit : Nat) : Int) - ((s.large : Nat) : Int))) - ((2 + r + w : Nat) : Int)) < 0 →
      ¬ IntKind.wrap .i64 (Int.tdiv (IntKind.wrap .i64 ((IntKind.wrap .i64 (((s.limit : Nat) : Int) - ((s.large : Nat) : Int))) - ((2 + r + w : Nat) : Int))) (2 : Int)) < 64 →
      ¬ IntKind.wrap .i64 (Int.tdiv (IntKind.wrap .i64 ((IntKind.wrap .i64 (((s.limit : Nat) : Int) - ((s.large : Nat) : Int))) - ((2 + r + w : Nat) : Int))) (2 : Int)) < ((s.used : Nat) : Int) →
      ∃ n : Nat, IntKind.wrap .i64 (Int.tdiv (IntKind.wrap .i64 ((IntKind.wrap .i64 (((s.limit : Nat) : Int) - ((s.large : Nat) : Int))) - ((2 + r + w : Nat) : Int))) (2 : Int)) = (n : Int) ∧ 64 ≤ n ∧ 2 * n + s.large + (2 + r + w) ≤ s.limit ∧ s.used ≤ n ∧
        s.block2 k r w = ((s.become n).addBig k r w, top + RS.freeSlot (s.become n).slots, 0)) := by
  have i2 := v.h2; have i4 := v.l2; have i6 := v.h1; have i7 := v.u2
  have e1 : IntKind.wrap .i64 (((s.limit : Nat) : Int) - ((s.large : Nat) : Int)) = ((s.limit : Nat) : Int) - ((s.large : Nat) : Int) := wrap_ar (by omega) (by omega)
  have e2 : IntKind.wrap .i64 (((s.limit : Nat) : Int) - ((s.large : Nat) : Int) - ((2 + r + w : Nat) : Int)) = ((s.limit : Nat) : Int) - ((s.large : Nat) : Int) - ((2 + r + w : Nat) : Int) := wrap_ar (by omega) (by omega)
  rw [e1, e2, tdiv2 (by omega) (by omega)]
  have full : (s.limit < s.large + (2 + r + w) ∨ (s.limit - s.large - (2 + r + w)) / 2 < 64 ∨ (s.limit - s.large - (2 + r + w)) / 2 < s.used) → R (.tuple #[.int .u64 0, .int .i64 31]) h := fun hf => by
    have e : s.block2 k r w = (s, 0, 31) := by unfold RS.block2; rw [if_pos hc, if_pos hf]
    rw [e] at hR
    exact hR h role G sp rp (ExtO.refl h role)
  have up : 0 ≤ ((s.limit : Nat) : Int) - ((s.large : Nat) : Int) - ((2 + r + w : Nat) : Int) → Int.tdiv (((s.limit : Nat) : Int) - ((s.large : Nat) : Int) - ((2 + r + w : Nat) : Int)) 2 = (((s.limit - s.large - (2 + r + w)) / 2 : Nat) : Int) := fun h0 => by
    rw [Int.tdiv_eq_ediv_of_nonneg h0]; omega
  refine ⟨fun h0 => full (.inl (by omega)), fun h0 => ?_, fun h0 => ?_, fun c1 c2 c3 => ?_⟩
  · by_cases hn : 0 ≤ ((s.limit : Nat) : Int) - ((s.large : Nat) : Int) - ((2 + r + w : Nat) : Int)
    · rw [up hn] at h0; exact full (.inr (.inl (by omega)))
    · exact full (.inl (by omega))
  · by_cases hn : 0 ≤ ((s.limit : Nat) : Int) - ((s.large : Nat) : Int) - ((2 + r + w : Nat) : Int)
    · rw [up hn] at h0; exact full (.inr (.inr (by omega)))
    · exact full (.inl (by omega))
  · rw [up (by omega)] at c2 c3 ⊢
    refine ⟨_, rfl, by omega, by omega, by omega, ?_⟩
    unfold RS.block2
    rw [if_pos hc, if_neg (by omega), (s.become_fields _).2.2.2.2.1]
theorem begin_mid (v : s.Inv) (rp : HRep h hb role (s.words sp) G) {k r w : Nat} (h1 : 1 ≤ k) (h2 : k ≤ 255) (h3 : r ≤ 1048576) (h4 : w ≤ 1048576) (h5 : 64 < 1 + r + w) {R : Value → Hp → Prop}
    (hR : ∀ h' role' G' sp', HRep h' hb role' ((s.block2 k r w).1.words sp') G' → ExtO h role h' role' → R (.tuple #[uv (s.block2 k r w).2.1, .int .i64 (s.block2 k r w).2.2]) h') {x65 : Bool} (hx : x65 = false) : f53K1 (some (ad hb)) (k : Nat) (r : Nat) (w : Nat) (2 + r + w : Nat) x65 h R := by
  have i2 := v.h2; have i4 := v.l2; have i6 := v.h1; have i7 := v.u2
  subst hx
  unfold f53K1
  refine Cond_f rfl ?_
  have c1 : cell h ((ad hb).add 1) = some (.pointer (some (ad G.Lh.pb))) := (rp.c 1).trans rfl
  have c0 : cell h (ad hb) = some (.int .i64 (s.limit : Nat)) := rp.c0
  have c6 : cell h ((ad hb).add 6) = some (.int .i64 (s.large : Nat)) := (rp.c 6).trans rfl
  obtain ⟨wch, fch, fsh, ra⟩ := rp.half
  have hz : (s.words sp).hz = s.half := rfl
  have hu := RS.used_words v sp
  refine PtrOk_mk ⟨_, c1, _, asize_ok ra ⟨rfl, rfl⟩, PtrOk_mk ⟨_, c6, PtrOk_mk ⟨_, c0, ?_⟩⟩⟩
  rw [hz, wrap_ar (x := (2 : Int) * ((s.half : Nat) : Int)) (by omega) (by omega), wrap_ar (x := (2 : Int) * ((s.half : Nat) : Int) + ((s.large : Nat) : Int)) (by omega) (by omega), wrap_ar (x := (2 : Int) * ((s.half : Nat) : Int) + ((s.large : Nat) : Int) + ((2 + r + w : Nat) : Int)) (by omega) (by omega)]
  refine Cond_dec (fun hc => ?_) fun hc => ?_
  · have hc : s.limit < 2 * s.half + s.large + (2 + r + w) := by omega
    obtain ⟨q1, q2, q3, q4⟩ := begin_rest v rp h1 h2 h3 h4 h5 hR hc
    refine PtrOk_mk ⟨_, c0, PtrOk_mk ⟨_, c6, by omega, PtrOk_mk ⟨_, c0, PtrOk_mk ⟨_, c6, ?_⟩⟩⟩⟩
    refine Cond_dec (fun d1 => ?_) fun d1 => Cond_dec (fun d2 => ?_) fun d2 => PtrOk_mk ⟨_, c1, _, aused_ok ra ⟨rfl, rfl⟩, ?_⟩
    · unfold f53K2; exact Cond_t rfl (q1 d1)
    · unfold f53K2; exact Cond_t rfl (q2 d2)
    · rw [hu]
      by_cases d3 : IntKind.wrap .i64 (Int.tdiv (IntKind.wrap .i64 ((IntKind.wrap .i64 (((s.limit : Nat) : Int) - ((s.large : Nat) : Int))) - ((2 + r + w : Nat) : Int))) (2 : Int)) < ((s.used : Nat) : Int)
      · rw [decide_eq_true d3]
        unfold f53K2; exact Cond_t rfl (q3 d3)
      · rw [decide_eq_false d3]
        obtain ⟨n, e0, e1, e2, e3, e4⟩ := q4 d1 d2 d3
        unfold f53K2
        rw [e0]
        refine Cond_f rfl (become_ok v rp (by omega) (by omega) e3 fun h7 role7 G7 sp7 rp7 x7 => ⟨rfl, ?_⟩)
        obtain ⟨b1, b2, b3, b4, b5, b6, b7, b8, b9⟩ := s.become_fields n
        have v7 := v.become (n := n) e1 (by omega) e3
        rw [e4] at hR
        exact begin_tail v7 rp7 h1 h2 h3 h4 h5 (by rw [b6, b3, b1]; omega) fun h8 role8 G8 rp8 x8 => hR h8 role8 G8 sp7 rp8 (x7.trans x8)
  · have hc : ¬ s.limit < 2 * s.half + s.large + (2 + r + w) := by omega
    have e : s.block2 k r w = (s.addBig k r w, top + RS.freeSlot s.slots, 0) := by unfold RS.block2; rw [if_neg hc]
    rw [e] at hR
    exact begin_tail v rp h1 h2 h3 h4 h5 (by omega) fun h8 role8 G8 rp8 x8 => hR h8 role8 G8 sp rp8 x8
/-- K1 ahead of a collection is the collection and K1 behind it. -/
theorem begin_col (v : s.Inv) (rp : HRep h hb role (s.words sp) G) {k r w : Nat} (h1 : 1 ≤ k) (h2 : k ≤ 255) (h3 : r ≤ 1048576) (h4 : w ≤ 1048576) (h5 : 64 < 1 + r + w) {R : Value → Hp → Prop}
    (hR : ∀ h' role' G' sp', HRep h' hb role' ((s.collect.block2 k r w).1.words sp') G' → ExtO h role h' role' → R (.tuple #[uv (s.collect.block2 k r w).2.1, .int .i64 (s.collect.block2 k r w).2.2]) h') : f53K1 (some (ad hb)) (k : Nat) (r : Nat) (w : Nat) (2 + r + w : Nat) true h R := by
  unfold f53K1
  refine Cond_t rfl (collect_ok v rp fun ha rolea Ga spa rpa xa => ⟨rfl, fit_ok v.collection rpa (k := 0) (by omega) fun hc rolec Gc spc rpc xc => ⟨rfl, ?_⟩⟩)
  have := begin_mid (h := hc) (hb := hb) (role := rolec) (s := s.collect) (sp := spc) (G := Gc) v.collect rpc h1 h2 h3 h4 h5 (R := R) (fun h' role' G' sp' rp' x' => hR h' role' G' sp' rp' ((xa.trans xc).trans x')) (x65 := false) rfl
  unfold f53K1 at this
  exact this
theorem begin_ok (v : s.Inv) (rp : HRep h hb role (s.words sp) G) {k r w : Nat} (h1 : 1 ≤ k) (h2 : k ≤ 255) (h3 : r ≤ 1048576) (h4 : w ≤ 1048576) (h5 : 64 < 1 + r + w) {R : Value → Hp → Prop}
    (hR : ∀ h' role' G' sp', HRep h' hb role' ((s.block k r w).1.words sp') G' → ExtO h role h' role' → R (.tuple #[uv (s.block k r w).2.1, .int .i64 (s.block k r w).2.2]) h') :
    CallTo Try.prog 53 #[.pointer (some (ad hb)), .int .i64 (k : Nat), .int .i64 (r : Nat), .int .i64 (w : Nat), .int .i64 (1 + r + w : Nat)] h R := by
  have i2 := v.h2; have i4 := v.l2; have i6 := v.h1; have i7 := v.u2; have i8 := v.sn; have i9 := v.kp
  refine f53F_ok ?_
  unfold f53F
  have c1 : cell h ((ad hb).add 1) = some (.pointer (some (ad G.Lh.pb))) := (rp.c 1).trans rfl
  have c0 : cell h (ad hb) = some (.int .i64 (s.limit : Nat)) := rp.c0
  have c6 : cell h ((ad hb).add 6) = some (.int .i64 (s.large : Nat)) := (rp.c 6).trans rfl
  have c7 : cell h ((ad hb).add 7) = some (.int .i64 (s.since : Nat)) := (rp.c 7).trans rfl
  have c8 : cell h ((ad hb).add 8) = some (.int .i64 (s.kept : Nat)) := (rp.c 8).trans rfl
  obtain ⟨wch, fch, fsh, ra⟩ := rp.half
  have hz : (s.words sp).hz = s.half := rfl
  have eb : IntKind.wrap .i64 (((1 + r + w : Nat) : Int) + (1 : Int)) = ((2 + r + w : Nat) : Int) := by rw [wrap_ar (by omega) (by omega)]; omega
  rw [eb]
  unfold RS.block RS.block1 at hR
  refine PtrOk_mk ⟨_, c0, Cond_dec (fun hc => ?_) fun hc => ?_⟩
  · rw [if_pos (by omega)] at hR
    refine collect_ok v rp fun ha rolea Ga spa rpa xa => ⟨rfl, fit_ok v.collection rpa (k := 0) (by omega) fun hc' rolec Gc spc rpc xc => ⟨rfl, ?_⟩⟩
    have vc := v.collect
    have hl := s.collect_limit
    have q2 := vc.h2
    have e : s.collect.block2 k r w = (s.collect, 0, 31) := by unfold RS.block2; rw [if_pos (by omega), if_pos (by omega)]
    rw [e] at hR
    exact hR hc' rolec Gc spc rpc (xa.trans xc)
  · refine PtrOk_mk ⟨_, c1, _, asize_ok ra ⟨rfl, rfl⟩, PtrOk_mk ⟨_, c6, PtrOk_mk ⟨_, c0, ?_⟩⟩⟩
    rw [hz, wrap_ar (x := (2 : Int) * ((s.half : Nat) : Int)) (by omega) (by omega), wrap_ar (x := (2 : Int) * ((s.half : Nat) : Int) + ((s.large : Nat) : Int)) (by omega) (by omega), wrap_ar (x := (2 : Int) * ((s.half : Nat) : Int) + ((s.large : Nat) : Int) + ((2 + r + w : Nat) : Int)) (by omega) (by omega)]
    refine Cond_dec (fun hd => ?_) fun hd => ?_
    · rw [if_pos (by omega)] at hR
      exact begin_col v rp h1 h2 h3 h4 h5 hR
    · refine PtrOk_mk ⟨_, c7, PtrOk_mk ⟨_, c1, _, asize_ok ra ⟨rfl, rfl⟩, PtrOk_mk ⟨_, c8, ?_⟩⟩⟩
      rw [hz, wrap_ar (x := ((s.since : Nat) : Int) + ((2 + r + w : Nat) : Int)) (by omega) (by omega), wrap_ar (x := ((s.half : Nat) : Int) + ((s.kept : Nat) : Int)) (by omega) (by omega)]
      by_cases he : ((s.since : Nat) : Int) + ((2 + r + w : Nat) : Int) > ((s.half : Nat) : Int) + ((s.kept : Nat) : Int)
      · rw [decide_eq_true he]
        rw [if_pos (by omega)] at hR
        exact begin_col v rp h1 h2 h3 h4 h5 hR
      · rw [decide_eq_false he]
        rw [if_neg (by omega)] at hR
        exact begin_mid v rp h1 h2 h3 h4 h5 hR rfl
/-- A small object behind the others. -/
theorem asmall (v : s.Inv) (rp : HRep h hb role (s.words sp) G) {k r w : Nat} (h1 : 1 ≤ k) (h2 : k ≤ 255) (h3 : r ≤ 1048576) (h4 : w ≤ 1048576) {R : Value → Hp → Prop}
    (hR : ∀ h' role' G' sp', HRep h' hb role' ((s.small2 k r w).1.words sp') G' → ExtO h role h' role' → R (.tuple #[uv (s.small2 k r w).2.1, .int .i64 (s.small2 k r w).2.2]) h') :
    PtrOk (some (ad hb)) fun p69 => ∃ t71 : Option Addr, cell h (p69.add 1) = some (.pointer t71) ∧ CallTo Try.prog 56 #[.pointer t71, .int .i64 (k : Nat), .int .i64 (r : Nat), .int .i64 (w : Nat)] h fun r h7 => ∃ t75_0 : Int, ∃ t75_1 : Int, r = .tuple #[.int .i64 t75_0, .int .i64 t75_1] ∧ Cond (t75_1 != (0 : Int)) (R (.tuple #[.int .u64 0, .int .i64 31] : Value) h7) (R ((.tuple #[.int .u64 (IntKind.wrap .u64 t75_0), .int .i64 0] : Value)) h7) := by
  have i2 := v.h2; have i4 := v.l2; have i6 := v.h1; have i7 := v.u2
  have c1 : cell h ((ad hb).add 1) = some (.pointer (some (ad G.Lh.pb))) := (rp.c 1).trans rfl
  obtain ⟨wc, fc, fs, ra⟩ := rp.half
  have hu := RS.used_words v sp
  have hz : (s.words sp).hz = s.half := rfl
  have hsh : Shape (k : Nat) (r : Nat) (w : Nat) := ⟨⟨by omega, by omega⟩, ⟨by omega, by omega⟩, by omega, by omega⟩
  refine PtrOk_mk ⟨_, c1, aalloc_ok ra (fun hb' => absurd hsh hb') (fun _ hf => ?_) fun h' L' _ hg ha g => ?_⟩
  · have e : s.small2 k r w = (s, 0, 31) := by unfold RS.small2; rw [if_pos (by rw [hu, hz] at hf; omega)]
    rw [e] at hR
    exact ⟨_, _, rfl, Cond_t rfl (hR h role G sp rp (ExtO.refl h role))⟩
  · rw [hu, hz] at hg
    have e : s.small2 k r w = (s.addSmall k r w, s.used, 0) := by unfold RS.small2; rw [if_neg (by omega)]
    rw [e] at hR
    rw [Int.toNat_natCast, Int.toNat_natCast, Int.toNat_natCast] at ha
    have rp1 := rp.setHalf ha g
    refine ⟨_, _, rfl, Cond_f rfl ?_⟩
    rw [hu, wrap_u64' (by omega) (by omega)]
    refine hR h' (joinR role h.size L'.fp .half) { G with Lh := L' } sp ?_ (ExtO.of (role := role) g.kept (fun b hb' => by rw [rp.halfr b hb']; nofun) fun b hb' ho => (joinR_old hb').trans ho)
    rw [RS.addSmall_words v]
    exact rp1
theorem halloc_ok (v : s.Inv) (rp : HRep h hb role (s.words sp) G) {k r w : Int} {R : Value → Hp → Prop}
    (hR : ∀ h' role' G' sp', HRep h' hb role' ((s.alloc k r w).1.words sp') G' → ExtO h role h' role' → R (.tuple #[uv (s.alloc k r w).2.1, .int .i64 (s.alloc k r w).2.2]) h') : CallTo Try.prog 27 #[.pointer (some (ad hb)), .int .i64 k, .int .i64 r, .int .i64 w] h R := by
  have i2 := v.h2; have i4 := v.l2; have i6 := v.h1; have i7 := v.u2
  refine f27F_ok ?_
  unfold f27F
  have bad : ¬ Shape k r w → f27K1 (some (ad hb)) k r w true h R := fun hn => by
    have e : s.alloc k r w = (s, 0, 34) := by unfold RS.alloc; rw [if_neg hn]
    rw [e] at hR
    unfold f27K1
    exact Cond_t rfl (hR h role G sp rp (ExtO.refl h role))
  have sh : ∀ {x : Prop}, ¬ x → (Shape k r w → x) → ¬ Shape k r w := fun hn hx hs => hn (hx hs)
  refine Cond_dec (fun c => bad fun q => by have := q.1.1; omega) fun c1 => Cond_dec (fun c => bad fun q => by have := q.1.2; omega) fun c2 => Cond_dec (fun c => bad fun q => by have := q.2.1.1; omega) fun c3 =>
    Cond_dec (fun c => bad fun q => by have := q.2.1.2; omega) fun c4 => Cond_dec (fun c => bad fun q => by have := q.2.2.1; omega) fun c5 => ?_
  by_cases c6 : w > 1048576
  · rw [decide_eq_true c6]; exact bad fun q => by have := q.2.2.2; omega
  rw [decide_eq_false c6]
  have hsh : Shape k r w := ⟨⟨by omega, by omega⟩, ⟨by omega, by omega⟩, by omega, by omega⟩
  obtain ⟨k, rfl⟩ := Int.eq_ofNat_of_zero_le (show 0 ≤ k by omega)
  obtain ⟨r, rfl⟩ := Int.eq_ofNat_of_zero_le (show 0 ≤ r by omega)
  obtain ⟨w, rfl⟩ := Int.eq_ofNat_of_zero_le (show 0 ≤ w by omega)
  unfold f27K1
  have es : IntKind.wrap .i64 ((IntKind.wrap .i64 ((1 : Int) + ((r : Nat) : Int))) + ((w : Nat) : Int)) = ((1 + r + w : Nat) : Int) := by
    rw [wrap_ar (x := (1 : Int) + ((r : Nat) : Int)) (by omega) (by omega), wrap_ar (by omega) (by omega)]; omega
  rw [es]
  have ea : s.alloc (k : Int) (r : Int) (w : Int) = if 64 < 1 + r + w then s.block k r w else (s.small1 (1 + r + w)).small2 k r w := by
    unfold RS.alloc
    rw [if_pos hsh]
    rfl
  rw [ea] at hR
  refine Cond_f rfl (Cond_dec (fun hl => ?_) fun hl => ?_)
  · rw [if_pos (by omega)] at hR
    exact begin_ok v rp (by omega) (by omega) (by omega) (by omega) (by omega) fun h' role' G' sp' rp' x' => ⟨_, _, rfl, hR h' role' G' sp' rp' x'⟩
  · rw [if_neg (by omega)] at hR
    have c1' : cell h ((ad hb).add 1) = some (.pointer (some (ad G.Lh.pb))) := (rp.c 1).trans rfl
    obtain ⟨wc, fc, fs, ra⟩ := rp.half
    have hu := RS.used_words v sp
    have hz : (s.words sp).hz = s.half := rfl
    refine PtrOk_mk ⟨_, c1', _, aused_ok ra ⟨rfl, rfl⟩, PtrOk_mk ⟨_, c1', _, asize_ok ra ⟨rfl, rfl⟩, ?_⟩⟩
    rw [hu, hz, wrap_ar (x := ((s.used : Nat) : Int) + ((1 + r + w : Nat) : Int)) (by omega) (by omega)]
    unfold RS.small1 at hR
    refine Cond_dec (fun hc => ?_) fun hc => ?_
    · rw [if_pos (by omega)] at hR
      refine collect_ok v rp fun ha rolea Ga spa rpa xa => ⟨rfl, fit_ok v.collection rpa (by omega) fun hc' rolec Gc spc rpc xc => ⟨rfl, ?_⟩⟩
      exact asmall v.collection.fit rpc (by omega) (by omega) (by omega) (by omega) fun h' role' G' sp' rp' x' => hR h' role' G' sp' rp' ((xa.trans xc).trans x')
    · rw [if_neg (by omega)] at hR
      exact asmall v rp (by omega) (by omega) (by omega) (by omega) fun h' role' G' sp' rp' x' => hR h' role' G' sp' rp' x'
end
end Go.Ev
