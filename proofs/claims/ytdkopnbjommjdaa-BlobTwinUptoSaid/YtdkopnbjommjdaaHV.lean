/- The handles, Stats, Image, New: as the document's heap. No condition but that the heap is one, and that the list of handles is not too long. -/
import Derived.Test.YtdkopnbjommjdaaHU
set_option linter.all false
set_option maxRecDepth 100000
namespace Go.Ev
open Go.Proofs
theorem row_st {h : Hp} {b : Nat} {cs : List Value} {i : Nat} {v : Value} (hr : Row h b cs) {a : Addr} (ha : a = ⟨b, i, none⟩) (hi : i < cs.length) {K : Hp → Prop} (hK : ∀ h', Row h' b (cs.set i v) → Kept (fun x => x = b) h h' → K h') :
    Go.Ev.stOk h a ∧ Let (setc h a v) fun h' => K h' := by
  subst ha
  exact ⟨stOk_row hr hi, hK _ (row_setc hr i v) (kept_setc h i v rfl)⟩
namespace RS
def new (n : Nat) : RS := { limit := n, half := 64, used := 1, large := 0, since := 0, kept := 0, objs := [RObj.no], small := [], slots := [], roots := [], coll := 0, resz := 0, moved := 0 }
theorem new_inv {n : Nat} (h1 : 128 ≤ n) (h2 : n ≤ 1048576) : (new n).Inv := by
  refine ⟨h1, h2, Nat.le_refl _, ?_, rfl, ?_, rfl, Nat.zero_le _, Nat.zero_le _, List.nodup_nil, nofun, ?_, ?_, nofun, ?_, Nat.le_refl _, Nat.zero_le _, Nat.zero_le _⟩
  · show 2 * 64 + 0 ≤ n; omega
  · show 1 ≤ 64; omega
  · intro i id h; simp [new] at h
  · rintro id (h | ⟨_, h⟩) <;> cases h
  · rintro id (h | ⟨_, h⟩) <;> cases h
def slotsN (s : RS) : Nat := (s.slots.filter fun x => decide (x ≠ 0)).length
def rootsN (s : RS) : Nat := (s.roots.filter Option.isSome).length
def stats (s : RS) : List Int := [s.limit, s.half, s.used, s.large, s.slotsN, s.rootsN, s.coll, s.resz, s.moved]
def image (s : RS) : List Nat := wordsOf (s.small.map s.enc)
theorem hand_words (s : RS) (n : Int) (h1 : 1 ≤ n) (h2 : n ≤ (s.roots.length : Nat)) : ∃ x, s.roots[(n - 1).toNat]? = some x ∧ s.hand n = x := by
  have hl : (n - 1).toNat < s.roots.length := by omega
  refine ⟨s.roots[(n - 1).toNat], List.getElem?_eq_getElem hl, ?_⟩
  unfold hand
  rw [if_pos ⟨h1, h2⟩, List.getD_eq_getElem?_getD, List.getElem?_eq_getElem hl]
  rfl
theorem withRoots_words (s : RS) (l : List (Option Nat)) (sp : List AObj) : (s.withRoots l).words sp = { s.words sp with roots := l.map s.rootW, r5 := (l.filter Option.isSome).length } := by
  unfold words
  have e1 : (s.withRoots l).rootW = s.rootW := by funext x; cases x <;> rfl
  rw [e1]
  rfl
end RS
section
variable {h : Hp} {hb : Nat} {role : Nat → Role} {m : MH} {G : Geo} {s : RS} {sp : List AObj}
theorem hheld_ok (v : s.Inv) (rp : HRep h hb role (s.words sp) G) {n : Int} {R : Value → Hp → Prop} (hR : R (.bool (s.hand n).isSome) h) : CallTo Try.prog 57 #[.pointer (some (ad hb)), .int .i64 n] h R := by
  have hrl := v.rl
  refine f57F_ok ?_
  unfold f57F
  have hn := rp.ts_n
  have hn : G.ts.n = (s.roots.map s.rootW).length := hn
  rw [List.length_map] at hn
  have c9 : cell h ((ad hb).add 9) = some (.slice G.ts.a G.ts.n G.ts.c) := (rp.c 9).trans rfl
  refine Cond_dec (fun h1 => ?_) fun h1 => ?_
  · refine PtrOk_mk ⟨G.ts, c9, Cond_dec (fun h2 => ?_) fun h2 => ?_⟩
    · obtain ⟨x, hx, hh⟩ := s.hand_words n (by omega) (by omega)
      have hxr : (s.words sp).roots[(n - 1).toNat]? = some (s.rootW x) := by show (s.roots.map s.rootW)[(n - 1).toNat]? = _; rw [List.getElem?_map, hx]; rfl
      obtain ⟨b, ha, k1, k2, k3, _⟩ := rp.root_at hxr
      rw [wrap_ar (x := n - 1) (by omega) (by omega)]
      refine PtrOk_mk ⟨G.ts, c9, ⟨by omega, by omega⟩, PtrOk_of ha ⟨(s.rootW x).1, k1, ?_⟩⟩
      rw [hh] at hR
      cases x <;> exact hR
    · have : s.hand n = none := by unfold RS.hand; rw [if_neg (by omega)]
      rw [this] at hR
      exact hR
  · have : s.hand n = none := by unfold RS.hand; rw [if_neg (by omega)]
    rw [this] at hR
    exact hR
theorem hat_ok (v : s.Inv) (rp : HRep h hb role (s.words sp) G) {n : Int} {R : Value → Hp → Prop} (hR : R (.tuple #[uv (s.atF n).1, .int .i64 (s.atF n).2]) h) : CallTo Try.prog 30 #[.pointer (some (ad hb)), .int .i64 n] h R := by
  have hrl := v.rl
  refine f30F_ok ?_
  unfold f30F
  refine hheld_ok v rp ⟨_, rfl, ?_⟩
  unfold RS.atF at hR
  cases hh : s.hand n with
  | none => rw [hh] at hR; exact Cond_t rfl hR
  | some id =>
    rw [hh] at hR
    obtain ⟨h1, h2, hx⟩ := RS.hand_some hh
    have c9 : cell h ((ad hb).add 9) = some (.slice G.ts.a G.ts.n G.ts.c) := (rp.c 9).trans rfl
    have hxr : (s.words sp).roots[(n - 1).toNat]? = some (s.rootW (some id)) := by show (s.roots.map s.rootW)[(n - 1).toNat]? = _; rw [List.getElem?_map, hx]; rfl
    obtain ⟨b, ha, k1, k2, k3, _⟩ := rp.root_at hxr
    rw [wrap_ar (x := n - 1) (by omega) (by omega)]
    exact Cond_f rfl (PtrOk_mk ⟨G.ts, c9, ⟨by omega, by omega⟩, PtrOk_of ha ⟨_, k2, hR⟩⟩)
theorem hput_ok (v : s.Inv) (rp : HRep h hb role (s.words sp) G) {n : Int} {r : Nat} (hr : r < 18446744073709551616) {R : Value → Hp → Prop}
    (hR : ∀ h' role' G', HRep h' hb role' ((s.putF n r).1.words sp) G' → ExtO h role h' role' → R (.int .i64 (s.putF n r).2) h') : CallTo Try.prog 60 #[.pointer (some (ad hb)), .int .i64 n, uv r] h R := by
  have hrl := v.rl
  refine f60F_ok ?_
  unfold f60F
  refine hheld_ok v rp ⟨_, rfl, ?_⟩
  unfold RS.putF at hR
  cases hh : s.hand n with
  | none => rw [hh] at hR; exact Cond_t rfl (hR h role G rp (ExtO.refl h role))
  | some id =>
    rw [hh] at hR
    obtain ⟨h1, h2, hx⟩ := RS.hand_some hh
    refine Cond_f rfl (hgood_ok v rp hr ⟨_, rfl, ?_⟩)
    cases hg : s.goodR r with
    | false => rw [hg] at hR; exact Cond_t rfl (hR h role G rp (ExtO.refl h role))
    | true =>
      rw [hg] at hR
      have c9 : cell h ((ad hb).add 9) = some (.slice G.ts.a G.ts.n G.ts.c) := (rp.c 9).trans rfl
      have hxr : (s.words sp).roots[(n - 1).toNat]? = some (s.rootW (some id)) := by show (s.roots.map s.rootW)[(n - 1).toNat]? = _; rw [List.getElem?_map, hx]; rfl
      have htn := rp.ts_n
      have htn : G.ts.n = (s.roots.map s.rootW).length := htn
      rw [List.length_map] at htn
      rw [wrap_ar (x := n - 1) (by omega) (by omega)]
      obtain ⟨b, ha, st, rp1, x1⟩ := rp.setRoot hxr r
      refine Cond_f rfl (PtrOk_mk ⟨G.ts, c9, ⟨by omega, by omega⟩, PtrOk_of ha ⟨st, ?_⟩⟩)
      refine hR _ role G ?_ x1.o
      rw [if_pos rfl]
      show HRep _ hb role ((s.withRoots _).words sp) G
      rw [RS.withRoots_words, RS.count_same _ _ _ _ hx, List.map_set]
      have : s.rootW (some (s.ident r)) = ((s.rootW (some id)).1, r) := by show (true, s.ref (s.ident r)) = (true, r); rw [RS.goodR_ref v hg]
      rw [this]
      exact rp1
theorem hdrop_ok (v : s.Inv) (rp : HRep h hb role (s.words sp) G) {n : Int} {R : Value → Hp → Prop}
    (hR : ∀ h' role' G', HRep h' hb role' ((s.dropF n).1.words sp) G' → ExtO h role h' role' → R (.int .i64 (s.dropF n).2) h') : CallTo Try.prog 38 #[.pointer (some (ad hb)), .int .i64 n] h R := by
  have hrl := v.rl
  refine f38F_ok ?_
  unfold f38F
  refine hheld_ok v rp ⟨_, rfl, ?_⟩
  unfold RS.dropF at hR
  cases hh : s.hand n with
  | none => rw [hh] at hR; exact Cond_t rfl (hR h role G rp (ExtO.refl h role))
  | some id =>
    rw [hh] at hR
    obtain ⟨h1, h2, hx⟩ := RS.hand_some hh
    have hlt := (List.getElem?_eq_some_iff.1 hx).1
    have c9 : cell h ((ad hb).add 9) = some (.slice G.ts.a G.ts.n G.ts.c) := (rp.c 9).trans rfl
    have hxr : (s.words sp).roots[(n - 1).toNat]? = some (s.rootW (some id)) := by show (s.roots.map s.rootW)[(n - 1).toNat]? = _; rw [List.getElem?_map, hx]; rfl
    have htn := rp.ts_n
    have htn : G.ts.n = (s.roots.map s.rootW).length := htn
    rw [List.length_map] at htn
    rw [wrap_ar (x := n - 1) (by omega) (by omega)]
    obtain ⟨b, ha, st, rp1, x1⟩ := rp.setUsed hxr false
    refine Cond_f rfl (PtrOk_mk ⟨G.ts, c9, ⟨by omega, by omega⟩, PtrOk_of ha ⟨st, Let_mk fun h2 e2 => ?_⟩⟩)
    rw [← e2] at rp1 x1
    have hxr1 : ((s.words sp).roots.set (n - 1).toNat (false, (s.rootW (some id)).2))[(n - 1).toNat]? = some (false, (s.rootW (some id)).2) := List.getElem?_set_self (by show _ < (s.roots.map s.rootW).length; rw [List.length_map]; exact hlt)
    obtain ⟨b', ha', st2, rp2, x2⟩ := rp1.setRoot hxr1 0
    rw [ha] at ha'
    obtain rfl : b = b' := by simpa [ad] using ha'
    refine ⟨st2, Let_mk fun h3 e3 => ?_⟩
    have rp2 : HRep h3 hb role _ G := e3 ▸ rp2
    have x2 : Ext h2 role h3 role := e3 ▸ x2
    have c15 : cell h3 (((ad hb).add 10).add 5) = some (.int .i64 ((s.roots.filter Option.isSome).length : Nat)) := by rw [add_hd]; exact (cell_row rp2.row 15).trans rfl
    refine PtrOk_mk ⟨_, c15, PtrOk_mk ?_⟩
    have hcn := RS.count_none _ _ _ hx
    have hle : (s.roots.filter Option.isSome).length ≤ s.roots.length := List.length_filter_le _ _
    rw [wrap_ar (x := (((s.roots.filter Option.isSome).length : Nat) : Int) - 1) (by omega) (by omega)]
    have ev : (((s.roots.filter Option.isSome).length : Nat) : Int) - 1 = (((s.roots.set (n - 1).toNat none).filter Option.isSome).length : Nat) := by omega
    rw [ev]
    refine rp2.num (i := 15) (m' := { s.words sp with roots := ((s.words sp).roots.set (n - 1).toNat (false, (s.rootW (some id)).2)).set (n - 1).toNat (false, 0), r5 := ((s.roots.set (n - 1).toNat none).filter Option.isSome).length }) (add_hd _ _ _) (by omega) rfl rfl rfl rfl rfl rfl rfl rfl rfl fun h4 rp4 x4 => ?_
    refine hR h4 role G ?_ ((x1.trans x2).trans x4).o
    show HRep _ hb role ((s.withRoots _).words sp) G
    rw [RS.withRoots_words, List.map_set]
    rw [List.set_set] at rp4
    exact rp4
theorem hroot_ok (v : s.Inv) (rp : HRep h hb role (s.words sp) G) (hl : s.roots.length < 100000000) {r : Nat} (hr : r < 18446744073709551616) {R : Value → Hp → Prop}
    (hR : ∀ h' role' G', HRep h' hb role' ((s.rootF r).1.words sp) G' → ExtO h role h' role' → R (.tuple #[.int .i64 ((s.rootF r).2.1 : Nat), .int .i64 (s.rootF r).2.2]) h') : CallTo Try.prog 17 #[.pointer (some (ad hb)), uv r] h R := by
  refine f17F_ok ?_
  unfold f17F
  refine hgood_ok v rp hr ⟨_, rfl, ?_⟩
  unfold RS.rootF at hR
  cases hg : s.goodR r with
  | false => rw [hg] at hR; exact Cond_t rfl (hR h role G rp (ExtO.refl h role))
  | true =>
    rw [hg] at hR
    refine Cond_f rfl ?_
    have c15 : cell h (((ad hb).add 10).add 5) = some (.int .i64 ((s.roots.filter Option.isSome).length : Nat)) := by rw [add_hd]; exact (cell_row rp.row 15).trans rfl
    have hle : (s.roots.filter Option.isSome).length ≤ s.roots.length := List.length_filter_le _ _
    refine PtrOk_mk ⟨_, c15, PtrOk_mk ?_⟩
    rw [wrap_ar (x := (((s.roots.filter Option.isSome).length : Nat) : Int) + 1) (by omega) (by omega)]
    have ev : (((s.roots.filter Option.isSome).length : Nat) : Int) + 1 = ((s.roots.filter Option.isSome).length + 1 : Nat) := by omega
    rw [ev]
    refine rp.num (i := 15) (m' := { s.words sp with r5 := (s.roots.filter Option.isSome).length + 1 }) (add_hd _ _ _) (by omega) rfl rfl rfl rfl rfl rfl rfl rfl rfl fun h2 rp2 x2 => ?_
    have htn := rp2.ts_n
    have htn : G.ts.n = (s.roots.map s.rootW).length := htn
    rw [List.length_map] at htn
    have c9 : cell h2 ((ad hb).add 9) = some (.slice G.ts.a G.ts.n G.ts.c) := (rp2.c 9).trans rfl
    refine PtrOk_mk ⟨G.ts, c9, ?_⟩
    rw [htn]
    have erw : s.rootW (some (s.ident r)) = (true, r) := by show (true, s.ref (s.ident r)) = (true, r); rw [RS.goodR_ref v hg]
    refine f17L1_rule (fun q s0 s1 s24 s25 h' => ∃ i : Nat, i ≤ s.roots.length ∧ q = s.roots.length - i ∧ s0 = some (ad hb) ∧ s1 = (r : Int) ∧ s24 = ((s.roots.length : Nat) : Int) ∧ s25 = (i : Int) ∧ h' = h2 ∧ ∀ j, j < i → ∃ x, s.roots[j]? = some (some x)) s.roots.length
      ⟨0, Nat.zero_le _, rfl, rfl, rfl, rfl, rfl, rfl, fun j hj => absurd hj (Nat.not_lt_zero _)⟩ ?_
    rintro q s0 s1 s24 s25 g h' ⟨i, hi, rfl, rfl, rfl, rfl, rfl, rfl, hall⟩
    unfold f17L1
    refine Cond_dec (fun hlt => ?_) fun hge => ?_
    · have hlt : i < s.roots.length := by omega
      obtain ⟨x, hx⟩ : ∃ x, s.roots[i]? = some x := ⟨_, List.getElem?_eq_getElem hlt⟩
      have hxr : ({ s.words sp with r5 := (s.roots.filter Option.isSome).length + 1 } : MH).roots[i]? = some (s.rootW x) := by show (s.roots.map s.rootW)[i]? = _; rw [List.getElem?_map, hx]; rfl
      obtain ⟨b, ha, k1, k2, k3, _⟩ := rp2.root_at hxr
      have cb : (0 : Int) ≤ (i : Int) ∧ (i : Int) < ((G.ts.n : Nat) : Int) := by omega
      have hwr : IntKind.wrap .i64 ((i : Int) + 1) = ((i + 1 : Nat) : Int) := by rw [wrap_ar (by omega) (by omega)]; rfl
      refine PtrOk_mk ⟨G.ts, c9, cb, PtrOk_of ha ⟨(s.rootW x).1, by rw [Int.toNat_natCast]; exact k1, ?_⟩⟩
      cases x with
      | some y =>
        refine Cond_f rfl ?_
        refine ⟨s.roots.length - (i + 1), by omega, i + 1, hlt, rfl, rfl, rfl, rfl, hwr, rfl, fun j hj => ?_⟩
        rcases Nat.lt_or_ge j i with hji | hji
        · exact hall j hji
        · obtain rfl : j = i := by omega
          exact ⟨y, hx⟩
      | none =>
        have hf : RS.freeAt s.roots = i := RS.freeAt_eq _ _ hall (.inl hx)
        rw [hf, if_pos rfl, if_pos hlt] at hR
        obtain ⟨b1, ha1, st, rp3, x3⟩ := rp2.setUsed hxr true
        rw [ha] at ha1
        obtain rfl : b = b1 := by simpa [ad] using ha1
        refine Cond_t rfl (PtrOk_mk ⟨G.ts, c9, cb, PtrOk_of ha ?_⟩)
        rw [Int.toNat_natCast]
        refine ⟨st, Let_mk fun h3 e3 => ?_⟩
        rw [← e3] at rp3 x3
        have hxr1 : ((s.roots.map s.rootW).set i (true, (s.rootW none).2))[i]? = some (true, (s.rootW none).2) := List.getElem?_set_self (by rw [List.length_map]; exact hlt)
        obtain ⟨b2, ha2, st2, rp4, x4⟩ := rp3.setRoot hxr1 r
        rw [ha] at ha2
        obtain rfl : b = b2 := by simpa [ad] using ha2
        refine ⟨st2, ?_⟩
        rw [hwr]
        refine hR _ role G ?_ ((x2.trans x3).trans x4).o
        rw [RS.withRoots_words, RS.count_some _ _ _ hx, List.map_set, erw]
        have e : (((s.roots.map s.rootW).set i (true, (s.rootW none).2)).set i (true, r)) = (s.roots.map s.rootW).set i (true, r) := List.set_set ..
        rw [← e]
        exact rp4
    · have hie : i = s.roots.length := by omega
      have hf : RS.freeAt s.roots = i := RS.freeAt_eq _ _ hall (.inr hie)
      rw [hf, if_pos rfl, if_neg (by omega)] at hR
      refine PtrOk_mk ⟨G.ts, c9, ?_⟩
      refine rp2.addRoot (ref := r) (by show (s.roots.map s.rootW).length ≤ _; rw [List.length_map]; omega) fun h3 role3 G3 rp3 x3 => ?_
      have htn3 := rp3.ts_n
      have htn3 : G3.ts.n = (s.roots.map s.rootW ++ [(true, r)]).length := htn3
      have hlen : (s.roots.map s.rootW ++ [(true, r)]).length = i + 1 := by rw [List.length_append, List.length_map, hie]; rfl
      have c9' : cell h3 ((ad hb).add 9) = some (.slice G3.ts.a G3.ts.n G3.ts.c) := (rp3.c 9).trans rfl
      refine PtrOk_mk ⟨G3.ts, c9', ?_⟩
      rw [htn3, hlen]
      refine hR h3 role3 G3 ?_ (x2.trans x3).o
      rw [RS.withRoots_words, List.map_append, List.filter_append, List.length_append]
      show HRep h3 hb role3 { s.words sp with roots := s.roots.map s.rootW ++ [s.rootW (some (s.ident r))], r5 := _ } G3
      rw [erw]
      exact rp3
theorem himage_ok (v : s.Inv) (rp : HRep h hb role (s.words sp) G) {R : Value → Hp → Prop} (hR : ∀ b c h', SlAt 1 h' (some (ad b)) s.used c (some b) (s.image.map uv) → h.size ≤ b → Kept N h h' → R (.slice (some (ad b)) s.used c) h') :
    CallTo Try.prog 22 #[.pointer (some (ad hb))] h R := by
  refine f22F_ok ?_
  unfold f22F
  have c1 : cell h ((ad hb).add 1) = some (.pointer (some (ad G.Lh.pb))) := (rp.c 1).trans rfl
  obtain ⟨wc, fc, fs, ra⟩ := rp.half
  have hu := RS.used_words v sp
  refine PtrOk_mk ⟨_, c1, aimage_ok ra fun b c h' h1 h2 h3 => ⟨⟨some (ad b), _, c⟩, rfl, ?_⟩⟩
  rw [hu] at h1
  show R (.slice (some (ad b)) (Go.Ev.used (s.words sp).half) c) h'
  rw [hu]
  exact hR b c h' h1 h2 h3
theorem hnew_ok {n : Int} {h : Hp} {R : Value → Hp → Prop} (hbad : ¬ (128 ≤ n ∧ n ≤ 1048576) → R (.tuple #[.pointer none, .int .i64 30]) h)
    (hgood : ∀ h' hb role G, 128 ≤ n ∧ n ≤ 1048576 → HRep h' hb role ((RS.new n.toNat).words []) G → (∀ b, role b ≠ .out → h.size ≤ b) → Kept N h h' → R (.tuple #[.pointer (some (ad hb)), .int .i64 0]) h') : CallTo Try.prog 6 #[.int .i64 n] h R := by
  refine f6F_ok ?_
  unfold f6F
  have bad : ¬ (128 ≤ n ∧ n ≤ 1048576) → f6K1 n true h R := fun c => by unfold f6K1; exact Cond_t rfl (hbad c)
  refine Cond_dec (fun c => bad (by omega)) fun c1 => ?_
  by_cases c2 : n > 1048576
  · rw [decide_eq_true c2]; exact bad (by omega)
  rw [decide_eq_false c2]
  unfold f6K1
  refine Cond_f rfl (Let_mk fun h1 e1 => ?_)
  have k1 : Kept N h h1 := e1 ▸ kept_push _ _ _
  have row1 := row_new h #[.int .i64 n, .pointer none, .pointer none, .slice none 0 0, .slice none 0 0, .slice none 0 0, .int .i64 0, .int .i64 0, .int .i64 0, .slice none 0 0, .int .i64 0, .int .i64 0, .int .i64 0, .int .i64 0, .int .i64 0, .int .i64 0, .int .i64 0, .int .i64 0, .int .i64 0] 75
  rw [← e1] at row1
  have hz1 : h1.size = h.size + 1 := by rw [e1]; simp
  refine anew_ok (fun hb' => absurd ⟨by omega, by omega⟩ hb') fun L1 h2 _ a1 f1 k2 => ⟨_, _, rfl, ?_⟩
  have row2 := kept_row k2 row1 id
  refine row_st row2 (i := 1) (add_ad _ _) (by show 1 < 19; omega) fun h3 row3 k3 => ?_
  refine anew_ok (fun hb' => absurd ⟨by omega, by omega⟩ hb') fun L2 h4 _ a2 f2 k4 => ⟨_, _, rfl, ?_⟩
  have row4 := kept_row k4 row3 id
  refine row_st row4 (i := 2) (add_ad _ _) (by show 2 < 19; omega) fun h5 row5 k5 => ?_
  have l1 : ∀ b, L1.fp b → b < h2.size := a1.lt
  have l2 : ∀ b, L2.fp b → b < h4.size := a2.lt
  have s2 := k2.1; have s3 := k3.1; have s4 := k4.1; have s5 := k5.1
  have d12 : ∀ b, L2.fp b → ¬ L1.fp b := fun b q1 q2 => by have := f2 b q1; have := l1 b q2; omega
  have d1 : ¬ L1.fp h.size := fun q => by have := f1 _ q; omega
  have d2 : ¬ L2.fp h.size := fun q => by have := f2 _ q; omega
  let role : Nat → Role := fun b => if b = h.size then .hd else if L1.fp b then .half else if L2.fp b then .spare else .out
  have r0 : role h.size = .hd := if_pos rfl
  have r1 : ∀ b, L1.fp b → role b = .half := fun b hb' => (if_neg fun e : b = h.size => d1 (e ▸ hb')).trans (if_pos hb')
  have r2 : ∀ b, L2.fp b → role b = .spare := fun b hb' => (if_neg fun e : b = h.size => d2 (e ▸ hb')).trans ((if_neg (d12 b hb')).trans (if_pos hb'))
  have ro : ∀ b, b ≠ h.size → ¬ L1.fp b → ¬ L2.fp b → role b = .out := fun b q1 q2 q3 => (if_neg q1).trans ((if_neg q2).trans (if_neg q3))
  obtain ⟨k, rfl⟩ := Int.eq_ofNat_of_zero_le (show 0 ≤ n by omega)
  have k35 : Kept (fun b => b = h.size) h3 h5 := (k4.mono fun _ _ e => e.elim).trans k5
  refine hgood h5 h.size role ⟨L1, L2, [], ⟨none, 0, 0⟩, none, ⟨none, 0, 0⟩, none, ⟨none, 0, 0⟩, none, ⟨none, 0, 0⟩, none⟩ ⟨by omega, by omega⟩ ⟨?_, r0, fun b hb' => ro b (by omega) (fun q => by have := l1 b q; omega) (fun q => by have := l2 b q; omega), ?_, r1, ?_, r2, slAt_nil 1 _, nofun, rfl, fun i o L h1 h2 => ?_, slAt_nil 1 _, nofun, slO_nil 1 _, nofun, slAt_nil 2 _, nofun⟩ (fun b hne => ?_) ?_
  · exact row5
  · have k25 : Kept (fun b => b = h.size) h2 h5 := k3.trans k35
    exact a1.keep k25 fun b q (e : b = h.size) => d1 (e ▸ q)
  · have k5 : Kept (fun b => b = h.size) h4 h5 := k5
    exact a2.keep k5 fun b q (e : b = h.size) => d2 (e ▸ q)
  · simp [RS.words, RS.new] at h1
  · rcases Nat.lt_or_ge b h.size with hl | hl
    · exact absurd (ro b (by omega) (fun q => by have := f1 b q; omega) (fun q => by have := f2 b q; omega)) hne
    · exact hl
  · exact ⟨by omega, fun b hb' _ => by
      rw [k35.2 b (by omega) (by omega), k3.2 b (by omega) (by omega), k2.2 b (by omega) id, k1.2 b hb' id]⟩
end
end Go.Ev
