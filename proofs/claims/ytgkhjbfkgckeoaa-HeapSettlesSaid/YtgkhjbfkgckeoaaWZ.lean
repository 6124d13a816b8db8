/- HeapBound: the half's words and the slots, and the law's own call. No condition but that it is one. -/
import Derived.Test.YtgkhjbfkgckeoaaVZ
set_option linter.all false
set_option maxRecDepth 100000
namespace Go.Ev
open Go.Proofs
namespace RS
section
variable {s : RS}
theorem pos_small (i : Nat) : Go.Ev.pos (s.small.map s.enc) i = 1 + s.sizes (s.small.take i) := by
  unfold Go.Ev.pos
  rw [← List.map_take]
  exact used_map (fun id => s.enc_size id) _
theorem enc_at {i id : Nat} (h : s.small[i]? = some id) : (s.small.map s.enc)[i]? = some (s.enc id) := by rw [List.getElem?_map, h]; rfl
theorem image_head (v : s.Inv) {i id : Nat} (h : s.small[i]? = some id) : s.image[s.ref id]? = some (hdw (s.obj id).kind (s.obj id).refs.length (s.obj id).raws.length) := by
  have := word_head (enc_at (s := s) h)
  rw [pos_small, ← small_ref v h] at this
  unfold image
  rw [this]
  unfold AObj.head enc
  simp
theorem image_fld (v : s.Inv) {i id j : Nat} (h : s.small[i]? = some id) (hj : j < (s.enc id).flds.length) : s.image[s.ref id + 1 + j]? = (s.enc id).flds[j]? := by
  have := word_fld (enc_at (s := s) h) hj
  rw [pos_small, ← small_ref v h] at this
  exact this
theorem enc_flds (id : Nat) : (s.enc id).flds.length = (s.obj id).refs.length + (s.obj id).raws.length := by
  unfold AObj.flds enc; simp
theorem sizes_split {i j id : Nat} (h : s.small[i]? = some id) (hij : i < j) : s.sizes (s.small.take i) + s.size id ≤ s.sizes (s.small.take j) := by
  have e : s.sizes (s.small.take (i + 1)) = s.sizes (s.small.take i) + s.size id := by rw [take_snoc h]; unfold sizes; simp
  have : (s.small.take j).take (i + 1) = s.small.take (i + 1) := by rw [List.take_take, Nat.min_eq_left (by omega)]
  rw [← e, ← this]
  exact sizes_take s _ _
theorem small_end {i id : Nat} (h : s.small[i]? = some id) : s.sizes (s.small.take i) + s.size id ≤ s.sizes s.small := by
  have e : s.sizes (s.small.take (i + 1)) = s.sizes (s.small.take i) + s.size id := by rw [take_snoc h]; unfold sizes; simp
  rw [← e]
  exact sizes_take s _ _
/-- Inside an object none begins. -/
theorem ident_inner (v : s.Inv) {i id d : Nat} (h : s.small[i]? = some id) (h1 : 0 < d) (h2 : d < s.size id) : s.ident (s.ref id + d) = 0 := by
  have ht : top = 9223372036854775808 := rfl
  have he := small_end h
  have u1 := v.u1; have u2 := v.u2; have u3 := v.h2; have u4 := v.l2
  have er := small_ref v h
  rw [ident_low (by omega) (by omega)]
  have hf : (s.small.find? fun k => (s.obj k).pl == s.ref id + d) = none := by
    refine List.find?_eq_none.2 fun k hk => ?_
    obtain ⟨j, hj⟩ := List.mem_iff_getElem?.1 hk
    have ej := placeIn_at (s := s) _ 1 _ _ v.nds hj
    have ep := (v.sm k hk).2.2.2.2
    rw [ej] at ep
    intro hc
    have hc : (s.obj k).pl = s.ref id + d := by simpa using hc
    rcases Nat.lt_trichotomy i j with hij | hij | hij
    · have := sizes_split h hij; omega
    · subst hij; omega
    · have hz : 0 < s.size k := by unfold size RObj.size; omega
      have := sizes_split hj hij
      omega
  rw [hf]
  rfl
/-! ### Slots -/
def bw (s : RS) (i : Nat) : Nat := ((s.slots.take i).map fun id => if id = 0 then 0 else s.size id + 1).sum
def bn (s : RS) (i : Nat) : Nat := ((s.slots.take i).filter fun x => decide (x ≠ 0)).length
theorem bw_zero (s : RS) : s.bw 0 = 0 := by unfold bw; simp
theorem bn_zero (s : RS) : s.bn 0 = 0 := by unfold bn; simp
theorem bw_end (v : s.Inv) {i : Nat} (h : s.slots.length ≤ i) : s.bw i = s.large := by unfold bw; rw [List.take_of_length_le h, v.lg]
theorem bn_end {i : Nat} (h : s.slots.length ≤ i) : s.bn i = s.slotsN := by unfold bn slotsN; rw [List.take_of_length_le h]
theorem bw_le (v : s.Inv) (i : Nat) : s.bw i ≤ s.large := by
  rw [v.lg]
  unfold bw
  conv => rhs; rw [← List.take_append_drop i s.slots, List.map_append, List.sum_append]
  omega
theorem bn_le (i : Nat) : s.bn i ≤ s.slots.length := by
  unfold bn
  exact Nat.le_trans (List.length_filter_le _ _) (by rw [List.length_take]; omega)
theorem bw_succ (i : Nat) : s.bw (i + 1) = s.bw i + (if s.slots.getD i 0 = 0 then 0 else s.size (s.slots.getD i 0) + 1) := by
  unfold bw
  rw [List.getD_eq_getElem?_getD]
  cases h : s.slots[i]? with
  | none =>
    have hl := List.getElem?_eq_none_iff.1 h
    rw [List.take_of_length_le hl, List.take_of_length_le (by omega)]
    rfl
  | some x => rw [take_snoc h]; simp
theorem bn_succ (i : Nat) : s.bn (i + 1) = s.bn i + (if s.slots.getD i 0 = 0 then 0 else 1) := by
  unfold bn
  rw [List.getD_eq_getElem?_getD]
  cases h : s.slots[i]? with
  | none =>
    have hl := List.getElem?_eq_none_iff.1 h
    rw [List.take_of_length_le hl, List.take_of_length_le (by omega)]
    rfl
  | some x =>
    rw [take_snoc h, List.filter_append, List.length_append]
    by_cases h0 : x = 0
    · subst h0; rfl
    · simp [h0]
theorem slot_size (v : s.Inv) {i : Nat} (h : s.slots.getD i 0 ≠ 0) : 64 < s.size (s.slots.getD i 0) ∧ s.here (s.slots.getD i 0) := by
  rw [List.getD_eq_getElem?_getD] at h ⊢
  cases e : s.slots[i]? with
  | none => rw [e] at h; exact absurd rfl h
  | some x =>
    rw [e] at h
    have h : x ≠ 0 := h
    exact ⟨(v.sl i x e h).2.2.1, .inr ⟨h, List.mem_of_getElem? e⟩⟩
end
end RS
end Go.Ev
set_option linter.all false
set_option maxRecDepth 1000000
namespace Go.Ev
open Go.Proofs
section
variable {h h' hB : Hp} {sb zb : Nat} {D D' : ShD} {sl : Sl} {ops : List MvL} {o : MvL} {k : Nat}
theorem blocks_ok (x : Shw h sb D) (c : Coh D) (ol : D.s.objs.length < 100000000) {t0 t1 t2 t5 t6 t7 t8 : Int} {R : Value → Hp → Prop} (hR : ∀ h', Kept N h h' → R (.bool true) h') :
    CallTo Try.prog 46 #[.pointer (some (ad sb)), .agg #[.int .i64 t0, .int .i64 t1, .int .i64 t2, .int .i64 (D.s.large : Nat), .int .i64 (D.s.slotsN : Nat), .int .i64 t5, .int .i64 t6, .int .i64 t7, .int .i64 t8]] h R := by
  have i2 := x.v.h2; have i4 := x.v.l2; have i5 := x.v.sll; have i6 := c.lm.2.1
  have hnn : D.y.ns.n = D.s.objs.length := by rw [x.m.nn_n, c.sh.len]
  refine f46F_ok ?_
  unfold f46F
  refine Let_mk fun h1 e1 => ?_
  have k1 : Kept N h h1 := e1 ▸ kept_push _ _ _
  have row1 : Row h1 h.size [.int .i64 t0, .int .i64 t1, .int .i64 t2, .int .i64 (D.s.large : Nat), .int .i64 (D.s.slotsN : Nat), .int .i64 t5, .int .i64 t6, .int .i64 t7, .int .i64 t8] := e1 ▸ row_new h _ 48
  have x1 := x.keepN k1
  refine f46L1_rule (fun q s0 s3 s5 s6 s7 h' => ∃ i : Nat, i ≤ D.s.objs.length + 1 ∧ q = D.s.objs.length + 1 - i ∧ s0 = some (ad sb) ∧ s3 = ad h.size ∧ s5 = ((D.s.bw i : Nat) : Int) ∧ s6 = ((D.s.bn i : Nat) : Int) ∧ s7 = (i : Int) ∧ h' = h1) (D.s.objs.length + 1)
    ⟨0, Nat.zero_le _, rfl, rfl, rfl, by rw [RS.bw_zero]; rfl, by rw [RS.bn_zero]; rfl, rfl, rfl⟩ ?_
  rintro q s0 s3 s5 s6 s7 g h2 ⟨i, hi, rfl, rfl, rfl, rfl, rfl, rfl, rfl⟩
  unfold f46L1
  refine PtrOk_mk ⟨_, x1.m.cN, ?_⟩
  rw [hnn]
  refine Cond_dec (fun hlt => ?_) fun hge => ?_
  · have hil : i ≤ D.s.objs.length := by omega
    have ht : top = 9223372036854775808 := rfl
    have eref : IntKind.wrap .u64 ((9223372036854775808 : Int) + IntKind.wrap .u64 ((i : Nat) : Int)) = ((top + i : Nat) : Int) := by
      rw [wrap_u64' (x := ((i : Nat) : Int)) (by omega) (by omega), wrap_u64' (by omega) (by omega), ht]; omega
    have es := D.s.bw_succ i
    have en := D.s.bn_succ i
    have l1 := D.s.bw_le x.v (i + 1)
    have l2 := D.s.bn_le (i + 1)
    have nxt : IntKind.wrap .i64 ((i : Int) + 1) = ((i + 1 : Nat) : Int) := by rw [wrap_i64' (by omega) (by omega)]; rfl
    refine PtrOk_mk ⟨_, x1.m.p, ?_⟩
    rw [eref]
    refine hobject_ok x1.v x1.rp (r := top + i) (by omega) ⟨_, _, _, _, rfl, ?_⟩
    unfold RS.objF
    rw [RS.ident_top]
    generalize hx : D.s.slots.getD i 0 = y at es en
    by_cases h0 : y = 0
    · rw [if_pos h0]
      rw [if_pos h0] at es en
      exact Cond_f rfl (Cond_f rfl ⟨D.s.objs.length + 1 - (i + 1), by omega, i + 1, by omega, rfl, rfl, rfl, by rw [es]; rfl, by rw [en]; rfl, nxt, rfl⟩)
    · rw [if_neg h0]
      rw [if_neg h0] at es en
      obtain ⟨hs, hh⟩ := RS.slot_size x.v (i := i) (by rw [hx]; exact h0)
      rw [hx] at hs hh
      have hsz : D.s.size y = 1 + (D.s.obj y).refs.length + (D.s.obj y).raws.length := rfl
      have shp := x.v.shp y hh
      have big : decide (IntKind.wrap .i64 (IntKind.wrap .i64 ((1 : Int) + (((D.s.obj y).refs.length : Nat) : Int)) + (((D.s.obj y).raws.length : Nat) : Int)) ≤ (64 : Int)) = false := by
        rw [wrap_i64' (x := (1 : Int) + _) (by omega) (by omega), wrap_i64' (by omega) (by omega)]
        exact decide_eq_false (by omega)
      refine Cond_t rfl (Cond_f (decide_eq_false (by omega)) (Cond_f (decide_eq_false (by omega)) ?_))
      show f46K1 _ _ _ _ _ _ _ (((D.s.obj y).refs.length : Nat) : Int) (((D.s.obj y).raws.length : Nat) : Int) (decide (IntKind.wrap .i64 (IntKind.wrap .i64 ((1 : Int) + (((D.s.obj y).refs.length : Nat) : Int)) + (((D.s.obj y).raws.length : Nat) : Int)) ≤ (64 : Int))) _ _
      rw [big]
      unfold f46K1
      refine Cond_f rfl ⟨D.s.objs.length + 1 - (i + 1), by omega, i + 1, by omega, rfl, rfl, rfl, ?_, ?_, nxt, rfl⟩
      · rw [es, wrap_i64' (x := ((D.s.bw i : Nat) : Int) + 2) (by omega) (by omega), wrap_i64' (x := ((D.s.bw i : Nat) : Int) + 2 + _) (by omega) (by omega), wrap_i64' (by omega) (by omega)]
        omega
      · rw [en, wrap_i64' (by omega) (by omega)]; rfl
  · have hie : i = D.s.objs.length + 1 := by omega
    subst hie
    rw [RS.bw_end x.v (by omega), RS.bn_end (by omega)]
    refine ⟨_, by rw [add_ad]; exact (cell_row row1 3).trans rfl, Cond_t (beq_self_eq_true _) ⟨_, by rw [add_ad]; exact (cell_row row1 4).trans rfl, ?_⟩⟩
    rw [beq_self_eq_true]
    exact hR _ k1
theorem bounded_ok (x : Shw h sb D) (c : Coh D) (ol : D.s.objs.length < 100000000) {R : Value → Hp → Prop} (hR : ∀ h', Kept N h h' → R (.bool true) h') :
    CallTo Try.prog 21 #[.pointer (some (ad sb))] h R := by
  have u1 := x.v.u1; have u2 := x.v.u2; have u3 := x.v.h2; have u4 := x.v.l2; have u5 := x.v.h1; have u6 := x.v.sll
  have lm := c.lm.1
  refine f21F_ok ?_
  unfold f21F
  refine PtrOk_mk ⟨_, x.m.p, hstats_ok x.v x.rp fun h3 k3 => ⟨_, _, _, _, _, _, _, _, _, rfl, Let_mk fun h4 e4 => ?_⟩⟩
  have w0 : NB2 h3 h3.size _ h4 := e4 ▸ NB2.new h3 _ 48
  have enb : Go.Ev.nb h3 = ad h3.size := rfl
  rw [enb]
  refine w0.st (i := 0) rfl (by show 0 < 9; omega) fun h5 w1 => ?_
  refine w1.st (i := 1) (add_ad _ _) (by show 1 < 9; omega) fun h6 w2 => ?_
  refine w2.st (i := 2) (add_ad _ _) (by show 2 < 9; omega) fun h7 w3 => ?_
  refine w3.st (i := 3) (add_ad _ _) (by show 3 < 9; omega) fun h8 w4 => ?_
  refine w4.st (i := 4) (add_ad _ _) (by show 4 < 9; omega) fun h9 w5 => ?_
  refine w5.st (i := 5) (add_ad _ _) (by show 5 < 9; omega) fun h10 w6 => ?_
  refine w6.st (i := 6) (add_ad _ _) (by show 6 < 9; omega) fun h11 w7 => ?_
  refine w7.st (i := 7) (add_ad _ _) (by show 7 < 9; omega) fun h12 w8 => ?_
  refine w8.st (i := 8) (add_ad _ _) (by show 8 < 9; omega) fun h13 w9 => ?_
  have rowS : Row h13 h3.size [.int .i64 (D.s.limit : Nat), .int .i64 (D.s.half : Nat), .int .i64 (D.s.used : Nat), .int .i64 (D.s.large : Nat), .int .i64 (D.s.slotsN : Nat), .int .i64 (D.s.rootsN : Nat), .int .i64 D.s.coll, .int .i64 D.s.resz, .int .i64 (D.s.moved : Nat)] := w9.row
  have x13 := (x.keepN k3).keepN w9.k
  refine PtrOk_mk ⟨_, x13.m.p, himage_ok x13.v x13.rp fun b c' h14 sA fb k14 => ⟨⟨some (ad b), D.s.used, c'⟩, rfl, ?_⟩⟩
  have x14 := x13.keepN k14
  have row14 := kept_row k14 rowS id
  have k0 := (k3.trans w9.k).trans k14
  have cR : ∀ j, cell h14 ((ad h3.size).add j) = ([.int .i64 (D.s.limit : Nat), .int .i64 (D.s.half : Nat), .int .i64 (D.s.used : Nat), .int .i64 (D.s.large : Nat), .int .i64 (D.s.slotsN : Nat), .int .i64 (D.s.rootsN : Nat), .int .i64 D.s.coll, .int .i64 D.s.resz, .int .i64 (D.s.moved : Nat)] : List Value)[j]? := fun j => by rw [add_ad]; exact cell_row row14 j
  have cR0 : cell h14 (ad h3.size) = some (.int .i64 (D.s.limit : Nat)) := (cell_row row14 0).trans rfl
  have cL : cell h14 ((ad sb).add 3) = some (.int .i64 (D.s.limit : Nat)) := by rw [x14.m.cLim, lm]
  have img : ∀ {i w : Nat}, D.s.image[i]? = some w → cell h14 ((ad b).add (i * 1)) = some (.int .u64 ((w : Nat) : Int)) := fun {i w} hw => by
    obtain ⟨p, hp, hc⟩ := readsO_get (slAt_reads sA) (i := i) (v := uv w) (by rw [List.getElem?_map, hw]; rfl)
    obtain rfl := Option.some.inj hp
    rw [Nat.mul_one]
    exact hc
  have ebig : IntKind.wrap .i64 (IntKind.wrap .i64 ((2 : Int) * ((D.s.half : Nat) : Int)) + ((D.s.large : Nat) : Int)) = ((2 * D.s.half + D.s.large : Nat) : Int) := by
    rw [wrap_i64' (x := (2 : Int) * _) (by omega) (by omega), wrap_i64' (by omega) (by omega)]; omega
  refine Cond_f (decide_eq_false (by show ¬ ((D.s.used : Nat) : Int) < 1; omega)) ⟨_, cR0, PtrOk_mk ⟨_, cL, Cond_f (bne_self_eq_false _) ⟨_, (cR 1).trans rfl, _, (cR 3).trans rfl, PtrOk_mk ⟨_, cL, ?_⟩⟩⟩⟩
  rw [ebig]
  refine Cond_f (decide_eq_false (by omega)) ⟨_, (cR 2).trans rfl, _, (cR 1).trans rfl, Cond_f (decide_eq_false (by omega)) ⟨_, (cR 2).trans rfl, Cond_f (bne_self_eq_false _) ⟨_, (cR 1).trans rfl, Cond_f (decide_eq_false (by omega)) ⟨⟨by omega, by show (0 : Int) < ((D.s.used : Nat) : Int); omega⟩, PtrOk_mk ⟨_, img (i := 0) (w := 0) rfl, ?_⟩⟩⟩⟩⟩
  show f21K1 (some (ad sb)) (ad h3.size) ⟨some (ad b), D.s.used, c'⟩ false h14 R
  unfold f21K1
  refine Cond_f rfl ?_
  refine f21L1_rule (fun q s0 s3 s4 s5 h' => ∃ i : Nat, i ≤ D.s.small.length ∧ q = D.s.small.length - i ∧ s0 = some (ad sb) ∧ s3 = ad h3.size ∧ s4 = ⟨some (ad b), D.s.used, c'⟩ ∧ s5 = ((1 + D.s.sizes (D.s.small.take i) : Nat) : Int) ∧ h' = h14) D.s.small.length
    ⟨0, Nat.zero_le _, rfl, rfl, rfl, rfl, rfl, rfl⟩ ?_
  rintro q s0 s3 s4 s5 g h15 ⟨i, hi, rfl, rfl, rfl, rfl, rfl, rfl⟩
  unfold f21L1
  refine Cond_dec (fun hlt => ?_) fun hge => ?_
  · have hlt : ((1 + D.s.sizes (D.s.small.take i) : Nat) : Int) < ((D.s.used : Nat) : Int) := hlt
    have hil : i < D.s.small.length := by
      rcases Nat.lt_or_ge i D.s.small.length with h | h
      · exact h
      · rw [List.take_of_length_le h] at hlt; omega
    obtain ⟨id, eid⟩ : ∃ id, D.s.small[i]? = some id := ⟨_, List.getElem?_eq_getElem hil⟩
    have hsm := List.mem_of_getElem? eid
    have hh : D.s.here id := .inl hsm
    obtain ⟨p0, p1, p2, p3, _⟩ := x.v.sm id hsm
    have h0 : id ≠ 0 := by omega
    have er := RS.small_ref x.v eid
    have eend := RS.small_end eid
    have hrl : D.s.ref id < 18446744073709551616 := RS.ref_lt x.v (.inr hh)
    have hid : D.s.ident (D.s.ref id) = id := RS.ident_ref x.v (.inr hh)
    have shp := x.v.shp id hh
    have hsz : D.s.size id = 1 + (D.s.obj id).refs.length + (D.s.obj id).raws.length := rfl
    have hfl := RS.enc_flds (s := D.s) id
    rw [← er] at hlt ⊢
    have ew : IntKind.wrap .u64 ((D.s.ref id : Nat) : Int) = ((D.s.ref id : Nat) : Int) := wrap_u64' (by omega) (by omega)
    rw [ew]
    refine PtrOk_mk ⟨_, x14.m.p, hobject_ok x14.v x14.rp hrl ⟨_, _, _, _, rfl, ?_⟩⟩
    have eo : D.s.objF (D.s.ref id) = (((D.s.obj id).kind, (D.s.obj id).refs.length, (D.s.obj id).raws.length), 0) := by unfold RS.objF; rw [hid, if_neg h0]
    rw [eo]
    refine Cond_f rfl (Cond_f (decide_eq_false (by omega)) (Cond_f (decide_eq_false (by omega)) ⟨⟨by omega, hlt⟩, PtrOk_mk ?_⟩))
    rw [Int.toNat_natCast]
    refine ⟨_, img (RS.image_head x.v eid), by omega, by omega, ?_⟩
    have eh : IntKind.wrap .u64 (IntKind.wrap .u64 (IntKind.wrap .u64 (((D.s.obj id).kind : Nat) : Int) + IntKind.wrap .u64 (IntKind.wrap .u64 (((D.s.obj id).refs.length : Nat) : Int) * 2 ^ (min (8 : Int).toNat (IntKind.bits .u64)))) + IntKind.wrap .u64 (IntKind.wrap .u64 (((D.s.obj id).raws.length : Nat) : Int) * 2 ^ (min (32 : Int).toNat (IntKind.bits .u64)))) = ((hdw (D.s.obj id).kind (D.s.obj id).refs.length (D.s.obj id).raws.length : Nat) : Int) := by
      have e8 : (2 : Int) ^ (min (8 : Int).toNat (IntKind.bits .u64)) = 256 := rfl
      have e32 : (2 : Int) ^ (min (32 : Int).toNat (IntKind.bits .u64)) = 4294967296 := rfl
      rw [e8, e32, wrap_u64' (x := (((D.s.obj id).kind : Nat) : Int)) (by omega) (by omega), wrap_u64' (x := (((D.s.obj id).refs.length : Nat) : Int)) (by omega) (by omega), wrap_u64' (x := (((D.s.obj id).raws.length : Nat) : Int)) (by omega) (by omega),
        wrap_u64' (x := (((D.s.obj id).refs.length : Nat) : Int) * 256) (by omega) (by omega), wrap_u64' (x := (((D.s.obj id).raws.length : Nat) : Int) * 4294967296) (by omega) (by omega),
        wrap_u64' (x := (((D.s.obj id).kind : Nat) : Int) + _) (by omega) (by omega), wrap_u64' (by omega) (by omega)]
      unfold hdw
      omega
    refine Cond_f (by show (((hdw (D.s.obj id).kind (D.s.obj id).refs.length (D.s.obj id).raws.length : Nat) : Int) != IntKind.wrap .u64 (IntKind.wrap .u64 (IntKind.wrap .u64 (((D.s.obj id).kind : Nat) : Int) + IntKind.wrap .u64 (IntKind.wrap .u64 (((D.s.obj id).refs.length : Nat) : Int) * 2 ^ (min (8 : Int).toNat (IntKind.bits .u64)))) + IntKind.wrap .u64 (IntKind.wrap .u64 (((D.s.obj id).raws.length : Nat) : Int) * 2 ^ (min (32 : Int).toNat (IntKind.bits .u64))))) = false; rw [eh]; exact bne_self_eq_false _) ?_
    have e1 : IntKind.wrap .i64 (IntKind.wrap .i64 ((1 : Int) + (((D.s.obj id).refs.length : Nat) : Int)) + (((D.s.obj id).raws.length : Nat) : Int)) = ((D.s.size id : Nat) : Int) := by
      rw [wrap_i64' (x := (1 : Int) + _) (by omega) (by omega), wrap_i64' (by omega) (by omega)]; omega
    refine Cond_f (by show decide (IntKind.wrap .i64 (IntKind.wrap .i64 ((1 : Int) + (((D.s.obj id).refs.length : Nat) : Int)) + (((D.s.obj id).raws.length : Nat) : Int)) > (64 : Int)) = false; rw [e1]; exact decide_eq_false (by omega)) ?_
    have e2 : IntKind.wrap .i64 ((((D.s.obj id).refs.length : Nat) : Int) + (((D.s.obj id).raws.length : Nat) : Int)) = (((D.s.enc id).flds.length : Nat) : Int) := by
      rw [wrap_i64' (by omega) (by omega)]; omega
    refine f21L2_rule (fun q s0 s3 s4 s5 s7 s8 s10 h' => ∃ j : Nat, j ≤ (D.s.enc id).flds.length ∧ q = (D.s.enc id).flds.length - j ∧ s0 = some (ad sb) ∧ s3 = ad h3.size ∧ s4 = ⟨some (ad b), D.s.used, c'⟩ ∧ s5 = ((D.s.ref id : Nat) : Int) ∧ s7 = (((D.s.obj id).refs.length : Nat) : Int) ∧ s8 = (((D.s.obj id).raws.length : Nat) : Int) ∧ s10 = (j : Int) ∧ h' = h15) (D.s.enc id).flds.length
      ⟨0, Nat.zero_le _, rfl, rfl, rfl, rfl, rfl, rfl, rfl, rfl, rfl⟩ ?_
    rintro q s0 s3 s4 s5 s7 s8 s10 g2 h16 ⟨j, hj, rfl, rfl, rfl, rfl, rfl, rfl, rfl, rfl, rfl⟩
    unfold f21L2
    rw [e2]
    refine Cond_dec (fun hlt2 => ?_) fun hge2 => ?_
    · have hjl : j < (D.s.enc id).flds.length := by omega
      have e3 : IntKind.wrap .i64 (IntKind.wrap .i64 (((D.s.ref id : Nat) : Int) + (1 : Int)) + ((j : Nat) : Int)) = ((D.s.ref id + 1 + j : Nat) : Int) := by
        rw [wrap_i64' (x := ((D.s.ref id : Nat) : Int) + 1) (by omega) (by omega), wrap_i64' (by omega) (by omega)]; omega
      rw [ew, e3]
      obtain ⟨w, hw⟩ : ∃ w, (D.s.enc id).flds[j]? = some w := ⟨_, List.getElem?_eq_getElem hjl⟩
      have eg : D.s.getF (D.s.ref id) ((j : Nat) : Int) = (w, 0) := by
        unfold RS.getF
        rw [hid, if_neg h0, if_pos ⟨by omega, by omega⟩, Int.toNat_natCast, List.getD_eq_getElem?_getD, hw]
        rfl
      refine PtrOk_mk ⟨_, x14.m.p, hget_ok x14.v x14.rp hrl ⟨_, _, rfl, ?_⟩⟩
      rw [eg]
      refine Cond_f rfl (Cond_f (decide_eq_false (by show ¬ (((D.s.ref id + 1 + j : Nat) : Int) ≥ ((D.s.used : Nat) : Int)); omega)) ⟨⟨by omega, by show ((D.s.ref id + 1 + j : Nat) : Int) < ((D.s.used : Nat) : Int); omega⟩, PtrOk_mk ?_⟩)
      rw [Int.toNat_natCast]
      refine ⟨_, img ((RS.image_fld x.v eid hjl).trans hw), Cond_f (bne_self_eq_false _) (PtrOk_mk ⟨_, x14.m.p, ?_⟩)⟩
      have ew2 : IntKind.wrap .u64 ((D.s.ref id + 1 + j : Nat) : Int) = ((D.s.ref id + 1 + j : Nat) : Int) := wrap_u64' (by omega) (by omega)
      rw [ew2]
      have ei : D.s.objF (D.s.ref id + 1 + j) = ((0, 0, 0), 32) := by
        unfold RS.objF
        rw [Nat.add_assoc, RS.ident_inner x.v eid (by omega) (by omega), if_pos rfl]
      refine hobject_ok x14.v x14.rp (r := D.s.ref id + 1 + j) (by omega) ⟨_, _, _, _, rfl, ?_⟩
      rw [ei]
      exact Cond_f rfl ⟨(D.s.enc id).flds.length - (j + 1), by omega, j + 1, hjl, rfl, rfl, rfl, rfl, rfl, rfl, rfl, by rw [wrap_i64' (by omega) (by omega)]; rfl, rfl⟩
    · have es : 1 + D.s.sizes (D.s.small.take (i + 1)) = D.s.ref id + D.s.size id := by
        rw [RS.take_snoc eid, er]; unfold RS.sizes; simp; omega
      refine ⟨D.s.small.length - (i + 1), by omega, i + 1, hil, rfl, rfl, rfl, rfl, ?_, rfl⟩
      rw [es, wrap_i64' (x := ((D.s.ref id : Nat) : Int) + 1) (by omega) (by omega), wrap_i64' (x := ((D.s.ref id : Nat) : Int) + 1 + _) (by omega) (by omega), wrap_i64' (by omega) (by omega)]
      omega
  · have hge : ¬ ((1 + D.s.sizes (D.s.small.take i) : Nat) : Int) < ((D.s.used : Nat) : Int) := hge
    have hle := RS.sizes_take D.s D.s.small i
    have ee : 1 + D.s.sizes (D.s.small.take i) = D.s.used := by omega
    rw [ee]
    refine Cond_t (beq_self_eq_true _) ⟨_, cR0, _, (cR 1).trans rfl, _, (cR 2).trans rfl, _, (cR 3).trans rfl, _, (cR 4).trans rfl, _, (cR 5).trans rfl, _, (cR 6).trans rfl, _, (cR 7).trans rfl, _, (cR 8).trans rfl, ?_⟩
    exact blocks_ok x14 c ol fun h17 k17 => ⟨_, rfl, hR _ (k0.trans k17)⟩
theorem bound_ok {lim : Int} (hs : ReadsO h sl.a (ops.flatMap MvL.cells)) (hsn : sl.n = ops.length) (hok : ∀ o ∈ ops, o.Ok h) {R : Value → Hp → Prop} (hR : ∀ h', Kept N h h' → R (.bool true) h') :
    CallTo Try.prog 6 #[.agg #[.int .i64 lim, .slice sl.a sl.n sl.c]] h R := by
  refine f6F_ok ?_
  unfold f6F
  refine Let_mk fun h1 e1 => ?_
  have k1 : Kept N h h1 := e1 ▸ kept_push _ _ _
  have row1 : Row h1 h.size [.int .i64 lim, .slice sl.a sl.n sl.c] := e1 ▸ row_new h _ 24
  have enb : nb h = ad h.size := rfl
  rw [enb]
  refine wakes_ok fun h2 k2 => ⟨_, rfl, Cond_f rfl ?_⟩
  have row2 := kept_row k2 row1 id
  have k02 := k1.trans k2
  refine ⟨_, (cell_row row2 0).trans rfl, sl, by rw [add_ad]; exact (cell_row row2 1).trans rfl, small_ok (reads_keptN k02 hs) hsn fun h3 bl k3 hbl => ⟨_, rfl, ?_⟩⟩
  have row3 := kept_row k3 row2 id
  have k03 := k02.trans k3
  refine Cond_b (fun _ => hR h3 k03) fun hb => ?_
  have h200 : ops.length ≤ 200 := hbl (by cases bl with | true => rfl | false => cases hb)
  refine ⟨_, (cell_row row3 0).trans rfl, begins_ok2 ⟨_, _, rfl, Cond_t rfl (hR h3 k03)⟩ fun h4 sb D x4 c4 es el fo k4 => ⟨_, _, rfl, Cond_f rfl ?_⟩⟩
  have l4 : Lp h3 h4 sb D 0 := ⟨x4, c4, k4, fo, by rw [es]; exact Nat.le_refl _, by rw [es]; exact Nat.le_refl _⟩
  refine f6L1_rule (fun q s1 s3 s5 h' => ∃ (i : Nat) (D : ShD), i ≤ ops.length ∧ q = ops.length - i ∧ s1 = ad h.size ∧ s3 = some (ad sb) ∧ s5 = (i : Int) ∧ Lp h3 h' sb D i) ops.length ⟨0, D, Nat.zero_le _, rfl, rfl, rfl, rfl, l4⟩ ?_
  clear l4 c4 x4 es el fo
  rintro q s1 s3 s5 g h5 ⟨i, D, hi, rfl, rfl, rfl, rfl, l5⟩
  unfold f6L1
  have row5 := kept_row l5.kp row3 id
  have k05 := k03.trans l5.kp
  have hol := l5.ol
  have hrl := l5.rl
  have cS : cell h5 ((ad h.size).add 1) = some (.slice sl.a sl.n sl.c) := by rw [add_ad]; exact (cell_row row5 1).trans rfl
  refine ⟨sl, cS, Cond_dec (fun hlt => ?_) fun _ => ?_⟩
  · have hil : i < ops.length := by omega
    obtain ⟨o, eo⟩ : ∃ o, ops[i]? = some o := ⟨_, List.getElem?_eq_getElem hil⟩
    have ko := (hok o (List.mem_of_getElem? eo)).keep k05 fun _ _ _ => id
    obtain ⟨p, hp, rd0, rd⟩ := mv_read (reads_keptN k05 hs) eo
    have kf : ∀ p, o.d.a = some p → o.bytes ≠ [] → ¬ D.foot p.block := fun p hp hn e => by
      have h1 := (hok o (List.mem_of_getElem? eo)).old p hp hn
      have h2 := l5.nw _ e
      have h3 := k03.1
      omega
    refine ⟨sl, cS, ⟨by omega, hlt⟩, PtrOk_of hp ?_⟩
    rw [Int.toNat_natCast]
    refine ⟨_, rd0, _, rd 1 _ rfl, _, rd 2 _ rfl, _, rd 3 _ rfl, _, rd 4 _ rfl, _, rd 5 _ rfl, _, rd 6 _ rfl, o.d, rd 7 _ rfl, ?_⟩
    refine step_ok l5.x l5.c ko kf (by omega) (by omega) fun h6 D6 x6 c6 s6 _ a6 b6 sp => ⟨_, rfl, Cond_f rfl ?_⟩
    have l6 := l5.step x6 c6 s6 a6 b6
    refine bounded_ok x6 c6 (by have := l6.ol; omega) fun h7 k7 => ⟨_, rfl, ?_⟩
    show f6K1 _ _ _ _ _ false _ _
    unfold f6K1
    exact Cond_f rfl ⟨ops.length - (i + 1), by omega, i + 1, D6, hil, rfl, rfl, rfl, by rw [wrap_i64' (by omega) (by omega)]; rfl, l6.keepN k7⟩
  · exact bounded_ok l5.x l5.c (by omega) fun h7 k7 => ⟨_, rfl, hR h7 (k05.trans k7)⟩
end
end Go.Ev
