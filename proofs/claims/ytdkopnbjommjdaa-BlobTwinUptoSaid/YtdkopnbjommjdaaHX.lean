/- Alloc: as the document's heap. No condition but that the heap is one. -/
import Derived.Test.YtdkopnbjommjdaaHW
set_option linter.all false
set_option maxRecDepth 100000
namespace Go.Ev
open Go.Proofs
namespace RS
section
variable {s : RS}
theorem addSmall_words (v : s.Inv) (k r w : Nat) (sp : List AObj) : (s.addSmall k r w).words sp = { s.words sp with half := s.small.map s.enc ++ [newO k r w] } := by
  have e : (s.addSmall k r w).objs = s.objs ++ [mkO k r w false s.used] := rfl
  unfold words
  simp only [MH.mk.injEq]
  refine ⟨rfl, rfl, ?_, rfl, trivial, ?_, rfl, trivial, rfl, rfl, rfl, app_rootW v e, rfl, rfl, rfl, rfl⟩
  · show (s.small ++ [s.objs.length]).map _ = _
    rw [List.map_append, List.map_congr_left fun x hx => app_enc v e (.inl hx)]
    show _ ++ [_] = _
    rw [app_encNew e]
  · show s.slots.map _ = _
    refine List.map_congr_left fun x hx => ?_
    by_cases h0 : x = 0
    · rw [if_pos h0, if_pos h0]
    · rw [if_neg h0, if_neg h0, app_enc v e (.inr ⟨h0, hx⟩)]
theorem addBig_words (v : s.Inv) (k r w : Nat) (sp : List AObj) : (s.addBig k r w).words sp = { s.words sp with
    blocks := (if freeSlot s.slots < s.slots.length then (s.words sp).blocks.set (freeSlot s.slots) (some (newO k r w)) else (s.words sp).blocks ++ [some (newO k r w)])
    reached := (if freeSlot s.slots < s.slots.length then (s.words sp).reached else (s.words sp).reached ++ [false])
    large := s.large + (2 + r + w)
    since := s.since + (2 + r + w) } := by
  have e : (s.addBig k r w).objs = s.objs ++ [mkO k r w true (freeSlot s.slots)] := rfl
  have hob := v.ob
  have eo : (s.slots.map fun x => if x = 0 then none else some ((s.addBig k r w).enc x)) = s.slots.map fun x => if x = 0 then none else some (s.enc x) := by
    refine List.map_congr_left fun x hx => ?_
    by_cases h0 : x = 0
    · rw [if_pos h0, if_pos h0]
    · rw [if_neg h0, if_neg h0, app_enc v e (.inr ⟨h0, hx⟩)]
  have en : (if s.objs.length = 0 then none else some ((s.addBig k r w).enc s.objs.length)) = some (newO k r w) := by rw [if_neg (by omega), app_encNew e]
  unfold words
  simp only [MH.mk.injEq]
  refine ⟨rfl, rfl, ?_, rfl, trivial, ?_, ?_, trivial, rfl, rfl, rfl, app_rootW v e, rfl, rfl, rfl, rfl⟩
  · show s.small.map _ = _
    exact List.map_congr_left fun x hx => app_enc v e (.inl hx)
  · rw [addBig_slots]
    split
    · rw [List.map_set, eo, en]
    · rw [List.map_append, eo]
      show _ ++ [(if s.objs.length = 0 then none else some ((s.addBig k r w).enc s.objs.length))] = _
      rw [en]
  · rw [addBig_slots]
    split
    · apply List.ext_getElem?
      intro i
      rw [List.getElem?_map, List.getElem?_map]
      by_cases hi : i < s.slots.length
      · rw [List.getElem?_eq_getElem (by rw [List.length_set]; exact hi), List.getElem?_eq_getElem hi]; rfl
      · rw [List.getElem?_eq_none (by rw [List.length_set]; omega), List.getElem?_eq_none (by omega)]
    · rw [List.map_append]; rfl
end
end RS
section
variable {h : Hp} {hb : Nat} {role : Nat → Role} {m : MH} {G : Geo} {s : RS} {sp : List AObj}
/-- The large object's block, and its slot. -/
theorem begin_tail (v : s.Inv) (rp : HRep h hb role (s.words sp) G) {k r w : Nat} (h1 : 1 ≤ k) (h2 : k ≤ 255) (h3 : r ≤ 1048576) (h4 : w ≤ 1048576) (h5 : 64 < 1 + r + w) (h6 : 2 * s.half + s.large + (2 + r + w) ≤ s.limit) {R : Value → Hp → Prop}
    (hR : ∀ h' role' G', HRep h' hb role' ((s.addBig k r w).words sp) G' → ExtO h role h' role' → R (.tuple #[uv (top + RS.freeSlot s.slots), .int .i64 0]) h') :
    CallTo Try.prog 26 #[.int .i64 (2 + r + w : Nat)] h fun r' h8 => ∃ t130_0 : Option Addr, ∃ t130_1 : Int, r' = .tuple #[.pointer t130_0, .int .i64 t130_1] ∧ CallTo Try.prog 56 #[.pointer t130_0, .int .i64 (k : Nat), .int .i64 (r : Nat), .int .i64 (w : Nat)] h8 fun r' h9 => ∃ t137_0 : Int, ∃ t137_1 : Int, r' = .tuple #[.int .i64 t137_0, .int .i64 t137_1] ∧ PtrOk (some (ad hb)) fun p139 => ∃ t141 : Int, cell h9 (p139.add 6) = some (.int .i64 t141) ∧ PtrOk (some (ad hb)) fun p144 => stOk h9 (p144.add 6) ∧ Let (setc h9 (p144.add 6) (.int .i64 (IntKind.wrap .i64 (t141 + (2 + r + w : Nat))))) fun h10 => PtrOk (some (ad hb)) fun p147 => ∃ t149 : Int, cell h10 (p147.add 7) = some (.int .i64 t149) ∧ PtrOk (some (ad hb)) fun p152 => stOk h10 (p152.add 7) ∧ Let (setc h10 (p152.add 7) (.int .i64 (IntKind.wrap .i64 (t149 + (2 + r + w : Nat))))) fun h11 => PtrOk (some (ad hb)) fun p155 => ∃ t157 : Sl, cell h11 (p155.add 3) = some (.slice t157.a t157.n t157.c) ∧ LoopEv (evC Try.prog tab lv53 (sub [1, 1, 1, 1, 1, 1, 1, 1, 1, 0, 1, 0, 0] body53)) (contAt Try.prog tab lv53 [1, 1, 1, 1, 1, 1, 1, 1, 1, 0, 1, 0] body53 [] (bodyK Try.prog Try.f53 [] R)) [(0, .pointer (some (ad hb))), (14, .pointer t130_0), (158, .int .i64 (((t157.n : Nat) : Int))), (159, .int .i64 0)] 208 h11 := by
  have i2 := v.h2; have i4 := v.l2; have i5 := v.sll; have i6 := v.h1; have i7 := v.u2
  have ht : top = 9223372036854775808 := rfl
  have hsn := v.sn
  refine anew_ok (fun hbad => absurd ⟨by omega, by omega⟩ hbad) fun L1 ha _ a1 f1 k1 => ⟨_, _, rfl, ?_⟩
  rw [Int.toNat_natCast] at a1
  obtain ⟨wc, fc, fs, ra⟩ := a1
  have hsh : Shape (k : Nat) (r : Nat) (w : Nat) := ⟨⟨by omega, by omega⟩, ⟨by omega, by omega⟩, by omega, by omega⟩
  have hu0 : Go.Ev.used ([] : List AObj) = 1 := used_nil
  refine aalloc_ok ra (fun hbad => absurd hsh hbad) (fun _ hf => by rw [hu0] at hf; omega) fun hc L2 _ _ a2 g2 => ⟨_, _, rfl, PtrOk_mk ?_⟩
  rw [Int.toNat_natCast, Int.toNat_natCast, Int.toNat_natCast, List.nil_append] at a2
  have hnsz : (newO k r w).size + 1 = 2 + r + w := by rw [newO_size]; omega
  rw [← hnsz] at a2
  have kc : Kept (fun b => L1.fp b) h hc := (k1.mono fun _ _ e => e.elim).trans g2.kept
  have hfr : ∀ b, L2.fp b → h.size ≤ b := fun b hb' => by
    rcases g2.fp b hb' with h | h
    · exact f1 b h
    · have := k1.1; omega
  have hlt : ∀ b, L2.fp b → b < hc.size := a2.lt
  have rp1 : HRep hc hb role (s.words sp) G := rp.keep kc fun b hb' => rp.fresh b (f1 b hb')
  have x1 : ExtO h role hc role := ⟨kc.1, fun b hb' ho => ⟨ho, kc.2 b hb' fun e => by have := f1 b e; omega⟩⟩
  have hro : ∀ b, L2.fp b → role b = .out := fun b hb' => rp.fresh b (hfr b hb')
  have c6 : cell hc ((ad hb).add 6) = some (.int .i64 (s.large : Nat)) := (rp1.c 6).trans rfl
  refine ⟨_, c6, PtrOk_mk ?_⟩
  have ev6 : IntKind.wrap .i64 (((s.large : Nat) : Int) + ((2 + r + w : Nat) : Int)) = ((s.large + (2 + r + w) : Nat) : Int) := by rw [wrap_ar (by omega) (by omega)]; omega
  rw [ev6]
  refine rp1.num (i := 6) (m' := { s.words sp with large := s.large + (2 + r + w) }) (add_ad _ _) (by omega) rfl rfl rfl rfl rfl rfl rfl rfl rfl fun hd rp3 x3 => PtrOk_mk ?_
  have c7 : cell hd ((ad hb).add 7) = some (.int .i64 (s.since : Nat)) := (rp3.c 7).trans rfl
  refine ⟨_, c7, PtrOk_mk ?_⟩
  have ev7 : IntKind.wrap .i64 (((s.since : Nat) : Int) + ((2 + r + w : Nat) : Int)) = ((s.since + (2 + r + w) : Nat) : Int) := by rw [wrap_ar (by omega) (by omega)]; omega
  rw [ev7]
  refine rp3.num (i := 7) (m' := { s.words sp with large := s.large + (2 + r + w), since := s.since + (2 + r + w) }) (add_ad _ _) (by omega) rfl rfl rfl rfl rfl rfl rfl rfl rfl fun he rp4 x4 => PtrOk_mk ?_
  have kof : ∀ {a b : Hp}, Ext a role b role → Kept (fun b => role b ≠ .out) a b := fun x => ⟨x.1, fun b hb' hn => x.2.2 b hb' (by
    cases hx : role b <;> first | rfl | exact absurd (show role b ≠ .out by rw [hx]; nofun) hn)⟩
  have a4 : Ar he L2 ((newO k r w).size + 1) [newO k r w] := a2.keep (kof (x3.trans x4)) fun b hb' hn => hn (hro b hb')
  have hlt4 : ∀ b, L2.fp b → b < he.size := a4.lt
  have rp5 := rp4.rerole (P := L2.fp) (.slot (RS.freeSlot s.slots)) fun b hb' => ⟨hro b hb', hlt4 b hb'⟩
  have x5 := ((x1.trans x3.o).trans x4.o).rerole (P := L2.fp) (.slot (RS.freeSlot s.slots)) hfr
  have hLr : ∀ b, L2.fp b → reR role L2.fp (.slot (RS.freeSlot s.slots)) b = .slot (RS.freeSlot s.slots) := fun b hb' => reR_in hb'
  have c3 : cell he ((ad hb).add 3) = some (.slice G.bs.a G.bs.n G.bs.c) := (rp5.c 3).trans rfl
  have hbn := rp5.bs_n
  have hbn : G.bs.n = (s.slots.map fun id => if id = 0 then none else some (s.enc id)).length := hbn
  rw [List.length_map] at hbn
  have hll := rp5.ll
  have hll : G.locs.length = (s.slots.map fun id => if id = 0 then none else some (s.enc id)).length := hll
  rw [List.length_map] at hll
  have hwords := RS.addBig_words v k r w sp
  refine ⟨G.bs, c3, ?_⟩
  rw [hbn]
  refine f53L1_rule (fun q s0 s14 s158 s159 h' => ∃ i : Nat, i ≤ s.slots.length ∧ q = s.slots.length - i ∧ s0 = some (ad hb) ∧ s14 = some (ad L2.pb) ∧ s158 = ((s.slots.length : Nat) : Int) ∧ s159 = (i : Int) ∧ h' = he ∧ ∀ j, j < i → ∃ x, s.slots[j]? = some x ∧ x ≠ 0) s.slots.length
    ⟨0, Nat.zero_le _, rfl, rfl, by rw [g2.pb], rfl, rfl, rfl, fun j hj => absurd hj (Nat.not_lt_zero _)⟩ ?_
  rintro q s0 s14 s158 s159 g h' ⟨i, hi, rfl, rfl, rfl, rfl, rfl, rfl, hall⟩
  unfold f53L1
  have hora : ∀ n : Nat, n < 9223372036854775808 → orI .u64 (9223372036854775808 : Int) (IntKind.wrap .u64 (n : Int)) = ((top + n : Nat) : Int) := fun n hn => by
    rw [wrap_u64' (by omega) (by omega), orI_gone (by omega) (by omega)]; omega
  refine Cond_dec (fun hlt' => ?_) fun hge => ?_
  · have hlt' : i < s.slots.length := by omega
    obtain ⟨x, hx⟩ : ∃ x, s.slots[i]? = some x := ⟨_, List.getElem?_eq_getElem hlt'⟩
    have cb : (0 : Int) ≤ (i : Int) ∧ (i : Int) < ((G.bs.n : Nat) : Int) := by omega
    have hL : G.locs[i]? = some G.locs[i] := List.getElem?_eq_getElem (by omega)
    obtain ⟨bb, hba, hbc⟩ := rp5.slot_at hL
    have hm : (s.slots.map fun id => if id = 0 then none else some (s.enc id))[i]? = some (if x = 0 then none else some (s.enc x)) := by rw [List.getElem?_map, hx]; rfl
    have hbk := rp5.bl i _ _ hm hL
    generalize hLk : G.locs[i] = Lk at hL hbc hbk
    by_cases hx0 : x = 0
    · subst hx0
      rw [if_pos rfl] at hbk
      cases Lk with
      | some L => exact hbk.elim
      | none =>
        have hf : RS.freeSlot s.slots = i := RS.freeSlot_eq _ _ hall (.inl hx)
        rw [hf] at hR hwords hLr rp5 x5
        rw [if_pos hlt', if_pos hlt'] at hwords
        obtain ⟨b2, hb2, st, rp6, x6⟩ := rp5.putSlot (i := i) (by show i < (s.slots.map _).length; rw [List.length_map]; exact hlt') a4 hLr
        rw [hba] at hb2
        obtain rfl : bb = b2 := by simpa [ad] using hb2
        refine PtrOk_mk ⟨G.bs, c3, cb, PtrOk_of hba ⟨none, by rw [Int.toNat_natCast]; exact hbc, Cond_t rfl (PtrOk_mk ⟨G.bs, c3, cb, PtrOk_of hba ?_⟩)⟩⟩
        rw [Int.toNat_natCast]
        refine ⟨st, ?_⟩
        rw [hora i (by omega)]
        refine hR _ _ { G with locs := G.locs.set i (some L2) } ?_ (x5.trans x6.o)
        rw [hwords]
        exact rp6
    · rw [if_neg hx0] at hbk
      cases Lk with
      | none => exact hbk.elim
      | some L =>
        have hwr : IntKind.wrap .i64 ((i : Int) + 1) = ((i + 1 : Nat) : Int) := by rw [wrap_ar (by omega) (by omega)]; rfl
        refine PtrOk_mk ⟨G.bs, c3, cb, PtrOk_of hba ⟨some (ad L.pb), by rw [Int.toNat_natCast]; exact hbc, Cond_f rfl ⟨s.slots.length - (i + 1), by omega, i + 1, hlt', rfl, rfl, rfl, rfl, hwr, rfl, fun j hj => ?_⟩⟩⟩
        rcases Nat.lt_or_ge j i with hji | hji
        · exact hall j hji
        · obtain rfl : j = i := by omega
          exact ⟨x, hx, hx0⟩
  · have hie : i = s.slots.length := by omega
    have hf : RS.freeSlot s.slots = i := RS.freeSlot_eq _ _ hall (.inr hie)
    rw [hf] at hR hwords hLr rp5 x5
    rw [if_neg (by omega), if_neg (by omega)] at hwords
    have hml : (s.slots.map fun id => if id = 0 then none else some (s.enc id)).length = i := by rw [List.length_map]; exact hie.symm
    refine PtrOk_mk ⟨G.bs, c3, ?_⟩
    refine rp5.addSlot a4 (fun b hb' => (hLr b hb').trans (congrArg Role.slot hml.symm)) (by show (s.slots.map _).length ≤ _; rw [List.length_map]; omega) fun h6 role6 G6 rp6 x6 => ?_
    have c4 : cell h6 ((ad hb).add 4) = some (.slice G6.rs.a G6.rs.n G6.rs.c) := (rp6.c 4).trans rfl
    refine PtrOk_mk ⟨G6.rs, c4, ?_⟩
    refine rp6.addReach (by show (s.slots.map _).length ≤ _; rw [List.length_map]; omega) fun h7 role7 G7 rp7 e7 x7 => ?_
    have hbn6 := rp7.bs_n
    have hbn6 : G7.bs.n = ((s.slots.map fun id => if id = 0 then none else some (s.enc id)) ++ [some (newO k r w)]).length := hbn6
    rw [List.length_append, hml] at hbn6
    have c37 : cell h7 ((ad hb).add 3) = some (.slice G7.bs.a G7.bs.n G7.bs.c) := (rp7.c 3).trans rfl
    refine PtrOk_mk ⟨G7.bs, c37, ?_⟩
    have hbn6 : G7.bs.n = i + 1 := hbn6
    have ev : IntKind.wrap .i64 (((G7.bs.n : Nat) : Int) - (1 : Int)) = (i : Int) := by rw [hbn6, wrap_ar (by omega) (by omega)]; omega
    rw [ev, hora i (by omega)]
    refine hR h7 role7 G7 ?_ ((x5.trans x6.o).trans x7.o)
    rw [hwords]
    exact rp7
end
end Go.Ev
