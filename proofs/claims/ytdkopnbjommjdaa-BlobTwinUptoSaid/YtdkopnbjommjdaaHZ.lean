/- Stats: as the document's heap. No condition but that the heap is one. -/
import Derived.Test.YtdkopnbjommjdaaHY
set_option linter.all false
set_option maxRecDepth 100000
namespace Go.Ev
open Go.Proofs
def zi : Value := .int .i64 0
theorem filter_take {α : Type} (p : α → Bool) {l : List α} {i : Nat} {x : α} (h : l[i]? = some x) : ((l.take (i + 1)).filter p).length = ((l.take i).filter p).length + (if p x = true then 1 else 0) := by
  rw [RS.take_snoc h, List.filter_append, List.length_append]
  cases hp : p x <;> simp [hp]
/-- The heap, and two new blocks behind all that was. -/
structure StW (h : Hp) (hb : Nat) (role : Nat → Role) (m : MH) (G : Geo) (A B : List Value) (h' : Hp) : Prop where
  rp : HRep h' hb role m G
  ra : Row h' h.size A
  rb : Row h' (h.size + 1) B
  kp : Kept N h h'
section
variable {h : Hp} {hb : Nat} {role : Nat → Role} {m : MH} {G : Geo} {s : RS} {sp : List AObj} {A B : List Value} {h' : Hp}
theorem kept_news {a b : Hp} {n : Nat} (k : Kept N h a) (x : Kept (fun b => b = n) a b) (hn : h.size ≤ n) : Kept N h b :=
  ⟨Nat.le_trans k.1 x.1, fun i hi _ => (x.2 i (Nat.lt_of_lt_of_le hi k.1) (by omega)).trans (k.2 i hi id)⟩
theorem StW.stB (w : StW h hb role m G A B h') (fr : ∀ b, h.size ≤ b → role b = .out) {a : Addr} {i : Nat} {v : Value} (ha : a = ⟨h.size + 1, i, none⟩) (hi : i < B.length) {K : Hp → Prop} (hK : ∀ h'', StW h hb role m G A (B.set i v) h'' → K h'') :
    Go.Ev.stOk h' a ∧ Let (setc h' a v) fun h'' => K h'' :=
  row_st w.rb ha hi fun h'' r k => hK h'' ⟨w.rp.keep k fun b (e : b = h.size + 1) => fr b (by omega), kept_row k w.ra (fun e : h.size = h.size + 1 => by omega), r, kept_news w.kp k (by omega)⟩
theorem StW.stA (w : StW h hb role m G A B h') (fr : ∀ b, h.size ≤ b → role b = .out) {a : Addr} {i : Nat} {v : Value} (ha : a = ⟨h.size, i, none⟩) (hi : i < A.length) {K : Hp → Prop} (hK : ∀ h'', StW h hb role m G (A.set i v) B h'' → K h'') :
    Go.Ev.stOk h' a ∧ Let (setc h' a v) fun h'' => K h'' :=
  row_st w.ra ha hi fun h'' r k => hK h'' ⟨w.rp.keep k fun b (e : b = h.size) => fr b (by omega), r, kept_row k w.rb (fun e : h.size + 1 = h.size => by omega), kept_news w.kp k (by omega)⟩
def slotsAt (s : RS) (i : Nat) : Nat := ((s.slots.take i).filter fun x => decide (x ≠ 0)).length
theorem hstats_ok (v : s.Inv) (rp : HRep h hb role (s.words sp) G) {R : Value → Hp → Prop} (hR : ∀ h', Kept N h h' → R (.agg (s.stats.map fun x => Value.int .i64 x).toArray) h') : CallTo Try.prog 25 #[.pointer (some (ad hb))] h R := by
  have i2 := v.h2; have i4 := v.l2; have i6 := v.h1; have i7 := v.u2; have i5 := v.sll
  have fr := rp.fresh
  refine f25F_ok ?_
  unfold f25F
  refine Let_mk fun h1 e1 => PtrOk_mk ?_
  have k1 : Kept N h h1 := e1 ▸ kept_push _ _ _
  have rp1 := rp.keep k1 fun _ e => e.elim
  have z1 : h1.size = h.size + 1 := by rw [e1]; simp
  have rowA1 : Row h1 h.size [zi, zi, zi, zi, zi, zi, zi, zi, zi] := e1 ▸ row_new h #[zi, zi, zi, zi, zi, zi, zi, zi, zi] 67
  refine ⟨_, (rp1.c 10).trans rfl, _, (by rw [add_hd]; exact (cell_row rp1.row 11).trans rfl), _, (by rw [add_hd]; exact (cell_row rp1.row 12).trans rfl), _, (by rw [add_hd]; exact (cell_row rp1.row 13).trans rfl), _, (by rw [add_hd]; exact (cell_row rp1.row 14).trans rfl), _, (by rw [add_hd]; exact (cell_row rp1.row 15).trans rfl), _, (by rw [add_hd]; exact (cell_row rp1.row 16).trans rfl), _, (by rw [add_hd]; exact (cell_row rp1.row 17).trans rfl), _, (by rw [add_hd]; exact (cell_row rp1.row 18).trans rfl), Let_mk fun h2 e2 => ?_⟩
  have k2 : Kept N h1 h2 := e2 ▸ kept_push _ _ _
  have rowB2 : Row h2 (h.size + 1) [zi, zi, zi, zi, zi, zi, zi, zi, zi] := by
    have := row_new h1 #[zi, zi, zi, zi, zi, zi, zi, zi, zi] 67
    rw [z1] at this
    exact e2 ▸ this
  have w2 : StW h hb role (s.words sp) G _ _ h2 := ⟨rp1.keep k2 fun _ e => e.elim, kept_row k2 rowA1 id, rowB2, k1.trans k2⟩
  have enb : nb h1 = ad (h.size + 1) := by unfold nb ad; rw [z1]
  have enb0 : nb h = ad h.size := rfl
  rw [enb]
  refine w2.stB fr (i := 0) (rfl) (by show 0 < 9; omega) fun h3 w3 => ?_
  refine w3.stB fr (i := 1) (add_ad _ _) (by show 1 < 9; omega) fun h4 w4 => ?_
  refine w4.stB fr (i := 2) (add_ad _ _) (by show 2 < 9; omega) fun h5 w5 => ?_
  refine w5.stB fr (i := 3) (add_ad _ _) (by show 3 < 9; omega) fun h6 w6 => ?_
  refine w6.stB fr (i := 4) (add_ad _ _) (by show 4 < 9; omega) fun h7 w7 => ?_
  refine w7.stB fr (i := 5) (add_ad _ _) (by show 5 < 9; omega) fun h8 w8 => ?_
  refine w8.stB fr (i := 6) (add_ad _ _) (by show 6 < 9; omega) fun h9 w9 => ?_
  refine w9.stB fr (i := 7) (add_ad _ _) (by show 7 < 9; omega) fun h10 w10 => ?_
  refine w10.stB fr (i := 8) (add_ad _ _) (by show 8 < 9; omega) fun h11 w11 => ?_
  refine PtrOk_mk ⟨_, w11.rp.c0, ?_⟩
  refine w11.stB fr (i := 0) (rfl) (by show 0 < 9; omega) fun h12 w12 => ?_
  have cp12 : cell h12 ((ad hb).add 1) = some (.pointer (some (ad G.Lh.pb))) := (w12.rp.c 1).trans rfl
  obtain ⟨wc12, fc12, fs12, ra12⟩ := w12.rp.half
  refine PtrOk_mk ⟨_, cp12, asize_ok ra12 ⟨_, rfl, ?_⟩⟩
  refine w12.stB fr (i := 1) (add_ad _ _) (by show 1 < 9; omega) fun h13 w13 => ?_
  have cp13 : cell h13 ((ad hb).add 1) = some (.pointer (some (ad G.Lh.pb))) := (w13.rp.c 1).trans rfl
  obtain ⟨wc13, fc13, fs13, ra13⟩ := w13.rp.half
  refine PtrOk_mk ⟨_, cp13, aused_ok ra13 ⟨_, rfl, ?_⟩⟩
  rw [RS.used_words v sp]
  refine w13.stB fr (i := 2) (add_ad _ _) (by show 2 < 9; omega) fun h14 w14 => ?_
  have cq14 : cell h14 ((ad hb).add 6) = some (.int .i64 (s.large : Nat)) := (w14.rp.c 6).trans rfl
  refine PtrOk_mk ⟨_, cq14, ?_⟩
  refine w14.stB fr (i := 3) (add_ad _ _) (by show 3 < 9; omega) fun h15 w15 => ?_
  have c3 : cell h15 ((ad hb).add 3) = some (.slice G.bs.a G.bs.n G.bs.c) := (w15.rp.c 3).trans rfl
  have hbn := w15.rp.bs_n
  have hbn : G.bs.n = (s.slots.map fun id => if id = 0 then none else some (s.enc id)).length := hbn
  rw [List.length_map] at hbn
  have hll := w15.rp.ll
  have hll : G.locs.length = (s.slots.map fun id => if id = 0 then none else some (s.enc id)).length := hll
  rw [List.length_map] at hll
  refine PtrOk_mk ⟨G.bs, c3, ?_⟩
  rw [hbn]
  refine f25L1_rule (fun q s0 s2 s3 s35 s36 h' => ∃ i : Nat, i ≤ s.slots.length ∧ q = s.slots.length - i ∧ s0 = some (ad hb) ∧ s2 = ad h.size ∧ s3 = ad (h.size + 1) ∧ s35 = ((s.slots.length : Nat) : Int) ∧ s36 = (i : Int) ∧
    StW h hb role (s.words sp) G [zi, zi, zi, zi, zi, zi, zi, zi, zi] [nv s.limit, nv s.half, nv s.used, nv s.large, nv (slotsAt s i), nv s.rootsN, .int .i64 s.coll, .int .i64 s.resz, nv s.moved] h') s.slots.length
    ⟨0, Nat.zero_le _, rfl, rfl, rfl, rfl, rfl, rfl, w15⟩ ?_
  rintro q s0 s2 s3 s35 s36 g hc ⟨i, hi, rfl, rfl, rfl, rfl, rfl, rfl, wc⟩
  unfold f25L1
  refine Cond_dec (fun hlt => ?_) fun hge => ?_
  · have hlt : i < s.slots.length := by omega
    obtain ⟨x, hx⟩ : ∃ x, s.slots[i]? = some x := ⟨_, List.getElem?_eq_getElem hlt⟩
    have cb : (0 : Int) ≤ (i : Int) ∧ (i : Int) < ((G.bs.n : Nat) : Int) := by omega
    have hL : G.locs[i]? = some G.locs[i] := List.getElem?_eq_getElem (by omega)
    obtain ⟨bb, hba, hbc⟩ := wc.rp.slot_at hL
    have hm : (s.slots.map fun id => if id = 0 then none else some (s.enc id))[i]? = some (if x = 0 then none else some (s.enc x)) := by rw [List.getElem?_map, hx]; rfl
    have hbk := wc.rp.bl i _ _ hm hL
    generalize hLk : G.locs[i] = Lk at hL hbc hbk
    have c3c : cell hc ((ad hb).add 3) = some (.slice G.bs.a G.bs.n G.bs.c) := (wc.rp.c 3).trans rfl
    have hwr : IntKind.wrap .i64 ((i : Int) + 1) = ((i + 1 : Nat) : Int) := by rw [wrap_ar (by omega) (by omega)]; rfl
    have hft := filter_take (fun x => decide (x ≠ 0)) hx
    have hsl : slotsAt s i ≤ s.slots.length := Nat.le_trans (List.length_filter_le _ _) (by rw [List.length_take]; omega)
    have hft : slotsAt s (i + 1) = slotsAt s i + (if decide (x ≠ 0) = true then 1 else 0) := hft
    by_cases hx0 : x = 0
    · subst hx0
      rw [if_pos rfl] at hbk
      cases Lk with
      | some L => exact hbk.elim
      | none =>
        refine PtrOk_mk ⟨G.bs, c3c, cb, PtrOk_of hba ⟨none, by rw [Int.toNat_natCast]; exact hbc, Cond_f rfl ?_⟩⟩
        unfold f25K1
        refine ⟨s.slots.length - (i + 1), by omega, i + 1, hlt, rfl, rfl, rfl, rfl, rfl, hwr, ?_⟩
        rw [hft]; exact wc
    · rw [if_neg hx0] at hbk
      cases Lk with
      | none => exact hbk.elim
      | some L =>
        refine PtrOk_mk ⟨G.bs, c3c, cb, PtrOk_of hba ⟨some (ad L.pb), by rw [Int.toNat_natCast]; exact hbc, Cond_t rfl ⟨_, by rw [add_ad]; exact (cell_row wc.rb 4).trans rfl, ?_⟩⟩⟩
        rw [wrap_ar (x := ((slotsAt s i : Nat) : Int) + 1) (by omega) (by omega)]
        refine wc.stB fr (i := 4) (add_ad _ _) (by show 4 < 9; omega) fun hd wd => ?_
        unfold f25K1
        refine ⟨s.slots.length - (i + 1), by omega, i + 1, hlt, rfl, rfl, rfl, rfl, rfl, hwr, ?_⟩
        have e4 : nv (slotsAt s (i + 1)) = .int .i64 (((slotsAt s i : Nat) : Int) + 1) := by
          rw [hft, if_pos (by simp [hx0])]
          rfl
        rw [e4]
        exact wd
  · have : i = s.slots.length := by omega
    subst this
    have hfin : slotsAt s s.slots.length = s.slotsN := by unfold slotsAt RS.slotsN; rw [List.take_length]
    rw [hfin] at wc
    refine ⟨_, (cell_row wc.rb 0).trans rfl, _, (by rw [add_ad]; exact (cell_row wc.rb 1).trans rfl), _, (by rw [add_ad]; exact (cell_row wc.rb 2).trans rfl), _, (by rw [add_ad]; exact (cell_row wc.rb 3).trans rfl), _, (by rw [add_ad]; exact (cell_row wc.rb 4).trans rfl), _, (by rw [add_ad]; exact (cell_row wc.rb 5).trans rfl), _, (by rw [add_ad]; exact (cell_row wc.rb 6).trans rfl), _, (by rw [add_ad]; exact (cell_row wc.rb 7).trans rfl), _, (by rw [add_ad]; exact (cell_row wc.rb 8).trans rfl), ?_⟩
    refine wc.stA fr (i := 0) (rfl) (by show 0 < 9; omega) fun g0 v0 => ?_
    refine v0.stA fr (i := 1) (add_ad _ _) (by show 1 < 9; omega) fun g1 v1 => ?_
    refine v1.stA fr (i := 2) (add_ad _ _) (by show 2 < 9; omega) fun g2 v2 => ?_
    refine v2.stA fr (i := 3) (add_ad _ _) (by show 3 < 9; omega) fun g3 v3 => ?_
    refine v3.stA fr (i := 4) (add_ad _ _) (by show 4 < 9; omega) fun g4 v4 => ?_
    refine v4.stA fr (i := 5) (add_ad _ _) (by show 5 < 9; omega) fun g5 v5 => ?_
    refine v5.stA fr (i := 6) (add_ad _ _) (by show 6 < 9; omega) fun g6 v6 => ?_
    refine v6.stA fr (i := 7) (add_ad _ _) (by show 7 < 9; omega) fun g7 v7 => ?_
    refine v7.stA fr (i := 8) (add_ad _ _) (by show 8 < 9; omega) fun g8 v8 => ?_
    refine ⟨_, (cell_row v8.ra 0).trans rfl, _, (by rw [add_ad]; exact (cell_row v8.ra 1).trans rfl), _, (by rw [add_ad]; exact (cell_row v8.ra 2).trans rfl), _, (by rw [add_ad]; exact (cell_row v8.ra 3).trans rfl), _, (by rw [add_ad]; exact (cell_row v8.ra 4).trans rfl), _, (by rw [add_ad]; exact (cell_row v8.ra 5).trans rfl), _, (by rw [add_ad]; exact (cell_row v8.ra 6).trans rfl), _, (by rw [add_ad]; exact (cell_row v8.ra 7).trans rfl), _, (by rw [add_ad]; exact (cell_row v8.ra 8).trans rfl), ?_⟩
    exact hR _ v8.kp
end
end Go.Ev
