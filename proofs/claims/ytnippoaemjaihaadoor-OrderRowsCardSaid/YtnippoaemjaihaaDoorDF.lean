/-
  OrderRows: the row and its tied card. What is proved: the call returns true, for every input (there is none), where the package variable of the commands' rows reads as the program's text lays it; the card ties that to the text.
  Conditions: the row's own cell 'laid', which the card pays.
-/
import Derived.Test.YtnippoaemjaihaaDoorDM
import Derived.Test.YtnippoaemjaihaaDoorRows
import Derived.Test.YtnippoaemjaihaaDoorTie
import Derived.Test.YtnippoaemjaihaaDoorCards
import Derived.ProofKit
import Derived.LaidMore
import Derived.OpenShut
import Derived.Stop.Joined
import Derived.SevenTiedAt
set_option maxRecDepth 100000
namespace Go.Proofs.YtnippoaemjaihaaDoor
open Go.ChangeShapes Go.WideShapes Go.ChangeAt Go.RowKit
open Go.Ev (flat flats rws Cmd)

theorem own : ownKnob Tryd.prog.godebug = none := by kernel_rfl
theorem gRows : Tryd.prog.globalNamed "larder/order.rows" = some 0 := by kernel_rfl
theorem tRows : (Tryd.prog.globals[0]?).map (·.type) = some 31 := by kernel_rfl
def toD {H : Type} (r : Cmd) : DataW H := .agg [.lit (.string r.1.data.toList), .lit (.int .i64 r.2.1), .lit (.bool r.2.2.1), .lit (.int .i64 r.2.2.2.1), .lit (.int .i64 r.2.2.2.2.1), .lit (.int .i64 r.2.2.2.2.2.1), .lit (.int .i64 r.2.2.2.2.2.2)]
theorem laid_eq : Rows.laid_larder_order_rows (H := Unit) = .agg (rws.map toD) := by kernel_rfl
theorem c28 : Tryd.prog.cellsOf 28 = 7 := by kernel_rfl
theorem c31 : Tryd.prog.cellsOf 31 = 217 := by kernel_rfl
theorem c3 : Tryd.prog.cellsOf 3 = 1 := by kernel_rfl
theorem c4 : Tryd.prog.cellsOf 4 = 1 := by kernel_rfl
theorem c9 : Tryd.prog.cellsOf 9 = 1 := by kernel_rfl

theorem lits {W : World} {m : Nat} {cs : List Value} {r : Cmd} {p : List MemPlace} {enc : TypeId × Value → Unit} (h : DataW.trod enc Tryd.prog W 0 (fun _ => true) false m 28 cs = some (toD r, p)) : cs = flat r := by
  obtain ⟨xs, n, _, hx, hl, hn, hel⟩ := DataW.trod_struct Tryd.underlying28 h
  rw [c28] at hl
  have e0 : DataW.trod enc Tryd.prog W 0 (fun _ => true) false n 9 ((cs.drop 0).take (Tryd.prog.cellsOf 9)) = xs[0]? := hel 0 _ rfl
  have e1 : DataW.trod enc Tryd.prog W 0 (fun _ => true) false n 3 ((cs.drop 1).take (Tryd.prog.cellsOf 3)) = xs[1]? := hel 1 _ rfl
  have e2 : DataW.trod enc Tryd.prog W 0 (fun _ => true) false n 4 ((cs.drop 2).take (Tryd.prog.cellsOf 4)) = xs[2]? := hel 2 _ rfl
  have e3 : DataW.trod enc Tryd.prog W 0 (fun _ => true) false n 3 ((cs.drop 3).take (Tryd.prog.cellsOf 3)) = xs[3]? := hel 3 _ rfl
  have e4 : DataW.trod enc Tryd.prog W 0 (fun _ => true) false n 3 ((cs.drop 4).take (Tryd.prog.cellsOf 3)) = xs[4]? := hel 4 _ rfl
  have e5 : DataW.trod enc Tryd.prog W 0 (fun _ => true) false n 3 ((cs.drop 5).take (Tryd.prog.cellsOf 3)) = xs[5]? := hel 5 _ rfl
  have e6 : DataW.trod enc Tryd.prog W 0 (fun _ => true) false n 3 ((cs.drop 6).take (Tryd.prog.cellsOf 3)) = xs[6]? := hel 6 _ rfl
  rw [c9] at e0
  rw [c3] at e1 e3 e4 e5 e6
  rw [c4] at e2
  simp only [Prod.mk.injEq, toD, DataW.agg.injEq] at hx
  obtain ⟨hx, _⟩ := hx
  match xs, hn, hx with
  | [x0, x1, x2, x3, x4, x5, x6], _, hx =>
    match cs, hl with
    | [v0, v1, v2, v3, v4, v5, v6], _ =>
      simp only [List.map_cons, List.map_nil, List.cons.injEq, and_true] at hx
      obtain ⟨h0, h1, h2, h3, h4, h5, h6⟩ := hx
      obtain ⟨s, a0, b0, _⟩ := DataW.trod_string Tryd.underlying9 (show DataW.trod enc Tryd.prog W 0 (fun _ => true) false n 9 [v0] = some x0 from e0)
      obtain ⟨n1, a1, b1, _⟩ := DataW.trod_int Tryd.underlying3 (show DataW.trod enc Tryd.prog W 0 (fun _ => true) false n 3 [v1] = some x1 from e1)
      obtain ⟨n2, a2, b2⟩ := DataW.trod_bool Tryd.underlying4 (show DataW.trod enc Tryd.prog W 0 (fun _ => true) false n 4 [v2] = some x2 from e2)
      obtain ⟨n3, a3, b3, _⟩ := DataW.trod_int Tryd.underlying3 (show DataW.trod enc Tryd.prog W 0 (fun _ => true) false n 3 [v3] = some x3 from e3)
      obtain ⟨n4, a4, b4, _⟩ := DataW.trod_int Tryd.underlying3 (show DataW.trod enc Tryd.prog W 0 (fun _ => true) false n 3 [v4] = some x4 from e4)
      obtain ⟨n5, a5, b5, _⟩ := DataW.trod_int Tryd.underlying3 (show DataW.trod enc Tryd.prog W 0 (fun _ => true) false n 3 [v5] = some x5 from e5)
      obtain ⟨n6, a6, b6, _⟩ := DataW.trod_int Tryd.underlying3 (show DataW.trod enc Tryd.prog W 0 (fun _ => true) false n 3 [v6] = some x6 from e6)
      subst b0 b1 b2 b3 b4 b5 b6
      simp only [DataW.lit.injEq, Lit.string.injEq, Lit.int.injEq, Lit.bool.injEq, true_and] at h0 h1 h2 h3 h4 h5 h6
      simp only [List.cons.injEq, and_true] at a0 a1 a2 a3 a4 a5 a6
      have hs : r.1 = s := by
        obtain ⟨⟨⟨l⟩⟩, _⟩ := r
        obtain ⟨⟨l'⟩⟩ := s
        simp only at h0
        rw [h0]
      unfold Go.Ev.flat
      rw [a0, a1, a2, a3, a4, a5, a6, hs, h1, h2, h3, h4, h5, h6]

/-- What the condition gives the walk: the variable's cells. -/
theorem of_laid {W : World} (h : laidMetH Tryd.prog [("larder/order.rows", Rows.laid_larder_order_rows)] W) : Go.Ev.Reads W.heap ⟨0, 0, none⟩ (flats rws) := by
  rw [MakeChecks.laidMetH_plain _ _ _ (by kernel_rfl)] at h
  obtain ⟨ps, ⟨g0, t0, cs0, f0, p0, q0, hg0, ht0, hv0, hd0, _, _⟩, _, _⟩ := h
  obtain rfl := Option.some.inj (gRows.symm.trans hg0)
  obtain rfl := Option.some.inj (tRows.symm.trans ht0)
  rw [laid_eq] at hd0
  obtain ⟨xs, m, _, hx, hl, hn, hel⟩ := DataW.trod_array Tryd.underlying31 hd0
  rw [c31] at hl
  rw [c28] at hel
  simp only [Prod.mk.injEq, DataW.agg.injEq] at hx
  intro j v hj
  have hj1 : j < 217 := by
    have := (List.getElem?_eq_some_iff.1 hj).1
    rw [Go.Ev.flats_len] at this
    exact this
  have hi : j / 7 < 31 := by omega
  have hr : rws[j / 7]? = some rws[j / 7] := List.getElem?_eq_getElem hi
  generalize rws[j / 7] = r at hr
  have hxr : (xs[j / 7]?).map (·.1) = some (toD r) := by
    rw [← List.getElem?_map, ← hx.1, List.getElem?_map, hr]
    rfl
  obtain ⟨x, hx1, hx2⟩ := Option.map_eq_some_iff.1 hxr
  have h1 := hel (j / 7) hi
  rw [hx1] at h1
  obtain ⟨d, p⟩ := x
  simp only at hx2
  subst hx2
  have h2 := lits h1
  have h3 : cs0[j]? = some v := by
    have e : j = j / 7 * 7 + j % 7 := by omega
    have h4 : (flats rws)[j]? = (flat r)[j % 7]? := by
      have := Go.Ev.flats_get rws (j / 7) r (j % 7) hr (by omega)
      rwa [← e] at this
    rw [← hj, h4, ← h2, List.getElem?_take, if_pos (by omega), List.getElem?_drop, ← e]
    simp
  rw [Go.Ev.add_mk, Nat.zero_add]
  have := World.var?_cell hg0 hv0 j
  rw [h3] at this
  exact this

/-- The door's own heap meets the condition. -/
theorem door_met (os : Os) (args : Array Value) : laidMetH Tryd.prog [("larder/order.rows", Rows.laid_larder_order_rows)] ((World.doorLaid Tryd.prog 4000 os).forCall (fun _ _ => 0) ⟨#[], args, []⟩).memory := by
  rw [MakeChecks.laidMetH_plain _ _ _ (by kernel_rfl)]
  exact laidMet_of_run' 8 (by kernel_rfl) (by kernel_rfl)
theorem kept_all {W W' : World} (hs : Go.Ev.Same W W') (hk : Go.Ev.Kept Go.Ev.N W.heap W'.heap) (may : MemPlace → Prop) : W.keptBut W' may := by
  refine ⟨hs.1, hs.2.2, fun i hi => ?_⟩
  rw [hk.2 i hi id]
  cases h : W.heap[i]? with
  | none => rfl
  | some o =>
    cases o <;> first | exact rfl | exact ⟨rfl, rfl, rfl, fun _ _ => rfl⟩ | exact .inr ⟨rfl, rfl⟩
theorem lifted (os : Os) (started : os.Started) (H : Type) (enc : TypeId × Value → H) :
    ReturnsInHanded {} Tryd.checked os 3 .any (fun w args => (Rows.orderRowsSpec.pre enc Tryd.prog Tryd.f3 [] false w args ∧ laidMetH Tryd.prog [("larder/order.rows", Rows.laid_larder_order_rows)] w) ∧ sizedMet enc Tryd.prog Tryd.f3 (OpenSpec.ofChange Rows.orderRowsSpec) false w args)
      (Rows.orderRowsSpec.post enc Tryd.prog Tryd.f3 false true false false) := by
  refine returnsInHanded_of_change_and (C := Tryd.checked) (X := fun w _ => laidMetH Tryd.prog [("larder/order.rows", Rows.laid_larder_order_rows)] w) (fun _ _ _ hh h => h.of_heap hh) own started (by kernel_rfl) Tryd.func3
    (ChangeSpec.witness_shaped (enc := enc) (C := Tryd.checked) (os := os) (X := fun w _ => laidMetH Tryd.prog [("larder/order.rows", Rows.laid_larder_order_rows)] w) false (World.doorLaid Tryd.prog 4000 os) #[] 8 rfl (World.shaped_of_RefB (by kernel_rfl) (by kernel_rfl)) (by kernel_rfl) (by kernel_rfl) (by kernel_rfl) (door_met os _)) ?_
  intro W base args ds gs before hval0 hW _ _ hL _
  have hW' := hW
  obtain ⟨p, q, hA0, hV, rfl, hfz, hnd⟩ := hW
  have hA : DataW.TrodAll enc Tryd.prog W 0 (fun _ => true) true Tryd.f3.params.toList args.toList ds p := hA0
  rw [Tryd.params3] at hA
  obtain ⟨rfl, rfl, rfl⟩ := trodAll_none hA
  obtain ⟨rfl, rfl⟩ := trodVars_none hV
  have hg := of_laid hL
  refine (Go.Ev.order_ok (R := fun v h' => v = .bool true ∧ Go.Ev.Kept Go.Ev.N W.heap h') hg (fun h' k => ⟨rfl, k⟩) W rfl).mono fun e W' ⟨v, he, hs, hv, hk⟩ => ?_
  subst he; subst hv
  refine ⟨_, rfl, [], [], [], [], [], [], hW', ?_, by first | exact rfl | exact ⟨rfl, rfl⟩ | exact ⟨rfl, rfl, rfl⟩ | trivial, rfl, kept_all hs hk _, fun h => by cases h⟩
  exact trodAll_mk1 (shut_bool Tryd.underlying4 true)

theorem orderRows_holds : Rows.OrderRowsSaid :=
  OpenClaim.holds_of_wide 3 Tryd.f3 rfl rfl rfl rfl rfl rfl rfl ⟨rfl, rfl, rfl, rfl, rfl⟩ rfl rfl rfl rfl rfl (by kernel_rfl) Tryd.func3 (by kernel_rfl)
    (of_decide_eq_true (by kernel_rfl)) (by unfold Func.isWrapper; first | (rw [if_pos (by decide +kernel)]; kernel_rfl) | (rw [if_neg (by decide +kernel)]; exact ⟨rfl, rfl⟩))
    (fun os started H enc _ => lifted os started H enc)
/-- The tied card. -/
theorem orderRows_card : Rows.OrderRowsCardSaid :=
  Claim7.holds_tied_plain_at .later [] [.data] true (true, "647a7e28de7fbb5ca58ed67f680985731ada9b6cc21f81d2a62942490f990bd2") false
    orderRows_holds (fun _ h => by cases h) (by kernel_rfl) (fun _ h => by cases h) orderRows_row_tie rfl ⟨rfl, rfl⟩ (by kernel_rfl) rfl
    (fun f fn hf hfn => by
      obtain rfl : f = 3 := Option.some.inj ((show Tryd.prog.funcNamed "larder/larderlaw14.OrderRows" = some 3 by kernel_rfl).symm.trans hf) |>.symm
      obtain rfl : fn = Tryd.f3 := (Option.some.inj (Tryd.func3.symm.trans hfn)).symm
      exact ⟨by kernel_rfl, fun j t ht => by
        rw [Tryd.params3] at ht
        simp at ht⟩)
    (by kernel_rfl)
#print axioms orderRows_card
end Go.Proofs.YtnippoaemjaihaaDoor
