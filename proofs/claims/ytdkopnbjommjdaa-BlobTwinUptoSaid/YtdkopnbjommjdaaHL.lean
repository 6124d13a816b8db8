/- The collector's look: all refs of an object are moved. No condition but that the heap is one. -/
import Derived.Test.YtdkopnbjommjdaaHC
set_option linter.all false
set_option maxRecDepth 100000
namespace Go.Ev
open Go.Proofs
/-- Where the object lies that is looked at: in the spare half, or in a slot's block. -/
inductive Tgt where
  | sp (k : Nat)
  | sl (i : Nat)
def MH.at (m : MH) : Tgt → Option AObj
  | .sp k => m.spare[k]?
  | .sl i => (m.blocks[i]?).bind id
def MH.setF (m : MH) (t : Tgt) (j v : Nat) : MH :=
  match t with
  | .sp k => { m with spare := m.spare.modify k fun o => o.setF j v }
  | .sl i => { m with blocks := m.blocks.modify i fun o => o.map fun o => o.setF j v }
def mLook (m : MH) (t : Tgt) : Nat → MH
  | 0 => m
  | n + 1 =>
    match (mLook m t n).at t with
    | some o => ((mMoved (mLook m t n) (o.flds.getD n 0)).1).setF t n (mMoved (mLook m t n) (o.flds.getD n 0)).2
    | none => mLook m t n
/-- The pointer and the place by which it is asked. -/
def Tgt.loc (m : MH) (G : Geo) : Tgt → Option (Nat × Int)
  | .sp k => some (G.Ls.pb, (pos m.spare k : Int))
  | .sl i => match G.locs[i]? with | some (some L) => some (L.pb, 1) | _ => none
section
variable {h : Hp} {hb : Nat} {role : Nat → Role} {m : MH} {G : Geo}
theorem pos_one (o : AObj) : pos [o] 0 = 1 := rfl
/-- Get and Set of a field of the object, whichever it is. -/
theorem tget_ok (r : HRep h hb role m G) {t : Tgt} {o : AObj} (ho : m.at t = some o) (hf : o.fwd = none) {pb : Nat} {at_ : Int} (hl : t.loc m G = some (pb, at_)) {j : Nat} {v : Nat} (hv : o.flds[j]? = some v) {R : Value → Hp → Prop}
    (hR : R (.tuple #[uv v, .int .i64 0]) h) : CallTo Try.prog 91 #[.pointer (some (ad pb)), .int .i64 at_, .int .i64 (j : Int)] h R := by
  have fin : ∀ (L : ArLoc) (sz : Nat) (os : List AObj) (i : Nat), Ar h L sz os → os[i]? = some o → L.pb = pb → at_ = (pos os i : Int) → CallTo Try.prog 91 #[.pointer (some (ad pb)), .int .i64 at_, .int .i64 (j : Int)] h R := by
    rintro L sz os i ⟨wc, fc, fs, ra⟩ hi rfl rfl
    refine aget_ok ra ?_
    have : getV os (pos os i : Int) (j : Int) = .tuple #[uv v, .int .i64 0] := by
      unfold getV
      rw [idxI_nat, idx_pos (List.getElem?_eq_some_iff.1 hi).1]
      simp only [Option.bind_some, hi, hf]
      rw [if_pos (by omega), Int.toNat_natCast, hv]
    rw [this]
    exact hR
  cases t with
  | sp k =>
    simp only [Tgt.loc, Option.some.injEq, Prod.mk.injEq] at hl
    exact fin G.Ls m.sz m.spare k r.spare ho hl.1 hl.2.symm
  | sl i =>
    simp only [Tgt.loc] at hl
    cases hL : G.locs[i]? with
    | none => rw [hL] at hl; simp at hl
    | some L =>
      cases L with
      | none => rw [hL] at hl; simp at hl
      | some L =>
        rw [hL] at hl
        simp only [Option.some.injEq, Prod.mk.injEq] at hl
        have hm : m.blocks[i]? = some (some o) := by
          have ho : (m.blocks[i]?).bind id = some o := ho
          cases hx : m.blocks[i]? with
          | none => rw [hx] at ho; cases ho
          | some x => rw [hx] at ho; exact congrArg some ho
        have hbk := r.bl i _ _ hm hL
        exact fin L (o.size + 1) [o] 0 hbk.1 rfl hl.1 hl.2.symm

theorem modify_set {α : Type} {l : List α} {i : Nat} {x : α} (hx : l[i]? = some x) (f : α → α) : l.modify i f = l.set i (f x) := by
  apply List.ext_getElem?
  intro j
  have hi := (List.getElem?_eq_some_iff.1 hx).1
  rw [List.getElem?_modify]
  by_cases hij : i = j
  · subst hij
    rw [hx, List.getElem?_set_self hi]
    show some _ = some _
    simp
  · rw [List.getElem?_set_ne hij]
    cases l[j]? with
    | none => rfl
    | some y => show some _ = some _; simp [hij]
theorem tset_ok (r : HRep h hb role m G) {t : Tgt} {o : AObj} (ho : m.at t = some o) (hf : o.fwd = none) {pb : Nat} {at_ : Int} (hl : t.loc m G = some (pb, at_)) {j : Nat} {v : Nat} (hj : j < o.flds.length) (hv : v < 18446744073709551616) {R : Value → Hp → Prop}
    (hR : ∀ h' role' G', HRep h' hb role' (m.setF t j v) G' → Held G G' → Ext h role h' role' → R (.int .i64 0) h') : CallTo Try.prog 92 #[.pointer (some (ad pb)), .int .i64 at_, .int .i64 (j : Int), uv v] h R := by
  have fin : ∀ (L : ArLoc) (sz : Nat) (os : List AObj) (i : Nat), Ar h L sz os → os[i]? = some o → L.pb = pb → at_ = (pos os i : Int) →
      (∀ h', Ar h' L sz (os.modify i fun o => o.setF j v) → Kept L.fp h h' → R (.int .i64 0) h') → CallTo Try.prog 92 #[.pointer (some (ad pb)), .int .i64 at_, .int .i64 (j : Int), uv v] h R := by
    rintro L sz os i ⟨wc, fc, fs, ra⟩ hi rfl rfl hk
    have hil := (List.getElem?_eq_some_iff.1 hi).1
    have hE : setE os (pos os i : Int) (j : Int) = 0 := by
      unfold setE
      rw [idxI_nat, idx_pos hil]
      simp only [Option.bind_some, hi, hf]
      rw [if_pos ⟨by omega, by omega⟩]
    refine aset_ok ra hv (fun he => absurd hE he) fun i' o' k h' h1 h2 h3 h4 h5 h6 h7 => ?_
    rw [idxI_nat, idx_pos hil] at h1
    obtain rfl := Option.some.inj h1
    obtain rfl : j = k := by omega
    exact hk h' ⟨_, _, _, h6⟩ h7
  cases t with
  | sp k =>
    simp only [Tgt.loc, Option.some.injEq, Prod.mk.injEq] at hl
    refine fin G.Ls m.sz m.spare k r.spare ho hl.1 hl.2.symm fun h' ha hk => ?_
    have g : Grown h G.Ls G.Ls h' := ⟨rfl, fun _ => .inl, hk⟩
    exact hR h' _ G (r.setSpare ha g) (Held.refl G) (Ext.of (role := role) hk (fun b hb => by rw [r.sparer b hb]; nofun) fun b hb => joinR_old hb)
  | sl i =>
    simp only [Tgt.loc] at hl
    cases hL : G.locs[i]? with
    | none => rw [hL] at hl; simp at hl
    | some L =>
      cases L with
      | none => rw [hL] at hl; simp at hl
      | some L =>
        rw [hL] at hl
        simp only [Option.some.injEq, Prod.mk.injEq] at hl
        have hm : m.blocks[i]? = some (some o) := by
          have ho : (m.blocks[i]?).bind id = some o := ho
          cases hx : m.blocks[i]? with
          | none => rw [hx] at ho; cases ho
          | some x => rw [hx] at ho; exact congrArg some ho
        have hbk := r.bl i _ _ hm hL
        refine fin L (o.size + 1) [o] 0 hbk.1 rfl hl.1 hl.2.symm fun h' ha hk => ?_
        have hs := r.setSlot hm hL (o' := o.setF j v) (o.size_setF j v) ha hk
        have e : m.setF (.sl i) j v = { m with blocks := m.blocks.set i (some (o.setF j v)) } := by
          show ({ m with blocks := _ } : MH) = _
          rw [modify_set hm]
          rfl
        rw [e] at hR
        exact hR h' role G hs (Held.refl G) (Ext.of (role := role) hk (fun b hb => by rw [hbk.2 b hb]; nofun) fun _ _ => rfl)
/-- Object of the target. -/
theorem tobj_ok (r : HRep h hb role m G) {t : Tgt} {o : AObj} (ho : m.at t = some o) (hf : o.fwd = none) {pb : Nat} {at_ : Int} (hl : t.loc m G = some (pb, at_)) {R : Value → Hp → Prop}
    (hR : R (.tuple #[.int .i64 (o.kind : Int), .int .i64 (o.refs.length : Int), .int .i64 (o.raws.length : Int), .int .i64 0]) h) : CallTo Try.prog 68 #[.pointer (some (ad pb)), .int .i64 at_] h R := by
  have fin : ∀ (L : ArLoc) (sz : Nat) (os : List AObj) (i : Nat), Ar h L sz os → os[i]? = some o → L.pb = pb → at_ = (pos os i : Int) → CallTo Try.prog 68 #[.pointer (some (ad pb)), .int .i64 at_] h R := by
    rintro L sz os i ⟨wc, fc, fs, ra⟩ hi rfl rfl
    refine aobject_ok ra ?_
    have : objV os (pos os i : Int) = .tuple #[.int .i64 (o.kind : Int), .int .i64 (o.refs.length : Int), .int .i64 (o.raws.length : Int), .int .i64 0] := by
      unfold objV
      rw [idxI_nat, idx_pos (List.getElem?_eq_some_iff.1 hi).1]
      simp only [Option.bind_some, hi, hf]
    rw [this]
    exact hR
  cases t with
  | sp k =>
    simp only [Tgt.loc, Option.some.injEq, Prod.mk.injEq] at hl
    exact fin G.Ls m.sz m.spare k r.spare ho hl.1 hl.2.symm
  | sl i =>
    simp only [Tgt.loc] at hl
    cases hL : G.locs[i]? with
    | none => rw [hL] at hl; simp at hl
    | some L =>
      cases L with
      | none => rw [hL] at hl; simp at hl
      | some L =>
        rw [hL] at hl
        simp only [Option.some.injEq, Prod.mk.injEq] at hl
        have hm : m.blocks[i]? = some (some o) := by
          have ho : (m.blocks[i]?).bind id = some o := ho
          cases hx : m.blocks[i]? with
          | none => rw [hx] at ho; cases ho
          | some x => rw [hx] at ho; exact congrArg some ho
        have hbk := r.bl i _ _ hm hL
        exact fin L (o.size + 1) [o] 0 hbk.1 rfl hl.1 hl.2.symm

def MoveOk (m : MH) (r : Nat) : Prop := m.grey.length < 10000000 ∧ (r = 0 ∨ (∃ s, r = top + s ∧ s < m.reached.length ∧ top + s < 18446744073709551616) ∨
  (r ≠ 0 ∧ r < top ∧ ∃ i o, idx m.half r = some i ∧ m.half[i]? = some o ∧ (o.fwd = none → used m.spare + o.size ≤ m.sz)))
theorem mMoved_nil (m : MH) : mMoved m 0 = (m, 0) := by unfold mMoved; rw [if_pos rfl]
theorem hmoved_all (rp : HRep h hb role m G) {r : Nat} (hm : MoveOk m r) {R : Value → Hp → Prop}
    (hR : ∀ h' role' G', HRep h' hb role' (mMoved m r).1 G' → Held G G' → Ext h role h' role' → R (uv (mMoved m r).2) h') : CallTo Try.prog 63 #[.pointer (some (ad hb)), uv r] h R := by
  obtain ⟨hg, rfl | ⟨s, rfl, h1, h2⟩ | ⟨h0, h1, i, o, h2, h3, h4⟩⟩ := hm
  · rw [mMoved_nil] at hR
    exact hmoved_nil rp (hR h role G rp (Held.refl G) (Ext.refl h role))
  · exact hmoved_big rp h2 h1 hg hR
  · exact hmoved_small rp h0 h1 h2 h3 h4 hR
theorem mMoved_spare (m : MH) (r : Nat) : ∃ l, (mMoved m r).1.spare = m.spare ++ l := by
  unfold mMoved
  split
  · exact ⟨[], by simp⟩
  · split
    · split
      · exact ⟨[], by simp⟩
      · exact ⟨[], by simp⟩
    · split
      · split
        · exact ⟨[], by simp⟩
        · exact ⟨_, rfl⟩
      · exact ⟨[], by simp⟩
theorem mMoved_blocks (m : MH) (r : Nat) : (mMoved m r).1.blocks = m.blocks := by
  unfold mMoved
  split
  · rfl
  · split
    · split <;> rfl
    · split
      · split <;> rfl
      · rfl
theorem mMoved_at (m : MH) (r : Nat) {t : Tgt} {o : AObj} (ho : m.at t = some o) : (mMoved m r).1.at t = some o := by
  cases t with
  | sp k =>
    obtain ⟨l, hl⟩ := mMoved_spare m r
    show (mMoved m r).1.spare[k]? = some o
    rw [hl, List.getElem?_append_left (List.getElem?_eq_some_iff.1 (show m.spare[k]? = some o from ho)).1]
    exact ho
  | sl i =>
    show ((mMoved m r).1.blocks[i]?).bind id = some o
    rw [mMoved_blocks]
    exact ho
theorem setF_at (m : MH) {t : Tgt} {o : AObj} (j v : Nat) (ho : m.at t = some o) : (m.setF t j v).at t = some (o.setF j v) := by
  cases t with
  | sp k =>
    show (m.spare.modify k fun o => o.setF j v)[k]? = _
    rw [List.getElem?_modify, show m.spare[k]? = some o from ho]
    show some _ = some _
    simp
  | sl i =>
    have ho : (m.blocks[i]?).bind id = some o := ho
    cases hx : m.blocks[i]? with
    | none => rw [hx] at ho; cases ho
    | some x =>
      rw [hx] at ho
      have ho : x = some o := ho
      subst ho
      show ((m.blocks.modify i fun o => o.map fun o => o.setF j v)[i]?).bind id = _
      rw [List.getElem?_modify, hx]
      show (some _ : Option (Option AObj)).bind id = some _
      simp
theorem loc_moved (m : MH) (r : Nat) {t : Tgt} {o : AObj} (ho : m.at t = some o) {G' : Geo} (hh : Held G G') {x : Nat × Int} (hl : t.loc m G = some x) : t.loc (mMoved m r).1 G' = some x := by
  cases t with
  | sp k =>
    obtain ⟨l, hl2⟩ := mMoved_spare m r
    have hk := (List.getElem?_eq_some_iff.1 (show m.spare[k]? = some o from ho)).1
    have hp : pos (mMoved m r).1.spare k = pos m.spare k := by
      unfold pos
      rw [hl2, List.take_append_of_le_length (by omega)]
    rw [← hl]
    simp only [Tgt.loc, hp, hh.2.1]
  | sl i =>
    rw [← hl]
    simp only [Tgt.loc, hh.2.2.1]
theorem loc_setF (m : MH) (j v : Nat) {t : Tgt} {G' : Geo} (hh : Held G G') {x : Nat × Int} (hl : t.loc m G = some x) : t.loc (m.setF t j v) G' = some x := by
  cases t with
  | sp k =>
    have hp : pos (m.setF (.sp k) j v).spare k = pos m.spare k := pos_modify fun o => o.size_setF j v
    rw [← hl]
    simp only [Tgt.loc, hp, hh.2.1]
  | sl i =>
    rw [← hl]
    simp only [Tgt.loc, hh.2.2.1]
theorem Held.symm_refl (G : Geo) : Held G G := Held.refl G
/-- What look asks for on its way: at each field the object stands, and its ref may be moved. -/
structure LookOk (m : MH) (t : Tgt) (o : AObj) : Prop where
  at0 : m.at t = some o
  fwd : o.fwd = none
  ok : ∀ n, n < o.refs.length → ∃ o', (mLook m t n).at t = some o' ∧ o'.fwd = none ∧ o'.refs.length = o.refs.length ∧ o'.raws.length = o.raws.length ∧ o'.flds.getD n 0 < 18446744073709551616 ∧
    MoveOk (mLook m t n) (o'.flds.getD n 0) ∧ (mMoved (mLook m t n) (o'.flds.getD n 0)).2 < 18446744073709551616

theorem mLook_succ (m : MH) (t : Tgt) (n : Nat) {o' : AObj} (ho : (mLook m t n).at t = some o') :
    mLook m t (n + 1) = ((mMoved (mLook m t n) (o'.flds.getD n 0)).1).setF t n (mMoved (mLook m t n) (o'.flds.getD n 0)).2 := by
  show (match (mLook m t n).at t with | some o => _ | none => _) = _
  rw [ho]
theorem look_ok (rp : HRep h hb role m G) {t : Tgt} {o : AObj} (hk : LookOk m t o) (ho : o.Ok) {pb : Nat} {at_ : Int} (hl : t.loc m G = some (pb, at_)) {R : Value → Hp → Prop}
    (hR : ∀ h' role' G', HRep h' hb role' (mLook m t o.refs.length) G' → Held G G' → Ext h role h' role' → R (.int .i64 (o.size : Nat)) h') :
    CallTo Try.prog 64 #[.pointer (some (ad hb)), .iface 70 (.pointer (some (ad pb))), .int .i64 at_] h R := by
  refine f64F_ok ?_
  unfold f64F
  have hnr := ho.nr
  have hnw := ho.nw
  refine ⟨_, rfl, tobj_ok rp hk.at0 hk.fwd hl ⟨_, _, _, _, rfl, ?_⟩⟩
  refine f64L1_rule (fun q s0 s1 s2 s8 s9 s11 h' => ∃ (k : Nat) (role' : Nat → Role) (G' : Geo), k ≤ o.refs.length ∧ q = o.refs.length - k ∧ s0 = some (ad hb) ∧ s1 = .iface 70 (.pointer (some (ad pb))) ∧ s2 = at_ ∧ s8 = (o.refs.length : Int) ∧ s9 = (o.raws.length : Int) ∧ s11 = k ∧
    HRep h' hb role' (mLook m t k) G' ∧ Held G G' ∧ Ext h role h' role' ∧ t.loc (mLook m t k) G' = some (pb, at_)) o.refs.length
    ⟨0, role, G, by omega, rfl, rfl, rfl, rfl, rfl, rfl, rfl, rp, Held.refl G, Ext.refl h role, hl⟩ ?_
  rintro q s0 s1 s2 s8 s9 s11 g h1 ⟨k, role1, G1, hk1, rfl, rfl, rfl, rfl, rfl, rfl, rfl, rp1, hh1, x1, hl1⟩
  unfold f64L1
  refine Cond_dec (fun hlt => ?_) fun hge => ?_
  · have hkr : k < o.refs.length := by omega
    obtain ⟨o1, ho1, hf1, hr1, hw1, hv1, hmv, hv2⟩ := hk.ok k hkr
    have hfl : k < o1.flds.length := by unfold AObj.flds; simp; omega
    have hget : o1.flds[k]? = some (o1.flds.getD k 0) := by rw [List.getD_eq_getElem?_getD, List.getElem?_eq_getElem hfl]; rfl
    refine ⟨_, rfl, tget_ok rp1 ho1 hf1 hl1 hget ⟨_, _, rfl, _, rfl, ?_⟩⟩
    refine hmoved_all rp1 hmv fun h2 role2 G2 rp2 hh2 x2 => ⟨_, rfl, _, rfl, ?_⟩
    have hl2 := loc_moved _ (o1.flds.getD k 0) ho1 hh2 hl1
    have ho2 := mMoved_at _ (o1.flds.getD k 0) ho1
    refine tset_ok rp2 ho2 hf1 hl2 hfl hv2 fun h3 role3 G3 rp3 hh3 x3 => ⟨_, rfl, o.refs.length - (k + 1), by omega, k + 1, role3, G3, by omega, rfl, rfl, rfl, rfl, rfl, rfl, ?_, ?_, (hh1.trans hh2).trans hh3, (x1.trans x2).trans x3, ?_⟩
    · rw [wrap_ar (by omega) (by omega)]; rfl
    · rw [mLook_succ m t k ho1]; exact rp3
    · rw [mLook_succ m t k ho1]; exact loc_setF _ _ _ hh3 hl2
  · obtain rfl : k = o.refs.length := by omega
    have e1 : IntKind.wrap .i64 ((1 : Int) + (o.refs.length : Int)) = 1 + (o.refs.length : Int) := wrap_ar (by omega) (by omega)
    have e2 : IntKind.wrap .i64 (1 + (o.refs.length : Int) + (o.raws.length : Int)) = ((o.size : Nat) : Int) := by rw [wrap_ar (by omega) (by omega), AObj.size_eq]; omega
    rw [e1, e2]
    exact hR h1 role1 G1 rp1 hh1 x1
end
end Go.Ev
