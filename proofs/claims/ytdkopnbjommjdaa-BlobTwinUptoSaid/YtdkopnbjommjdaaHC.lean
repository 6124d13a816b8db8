/- The collector's steps: moved, look. No condition but that the heap is one and the refs are an object's. -/
import Derived.Test.YtdkopnbjommjdaaHR
import Derived.Test.YtdkopnbjommjdaaGH
set_option linter.all false
set_option maxRecDepth 100000
namespace Go.Ev
open Go.Proofs
abbrev top : Nat := 9223372036854775808
def Ext (h : Hp) (role : Nat → Role) (h' : Hp) (role' : Nat → Role) : Prop := h.size ≤ h'.size ∧ (∀ b, b < h.size → role' b = role b) ∧ ∀ b, b < h.size → role b = .out → h'[b]? = h[b]?
theorem Ext.refl (h : Hp) (role : Nat → Role) : Ext h role h role := ⟨Nat.le_refl _, fun _ _ => rfl, fun _ _ _ => rfl⟩
theorem Ext.trans {a b c : Hp} {ra rb rc : Nat → Role} (x : Ext a ra b rb) (y : Ext b rb c rc) : Ext a ra c rc :=
  ⟨Nat.le_trans x.1 y.1, fun i hi => (y.2.1 i (Nat.lt_of_lt_of_le hi x.1)).trans (x.2.1 i hi), fun i hi ho => (y.2.2 i (Nat.lt_of_lt_of_le hi x.1) ((x.2.1 i hi).trans ho)).trans (x.2.2 i hi ho)⟩
theorem Ext.of {h h' : Hp} {role : Nat → Role} {S : Nat → Prop} (k : Kept S h h') (hS : ∀ b, S b → role b ≠ .out) {role' : Nat → Role} (hr : ∀ b, b < h.size → role' b = role b) : Ext h role h' role' :=
  ⟨k.1, hr, fun b hb ho => k.2 b hb fun s => hS b s ho⟩
def mMoved (m : MH) (r : Nat) : MH × Nat :=
  if r = 0 then (m, 0)
  else if top ≤ r then
    if m.reached.getD (r - top) false = true then (m, r) else ({ m with reached := m.reached.set (r - top) true, grey := m.grey ++ [r - top] }, r)
  else match (idx m.half r).bind (m.half[·]?) with
    | some o => match o.fwd with
      | some t => (m, t)
      | none => ({ m with half := m.half.modify ((idx m.half r).getD 0) fun o => { o with fwd := some (used m.spare) }, spare := m.spare ++ [o] }, used m.spare)
    | none => (m, 0)
/-- What may be asked of moved. -/
def CanMove (m : MH) (r : Nat) : Prop := r = 0 ∨ (top ≤ r ∧ r - top < m.reached.length) ∨ (r < top ∧ ∃ i o, idx m.half r = some i ∧ m.half[i]? = some o ∧ (o.fwd = none → used m.spare + o.size ≤ m.sz))
/-- What stays as it was for those who hold a part. -/
def Held (G G' : Geo) : Prop := G'.Lh.pb = G.Lh.pb ∧ G'.Ls.pb = G.Ls.pb ∧ G'.locs = G.locs ∧ G'.ts = G.ts ∧ G'.tb = G.tb ∧ G'.bs = G.bs ∧ G'.bb = G.bb ∧ G'.rs = G.rs ∧ G'.rb = G.rb
theorem Held.refl (G : Geo) : Held G G := ⟨rfl, rfl, rfl, rfl, rfl, rfl, rfl, rfl, rfl⟩
theorem Held.trans {A B C : Geo} (x : Held A B) (y : Held B C) : Held A C :=
  ⟨y.1.trans x.1, y.2.1.trans x.2.1, y.2.2.1.trans x.2.2.1, y.2.2.2.1.trans x.2.2.2.1, y.2.2.2.2.1.trans x.2.2.2.2.1, y.2.2.2.2.2.1.trans x.2.2.2.2.2.1, y.2.2.2.2.2.2.1.trans x.2.2.2.2.2.2.1, y.2.2.2.2.2.2.2.1.trans x.2.2.2.2.2.2.2.1, y.2.2.2.2.2.2.2.2.trans x.2.2.2.2.2.2.2.2⟩
section
variable {h : Hp} {hb : Nat} {role : Nat → Role} {m : MH} {G : Geo}
theorem ar_disj (r : HRep h hb role m G) : ∀ b, G.Lh.fp b → ¬ G.Ls.fp b := fun b h1 h2 => by
  have := r.halfr b h1
  rw [r.sparer b h2] at this
  cases this
/-- Both halves are others. -/
theorem HRep.setBoth (r : HRep h hb role m G) {h' : Hp} {L' : ArLoc} {os os' : List AObj} (ha : Ar h' G.Lh m.hz os) (hs : Ar h' L' m.sz os') (g : Grown2 h G.Lh G.Ls L' h') :
    HRep h' hb (joinR role h.size L'.fp .spare) { m with half := os, spare := os' } { G with Ls := L' } ∧ Ext h role h' (joinR role h.size L'.fp .spare) := by
  obtain ⟨g1, g2, g3⟩ := g
  have no : ∀ b y, role b = y → y ≠ .half → y ≠ .spare → ¬ (G.Lh.fp b ∨ G.Ls.fp b) := fun b y e h1 h2 s => by
    rcases s with s | s
    · exact h1 (e ▸ r.halfr b s)
    · exact h2 (e ▸ r.sparer b s)
  have hlt : ∀ b, L'.fp b → b < h'.size := hs.lt
  have tr : ∀ b y, role b = y → y ≠ .out → joinR role h.size L'.fp .spare b = y := fun b y e hy => by
    rcases Nat.lt_or_ge b h.size with hl | hl
    · exact (joinR_old hl).trans e
    · exact absurd (e ▸ r.fresh b hl) hy
  refine ⟨⟨?_, tr _ _ r.rh nofun, fun b hb => joinR_out (r.fresh b (Nat.le_trans g3.1 hb)) fun hf => by have := hlt b hf; omega, ha, fun b hb => tr _ _ (r.halfr b hb) nofun, hs, fun b hb => ?_,
    slat_kept' r.bs g3 fun b hb => no _ _ (r.bsr b hb) nofun nofun, fun b hb => tr _ _ (r.bsr b hb) nofun, r.ll, fun i o L h1 h2 => ?_, slat_kept' r.rs g3 fun b hb => no _ _ (r.rsr b hb) nofun nofun, fun b hb => tr _ _ (r.rsr b hb) nofun,
    r.gs.kept g3 fun b hb => no _ _ (r.gsr b hb) nofun nofun, fun b hb => tr _ _ (r.gsr b hb) nofun, slat_kept' r.ts g3 fun b hb => no _ _ (r.tsr b hb) nofun nofun, fun b hb => tr _ _ (r.tsr b hb) nofun⟩, ?_⟩
  · have := kept_row g3 r.row (no _ _ r.rh nofun nofun)
    unfold hcells at this ⊢
    simp only [g1]
    exact this
  · rcases Nat.lt_or_ge b h.size with hl | hl
    · rw [joinR_old hl]
      rcases g2 b hb with h | h
      · exact r.sparer b h
      · omega
    · exact joinR_new hl hb
  · have x0 := (r.bl i o L h1 h2).keep g3 fun b hb => no _ _ hb nofun nofun
    cases o <;> cases L <;> first | exact x0 | exact ⟨x0.1, fun b hb => tr _ _ (x0.2 b hb) nofun⟩
  · exact Ext.of (role := role) g3 (fun b s e => s.elim (fun s => by rw [r.halfr b s] at e; cases e) fun s => by rw [r.sparer b s] at e; cases e) fun b hb => joinR_old hb
theorem slot_num {r : Nat} (h1 : top ≤ r) (h2 : r < 18446744073709551616) : IntKind.wrap .i64 (andNotI .u64 (r : Int) (9223372036854775808 : Int)) = ((r - top : Nat) : Int) := by
  have h1' : 9223372036854775808 ≤ r := h1
  rw [andNotI_gone (by omega) (by omega), wrap_i64' (by omega) (by omega)]
  show _ = ((r - 9223372036854775808 : Nat) : Int)
  omega
theorem hmoved_small (rp : HRep h hb role m G) {r : Nat} (h0 : r ≠ 0) (hlt : r < top) {i : Nat} {o : AObj} (hi : idx m.half r = some i) (ho : m.half[i]? = some o) (hfit : o.fwd = none → used m.spare + o.size ≤ m.sz) {R : Value → Hp → Prop}
    (hR : ∀ h' role' G', HRep h' hb role' (mMoved m r).1 G' → Held G G' → Ext h role h' role' → R (uv (mMoved m r).2) h') : CallTo Try.prog 63 #[.pointer (some (ad hb)), uv r] h R := by
  have hlt' : r < 9223372036854775808 := hlt
  refine f63F_ok ?_
  unfold f63F
  obtain ⟨hil, hpos⟩ := idx_some.1 hi
  refine Cond_f (by simp; omega) (Cond_f (by rw [gone_no hlt']; rfl) ?_)
  have c2 : cell h ((ad hb).add 2) = some (.pointer (some (ad G.Ls.pb))) := (rp.c 2).trans rfl
  have c1 : cell h ((ad hb).add 1) = some (.pointer (some (ad G.Lh.pb))) := (rp.c 1).trans rfl
  refine PtrOk_mk ⟨_, c2, PtrOk_mk ⟨_, c1, ?_⟩⟩
  have hw : IntKind.wrap .i64 ((r : Nat) : Int) = (pos m.half i : Int) := by rw [wrap_i64' (by omega) (by omega), hpos]
  rw [hw]
  have hm0 : mMoved m r = match o.fwd with
      | some t => (m, t)
      | none => ({ m with half := m.half.modify i fun o => { o with fwd := some (used m.spare) }, spare := m.spare ++ [o] }, used m.spare) := by
    unfold mMoved
    rw [if_neg h0, if_neg (by omega), hi]
    simp only [Option.bind_some, ho, Option.getD_some]
  obtain ⟨wcs, fcs, fss, ra⟩ := rp.half
  obtain ⟨wcd, fcd, fsd, rd⟩ := rp.spare
  cases hf : o.fwd with
  | some t =>
    rw [hf] at hm0
    refine take_moved ra ho hf ⟨_, _, rfl, ?_⟩
    have htl := (ra.ok o (List.mem_of_getElem? ho)).fw t hf
    rw [wrap_u64' (by omega) (by omega)]
    rw [hm0] at hR
    exact hR h role G rp (Held.refl G) (Ext.refl h role)
  | none =>
    rw [hf] at hm0
    refine take_ok ra rd (ar_disj rp) ho hf (hfit hf) fun h' Ld' h1 h2 h3 => ⟨_, _, rfl, ?_⟩
    have := rd.u
    have := rd.s
    rw [wrap_u64' (by omega) (by omega)]
    rw [hm0] at hR
    obtain ⟨q1, q2⟩ := rp.setBoth h1 h2 h3
    exact hR h' _ { G with Ls := Ld' } q1 ⟨rfl, h3.1, rfl, rfl, rfl, rfl, rfl, rfl, rfl⟩ q2

theorem own_some {sz : Nat} {a : Option Addr} {n c : Nat} {ob : Option Nat} {vs : List Value} (s : SlAt sz h a n c ob vs) (hn : n ≠ 0) : ∃ b, ob = some b ∧ a = some (ad b) := by
  cases ob with
  | none => exact absurd (s.nil rfl).2.1 hn
  | some b => exact ⟨b, rfl, (s.row b rfl).1⟩
/-- One flag of 'reached' is written. -/
theorem HRep.setReach (r : HRep h hb role m G) {i : Nat} (hi : i < m.reached.length) (v : Bool) : ∃ b, G.rs.a = some (ad b) ∧ Go.Ev.stOk h ⟨b, i, none⟩ ∧ HRep (setc h ⟨b, i, none⟩ (.bool v)) hb role { m with reached := m.reached.set i v } G ∧
    Ext h role (setc h ⟨b, i, none⟩ (.bool v)) role := by
  have hl := r.rs.len
  rw [List.length_map] at hl
  obtain ⟨b, hob, ha⟩ := own_some r.rs (by omega)
  have rs := r.rs
  rw [hob] at rs
  obtain ⟨h1, h2⟩ := rs.set (o := i) (by rw [List.length_map]; exact hi) (.bool v)
  have k : Kept (fun x => x = b) h (setc h ⟨b, i, none⟩ (.bool v)) := kept_setc h i _ rfl
  have hrb := r.rsr b hob
  have p := r.part (x := .rb) k (fun x e => .inl (e ▸ hrb)) (role' := role) (fun _ _ => rfl) fun b hb => r.fresh b (Nat.le_trans k.1 hb)
  refine ⟨b, ha, h1, ⟨kept_row k r.row (fun e => by have := r.rh; rw [e, hrb] at this; cases this), p.rh, p.fresh, (p.half nofun).1, (p.half nofun).2, (p.spare nofun).1, (p.spare nofun).2, (p.bs nofun).1, (p.bs nofun).2, p.ll, fun i o L h1 h2 => p.bl i o L nofun h1 h2, ?_, r.rsr,
    (p.gs nofun).1, (p.gs nofun).2, (p.ts nofun).1, (p.ts nofun).2⟩, Ext.of (role := role) k (fun x e => by rw [e, hrb]; nofun) fun _ _ => rfl⟩
  rw [hob]
  show SlAt 1 _ _ _ _ _ ((m.reached.set i v).map Value.bool)
  rw [List.map_set]
  exact h2
theorem HRep.reach_at (r : HRep h hb role m G) {i : Nat} (hi : i < m.reached.length) : ∃ b, G.rs.a = some (ad b) ∧ cell h ((ad b).add (i * 1)) = some (.bool (m.reached.getD i false)) ∧ i < G.rs.n := by
  have hl := r.rs.len
  rw [List.length_map] at hl
  obtain ⟨b, hob, ha⟩ := own_some r.rs (by omega)
  have rs := r.rs
  rw [hob] at rs
  refine ⟨b, ha, ?_, by omega⟩
  rw [add_ad, Nat.mul_one, rs.cell (by rw [List.length_map]; exact hi), List.getElem?_map, List.getD_eq_getElem?_getD, List.getElem?_eq_getElem hi]
  rfl
/-- The line grows by one slot. -/
theorem HRep.pushGrey (r : HRep h hb role m G) {x : Nat} (hlen : m.grey.length < 10000000) {K : Hp → Prop} (hK : ∀ h' role' G', HRep h' hb role' { m with grey := m.grey ++ [x] } G' → Held G G' → Ext h role h' role' → K h') :
    Let (h.push (.cells #[nv x] 3)) fun h2 => appSl 3 1 8 #[.int .i64 0] G.gs.a G.gs.n G.gs.c (some (nb h)) 1 h2 fun ra rn rc h3 => PtrOk (some (ad hb)) fun p => Go.Ev.stOk h3 (p.add 5) ∧ Let (setc h3 (p.add 5) (.slice ra rn rc)) fun h4 => K h4 := by
  refine Let_mk fun h2 e2 => ?_
  have k2 : Kept N h h2 := e2 ▸ kept_push _ _ _
  have r2 := r.keep k2 fun _ e => e.elim
  have row2 : Row h2 h.size [nv x] := e2 ▸ row_new h #[nv x] 3
  have hz2 : h2.size = h.size + 1 := by rw [e2]; simp
  have hl := r.gs.len
  rw [List.length_map] at hl
  refine ⟨[nv x], reads_row row2 (fun j v hj => by rw [Nat.zero_add]; exact hj), rfl, ?_⟩
  refine appO_ok r2.gs rfl rfl (by intro v hv; obtain rfl := List.mem_singleton.1 hv; rfl) (by omega) (by omega) fun a' c' ob' h3 s3 hcase => PtrOk_mk ?_
  have hlt2 := r2.hlt
  have key : ∀ gb', ob' = some gb' → (role gb' = .gb ∨ h2.size ≤ gb') → Kept (fun b => role b = .gb) h2 h3 → Go.Ev.stOk h3 ((ad hb).add 5) ∧ Let (setc h3 ((ad hb).add 5) (.slice a' (G.gs.n + 1) c')) fun h4 => K h4 := by
    rintro gb' rfl hgb k3
    have e5 : (ad hb).add 5 = ⟨hb, 5, none⟩ := add_ad _ _
    rw [e5]
    have hrow3 : Row h3 hb (hcells m G) := kept_row k3 r2.row fun e => by rw [r2.rh] at e; cases e
    refine ⟨stOk_row hrow3 (by show 5 < 19; omega), Let_mk fun h4 e4 => ?_⟩
    have k4 : Kept (fun b => b = hb) h3 h4 := e4 ▸ kept_setc h3 5 _ rfl
    have k24 : Kept (fun b => role b = .gb ∨ b = hb) h2 h4 := ⟨Nat.le_trans k3.1 k4.1, fun b hb0 hn => (k4.2 b (Nat.lt_of_lt_of_le hb0 k3.1) (fun e => hn (.inr e))).trans (k3.2 b hb0 fun e => hn (.inl e))⟩
    have hgl : gb' < h4.size := Nat.lt_of_lt_of_le s3.lt k4.1
    have p := r2.part (x := .gb) k24 (fun b e => e.elim .inl fun e => .inr (.inl (e ▸ r2.rh))) (role' := joinR role h2.size (fun b => b = gb') .gb) (fun b hb => joinR_old hb) fun b hb => joinR_out (r2.fresh b (Nat.le_trans k24.1 hb)) fun e => by omega
    have hg4 : joinR role h2.size (fun b => b = gb') .gb gb' = .gb := by
      rcases Nat.lt_or_ge gb' h2.size with hl | hl
      · rw [joinR_old hl]; exact hgb.resolve_right (by omega)
      · exact joinR_new hl rfl
    have hne : gb' ≠ hb := fun e => by
      rcases hgb with h | h
      · rw [e, r2.rh] at h; cases h
      · omega
    have hrow4 : Row h4 hb (hcells { m with grey := m.grey ++ [x] } { G with gs := ⟨a', G.gs.n + 1, c'⟩, gb := some gb' }) := by
      rw [e4]
      exact row_setc hrow3 5 _
    refine hK h4 _ { G with gs := ⟨a', G.gs.n + 1, c'⟩, gb := some gb' } ⟨hrow4, p.rh, p.fresh, (p.half nofun).1, (p.half nofun).2, (p.spare nofun).1, (p.spare nofun).2, (p.bs nofun).1, (p.bs nofun).2, p.ll, fun i o L h1 h2 => p.bl i o L nofun h1 h2,
      (p.rs nofun).1, (p.rs nofun).2, ?_, fun b e => by obtain rfl := Option.some.inj e; exact hg4, (p.ts nofun).1, (p.ts nofun).2⟩ (Held.refl G) ?_
    · show SlO 1 h4 a' (G.gs.n + 1) c' (some gb') ((m.grey ++ [x]).map nv)
      rw [List.map_append]
      exact s3.kept k4 fun b e => by obtain rfl := Option.some.inj e; exact hne
    · refine ⟨Nat.le_trans k2.1 k24.1, fun b hb0 => joinR_old (by omega), fun b hb0 ho => ?_⟩
      rw [k24.2 b (by omega) fun e => e.elim (fun e => by rw [ho] at e; cases e) fun e => by rw [e, r2.rh] at ho; cases ho]
      exact k2.2 b hb0 id
  rcases hcase with ⟨rfl, k3⟩ | ⟨rfl, k3⟩
  · cases hgb : G.gb with
    | none =>
      rw [hgb] at s3
      exact absurd (s3.nil rfl).2.1 (by omega)
    | some gb' =>
      refine key gb' hgb (.inl (r2.gsr gb' hgb)) (k3.mono fun b _ e => ?_)
      rw [hgb] at e
      obtain rfl := Option.some.inj e
      exact r2.gsr _ hgb
  · exact key h2.size rfl (.inr (Nat.le_refl _)) (k3.mono fun _ _ e => e.elim)

theorem mMoved_slot (m : MH) (s : Nat) : mMoved m (top + s) = if m.reached.getD s false = true then (m, top + s) else ({ m with reached := m.reached.set s true, grey := m.grey ++ [s] }, top + s) := by
  unfold mMoved
  have ht : top = 9223372036854775808 := rfl
  rw [if_neg (show ¬ top + s = 0 by omega), if_pos (Nat.le_add_right top s), Nat.add_sub_cancel_left]
theorem slot_num' {s : Nat} (h2 : top + s < 18446744073709551616) : IntKind.wrap .i64 (andNotI .u64 ((top + s : Nat) : Int) (9223372036854775808 : Int)) = (s : Int) := by
  have ht : top = 9223372036854775808 := rfl
  have h3 : s < 9223372036854775808 := by omega
  rw [andNotI_gone (by omega) (by omega), wrap_i64' (by omega) (by omega)]
  omega
theorem hmoved_big (rp : HRep h hb role m G) {s : Nat} (hr : top + s < 18446744073709551616) (hslot : s < m.reached.length) (hg : m.grey.length < 10000000) {R : Value → Hp → Prop}
    (hR : ∀ h' role' G', HRep h' hb role' (mMoved m (top + s)).1 G' → Held G G' → Ext h role h' role' → R (uv (mMoved m (top + s)).2) h') : CallTo Try.prog 63 #[.pointer (some (ad hb)), uv (top + s)] h R := by
  rw [mMoved_slot] at hR
  have ht : top = 9223372036854775808 := rfl
  generalize hrr : top + s = r at hr hR
  have hb1' : 9223372036854775808 ≤ r := by omega
  have hsn : IntKind.wrap .i64 (andNotI .u64 (r : Int) (9223372036854775808 : Int)) = (s : Int) := by rw [← hrr]; exact slot_num' (by omega)
  refine f63F_ok ?_
  unfold f63F
  refine Cond_f (by simp; omega) (Cond_t (by rw [gone_yes hb1' hr]; rfl) ?_)
  simp only [hsn, Int.toNat_natCast]
  have c4 : cell h ((ad hb).add 4) = some (.slice G.rs.a G.rs.n G.rs.c) := (rp.c 4).trans rfl
  obtain ⟨b, ha, hcell, hin⟩ := rp.reach_at hslot
  have cb : (0 : Int) ≤ ((s : Nat) : Int) ∧ ((s : Nat) : Int) < ((G.rs.n : Nat) : Int) := by omega
  refine PtrOk_mk ⟨G.rs, c4, cb, PtrOk_of ha ⟨_, hcell, ?_⟩⟩
  cases hfl : m.reached.getD s false with
  | true =>
    rw [hfl, if_pos rfl] at hR
    exact Cond_f rfl (hR h role G rp (Held.refl G) (Ext.refl h role))
  | false =>
    rw [hfl, if_neg nofun] at hR
    refine Cond_t rfl (PtrOk_mk ⟨G.rs, c4, cb, PtrOk_of ha ?_⟩)
    obtain ⟨b', ha', hst, rp1, x1⟩ := rp.setReach hslot true
    rw [ha] at ha'
    obtain rfl : b = b' := by simpa [ad] using ha'
    have ea : (ad b).add (s * 1) = ⟨b, s, none⟩ := by rw [add_ad, Nat.mul_one]
    simp only [ea]
    refine ⟨hst, Let_mk fun h1 e1 => ?_⟩
    rw [← e1] at rp1 x1
    have c5 : cell h1 ((ad hb).add 5) = some (.slice G.gs.a G.gs.n G.gs.c) := (rp1.c 5).trans rfl
    refine PtrOk_mk ⟨G.gs, c5, ?_⟩
    exact rp1.pushGrey (x := s) hg fun h' role' G' rp' hh xx => hR h' role' G' rp' hh (x1.trans xx)
theorem hmoved_nil (rp : HRep h hb role m G) {R : Value → Hp → Prop} (hR : R (uv 0) h) : CallTo Try.prog 63 #[.pointer (some (ad hb)), uv 0] h R := by
  refine f63F_ok ?_
  unfold f63F
  exact Cond_t rfl hR
end
end Go.Ev
