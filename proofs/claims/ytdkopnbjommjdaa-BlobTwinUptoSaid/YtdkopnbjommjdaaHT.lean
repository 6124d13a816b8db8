/- The heap's struct: its slices grow, a slot is taken. No condition. -/
import Derived.Test.YtdkopnbjommjdaaHS
set_option linter.all false
set_option maxRecDepth 100000
namespace Go.Ev
open Go.Proofs
section
variable {h h' : Hp} {hb : Nat} {role : Nat → Role} {m : MH} {G : Geo}
/-- One element joins a slice of the struct, and the slice is written back. -/
theorem HRep.app (r : HRep h hb role m G) {x : Role} (hx1 : x ≠ .hd) (hx2 : x ≠ .out) {e sz bys : Nat} {z : Array Value} {s : Sl} {ob : Option Nat} {vs : List Value} (sl : SlAt sz h s.a s.n s.c ob vs) (sr : ∀ b, ob = some b → role b = x)
    {arr : Array Value} {t : TypeId} (hz : z.size = sz) (hl : arr.toList.length = 1 * sz) (hcell : ∀ v ∈ arr.toList, isCell v = true) (hby : (2 * (s.n + 1) + 768) * bys ≤ 2 ^ 48) (hlt : s.n + 1 < 2 ^ 62) {no : Nat} (hno : no < 19) {K : Hp → Prop}
    (hK : ∀ h' role' a' c' gb', Row h' hb ((hcells m G).set no (.slice a' (s.n + 1) c')) → HPart h' hb role' m G x → SlAt sz h' a' (s.n + 1) c' (some gb') (vs ++ arr.toList) → role' gb' = x → Ext h role h' role' → Kept (fun b => role b = x ∨ b = hb) h h' → K h') :
    Let (h.push (.cells arr t)) fun h2 => appSl e sz bys z s.a s.n s.c (some (nb h)) 1 h2 fun ra rn rc h3 => PtrOk (some (ad hb)) fun p => Go.Ev.stOk h3 (p.add no) ∧ Let (setc h3 (p.add no) (.slice ra rn rc)) fun h4 => K h4 := by
  refine Let_mk fun h2 e2 => ?_
  have k2 : Kept N h h2 := e2 ▸ kept_push _ _ _
  have r2 := r.keep k2 fun _ e => e.elim
  have row2 : Row h2 h.size arr.toList := e2 ▸ row_new h arr t
  have hz2 : h2.size = h.size + 1 := by rw [e2]; simp
  have sl2 : SlAt sz h2 s.a s.n s.c ob vs := slat_kept' sl k2 fun _ _ e => e
  refine ⟨arr.toList, reads_row row2 (fun j v hj => by rw [Nat.zero_add]; exact hj), hl, ?_⟩
  refine appT_ok2 sl2 hz hl hcell hby hlt fun a' c' ob' h3 s3 hcase => PtrOk_mk ?_
  have hlt2 := r2.hlt
  have key : ∀ gb', ob' = some gb' → (role gb' = x ∨ h2.size ≤ gb') → Kept (fun b => role b = x) h2 h3 → Go.Ev.stOk h3 ((ad hb).add no) ∧ Let (setc h3 ((ad hb).add no) (.slice a' (s.n + 1) c')) fun h4 => K h4 := by
    rintro gb' rfl hgb k3
    have e5 : (ad hb).add no = ⟨hb, no, none⟩ := add_ad _ _
    rw [e5]
    have hrow3 : Row h3 hb (hcells m G) := kept_row k3 r2.row fun e => by rw [r2.rh] at e; exact hx1 e.symm
    refine ⟨stOk_row hrow3 hno, Let_mk fun h4 e4 => ?_⟩
    have k4 : Kept (fun b => b = hb) h3 h4 := e4 ▸ kept_setc h3 no _ rfl
    have k24 : Kept (fun b => role b = x ∨ b = hb) h2 h4 := ⟨Nat.le_trans k3.1 k4.1, fun b hb0 hn => (k4.2 b (Nat.lt_of_lt_of_le hb0 k3.1) (fun e => hn (.inr e))).trans (k3.2 b hb0 fun e => hn (.inl e))⟩
    have hgl : gb' < h4.size := Nat.lt_of_lt_of_le s3.lt k4.1
    have p := r2.part (x := x) k24 (fun b e => e.elim .inl fun e => .inr (.inl (e ▸ r2.rh))) (role' := joinR role h2.size (fun b => b = gb') x) (fun b hb => joinR_old hb) fun b hb => joinR_out (r2.fresh b (Nat.le_trans k24.1 hb)) fun e => by omega
    have hg4 : joinR role h2.size (fun b => b = gb') x gb' = x := by
      rcases Nat.lt_or_ge gb' h2.size with hl | hl
      · rw [joinR_old hl]; exact hgb.resolve_right (by omega)
      · exact joinR_new hl rfl
    have hne : gb' ≠ hb := fun e => by
      rcases hgb with h | h
      · rw [e, r2.rh] at h; exact hx1 h.symm
      · omega
    have hrow4 : Row h4 hb ((hcells m G).set no (.slice a' (s.n + 1) c')) := by rw [e4]; exact row_setc hrow3 no _
    refine hK h4 _ a' c' gb' hrow4 p (slat_kept s3 k4 hne) hg4 ?_ ((k2.mono fun _ _ e => e.elim).trans k24)
    refine ⟨Nat.le_trans k2.1 k24.1, fun b hb0 => joinR_old (by omega), fun b hb0 ho => ?_⟩
    rw [k24.2 b (by omega) fun e => e.elim (fun e => by rw [ho] at e; exact hx2 e.symm) fun e => by rw [e, r2.rh] at ho; cases ho]
    exact k2.2 b hb0 id
  rcases hcase with ⟨rfl, k3⟩ | ⟨rfl, k3⟩
  · cases hgb : ob' with
    | none =>
      rw [hgb] at s3
      exact absurd (s3.nil rfl).2.1 (by omega)
    | some gb' =>
      refine key gb' hgb (.inl (sr gb' hgb)) (k3.mono fun b _ e => ?_)
      rw [hgb] at e
      obtain rfl := Option.some.inj e
      exact sr _ hgb
  · exact key h2.size rfl (.inr (Nat.le_refl _)) (k3.mono fun _ _ e => e.elim)
/-- Blocks that nobody has bear another role. -/
def reR (role : Nat → Role) (P : Nat → Prop) [DecidablePred P] (x : Role) (b : Nat) : Role := if P b then x else role b
theorem reR_in {P : Nat → Prop} [DecidablePred P] {x : Role} {b : Nat} (h : P b) : reR role P x b = x := if_pos h
theorem reR_out {P : Nat → Prop} [DecidablePred P] {x : Role} {b : Nat} (h : ¬ P b) : reR role P x b = role b := if_neg h
theorem HRep.rerole (r : HRep h hb role m G) {P : Nat → Prop} [DecidablePred P] (x : Role) (hP : ∀ b, P b → role b = .out ∧ b < h.size) : HRep h hb (reR role P x) m G := by
  have tr : ∀ b y, role b = y → y ≠ .out → reR role P x b = y := fun b y e hy => (reR_out fun hp => hy (e ▸ (hP b hp).1)).trans e
  exact ⟨r.row, tr _ _ r.rh nofun, fun b hb => (reR_out fun hp => by have := (hP b hp).2; omega).trans (r.fresh b hb), r.half, fun b hb => tr _ _ (r.halfr b hb) nofun, r.spare, fun b hb => tr _ _ (r.sparer b hb) nofun,
    r.bs, fun b hb => tr _ _ (r.bsr b hb) nofun, r.ll, fun i o L h1 h2 => by
      have x0 := r.bl i o L h1 h2
      cases o <;> cases L <;> first | exact x0 | exact ⟨x0.1, fun b hb => tr _ _ (x0.2 b hb) nofun⟩,
    r.rs, fun b hb => tr _ _ (r.rsr b hb) nofun, r.gs, fun b hb => tr _ _ (r.gsr b hb) nofun, r.ts, fun b hb => tr _ _ (r.tsr b hb) nofun⟩
theorem ExtO.rerole {h0 : Hp} {role0 : Nat → Role} (x : ExtO h0 role0 h role) {P : Nat → Prop} [DecidablePred P] (y : Role) (hP : ∀ b, P b → h0.size ≤ b) : ExtO h0 role0 h (reR role P y) :=
  ⟨x.1, fun b hb ho => ⟨(reR_out fun hp => by have := hP b hp; omega).trans (x.2 b hb ho).1, (x.2 b hb ho).2⟩⟩
/-- A free slot is taken. -/
theorem HRep.putSlot (r : HRep h hb role m G) {i : Nat} {o : AObj} {L : ArLoc} (hi : i < m.blocks.length) (ha : Ar h L (o.size + 1) [o]) (hr : ∀ b, L.fp b → role b = .slot i) :
    ∃ b, G.bs.a = some (ad b) ∧ Go.Ev.stOk h ((ad b).add (i * 1)) ∧ HRep (setc h ((ad b).add (i * 1)) (.pointer (some (ad L.pb)))) hb role { m with blocks := m.blocks.set i (some o) } { G with locs := G.locs.set i (some L) } ∧ Ext h role (setc h ((ad b).add (i * 1)) (.pointer (some (ad L.pb)))) role := by
  have hl := r.bs.len
  have hll := r.ll
  rw [List.length_map] at hl
  obtain ⟨b, hob, hba⟩ := own_some r.bs (by omega)
  have bs := r.bs
  rw [hob] at bs
  obtain ⟨h1, h2⟩ := bs.set (o := i) (by rw [List.length_map]; omega) (.pointer (some (ad L.pb)))
  refine ⟨b, hba, ?_⟩
  rw [add_ad, Nat.mul_one]
  have k : Kept (fun x => x = b) h (setc h ⟨b, i, none⟩ (.pointer (some (ad L.pb)))) := kept_setc h i _ rfl
  have hbb := r.bsr b hob
  have p := r.part (x := .bb) k (fun x e => .inl (e ▸ hbb)) (role' := role) (fun _ _ => rfl) fun b hb => r.fresh b (Nat.le_trans k.1 hb)
  refine ⟨h1, ⟨kept_row k r.row (fun e => by have := r.rh; rw [e, hbb] at this; cases this), p.rh, p.fresh, (p.half nofun).1, (p.half nofun).2, (p.spare nofun).1, (p.spare nofun).2, ?_, r.bsr, by simp [hll], fun j o' L' h1 h2 => ?_, (p.rs nofun).1, (p.rs nofun).2,
    (p.gs nofun).1, (p.gs nofun).2, (p.ts nofun).1, (p.ts nofun).2⟩, Ext.of (role := role) k (fun x e => by rw [e, hbb]; nofun) fun _ _ => rfl⟩
  · rw [hob]
    show SlAt 1 _ _ _ _ _ ((G.locs.set i (some L)).map ptrV)
    rw [List.map_set]
    exact h2
  · have h1 : (m.blocks.set i (some o))[j]? = some o' := h1
    have h2 : (G.locs.set i (some L))[j]? = some L' := h2
    by_cases hj : j = i
    · subst hj
      rw [List.getElem?_set_self hi] at h1
      rw [List.getElem?_set_self (by omega)] at h2
      obtain rfl := Option.some.inj h1
      obtain rfl := Option.some.inj h2
      exact ⟨ha.keep k fun b' hf e => (by have := hr b' hf; rw [e, hbb] at this; cases this), hr⟩
    · rw [List.getElem?_set_ne (Ne.symm hj)] at h1 h2
      exact p.bl j o' L' nofun h1 h2
/-- A slot more. -/
theorem HRep.addSlot (r : HRep h hb role m G) {o : AObj} {L : ArLoc} {e : Nat} {t : TypeId} (ha : Ar h L (o.size + 1) [o]) (hr : ∀ b, L.fp b → role b = .slot m.blocks.length) (hn : m.blocks.length ≤ 2000000) {K : Hp → Prop}
    (hK : ∀ h' role' G', HRep h' hb role' { m with blocks := m.blocks ++ [some o] } G' → Ext h role h' role' → K h') :
    Let (h.push (.cells #[.pointer (some (ad L.pb))] t)) fun h2 => appSl e 1 8 #[.pointer none] G.bs.a G.bs.n G.bs.c (some (nb h)) 1 h2 fun ra rn rc h3 => PtrOk (some (ad hb)) fun p => Go.Ev.stOk h3 (p.add 3) ∧ Let (setc h3 (p.add 3) (.slice ra rn rc)) fun h4 => K h4 := by
  have hbn := r.bs_n
  have hll := r.ll
  refine r.app (x := .bb) nofun nofun (s := G.bs) r.bs r.bsr rfl rfl (fun v hv => by obtain rfl := List.mem_singleton.1 hv; rfl) (by omega) (by omega) (by omega) fun h' role' a' c' gb' hrow p sl hg x kk => ?_
  have hL : ∀ b, L.fp b → role' b = .slot m.blocks.length := fun b hb' => (x.2.1 b (ha.lt b hb')).trans (hr b hb')
  have haL : Ar h' L (o.size + 1) [o] := ha.keep kk fun b hb' e => by
    rcases e with e | e
    · rw [hr b hb'] at e; cases e
    · have := hr b hb'; rw [e, r.rh] at this; cases this
  refine hK h' role' { G with bs := ⟨a', G.bs.n + 1, c'⟩, bb := some gb', locs := G.locs ++ [some L] } ⟨hrow, p.rh, p.fresh, (p.half nofun).1, (p.half nofun).2, (p.spare nofun).1, (p.spare nofun).2, ?_, fun b e => by obtain rfl := Option.some.inj e; exact hg, by simp [hll], fun j o' L' h1 h2 => ?_,
      (p.rs nofun).1, (p.rs nofun).2, (p.gs nofun).1, (p.gs nofun).2, (p.ts nofun).1, (p.ts nofun).2⟩ x
  · show SlAt 1 h' a' (G.bs.n + 1) c' (some gb') ((G.locs ++ [some L]).map ptrV)
    rw [List.map_append]
    exact sl
  · have h1 : (m.blocks ++ [some o])[j]? = some o' := h1
    have h2 : (G.locs ++ [some L])[j]? = some L' := h2
    rcases Nat.lt_trichotomy j m.blocks.length with hj | hj | hj
    · rw [List.getElem?_append_left hj] at h1
      rw [List.getElem?_append_left (by omega)] at h2
      exact p.bl j o' L' nofun h1 h2
    · subst hj
      rw [List.getElem?_append_right (Nat.le_refl _), Nat.sub_self] at h1
      rw [List.getElem?_append_right (by omega), hll, Nat.sub_self] at h2
      obtain rfl := Option.some.inj h1
      obtain rfl := Option.some.inj h2
      exact ⟨haL, hL⟩
    · rw [List.getElem?_eq_none (by simp; omega)] at h1; cases h1
/-- A flag more. -/
theorem HRep.addReach (r : HRep h hb role m G) {e : Nat} {t : TypeId} (hn : m.reached.length ≤ 2000000) {K : Hp → Prop} (hK : ∀ h' role' G', HRep h' hb role' { m with reached := m.reached ++ [false] } G' → G'.bs = G.bs → Ext h role h' role' → K h') :
    Let (h.push (.cells #[.bool false] t)) fun h2 => appSl e 1 1 #[.bool false] G.rs.a G.rs.n G.rs.c (some (nb h)) 1 h2 fun ra rn rc h3 => PtrOk (some (ad hb)) fun p => Go.Ev.stOk h3 (p.add 4) ∧ Let (setc h3 (p.add 4) (.slice ra rn rc)) fun h4 => K h4 := by
  have hrn := r.rs_n
  refine r.app (x := .rb) nofun nofun (s := G.rs) r.rs r.rsr rfl rfl (fun v hv => by obtain rfl := List.mem_singleton.1 hv; rfl) (by omega) (by omega) (by omega) fun h' role' a' c' gb' hrow p sl hg x kk => ?_
  refine hK h' role' { G with rs := ⟨a', G.rs.n + 1, c'⟩, rb := some gb' } ⟨hrow, p.rh, p.fresh, (p.half nofun).1, (p.half nofun).2, (p.spare nofun).1, (p.spare nofun).2, (p.bs nofun).1, (p.bs nofun).2, p.ll, fun i o L h1 h2 => p.bl i o L nofun h1 h2, ?_, fun b e => by obtain rfl := Option.some.inj e; exact hg,
    (p.gs nofun).1, (p.gs nofun).2, (p.ts nofun).1, (p.ts nofun).2⟩ rfl x
  show SlAt 1 h' a' (G.rs.n + 1) c' (some gb') ((m.reached ++ [false]).map Value.bool)
  rw [List.map_append]
  exact sl
/-- A handle more. -/
theorem HRep.addRoot (r : HRep h hb role m G) {e : Nat} {t : TypeId} {ref : Nat} (hn : m.roots.length ≤ 100000000) {K : Hp → Prop} (hK : ∀ h' role' G', HRep h' hb role' { m with roots := m.roots ++ [(true, ref)] } G' → Ext h role h' role' → K h') :
    Let (h.push (.cells #[.bool true, uv ref] t)) fun h2 => appSl e 2 16 #[.bool false, .int .u64 0] G.ts.a G.ts.n G.ts.c (some (nb h)) 1 h2 fun ra rn rc h3 => PtrOk (some (ad hb)) fun p => Go.Ev.stOk h3 (p.add 9) ∧ Let (setc h3 (p.add 9) (.slice ra rn rc)) fun h4 => K h4 := by
  have htn := r.ts_n
  refine r.app (x := .tb) nofun nofun (s := G.ts) r.ts r.tsr rfl rfl (fun v hv => ?_) (by omega) (by omega) (by omega) fun h' role' a' c' gb' hrow p sl hg x kk => ?_
  · have hv : v ∈ [Value.bool true, uv ref] := hv
    rcases List.mem_cons.1 hv with rfl | hv
    · rfl
    · obtain rfl := List.mem_singleton.1 hv; rfl
  refine hK h' role' { G with ts := ⟨a', G.ts.n + 1, c'⟩, tb := some gb' } ⟨hrow, p.rh, p.fresh, (p.half nofun).1, (p.half nofun).2, (p.spare nofun).1, (p.spare nofun).2, (p.bs nofun).1, (p.bs nofun).2, p.ll, fun i o L h1 h2 => p.bl i o L nofun h1 h2, (p.rs nofun).1, (p.rs nofun).2,
    (p.gs nofun).1, (p.gs nofun).2, ?_, fun b e => by obtain rfl := Option.some.inj e; exact hg⟩ x
  show SlAt 2 h' a' (G.ts.n + 1) c' (some gb') ((m.roots ++ [(true, ref)]).flatMap rootV)
  rw [List.flatMap_append]
  exact sl
end
end Go.Ev
