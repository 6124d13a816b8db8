/- The heap's struct: further cells that are written; the words of the document's heap; facts of a whole walk. No condition but the heap's own order. -/
import Derived.Test.YtdkopnbjommjdaaHE
set_option linter.all false
set_option maxRecDepth 100000
namespace Go.Ev
open Go.Proofs
/-- What a client knows of the blocks that are not the heap's. -/
def ExtO (h : Hp) (role : Nat → Role) (h' : Hp) (role' : Nat → Role) : Prop := h.size ≤ h'.size ∧ ∀ b, b < h.size → role b = .out → role' b = .out ∧ h'[b]? = h[b]?
theorem Ext.o {h h' : Hp} {role role' : Nat → Role} (x : Ext h role h' role') : ExtO h role h' role' := ⟨x.1, fun b hb ho => ⟨(x.2.1 b hb).trans ho, x.2.2 b hb ho⟩⟩
theorem ExtO.refl (h : Hp) (role : Nat → Role) : ExtO h role h role := (Ext.refl h role).o
theorem ExtO.trans {a b c : Hp} {ra rb rc : Nat → Role} (x : ExtO a ra b rb) (y : ExtO b rb c rc) : ExtO a ra c rc :=
  ⟨Nat.le_trans x.1 y.1, fun i hi ho => by
    obtain ⟨h1, h2⟩ := x.2 i hi ho
    obtain ⟨h3, h4⟩ := y.2 i (Nat.lt_of_lt_of_le hi x.1) h1
    exact ⟨h3, h4.trans h2⟩⟩
theorem ExtO.of {h h' : Hp} {role role' : Nat → Role} {S : Nat → Prop} (k : Kept S h h') (hS : ∀ b, S b → role b ≠ .out) (hr : ∀ b, b < h.size → role b = .out → role' b = .out) : ExtO h role h' role' :=
  ⟨k.1, fun b hb ho => ⟨hr b hb ho, k.2 b hb fun s => hS b s ho⟩⟩
/-- All parts but the halves and the struct's own cells. -/
structure HRest (h : Hp) (hb : Nat) (role : Nat → Role) (m : MH) (G : Geo) : Prop where
  rh : role hb = .hd
  fresh : ∀ b, h.size ≤ b → role b = .out
  bs : SlAt 1 h G.bs.a G.bs.n G.bs.c G.bb (G.locs.map ptrV)
  bsr : ∀ b, G.bb = some b → role b = .bb
  ll : G.locs.length = m.blocks.length
  bl : ∀ i o L, m.blocks[i]? = some o → G.locs[i]? = some L → BlockOk h role i o L
  rs : SlAt 1 h G.rs.a G.rs.n G.rs.c G.rb (m.reached.map Value.bool)
  rsr : ∀ b, G.rb = some b → role b = .rb
  gs : SlO 1 h G.gs.a G.gs.n G.gs.c G.gb (m.grey.map nv)
  gsr : ∀ b, G.gb = some b → role b = .gb
  ts : SlAt 2 h G.ts.a G.ts.n G.ts.c G.tb (m.roots.flatMap rootV)
  tsr : ∀ b, G.tb = some b → role b = .tb
section
variable {h h' : Hp} {hb : Nat} {role role' : Nat → Role} {m m' : MH} {G G' : Geo}
theorem HRep.rest (r : HRep h hb role m G) : HRest h hb role m G := ⟨r.rh, r.fresh, r.bs, r.bsr, r.ll, r.bl, r.rs, r.rsr, r.gs, r.gsr, r.ts, r.tsr⟩
theorem HRest.move (r : HRest h hb role m G) {S : Nat → Prop} (k : Kept S h h') (hS : ∀ b, S b → role b = .half ∨ role b = .spare ∨ role b = .hd ∨ role b = .out)
    (hr : ∀ b x, b < h.size → role b = x → x ≠ .half → x ≠ .spare → x ≠ .out → role' b = x) (hf : ∀ b, h'.size ≤ b → role' b = .out) : HRest h' hb role' m G := by
  have no : ∀ b y, role b = y → y ≠ .half → y ≠ .spare → y ≠ .hd → y ≠ .out → ¬ S b := fun b y e h1 h2 h3 h4 s => by
    rcases hS b s with h | h | h | h
    · exact h1 (e ▸ h)
    · exact h2 (e ▸ h)
    · exact h3 (e ▸ h)
    · exact h4 (e ▸ h)
  have tr : ∀ b y, role b = y → y ≠ .half → y ≠ .spare → y ≠ .out → role' b = y := fun b y e h1 h2 h3 => by
    rcases Nat.lt_or_ge b h.size with hl | hl
    · exact hr b y hl e h1 h2 h3
    · exact absurd (e ▸ r.fresh b hl) h3
  refine ⟨tr _ _ r.rh nofun nofun nofun, hf, slat_kept' r.bs k fun b hb => no _ _ (r.bsr b hb) nofun nofun nofun nofun, fun b hb => tr _ _ (r.bsr b hb) nofun nofun nofun, r.ll, fun i o L h1 h2 => ?_,
    slat_kept' r.rs k fun b hb => no _ _ (r.rsr b hb) nofun nofun nofun nofun, fun b hb => tr _ _ (r.rsr b hb) nofun nofun nofun,
    r.gs.kept k fun b hb => no _ _ (r.gsr b hb) nofun nofun nofun nofun, fun b hb => tr _ _ (r.gsr b hb) nofun nofun nofun,
    slat_kept' r.ts k fun b hb => no _ _ (r.tsr b hb) nofun nofun nofun nofun, fun b hb => tr _ _ (r.tsr b hb) nofun nofun nofun⟩
  have x0 := (r.bl i o L h1 h2).keep k fun b hb => no _ _ hb nofun nofun nofun nofun
  cases o <;> cases L <;> first | exact x0 | exact ⟨x0.1, fun b hb => tr _ _ (x0.2 b hb) nofun nofun nofun⟩
theorem HRest.cast (r : HRest h hb role m G) (h1 : m'.blocks = m.blocks) (h2 : m'.reached = m.reached) (h3 : m'.grey = m.grey) (h4 : m'.roots = m.roots) (g1 : G'.locs = G.locs) (g2 : G'.bs = G.bs) (g3 : G'.bb = G.bb)
    (g4 : G'.rs = G.rs) (g5 : G'.rb = G.rb) (g6 : G'.gs = G.gs) (g7 : G'.gb = G.gb) (g8 : G'.ts = G.ts) (g9 : G'.tb = G.tb) : HRest h hb role m' G' := by
  refine ⟨r.rh, r.fresh, ?_, ?_, ?_, ?_, ?_, ?_, ?_, ?_, ?_, ?_⟩
  · rw [g1, g2, g3]; exact r.bs
  · rw [g3]; exact r.bsr
  · rw [g1, h1]; exact r.ll
  · rw [g1, h1]; exact r.bl
  · rw [g4, g5, h2]; exact r.rs
  · rw [g5]; exact r.rsr
  · rw [g6, g7, h3]; exact r.gs
  · rw [g7]; exact r.gsr
  · rw [g8, g9, h4]; exact r.ts
  · rw [g9]; exact r.tsr
theorem HRest.rep (r : HRest h hb role m G) (row : Row h hb (hcells m G)) (half : Ar h G.Lh m.hz m.half) (halfr : ∀ b, G.Lh.fp b → role b = .half) (spare : Ar h G.Ls m.sz m.spare) (sparer : ∀ b, G.Ls.fp b → role b = .spare) : HRep h hb role m G :=
  ⟨row, r.rh, r.fresh, half, halfr, spare, sparer, r.bs, r.bsr, r.ll, r.bl, r.rs, r.rsr, r.gs, r.gsr, r.ts, r.tsr⟩
/-- One cell of the handles is written. -/
theorem HRep.setTb (r : HRep h hb role m G) {o : Nat} {v : Value} {roots' : List (Bool × Nat)} (ho : o < (m.roots.flatMap rootV).length) (hv : (m.roots.flatMap rootV).set o v = roots'.flatMap rootV) :
    ∃ b, G.ts.a = some (ad b) ∧ Go.Ev.stOk h ⟨b, o, none⟩ ∧ HRep (setc h ⟨b, o, none⟩ v) hb role { m with roots := roots' } G ∧ Ext h role (setc h ⟨b, o, none⟩ v) role := by
  have hl := r.ts.len
  obtain ⟨b, hob, ha⟩ := own_some r.ts (by omega)
  have ts := r.ts
  rw [hob] at ts
  obtain ⟨h1, h2⟩ := ts.set (o := o) ho v
  have k : Kept (fun x => x = b) h (setc h ⟨b, o, none⟩ v) := kept_setc h o _ rfl
  have htb := r.tsr b hob
  have p := r.part (x := .tb) k (fun x e => .inl (e ▸ htb)) (role' := role) (fun _ _ => rfl) fun b hb => r.fresh b (Nat.le_trans k.1 hb)
  refine ⟨b, ha, h1, ⟨kept_row k r.row (fun e => by have := r.rh; rw [e, htb] at this; cases this), p.rh, p.fresh, (p.half nofun).1, (p.half nofun).2, (p.spare nofun).1, (p.spare nofun).2, (p.bs nofun).1, (p.bs nofun).2, p.ll, fun i o L h1 h2 => p.bl i o L nofun h1 h2,
    (p.rs nofun).1, (p.rs nofun).2, (p.gs nofun).1, (p.gs nofun).2, ?_, r.tsr⟩, Ext.of (role := role) k (fun x e => by rw [e, htb]; nofun) fun _ _ => rfl⟩
  rw [hob]
  show SlAt 2 _ _ _ _ _ (roots'.flatMap rootV)
  rw [← hv]
  exact h2
theorem rootV_len : ∀ l : List (Bool × Nat), (l.flatMap rootV).length = 2 * l.length
  | [] => rfl
  | x :: l => by rw [List.flatMap_cons, List.length_append, rootV_len l, List.length_cons]; show 2 + _ = _; omega
theorem rootV_at : ∀ (l : List (Bool × Nat)) (i : Nat) (x : Bool × Nat), l[i]? = some x → (l.flatMap rootV)[i * 2]? = some (.bool x.1) ∧ (l.flatMap rootV)[i * 2 + 1]? = some (uv x.2)
  | [], _, _, h => by simp at h
  | y :: l, 0, x, h => by
    obtain rfl : y = x := by simpa using h
    exact ⟨rfl, rfl⟩
  | y :: l, i + 1, x, h => by
    have := rootV_at l i x (by simpa using h)
    rw [List.flatMap_cons]
    show (Value.bool y.1 :: uv y.2 :: l.flatMap rootV)[(i + 1) * 2]? = _ ∧ (Value.bool y.1 :: uv y.2 :: l.flatMap rootV)[(i + 1) * 2 + 1]? = _
    rw [show (i + 1) * 2 = i * 2 + 2 by omega, show i * 2 + 2 + 1 = (i * 2 + 1) + 2 by omega]
    exact this
theorem rootV_set2 : ∀ (l : List (Bool × Nat)) (i : Nat) (x : Bool × Nat) (n : Nat), l[i]? = some x → (l.flatMap rootV).set (i * 2 + 1) (uv n) = (l.set i (x.1, n)).flatMap rootV
  | [], _, _, _, h => by simp at h
  | y :: l, 0, x, n, h => by
    obtain rfl : y = x := by simpa using h
    rfl
  | y :: l, i + 1, x, n, h => by
    have := rootV_set2 l i x n (by simpa using h)
    rw [List.flatMap_cons, List.set_cons_succ, List.flatMap_cons, ← this]
    show (Value.bool y.1 :: uv y.2 :: l.flatMap rootV).set ((i + 1) * 2 + 1) _ = Value.bool y.1 :: uv y.2 :: _
    rw [show (i + 1) * 2 + 1 = (i * 2 + 1) + 1 + 1 by omega, List.set_cons_succ, List.set_cons_succ]
    rfl
theorem rootV_set1 : ∀ (l : List (Bool × Nat)) (i : Nat) (x : Bool × Nat) (b : Bool), l[i]? = some x → (l.flatMap rootV).set (i * 2) (.bool b) = (l.set i (b, x.2)).flatMap rootV
  | [], _, _, _, h => by simp at h
  | y :: l, 0, x, n, h => by
    obtain rfl : y = x := by simpa using h
    rfl
  | y :: l, i + 1, x, n, h => by
    have := rootV_set1 l i x n (by simpa using h)
    rw [List.flatMap_cons, List.set_cons_succ, List.flatMap_cons, ← this]
    show (Value.bool y.1 :: uv y.2 :: l.flatMap rootV).set ((i + 1) * 2) _ = Value.bool y.1 :: uv y.2 :: _
    rw [show (i + 1) * 2 = i * 2 + 1 + 1 by omega, List.set_cons_succ, List.set_cons_succ]
    rfl
/-- A handle's cells. -/
theorem HRep.root_at (r : HRep h hb role m G) {i : Nat} {x : Bool × Nat} (hx : m.roots[i]? = some x) : ∃ b, G.ts.a = some (ad b) ∧ cell h ((ad b).add (i * 2)) = some (.bool x.1) ∧ cell h (((ad b).add (i * 2)).add 1) = some (uv x.2) ∧ i < G.ts.n ∧ G.ts.n = m.roots.length := by
  have hl := r.ts.len
  rw [rootV_len] at hl
  have hi := (List.getElem?_eq_some_iff.1 hx).1
  obtain ⟨b, hob, ha⟩ := own_some r.ts (by omega)
  have ts := r.ts
  rw [hob] at ts
  obtain ⟨e1, e2⟩ := rootV_at _ _ _ hx
  refine ⟨b, ha, ?_, ?_, by omega, by omega⟩
  · rw [add_ad, ts.cell (by rw [rootV_len]; omega), e1]
  · rw [add_ad, add_mk, ts.cell (by rw [rootV_len]; omega), e2]
theorem HRep.ts_n (r : HRep h hb role m G) : G.ts.n = m.roots.length := by
  have hl := r.ts.len
  rw [rootV_len] at hl
  omega
theorem HRep.rs_n (r : HRep h hb role m G) : G.rs.n = m.reached.length := by
  have hl := r.rs.len
  rw [List.length_map] at hl
  omega
theorem HRep.bs_n (r : HRep h hb role m G) : G.bs.n = m.blocks.length := by
  have hl := r.bs.len
  rw [List.length_map, r.ll] at hl
  omega
theorem HRep.gs_n (r : HRep h hb role m G) : G.gs.n = m.grey.length := by
  have hl := r.gs.len
  rw [List.length_map] at hl
  omega
/-- The ref of a handle is written. -/
theorem HRep.setRoot (r : HRep h hb role m G) {i : Nat} {x : Bool × Nat} (hx : m.roots[i]? = some x) (n : Nat) :
    ∃ b, G.ts.a = some (ad b) ∧ Go.Ev.stOk h (((ad b).add (i * 2)).add 1) ∧ HRep (setc h (((ad b).add (i * 2)).add 1) (uv n)) hb role { m with roots := m.roots.set i (x.1, n) } G ∧ Ext h role (setc h (((ad b).add (i * 2)).add 1) (uv n)) role := by
  have hi := (List.getElem?_eq_some_iff.1 hx).1
  obtain ⟨b, h1, h2, h3, h4⟩ := r.setTb (by rw [rootV_len]; omega) (rootV_set2 _ _ _ n hx)
  refine ⟨b, h1, ?_⟩
  rw [add_ad, add_mk]
  exact ⟨h2, h3, h4⟩
theorem HRep.setUsed (r : HRep h hb role m G) {i : Nat} {x : Bool × Nat} (hx : m.roots[i]? = some x) (u : Bool) :
    ∃ b, G.ts.a = some (ad b) ∧ Go.Ev.stOk h ((ad b).add (i * 2)) ∧ HRep (setc h ((ad b).add (i * 2)) (.bool u)) hb role { m with roots := m.roots.set i (u, x.2) } G ∧ Ext h role (setc h ((ad b).add (i * 2)) (.bool u)) role := by
  have hi := (List.getElem?_eq_some_iff.1 hx).1
  obtain ⟨b, h1, h2, h3, h4⟩ := r.setTb (by rw [rootV_len]; omega) (rootV_set1 _ _ _ u hx)
  refine ⟨b, h1, ?_⟩
  rw [add_ad]
  exact ⟨h2, h3, h4⟩
/-- The line's head goes. -/
theorem HRep.popGrey (r : HRep h hb role m G) {x : Nat} {l : List Nat} (hg : m.grey = x :: l) :
    HRep (setc h ⟨hb, 5, none⟩ (.slice (if G.gs.c = 1 then G.gs.a else Option.map (fun x => x.add (1 * 1)) G.gs.a) (G.gs.n - 1) (G.gs.c - 1))) hb role { m with grey := l }
      { G with gs := ⟨if G.gs.c = 1 then G.gs.a else Option.map (fun x => x.add (1 * 1)) G.gs.a, G.gs.n - 1, G.gs.c - 1⟩ } ∧
    Ext h role (setc h ⟨hb, 5, none⟩ (.slice (if G.gs.c = 1 then G.gs.a else Option.map (fun x => x.add (1 * 1)) G.gs.a) (G.gs.n - 1) (G.gs.c - 1))) role := by
  have k : Kept (fun b => b = hb) h (setc h ⟨hb, 5, none⟩ (.slice (if G.gs.c = 1 then G.gs.a else Option.map (fun x => x.add (1 * 1)) G.gs.a) (G.gs.n - 1) (G.gs.c - 1))) := kept_setc h 5 _ rfl
  have p := r.part (x := .gb) k (fun b e => .inr (.inl (e ▸ r.rh))) (role' := role) (fun _ _ => rfl) fun b hb => r.fresh b (Nat.le_trans k.1 hb)
  have gs := r.gs
  rw [hg] at gs
  have gt := gs.tail
  refine ⟨⟨row_setc r.row 5 _, p.rh, p.fresh, (p.half nofun).1, (p.half nofun).2, (p.spare nofun).1, (p.spare nofun).2, (p.bs nofun).1, (p.bs nofun).2, p.ll, fun i o L h1 h2 => p.bl i o L nofun h1 h2, (p.rs nofun).1, (p.rs nofun).2, ?_, r.gsr, (p.ts nofun).1, (p.ts nofun).2⟩,
    Ext.of (role := role) k (fun x e => by rw [e, r.rh]; nofun) fun _ _ => rfl⟩
  exact gt.kept k fun b e => by intro e'; have := r.gsr b e; rw [e', r.rh] at this; cases this
/-- The line is given up. -/
theorem HRep.noGrey (r : HRep h hb role m G) : HRep (setc h ⟨hb, 5, none⟩ (.slice none 0 0)) hb role { m with grey := [] } { G with gs := ⟨none, 0, 0⟩, gb := none } ∧ Ext h role (setc h ⟨hb, 5, none⟩ (.slice none 0 0)) role := by
  have k : Kept (fun b => b = hb) h (setc h ⟨hb, 5, none⟩ (.slice none 0 0)) := kept_setc h 5 _ rfl
  have p := r.part (x := .gb) k (fun b e => .inr (.inl (e ▸ r.rh))) (role' := role) (fun _ _ => rfl) fun b hb => r.fresh b (Nat.le_trans k.1 hb)
  exact ⟨⟨row_setc r.row 5 _, p.rh, p.fresh, (p.half nofun).1, (p.half nofun).2, (p.spare nofun).1, (p.spare nofun).2, (p.bs nofun).1, (p.bs nofun).2, p.ll, fun i o L h1 h2 => p.bl i o L nofun h1 h2, (p.rs nofun).1, (p.rs nofun).2, slO_nil 1 _, nofun, (p.ts nofun).1, (p.ts nofun).2⟩,
    Ext.of (role := role) k (fun x e => by rw [e, r.rh]; nofun) fun _ _ => rfl⟩
/-- A slot's pointer. -/
theorem HRep.slot_at (r : HRep h hb role m G) {i : Nat} {L : Option ArLoc} (hL : G.locs[i]? = some L) : ∃ b, G.bs.a = some (ad b) ∧ cell h ((ad b).add (i * 1)) = some (ptrV L) := by
  have hl := r.bs.len
  rw [List.length_map] at hl
  have hi := (List.getElem?_eq_some_iff.1 hL).1
  obtain ⟨b, hob, ha⟩ := own_some r.bs (by omega)
  have bs := r.bs
  rw [hob] at bs
  refine ⟨b, ha, ?_⟩
  rw [add_ad, Nat.mul_one, bs.cell (by rw [List.length_map]; exact hi), List.getElem?_map, hL]
  rfl
/-- A slot becomes free. -/
theorem HRep.dropSlot (r : HRep h hb role m G) {i : Nat} (hi : i < m.blocks.length) :
    ∃ b, G.bs.a = some (ad b) ∧ Go.Ev.stOk h ((ad b).add (i * 1)) ∧ HRep (setc h ((ad b).add (i * 1)) (.pointer none)) hb role { m with blocks := m.blocks.set i none } { G with locs := G.locs.set i none } ∧ Ext h role (setc h ((ad b).add (i * 1)) (.pointer none)) role := by
  have hl := r.bs.len
  have hll := r.ll
  rw [List.length_map] at hl
  obtain ⟨b, hob, ha⟩ := own_some r.bs (by omega)
  have bs := r.bs
  rw [hob] at bs
  obtain ⟨h1, h2⟩ := bs.set (o := i) (by rw [List.length_map]; omega) (.pointer none)
  refine ⟨b, ha, ?_⟩
  rw [add_ad, Nat.mul_one]
  have k : Kept (fun x => x = b) h (setc h ⟨b, i, none⟩ (.pointer none)) := kept_setc h i _ rfl
  have hbb := r.bsr b hob
  have p := r.part (x := .bb) k (fun x e => .inl (e ▸ hbb)) (role' := role) (fun _ _ => rfl) fun b hb => r.fresh b (Nat.le_trans k.1 hb)
  refine ⟨h1, ⟨kept_row k r.row (fun e => by have := r.rh; rw [e, hbb] at this; cases this), p.rh, p.fresh, (p.half nofun).1, (p.half nofun).2, (p.spare nofun).1, (p.spare nofun).2, ?_, r.bsr, by simp [hll], fun j o L h1 h2 => ?_, (p.rs nofun).1, (p.rs nofun).2,
    (p.gs nofun).1, (p.gs nofun).2, (p.ts nofun).1, (p.ts nofun).2⟩, Ext.of (role := role) k (fun x e => by rw [e, hbb]; nofun) fun _ _ => rfl⟩
  · rw [hob]
    show SlAt 1 _ _ _ _ _ ((G.locs.set i none).map ptrV)
    rw [List.map_set]
    exact h2
  · have h1 : (m.blocks.set i none)[j]? = some o := h1
    have h2 : (G.locs.set i none)[j]? = some L := h2
    by_cases hj : j = i
    · subst hj
      rw [List.getElem?_set_self hi] at h1
      rw [List.getElem?_set_self (by omega)] at h2
      obtain rfl := Option.some.inj h1
      obtain rfl := Option.some.inj h2
      trivial
    · rw [List.getElem?_set_ne (Ne.symm hj)] at h1 h2
      exact p.bl j o L nofun h1 h2
/-- clear(h.reached) -/
theorem HRep.clrReached (r : HRep h hb role m G) {K : Hp → Prop} (hK : ∀ h', HRep h' hb role { m with reached := m.reached.map fun _ => false } G → Ext h role h' role → K h') : clrO #[.bool false] G.rs.a G.rs.n h K := by
  have hl := r.rs_n
  cases hob : G.rb with
  | none =>
    have rs := r.rs
    rw [hob] at rs
    obtain ⟨e1, e2, _⟩ := rs.nil rfl
    rw [e1]
    refine hK h ?_ (Ext.refl h role)
    have : m.reached = [] := List.length_eq_zero_iff.1 (by omega)
    have e : ({ m with reached := m.reached.map fun _ => false } : MH) = m := by rw [this]; cases m; simp only at this; subst this; rfl
    rw [e]; exact r
  | some b =>
    have rs := r.rs
    rw [hob] at rs
    obtain ⟨ha, hnc, j, hr, hc⟩ := rs.row b rfl
    rw [ha]
    show stsOk h (ad b) (zrow #[.bool false] (G.rs.n * 1)).toList 0 ∧ K (setcs h (ad b) (zrow #[.bool false] (G.rs.n * 1)).toList 0)
    rw [zrow_one]
    rw [List.length_map] at hc
    have hfit : 0 + 0 + (List.replicate G.rs.n (Value.bool false)).length ≤ (m.reached.map Value.bool ++ j).length := by simp; omega
    have hcell : ∀ v ∈ List.replicate G.rs.n (Value.bool false), isCell v = true := fun v hv => by rw [(List.mem_replicate.1 hv).2]; rfl
    refine ⟨stsOk_row _ h _ 0 0 hr hfit hcell, ?_⟩
    have k : Kept (fun x => x = b) h (setcs h (ad b) (List.replicate G.rs.n (Value.bool false)) 0) := kept_setcs h 0 0 _ rfl
    have hrb := r.rsr b hob
    have p := r.part (x := .rb) k (fun x e => .inl (e ▸ hrb)) (role' := role) (fun _ _ => rfl) fun b hb => r.fresh b (Nat.le_trans k.1 hb)
    refine hK _ ⟨kept_row k r.row (fun e => by have := r.rh; rw [e, hrb] at this; cases this), p.rh, p.fresh, (p.half nofun).1, (p.half nofun).2, (p.spare nofun).1, (p.spare nofun).2, (p.bs nofun).1, (p.bs nofun).2, p.ll, fun i o L h1 h2 => p.bl i o L nofun h1 h2, ?_, r.rsr,
      (p.gs nofun).1, (p.gs nofun).2, (p.ts nofun).1, (p.ts nofun).2⟩ (Ext.of (role := role) k (fun x e => by rw [e, hrb]; nofun) fun _ _ => rfl)
    rw [hob]
    have e1 : (m.reached.map fun _ => false).map Value.bool = List.replicate G.rs.n (Value.bool false) := by
      rw [List.map_map, hl]
      apply List.ext_getElem?
      intro i
      rw [List.getElem?_map, List.getElem?_replicate]
      by_cases hi : i < m.reached.length
      · rw [if_pos hi, List.getElem?_eq_getElem hi]; rfl
      · rw [if_neg hi, List.getElem?_eq_none (by omega)]; rfl
    show SlAt 1 _ _ _ _ _ ((m.reached.map fun _ => false).map Value.bool)
    rw [e1]
    refine ⟨by simp, nofun, fun b' e => ?_⟩
    obtain rfl := Option.some.inj e
    refine ⟨ha, hnc, j, ?_, by simp; omega⟩
    have := row_setcs (List.replicate G.rs.n (Value.bool false)) h _ 0 0 hr hfit
    have e2 : ovw (m.reached.map Value.bool ++ j) (0 + 0) (List.replicate G.rs.n (Value.bool false)) = List.replicate G.rs.n (Value.bool false) ++ j := by
      unfold ovw
      simp only [Nat.add_zero, List.take_zero, List.nil_append, Nat.zero_add, List.length_replicate]
      rw [List.drop_append, List.drop_eq_nil_of_le (by simp; omega), List.length_map, List.nil_append, hl, Nat.sub_self, List.drop_zero]
    rw [e2] at this
    exact this
/-- The halves' roles are turned. -/
def swapR (role : Nat → Role) (b : Nat) : Role := match role b with | .half => .spare | .spare => .half | x => x
theorem swapR_of {b : Nat} {x : Role} (e : role b = x) (h1 : x ≠ .half) (h2 : x ≠ .spare) : swapR role b = x := by
  unfold swapR
  rw [e]
  cases x <;> first | rfl | exact absurd rfl h1 | exact absurd rfl h2
theorem HRep.swap (r : HRep h hb role m G) : HRep (setc (setc h ⟨hb, 1, none⟩ (.pointer (some (ad G.Ls.pb)))) ⟨hb, 2, none⟩ (.pointer (some (ad G.Lh.pb)))) hb (swapR role) { m with half := m.spare, hz := m.sz, spare := m.half, sz := m.hz } { G with Lh := G.Ls, Ls := G.Lh } ∧
    ExtO h role (setc (setc h ⟨hb, 1, none⟩ (.pointer (some (ad G.Ls.pb)))) ⟨hb, 2, none⟩ (.pointer (some (ad G.Lh.pb)))) (swapR role) := by
  have k1 : Kept (fun b => b = hb) h (setc h ⟨hb, 1, none⟩ (.pointer (some (ad G.Ls.pb)))) := kept_setc h 1 _ rfl
  have k2 : Kept (fun b => b = hb) (setc h ⟨hb, 1, none⟩ (.pointer (some (ad G.Ls.pb)))) (setc (setc h ⟨hb, 1, none⟩ (.pointer (some (ad G.Ls.pb)))) ⟨hb, 2, none⟩ (.pointer (some (ad G.Lh.pb)))) := kept_setc _ 2 _ rfl
  have k := k1.trans k2
  have hrow := row_setc (row_setc r.row 1 (.pointer (some (ad G.Ls.pb)))) 2 (.pointer (some (ad G.Lh.pb)))
  have nhd : ∀ b x, role b = x → x ≠ .hd → ¬ b = hb := fun b x e hx s => hx (e ▸ s ▸ r.rh)
  have q : HRest _ hb (swapR role) m G := r.rest.move k (fun b e => .inr (.inr (.inl (e ▸ r.rh)))) (role' := swapR role) (fun b x _ e h1 h2 _ => swapR_of e h1 h2) fun b hb => swapR_of (r.fresh b (Nat.le_trans k.1 hb)) nofun nofun
  have q2 : HRest _ hb (swapR role) { m with half := m.spare, hz := m.sz, spare := m.half, sz := m.hz } { G with Lh := G.Ls, Ls := G.Lh } := q.cast rfl rfl rfl rfl rfl rfl rfl rfl rfl rfl rfl rfl rfl
  refine ⟨q2.rep hrow (r.spare.keep k fun b hb => nhd _ _ (r.sparer b hb) nofun) (fun b hb => ?_) (r.half.keep k fun b hb => nhd _ _ (r.halfr b hb) nofun) (fun b hb => ?_),
    ExtO.of (role := role) k (fun b e => by rw [e, r.rh]; nofun) fun b _ ho => swapR_of ho nofun nofun⟩
  · have := r.sparer b hb; unfold swapR; rw [this]
  · have := r.halfr b hb; unfold swapR; rw [this]
end
/-! ### The words of the document's heap -/
namespace RS
def rootW (s : RS) : Option Nat → Bool × Nat
  | some id => (true, s.ref id)
  | none => (false, 0)
def words (s : RS) (sp : List AObj) : MH :=
  { limit := s.limit, hz := s.half, half := s.small.map s.enc, sz := s.half, spare := sp, blocks := s.slots.map fun id => if id = 0 then none else some (s.enc id), reached := s.slots.map fun _ => false, grey := [],
    large := s.large, since := s.since, kept := s.kept, roots := s.roots.map s.rootW, r5 := (s.roots.filter Option.isSome).length, r6 := s.coll, r7 := s.resz, r8 := s.moved }
end RS
end Go.Ev
