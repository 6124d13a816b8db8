/- The shadow statements: the graph beside the heap, steps, look, the script's datum. No condition but that it is one. -/
import Derived.Test.YtgkhjbfkgckeoaaHZ
import Derived.Test.YtgkhjbfkgckeoaaMQ
import Derived.ProofKit
import Derived.SizedLaws
import Derived.LaidMore
import Derived.OpenShut
set_option linter.all false
set_option maxRecDepth 100000
namespace Go.Ev
open Go.Proofs
/-- An object as it must be. -/
structure NodeD where
  kind : Nat
  refs : List Nat
  raws : List Nat
namespace RS
/-- The same graph: each object that is there is as its node says. -/
structure Shd (s : RS) (nd : List NodeD) : Prop where
  len : nd.length = s.objs.length
  at_ : ∀ id, s.here id → nd[id]? = some ⟨(s.obj id).kind, (s.obj id).refs, (s.obj id).raws⟩
/-- Nothing new, nothing changed: some may be gone. -/
structure Sub (t s : RS) : Prop where
  len : t.objs.length = s.objs.length
  roots : t.roots = s.roots
  at_ : ∀ id, t.here id → s.here id ∧ (t.obj id).kind = (s.obj id).kind ∧ (t.obj id).refs = (s.obj id).refs ∧ (t.obj id).raws = (s.obj id).raws
section
variable {s t u : RS} {nd : List NodeD}
theorem Sub.refl (s : RS) : Sub s s := ⟨rfl, rfl, fun _ h => ⟨h, rfl, rfl, rfl⟩⟩
theorem Sub.trans (a : Sub u t) (b : Sub t s) : Sub u s :=
  ⟨a.len.trans b.len, a.roots.trans b.roots, fun id h => by
    obtain ⟨h1, h2, h3, h4⟩ := a.at_ id h
    obtain ⟨k1, k2, k3, k4⟩ := b.at_ id h1
    exact ⟨k1, h2.trans k2, h3.trans k3, h4.trans k4⟩⟩
theorem Sub.of (e1 : t.objs = s.objs) (e2 : t.small = s.small) (e3 : t.slots = s.slots) (e4 : t.roots = s.roots) : Sub t s := by
  have eo : ∀ id, t.obj id = s.obj id := fun id => by unfold obj; rw [e1]
  exact ⟨by rw [e1], e4, fun id h => ⟨by unfold here at h ⊢; rw [← e2, ← e3]; exact h, by rw [eo], by rw [eo], by rw [eo]⟩⟩
theorem Shd.sub (h : Shd s nd) (k : Sub t s) : Shd t nd := ⟨h.len.trans k.len.symm, fun id hid => by
  obtain ⟨h1, h2, h3, h4⟩ := k.at_ id hid
  rw [h2, h3, h4]
  exact h.at_ id h1⟩
theorem Sub.collection (v : s.Inv) : Sub s.collection s := ⟨collection_len s, rfl, fun id h => by
  have h1 := (collection_here v).1 h
  obtain ⟨k1, k2, k3, _⟩ := collection_kind v h1
  exact ⟨(GcOk.at v _).here h1, k1, k2, k3⟩⟩
theorem Sub.become (n : Nat) : Sub (s.become n) s := by
  unfold RS.become
  split
  · exact Sub.refl s
  · exact Sub.of rfl rfl rfl rfl
theorem Sub.fit (n : Nat) : Sub (s.fit n) s := by
  unfold RS.fit
  split
  · split
    · exact Sub.become _
    · exact Sub.refl s
  · split
    · exact Sub.become _
    · exact Sub.refl s
theorem Sub.collect (v : s.Inv) : Sub s.collect s := (Sub.fit 0).trans (Sub.collection v)
theorem Sub.resize (v : s.Inv) (n : Int) : Sub (s.resize n).1 s := by
  unfold RS.resize
  split
  · exact Sub.refl s
  · split
    · exact Sub.collection v
    · exact (Sub.become _).trans (Sub.collection v)
/-- A new object. -/
structure New (t s : RS) (k r w ref : Nat) : Prop where
  objs : ∃ b pl, t.objs = s.objs ++ [mkO k r w b pl]
  roots : t.roots = s.roots
  here : ∀ id, t.here id ↔ id = s.objs.length ∨ s.here id
  ref : t.ref s.objs.length = ref
theorem New.small (v : s.Inv) (k r w : Nat) : New (s.addSmall k r w) s k r w s.used := by
  have h1 := v.ob
  refine ⟨⟨_, _, rfl⟩, rfl, fun id => ?_, ?_⟩
  · show (id ∈ s.small ++ [s.objs.length] ∨ (id ≠ 0 ∧ id ∈ s.slots)) ↔ _
    rw [List.mem_append, List.mem_singleton]
    exact ⟨fun h => h.elim (fun h => h.elim (fun h => .inr (.inl h)) .inl) fun h => .inr (.inr h), fun h => h.elim (fun h => .inl (.inr h)) fun h => h.elim (fun h => .inl (.inl h)) .inr⟩
  · have eo : (s.addSmall k r w).obj s.objs.length = mkO k r w false s.used := by unfold obj addSmall; simp
    unfold RS.ref
    rw [if_neg (by omega), eo]
    rfl
theorem New.big (v : s.Inv) (k r w : Nat) : New (s.addBig k r w) s k r w (top + freeSlot s.slots) := by
  have h1 := v.ob
  obtain ⟨f1, f2, f3⟩ := freeSlot_facts s.slots
  refine ⟨⟨_, _, rfl⟩, rfl, fun id => ?_, ?_⟩
  · show (id ∈ s.small ∨ (id ≠ 0 ∧ id ∈ (s.addBig k r w).slots)) ↔ _
    have e : (id ≠ 0 ∧ id ∈ (s.addBig k r w).slots) ↔ id = s.objs.length ∨ (id ≠ 0 ∧ id ∈ s.slots) := by
      constructor
      · rintro ⟨h0, h⟩
        obtain ⟨i, hi⟩ := List.mem_iff_getElem?.1 h
        rw [addBig_slot] at hi
        split at hi
        · exact .inl (Option.some.inj hi).symm
        · exact .inr ⟨h0, List.mem_of_getElem? hi⟩
      · rintro (h | ⟨h0, h⟩)
        · refine ⟨by omega, ?_⟩
          exact List.mem_of_getElem? (i := freeSlot s.slots) (by rw [addBig_slot, if_pos rfl, h])
        · refine ⟨h0, ?_⟩
          obtain ⟨i, hi⟩ := List.mem_iff_getElem?.1 h
          have hil := (List.getElem?_eq_some_iff.1 hi).1
          refine List.mem_of_getElem? (i := i) ?_
          rw [addBig_slot, if_neg, hi]
          intro e
          subst e
          rw [f2 hil] at hi
          exact h0 (Option.some.inj hi).symm
    rw [e]
    exact ⟨fun h => h.elim (fun h => .inr (.inl h)) fun h => h.elim .inl fun h => .inr (.inr h), fun h => h.elim (fun h => .inr (.inl h)) fun h => h.elim .inl fun h => .inr (.inr h)⟩
  · have eo : (s.addBig k r w).obj s.objs.length = mkO k r w true (freeSlot s.slots) := by unfold obj addBig; simp
    unfold RS.ref
    rw [if_neg (by omega), eo]
    rfl
theorem New.shd {k r w ref : Nat} (n : New t s k r w ref) (v : s.Inv) (h : Shd s nd) : Shd t (nd ++ [⟨k, List.replicate r 0, List.replicate w 0⟩]) := by
  obtain ⟨⟨b, pl, e⟩, _, hh, _⟩ := n
  refine ⟨by rw [List.length_append, h.len, e, List.length_append]; rfl, fun id hid => ?_⟩
  by_cases hn : id = s.objs.length
  · subst hn
    have eo : t.obj s.objs.length = mkO k r w b pl := by unfold obj; rw [e]; simp
    rw [eo, List.getElem?_append_right (by rw [h.len]; exact Nat.le_refl _), h.len, Nat.sub_self]
    rfl
  · have h1 := ((hh id).1 hid).resolve_left hn
    have hlt := v.here_lt h1
    have eo : t.obj id = s.obj id := by unfold obj; rw [e, List.getD_eq_getElem?_getD, List.getElem?_append_left hlt, ← List.getD_eq_getElem?_getD]
    rw [eo, List.getElem?_append_left (by rw [h.len]; exact hlt)]
    exact h.at_ id h1
/-- What Alloc comes to: refused by the shape; full, at most something gone; one more. -/
theorem alloc_cases (v : s.Inv) (k r w : Int) : (¬ Shape k r w ∧ s.alloc k r w = (s, 0, 34)) ∨
    (Shape k r w ∧ ∃ t, Sub t s ∧ t.Inv ∧ (s.alloc k r w = (t, 0, 31) ∨ ∃ t' ref, s.alloc k r w = (t', ref, 0) ∧ New t' t k.toNat r.toNat w.toNat ref)) := by
  unfold alloc
  split
  · rename_i hs
    refine .inr ⟨hs, ?_⟩
    split
    · unfold block
      have v1 := v.block1 (2 + r.toNat + w.toNat)
      have s1 : Sub (s.block1 (2 + r.toNat + w.toNat)) s := by
        unfold block1
        split
        · exact Sub.collect v
        · exact Sub.refl s
      generalize s.block1 (2 + r.toNat + w.toNat) = g at v1 s1
      unfold block2
      split
      · split
        · exact ⟨g, s1, v1, .inl rfl⟩
        · rename_i hn
          simp only [not_or, Nat.not_lt] at hn
          obtain ⟨n1, n2, n3⟩ := hn
          have v2 : (g.become ((g.limit - g.large - (2 + r.toNat + w.toNat)) / 2)).Inv := v1.become n2 (by omega) n3
          refine ⟨_, (Sub.become _).trans s1, v2, .inr ⟨_, _, rfl, ?_⟩⟩
          have := New.big v2 k.toNat r.toNat w.toNat
          have es : (g.become ((g.limit - g.large - (2 + r.toNat + w.toNat)) / 2)).slots = g.slots := by unfold become; split <;> rfl
          rw [es] at this
          exact this
      · exact ⟨g, s1, v1, .inr ⟨_, _, rfl, New.big v1 _ _ _⟩⟩
    · have v1 := v.small1 (1 + r.toNat + w.toNat)
      have s1 : Sub (s.small1 (1 + r.toNat + w.toNat)) s := by
        unfold small1
        split
        · exact (Sub.fit _).trans (Sub.collection v)
        · exact Sub.refl s
      generalize s.small1 (1 + r.toNat + w.toNat) = g at v1 s1
      unfold small2
      split
      · exact ⟨g, s1, v1, .inl rfl⟩
      · exact ⟨g, s1, v1, .inr ⟨_, _, rfl, New.small v1 _ _ _⟩⟩
  · exact .inl ⟨by assumption, rfl⟩
/-- An object's fields are others. -/
theorem Shd.setObj (v : s.Inv) (h : Shd s nd) {id : Nat} (hid : s.here id) {o : RObj} (hk : o.kind = (s.obj id).kind) : Shd (s.setObj id o) (nd.set id ⟨o.kind, o.refs, o.raws⟩) := by
  have hlt := v.here_lt hid
  refine ⟨by rw [List.length_set, h.len]; unfold RS.setObj; simp, fun x hx => ?_⟩
  have hx : s.here x := hx
  by_cases e : x = id
  · subst e
    have eo : (s.setObj x o).obj x = o := by unfold obj RS.setObj; simp [hlt]
    rw [eo, List.getElem?_set_self (by rw [h.len]; exact hlt)]
  · have eo : (s.setObj id o).obj x = s.obj x := by unfold obj RS.setObj; rw [List.getD_eq_getElem?_getD, List.getElem?_set_ne (Ne.symm e), ← List.getD_eq_getElem?_getD]
    rw [eo, List.getElem?_set_ne (Ne.symm e)]
    exact h.at_ x hx
theorem Shd.roots (h : Shd s nd) (l : List (Option Nat)) : Shd (s.withRoots l) nd := ⟨h.len, h.at_⟩
/-- A handle taken round. -/
def handN (s : RS) (a : Int) : Nat := if s.roots.length = 0 then 0 else 1 + (a % (s.roots.length : Nat)).toNat
theorem handN_le (a : Int) : s.handN a ≤ s.roots.length := by
  unfold handN
  split
  · omega
  · have := Int.emod_lt_of_pos a (b := ((s.roots.length : Nat) : Int)) (by omega)
    omega
/-- A handle that holds something: its place, what At says. -/
theorem hand_at {a : Int} {n id : Nat} (v : s.Inv) (h : s.hand (n : Int) = some id) : 1 ≤ n ∧ n ≤ s.roots.length ∧ s.roots[n - 1]? = some (some id) ∧ (id = 0 ∨ s.here id) ∧ s.atF (n : Int) = (s.ref id, 0) := by
  have h1 := hand_here v h
  have h2 : s.atF (n : Int) = (s.ref id, 0) := by unfold atF; rw [h]
  unfold hand at h
  split at h
  · rename_i hb
    refine ⟨by omega, by omega, ?_, h1, h2⟩
    have e : ((n : Int) - 1).toNat = n - 1 := by omega
    rw [e, List.getD_eq_getElem?_getD] at h
    cases hr : s.roots[n - 1]? with
    | none => rw [hr] at h; cases h
    | some o => rw [hr] at h; obtain rfl : o = some id := h; rfl
  · cases h
end
end RS
end Go.Ev
set_option linter.all false
set_option maxRecDepth 100000
namespace Go.Ev
open Go.Proofs
structure NodG where
  rs : Sl
  ws : Sl
def ncells (p : NodeD × NodG) : List Value := [nv p.1.kind, slV p.2.rs, slV p.2.ws]
theorem ncells_len (p : NodeD × NodG) : (ncells p).length = 3 := rfl
/-- The shadow's own parts. -/
structure ShY where
  Y : Mem
  nd : List NodeD
  gs : List NodG
  rt : List (Option Nat)
  ns : Sl
  hs : Sl
  lim : Int
  last : Int
structure ShM (h : Hp) (sb hb : Nat) (y : ShY) : Prop where
  sy : Sep h y.Y
  y0 : y.Y.loc 0 = some sb
  c0 : y.Y.cont 0 = [.pointer (some (ad hb)), slV y.ns, slV y.hs, .int .i64 y.lim, .int .i64 y.last]
  gl : y.gs.length = y.nd.length
  nn : IsSl 3 y.Y 1 y.ns ((y.nd.zip y.gs).flatMap ncells)
  hh : IsSl 1 y.Y 2 y.hs (y.rt.map rootZ)
  rf : ∀ i n g, y.nd[i]? = some n → y.gs[i]? = some g → IsSl 1 y.Y (3 + 2 * i) g.rs (n.refs.map nv) ∧ IsSl 1 y.Y (4 + 2 * i) g.ws (n.raws.map uv)
section
variable {h h' : Hp} {sb hb : Nat} {y y' : ShY}
theorem ShM.keep (x : ShM h sb hb y) {S : Nat → Prop} (k : Kept S h h') (hS : ∀ b, y.Y.own b → ¬ S b) : ShM h' sb hb y := ⟨x.sy.keep k hS, x.y0, x.c0, x.gl, x.nn, x.hh, x.rf⟩
theorem ShM.p (x : ShM h sb hb y) : cell h (ad sb) = some (.pointer (some (ad hb))) := by rw [x.sy.cell0 x.y0, x.c0]; rfl
theorem ShM.cN (x : ShM h sb hb y) : cell h ((ad sb).add 1) = some (.slice y.ns.a y.ns.n y.ns.c) := by rw [x.sy.cellA x.y0, x.c0]; rfl
theorem ShM.cH (x : ShM h sb hb y) : cell h ((ad sb).add 2) = some (.slice y.hs.a y.hs.n y.hs.c) := by rw [x.sy.cellA x.y0, x.c0]; rfl
theorem ShM.cLim (x : ShM h sb hb y) : cell h ((ad sb).add 3) = some (.int .i64 y.lim) := by rw [x.sy.cellA x.y0, x.c0]; rfl
theorem ShM.cLast (x : ShM h sb hb y) : cell h ((ad sb).add 4) = some (.int .i64 y.last) := by rw [x.sy.cellA x.y0, x.c0]; rfl
theorem ShM.nn_n (x : ShM h sb hb y) : y.ns.n = y.nd.length := by
  have := x.nn.len
  rw [flat_len ncells_len, List.length_zip, x.gl] at this
  omega
theorem ShM.hh_n (x : ShM h sb hb y) : y.hs.n = y.rt.length := by have := x.hh.len; rw [List.length_map] at this; omega
/-- A node: where its cells are. -/
theorem ShM.node (x : ShM h sb hb y) {i : Nat} {n : NodeD} (hn : y.nd[i]? = some n) : ∃ nb g, y.Y.loc 1 = some nb ∧ y.gs[i]? = some g ∧ y.ns.a = some (ad nb) ∧ ((0 : Int) ≤ (i : Int) ∧ (i : Int) < ((y.ns.n : Nat) : Int)) ∧
    cell h ((ad nb).add (i * 3)) = some (nv n.kind) ∧ (∀ j, j < 3 → cell h (((ad nb).add (i * 3)).add j) = (ncells (n, g))[j]?) ∧ IsSl 1 y.Y (3 + 2 * i) g.rs (n.refs.map nv) ∧ IsSl 1 y.Y (4 + 2 * i) g.ws (n.raws.map uv) := by
  have hil := (List.getElem?_eq_some_iff.1 hn).1
  have hgl : i < y.gs.length := by rw [x.gl]; exact hil
  have hg : y.gs[i]? = some y.gs[i] := List.getElem?_eq_getElem hgl
  generalize y.gs[i] = g at hg
  have hz : (y.nd.zip y.gs)[i]? = some (n, g) := by rw [List.getElem?_zip_eq_some]; exact ⟨hn, hg⟩
  have hat := fun j (hj : j < 3) => flat_at ncells_len _ i j _ hz hj
  obtain ⟨nb, hb1, ha, _⟩ := x.nn.at x.sy (hat 0 (by omega))
  obtain ⟨q1, q2⟩ := x.rf i n g hn hg
  have hc : ∀ j, j < 3 → cell h (((ad nb).add (i * 3)).add j) = (ncells (n, g))[j]? := fun j hj => by
    obtain ⟨v, hv⟩ : ∃ v, (ncells (n, g))[j]? = some v := ⟨_, List.getElem?_eq_getElem (by rw [ncells_len]; exact hj)⟩
    obtain ⟨nb', hb', _, c⟩ := x.nn.at x.sy ((hat j hj).trans hv)
    rw [hb1] at hb'
    obtain rfl := Option.some.inj hb'
    rw [add_ad, add_mk, c, hv]
  refine ⟨nb, g, hb1, hg, ha, ⟨by omega, by rw [x.nn_n]; omega⟩, ?_, hc, q1, q2⟩
  have := hc 0 (by omega)
  rw [add_add, Nat.add_zero] at this
  rw [this]; rfl
/-- One cell of the struct's own. -/
theorem ShM.num (x : ShM h sb hb y) {a : Addr} {i : Nat} {v : Value} {ns' hs' : Sl} {lim' last' : Int} (ha : a = ⟨sb, i, none⟩) (hi : i < 5)
    (hc : [.pointer (some (ad hb)), slV y.ns, slV y.hs, .int .i64 y.lim, .int .i64 y.last].set i v = [.pointer (some (ad hb)), slV y.ns, slV y.hs, .int .i64 lim', .int .i64 last'])
    {K : Hp → Prop} (hK : ∀ h' Y', ShM h' sb hb { y with Y := Y', lim := lim', last := last' } → Chg h y.Y h' Y' → K h') : stOk h a ∧ Let (setc h a v) fun h' => K h' := by
  refine x.sy.st x.y0 ha (by rw [x.c0]; exact hi) fun h' sp ch => hK h' (y.Y.upd 0 (some sb) ((y.Y.cont 0).set i v)) ⟨sp, Mem.loc_self .., ?_, x.gl, x.nn.other (by omega), x.hh.other (by omega), fun j n g h1 h2 => ?_⟩ ch
  · exact (Mem.cont_self ..).trans (by rw [x.c0]; exact hc)
  · obtain ⟨q1, q2⟩ := x.rf j n g h1 h2
    exact ⟨q1.other (by omega), q2.other (by omega)⟩
theorem ShM.setLast (x : ShM h sb hb y) (n : Int) {K : Hp → Prop} (hK : ∀ h' Y', ShM h' sb hb { y with Y := Y', last := n } → Chg h y.Y h' Y' → K h') : stOk h ((ad sb).add 4) ∧ Let (setc h ((ad sb).add 4) (.int .i64 n)) fun h' => K h' :=
  x.num (ns' := y.ns) (hs' := y.hs) (lim' := y.lim) (last' := n) (add_ad _ _) (by omega) rfl hK
/-- A hand is written. -/
theorem ShM.setHand (x : ShM h sb hb y) {k : Nat} (hk : k < y.rt.length) (o : Option Nat) : ∃ b, y.hs.a = some (ad b) ∧ ∀ K : Hp → Prop, (∀ h' Y', ShM h' sb hb { y with Y := Y', rt := y.rt.set k o } → Chg h y.Y h' Y' → K h') →
    stOk h ((ad b).add (k * 1)) ∧ Let (setc h ((ad b).add (k * 1)) (rootZ o)) fun h' => K h' := by
  obtain ⟨b, hb1, ha, _, _⟩ := sl_at x.hh x.sy (List.getElem?_eq_getElem hk)
  refine ⟨b, ha, fun K hK => ?_⟩
  obtain ⟨q1, q2⟩ := x.hh.set hb1 (rootZ o) (o := k) (by rw [List.length_map]; exact hk)
  refine x.sy.st hb1 (by rw [add_ad, Nat.mul_one]) q1 fun h' sp ch => hK h' (y.Y.upd 2 (some b) ((y.Y.cont 2).set k (rootZ o))) ⟨sp, ?_, ?_, x.gl, x.nn.other (by omega), ?_, fun j n g h1 h2 => ?_⟩ ch
  · exact (Mem.loc_ne _ _ _ (by omega)).trans x.y0
  · exact (Mem.cont_ne _ _ _ (by omega)).trans x.c0
  · show IsSl 1 _ 2 y.hs ((y.rt.set k o).map rootZ)
    rw [List.map_set]; exact q2
  · obtain ⟨p1, p2⟩ := x.rf j n g h1 h2
    exact ⟨p1.other (by omega), p2.other (by omega)⟩
/-- A hand is read. -/
theorem ShM.hand (x : ShM h sb hb y) {k : Nat} {o : Option Nat} (hk : y.rt[k]? = some o) : ∃ b, y.hs.a = some (ad b) ∧ cell h ((ad b).add (k * 1)) = some (rootZ o) ∧ ((0 : Int) ≤ (k : Int) ∧ (k : Int) < ((y.hs.n : Nat) : Int)) := by
  obtain ⟨b, _, ha, hc, cb⟩ := sl_at x.hh x.sy hk
  exact ⟨b, ha, hc, cb⟩
theorem nzip_set {nd : List NodeD} {gs : List NodG} {i : Nat} {n n' : NodeD} {g : NodG} (hn : nd[i]? = some n) (hg : gs[i]? = some g) : (nd.set i n').zip gs = (nd.zip gs).set i (n', g) := by
  apply List.ext_getElem?
  intro j
  have h1 := (List.getElem?_eq_some_iff.1 hn).1
  have h2 := (List.getElem?_eq_some_iff.1 hg).1
  by_cases hj : j = i
  · subst hj
    rw [List.getElem?_set_self (by rw [List.length_zip]; omega), List.getElem?_zip_eq_some]
    exact ⟨List.getElem?_set_self h1, hg⟩
  · rw [List.getElem?_set_ne (Ne.symm hj)]
    simp only [List.zip, List.getElem?_zipWith]
    rw [List.getElem?_set_ne (Ne.symm hj)]
theorem cells_same {nd : List NodeD} {gs : List NodG} {i : Nat} {n n' : NodeD} {g : NodG} (hn : nd[i]? = some n) (hg : gs[i]? = some g) (hk : n'.kind = n.kind) : ((nd.set i n').zip gs).flatMap ncells = (nd.zip gs).flatMap ncells := by
  have hz : (nd.zip gs)[i]? = some (n, g) := by rw [List.getElem?_zip_eq_some]; exact ⟨hn, hg⟩
  rw [nzip_set hn hg, ← flat_set ncells_len _ i 0 _ (n', g) (nv n.kind) hz (by omega) (by unfold ncells; rw [hk]; rfl)]
  exact RS.set_same (by rw [flat_at ncells_len _ i 0 _ hz (by omega)]; rfl)
/-- A ref of a node is written. -/
theorem ShM.setRef (x : ShM h sb hb y) {i k : Nat} {n : NodeD} (hn : y.nd[i]? = some n) (hk : k < n.refs.length) (r : Nat) : ∃ b g, y.gs[i]? = some g ∧ g.rs.a = some (ad b) ∧ ∀ K : Hp → Prop,
    (∀ h' Y', ShM h' sb hb { y with Y := Y', nd := y.nd.set i { n with refs := n.refs.set k r } } → Chg h y.Y h' Y' → K h') → stOk h ((ad b).add (k * 1)) ∧ Let (setc h ((ad b).add (k * 1)) (nv r)) fun h' => K h' := by
  obtain ⟨nb, g, _, hg, _, _, _, _, i1, i2⟩ := x.node hn
  have hil := (List.getElem?_eq_some_iff.1 hn).1
  obtain ⟨b, hb1, ha, _, _⟩ := sl_at i1 x.sy (List.getElem?_eq_getElem hk)
  refine ⟨b, g, hg, ha, fun K hK => ?_⟩
  obtain ⟨q1, q2⟩ := i1.set hb1 (nv r) (o := k) (by rw [List.length_map]; exact hk)
  refine x.sy.st hb1 (by rw [add_ad, Nat.mul_one]) q1 fun h' sp ch => hK h' (y.Y.upd (3 + 2 * i) (some b) ((y.Y.cont (3 + 2 * i)).set k (nv r))) ⟨sp, ?_, ?_, by rw [List.length_set]; exact x.gl, ?_, x.hh.other (by omega), fun j m g2 h1 h2 => ?_⟩ ch
  · exact (Mem.loc_ne _ _ _ (by omega)).trans x.y0
  · exact (Mem.cont_ne _ _ _ (by omega)).trans x.c0
  · show IsSl 3 _ 1 y.ns (((y.nd.set i { n with refs := n.refs.set k r }).zip y.gs).flatMap ncells)
    rw [cells_same (n' := { n with refs := n.refs.set k r }) hn hg rfl]
    exact x.nn.other (by omega)
  · have h1 : (y.nd.set i { n with refs := n.refs.set k r })[j]? = some m := h1
    by_cases hj : j = i
    · subst hj
      rw [List.getElem?_set_self hil] at h1
      have h2 : y.gs[j]? = some g2 := h2
      rw [hg] at h2
      obtain rfl := Option.some.inj h1
      obtain rfl := Option.some.inj h2
      refine ⟨?_, i2.other (by omega)⟩
      show IsSl 1 _ _ g.rs ((n.refs.set k r).map nv)
      rw [List.map_set]; exact q2
    · rw [List.getElem?_set_ne (Ne.symm hj)] at h1
      obtain ⟨p1, p2⟩ := x.rf j _ _ h1 h2
      exact ⟨p1.other (by omega), p2.other (by omega)⟩
/-- A raw field of a node is written. -/
theorem ShM.setRaw (x : ShM h sb hb y) {i k : Nat} {n : NodeD} (hn : y.nd[i]? = some n) (hk : k < n.raws.length) (r : Nat) : ∃ b g, y.gs[i]? = some g ∧ g.ws.a = some (ad b) ∧ ∀ K : Hp → Prop,
    (∀ h' Y', ShM h' sb hb { y with Y := Y', nd := y.nd.set i { n with raws := n.raws.set k r } } → Chg h y.Y h' Y' → K h') → stOk h ((ad b).add (k * 1)) ∧ Let (setc h ((ad b).add (k * 1)) (uv r)) fun h' => K h' := by
  obtain ⟨nb, g, _, hg, _, _, _, _, i1, i2⟩ := x.node hn
  have hil := (List.getElem?_eq_some_iff.1 hn).1
  obtain ⟨b, hb1, ha, _, _⟩ := sl_at i2 x.sy (List.getElem?_eq_getElem hk)
  refine ⟨b, g, hg, ha, fun K hK => ?_⟩
  obtain ⟨q1, q2⟩ := i2.set hb1 (uv r) (o := k) (by rw [List.length_map]; exact hk)
  refine x.sy.st hb1 (by rw [add_ad, Nat.mul_one]) q1 fun h' sp ch => hK h' (y.Y.upd (4 + 2 * i) (some b) ((y.Y.cont (4 + 2 * i)).set k (uv r))) ⟨sp, ?_, ?_, by rw [List.length_set]; exact x.gl, ?_, x.hh.other (by omega), fun j m g2 h1 h2 => ?_⟩ ch
  · exact (Mem.loc_ne _ _ _ (by omega)).trans x.y0
  · exact (Mem.cont_ne _ _ _ (by omega)).trans x.c0
  · show IsSl 3 _ 1 y.ns (((y.nd.set i { n with raws := n.raws.set k r }).zip y.gs).flatMap ncells)
    rw [cells_same (n' := { n with raws := n.raws.set k r }) hn hg rfl]
    exact x.nn.other (by omega)
  · have h1 : (y.nd.set i { n with raws := n.raws.set k r })[j]? = some m := h1
    by_cases hj : j = i
    · subst hj
      rw [List.getElem?_set_self hil] at h1
      have h2 : y.gs[j]? = some g2 := h2
      rw [hg] at h2
      obtain rfl := Option.some.inj h1
      obtain rfl := Option.some.inj h2
      refine ⟨i1.other (by omega), ?_⟩
      show IsSl 1 _ _ g.ws ((n.raws.set k r).map uv)
      rw [List.map_set]; exact q2
    · rw [List.getElem?_set_ne (Ne.symm hj)] at h1
      obtain ⟨p1, p2⟩ := x.rf j _ _ h1 h2
      exact ⟨p1.other (by omega), p2.other (by omega)⟩
end
end Go.Ev
set_option linter.all false
set_option maxRecDepth 100000
namespace Go.Ev
open Go.Proofs
structure ShD where
  hb : Nat
  role : Nat → Role
  G : Geo
  sp : List AObj
  s : RS
  y : ShY
structure Shw (h : Hp) (sb : Nat) (D : ShD) : Prop where
  rp : HRep h D.hb D.role (D.s.words D.sp) D.G
  m : ShM h sb D.hb D.y
  d1 : ∀ b, D.y.Y.own b → D.role b = .out
  v : D.s.Inv
structure Coh (D : ShD) : Prop where
  lm : RS.Lim D.y.lim D.s
  rt : D.y.rt = D.s.roots
  sh : D.s.Shd D.y.nd
def ShD.foot (D : ShD) (b : Nat) : Prop := D.y.Y.own b ∨ D.role b ≠ .out
def Sts (h : Hp) (D : ShD) (h' : Hp) (D' : ShD) : Prop := Kept D.foot h h' ∧ ∀ b, D'.foot b → D.foot b ∨ h.size ≤ b
section
variable {h h' h2 : Hp} {sb : Nat} {D D' D2 : ShD}
theorem Sts.refl (h : Hp) (D : ShD) : Sts h D h D := ⟨Kept.refl _ _, fun _ => .inl⟩
theorem Sts.trans (a : Sts h D h' D') (b : Sts h' D' h2 D2) : Sts h D h2 D2 :=
  ⟨⟨Nat.le_trans a.1.1 b.1.1, fun i hi hn => (b.1.2 i (Nat.lt_of_lt_of_le hi a.1.1) fun o => (a.2 i o).elim hn fun h => by omega).trans (a.1.2 i hi hn)⟩,
    fun i o => (b.2 i o).elim (a.2 i) fun h => .inr (Nat.le_trans a.1.1 h)⟩
theorem Sts.of_kept (k : Kept N h h') : Sts h D h' D := ⟨k.mono fun _ _ e => e.elim, fun _ => .inl⟩
theorem Shw.foot_lt (x : Shw h sb D) {b : Nat} (hb : D.foot b) : b < h.size := by
  rcases hb with hb | hb
  · exact x.m.sy.own_lt hb
  · exact Nat.lt_of_not_le fun hl => hb (x.rp.fresh b hl)
theorem Shw.keep (x : Shw h sb D) {S : Nat → Prop} (k : Kept S h h') (hS : ∀ b, D.foot b → ¬ S b) : Shw h' sb D :=
  ⟨x.rp.keep k fun b hb => Classical.byContradiction fun hn => hS b (.inr hn) hb, x.m.keep k fun b hb => hS b (.inl hb), x.d1, x.v⟩
theorem Shw.keepN (x : Shw h sb D) (k : Kept N h h') : Shw h' sb D := x.keep k fun _ _ e => e
theorem Shw.prog (x : Shw h sb D) {role' : Nat → Role} {G' : Geo} {sp' : List AObj} {s' : RS} (r : HRep h' D.hb role' (s'.words sp') G') (e : ExtO h D.role h' role') (v : s'.Inv) :
    Shw h' sb { D with role := role', G := G', sp := sp', s := s' } ∧ Sts h D h' { D with role := role', G := G', sp := sp', s := s' } := by
  have k : Kept (fun b => D.role b ≠ .out) h h' := ⟨e.1, fun b hb hn => (e.2 b hb (Classical.byContradiction hn)).2⟩
  refine ⟨⟨r, x.m.keep k fun b hb hn => hn (x.d1 b hb), fun b hb => (e.2 b (x.m.sy.own_lt hb) (x.d1 b hb)).1, v⟩, k.mono fun b _ hb => .inr hb, fun b hb => ?_⟩
  rcases hb with hb | hb
  · exact .inl (.inl hb)
  · by_cases hl : h.size ≤ b
    · exact .inr hl
    · exact .inl (.inr fun ho => hb (e.2 b (by omega) ho).1)
theorem Shw.own (x : Shw h sb D) {y' : ShY} (m : ShM h' sb D.hb y') (c : Chg h D.y.Y h' y'.Y) : Shw h' sb { D with y := y' } ∧ Sts h D h' { D with y := y' } := by
  refine ⟨⟨x.rp.keep c.1 x.d1, m, fun b hb => ?_, x.v⟩, c.1.mono fun b _ hb => .inl hb, fun b hb => ?_⟩
  · rcases c.2 b hb with hb | hb
    · exact x.d1 b hb
    · exact x.rp.fresh b hb
  · rcases hb with hb | hb
    · exact (c.2 b hb).imp .inl id
    · exact .inl (.inr hb)
/-! ### The small functions -/
theorem round_ok {a : Int} {n : Nat} (hn : 0 < n) (hn2 : n < 100000000) (ha : -9223372036854775808 ≤ a ∧ a < 9223372036854775808) {R : Value → Hp → Prop} (hR : R (.int .i64 (a % (n : Int))) h) : CallTo Try.prog 59 #[.int .i64 a, .int .i64 (n : Int)] h R := by
  refine f59F_ok ?_
  unfold f59F
  have m1 := Int.emod_nonneg a (b := (n : Int)) (by omega)
  have m2 := Int.emod_lt_of_pos a (b := (n : Int)) (by omega)
  refine ⟨by omega, Cond_dec (fun hneg => ?_) fun hpos => ?_⟩
  · have e : Int.tmod a (n : Int) + (n : Int) = a % (n : Int) := by
      have h1 := Int.tmod_eq_emod (a := a) (b := (n : Int))
      split at h1
      · omega
      · omega
    rw [e, wrap_i64' (by omega) (by omega)]
    exact hR
  · have e : Int.tmod a (n : Int) = a % (n : Int) := by
      have h1 := Int.tmod_eq_emod (a := a) (b := (n : Int))
      have h3 := Int.emod_lt_of_pos a (b := (n : Int)) (by omega)
      split at h1
      · omega
      · omega
    rw [e]
    exact hR
theorem hand_ok (x : Shw h sb D) (c : Coh D) (hl : D.s.roots.length < 100000000) {a : Int} (ha : -9223372036854775808 ≤ a ∧ a < 9223372036854775808) {R : Value → Hp → Prop} (hR : R (.int .i64 ((D.s.handN a : Nat) : Int)) h) :
    CallTo Try.prog 34 #[.pointer (some (ad sb)), .int .i64 a] h R := by
  refine f34F_ok ?_
  unfold f34F
  have hn : D.y.hs.n = D.s.roots.length := by rw [x.m.hh_n, c.rt]
  refine PtrOk_mk ⟨D.y.hs, x.m.cH, Cond_b (fun h0 => ?_) fun h0 => ?_⟩
  · have h0 : ((D.y.hs.n : Nat) : Int) = 0 := by simpa using h0
    have h0 : D.s.roots.length = 0 := by omega
    have e : D.s.handN a = 0 := by unfold RS.handN; rw [if_pos h0]
    rw [e] at hR
    exact hR
  · have h0 : ((D.y.hs.n : Nat) : Int) ≠ 0 := by simpa using h0
    have h0 : D.s.roots.length ≠ 0 := by omega
    refine PtrOk_mk ⟨D.y.hs, x.m.cH, ?_⟩
    rw [hn]
    refine round_ok (by omega) hl ha ⟨_, rfl, ?_⟩
    have m1 := Int.emod_nonneg a (b := ((D.s.roots.length : Nat) : Int)) (by omega)
    have m2 := Int.emod_lt_of_pos a (b := ((D.s.roots.length : Nat) : Int)) (by omega)
    have e : ((D.s.handN a : Nat) : Int) = 1 + a % ((D.s.roots.length : Nat) : Int) := by unfold RS.handN; rw [if_neg h0]; omega
    rw [e] at hR
    rw [wrap_i64' (by omega) (by omega)]
    exact hR
/-- What a hand holds: the node, or -1. -/
def optI : Option Nat → Int
  | some id => (id : Int)
  | none => -1
def heldI (s : RS) (n : Int) : Int := optI (s.hand n)
theorem heldI_some {s : RS} {n : Int} (h : 0 ≤ heldI s n) : ∃ id : Nat, s.hand n = some id ∧ heldI s n = (id : Int) := by
  unfold heldI at h ⊢
  cases e : s.hand n with
  | some id => exact ⟨id, rfl, rfl⟩
  | none => rw [e] at h; exact absurd h (by show ¬ (0 : Int) ≤ -1; omega)
theorem held_ok (x : Shw h sb D) (c : Coh D) (hl : D.s.roots.length < 100000000) {n : Nat} (hn : n < 100000000) {R : Value → Hp → Prop} (hR : R (.int .i64 (heldI D.s n)) h) : CallTo Try.prog 37 #[.pointer (some (ad sb)), .int .i64 (n : Int)] h R := by
  refine f37F_ok ?_
  unfold f37F
  have hsn : D.y.hs.n = D.s.roots.length := by rw [x.m.hh_n, c.rt]
  have bad : ¬ (1 ≤ (n : Int) ∧ (n : Int) ≤ (D.s.roots.length : Nat)) → heldI D.s n = -1 := fun hb => by unfold heldI RS.hand; rw [if_neg hb]; rfl
  refine Cond_dec (fun h1 => ?_) fun h1 => ?_
  · unfold f37K1
    rw [bad (by omega)] at hR
    exact Cond_t rfl hR
  refine PtrOk_mk ⟨D.y.hs, x.m.cH, ?_⟩
  unfold f37K1
  refine Cond_dec (fun h2 => ?_) fun h2 => ?_
  · rw [bad (by omega)] at hR
    exact hR
  have hk : n - 1 < D.s.roots.length := by omega
  obtain ⟨o, ho⟩ : ∃ o, D.s.roots[n - 1]? = some o := ⟨_, List.getElem?_eq_getElem hk⟩
  obtain ⟨b, ha, hc, cb⟩ := x.m.hand (k := n - 1) (o := o) (by rw [c.rt]; exact ho)
  have e : IntKind.wrap .i64 ((n : Int) - (1 : Int)) = ((n - 1 : Nat) : Int) := by rw [wrap_i64' (by omega) (by omega)]; omega
  have eh : D.s.hand (n : Int) = o := by
    unfold RS.hand
    have e2 : ((n : Int) - 1).toNat = n - 1 := by omega
    rw [if_pos ⟨by omega, by omega⟩, e2, List.getD_eq_getElem?_getD, ho]
    rfl
  rw [e, Int.toNat_natCast]
  have hh : heldI D.s n = optI o := by unfold heldI; rw [eh]
  rw [hh] at hR
  refine PtrOk_mk ⟨D.y.hs, x.m.cH, cb, PtrOk_of ha ?_⟩
  cases o with
  | some id => exact ⟨_, hc, hR⟩
  | none => exact ⟨_, hc, hR⟩
end
end Go.Ev
set_option linter.all false
set_option maxRecDepth 100000
namespace Go.Ev
open Go.Proofs
def giveL (l : List (Option Nat)) (id : Nat) : List (Option Nat) := if RS.freeAt l < l.length then l.set (RS.freeAt l) (some id) else l ++ [some id]
section
variable {h h' h2 : Hp} {sb hb : Nat} {D D' D2 : ShD} {y : ShY}
theorem ShM.giveApp (x : ShM h sb hb y) (id : Nat) (hl : y.rt.length < 100000000) {K : Hp → Prop}
    (hK : ∀ h2 Y' hs', ShM h2 sb hb { y with Y := Y', rt := y.rt ++ [some id], hs := hs' } → Chg h y.Y h2 Y' → K h2) :
    Let (h.push (.cells #[.int .i64 (id : Int)] 3)) fun h2 => appSl 3 1 8 #[.int .i64 0] y.hs.a y.hs.n y.hs.c (some (nb h)) 1 h2 fun ra rn rc h3 => PtrOk (some (ad sb)) fun p => stOk h3 (p.add 2) ∧ Let (setc h3 (p.add 2) (.slice ra rn rc)) fun h4 => K h4 := by
  have hn := x.hh_n
  refine x.hh.app1 (arr := #[.int .i64 (id : Int)]) (t := 3) (bys := 8) x.sy rfl rfl (fun u hu => by rw [List.mem_singleton.1 hu]; rfl) (by omega) (by omega) fun a' c' h3 ob c q1 q2 q3 => PtrOk_mk ?_
  have l0 : (y.Y.upd 2 ob c).loc 0 = some sb := (Mem.loc_ne _ _ _ (by omega)).trans x.y0
  have k0 : (y.Y.upd 2 ob c).cont 0 = [.pointer (some (ad hb)), slV y.ns, slV y.hs, .int .i64 y.lim, .int .i64 y.last] := (Mem.cont_ne _ _ _ (by omega)).trans x.c0
  refine q1.st l0 (o := 2) (add_ad _ _) (by rw [k0]; show 2 < 5; omega) fun h4 q4 q5 => ?_
  refine hK h4 ((y.Y.upd 2 ob c).upd 0 (some sb) (((y.Y.upd 2 ob c).cont 0).set 2 (.slice a' (y.hs.n + 1) c'))) ⟨a', y.hs.n + 1, c'⟩ ⟨q4, Mem.loc_self .., ?_, x.gl, (x.nn.other (by omega)).other (by omega), ?_, fun i n g h1 h2 => ?_⟩ (q3.trans q5)
  · exact (Mem.cont_self ..).trans (by rw [k0]; rfl)
  · show IsSl 1 _ 2 _ ((y.rt ++ [some id]).map rootZ)
    rw [List.map_append]
    exact q2.other (by omega)
  · obtain ⟨p1, p2⟩ := x.rf i n g h1 h2
    exact ⟨(p1.other (by omega)).other (by omega), (p2.other (by omega)).other (by omega)⟩
theorem give_ok (x : Shw h sb D) (hl : D.y.rt.length < 100000000) {id : Nat} {R : Value → Hp → Prop}
    (hR : ∀ h' Y' hs', Shw h' sb { D with y := { D.y with Y := Y', rt := giveL D.y.rt id, hs := hs' } } → Sts h D h' { D with y := { D.y with Y := Y', rt := giveL D.y.rt id, hs := hs' } } → R (.int .i64 ((RS.freeAt D.y.rt + 1 : Nat) : Int)) h') :
    CallTo Try.prog 80 #[.pointer (some (ad sb)), .int .i64 (id : Int)] h R := by
  have hn := x.m.hh_n
  refine f80F_ok ?_
  unfold f80F
  refine f80L1_rule (fun q s0 s1 s5 h' => ∃ i : Nat, i ≤ D.y.rt.length ∧ q = D.y.rt.length - i ∧ s0 = some (ad sb) ∧ s1 = (id : Int) ∧ s5 = (i : Int) ∧ h' = h ∧ ∀ j, j < i → ∃ x, D.y.rt[j]? = some (some x)) D.y.rt.length ⟨0, Nat.zero_le _, rfl, rfl, rfl, rfl, rfl, fun j hj => by omega⟩ ?_
  rintro q s0 s1 s5 g h1 ⟨i, hi, rfl, rfl, rfl, rfl, rfl, hp⟩
  unfold f80L1
  refine PtrOk_mk ⟨D.y.hs, x.m.cH, Cond_dec (fun hlt => ?_) fun hge => ?_⟩
  · have hil : i < D.y.rt.length := by omega
    obtain ⟨o, ho⟩ : ∃ o, D.y.rt[i]? = some o := ⟨_, List.getElem?_eq_getElem hil⟩
    obtain ⟨b, ha, hc, cb⟩ := x.m.hand ho
    refine PtrOk_mk ⟨D.y.hs, x.m.cH, cb, PtrOk_of ha ?_⟩
    rw [Int.toNat_natCast]
    have ew : IntKind.wrap .i64 ((i : Int) + (1 : Int)) = ((i + 1 : Nat) : Int) := by rw [wrap_i64' (by omega) (by omega)]; rfl
    cases o with
    | some z =>
      refine ⟨_, hc, Cond_f (decide_eq_false (by omega)) ⟨D.y.rt.length - (i + 1), by omega, i + 1, hil, rfl, rfl, rfl, ew, rfl, fun j hj => ?_⟩⟩
      by_cases e : j = i
      · exact ⟨z, e ▸ ho⟩
      · exact hp j (by omega)
    | none =>
      have ef : RS.freeAt D.y.rt = i := RS.freeAt_eq _ _ hp (.inl ho)
      refine ⟨_, hc, Cond_t rfl (PtrOk_mk ⟨D.y.hs, x.m.cH, cb, PtrOk_of ha ?_⟩)⟩
      obtain ⟨b2, ha2, hset⟩ := x.m.setHand hil (some id)
      rw [ha] at ha2
      obtain rfl : b = b2 := by
        have := Option.some.inj ha2
        injection this
      refine hset _ fun h2 Y' m2 ch => ?_
      obtain ⟨x2, s2⟩ := x.own m2 ch
      have eg : giveL D.y.rt id = D.y.rt.set i (some id) := by unfold giveL; rw [ef, if_pos hil]
      rw [ew]
      have := hR h2 Y' D.y.hs (by rw [eg]; exact x2) (by rw [eg]; exact s2)
      rw [ef] at this
      exact this
  · have hie : i = D.y.rt.length := by omega
    have ef : RS.freeAt D.y.rt = i := RS.freeAt_eq _ _ hp (.inr hie)
    have eg : giveL D.y.rt id = D.y.rt ++ [some id] := by unfold giveL; rw [ef, if_neg (by omega)]
    refine PtrOk_mk ⟨D.y.hs, x.m.cH, x.m.giveApp id hl fun h2 Y' hs' m2 ch => PtrOk_mk ⟨hs', m2.cH, ?_⟩⟩
    obtain ⟨x2, s2⟩ := x.own m2 ch
    have := hR h2 Y' hs' (by rw [eg]; exact x2) (by rw [eg]; exact s2)
    have en : hs'.n = RS.freeAt D.y.rt + 1 := by
      have h1 := m2.hh_n
      have h2 : (D.y.rt ++ [some id]).length = D.y.rt.length + 1 := by simp
      have h3 : hs'.n = (D.y.rt ++ [some id]).length := h1
      omega
    rw [en]
    exact this
/-- Root of a ref that is the node's. -/
theorem rooted_ok (x : Shw h sb D) (c : Coh D) (hl : D.s.roots.length < 100000000) {ref id : Nat} (hr : ref < 18446744073709551616) (hg : D.s.goodR ref = true) (hi : D.s.ident ref = id) {R : Value → Hp → Prop}
    (hR : ∀ h' D', Shw h' sb D' → Coh D' → Sts h D h' D' → D'.s = (D.s.rootF ref).1 → D'.y.nd = D.y.nd → D'.y.lim = D.y.lim → D'.y.last = D.y.last → D'.hb = D.hb → R (.bool true) h') : CallTo Try.prog 60 #[.pointer (some (ad sb)), uv ref, .int .i64 (id : Int)] h R := by
  refine f60F_ok ?_
  unfold f60F
  have er : (D.s.rootF ref).2 = (RS.freeAt D.s.roots + 1, 0) := by unfold RS.rootF; rw [if_pos hg]
  have es : (D.s.rootF ref).1 = D.s.withRoots (giveL D.s.roots id) := by unfold RS.rootF giveL; rw [if_pos hg, hi]
  refine PtrOk_mk ⟨_, x.m.p, hroot_ok x.v x.rp hl hr fun h1 role' G' rp' ex => ⟨_, _, rfl, ?_⟩⟩
  obtain ⟨x1, s1⟩ := x.prog rp' ex (x.v.root hl)
  rw [er]
  refine Cond_t rfl (give_ok x1 (by rw [c.rt]; exact hl) fun h2 Y' hs' x2 s2 => ⟨_, rfl, ?_⟩)
  rw [show (D.y.rt : List (Option Nat)) = D.s.roots from c.rt] at *
  rw [beq_self_eq_true]
  refine hR h2 _ x2 ⟨RS.rootF_lm c.lm, ?_, ?_⟩ (s1.trans s2) rfl rfl rfl rfl rfl
  · show giveL D.s.roots id = (D.s.rootF ref).1.roots
    rw [es]; rfl
  · show ((D.s.rootF ref).1).Shd D.y.nd
    rw [es]
    exact c.sh.roots _
end
end Go.Ev
set_option linter.all false
set_option maxRecDepth 100000
namespace Go.Ev
open Go.Proofs
/-- One move of a script, as data. -/
structure MvL where
  dw : Int
  a : Int
  b : Int
  c : Int
  hh : Int
  gg : Int
  v : Nat
  d : Sl
  bytes : List Nat
def I6 (n : Int) : Prop := -9223372036854775808 ≤ n ∧ n < 9223372036854775808
structure MvL.Ok (o : MvL) (h : Hp) : Prop where
  dw : I6 o.dw
  a : I6 o.a
  b : I6 o.b
  c : I6 o.c
  hh : I6 o.hh
  gg : I6 o.gg
  v : o.v < 18446744073709551616
  rd : ReadsO h o.d.a (o.bytes.map bv)
  dn : o.d.n = o.bytes.length
  by8 : ∀ c ∈ o.bytes, c < 256
  long : o.bytes.length < 140737488355328
  old : ∀ p, o.d.a = some p → o.bytes ≠ [] → p.block < h.size
def MvL.cells (o : MvL) : List Value := [iv o.dw, iv o.a, iv o.b, iv o.c, iv o.hh, iv o.gg, uv o.v, slV o.d]
@[reducible] def MvL.val (o : MvL) : Value := .agg #[.int .i64 o.dw, .int .i64 o.a, .int .i64 o.b, .int .i64 o.c, .int .i64 o.hh, .int .i64 o.gg, .int .u64 (o.v : Int), .slice o.d.a o.d.n o.d.c]
section
variable {h h' h2 : Hp} {sb hb : Nat} {D D' D2 : ShD} {y : ShY} {o : MvL}
theorem MvL.Ok.keep (k : o.Ok h) {S : Nat → Prop} (kk : Kept S h h') (hS : ∀ p, o.d.a = some p → o.bytes ≠ [] → ¬ S p.block) : o.Ok h' :=
  ⟨k.dw, k.a, k.b, k.c, k.hh, k.gg, k.v, reads_kept2 kk k.rd fun p hp hn => have hn' : o.bytes ≠ [] := fun e => hn (by rw [e]; rfl); ⟨k.old p hp hn', hS p hp hn'⟩, k.dn, k.by8, k.long, fun p hp hn => Nat.lt_of_lt_of_le (k.old p hp hn) kk.1⟩
theorem mvc {b : Nat} (row : Row h b o.cells) (i : Nat) : cell h ((ad b).add i) = o.cells[i]? := by rw [add_ad]; exact cell_row row i
theorem ShM.pushPart (x : ShM h sb hb y) {j : Nat} (hj : 3 + 2 * y.nd.length ≤ j) (arr : Array Value) (t : TypeId) : ShM (h.push (.cells arr t)) sb hb { y with Y := y.Y.upd j (some h.size) arr.toList } ∧ Chg h y.Y (h.push (.cells arr t)) (y.Y.upd j (some h.size) arr.toList) := by
  obtain ⟨p1, p2⟩ := x.sy.push j arr t
  refine ⟨⟨p1, (Mem.loc_ne _ _ _ (by omega)).trans x.y0, (Mem.cont_ne _ _ _ (by omega)).trans x.c0, x.gl, x.nn.other (by omega), x.hh.other (by omega), fun i n g h1 h2 => ?_⟩, p2⟩
  have hi := (List.getElem?_eq_some_iff.1 h1).1
  have hi : i < y.nd.length := hi
  obtain ⟨q1, q2⟩ := x.rf i n g h1 h2
  exact ⟨q1.other (by omega), q2.other (by omega)⟩
theorem ShM.addNode (x : ShM h sb hb y) (hl : y.nd.length < 100000000) {k : Nat} {r w rbk wbk : Nat} (e1 : y.Y.loc (3 + 2 * y.nd.length) = some rbk) (e2 : y.Y.cont (3 + 2 * y.nd.length) = (List.replicate r 0).map nv) (e3 : y.Y.loc (4 + 2 * y.nd.length) = some wbk)
    (e4 : y.Y.cont (4 + 2 * y.nd.length) = (List.replicate w 0).map uv) {K : Hp → Prop}
    (hK : ∀ h2 Y' ns' gs', ShM h2 sb hb { y with Y := Y', nd := y.nd ++ [⟨k, List.replicate r 0, List.replicate w 0⟩], gs := gs', ns := ns' } → Chg h y.Y h2 Y' → K h2) :
    Let (h.push (.cells #[.int .i64 (k : Int), .slice (some (ad rbk)) r r, .slice (some (ad wbk)) w w] 69)) fun h2 => (∃ y0 : Sl, cell h2 ((ad sb).add 1) = some (.slice y0.a y0.n y0.c) ∧ Next.value (.slice y0.a y0.n y0.c) = Next.value (.slice y.ns.a y.ns.n y.ns.c)) ∧
      appSl 69 3 56 #[.int .i64 0, .slice none 0 0, .slice none 0 0] y.ns.a y.ns.n y.ns.c (some (nb h)) 1 h2 fun ra rn rc h3 => PtrOk (some (ad sb)) fun p => stOk h3 (p.add 1) ∧ Let (setc h3 (p.add 1) (.slice ra rn rc)) fun h4 => K h4 := by
  have hn := x.nn_n
  refine Let_mk fun h2 eh => ?_
  have k2 : Kept N h h2 := eh ▸ kept_push _ _ _
  have row2 : Row h2 h.size [.int .i64 (k : Int), .slice (some (ad rbk)) r r, .slice (some (ad wbk)) w w] := eh ▸ row_new h _ 69
  have x2 := x.keep k2 fun _ _ e => e
  refine ⟨⟨y.ns, x2.cN, rfl⟩, [.int .i64 (k : Int), .slice (some (ad rbk)) r r, .slice (some (ad wbk)) w w], reads_row row2 (fun j v hj => by rw [Nat.zero_add]; exact hj), rfl, ?_⟩
  refine x2.nn.app x2.sy rfl rfl (fun u hu => ?_) (by omega) (by omega) fun a' c' h3 ob c q1 q2 q3 => PtrOk_mk ?_
  · rcases List.mem_cons.1 hu with rfl | hu
    · rfl
    · rcases List.mem_cons.1 hu with rfl | hu
      · rfl
      · rw [List.mem_singleton.1 hu]; rfl
  have l0 : (y.Y.upd 1 ob c).loc 0 = some sb := (Mem.loc_ne _ _ _ (by omega)).trans x.y0
  have k0 : (y.Y.upd 1 ob c).cont 0 = [.pointer (some (ad hb)), slV y.ns, slV y.hs, .int .i64 y.lim, .int .i64 y.last] := (Mem.cont_ne _ _ _ (by omega)).trans x.c0
  refine q1.st l0 (o := 1) (add_ad _ _) (by rw [k0]; show 1 < 5; omega) fun h4 q4 q5 => ?_
  refine hK h4 ((y.Y.upd 1 ob c).upd 0 (some sb) (((y.Y.upd 1 ob c).cont 0).set 1 (.slice a' (y.ns.n + 1) c'))) ⟨a', y.ns.n + 1, c'⟩ (y.gs ++ [⟨⟨some (ad rbk), r, r⟩, ⟨some (ad wbk), w, w⟩⟩])
    ⟨q4, Mem.loc_self .., ?_, by show (y.gs ++ _).length = (y.nd ++ _).length; rw [List.length_append, List.length_append, x.gl]; rfl, ?_, (x.hh.other (by omega)).other (by omega), fun i n g h1 h2 => ?_⟩ ((Chg.of_kept k2).trans (q3.trans q5))
  · exact (Mem.cont_self ..).trans (by rw [k0]; rfl)
  · show IsSl 3 _ 1 _ (((y.nd ++ [_]).zip (y.gs ++ [_])).flatMap ncells)
    rw [List.zip_append x.gl.symm, List.flatMap_append]
    exact q2.other (by omega)
  · have h1 : (y.nd ++ [⟨k, List.replicate r 0, List.replicate w 0⟩])[i]? = some n := h1
    have h2 : (y.gs ++ [⟨⟨some (ad rbk), r, r⟩, ⟨some (ad wbk), w, w⟩⟩])[i]? = some g := h2
    by_cases hi : i < y.nd.length
    · rw [List.getElem?_append_left hi] at h1
      rw [List.getElem?_append_left (by rw [x.gl]; exact hi)] at h2
      obtain ⟨p1, p2⟩ := x.rf i n g h1 h2
      exact ⟨(p1.other (by omega)).other (by omega), (p2.other (by omega)).other (by omega)⟩
    · have hie : i = y.nd.length := by
        have := (List.getElem?_eq_some_iff.1 h1).1
        simp at this
        omega
      subst hie
      rw [List.getElem?_append_right (Nat.le_refl _), Nat.sub_self] at h1
      rw [List.getElem?_append_right (by rw [x.gl]; exact Nat.le_refl _), x.gl, Nat.sub_self] at h2
      obtain rfl := Option.some.inj h1
      obtain rfl := Option.some.inj h2
      have s1 : IsSl 1 y.Y (3 + 2 * y.nd.length) ⟨some (ad rbk), r, r⟩ ((List.replicate r 0).map nv) := ⟨by simp, (fun e => by rw [e1] at e; cases e), fun b e => by rw [e1] at e; obtain rfl := Option.some.inj e; exact ⟨rfl, Nat.le_refl _, [], by rw [e2]; simp, by simp⟩⟩
      have s2 : IsSl 1 y.Y (4 + 2 * y.nd.length) ⟨some (ad wbk), w, w⟩ ((List.replicate w 0).map uv) := ⟨by simp, (fun e => by rw [e3] at e; cases e), fun b e => by rw [e3] at e; obtain rfl := Option.some.inj e; exact ⟨rfl, Nat.le_refl _, [], by rw [e4]; simp, by simp⟩⟩
      exact ⟨(s1.other (by omega)).other (by omega), (s2.other (by omega)).other (by omega)⟩
/-- What a step leaves. -/
def Fs (h : Hp) (sb : Nat) (D : ShD) (R : Value → Hp → Prop) (L : Int → RS → Prop) : Prop :=
  ∀ h' D', Shw h' sb D' → Coh D' → Sts h D h' D' → D'.y.lim = D.y.lim → D'.s.objs.length ≤ D.s.objs.length + 1 → D'.s.roots.length ≤ D.s.roots.length + 1 → L D'.y.last D'.s → R (.bool true) h'
end
end Go.Ev
set_option linter.all false
set_option maxRecDepth 1000000
namespace Go.Ev
open Go.Proofs
theorem RS.free_lt' {s : RS} (v : s.Inv) (k r w : Int) : (s.alloc k r w).2.1 < 18446744073709551616 := by
  have ht : top = 9223372036854775808 := rfl
  rcases RS.alloc_cases v k r w with ⟨_, e⟩ | ⟨_, t, _, vt, e | ⟨t', ref, e, new⟩⟩
  · rw [e]; exact (by omega : (0 : Nat) < 18446744073709551616)
  · rw [e]; exact (by omega : (0 : Nat) < 18446744073709551616)
  · have va := v.alloc k r w
    rw [e] at va ⊢
    have := ref_lt va (id := t.objs.length) (.inr ((new.here _).2 (.inl rfl)))
    rw [new.ref] at this
    exact this
theorem Cond_d3 {p : Prop} {i : Decidable p} {A B : Prop} (h1 : p → A) (h2 : ¬ p → B) : Cond (@decide p i) A B := Cond_dec h1 h2
section
variable {h h' h2 : Hp} {sb hb : Nat} {D D' D2 : ShD} {y : ShY} {o : MvL}
theorem zrow_nv (r : Nat) : (zrow #[.int .i64 0] (r * 1)).toList = (List.replicate r 0).map nv := by rw [zrow_one, List.map_replicate]; rfl
theorem zrow_uv (r : Nat) : (zrow #[.int .u64 0] (r * 1)).toList = (List.replicate r 0).map uv := by rw [zrow_one, List.map_replicate]; rfl
theorem makes_ok (x : Shw h sb D) (c : Coh D) (ko : o.Ok h) (ol : D.s.objs.length < 100000000) (rl : D.s.roots.length < 100000000) {R : Value → Hp → Prop} (hR : Fs h sb D R fun last _ => last = (D.s.alloc o.a o.b o.c).2.2) :
    CallTo Try.prog 35 #[.pointer (some (ad sb)), o.val] h R := by
  have ia := ko.a; have ib := ko.b; have ic := ko.c
  refine f35F_ok ?_
  unfold f35F
  refine Let_mk fun h1 e1 => ?_
  have k1 : Kept N h h1 := e1 ▸ kept_push _ _ _
  have x1 := x.keepN k1
  have row1 : Row h1 h.size o.cells := e1 ▸ row_new h _ 33
  have hnf : ¬ D.foot h.size := fun hb => by have := x.foot_lt hb; omega
  have enb : nb h = ad h.size := rfl
  rw [enb]
  refine PtrOk_mk ⟨_, x1.m.p, o.a, (mvc row1 1).trans rfl, o.b, (mvc row1 2).trans rfl, o.c, (mvc row1 3).trans rfl, halloc_ok x1.v x1.rp fun h2 role' G' sp' rp' ex => ⟨_, _, rfl, PtrOk_mk ?_⟩⟩
  obtain ⟨x2, s2⟩ := x1.prog rp' ex (x1.v.alloc o.a o.b o.c)
  refine x2.m.setLast (D.s.alloc o.a o.b o.c).2.2 fun h3 Y3 m3 ch3 => ?_
  obtain ⟨x3, s3⟩ := x2.own m3 ch3
  have s13 := s2.trans s3
  have row3 := kept_row s13.1 row1 hnf
  have s03 := (Sts.of_kept k1).trans s13
  have hrlt := RS.free_lt' x1.v o.a o.b o.c
  have lens := RS.alloc_len (s := D.s) o.a o.b o.c
  have tail : ∀ bl : Bool, (bl = true → ¬ Shape o.a o.b o.c) → (bl = false → Shape o.a o.b o.c) → f35K1 (some (ad sb)) (ad h.size) ((D.s.alloc o.a o.b o.c).2.1 : Nat) (D.s.alloc o.a o.b o.c).2.2 bl h3 R := by
    intro bl hb1 hb2
    unfold f35K1
    have done : (D.s.alloc o.a o.b o.c).2.1 = 0 → RS.Sub (D.s.alloc o.a o.b o.c).1 D.s → R (.bool (((D.s.alloc o.a o.b o.c).2.1 : Int) == (0 : Int))) h3 := fun h0 hs => by
      rw [h0]
      exact hR h3 _ x3 ⟨RS.alloc_lm c.lm, c.rt.trans hs.roots.symm, c.sh.sub hs⟩ s03 rfl (by show (D.s.alloc o.a o.b o.c).1.objs.length ≤ _; rw [hs.len]; omega) (by show (D.s.alloc o.a o.b o.c).1.roots.length ≤ _; rw [hs.roots]; omega) rfl
    rcases RS.alloc_cases x1.v o.a o.b o.c with ⟨hn, e⟩ | ⟨hs, t, sub, vt, e | ⟨t', ref, e, new⟩⟩
    · refine Cond_t (by cases bl with | true => rfl | false => exact absurd (hb2 rfl) hn) (Cond_t (by rw [e]; rfl) (done (by rw [e]) (by rw [e]; exact RS.Sub.refl _)))
    · refine Cond_f (by cases bl with | false => rfl | true => exact absurd hs (hb1 rfl)) (Cond_t (by rw [e]; rfl) (Cond_t (by rw [e]; rfl) (done (by rw [e]) (by rw [e]; exact sub))))
    · obtain ⟨⟨q1, q2⟩, ⟨q3, q4⟩, q5, q6⟩ := hs
      refine Cond_f (by cases bl with | false => rfl | true => exact absurd ⟨⟨q1, q2⟩, ⟨q3, q4⟩, q5, q6⟩ (hb1 rfl)) (Cond_f (by rw [e]; rfl) (PtrOk_mk ⟨_, x3.m.cN, o.a, (mvc row3 1).trans rfl, o.b, (mvc row3 2).trans rfl, o.c, (mvc row3 3).trans rfl, ?_⟩))
      have hlen : D.y.nd.length = D.s.objs.length := c.sh.len
      have hnl : D.y.nd.length < 100000000 := by omega
      have eb : o.b = ((o.b.toNat : Nat) : Int) := by omega
      have ec : o.c = ((o.c.toNat : Nat) : Int) := by omega
      have ea : o.a = ((o.a.toNat : Nat) : Int) := by omega
      have row4 : ∀ h4, Chg h3 Y3 h4 Y3 ∨ Kept N h3 h4 → Kept N h3 h4 → Row h4 h.size o.cells := fun h4 _ k => kept_row k row3 id
      /- from both lists on -/
      have fin : ∀ h5 Y5 rbk wbk, ShM h5 sb D.hb { D.y with Y := Y5, last := (D.s.alloc o.a o.b o.c).2.2 } → Chg h3 Y3 h5 Y5 → Y5.loc (3 + 2 * D.y.nd.length) = some rbk → Y5.cont (3 + 2 * D.y.nd.length) = (List.replicate o.b.toNat 0).map nv →
          Y5.loc (4 + 2 * D.y.nd.length) = some wbk → Y5.cont (4 + 2 * D.y.nd.length) = (List.replicate o.c.toNat 0).map uv →
          Let (h5.push (.cells #[.int .i64 o.a, .slice (some (ad rbk)) o.b.toNat o.b.toNat, .slice (some (ad wbk)) o.c.toNat o.c.toNat] 69)) fun h6 => (∃ y0 : Sl, cell h6 ((ad sb).add 1) = some (.slice y0.a y0.n y0.c) ∧ Next.value (.slice y0.a y0.n y0.c) = Next.value (.slice D.y.ns.a D.y.ns.n D.y.ns.c)) ∧
            appSl 69 3 56 #[.int .i64 0, .slice none 0 0, .slice none 0 0] D.y.ns.a D.y.ns.n D.y.ns.c (some (nb h5)) 1 h6 fun ra7 rn7 rc7 h7 => PtrOk (some (ad sb)) fun p83 => stOk h7 (p83.add 1) ∧ Let (setc h7 (p83.add 1) (.slice ra7 rn7 rc7)) fun h8 => PtrOk (some (ad sb)) fun p88 => ∃ t90 : Sl, cell h8 (p88.add 1) = some (.slice t90.a t90.n t90.c) ∧
              CallTo Try.prog 60 #[.pointer (some (ad sb)), .int .u64 ((D.s.alloc o.a o.b o.c).2.1 : Nat), .int .i64 (IntKind.wrap .i64 ((((t90.n : Nat) : Int)) - (1 : Int)))] h8 fun r h9 => ∃ t93 : Bool, r = .bool t93 ∧ R (.bool t93 : Value) h9 := by
        intro h5 Y5 rbk wbk m5 ch5 l1 l2 l3 l4
        rw [show (Value.int IntKind.i64 o.a) = Value.int IntKind.i64 ((o.a.toNat : Nat) : Int) from by rw [← ea]]
        refine m5.addNode hnl l1 l2 l3 l4 fun h8 Y8 ns8 gs8 m8 ch8 => PtrOk_mk ⟨ns8, m8.cN, ?_⟩
        obtain ⟨x8, s8⟩ := x3.own m8 (ch5.trans ch8)
        have en : ns8.n = D.y.nd.length + 1 := by
          have h1 : ns8.n = (D.y.nd ++ [_]).length := m8.nn_n
          rw [List.length_append] at h1
          exact h1
        have ei : IntKind.wrap .i64 ((((ns8.n : Nat) : Int)) - (1 : Int)) = ((D.y.nd.length : Nat) : Int) := by rw [en, wrap_i64' (by omega) (by omega)]; omega
        rw [ei]
        have hh : (D.s.alloc o.a o.b o.c).1.here D.y.nd.length := by rw [e]; exact (new.here _).2 (.inl (by rw [hlen, ← sub.len]))
        have hrf : (D.s.alloc o.a o.b o.c).1.ref D.y.nd.length = (D.s.alloc o.a o.b o.c).2.1 := by
          rw [e]
          show t'.ref D.y.nd.length = ref
          rw [hlen, ← sub.len]
          exact new.ref
        have hid : (D.s.alloc o.a o.b o.c).1.ident (D.s.alloc o.a o.b o.c).2.1 = D.y.nd.length := by
          rw [← hrf]
          exact RS.ident_ref (x1.v.alloc o.a o.b o.c) (.inr hh)
        have h0 : D.y.nd.length ≠ 0 := by have := x1.v.ob; omega
        refine rooted_ok x8 ⟨RS.alloc_lm c.lm, ?_, ?_⟩ (by show (D.s.alloc o.a o.b o.c).1.roots.length < _; rw [lens.2]; exact rl) hrlt (by unfold RS.goodR; rw [hid]; exact decide_eq_true (.inr h0)) hid fun h9 D9 x9 c9 s9 z1 z2 z3 z4 z5 => ⟨_, rfl, ?_⟩
        · show D.y.rt = (D.s.alloc o.a o.b o.c).1.roots
          rw [lens.2]; exact c.rt
        · show (D.s.alloc o.a o.b o.c).1.Shd (D.y.nd ++ [_])
          rw [e]
          exact new.shd vt (c.sh.sub sub)
        · have q := RS.rootF_len (s := (D.s.alloc o.a o.b o.c).1) (D.s.alloc o.a o.b o.c).2.1
          have z1' : D9.s = ((D.s.alloc o.a o.b o.c).1.rootF (D.s.alloc o.a o.b o.c).2.1).1 := z1
          have l2 := lens.2
          refine hR h9 D9 x9 c9 (s03.trans (s8.trans s9)) z3 (by rw [z1', q.1]; exact lens.1) (by rw [z1', ← l2]; exact q.2) z4
      have pb : (0 ≤ o.b ∧ o.b ≤ o.b) ∧ o.b < 2 ^ 62 ∧ ((8 : Nat) : Int) * o.b ≤ 2 ^ 48 := ⟨⟨q3, Int.le_refl _⟩, by omega, by omega⟩
      have pc : (0 ≤ o.c ∧ o.c ≤ o.c) ∧ o.c < 2 ^ 62 ∧ ((8 : Nat) : Int) * o.c ≤ 2 ^ 48 := ⟨⟨q5, Int.le_refl _⟩, by omega, by omega⟩
      constructor
      · refine ⟨pb.1, pb.2.1, pb.2.2, Let_mk fun h4 e4 => ?_⟩
        obtain ⟨m4, ch4⟩ := x3.m.pushPart (j := 3 + 2 * D.y.nd.length) (Nat.le_refl _) (zrow #[.int .i64 0] (o.b.toNat * 1)) 3
        rw [← e4] at m4 ch4
        have k4 : Kept N h3 h4 := e4 ▸ kept_push _ _ _
        have r4 := kept_row k4 row3 id
        refine ⟨⟨_, (mvc r4 3).trans rfl, rfl⟩, ⟨_, (mvc r4 1).trans rfl, rfl⟩, ⟨_, m4.cN, rfl⟩, pc.1, pc.2.1, pc.2.2, Let_mk fun h5 e5 => ?_⟩
        obtain ⟨m5, ch5⟩ := m4.pushPart (j := 4 + 2 * D.y.nd.length) (by show 3 + 2 * D.y.nd.length ≤ _; omega) (zrow #[.int .u64 0] (o.c.toNat * 1)) 30
        rw [← e5] at m5 ch5
        have k5 : Kept N h4 h5 := e5 ▸ kept_push _ _ _
        have r5 := kept_row k5 r4 id
        refine ⟨⟨_, (mvc r5 1).trans rfl, rfl⟩, ⟨_, m5.cN, rfl⟩, ?_⟩
        exact fin h5 _ h3.size h4.size m5 (ch4.trans ch5) ((Mem.loc_ne _ _ _ (by omega)).trans (Mem.loc_self ..)) ((Mem.cont_ne _ _ _ (by omega)).trans ((Mem.cont_self ..).trans (zrow_nv _))) (Mem.loc_self ..) ((Mem.cont_self ..).trans (zrow_uv _))
      · refine ⟨pc.1, pc.2.1, pc.2.2, Let_mk fun h4 e4 => ?_⟩
        obtain ⟨m4, ch4⟩ := x3.m.pushPart (j := 4 + 2 * D.y.nd.length) (by show 3 + 2 * D.y.nd.length ≤ _; omega) (zrow #[.int .u64 0] (o.c.toNat * 1)) 30
        rw [← e4] at m4 ch4
        have k4 : Kept N h3 h4 := e4 ▸ kept_push _ _ _
        have r4 := kept_row k4 row3 id
        refine ⟨⟨_, (mvc r4 2).trans rfl, rfl⟩, ⟨_, (mvc r4 1).trans rfl, rfl⟩, ⟨_, m4.cN, rfl⟩, pb.1, pb.2.1, pb.2.2, Let_mk fun h5 e5 => ?_⟩
        obtain ⟨m5, ch5⟩ := m4.pushPart (j := 3 + 2 * D.y.nd.length) (Nat.le_refl _) (zrow #[.int .i64 0] (o.b.toNat * 1)) 3
        rw [← e5] at m5 ch5
        have k5 : Kept N h4 h5 := e5 ▸ kept_push _ _ _
        have r5 := kept_row k5 r4 id
        refine ⟨⟨_, (mvc r5 1).trans rfl, rfl⟩, ⟨_, m5.cN, rfl⟩, ?_⟩
        exact fin h5 _ h4.size h3.size m5 (ch4.trans ch5) (Mem.loc_self ..) ((Mem.cont_self ..).trans (zrow_nv _)) ((Mem.loc_ne _ _ _ (by omega)).trans (Mem.loc_self ..)) ((Mem.cont_ne _ _ _ (by omega)).trans ((Mem.cont_self ..).trans (zrow_uv _)))
  refine ⟨o.a, (mvc row3 1).trans rfl, Cond_dec (fun q => tail true (fun _ hs => by have := hs.1; omega) nofun) fun q1 => ⟨o.a, (mvc row3 1).trans rfl, Cond_dec (fun q => tail true (fun _ hs => by have := hs.1; omega) nofun) fun q2 => ?_⟩⟩
  refine ⟨o.b, (mvc row3 2).trans rfl, Cond_dec (fun q => tail true (fun _ hs => by have := hs.2.1; omega) nofun) fun q3 => ⟨o.b, (mvc row3 2).trans rfl, Cond_d3 (fun q => tail true (fun _ hs => by have := hs.2.1; omega) nofun) fun q4 => ?_⟩⟩
  refine ⟨o.c, (mvc row3 3).trans rfl, Cond_dec (fun q => tail true (fun _ hs => by have := hs.2.2; omega) nofun) fun q5 => ⟨o.c, (mvc row3 3).trans rfl, ?_⟩⟩
  by_cases q6 : o.c > 1048576
  · rw [decide_eq_true q6]
    exact tail true (fun _ hs => by have := hs.2.2; omega) nofun
  · rw [decide_eq_false q6]
    exact tail false nofun fun _ => ⟨⟨by omega, by omega⟩, ⟨by omega, by omega⟩, ⟨by omega, by omega⟩⟩
end
end Go.Ev
set_option linter.all false
set_option maxRecDepth 1000000
namespace Go.Ev
open Go.Proofs
section
variable {h h' h2 : Hp} {sb hb : Nat} {D D' D2 : ShD} {y : ShY} {o : MvL}
theorem nd_same {nd : List NodeD} {i : Nat} {n : NodeD} (h : nd[i]? = some n) : nd.set i n = nd := RS.set_same h
theorem nd_set2 (nd : List NodeD) (i : Nat) (a b : NodeD) : (nd.set i a).set i b = nd.set i b := List.set_set ..
/-- A node that a handle holds. -/
structure Nd (D : ShD) (id : Nat) (n : NodeD) : Prop where
  here : D.s.here id
  nz : id ≠ 0
  at_ : D.y.nd[id]? = some n
  k : n.kind = (D.s.obj id).kind
  rf : n.refs = (D.s.obj id).refs
  rw : n.raws = (D.s.obj id).raws
theorem Nd.of (x : Shw h sb D) (c : Coh D) {id : Nat} (hh : D.s.here id) (h0 : id ≠ 0) : Nd D id ⟨(D.s.obj id).kind, (D.s.obj id).refs, (D.s.obj id).raws⟩ := ⟨hh, h0, c.sh.at_ id hh, rfl, rfl, rfl⟩
theorem writes_ok (x : Shw h sb D) (c : Coh D) (ko : o.Ok h) (kf : ∀ p, o.d.a = some p → o.bytes ≠ [] → ¬ D.foot p.block) {id : Nat} (hh : D.s.here id) (h0 : id ≠ 0) {R : Value → Hp → Prop} (hR : Fs h sb D R fun _ _ => True) :
    CallTo Try.prog 61 #[.pointer (some (ad sb)), uv (D.s.ref id), .int .i64 (id : Int), o.val] h R := by
  have ia := ko.a
  unfold I6 at ia
  refine f61F_ok ?_
  unfold f61F
  refine Let_mk fun h1 e1 => ?_
  have k1 : Kept N h h1 := e1 ▸ kept_push _ _ _
  have x1 := x.keepN k1
  have ko1 := ko.keep k1 fun _ _ _ => _root_.id
  have row1 : Row h1 h.size o.cells := e1 ▸ row_new h _ 33
  have hnf : ¬ D.foot h.size := fun hb => by have := x.foot_lt hb; omega
  have enb : nb h = ad h.size := rfl
  rw [enb]
  refine PtrOk_mk ⟨_, x1.m.p, o.a, (mvc row1 1).trans rfl, o.d, (mvc row1 7).trans rfl, ?_⟩
  refine twin_ok ko1.rd ko1.dn ko1.long fun tw h2 twr twn twb k2 => ⟨tw, rfl, ?_⟩
  have x2 := x1.keepN k2
  have row2 : Row h2 h.size o.cells := kept_row k2 row1 _root_.id
  refine ⟨⟨o.a, (mvc row2 1).trans rfl, rfl⟩, ⟨_, x2.m.p, rfl⟩, ?_⟩
  have h63 : ((o.bytes.length : Nat) : Int) < 9223372036854775808 := by have := ko.long; omega
  have hrl : D.s.ref id < 18446744073709551616 := RS.ref_lt x.v (.inr hh)
  have hid : D.s.ident (D.s.ref id) = id := RS.ident_ref x.v (.inr hh)
  refine hsetbytes_ok x2.v x2.rp hrl ia.1 ia.2 twr twn ko.by8 (fun p hp => x1.rp.fresh _ (twb p hp).1) h63 fun h3 role' G' rp' ex => ⟨_, rfl, ?_⟩
  obtain ⟨x3, s3⟩ := x2.prog rp' ex (x2.v.setBytes (D.s.ref id) o.a ko.by8)
  have row3 := kept_row s3.1 row2 hnf
  have s03 := ((Sts.of_kept k1).trans (Sts.of_kept k2)).trans s3
  have ko3 := (ko1.keep k2 fun _ _ _ => _root_.id).keep s3.1 kf
  have nd := Nd.of x c hh h0
  obtain ⟨nb, g, hl1, hg, hna, cb, _, hcj, i1, i2⟩ := x3.m.node nd.at_
  have hws : (D.s.obj id).raws.length = g.ws.n * 1 := by have := i2.len; rwa [List.length_map] at this
  have hws : g.ws.n = (D.s.obj id).raws.length := by omega
  have q := RS.setBytesF_len (s := D.s) (D.s.ref id) o.a o.bytes
  have rawle : (D.s.obj id).raws.length ≤ 1048576 := (x.v.shp id hh).2.2.2.1
  refine PtrOk_mk ⟨_, x3.m.cN, cb, PtrOk_of hna ⟨g.ws, by rw [Int.toNat_natCast]; exact (hcj 2 (by omega)).trans rfl, ?_⟩⟩
  have w8 : IntKind.wrap .i64 ((8 : Int) * ((g.ws.n : Nat) : Int)) = 8 * (((D.s.obj id).raws.length : Nat) : Int) := by rw [hws, wrap_i64' (by omega) (by omega)]
  have bad : ¬ D.s.spanOk (D.s.ref id) o.a o.bytes.length → ∀ t, t = true → f61K1 (ad h.size) (D.s.setBytesF (D.s.ref id) o.a o.bytes).2 g.ws t h3 R := fun hn t ht => by
    have e : D.s.setBytesF (D.s.ref id) o.a o.bytes = (D.s, 33) := by
      unfold RS.setBytesF RS.spanE
      rw [if_neg hn, hid, if_neg h0, if_neg hn]
    unfold f61K1
    refine Cond_t ht ?_
    rw [e]
    refine hR h3 _ x3 ⟨RS.setBytesF_lm c.lm, ?_, ?_⟩ s03 rfl (by show (D.s.setBytesF (D.s.ref id) o.a o.bytes).1.objs.length ≤ _; rw [q.1]; omega) (by show (D.s.setBytesF (D.s.ref id) o.a o.bytes).1.roots.length ≤ _; rw [q.2]; omega) trivial
    · show D.y.rt = (D.s.setBytesF (D.s.ref id) o.a o.bytes).1.roots
      rw [e]; exact c.rt
    · show (D.s.setBytesF (D.s.ref id) o.a o.bytes).1.Shd D.y.nd
      rw [e]; exact c.sh
  have good : D.s.spanOk (D.s.ref id) o.a o.bytes.length → ∀ t, t = false → f61K1 (ad h.size) (D.s.setBytesF (D.s.ref id) o.a o.bytes).2 g.ws t h3 R := fun hs t ht => by
    have e : D.s.setBytesF (D.s.ref id) o.a o.bytes = (D.s.setObj id { D.s.obj id with raws := putBytes (D.s.obj id).raws o.a.toNat o.bytes }, 0) := by unfold RS.setBytesF; rw [if_pos hs, hid]
    obtain ⟨_, a0, _, a1⟩ := hs
    rw [hid] at a1
    unfold f61K1
    refine Cond_f ht ?_
    refine f61L1_rule (s10 := g.ws) (fun m s7 s9 s10 s11 h' => ∃ (k : Nat) (Y' : Mem), k ≤ o.bytes.length ∧ m = o.bytes.length - k ∧ s7 = ad h.size ∧ s9 = (D.s.setBytesF (D.s.ref id) o.a o.bytes).2 ∧ s10 = g.ws ∧ s11 = (k : Int) ∧
      ShM h' sb D.hb { D.y with Y := Y', nd := D.y.nd.set id ⟨(D.s.obj id).kind, (D.s.obj id).refs, putBytes (D.s.obj id).raws o.a.toNat (o.bytes.take k)⟩ } ∧ Chg h3 D.y.Y h' Y') o.bytes.length
      ⟨0, D.y.Y, Nat.zero_le _, rfl, rfl, rfl, rfl, rfl, ?_, Chg.refl _ _⟩ ?_
    · rw [List.take_zero]
      show ShM h3 sb D.hb { D.y with Y := D.y.Y, nd := D.y.nd.set id ⟨(D.s.obj id).kind, (D.s.obj id).refs, (D.s.obj id).raws⟩ }
      rw [nd_same nd.at_]
      exact x3.m
    rintro m s7 s9 s10 s11 g0 h4 ⟨k, Y4, hk, rfl, rfl, rfl, rfl, rfl, m4, ch4⟩
    obtain ⟨x4, s4⟩ := x3.own m4 ch4
    have row4 : Row h4 h.size o.cells := kept_row s4.1 row3 fun e => by
      rcases s3.2 _ e with e | e
      · exact hnf e
      · have := row_lt row2; omega
    have ko4 := ko3.keep s4.1 fun p hp hn e => by
      rcases s3.2 _ e with e | e
      · exact kf p hp hn e
      · have := (ko1.keep k2 fun _ _ _ => _root_.id).old p hp hn; omega
    unfold f61L1
    refine ⟨o.d, (mvc row4 7).trans rfl, Cond_dec (fun hlt => ?_) fun hge => ?_⟩
    · have hkl : k < o.bytes.length := by rw [ko.dn] at hlt; omega
      obtain ⟨cc, hc⟩ : ∃ cc, o.bytes[k]? = some cc := ⟨_, List.getElem?_eq_getElem hkl⟩
      have hc256 := ko.by8 cc (List.mem_of_getElem? hc)
      have eA : o.a = ((o.a.toNat : Nat) : Int) := by omega
      have hnl := (List.getElem?_eq_some_iff.1 nd.at_).1
      have hn4 : (D.y.nd.set id ⟨(D.s.obj id).kind, (D.s.obj id).refs, putBytes (D.s.obj id).raws o.a.toNat (o.bytes.take k)⟩)[id]? = some ⟨(D.s.obj id).kind, (D.s.obj id).refs, putBytes (D.s.obj id).raws o.a.toNat (o.bytes.take k)⟩ := List.getElem?_set_self hnl
      obtain ⟨nb4, g4, _, hg4, _, _, _, _, _, j2⟩ := m4.node hn4
      have hg4 : D.y.gs[id]? = some g4 := hg4
      have hg : D.y.gs[id]? = some g := hg
      rw [hg] at hg4
      obtain rfl := Option.some.inj hg4
      have hpl : (putBytes (D.s.obj id).raws o.a.toNat (o.bytes.take k)).length = (D.s.obj id).raws.length := putBytes_len _ _ _
      have hw : (o.a.toNat + k) / 8 < (putBytes (D.s.obj id).raws o.a.toNat (o.bytes.take k)).length := by rw [hpl]; omega
      obtain ⟨w, hw'⟩ : ∃ w, (putBytes (D.s.obj id).raws o.a.toNat (o.bytes.take k))[(o.a.toNat + k) / 8]? = some w := ⟨_, List.getElem?_eq_getElem hw⟩
      have hraw : ∀ x ∈ (D.s.obj id).raws, x < 18446744073709551616 := (x.v.shp id hh).2.2.2.2
      have hwlt : w < 18446744073709551616 := putBytes_lt hraw (fun c hc => ko.by8 c (List.mem_of_mem_take hc)) w (List.mem_of_getElem? hw')
      obtain ⟨b2, _, ha2, hc2, cb2⟩ := sl_at j2 m4.sy hw'
      have ew : IntKind.wrap .i64 (((o.a.toNat : Nat) : Int) + ((k : Nat) : Int)) = ((o.a.toNat + k : Nat) : Int) := by rw [wrap_ar (by omega) (by omega)]; omega
      have ed : IntKind.wrap .i64 (Int.tdiv ((o.a.toNat + k : Nat) : Int) (8 : Int)) = (((o.a.toNat + k) / 8 : Nat) : Int) := div8 (by omega)
      obtain ⟨es, es0⟩ := shift8 (o.a.toNat + k)
      obtain ⟨p, hp, hcell⟩ := readsO_get ko4.rd (i := k) (v := bv cc) (by rw [List.getElem?_map, hc]; rfl)
      obtain ⟨b3, g3, hg3, ha3, st⟩ := m4.setRaw (k := (o.a.toNat + k) / 8) hn4 hw (putW w ((o.a.toNat + k) % 8 * 8) cc)
      have hg3 : D.y.gs[id]? = some g3 := hg3
      rw [hg] at hg3
      obtain rfl := Option.some.inj hg3
      have rA : cell h4 ((ad h.size).add 1) = some (.int .i64 ((o.a.toNat : Nat) : Int)) := by rw [← eA]; exact (mvc row4 1).trans rfl
      refine ⟨_, rA, by omega, _, rA, by omega, _, rA, by omega, ?_⟩
      rw [ew, ed, tmod8, es, Int.toNat_natCast]
      refine ⟨cb2, PtrOk_of ha2 ⟨((w : Nat) : Int), hc2, es0, o.d, (mvc row4 7).trans rfl, ⟨by omega, hlt⟩, PtrOk_of hp ⟨((cc : Nat) : Int), by rw [Int.toNat_natCast, Nat.mul_one]; exact hcell, es0, cb2, PtrOk_of ha3 ?_⟩⟩⟩
      rw [wrap_u64' (x := ((cc : Nat) : Int)) (by omega) (by omega), putW_eq hwlt (by omega) hc256]
      refine st _ fun h5 Y5 m5 ch5 => ?_
      refine ⟨o.bytes.length - (k + 1), by omega, k + 1, Y5, hkl, rfl, rfl, rfl, rfl, by rw [wrap_ar (by omega) (by omega)]; rfl, ?_, ch4.trans ch5⟩
      have e2 : putBytes (D.s.obj id).raws o.a.toNat (o.bytes.take (k + 1)) = (putBytes (D.s.obj id).raws o.a.toNat (o.bytes.take k)).set ((o.a.toNat + k) / 8) (putW w ((o.a.toNat + k) % 8 * 8) cc) := by
        rw [RS.take_snoc hc, putBytes_snoc, List.length_take, Nat.min_eq_left (by omega)]
        unfold putByte
        rw [List.getD_eq_getElem?_getD, hw']
        rfl
      rw [e2, ← nd_set2 D.y.nd id ⟨(D.s.obj id).kind, (D.s.obj id).refs, putBytes (D.s.obj id).raws o.a.toNat (o.bytes.take k)⟩]
      exact m5
    · have hke : k = o.bytes.length := by rw [ko.dn] at hge; omega
      subst hke
      rw [List.take_length] at m4 x4 s4
      rw [e]
      refine hR h4 _ x4 ⟨RS.setBytesF_lm c.lm, ?_, ?_⟩ (s03.trans s4) rfl (by show (D.s.setBytesF (D.s.ref id) o.a o.bytes).1.objs.length ≤ _; rw [q.1]; omega) (by show (D.s.setBytesF (D.s.ref id) o.a o.bytes).1.roots.length ≤ _; rw [q.2]; omega) trivial
      · show D.y.rt = (D.s.setBytesF (D.s.ref id) o.a o.bytes).1.roots
        rw [q.2]; exact c.rt
      · show (D.s.setBytesF (D.s.ref id) o.a o.bytes).1.Shd _
        rw [e]
        exact c.sh.setObj x.v hh (o := { D.s.obj id with raws := putBytes (D.s.obj id).raws o.a.toNat o.bytes }) rfl
  have span : D.s.spanOk (D.s.ref id) o.a o.bytes.length ↔ 0 ≤ o.a ∧ o.a + ((o.bytes.length : Nat) : Int) ≤ 8 * (((D.s.obj id).raws.length : Nat) : Int) := by
    unfold RS.spanOk
    rw [hid]
    exact ⟨fun ⟨_, a, _, b⟩ => ⟨a, b⟩, fun ⟨a, b⟩ => ⟨h0, a, by omega, b⟩⟩
  refine ⟨o.a, (mvc row3 1).trans rfl, Cond_dec (fun q => bad (fun hs => by have := (span.1 hs).1; omega) true rfl) fun q1 => ⟨o.a, (mvc row3 1).trans rfl, ?_⟩⟩
  rw [w8]
  refine Cond_dec (fun q => bad (fun hs => by have := (span.1 hs).2; omega) true rfl) fun q2 => ⟨o.d, (mvc row3 7).trans rfl, o.a, (mvc row3 1).trans rfl, ?_⟩
  rw [wrap_i64' (x := 8 * (((D.s.obj id).raws.length : Nat) : Int) - o.a) (by omega) (by omega), ko.dn]
  by_cases q3 : ((o.bytes.length : Nat) : Int) > 8 * (((D.s.obj id).raws.length : Nat) : Int) - o.a
  · exact bad (fun hs => by have := (span.1 hs).2; omega) _ (decide_eq_true q3)
  · exact good (span.2 ⟨by omega, by omega⟩) _ (decide_eq_false q3)
end
end Go.Ev
set_option linter.all false
set_option maxRecDepth 1000000
namespace Go.Ev
open Go.Proofs
namespace RS
section
variable {s : RS}
theorem setF_ref (v : s.Inv) {id t k : Nat} (hh : s.here id) (h0 : id ≠ 0) (ht : t = 0 ∨ s.here t) (hk : k < (s.obj id).refs.length) : s.setF (s.ref id) (k : Int) (s.ref t) = (s.setObj id { s.obj id with refs := (s.obj id).refs.set k t }, 0) := by
  have e := ident_ref v (id := id) (.inr hh)
  have e2 := ident_ref v ht
  unfold setF
  rw [e, e2, if_neg h0, if_neg (by omega), if_pos (by omega), if_neg, Int.toNat_natCast]
  rintro ⟨h1, h2⟩
  subst h2
  exact h1 rfl
theorem setF_raw (v : s.Inv) {id k x : Nat} (hh : s.here id) (h0 : id ≠ 0) (hk : k < (s.obj id).raws.length) : s.setF (s.ref id) (((s.obj id).refs.length + k : Nat) : Int) x = (s.setObj id { s.obj id with raws := (s.obj id).raws.set k x }, 0) := by
  have e := ident_ref v (id := id) (.inr hh)
  unfold setF
  rw [e, if_neg h0, if_neg (by omega), if_neg (by omega), Int.toNat_natCast, Nat.add_sub_cancel_left]
theorem getF_ref (v : s.Inv) {id k r : Nat} (hh : s.here id) (h0 : id ≠ 0) (hk : (s.obj id).refs[k]? = some r) : s.getF (s.ref id) (k : Int) = (s.ref r, 0) := by
  have hkl := (List.getElem?_eq_some_iff.1 hk).1
  have e := ident_ref v (id := id) (.inr hh)
  unfold getF
  rw [e, if_neg h0, if_pos ⟨by omega, by rw [enc_flds_len]; omega⟩, Int.toNat_natCast]
  have : (s.enc id).flds.getD k 0 = s.ref r := by
    rw [List.getD_eq_getElem?_getD]
    unfold AObj.flds enc
    rw [List.getElem?_append_left (by rw [List.length_map]; exact hkl), List.getElem?_map, hk]
    rfl
  rw [this]
theorem getF_raw (v : s.Inv) {id k r : Nat} (hh : s.here id) (h0 : id ≠ 0) (hk : (s.obj id).raws[k]? = some r) : s.getF (s.ref id) (((s.obj id).refs.length + k : Nat) : Int) = (r, 0) := by
  have hkl := (List.getElem?_eq_some_iff.1 hk).1
  have e := ident_ref v (id := id) (.inr hh)
  unfold getF
  rw [e, if_neg h0, if_pos ⟨by omega, by rw [enc_flds_len]; omega⟩, Int.toNat_natCast]
  have : (s.enc id).flds.getD ((s.obj id).refs.length + k) 0 = r := by
    rw [List.getD_eq_getElem?_getD]
    unfold AObj.flds enc
    rw [List.getElem?_append_right (by rw [List.length_map]; omega), List.length_map, Nat.add_sub_cancel_left, hk]
    rfl
  rw [this]
theorem good_ref (v : s.Inv) {r : Nat} (hr : r = 0 ∨ s.here r) : s.goodR (s.ref r) = true := by
  unfold goodR
  rw [ident_ref v hr]
  by_cases h : r = 0
  · subst h; rfl
  · exact decide_eq_true (.inr h)
end
end RS
section
variable {h h' h2 : Hp} {sb hb : Nat} {D D' D2 : ShD} {y : ShY} {o : MvL}
/-- A hand that is in use. -/
theorem held_in (x : Shw h sb D) {a : Int} (h : 0 ≤ heldI D.s (D.s.handN a : Nat)) : ∃ id : Nat, heldI D.s (D.s.handN a : Nat) = (id : Int) ∧ (id = 0 ∨ D.s.here id) ∧ D.s.atF (D.s.handN a : Nat) = (D.s.ref id, 0) ∧ 1 ≤ D.s.handN a ∧ D.s.hand (D.s.handN a : Nat) = some id := by
  obtain ⟨id, h1, h2⟩ := heldI_some h
  obtain ⟨q1, q2, q3, q4, q5⟩ := RS.hand_at (a := a) x.v h1
  exact ⟨id, h2, q4, q5, q1, h1⟩
theorem changes_ok (x : Shw h sb D) (c : Coh D) (ko : o.Ok h) (kf : ∀ p, o.d.a = some p → o.bytes ≠ [] → ¬ D.foot p.block) (rl : D.s.roots.length < 100000000) {R : Value → Hp → Prop} (hR : Fs h sb D R fun _ _ => True) :
    CallTo Try.prog 36 #[.pointer (some (ad sb)), o.val] h R := by
  refine f36F_ok ?_
  unfold f36F
  refine Let_mk fun h1 e1 => ?_
  have k1 : Kept N h h1 := e1 ▸ kept_push _ _ _
  have x1 := x.keepN k1
  have ko1 := ko.keep k1 fun _ _ _ => _root_.id
  have row1 : Row h1 h.size o.cells := e1 ▸ row_new h _ 33
  have hnf : ¬ D.foot h.size := fun hb => by have := x.foot_lt hb; omega
  have enb : nb h = ad h.size := rfl
  rw [enb]
  have hnl := fun a => (D.s.handN_le a)
  have same : R (.bool true) h1 := hR h1 D x1 c (Sts.of_kept k1) rfl (by omega) (by omega) trivial
  refine ⟨o.hh, (mvc row1 4).trans rfl, hand_ok x1 c rl ko.hh ⟨_, rfl, held_ok x1 c rl (by have := hnl o.hh; omega) ⟨_, rfl, Cond_dec (fun _ => same) fun hge => ?_⟩⟩⟩
  obtain ⟨id, hI, hin, hat, hn1, _⟩ := held_in (a := o.hh) x1 (by omega)
  have h0 : id ≠ 0 := by rw [hI] at hge; omega
  have hh := hin.resolve_left h0
  rw [hI]
  refine PtrOk_mk ⟨_, x1.m.p, o.hh, (mvc row1 4).trans rfl, _, hand_ok x1 c rl ko.hh ⟨rfl, rfl⟩, _, _, hat_ok x1.v x1.rp ⟨rfl, rfl⟩, ?_⟩
  rw [hat]
  have nd := Nd.of x1 c hh h0
  obtain ⟨nb, g, hl1, hg, hna, cb, _, hcj, i1, i2⟩ := x1.m.node nd.at_
  have hrs : (D.s.obj id).refs.length = g.rs.n * 1 := by have := i1.len; rwa [List.length_map] at this
  have hws : (D.s.obj id).raws.length = g.ws.n * 1 := by have := i2.len; rwa [List.length_map] at this
  have hrs : g.rs.n = (D.s.obj id).refs.length := by omega
  have hws : g.ws.n = (D.s.obj id).raws.length := by omega
  have shp := x.v.shp id hh
  have hrl : D.s.ref id < 18446744073709551616 := RS.ref_lt x.v (.inr hh)
  refine Cond_f rfl (PtrOk_mk ⟨_, x1.m.cN, cb, PtrOk_of hna ⟨g.rs, by rw [Int.toNat_natCast]; exact (hcj 1 (by omega)).trans rfl, PtrOk_mk ⟨_, x1.m.cN, cb, PtrOk_of hna ⟨g.ws, by rw [Int.toNat_natCast]; exact (hcj 2 (by omega)).trans rfl, o.dw, (cell_row row1 0).trans rfl, ?_⟩⟩⟩⟩)
  rw [hrs, hws]
  have rnd : ∀ n, 0 < n → ∃ k : Nat, k < n ∧ o.a % ((n : Nat) : Int) = (k : Int) := fun n hn => by
    have m1 := Int.emod_nonneg o.a (b := ((n : Nat) : Int)) (by omega)
    have m2 := Int.emod_lt_of_pos o.a (b := ((n : Nat) : Int)) (by omega)
    exact ⟨(o.a % (n : Int)).toNat, by omega, by omega⟩
  refine Cond_b (fun _ => ?_) fun _ => Cond_b (fun _ => ?_) fun _ => Cond_b (fun _ => ?_) fun _ => ?_
  · -- MvLink
    refine ⟨o.gg, (mvc row1 5).trans rfl, hand_ok x1 c rl ko.gg ⟨_, rfl, held_ok x1 c rl (by have := hnl o.gg; omega) ⟨_, rfl, ?_⟩⟩⟩
    have yes : f36K1 (some (ad sb)) (ad h.size) (id : Int) (D.s.ref id : Nat) ((D.s.obj id).refs.length : Nat) (heldI D.s (D.s.handN o.gg : Nat)) true h1 R := by unfold f36K1; exact Cond_t rfl same
    refine Cond_b (fun _ => yes) fun hz => ?_
    have hz : (((D.s.obj id).refs.length : Nat) : Int) ≠ 0 := by simpa using hz
    by_cases hneg : heldI D.s (D.s.handN o.gg : Nat) < 0
    · rw [decide_eq_true hneg]; exact yes
    rw [decide_eq_false hneg]
    obtain ⟨t, tI, tin, tat, _⟩ := held_in (a := o.gg) x1 (by omega)
    have htl : D.s.ref t < 18446744073709551616 := RS.ref_lt x.v tin
    rw [tI]
    unfold f36K1
    obtain ⟨k, hk, ek⟩ := rnd _ (by omega : 0 < (D.s.obj id).refs.length)
    refine Cond_f rfl (PtrOk_mk ⟨_, x1.m.p, o.gg, (mvc row1 5).trans rfl, _, hand_ok x1 c rl ko.gg ⟨rfl, rfl⟩, _, _, hat_ok x1.v x1.rp ⟨rfl, rfl⟩, ?_⟩)
    rw [tat]
    refine PtrOk_mk ⟨_, x1.m.p, o.a, (mvc row1 1).trans rfl, (k : Int), round_ok (by omega) (by omega) ko.a ⟨by rw [ek], rfl⟩, ?_⟩
    refine hset_ok x1.v x1.rp hrl htl fun h3 role' G' rp' ex => ⟨_, rfl, ?_⟩
    have es := RS.setF_ref x1.v hh h0 tin hk
    obtain ⟨x3, s3⟩ := x1.prog rp' ex (x1.v.set (D.s.ref id) (k : Int) htl)
    have row3 := kept_row s3.1 row1 hnf
    obtain ⟨nb3, g3, _, hg3, hna3, cb3, _, hcj3, j1, _⟩ := x3.m.node nd.at_
    have hg3 : D.y.gs[id]? = some g3 := hg3
    have hg : D.y.gs[id]? = some g := hg
    rw [hg] at hg3
    obtain rfl := Option.some.inj hg3
    refine PtrOk_mk ⟨_, x3.m.cN, cb3, PtrOk_of hna3 ⟨g.rs, by rw [Int.toNat_natCast]; exact (hcj3 1 (by omega)).trans rfl, o.a, (mvc row3 1).trans rfl, (k : Int), round_ok (by omega) (by omega) ko.a ⟨by rw [ek], rfl⟩, ⟨by omega, by rw [hrs]; omega⟩, ?_⟩⟩
    obtain ⟨b4, g4, hg4, ha4, st⟩ := x3.m.setRef nd.at_ hk t
    have hg4 : D.y.gs[id]? = some g4 := hg4
    rw [hg] at hg4
    obtain rfl := Option.some.inj hg4
    refine PtrOk_of ha4 ?_
    rw [Int.toNat_natCast]
    refine st _ fun h5 Y5 m5 ch5 => ?_
    obtain ⟨x5, s5⟩ := x3.own m5 ch5
    have q := RS.setF_len (s := D.s) (D.s.ref id) (k : Int) (D.s.ref t)
    refine Cond_t rfl ?_
    have e0 : (D.s.setF (D.s.ref id) (k : Int) (D.s.ref t)).2 = 0 := by rw [es]
    rw [e0]
    refine hR h5 _ x5 ⟨RS.setF_lm c.lm, ?_, ?_⟩ (((Sts.of_kept k1).trans s3).trans s5) rfl (by show (D.s.setF (D.s.ref id) (k : Int) (D.s.ref t)).1.objs.length ≤ _; rw [q.1]; omega) (by show (D.s.setF (D.s.ref id) (k : Int) (D.s.ref t)).1.roots.length ≤ _; rw [q.2]; omega) trivial
    · show D.y.rt = (D.s.setF (D.s.ref id) (k : Int) (D.s.ref t)).1.roots
      rw [q.2]; exact c.rt
    · show (D.s.setF (D.s.ref id) (k : Int) (D.s.ref t)).1.Shd _
      rw [es]
      exact c.sh.setObj x.v hh (o := { D.s.obj id with refs := (D.s.obj id).refs.set k t }) rfl
  · -- MvLay
    refine Cond_b (fun _ => same) fun hz => ?_
    have hz : (((D.s.obj id).raws.length : Nat) : Int) ≠ 0 := by simpa using hz
    obtain ⟨k, hk, ek⟩ := rnd _ (by omega : 0 < (D.s.obj id).raws.length)
    refine PtrOk_mk ⟨_, x1.m.p, o.a, (mvc row1 1).trans rfl, (k : Int), round_ok (by omega) (by omega) ko.a ⟨by rw [ek], rfl⟩, o.v, (mvc row1 6).trans rfl, ?_⟩
    have ew : IntKind.wrap .i64 ((((D.s.obj id).refs.length : Nat) : Int) + (k : Int)) = (((D.s.obj id).refs.length + k : Nat) : Int) := by rw [wrap_i64' (by omega) (by omega)]; omega
    rw [ew]
    refine hset_ok x1.v x1.rp hrl ko.v fun h3 role' G' rp' ex => ⟨_, rfl, ?_⟩
    have es := RS.setF_raw x1.v (x := o.v) hh h0 hk
    obtain ⟨x3, s3⟩ := x1.prog rp' ex (x1.v.set (D.s.ref id) (((D.s.obj id).refs.length + k : Nat) : Int) ko.v)
    have row3 := kept_row s3.1 row1 hnf
    obtain ⟨nb3, g3, _, hg3, hna3, cb3, _, hcj3, _, j2⟩ := x3.m.node nd.at_
    have hg3 : D.y.gs[id]? = some g3 := hg3
    have hg : D.y.gs[id]? = some g := hg
    rw [hg] at hg3
    obtain rfl := Option.some.inj hg3
    refine PtrOk_mk ⟨_, x3.m.cN, cb3, PtrOk_of hna3 ⟨g.ws, by rw [Int.toNat_natCast]; exact (hcj3 2 (by omega)).trans rfl, o.a, (mvc row3 1).trans rfl, (k : Int), round_ok (by omega) (by omega) ko.a ⟨by rw [ek], rfl⟩, o.v, (mvc row3 6).trans rfl, ⟨by omega, by rw [hws]; omega⟩, ?_⟩⟩
    obtain ⟨b4, g4, hg4, ha4, st⟩ := x3.m.setRaw nd.at_ hk o.v
    have hg4 : D.y.gs[id]? = some g4 := hg4
    rw [hg] at hg4
    obtain rfl := Option.some.inj hg4
    refine PtrOk_of ha4 ?_
    rw [Int.toNat_natCast]
    refine st _ fun h5 Y5 m5 ch5 => ?_
    obtain ⟨x5, s5⟩ := x3.own m5 ch5
    have q := RS.setF_len (s := D.s) (D.s.ref id) (((D.s.obj id).refs.length + k : Nat) : Int) o.v
    have e0 : (D.s.setF (D.s.ref id) (((D.s.obj id).refs.length + k : Nat) : Int) o.v).2 = 0 := by rw [es]
    rw [e0]
    refine hR h5 _ x5 ⟨RS.setF_lm c.lm, ?_, ?_⟩ (((Sts.of_kept k1).trans s3).trans s5) rfl (by show (D.s.setF (D.s.ref id) (((D.s.obj id).refs.length + k : Nat) : Int) o.v).1.objs.length ≤ _; rw [q.1]; omega) (by show (D.s.setF (D.s.ref id) (((D.s.obj id).refs.length + k : Nat) : Int) o.v).1.roots.length ≤ _; rw [q.2]; omega) trivial
    · show D.y.rt = (D.s.setF (D.s.ref id) (((D.s.obj id).refs.length + k : Nat) : Int) o.v).1.roots
      rw [q.2]; exact c.rt
    · show (D.s.setF (D.s.ref id) (((D.s.obj id).refs.length + k : Nat) : Int) o.v).1.Shd _
      rw [es]
      exact c.sh.setObj x.v hh (o := { D.s.obj id with raws := (D.s.obj id).raws.set k o.v }) rfl
  · -- MvWrite
    refine ⟨_, (cell_row row1 0).trans rfl, _, (mvc row1 1).trans rfl, _, (mvc row1 2).trans rfl, _, (mvc row1 3).trans rfl, _, (mvc row1 4).trans rfl, _, (mvc row1 5).trans rfl, _, (mvc row1 6).trans rfl, o.d, (mvc row1 7).trans rfl, ?_⟩
    exact writes_ok x1 c ko1 kf hh h0 fun h2 D2 a1 a2 a3 a4 a5 a6 _ => ⟨true, rfl, hR h2 D2 a1 a2 ((Sts.of_kept k1).trans a3) a4 a5 a6 trivial⟩
  · -- MvFollow
    refine Cond_b (fun _ => same) fun hz => ?_
    have hz : (((D.s.obj id).refs.length : Nat) : Int) ≠ 0 := by simpa using hz
    obtain ⟨k, hk, ek⟩ := rnd _ (by omega : 0 < (D.s.obj id).refs.length)
    obtain ⟨r, hr⟩ : ∃ r, (D.s.obj id).refs[k]? = some r := ⟨_, List.getElem?_eq_getElem hk⟩
    have rin := x.v.rf id hh r (List.mem_of_getElem? hr)
    have eg := RS.getF_ref x1.v hh h0 hr
    refine PtrOk_mk ⟨_, x1.m.p, o.a, (mvc row1 1).trans rfl, (k : Int), round_ok (by omega) (by omega) ko.a ⟨by rw [ek], rfl⟩, hget_ok x1.v x1.rp hrl ⟨_, _, rfl, ?_⟩⟩
    rw [eg]
    obtain ⟨b2, _, ha2, hc2, cb2⟩ := sl_at i1 x1.m.sy hr
    refine Cond_t rfl (PtrOk_mk ⟨_, x1.m.cN, cb, PtrOk_of hna ⟨g.rs, by rw [Int.toNat_natCast]; exact (hcj 1 (by omega)).trans rfl, o.a, (mvc row1 1).trans rfl, (k : Int), round_ok (by omega) (by omega) ko.a ⟨by rw [ek], rfl⟩, cb2, PtrOk_of ha2 ⟨((r : Nat) : Int), by rw [Int.toNat_natCast]; exact hc2, ?_⟩⟩⟩)
    refine rooted_ok x1 c rl (RS.ref_lt x.v rin) (RS.good_ref x1.v rin) (RS.ident_ref x1.v rin) fun h9 D9 x9 c9 s9 z1 z2 z3 z4 z5 => ⟨_, rfl, ?_⟩
    have q := RS.rootF_len (s := D.s) (D.s.ref r)
    exact hR h9 D9 x9 c9 ((Sts.of_kept k1).trans s9) z3 (by rw [z1, q.1]; omega) (by rw [z1]; exact q.2) trivial
end
end Go.Ev
set_option linter.all false
set_option maxRecDepth 1000000
namespace Go.Ev
open Go.Proofs
/-- What is known of a step's outcome. -/
structure StepP (s : RS) (o : MvL) (last : Int) (s' : RS) : Prop where
  al : o.dw = 1 → last = (s.alloc o.a o.b o.c).2.2
  cl : o.dw = 8 → s' = s.collect
  rz : o.dw = 9 → s' = (s.resize o.a).1 ∧ last = (s.resize o.a).2
section
variable {h h' h2 : Hp} {sb hb : Nat} {D D' D2 : ShD} {y : ShY} {o : MvL}
theorem StepP.no {s s' : RS} {last : Int} (h1 : o.dw ≠ 1) (h8 : o.dw ≠ 8) (h9 : o.dw ≠ 9) : StepP s o last s' := ⟨fun e => absurd e h1, fun e => absurd e h8, fun e => absurd e h9⟩
/-- All that a step needs behind its head. -/
structure StW2 (h : Hp) (sb : Nat) (D : ShD) (o : MvL) (b : Nat) : Prop where
  x : Shw h sb D
  c : Coh D
  row : Row h b o.cells
  nf : ¬ D.foot b
  ko : o.Ok h
  kf : ∀ p, o.d.a = some p → o.bytes ≠ [] → ¬ D.foot p.block
  rl : D.s.roots.length < 100000000
theorem step_put {b : Nat} (p : StW2 h sb D o b) (hdw : o.dw = 6) {R : Value → Hp → Prop} (hR : Fs h sb D R fun last s' => StepP D.s o last s') {bl : Bool} (hb1 : bl = false → 0 ≤ heldI D.s (D.s.handN o.hh : Nat) ∧ 0 ≤ heldI D.s (D.s.handN o.gg : Nat)) :
    f16K2 (some (ad sb)) (ad b) ((D.s.handN o.hh : Nat) : Int) (heldI D.s (D.s.handN o.gg : Nat)) bl h R := by
  obtain ⟨x, c, row, nf, ko, kf, rl⟩ := p
  have sp : ∀ last s', StepP D.s o last s' := fun _ _ => StepP.no (by omega) (by omega) (by omega)
  unfold f16K2
  refine Cond_b (fun _ => hR h D x c (Sts.refl _ _) rfl (by omega) (by omega) (sp _ _)) fun hf => ?_
  obtain ⟨q1, q2⟩ := hb1 hf
  obtain ⟨id, hI, hin, hat, hn1, hs1⟩ := held_in (a := o.hh) x q1
  obtain ⟨t, tI, tin, tat, _, _⟩ := held_in (a := o.gg) x q2
  have htl : D.s.ref t < 18446744073709551616 := RS.ref_lt x.v tin
  have hnl := D.s.handN_le o.hh
  rw [tI]
  refine PtrOk_mk ⟨_, x.m.p, o.gg, (mvc row 5).trans rfl, _, hand_ok x c rl ko.gg ⟨rfl, rfl⟩, _, _, hat_ok x.v x.rp ⟨rfl, rfl⟩, PtrOk_mk ⟨_, x.m.p, ?_⟩⟩
  rw [tat]
  refine hput_ok x.v x.rp htl fun h3 role' G' rp' ex => ⟨_, rfl, ?_⟩
  have ep : D.s.putF (D.s.handN o.hh : Nat) (D.s.ref t) = (D.s.withRoots (D.s.roots.set (D.s.handN o.hh - 1) (some t)), 0) := by
    have e2 : (((D.s.handN o.hh : Nat) : Int) - 1).toNat = D.s.handN o.hh - 1 := by omega
    unfold RS.putF
    rw [hs1]
    simp only [RS.good_ref x.v tin, if_true, RS.ident_ref x.v tin, e2]
  obtain ⟨x3, s3⟩ := x.prog rp' ex (x.v.put (D.s.handN o.hh : Nat) (D.s.ref t))
  have hk : D.s.handN o.hh - 1 < D.y.rt.length := by rw [c.rt]; omega
  obtain ⟨b4, ha4, st⟩ := x3.m.setHand hk (some t)
  have ei : IntKind.wrap .i64 (((D.s.handN o.hh : Nat) : Int) - (1 : Int)) = ((D.s.handN o.hh - 1 : Nat) : Int) := by rw [wrap_i64' (by omega) (by omega)]; omega
  have hsn : D.y.hs.n = D.y.rt.length := x.m.hh_n
  refine PtrOk_mk ⟨_, x3.m.cH, ?_⟩
  rw [ei]
  refine ⟨⟨by omega, by show ((D.s.handN o.hh - 1 : Nat) : Int) < ((D.y.hs.n : Nat) : Int); omega⟩, PtrOk_of ha4 ?_⟩
  rw [Int.toNat_natCast]
  refine st _ fun h5 Y5 m5 ch5 => ?_
  obtain ⟨x5, s5⟩ := x3.own m5 ch5
  have q := RS.putF_len (s := D.s) (D.s.handN o.hh : Nat) (D.s.ref t)
  have e0 : (D.s.putF (D.s.handN o.hh : Nat) (D.s.ref t)).2 = 0 := by rw [ep]
  refine Cond_t rfl ?_
  rw [e0]
  refine hR h5 _ x5 ⟨RS.putF_lm c.lm, ?_, ?_⟩ (s3.trans s5) rfl (by show (D.s.putF (D.s.handN o.hh : Nat) (D.s.ref t)).1.objs.length ≤ _; rw [q.1]; omega) (by show (D.s.putF (D.s.handN o.hh : Nat) (D.s.ref t)).1.roots.length ≤ _; rw [q.2]; omega) (sp _ _)
  · show D.y.rt.set _ _ = (D.s.putF (D.s.handN o.hh : Nat) (D.s.ref t)).1.roots
    rw [ep, c.rt]; rfl
  · show (D.s.putF (D.s.handN o.hh : Nat) (D.s.ref t)).1.Shd D.y.nd
    rw [ep]; exact c.sh.roots _
theorem step_rest {b : Nat} (p : StW2 h sb D o b) (hn1 : o.dw ≠ 1) (hlast : D.y.last = 0) {R : Value → Hp → Prop} (hR : Fs h sb D R fun last s' => StepP D.s o last s') {bl : Bool} (hb1 : bl = true → o.dw ≠ 8 ∧ o.dw ≠ 9) :
    f16K1 (some (ad sb)) (ad b) ((D.s.handN o.hh : Nat) : Int) o.dw bl h R := by
  have p' := p
  obtain ⟨x, c, row, nf, ko, kf, rl⟩ := p
  have hnl := D.s.handN_le o.hh
  unfold f16K1
  refine Cond_b (fun ht => ?_) fun _ => Cond_b (fun h5 => ?_) fun n5 => Cond_b (fun h6 => ?_) fun n6 => Cond_b (fun h8 => ?_) fun n8 => Cond_b (fun h9 => ?_) fun n9 => ?_
  · obtain ⟨n8, n9⟩ := hb1 ht
    refine ⟨_, (cell_row row 0).trans rfl, _, (mvc row 1).trans rfl, _, (mvc row 2).trans rfl, _, (mvc row 3).trans rfl, _, (mvc row 4).trans rfl, _, (mvc row 5).trans rfl, _, (mvc row 6).trans rfl, o.d, (mvc row 7).trans rfl, ?_⟩
    exact changes_ok x c ko kf rl fun h2 D2 a1 a2 a3 a4 a5 a6 _ => ⟨true, rfl, hR h2 D2 a1 a2 a3 a4 a5 a6 (StepP.no hn1 n8 n9)⟩
  · have h5 : o.dw = 5 := by simpa using h5
    have sp : ∀ last s', StepP D.s o last s' := fun _ _ => StepP.no (by omega) (by omega) (by omega)
    refine held_ok x c rl (by omega) ⟨_, rfl, Cond_dec (fun _ => hR h D x c (Sts.refl _ _) rfl (by omega) (by omega) (sp _ _)) fun hge => ?_⟩
    obtain ⟨id, hI, hin, hat, hn1, hs1⟩ := held_in (a := o.hh) x (by omega)
    refine PtrOk_mk ⟨_, x.m.p, hdrop_ok x.v x.rp fun h3 role' G' rp' ex => ⟨_, rfl, ?_⟩⟩
    have ep : D.s.dropF (D.s.handN o.hh : Nat) = (D.s.withRoots (D.s.roots.set (D.s.handN o.hh - 1) none), 0) := by
      have e2 : (((D.s.handN o.hh : Nat) : Int) - 1).toNat = D.s.handN o.hh - 1 := by omega
      unfold RS.dropF
      rw [hs1]
      simp only [e2]
    obtain ⟨x3, s3⟩ := x.prog rp' ex (x.v.drop (D.s.handN o.hh : Nat))
    have hk : D.s.handN o.hh - 1 < D.y.rt.length := by rw [c.rt]; omega
    obtain ⟨b4, ha4, st⟩ := x3.m.setHand hk none
    have ei : IntKind.wrap .i64 (((D.s.handN o.hh : Nat) : Int) - (1 : Int)) = ((D.s.handN o.hh - 1 : Nat) : Int) := by rw [wrap_i64' (by omega) (by omega)]; omega
    have hsn : D.y.hs.n = D.y.rt.length := x.m.hh_n
    refine PtrOk_mk ⟨_, x3.m.cH, ?_⟩
    rw [ei]
    refine ⟨⟨by omega, by show ((D.s.handN o.hh - 1 : Nat) : Int) < ((D.y.hs.n : Nat) : Int); omega⟩, PtrOk_of ha4 ?_⟩
    rw [Int.toNat_natCast]
    refine st _ fun h5 Y5 m5 ch5 => ?_
    obtain ⟨x5, s5⟩ := x3.own m5 ch5
    have q := RS.dropF_len (s := D.s) (D.s.handN o.hh : Nat)
    have e0 : (D.s.dropF (D.s.handN o.hh : Nat)).2 = 0 := by rw [ep]
    rw [e0]
    refine hR h5 _ x5 ⟨RS.dropF_lm c.lm, ?_, ?_⟩ (s3.trans s5) rfl (by show (D.s.dropF (D.s.handN o.hh : Nat)).1.objs.length ≤ _; rw [q.1]; omega) (by show (D.s.dropF (D.s.handN o.hh : Nat)).1.roots.length ≤ _; rw [q.2]; omega) (sp _ _)
    · show D.y.rt.set _ _ = (D.s.dropF (D.s.handN o.hh : Nat)).1.roots
      rw [ep, c.rt]; rfl
    · show (D.s.dropF (D.s.handN o.hh : Nat)).1.Shd D.y.nd
      rw [ep]; exact c.sh.roots _
  · have h6 : o.dw = 6 := by simpa using h6
    have hng := D.s.handN_le o.gg
    refine ⟨o.gg, (mvc row 5).trans rfl, hand_ok x c rl ko.gg ⟨_, rfl, held_ok x c rl (by omega) ⟨_, rfl, held_ok x c rl (by omega) ⟨_, rfl, ?_⟩⟩⟩⟩
    refine Cond_dec (fun _ => step_put p' h6 hR nofun) fun hge => step_put p' h6 hR fun hf => ⟨by omega, ?_⟩
    have := of_decide_eq_false hf
    omega
  · have h8 : o.dw = 8 := by simpa using h8
    refine PtrOk_mk ⟨_, x.m.p, hcollect_ok x.v x.rp fun h3 role' G' sp' rp' ex => ⟨rfl, ?_⟩⟩
    obtain ⟨x3, s3⟩ := x.prog rp' ex x.v.collect
    have sub := RS.Sub.collect x.v
    exact hR h3 _ x3 ⟨RS.collect_lm c.lm, c.rt.trans sub.roots.symm, c.sh.sub sub⟩ s3 rfl (by show D.s.collect.objs.length ≤ _; rw [sub.len]; omega) (by show D.s.collect.roots.length ≤ _; rw [sub.roots]; omega) ⟨fun e => absurd e hn1, fun _ => rfl, fun e => absurd e (by omega)⟩
  · have h9 : o.dw = 9 := by simpa using h9
    refine PtrOk_mk ⟨_, x.m.p, o.a, (mvc row 1).trans rfl, hresize_ok x.v x.rp fun h3 role' G' sp' rp' ex => ⟨_, rfl, PtrOk_mk ?_⟩⟩
    obtain ⟨x3, s3⟩ := x.prog rp' ex (x.v.resize o.a)
    have sub := RS.Sub.resize x.v o.a
    refine x3.m.setLast (D.s.resize o.a).2 fun h4 Y4 m4 ch4 => ?_
    obtain ⟨x4, s4⟩ := x3.own m4 ch4
    exact hR h4 _ x4 ⟨RS.resize_lm c.lm, c.rt.trans sub.roots.symm, c.sh.sub sub⟩ (s3.trans s4) rfl (by show (D.s.resize o.a).1.objs.length ≤ _; rw [sub.len]; omega) (by show (D.s.resize o.a).1.roots.length ≤ _; rw [sub.roots]; omega) ⟨fun e => absurd e hn1, fun e => absurd e (by omega), fun _ => ⟨rfl, rfl⟩⟩
  · have n8 : o.dw ≠ 8 := by simpa using n8
    have n9 : o.dw ≠ 9 := by simpa using n9
    exact hR h D x c (Sts.refl _ _) rfl (by omega) (by omega) (StepP.no hn1 n8 n9)
theorem step_ok (x : Shw h sb D) (c : Coh D) (ko : o.Ok h) (kf : ∀ p, o.d.a = some p → o.bytes ≠ [] → ¬ D.foot p.block) (ol : D.s.objs.length < 100000000) (rl : D.s.roots.length < 100000000) {R : Value → Hp → Prop}
    (hR : Fs h sb D R fun last s' => StepP D.s o last s') : CallTo Try.prog 16 #[.pointer (some (ad sb)), o.val] h R := by
  refine f16F_ok ?_
  unfold f16F
  refine Let_mk fun h1 e1 => PtrOk_mk ?_
  have k1 : Kept N h h1 := e1 ▸ kept_push _ _ _
  have x1 := x.keepN k1
  have row1 : Row h1 h.size o.cells := e1 ▸ row_new h _ 33
  have hnf : ¬ D.foot h.size := fun hb => by have := x.foot_lt hb; omega
  refine x1.m.setLast 0 fun h2 Y2 m2 ch2 => ?_
  obtain ⟨x2, s2⟩ := x1.own m2 ch2
  have enb : nb h = ad h.size := rfl
  rw [enb]
  have row2 := kept_row s2.1 row1 hnf
  have ko2 := (ko.keep k1 fun _ _ _ => _root_.id).keep s2.1 kf
  have c2 : Coh { D with y := { D.y with Y := Y2, last := 0 } } := ⟨c.lm, c.rt, c.sh⟩
  have hlt1 : h.size < h1.size := row_lt row1
  have nf2 : ¬ ShD.foot { D with y := { D.y with Y := Y2, last := 0 } } h.size := fun e => by
    rcases s2.2 _ e with e | e
    · exact hnf e
    · omega
  have kf2 : ∀ p, o.d.a = some p → o.bytes ≠ [] → ¬ ShD.foot { D with y := { D.y with Y := Y2, last := 0 } } p.block := fun p hp hn e => by
    rcases s2.2 _ e with e | e
    · exact kf p hp hn e
    · have := (ko.old p hp hn); have := k1.1; omega
  have s02 := (Sts.of_kept (D := D) k1).trans s2
  have hR2 : Fs h2 sb { D with y := { D.y with Y := Y2, last := 0 } } R fun last s' => StepP D.s o last s' := fun h' D' a1 a2 a3 a4 a5 a6 a7 => hR h' D' a1 a2 (s02.trans a3) a4 a5 a6 a7
  have p : StW2 h2 sb { D with y := { D.y with Y := Y2, last := 0 } } o h.size := ⟨x2, c2, row2, nf2, ko2, kf2, rl⟩
  refine ⟨o.hh, (mvc row2 4).trans rfl, hand_ok x2 c2 rl ko.hh ⟨_, rfl, o.dw, (cell_row row2 0).trans rfl, Cond_b (fun h1' => ?_) fun n1 => ?_⟩⟩
  · have h1' : o.dw = 1 := by simpa using h1'
    refine ⟨_, (cell_row row2 0).trans rfl, _, (mvc row2 1).trans rfl, _, (mvc row2 2).trans rfl, _, (mvc row2 3).trans rfl, _, (mvc row2 4).trans rfl, _, (mvc row2 5).trans rfl, _, (mvc row2 6).trans rfl, o.d, (mvc row2 7).trans rfl, ?_⟩
    exact makes_ok x2 c2 ko2 ol rl fun h' D' a1 a2 a3 a4 a5 a6 a7 => ⟨true, rfl, hR2 h' D' a1 a2 a3 a4 a5 a6 ⟨fun _ => a7, fun e => absurd e (by omega), fun e => absurd e (by omega)⟩⟩
  · have n1 : o.dw ≠ 1 := by simpa using n1
    refine Cond_b (fun e => ?_) fun _ => Cond_b (fun e => ?_) fun _ => Cond_b (fun e => ?_) fun _ => ?_
    all_goals first
      | exact step_rest p n1 rfl hR2 (bl := (o.dw == 2)) fun e => by have : o.dw = 2 := by simpa using e
                                                                     omega
      | exact step_rest p n1 rfl hR2 (bl := (o.dw == 3)) fun e => by have : o.dw = 3 := by simpa using e
                                                                     omega
      | exact step_rest p n1 rfl hR2 (bl := (o.dw == 4)) fun e => by have : o.dw = 4 := by simpa using e
                                                                     omega
      | exact step_rest p n1 rfl hR2 (bl := (o.dw == 7)) fun e => by have : o.dw = 7 := by simpa using e
                                                                     omega
end
end Go.Ev
set_option linter.all false
set_option maxRecDepth 1000000
namespace Go.Ev
open Go.Proofs
namespace RS
section
variable {s : RS}
theorem ref_nz (v : s.Inv) {id : Nat} (hh : s.here id) (h0 : id ≠ 0) : s.ref id ≠ 0 := fun e => by
  have := ident_ref v (id := id) (.inr hh)
  rw [e, ident_zero] at this
  exact h0 this.symm
theorem ref_inj (v : s.Inv) {a b : Nat} (ha : a = 0 ∨ s.here a) (hb : b = 0 ∨ s.here b) (e : s.ref a = s.ref b) : a = b := by
  rw [← ident_ref v ha, ← ident_ref v hb, e]
def lsum (s : RS) (l : List Nat) : Nat := (l.map fun id => s.size id + 1).sum
theorem lsum_snoc (l : List Nat) (x : Nat) : s.lsum (l ++ [x]) = s.lsum l + (s.size x + 1) := by unfold lsum; simp
theorem lsum_le (v : s.Inv) {B : Nat} (hB : 3000000 ≤ B) : ∀ l : List Nat, (∀ x ∈ l, s.here x) → s.lsum l ≤ l.length * B := by
  intro l
  induction l with
  | nil => intro _; unfold lsum; simp
  | cons x l ih =>
    intro h
    have h1 := ih fun y hy => h y (List.mem_cons_of_mem _ hy)
    have h2 := v.shp x (h x (List.mem_cons_self ..))
    have h3 : s.size x = 1 + (s.obj x).refs.length + (s.obj x).raws.length := rfl
    unfold lsum at h1 ⊢
    rw [List.map_cons, List.sum_cons, List.length_cons, Nat.add_mul]
    omega
/-- What 'where' says of each node. -/
def whereN (s : RS) (g : Gc) (id : Nat) : Nat := if id ∈ g.copied ∨ id ∈ g.line then s.ref id else 0
def whereV (s : RS) (g : Gc) : List Nat := (List.range s.objs.length).map (s.whereN g)
theorem whereV_len (g : Gc) : (s.whereV g).length = s.objs.length := by unfold whereV; simp
theorem whereV_at {g : Gc} {id : Nat} (h : id < s.objs.length) : (s.whereV g)[id]? = some (s.whereN g id) := by unfold whereV; rw [List.getElem?_map, List.getElem?_range h]; rfl
theorem whereV_set {g g' : Gc} {id : Nat} (h : id < s.objs.length) (e : ∀ x, (x ∈ g'.copied ∨ x ∈ g'.line) ↔ (x = id ∨ x ∈ g.copied ∨ x ∈ g.line)) : (s.whereV g).set id (s.ref id) = s.whereV g' := by
  apply List.ext_getElem?
  intro j
  by_cases hj : j < s.objs.length
  · rw [whereV_at hj]
    by_cases e2 : j = id
    · subst e2
      rw [List.getElem?_set_self (by rw [whereV_len]; exact hj)]
      unfold whereN
      rw [if_pos ((e j).2 (.inl rfl))]
    · rw [List.getElem?_set_ne (Ne.symm e2), whereV_at hj]
      unfold whereN
      by_cases h3 : j ∈ g.copied ∨ j ∈ g.line
      · rw [if_pos h3, if_pos ((e j).2 (.inr h3))]
      · rw [if_neg h3, if_neg fun h4 => ((e j).1 h4).elim e2 h3]
  · rw [List.getElem?_eq_none (by rw [List.length_set, whereV_len]; omega), List.getElem?_eq_none (by rw [whereV_len]; omega)]
end
end RS
structure ZT (h : Hp) (zb : Nat) (W : Mem) (s : RS) (g : RS.Gc) (ss bs wh : Sl) : Prop where
  sep : Sep h W
  loc : W.loc 0 = some zb
  hd : W.cont 0 = [slV ss, slV bs, slV wh, nv (1 + s.sizes g.copied), nv (s.lsum g.line)]
  whr : IsSl 1 W 1 wh ((s.whereV g).map uv)
  sm : IsSl 1 W 2 ss ((g.copied.map s.ref).map uv)
  bg : IsSl 1 W 3 bs ((g.line.map s.ref).map uv)
section
variable {h h' : Hp} {sb zb : Nat} {D : ShD} {W : Mem} {s : RS} {g : RS.Gc} {ss bs wh : Sl}
theorem ZT.keep (z : ZT h zb W s g ss bs wh) {S : Nat → Prop} (k : Kept S h h') (hS : ∀ b, W.own b → ¬ S b) : ZT h' zb W s g ss bs wh := ⟨z.sep.keep k hS, z.loc, z.hd, z.whr, z.sm, z.bg⟩
theorem ZT.c (z : ZT h zb W s g ss bs wh) (i : Nat) : cell h ((ad zb).add i) = [slV ss, slV bs, slV wh, nv (1 + s.sizes g.copied), nv (s.lsum g.line)][i]? := by rw [z.sep.cellA z.loc, z.hd]
theorem ZT.c0 (z : ZT h zb W s g ss bs wh) : cell h (ad zb) = some (slV ss) := by rw [z.sep.cell0 z.loc, z.hd]; rfl
theorem ZT.sn (z : ZT h zb W s g ss bs wh) : ss.n = g.copied.length := by have := z.sm.len; rw [List.length_map, List.length_map] at this; omega
theorem ZT.bn (z : ZT h zb W s g ss bs wh) : bs.n = g.line.length := by have := z.bg.len; rw [List.length_map, List.length_map] at this; omega
theorem ZT.wn (z : ZT h zb W s g ss bs wh) : wh.n = s.objs.length := by have := z.whr.len; rw [List.length_map, RS.whereV_len] at this; omega
/-- The look's two things stay apart. -/
def Apt (D : ShD) (W : Mem) : Prop := ∀ b, D.foot b → ¬ W.own b
theorem Apt.chg {W' : Mem} (a : Apt D W) (x : Shw h sb D) (c : Chg h W h' W') : Apt D W' := fun b hb hw => by
  rcases c.2 b hw with e | e
  · exact a b hb e
  · have := x.foot_lt hb; omega
theorem or_a {a b c : Prop} : ((b ∨ a) ∨ c) ↔ (a ∨ b ∨ c) := ⟨fun h => h.elim (fun h => h.elim (fun h => .inr (.inl h)) .inl) fun h => .inr (.inr h), fun h => h.elim (fun h => .inl (.inr h)) fun h => h.elim (fun h => .inl (.inl h)) .inr⟩
theorem or_b {a b c : Prop} : (b ∨ (c ∨ a)) ↔ (a ∨ b ∨ c) := ⟨fun h => h.elim (fun h => .inr (.inl h)) fun h => h.elim (fun h => .inr (.inr h)) .inl, fun h => h.elim (fun h => .inr (.inr h)) fun h => h.elim .inl fun h => .inr (.inl h)⟩
theorem sreach_ok (x : Shw h sb D) (c : Coh D) (z : ZT h zb W D.s g ss bs wh) (ap : Apt D W) (k : RS.GcOk D.s g) (ol : D.s.objs.length < 100000000) {id : Nat} (hid : id = 0 ∨ D.s.here id) {R : Value → Hp → Prop}
    (hR : ∀ h' W' ss' bs' wh', Shw h' sb D → ZT h' zb W' D.s (D.s.reach g id) ss' bs' wh' → Apt D W' → Chg h W h' W' → R (.bool true) h') : CallTo Try.prog 40 #[.pointer (some (ad zb)), .pointer (some (ad sb)), uv (D.s.ref id), .int .i64 (id : Int)] h R := by
  refine f40F_ok ?_
  unfold f40F
  by_cases h0 : id = 0
  · subst h0
    rw [RS.reach_in (.inl rfl)] at hR
    refine Cond_t rfl ?_
    unfold f40K1
    have e : D.s.ref 0 = 0 := by unfold RS.ref; rw [if_pos rfl]
    rw [e]
    exact Cond_t rfl (Cond_t rfl (hR h W ss bs wh x z ap (Chg.refl _ _)))
  have hh := hid.resolve_left h0
  have hrz := RS.ref_nz x.v hh h0
  have hlt := x.v.here_lt hh
  have hl2 := k.len2
  have i5 := x.v.sll; have i2 := x.v.u1; have i3 := x.v.u2; have i4 := x.v.h2; have i6 := x.v.l2
  have hsz : D.s.sizes g.copied ≤ D.s.sizes D.s.small := RS.sizes_le _ _ (List.nodup_append.1 k.nd).1 k.cp
  have hls := RS.lsum_le x.v (B := 3000000) (Nat.le_refl _) g.line fun y hy => k.here (.inr hy)
  have hcs : g.copied.length ≤ D.s.sizes g.copied := by
    have : ∀ l : List Nat, l.length ≤ D.s.sizes l := by
      intro l
      induction l with
      | nil => exact Nat.le_refl _
      | cons y l ih => unfold RS.sizes at ih ⊢; rw [List.map_cons, List.sum_cons, List.length_cons]; have : 1 ≤ D.s.size y := (by unfold RS.size RObj.size; omega); omega
    exact this _
  refine Cond_f (by simp; omega) ?_
  have hz2 : (((D.s.ref id : Nat) : Int) == (0 : Int)) = false := by simp; omega
  rw [hz2]
  unfold f40K1
  have cw : cell h ((ad zb).add 2) = some (.slice wh.a wh.n wh.c) := (z.c 2).trans rfl
  obtain ⟨b1, hb1, ha1, hc1, cb1⟩ := sl_at z.whr z.sep (RS.whereV_at hlt)
  have cs : cell h (ad zb) = some (.slice ss.a ss.n ss.c) := z.c0
  have cbg : cell h ((ad zb).add 1) = some (.slice bs.a bs.n bs.c) := (z.c 1).trans rfl
  refine Cond_f rfl (PtrOk_mk ⟨wh, cw, cb1, PtrOk_of ha1 ⟨((D.s.whereN g id : Nat) : Int), by rw [Int.toNat_natCast]; exact hc1, ?_⟩⟩)
  by_cases hin : id ∈ g.copied ∨ id ∈ g.line
  · rw [RS.reach_in (.inr hin)] at hR
    have ew : D.s.whereN g id = D.s.ref id := by unfold RS.whereN; rw [if_pos hin]
    refine Cond_t (by rw [ew]; simp; omega) (PtrOk_mk ⟨wh, cw, cb1, PtrOk_of ha1 ⟨((D.s.whereN g id : Nat) : Int), by rw [Int.toNat_natCast]; exact hc1, ?_⟩⟩)
    rw [ew, beq_self_eq_true]
    exact hR h W ss bs wh x z ap (Chg.refl _ _)
  have ew : D.s.whereN g id = 0 := by unfold RS.whereN; rw [if_neg hin]
  have hn : ¬ (id = 0 ∨ id ∈ g.copied ∨ id ∈ g.line) := fun c => c.elim h0 hin
  rw [ew]
  refine Cond_f rfl ?_
  have hsn := z.sn
  have hbn := z.bn
  refine f40L1_rule (fun q s0 s1 s2 s3 s9 h' => ∃ i : Nat, i ≤ g.copied.length ∧ q = g.copied.length - i ∧ s0 = some (ad zb) ∧ s1 = some (ad sb) ∧ s2 = ((D.s.ref id : Nat) : Int) ∧ s3 = (id : Int) ∧ s9 = (i : Int) ∧ h' = h) g.copied.length ⟨0, Nat.zero_le _, rfl, rfl, rfl, rfl, rfl, rfl, rfl⟩ ?_
  rintro q s0 s1 s2 s3 s9 g0 h1 ⟨i, hi, rfl, rfl, rfl, rfl, rfl, rfl, rfl⟩
  unfold f40L1
  refine PtrOk_mk ⟨ss, cs, Cond_dec (fun hlt1 => ?_) fun _ => ?_⟩
  · have hil : i < g.copied.length := by omega
    have e0 : (g.copied.map D.s.ref)[i]? = some (D.s.ref g.copied[i]) := by rw [List.getElem?_map, List.getElem?_eq_getElem hil]; rfl
    obtain ⟨b2, _, ha2, hc2, cb2⟩ := sl_at z.sm z.sep e0
    have hne : D.s.ref g.copied[i] ≠ D.s.ref id := fun e => hin (.inl (RS.ref_inj x.v (.inr (k.here (.inl (List.getElem_mem hil)))) (.inr hh) e ▸ List.getElem_mem hil))
    refine PtrOk_mk ⟨ss, cs, cb2, PtrOk_of ha2 ⟨_, by rw [Int.toNat_natCast]; exact hc2, Cond_f (by simp; omega) ⟨g.copied.length - (i + 1), by omega, i + 1, hil, rfl, rfl, rfl, rfl, rfl, ?_, rfl⟩⟩⟩
    rw [wrap_i64' (by omega) (by omega)]; rfl
  refine f40L2_rule (fun q s0 s1 s2 s3 s10 h' => ∃ i : Nat, i ≤ g.line.length ∧ q = g.line.length - i ∧ s0 = some (ad zb) ∧ s1 = some (ad sb) ∧ s2 = ((D.s.ref id : Nat) : Int) ∧ s3 = (id : Int) ∧ s10 = (i : Int) ∧ h' = h1) g.line.length ⟨0, Nat.zero_le _, rfl, rfl, rfl, rfl, rfl, rfl, rfl⟩ ?_
  rintro q s0 s1 s2 s3 s9 g1 h2 ⟨i, hi, rfl, rfl, rfl, rfl, rfl, rfl, rfl⟩
  unfold f40L2
  refine PtrOk_mk ⟨bs, cbg, Cond_dec (fun hlt1 => ?_) fun _ => ?_⟩
  · have hil : i < g.line.length := by omega
    have e0 : (g.line.map D.s.ref)[i]? = some (D.s.ref g.line[i]) := by rw [List.getElem?_map, List.getElem?_eq_getElem hil]; rfl
    obtain ⟨b2, _, ha2, hc2, cb2⟩ := sl_at z.bg z.sep e0
    have hne : D.s.ref g.line[i] ≠ D.s.ref id := fun e => hin (.inr (RS.ref_inj x.v (.inr (k.here (.inr (List.getElem_mem hil)))) (.inr hh) e ▸ List.getElem_mem hil))
    refine PtrOk_mk ⟨bs, cbg, cb2, PtrOk_of ha2 ⟨_, by rw [Int.toNat_natCast]; exact hc2, Cond_f (by simp; omega) ⟨g.line.length - (i + 1), by omega, i + 1, hil, rfl, rfl, rfl, rfl, rfl, ?_, rfl⟩⟩⟩
    rw [wrap_i64' (by omega) (by omega)]; rfl
  refine PtrOk_mk ⟨wh, cw, cb1, PtrOk_of ha1 ?_⟩
  rw [Int.toNat_natCast]
  obtain ⟨q1, q2⟩ := z.whr.set hb1 (uv (D.s.ref id)) (o := id) (by rw [List.length_map, RS.whereV_len]; exact hlt)
  refine z.sep.st (v := uv (D.s.ref id)) hb1 (by rw [add_ad, Nat.mul_one]) q1 fun h3 sp3 ch3 => PtrOk_mk ?_
  have x3 := x.keep ch3.1 ap
  have ap3 := ap.chg x ch3
  have nd := Nd.of x3 c hh h0
  obtain ⟨nb, gg, hl1, hg, hna, cb, _, hcj, i1, i2⟩ := x3.m.node nd.at_
  have hrs : (D.s.obj id).refs.length = gg.rs.n * 1 := by have := i1.len; rwa [List.length_map] at this
  have hws : (D.s.obj id).raws.length = gg.ws.n * 1 := by have := i2.len; rwa [List.length_map] at this
  have shp := x.v.shp id hh
  have hsize : D.s.size id = 1 + (D.s.obj id).refs.length + (D.s.obj id).raws.length := rfl
  refine ⟨_, x3.m.cN, cb, PtrOk_of hna ⟨gg.rs, (hcj 1 (by omega)).trans rfl, PtrOk_mk ⟨_, x3.m.cN, cb, PtrOk_of hna ⟨gg.ws, (hcj 2 (by omega)).trans rfl, ?_⟩⟩⟩⟩
  have en : IntKind.wrap .i64 ((IntKind.wrap .i64 ((1 : Int) + (((gg.rs.n : Nat) : Int)))) + (((gg.ws.n : Nat) : Int))) = ((D.s.size id : Nat) : Int) := by
    rw [wrap_i64' (x := (1 : Int) + (((gg.rs.n : Nat) : Int))) (by omega) (by omega), wrap_i64' (by omega) (by omega)]
    omega
  rw [en]
  have l0 : (W.upd 1 (some b1) ((W.cont 1).set id (uv (D.s.ref id)))).loc 0 = some zb := (Mem.loc_ne _ _ _ (by omega)).trans z.loc
  have c0 : (W.upd 1 (some b1) ((W.cont 1).set id (uv (D.s.ref id)))).cont 0 = [slV ss, slV bs, slV wh, nv (1 + D.s.sizes g.copied), nv (D.s.lsum g.line)] := (Mem.cont_ne _ _ _ (by omega)).trans z.hd
  rw [← List.map_set] at q2
  rcases x.v.big_of hh with ⟨hbig, hsl, _⟩ | ⟨hbig, hsm⟩
  · have h64 : 64 < D.s.size id := by
      obtain ⟨j, hj⟩ := List.mem_iff_getElem?.1 hsl
      exact (x.v.sl j id hj h0).2.2.1
    rw [RS.reach_big hn hbig] at hR
    refine Cond_f (decide_eq_false (by omega)) (PtrOk_mk ⟨bs, by rw [sp3.cellA l0, c0]; rfl, ?_⟩)
    refine (z.bg.other (by omega)).app1 (arr := #[uv (D.s.ref id)]) (t := 30) (bys := 8) sp3 rfl rfl (fun v hv => by obtain rfl := List.mem_singleton.1 hv; rfl) (by omega) (by omega) fun a' c' h4 ob4 c4 sp4 sl4 ch4 => PtrOk_mk ?_
    have l04 : ((W.upd 1 (some b1) ((W.cont 1).set id (uv (D.s.ref id)))).upd 3 ob4 c4).loc 0 = some zb := (Mem.loc_ne _ _ _ (by omega)).trans l0
    have c04 : ((W.upd 1 (some b1) ((W.cont 1).set id (uv (D.s.ref id)))).upd 3 ob4 c4).cont 0 = [slV ss, slV bs, slV wh, nv (1 + D.s.sizes g.copied), nv (D.s.lsum g.line)] := (Mem.cont_ne _ _ _ (by omega)).trans c0
    have x4 := x3.keep ch4.1 ap3
    have ap4 := ap3.chg x3 ch4
    refine sp4.st l04 (add_ad _ _) (by rw [c04]; show 1 < 5; omega) fun h5 sp5 ch5 => PtrOk_mk ?_
    have x5 := x4.keep ch5.1 ap4
    have ap5 := ap4.chg x4 ch5
    have c05 : (Mem.upd ((W.upd 1 (some b1) ((W.cont 1).set id (uv (D.s.ref id)))).upd 3 ob4 c4) 0 (some zb) ((((W.upd 1 (some b1) ((W.cont 1).set id (uv (D.s.ref id)))).upd 3 ob4 c4).cont 0).set 1 (.slice a' (bs.n + 1) c'))).cont 0 = [slV ss, slV bs, slV wh, nv (1 + D.s.sizes g.copied), nv (D.s.lsum g.line)].set 1 (.slice a' (bs.n + 1) c') := (Mem.cont_self ..).trans (by rw [c04])
    have l05 := Mem.loc_self ((W.upd 1 (some b1) ((W.cont 1).set id (uv (D.s.ref id)))).upd 3 ob4 c4) 0 (some zb) ((((W.upd 1 (some b1) ((W.cont 1).set id (uv (D.s.ref id)))).upd 3 ob4 c4).cont 0).set 1 (.slice a' (bs.n + 1) c'))
    refine ⟨((D.s.lsum g.line : Nat) : Int), by rw [sp5.cellA l05, c05]; rfl, PtrOk_mk ?_⟩
    refine sp5.st l05 (add_ad _ _) (by rw [c05]; show 4 < 5; omega) fun h6 sp6 ch6 => ?_
    refine hR h6 _ ss ⟨a', bs.n + 1, c'⟩ wh (x5.keep ch6.1 ap5) ⟨sp6, Mem.loc_self .., ?_, ?_, ?_, ?_⟩ (ap5.chg x5 ch6) (((ch3.trans ch4).trans ch5).trans ch6)
    · refine (Mem.cont_self ..).trans ?_
      rw [c05]
      have e1 : IntKind.wrap .i64 ((IntKind.wrap .i64 (((D.s.lsum g.line : Nat) : Int) + ((D.s.size id : Nat) : Int))) + (1 : Int)) = ((D.s.lsum (g.line ++ [id]) : Nat) : Int) := by
        rw [RS.lsum_snoc, wrap_i64' (x := ((D.s.lsum g.line : Nat) : Int) + ((D.s.size id : Nat) : Int)) (by omega) (by omega), wrap_i64' (by omega) (by omega)]
        omega
      rw [e1]
      rfl
    · rw [RS.whereV_set (g := g) (g' := { g with line := g.line ++ [id] }) hlt (fun y => by simp only [List.mem_append, List.mem_singleton]; exact or_b)] at q2
      exact ((q2.other (by omega)).other (by omega)).other (by omega)
    · exact (((z.sm.other (by omega)).other (by omega)).other (by omega)).other (by omega)
    · show IsSl 1 _ 3 _ (((g.line ++ [id]).map D.s.ref).map uv)
      rw [List.map_append, List.map_append]
      exact (sl4.other (by omega)).other (by omega)
  · have h64 : D.s.size id ≤ 64 := (x.v.sm id hsm).2.2.2.1
    rw [RS.reach_small hn hbig] at hR
    refine Cond_t (decide_eq_true (by omega)) (PtrOk_mk ⟨ss, by rw [sp3.cell0 l0, c0]; rfl, ?_⟩)
    refine (z.sm.other (by omega)).app1 (arr := #[uv (D.s.ref id)]) (t := 30) (bys := 8) sp3 rfl rfl (fun v hv => by obtain rfl := List.mem_singleton.1 hv; rfl) (by omega) (by omega) fun a' c' h4 ob4 c4 sp4 sl4 ch4 => PtrOk_mk ?_
    have l04 : ((W.upd 1 (some b1) ((W.cont 1).set id (uv (D.s.ref id)))).upd 2 ob4 c4).loc 0 = some zb := (Mem.loc_ne _ _ _ (by omega)).trans l0
    have c04 : ((W.upd 1 (some b1) ((W.cont 1).set id (uv (D.s.ref id)))).upd 2 ob4 c4).cont 0 = [slV ss, slV bs, slV wh, nv (1 + D.s.sizes g.copied), nv (D.s.lsum g.line)] := (Mem.cont_ne _ _ _ (by omega)).trans c0
    have x4 := x3.keep ch4.1 ap3
    have ap4 := ap3.chg x3 ch4
    refine sp4.st l04 (o := 0) rfl (by rw [c04]; show 0 < 5; omega) fun h5 sp5 ch5 => PtrOk_mk ?_
    have x5 := x4.keep ch5.1 ap4
    have ap5 := ap4.chg x4 ch5
    have c05 : (Mem.upd ((W.upd 1 (some b1) ((W.cont 1).set id (uv (D.s.ref id)))).upd 2 ob4 c4) 0 (some zb) ((((W.upd 1 (some b1) ((W.cont 1).set id (uv (D.s.ref id)))).upd 2 ob4 c4).cont 0).set 0 (.slice a' (ss.n + 1) c'))).cont 0 = [slV ss, slV bs, slV wh, nv (1 + D.s.sizes g.copied), nv (D.s.lsum g.line)].set 0 (.slice a' (ss.n + 1) c') := (Mem.cont_self ..).trans (by rw [c04])
    have l05 := Mem.loc_self ((W.upd 1 (some b1) ((W.cont 1).set id (uv (D.s.ref id)))).upd 2 ob4 c4) 0 (some zb) ((((W.upd 1 (some b1) ((W.cont 1).set id (uv (D.s.ref id)))).upd 2 ob4 c4).cont 0).set 0 (.slice a' (ss.n + 1) c'))
    refine ⟨((1 + D.s.sizes g.copied : Nat) : Int), by rw [sp5.cellA l05, c05]; rfl, PtrOk_mk ?_⟩
    refine sp5.st l05 (add_ad _ _) (by rw [c05]; show 3 < 5; omega) fun h6 sp6 ch6 => ?_
    refine hR h6 _ ⟨a', ss.n + 1, c'⟩ bs wh (x5.keep ch6.1 ap5) ⟨sp6, Mem.loc_self .., ?_, ?_, ?_, ?_⟩ (ap5.chg x5 ch6) (((ch3.trans ch4).trans ch5).trans ch6)
    · refine (Mem.cont_self ..).trans ?_
      rw [c05]
      have e1 : IntKind.wrap .i64 (((1 + D.s.sizes g.copied : Nat) : Int) + ((D.s.size id : Nat) : Int)) = ((1 + D.s.sizes (g.copied ++ [id]) : Nat) : Int) := by
        rw [RS.sizes_snoc, wrap_i64' (by omega) (by omega)]
        omega
      rw [e1]
      rfl
    · rw [RS.whereV_set (g := g) (g' := { g with copied := g.copied ++ [id] }) hlt (fun y => by simp only [List.mem_append, List.mem_singleton]; exact or_a)] at q2
      exact ((q2.other (by omega)).other (by omega)).other (by omega)
    · show IsSl 1 _ 2 _ (((g.copied ++ [id]).map D.s.ref).map uv)
      rw [List.map_append, List.map_append]
      exact (sl4.other (by omega)).other (by omega)
    · exact (((z.bg.other (by omega)).other (by omega)).other (by omega)).other (by omega)
end
end Go.Ev
set_option linter.all false
set_option maxRecDepth 1000000
namespace Go.Ev
open Go.Proofs
/-- A new block that is being filled. -/
structure NB2 (h : Hp) (b : Nat) (cs : List Value) (h' : Hp) : Prop where
  row : Row h' b cs
  k : Kept N h h'
  ge : h.size ≤ b
theorem NB2.new (h : Hp) (arr : Array Value) (t : TypeId) : NB2 h h.size arr.toList (h.push (.cells arr t)) := ⟨row_new h arr t, kept_push _ _ _, Nat.le_refl _⟩
theorem NB2.st {h h' : Hp} {b : Nat} {cs : List Value} (w : NB2 h b cs h') {a : Addr} {i : Nat} {v : Value} (ha : a = ⟨b, i, none⟩) (hi : i < cs.length) {K : Hp → Prop} (hK : ∀ h'', NB2 h b (cs.set i v) h'' → K h'') : Go.Ev.stOk h' a ∧ Let (setc h' a v) fun h'' => K h'' :=
  row_st w.row ha hi fun h'' r k => hK h'' ⟨r, ⟨Nat.le_trans w.k.1 k.1, fun i hi _ => (k.2 i (Nat.lt_of_lt_of_le hi w.k.1) (fun e => by have := w.ge; omega)).trans (w.k.2 i hi id)⟩, w.ge⟩
section
variable {h h' : Hp} {sb zb : Nat} {D : ShD} {W : Mem} {s : RS} {g : RS.Gc} {ss bs wh : Sl}
theorem node_ok (x : Shw h sb D) (z : ZT h zb W D.s g ss bs wh) (k : RS.GcOk D.s g) (ol : D.s.objs.length < 100000000) {id : Nat} (hin : id ∈ g.copied ∨ id ∈ g.line) (h0 : id ≠ 0) {R : Value → Hp → Prop} (hR : R (.int .i64 (id : Int)) h) :
    CallTo Try.prog 41 #[.pointer (some (ad zb)), uv (D.s.ref id)] h R := by
  have hh := k.here hin
  have hlt := x.v.here_lt hh
  have hrz := RS.ref_nz x.v hh h0
  have hwn := z.wn
  have cw : cell h ((ad zb).add 2) = some (.slice wh.a wh.n wh.c) := (z.c 2).trans rfl
  refine f41F_ok ?_
  unfold f41F
  refine f41L1_rule (fun q s0 s1 s5 h' => ∃ i : Nat, 1 ≤ i ∧ i ≤ id ∧ q = id - i ∧ s0 = some (ad zb) ∧ s1 = ((D.s.ref id : Nat) : Int) ∧ s5 = (i : Int) ∧ h' = h) (id - 1) ⟨1, by omega, by omega, rfl, rfl, rfl, rfl, rfl⟩ ?_
  rintro q s0 s1 s5 g0 h1 ⟨i, hi1, hi, rfl, rfl, rfl, rfl, rfl⟩
  unfold f41L1
  have hil : i < D.s.objs.length := by omega
  obtain ⟨b1, _, ha1, hc1, cb1⟩ := sl_at z.whr z.sep (RS.whereV_at (g := g) hil)
  refine PtrOk_mk ⟨wh, cw, Cond_t (decide_eq_true (by omega)) (PtrOk_mk ⟨wh, cw, cb1, PtrOk_of ha1 ⟨((D.s.whereN g i : Nat) : Int), by rw [Int.toNat_natCast]; exact hc1, ?_⟩⟩)⟩
  by_cases e : i = id
  · subst e
    have ew : D.s.whereN g i = D.s.ref i := by unfold RS.whereN; rw [if_pos hin]
    rw [ew]
    exact Cond_t (beq_self_eq_true _) hR
  · have hne : D.s.whereN g i ≠ D.s.ref id := by
      unfold RS.whereN
      split
      · rename_i h3
        exact fun e2 => e (RS.ref_inj x.v (.inr (k.here h3)) (.inr hh) e2)
      · exact fun e2 => hrz e2.symm
    refine Cond_f (by simp; omega) ⟨id - (i + 1), by omega, i + 1, by omega, by omega, rfl, rfl, rfl, ?_, rfl⟩
    rw [wrap_i64' (by omega) (by omega)]; rfl
theorem same_ok (x : Shw h sb D) (c : Coh D) (z : ZT h zb W D.s g ss bs wh) (ap : Apt D W) (k : RS.GcOk D.s g) (ol : D.s.objs.length < 100000000) {id : Nat} (hin : id ∈ g.copied ∨ id ∈ g.line) (h0 : id ≠ 0) {R : Value → Hp → Prop}
    (hR : ∀ h' W' ss' bs' wh', Shw h' sb D → ZT h' zb W' D.s (D.s.reachL g (D.s.obj id).refs) ss' bs' wh' → Apt D W' → Chg h W h' W' → R (.bool true) h') : CallTo Try.prog 42 #[.pointer (some (ad zb)), .pointer (some (ad sb)), .int .i64 (id : Int)] h R := by
  have hh := k.here hin
  have hlt := x.v.here_lt hh
  have hrl : D.s.ref id < 18446744073709551616 := RS.ref_lt x.v (.inr hh)
  have hid : D.s.ident (D.s.ref id) = id := RS.ident_ref x.v (.inr hh)
  have shp := x.v.shp id hh
  have cw : cell h ((ad zb).add 2) = some (.slice wh.a wh.n wh.c) := (z.c 2).trans rfl
  obtain ⟨b1, _, ha1, hc1, cb1⟩ := sl_at z.whr z.sep (RS.whereV_at (g := g) hlt)
  have ew : D.s.whereN g id = D.s.ref id := by unfold RS.whereN; rw [if_pos hin]
  rw [ew] at hc1
  have nd := Nd.of x c hh h0
  obtain ⟨nb, gg, hl1, hg, hna, cb, hc0, hcj, i1, i2⟩ := x.m.node nd.at_
  have hrs : (D.s.obj id).refs.length = gg.rs.n * 1 := by have := i1.len; rwa [List.length_map] at this
  have hws : (D.s.obj id).raws.length = gg.ws.n * 1 := by have := i2.len; rwa [List.length_map] at this
  refine f42F_ok ?_
  unfold f42F
  refine PtrOk_mk ⟨wh, cw, cb1, PtrOk_of ha1 ⟨((D.s.ref id : Nat) : Int), by rw [Int.toNat_natCast]; exact hc1, PtrOk_mk ⟨_, x.m.cN, cb, PtrOk_of hna ?_⟩⟩⟩
  rw [Int.toNat_natCast]
  refine ⟨_, hc0, gg.rs, (hcj 1 (by omega)).trans rfl, gg.ws, (hcj 2 (by omega)).trans rfl, Let_mk fun h1 e1 => ?_⟩
  have w1 : NB2 h h.size _ h1 := e1 ▸ NB2.new h _ 69
  have enb : Go.Ev.nb h = ad h.size := rfl
  rw [enb]
  refine w1.st (i := 0) rfl (by show 0 < 3; omega) fun h2 w2 => ?_
  refine w2.st (i := 1) (add_ad _ _) (by show 1 < 3; omega) fun h3 w3 => ?_
  refine w3.st (i := 2) (add_ad _ _) (by show 2 < 3; omega) fun h4 w4 => ?_
  have x4 := x.keepN w4.k
  have z4 := z.keep w4.k fun _ _ e => e
  have rowN : Row h4 h.size [nv (D.s.obj id).kind, slV gg.rs, slV gg.ws] := w4.row
  have hnW : ¬ W.own h.size := fun e => by have := z.sep.own_lt e; omega
  have eo : D.s.objF (D.s.ref id) = (((D.s.obj id).kind, (D.s.obj id).refs.length, (D.s.obj id).raws.length), 0) := by unfold RS.objF; rw [hid, if_neg h0]
  refine PtrOk_mk ⟨_, x4.m.p, hobject_ok x4.v x4.rp hrl ⟨_, _, _, _, rfl, ?_⟩⟩
  rw [eo]
  refine Cond_f rfl ⟨_, (cell_row rowN 0).trans rfl, Cond_f (bne_self_eq_false _) ⟨gg.rs, by rw [add_ad]; exact (cell_row rowN 1).trans rfl, Cond_f (by simp; omega) ⟨gg.ws, by rw [add_ad]; exact (cell_row rowN 2).trans rfl, ?_⟩⟩⟩
  have eb : (((((D.s.obj id).raws.length : Nat) : Int)) != ((gg.ws.n : Nat) : Int)) = false := by simp; omega
  show f42K1 (some (ad zb)) (some (ad sb)) ((D.s.ref id : Nat) : Int) (ad h.size) (((D.s.obj id).refs.length : Nat) : Int) (((D.s.obj id).raws.length : Nat) : Int) (((((D.s.obj id).raws.length : Nat) : Int)) != ((gg.ws.n : Nat) : Int)) h4 R
  rw [eb]
  unfold f42K1
  refine Cond_f rfl ?_
  refine f42L1_rule (fun q s0 s1 s7 s8 s10 s11 s13 h' => ∃ (j : Nat) (W' : Mem) (ss' bs' wh' : Sl), j ≤ (D.s.obj id).refs.length ∧ q = (D.s.obj id).refs.length - j ∧ s0 = some (ad zb) ∧ s1 = some (ad sb) ∧ s7 = ((D.s.ref id : Nat) : Int) ∧ s8 = ad h.size ∧ s10 = (((D.s.obj id).refs.length : Nat) : Int) ∧
    s11 = (((D.s.obj id).raws.length : Nat) : Int) ∧ s13 = (j : Int) ∧ Shw h' sb D ∧ ZT h' zb W' D.s (D.s.reachL g ((D.s.obj id).refs.take j)) ss' bs' wh' ∧ Apt D W' ∧ Chg h4 W h' W') (D.s.obj id).refs.length
    ⟨0, W, ss, bs, wh, Nat.zero_le _, rfl, rfl, rfl, rfl, rfl, rfl, rfl, rfl, x4, z4, ap, Chg.refl _ _⟩ ?_
  rintro q s0 s1 s7 s8 s10 s11 s13 g0 h5 ⟨j, W5, ss5, bs5, wh5, hj, rfl, rfl, rfl, rfl, rfl, rfl, rfl, rfl, x5, z5, ap5, ch5⟩
  unfold f42L1
  have row5 := kept_row ch5.1 rowN hnW
  have k5 := k.reachL x.v (ids := (D.s.obj id).refs.take j) fun y hy => x.v.rf id hh y (List.mem_of_mem_take hy)
  obtain ⟨nb5, gg5, _, hg5, _, _, _, _, j1, j2⟩ := x5.m.node nd.at_
  rw [hg] at hg5
  obtain rfl := Option.some.inj hg5
  refine Cond_dec (fun hlt5 => ?_) fun hge5 => ?_
  · have hjl : j < (D.s.obj id).refs.length := by omega
    obtain ⟨r, hr⟩ : ∃ r, (D.s.obj id).refs[j]? = some r := ⟨_, List.getElem?_eq_getElem hjl⟩
    have rin := x.v.rf id hh r (List.mem_of_getElem? hr)
    refine PtrOk_mk ⟨_, x5.m.p, hget_ok x5.v x5.rp hrl ⟨_, _, rfl, ?_⟩⟩
    rw [RS.getF_ref x5.v hh h0 hr]
    obtain ⟨b2, _, ha2, hc2, cb2⟩ := sl_at j1 x5.m.sy hr
    refine Cond_f rfl ⟨gg.rs, by rw [add_ad]; exact (cell_row row5 1).trans rfl, cb2, PtrOk_of ha2 ⟨((r : Nat) : Int), by rw [Int.toNat_natCast]; exact hc2, ?_⟩⟩
    refine sreach_ok x5 c z5 ap5 k5 ol rin fun h6 W6 ss6 bs6 wh6 x6 z6 ap6 ch6 => ⟨_, rfl, Cond_f rfl ⟨(D.s.obj id).refs.length - (j + 1), by omega, j + 1, W6, ss6, bs6, wh6, hjl, rfl, rfl, rfl, rfl, rfl, rfl, rfl, ?_, x6, ?_, ap6, ch5.trans ch6⟩⟩
    · rw [wrap_i64' (by omega) (by omega)]; rfl
    · rw [RS.take_snoc hr, RS.reachL_snoc]; exact z6
  have hje : j = (D.s.obj id).refs.length := by omega
  subst hje
  rw [List.take_length] at z5
  refine f42L2_rule (fun q s1 s7 s8 s10 s11 s16 h' => ∃ j : Nat, j ≤ (D.s.obj id).raws.length ∧ q = (D.s.obj id).raws.length - j ∧ s1 = some (ad sb) ∧ s7 = ((D.s.ref id : Nat) : Int) ∧ s8 = ad h.size ∧ s10 = (((D.s.obj id).refs.length : Nat) : Int) ∧
    s11 = (((D.s.obj id).raws.length : Nat) : Int) ∧ s16 = (j : Int) ∧ h' = h5) (D.s.obj id).raws.length ⟨0, Nat.zero_le _, rfl, rfl, rfl, rfl, rfl, rfl, rfl, rfl⟩ ?_
  rintro q s1 s7 s8 s10 s11 s16 g1 h6 ⟨j, hj, rfl, rfl, rfl, rfl, rfl, rfl, rfl, rfl⟩
  unfold f42L2
  refine Cond_dec (fun hlt6 => ?_) fun _ => hR _ W5 ss5 bs5 wh5 x5 z5 ap5 ((Chg.of_kept w4.k).trans ch5)
  have hjl : j < (D.s.obj id).raws.length := by omega
  obtain ⟨r, hr⟩ : ∃ r, (D.s.obj id).raws[j]? = some r := ⟨_, List.getElem?_eq_getElem hjl⟩
  have ej : IntKind.wrap .i64 ((((D.s.obj id).refs.length : Nat) : Int) + (j : Int)) = (((D.s.obj id).refs.length + j : Nat) : Int) := by rw [wrap_i64' (by omega) (by omega)]; omega
  rw [ej]
  refine PtrOk_mk ⟨_, x5.m.p, hget_ok x5.v x5.rp hrl ⟨_, _, rfl, ?_⟩⟩
  rw [RS.getF_raw x5.v hh h0 hr]
  obtain ⟨b2, _, ha2, hc2, cb2⟩ := sl_at j2 x5.m.sy hr
  refine Cond_f rfl ⟨gg.ws, by rw [add_ad]; exact (cell_row row5 2).trans rfl, cb2, PtrOk_of ha2 ⟨((r : Nat) : Int), by rw [Int.toNat_natCast]; exact hc2, Cond_f (bne_self_eq_false _) ⟨(D.s.obj id).raws.length - (j + 1), by omega, j + 1, hjl, rfl, rfl, rfl, rfl, rfl, rfl, ?_, rfl⟩⟩⟩
  rw [wrap_i64' (by omega) (by omega)]; rfl
end
end Go.Ev
set_option linter.all false
set_option maxRecDepth 1000000
namespace Go.Ev
open Go.Proofs
theorem RS.len_sizes {s : RS} : ∀ l : List Nat, l.length ≤ s.sizes l := by
  intro l
  induction l with
  | nil => exact Nat.le_refl _
  | cons y l ih => unfold RS.sizes at ih ⊢; rw [List.map_cons, List.sum_cons, List.length_cons]; have : 1 ≤ s.size y := (by unfold RS.size RObj.size; omega); omega
theorem RS.gR_none' {s : RS} {i : Nat} (h : s.roots[i]? = some none) : s.gR (i + 1) = s.gR i := by
  unfold RS.gR
  rw [RS.take_snoc h, List.filterMap_append]
  show s.reachL _ (_ ++ []) = _
  rw [List.append_nil]
section
variable {h h' : Hp} {sb zb : Nat} {D : ShD} {W : Mem} {s : RS} {g : RS.Gc} {ss bs wh : Sl}
theorem look_ok2 (x : Shw h sb D) (c : Coh D) (ol : D.s.objs.length < 100000000) {R : Value → Hp → Prop}
    (hR : ∀ h' zb W' ss' bs' wh', Shw h' sb D → ZT h' zb W' D.s D.s.gcEnd ss' bs' wh' → Apt D W' → (∀ b, W'.own b → h.size ≤ b) → Kept N h h' → R (.tuple #[.pointer (some (ad zb)), .bool true]) h') : CallTo Try.prog 17 #[.pointer (some (ad sb))] h R := by
  have hrl := x.v.rl
  have hnn : D.y.ns.n = D.s.objs.length := by rw [x.m.nn_n, c.sh.len]
  refine f17F_ok ?_
  unfold f17F
  refine PtrOk_mk ⟨_, x.m.cN, ?_⟩
  rw [hnn, Int.toNat_natCast]
  refine ⟨⟨by omega, by omega⟩, by omega, by omega, ?_⟩
  let W0 : Mem := ⟨fun _ => none, fun _ => []⟩
  have s0 : Sep h W0 := ⟨(fun y b hy => by cases hy), fun y z b hy _ => by cases hy⟩
  have ow0 : ∀ b, ¬ W0.own b := fun b ⟨y, hy⟩ => by cases hy
  refine Let_mk fun h1 e1 => ?_
  obtain ⟨s1, ch1⟩ := s0.push 1 (zrow #[.int .u64 0] (D.s.objs.length * 1)) 30
  rw [← e1] at s1 ch1
  refine Let_mk fun h2 e2 => ?_
  obtain ⟨s2, ch2⟩ := s1.push 0 #[.slice none 0 0, .slice none 0 0, .slice (some (nb h)) D.s.objs.length D.s.objs.length, .int .i64 1, .int .i64 0] 73
  rw [← e2] at s2 ch2
  have ch02 := ch1.trans ch2
  have hWf : ∀ (W : Mem) h', Chg h W0 h' W → (∀ b, W.own b → h.size ≤ b) ∧ Kept N h h' := fun W h' ch => ⟨fun b hb => (ch.2 b hb).resolve_left (ow0 b), ch.1.mono fun b _ e => ow0 b e⟩
  obtain ⟨f2, k2⟩ := hWf _ _ ch02
  have x2 := x.keepN k2
  have ap2 : Apt D ((W0.upd 1 (some h.size) (zrow #[.int .u64 0] (D.s.objs.length * 1)).toList).upd 0 (some h1.size) #[.slice none 0 0, .slice none 0 0, .slice (some (nb h)) D.s.objs.length D.s.objs.length, .int .i64 1, .int .i64 0].toList) := fun b hb hw => by
    have := x.foot_lt hb; have := f2 b hw; omega
  have hwv : (D.s.whereV ⟨[], [], 0, 0⟩).map uv = (zrow #[.int .u64 0] (D.s.objs.length * 1)).toList := by
    rw [zrow_uv]
    congr 1
    apply List.ext_getElem?
    intro j
    by_cases hj : j < D.s.objs.length
    · rw [RS.whereV_at hj, List.getElem?_replicate, if_pos hj]
      unfold RS.whereN
      rw [if_neg (by simp)]
    · rw [List.getElem?_eq_none (by rw [RS.whereV_len]; omega), List.getElem?_replicate, if_neg hj]
  have z2 : ZT h2 h1.size ((W0.upd 1 (some h.size) (zrow #[.int .u64 0] (D.s.objs.length * 1)).toList).upd 0 (some h1.size) #[.slice none 0 0, .slice none 0 0, .slice (some (nb h)) D.s.objs.length D.s.objs.length, .int .i64 1, .int .i64 0].toList) D.s ⟨[], [], 0, 0⟩
      ⟨none, 0, 0⟩ ⟨none, 0, 0⟩ ⟨some (ad h.size), D.s.objs.length, D.s.objs.length⟩ := by
    refine ⟨s2, Mem.loc_self .., Mem.cont_self .., ⟨by rw [List.length_map, RS.whereV_len]; simp, fun e => ?_, fun b e => ?_⟩, ⟨by simp, fun _ => ⟨rfl, rfl, rfl⟩, fun b e => ?_⟩, ⟨by simp, fun _ => ⟨rfl, rfl, rfl⟩, fun b e => ?_⟩⟩
    · rw [Mem.loc_ne _ _ _ (by omega), Mem.loc_self] at e; cases e
    · rw [Mem.loc_ne _ _ _ (by omega), Mem.loc_self] at e
      obtain rfl := Option.some.inj e
      rw [Mem.cont_ne _ _ _ (by omega), Mem.cont_self, hwv]
      exact ⟨rfl, Nat.le_refl _, [], by simp, by rw [← hwv]; simp [RS.whereV_len]⟩
    · rw [Mem.loc_ne _ _ _ (by omega), Mem.loc_ne _ _ _ (by omega)] at e; cases e
    · rw [Mem.loc_ne _ _ _ (by omega), Mem.loc_ne _ _ _ (by omega)] at e; cases e
  have enb : nb h1 = ad h1.size := rfl
  rw [enb]
  generalize h1.size = zb at z2 ap2 ch02 ⊢
  refine f17L1_rule (fun q s0 s4 s5 h' => ∃ (i : Nat) (W : Mem) (ss bs wh : Sl), i ≤ D.s.roots.length ∧ q = D.s.roots.length - i ∧ s0 = some (ad sb) ∧ s4 = ad zb ∧ s5 = (i : Int) ∧ Shw h' sb D ∧ ZT h' zb W D.s (D.s.gR i) ss bs wh ∧ Apt D W ∧ Chg h W0 h' W) D.s.roots.length
    ⟨0, _, _, _, _, Nat.zero_le _, rfl, rfl, rfl, rfl, x2, z2, ap2, ch02⟩ ?_
  rintro q s0 s4 s5 g' h3 ⟨i, W3, ss3, bs3, wh3, hi, rfl, rfl, rfl, rfl, x3, z3, ap3, ch3⟩
  unfold f17L1
  have hhn : D.y.hs.n = D.s.roots.length := by rw [x3.m.hh_n, c.rt]
  have ew : IntKind.wrap .i64 ((i : Int) + 1) = ((i + 1 : Nat) : Int) := by rw [wrap_i64' (by omega) (by omega)]; rfl
  refine PtrOk_mk ⟨_, x3.m.cH, Cond_dec (fun hlt => ?_) fun hge => ?_⟩
  · have hil : i < D.s.roots.length := by omega
    obtain ⟨y, hy⟩ : ∃ y, D.s.roots[i]? = some y := ⟨_, List.getElem?_eq_getElem hil⟩
    obtain ⟨b, ha, hc, cb⟩ := x3.m.hand (k := i) (o := y) (by rw [c.rt]; exact hy)
    refine PtrOk_mk ⟨_, x3.m.cH, cb, PtrOk_of ha ?_⟩
    rw [Int.toNat_natCast]
    cases y with
    | none =>
      refine ⟨_, hc, Cond_t rfl ⟨D.s.roots.length - (i + 1), by omega, i + 1, W3, ss3, bs3, wh3, hil, rfl, rfl, rfl, ew, x3, ?_, ap3, ch3⟩⟩
      rw [RS.gR_none' hy]; exact z3
    | some id =>
      have hin := x.v.rt id (List.mem_of_getElem? hy)
      have hat : D.s.atF ((i + 1 : Nat) : Int) = (D.s.ref id, 0) := by
        have e : D.s.hand ((i + 1 : Nat) : Int) = some id := by
          unfold RS.hand
          have e2 : (((i + 1 : Nat) : Int) - 1).toNat = i := by omega
          rw [if_pos ⟨by omega, by omega⟩, e2, List.getD_eq_getElem?_getD, hy]
          rfl
        unfold RS.atF
        rw [e]
      refine ⟨_, hc, Cond_f (decide_eq_false (by omega)) (PtrOk_mk ⟨_, x3.m.p, ?_⟩)⟩
      rw [ew]
      refine hat_ok x3.v x3.rp ⟨_, _, rfl, ?_⟩
      rw [hat]
      refine Cond_f rfl (PtrOk_mk ⟨_, x3.m.cH, cb, PtrOk_of ha ⟨_, hc, ?_⟩⟩)
      refine sreach_ok x3 c z3 ap3 (RS.gR_ok x.v i) ol hin fun h4 W4 ss4 bs4 wh4 x4 z4 ap4 ch4 => ⟨_, rfl, ?_⟩
      unfold f17K1
      refine Cond_f rfl ⟨D.s.roots.length - (i + 1), by omega, i + 1, W4, ss4, bs4, wh4, hil, rfl, rfl, rfl, ew, x4, ?_, ap4, ch3.trans ch4⟩
      rw [RS.gR_some hy]; exact z4
  have hie : i = D.s.roots.length := by omega
  subst hie
  rw [RS.gR_len] at z3
  have i5 := x.v.sll; have i2 := x.v.u1; have i3 := x.v.u2; have i4 := x.v.h2; have i6 := x.v.l2
  refine f17L2_rule (fun q s0 s4 s8 s9 h' => ∃ (n : Nat) (W : Mem) (ss bs wh : Sl), q = (D.s.small.length + D.s.slots.length) - n ∧ s0 = some (ad sb) ∧ s4 = ad zb ∧ s8 = (((D.s.gcAt n).a : Nat) : Int) ∧ s9 = (((D.s.gcAt n).b : Nat) : Int) ∧ Shw h' sb D ∧ ZT h' zb W D.s (D.s.gcAt n) ss bs wh ∧ Apt D W ∧ Chg h W0 h' W ∧
    (D.s.gcAt n).a + (D.s.gcAt n).b = n) (D.s.small.length + D.s.slots.length)
    ⟨0, W3, ss3, bs3, wh3, rfl, rfl, rfl, by show (0 : Int) = ((D.s.gc0.a : Nat) : Int); rw [D.s.gc0_ab.1]; rfl, by show (0 : Int) = ((D.s.gc0.b : Nat) : Int); rw [D.s.gc0_ab.2]; rfl, x3, z3, ap3, ch3, by show D.s.gc0.a + D.s.gc0.b = 0; have := D.s.gc0_ab; omega⟩ ?_
  rintro q s0 s4 s8 s9 g'' h4 ⟨n, W4, ss4, bs4, wh4, rfl, rfl, rfl, rfl, rfl, x4, z4, ap4, ch4, hn⟩
  have k := RS.GcOk.at x.v n
  have eg : D.s.gcAt (n + 1) = D.s.gcStep (D.s.gcAt n) := rfl
  have hfin : RS.Fin (D.s.gcAt n) → D.s.gcEnd = D.s.gcAt n := fun f => RS.gcEnd_eq x.v f hn.symm
  generalize hgn : D.s.gcAt n = gn at *
  have hl2 := k.len2
  have ka := k.a
  have kb := k.b
  have hsn := z4.sn
  have hbn := z4.bn
  have csm : cell h4 (ad zb) = some (.slice ss4.a ss4.n ss4.c) := z4.c0
  have cbg : cell h4 ((ad zb).add 1) = some (.slice bs4.a bs4.n bs4.c) := (z4.c 1).trans rfl
  have hsz : D.s.sizes gn.copied ≤ D.s.sizes D.s.small := RS.sizes_le _ _ (List.nodup_append.1 k.nd).1 k.cp
  have hcs : gn.copied.length ≤ D.s.sizes gn.copied := RS.len_sizes _
  /- one more of the walk -/
  have one : ∀ (id : Nat) (g1 : RS.Gc) (x8 x9 : Int), (id ∈ gn.copied ∨ id ∈ gn.line) → id ≠ 0 → g1 = D.s.gcStep gn → g1.copied = (D.s.reachL gn (D.s.obj id).refs).copied → g1.line = (D.s.reachL gn (D.s.obj id).refs).line → x8 = ((g1.a : Nat) : Int) → x9 = ((g1.b : Nat) : Int) → g1.a + g1.b = n + 1 →
      n + 1 ≤ D.s.small.length + D.s.slots.length → f17K3 (fun q s0 s4 s8 s9 h' => ∃ (n : Nat) (W : Mem) (ss bs wh : Sl), q = (D.s.small.length + D.s.slots.length) - n ∧ s0 = some (ad sb) ∧ s4 = ad zb ∧ s8 = (((D.s.gcAt n).a : Nat) : Int) ∧ s9 = (((D.s.gcAt n).b : Nat) : Int) ∧ Shw h' sb D ∧ ZT h' zb W D.s (D.s.gcAt n) ss bs wh ∧ Apt D W ∧ Chg h W0 h' W ∧
    (D.s.gcAt n).a + (D.s.gcAt n).b = n) ((D.s.small.length + D.s.slots.length) - n) (some (ad sb)) (ad zb) x8 x9 ((D.s.ref id : Nat) : Int) h4 R := by
    intro id g1 x8 x9 hin h0 eg1 e1 e2 e8 e9 eab hle
    unfold f17K3
    refine node_ok x4 z4 k ol hin h0 ⟨_, rfl, Cond_f (by simp; omega) ?_⟩
    refine same_ok x4 c z4 ap4 k ol hin h0 fun h5 W5 ss5 bs5 wh5 x5 z5 ap5 ch5 => ⟨_, rfl, ?_⟩
    unfold f17K4
    refine Cond_f rfl ⟨D.s.small.length + D.s.slots.length - (n + 1), by omega, n + 1, W5, ss5, bs5, wh5, rfl, rfl, rfl, ?_, ?_, x5, ?_, ap5, ch4.trans ch5, ?_⟩
    · rw [eg, ← eg1]; exact e8
    · rw [eg, ← eg1]; exact e9
    · rw [eg, ← eg1]
      have ewv : D.s.whereV g1 = D.s.whereV (D.s.reachL gn (D.s.obj id).refs) := by unfold RS.whereV RS.whereN; rw [e1, e2]
      exact ⟨z5.sep, z5.loc, by rw [e1, e2]; exact z5.hd, by rw [ewv]; exact z5.whr, by rw [e1]; exact z5.sm, by rw [e2]; exact z5.bg⟩
    · rw [eg, ← eg1]; exact eab
  unfold f17L2
  refine ⟨ss4, csm, Cond_dec (fun hlt => ?_) fun hge => ⟨bs4, cbg, ?_⟩⟩
  · unfold f17K2
    have hal : gn.a < gn.copied.length := by omega
    obtain ⟨id, hid⟩ : ∃ id, gn.copied[gn.a]? = some id := ⟨_, List.getElem?_eq_getElem hal⟩
    have hin : id ∈ gn.copied ∨ id ∈ gn.line := .inl (List.mem_of_getElem? hid)
    have h0 : id ≠ 0 := by have := (x.v.sm id (k.cp id (List.mem_of_getElem? hid))).1; omega
    have e0 : (gn.copied.map D.s.ref)[gn.a]? = some (D.s.ref id) := by rw [List.getElem?_map, hid]; rfl
    obtain ⟨b2, _, ha2, hc2, cb2⟩ := sl_at z4.sm z4.sep e0
    have es := RS.gcStep_small (s := D.s) hid
    have eab := RS.reachL_ab D.s (D.s.obj id).refs gn
    refine Cond_t rfl ⟨ss4, csm, Cond_dec (fun _ => ⟨ss4, csm, cb2, PtrOk_of ha2 ⟨((D.s.ref id : Nat) : Int), by rw [Int.toNat_natCast]; exact hc2, ?_⟩⟩) fun q => absurd hlt q⟩
    refine one id _ _ _ hin h0 rfl (by rw [es]) (by rw [es]) ?_ ?_ ?_ (by omega)
    · rw [es, wrap_i64' (by omega) (by omega)]; rfl
    · rw [es]; show _ = (((D.s.reachL gn (D.s.obj id).refs).b : Nat) : Int); rw [eab.2]
    · rw [es]; show gn.a + 1 + (D.s.reachL gn (D.s.obj id).refs).b = n + 1; rw [eab.2]; omega
  · have hal : gn.a = gn.copied.length := by omega
    have hnone : gn.copied[gn.a]? = none := List.getElem?_eq_none (by omega)
    unfold f17K2
    refine Cond_dec (fun hlt => ?_) fun hge2 => ?_
    · have hbl : gn.b < gn.line.length := by omega
      obtain ⟨id, hid⟩ : ∃ id, gn.line[gn.b]? = some id := ⟨_, List.getElem?_eq_getElem hbl⟩
      have hin : id ∈ gn.copied ∨ id ∈ gn.line := .inr (List.mem_of_getElem? hid)
      have h0 : id ≠ 0 := (k.ln id (List.mem_of_getElem? hid)).1
      have e0 : (gn.line.map D.s.ref)[gn.b]? = some (D.s.ref id) := by rw [List.getElem?_map, hid]; rfl
      obtain ⟨b2, _, ha2, hc2, cb2⟩ := sl_at z4.bg z4.sep e0
      have es := RS.gcStep_big (s := D.s) hnone hid
      have eab := RS.reachL_ab D.s (D.s.obj id).refs gn
      refine ⟨ss4, csm, Cond_dec (fun q => absurd q hge) fun _ => ⟨bs4, cbg, cb2, PtrOk_of ha2 ⟨((D.s.ref id : Nat) : Int), by rw [Int.toNat_natCast]; exact hc2, ?_⟩⟩⟩
      refine one id _ _ _ hin h0 rfl (by rw [es]) (by rw [es]) ?_ ?_ ?_ (by omega)
      · rw [es]; show _ = (((D.s.reachL gn (D.s.obj id).refs).a : Nat) : Int); rw [eab.1]
      · rw [es, wrap_i64' (by omega) (by omega)]; rfl
      · rw [es]; show (D.s.reachL gn (D.s.obj id).refs).a + (gn.b + 1) = n + 1; rw [eab.1]; omega
    · have f : RS.Fin gn := ⟨hal, by omega⟩
      have z5 := z4
      rw [← hfin f] at z5
      obtain ⟨f5, k5⟩ := hWf _ _ ch4
      exact hR h4 zb W4 ss4 bs4 wh4 x4 z5 ap4 f5 k5
end
end Go.Ev
set_option linter.all false
set_option maxRecDepth 1000000
namespace Go.Ev
open Go.Proofs
section
variable {h h' : Hp} {sb zb : Nat} {D : ShD} {W : Mem} {s : RS}
theorem wake_alloc : (RS.new 1000).alloc 7 1 2 = ((RS.new 1000).addSmall 7 1 2, 1, 0) := by
  unfold RS.alloc
  rw [if_pos ⟨⟨by omega, by omega⟩, ⟨by omega, by omega⟩, ⟨by omega, by omega⟩⟩, if_neg (by decide)]
  rfl
theorem fit_here (n : Nat) (id : Nat) : (s.fit n).here id ↔ s.here id := by
  have hb : ∀ m, (s.become m).here id ↔ s.here id := fun m => by unfold RS.become; split <;> exact Iff.rfl
  unfold RS.fit
  split
  · split
    · exact hb _
    · exact Iff.rfl
  · split
    · exact hb _
    · exact Iff.rfl
theorem collect_here (v : s.Inv) {id : Nat} (h : some id ∈ s.roots) (h0 : id ≠ 0) : s.collect.here id := (fit_here 0 id).2 ((RS.collection_here v).2 ((RS.gcEnd_root h).resolve_left h0))
theorem wakes_ok {R : Value → Hp → Prop} (hR : ∀ h', Kept N h h' → R (.bool true) h') : CallTo Try.prog 13 #[] h R := by
  refine f13F_ok ?_
  unfold f13F
  have v0 : (RS.new (1000 : Int).toNat).Inv := RS.new_inv (by decide) (by decide)
  refine hnew_ok (fun hn => absurd (by omega) hn) fun h1 hb role G _ rp fr k1 => ⟨_, _, rfl, Cond_f rfl ?_⟩
  show f13K1 (some (ad hb)) false h1 R
  unfold f13K1
  refine Cond_f rfl ?_
  have ea : (RS.new (1000 : Int).toNat).alloc 7 1 2 = ((RS.new 1000).addSmall 7 1 2, 1, 0) := wake_alloc
  refine halloc_ok v0 rp fun h2 role2 G2 sp2 rp2 ex2 => ⟨_, _, rfl, ?_⟩
  have v1 := v0.alloc 7 1 2
  rw [ea] at rp2 v1 ⊢
  have hh1 : ((RS.new 1000).addSmall 7 1 2).here 1 := .inl (by show 1 ∈ [1]; simp)
  have hr1 : ((RS.new 1000).addSmall 7 1 2).ref 1 = 1 := rfl
  refine Cond_f rfl (Cond_f rfl ?_)
  have es := RS.setF_raw v1 (id := 1) (k := 1) (x := 99) hh1 (by omega) (by decide)
  rw [hr1] at es
  have es : ((RS.new 1000).addSmall 7 1 2).setF 1 2 99 = _ := es
  refine hset_ok (x := 99) (i := 2) v1 rp2 (r := 1) (by omega) (by omega) fun h3 role3 G3 rp3 ex3 => ⟨_, rfl, ?_⟩
  have v2 := v1.set 1 2 (x := 99) (by omega)
  rw [es] at rp3 v2 ⊢
  refine Cond_f rfl ?_
  generalize hs2 : ((RS.new 1000).addSmall 7 1 2).setObj 1 { ((RS.new 1000).addSmall 7 1 2).obj 1 with raws := (((RS.new 1000).addSmall 7 1 2).obj 1).raws.set 1 99 } = s2 at *
  have hh2 : s2.here 1 := by rw [← hs2]; exact hh1
  have hr2 : s2.ref 1 = 1 := by rw [← hs2]; rfl
  have hro : s2.roots = [] := by rw [← hs2]; rfl
  have hraw : (s2.obj 1).raws[1]? = some 99 := by rw [← hs2]; rfl
  have href : (s2.obj 1).refs.length = 1 := by rw [← hs2]; rfl
  have hid := RS.ident_ref v2 (id := 1) (.inr hh2)
  rw [hr2] at hid
  have er : s2.rootF 1 = (s2.withRoots [some 1], 1, 0) := by
    unfold RS.rootF RS.goodR
    rw [hid, hro]
    rfl
  refine hroot_ok v2 rp3 (by rw [hro]; decide) (r := 1) (by omega) fun h4 role4 G4 rp4 ex4 => ⟨_, _, rfl, ?_⟩
  have v3 := v2.root (r := 1) (by rw [hro]; decide)
  rw [er] at rp4 v3 ⊢
  refine Cond_f rfl (Cond_f rfl ?_)
  refine hcollect_ok v3 rp4 fun h5 role5 G5 sp5 rp5 ex5 => ⟨rfl, ?_⟩
  have v4 := v3.collect
  have hh4 : (s2.withRoots [some 1]).collect.here 1 := collect_here v3 (by show some 1 ∈ [some 1]; simp) (by omega)
  have sub := RS.Sub.collect v3
  obtain ⟨_, _, q3, q4⟩ := sub.at_ 1 hh4
  have hat : (s2.withRoots [some 1]).collect.atF 1 = ((s2.withRoots [some 1]).collect.ref 1, 0) := by
    have e : (s2.withRoots [some 1]).collect.hand 1 = some 1 := by
      unfold RS.hand
      rw [sub.roots]
      rfl
    unfold RS.atF
    rw [e]
  have hg := RS.getF_raw v4 (id := 1) (k := 1) (r := 99) hh4 (by omega) (by rw [q4]; exact hraw)
  rw [q3] at hg
  have href' : ((s2.withRoots [some 1]).obj 1).refs.length = 1 := href
  rw [href'] at hg
  have rp6 : HRep h5 hb role5 ((s2.withRoots [some 1]).collect.words sp5) G5 := rp5
  show CallTo Try.prog 32 #[.pointer (some (ad hb)), .int .i64 1] h5 _
  refine hat_ok (s := (s2.withRoots [some 1]).collect) (n := 1) v4 rp6 ?_
  rw [hat]
  refine ⟨_, _, rfl, Cond_f rfl ?_⟩
  refine hget_ok (s := (s2.withRoots [some 1]).collect) (r := (s2.withRoots [some 1]).collect.ref 1) (i := 2) v4 rp6 (RS.ref_lt v4 (.inr hh4)) ?_
  have hg : (s2.withRoots [some 1]).collect.getF ((s2.withRoots [some 1]).collect.ref 1) 2 = (99, 0) := hg
  rw [hg]
  refine ⟨_, _, rfl, Cond_t rfl ?_⟩
  have kk : Kept N h h5 := by
    have a1 : ExtO h1 role h5 role5 := ((ex2.trans ex3).trans ex4).trans ex5
    exact ⟨Nat.le_trans k1.1 a1.1, fun b hb _ => (a1.2 b (Nat.lt_of_lt_of_le hb k1.1) (Classical.byContradiction fun hn => by have := fr b hn; omega)).2.trans (k1.2 b hb id)⟩
  exact hR h5 kk
end
end Go.Ev
set_option linter.all false
set_option maxRecDepth 1000000
namespace Go.Ev
open Go.Proofs
theorem mv_len (o : MvL) : o.cells.length = 8 := rfl
section
variable {h h' : Hp} {sb : Nat} {D : ShD} {sl : Sl} {ops : List MvL}
/-- A move of the script, read. -/
theorem mv_read (hs : ReadsO h sl.a (ops.flatMap MvL.cells)) {i : Nat} {o : MvL} (eo : ops[i]? = some o) : ∃ p, sl.a = some p ∧ cell h (p.add (i * 8)) = some (.int .i64 o.dw) ∧ ∀ j v, o.cells[j]? = some v → cell h ((p.add (i * 8)).add j) = some v := by
  have rd : ∀ j v, o.cells[j]? = some v → ∃ p, sl.a = some p ∧ cell h ((p.add (i * 8)).add j) = some v := fun j v hj => by
    have hjl : j < 8 := by have := (List.getElem?_eq_some_iff.1 hj).1; rw [mv_len] at this; exact this
    obtain ⟨p, hp, cp⟩ := readsO_get hs ((flat_at mv_len ops i j o eo hjl).trans hj)
    exact ⟨p, hp, by rw [add_add]; exact cp⟩
  obtain ⟨p, hp, _⟩ := rd 0 _ rfl
  have rd' : ∀ j v, o.cells[j]? = some v → cell h ((p.add (i * 8)).add j) = some v := fun j v hj => by
    obtain ⟨p', hp', c⟩ := rd j v hj
    rw [hp] at hp'
    obtain rfl := Option.some.inj hp'
    exact c
  exact ⟨p, hp, rd' 0 _ rfl, rd'⟩
theorem small_ok {lim : Int} (hs : ReadsO h sl.a (ops.flatMap MvL.cells)) (hsn : sl.n = ops.length) {R : Value → Hp → Prop} (hR : ∀ h' bl, Kept N h h' → (bl = true → ops.length ≤ 200) → R (.bool bl) h') :
    CallTo Try.prog 14 #[.agg #[.int .i64 lim, .slice sl.a sl.n sl.c]] h R := by
  refine f14F_ok ?_
  unfold f14F
  refine Let_mk fun h1 e1 => ?_
  have k1 : Kept N h h1 := e1 ▸ kept_push _ _ _
  have row1 : Row h1 h.size [.int .i64 lim, .slice sl.a sl.n sl.c] := e1 ▸ row_new h _ 24
  have enb : nb h = ad h.size := rfl
  rw [enb]
  refine ⟨sl, by rw [add_ad]; exact (cell_row row1 1).trans rfl, Cond_dec (fun _ => hR h1 false k1 nofun) fun hle => ?_⟩
  have h200 : ops.length ≤ 200 := by omega
  refine f14L1_rule (fun q s1 s3 h' => ∃ i : Nat, i ≤ ops.length ∧ q = ops.length - i ∧ s1 = ad h.size ∧ s3 = (i : Int) ∧ Kept N h1 h') ops.length ⟨0, Nat.zero_le _, rfl, rfl, rfl, Kept.refl _ _⟩ ?_
  rintro q s1 s3 g h2 ⟨i, hi, rfl, rfl, rfl, k2⟩
  unfold f14L1
  have row2 := kept_row k2 row1 id
  have k12 := k1.trans k2
  have cS : cell h2 ((ad h.size).add 1) = some (.slice sl.a sl.n sl.c) := by rw [add_ad]; exact (cell_row row2 1).trans rfl
  refine ⟨sl, cS, Cond_dec (fun hlt => ?_) fun _ => hR h2 true k12 fun _ => h200⟩
  have hil : i < ops.length := by omega
  obtain ⟨o, eo⟩ : ∃ o, ops[i]? = some o := ⟨_, List.getElem?_eq_getElem hil⟩
  obtain ⟨p, hp, rd0, rd⟩ := mv_read (reads_keptN k12 hs) eo
  refine ⟨sl, cS, ⟨by omega, hlt⟩, PtrOk_of hp ?_⟩
  rw [Int.toNat_natCast]
  refine ⟨_, rd0, _, rd 1 _ rfl, _, rd 2 _ rfl, _, rd 3 _ rfl, _, rd 4 _ rfl, _, rd 5 _ rfl, _, rd 6 _ rfl, o.d, rd 7 _ rfl, Let_mk fun h3 e3 => ?_⟩
  have w3 : NB2 h2 h2.size _ h3 := e3 ▸ NB2.new h2 _ 33
  have enb2 : nb h2 = ad h2.size := rfl
  rw [enb2]
  refine w3.st (i := 0) (rfl) (by show 0 < 8; omega) fun h4 w4 => ?_
  refine w4.st (i := 1) (add_ad _ _) (by show 1 < 8; omega) fun h5 w5 => ?_
  refine w5.st (i := 2) (add_ad _ _) (by show 2 < 8; omega) fun h6 w6 => ?_
  refine w6.st (i := 3) (add_ad _ _) (by show 3 < 8; omega) fun h7 w7 => ?_
  refine w7.st (i := 4) (add_ad _ _) (by show 4 < 8; omega) fun h8 w8 => ?_
  refine w8.st (i := 5) (add_ad _ _) (by show 5 < 8; omega) fun h9 w9 => ?_
  refine w9.st (i := 6) (add_ad _ _) (by show 6 < 8; omega) fun h10 w10 => ?_
  refine w10.st (i := 7) (add_ad _ _) (by show 7 < 8; omega) fun h11 w11 => ?_
  have row : Row h11 h2.size o.cells := w11.row
  have kk := k12.trans w11.k
  have nxt : ∀ t, f14K1 (fun q s1 s3 h' => ∃ i : Nat, i ≤ ops.length ∧ q = ops.length - i ∧ s1 = ad h.size ∧ s3 = (i : Int) ∧ Kept N h1 h') (ops.length - i) (ad h.size) (i : Int) t h11 R := fun t => by
    unfold f14K1
    refine Cond_b (fun _ => hR h11 false kk nofun) fun _ => ⟨ops.length - (i + 1), by omega, i + 1, hil, rfl, rfl, ?_, k2.trans w11.k⟩
    rw [wrap_i64' (by omega) (by omega)]; rfl
  refine ⟨_, (cell_row row 0).trans rfl, Cond_b (fun _ => ⟨_, (mvc row 2).trans rfl, Cond_b (fun _ => ⟨_, (mvc row 2).trans rfl, Cond_b (fun _ => ⟨_, (mvc row 3).trans rfl, nxt _⟩) fun _ => nxt _⟩) fun _ => ⟨_, (mvc row 3).trans rfl, Cond_b (fun _ => ⟨_, (mvc row 2).trans rfl, Cond_b (fun _ => ⟨_, (mvc row 3).trans rfl, nxt _⟩) fun _ => nxt _⟩) fun _ => nxt _⟩⟩) fun _ => nxt _⟩
theorem begins_ok2 {n : Int} {R : Value → Hp → Prop} (hbad : R (.tuple #[.pointer none, .bool true]) h)
    (hgood : ∀ h' sb D, Shw h' sb D → Coh D → D.s = RS.new n.toNat → D.y.lim = n → (∀ b, D.foot b → h.size ≤ b) → Kept N h h' → R (.tuple #[.pointer (some (ad sb)), .bool true]) h') : CallTo Try.prog 15 #[.int .i64 n] h R := by
  refine f15F_ok ?_
  unfold f15F
  refine hnew_ok (fun hn => ⟨_, _, rfl, ?_⟩) fun h1 hb role G hn rp fr k1 => ⟨_, _, rfl, ?_⟩
  · have fin : ∀ t, t = false → f15K1 n none 30 t h R := fun t ht => by
      unfold f15K1
      subst ht
      exact Cond_t rfl (Cond_t rfl hbad)
    refine Cond_b (fun h1 => fin _ ?_) fun _ => fin _ rfl
    have h1 := of_decide_eq_true h1
    exact decide_eq_false fun h2 => hn ⟨h1, h2⟩
  refine Cond_t (decide_eq_true hn.1) ?_
  have e0 : decide (n ≤ (1048576 : Int)) = true := decide_eq_true hn.2
  rw [e0]
  unfold f15K1
  refine Cond_f rfl (Cond_f rfl ?_)
  show f15K2 n (some (ad hb)) false h1 R
  unfold f15K2
  refine Cond_f rfl ?_
  let W0 : Mem := ⟨fun _ => none, fun _ => []⟩
  have s0 : Sep h1 W0 := ⟨(fun y b hy => by cases hy), fun y z b hy _ => by cases hy⟩
  have ow0 : ∀ b, ¬ W0.own b := fun b ⟨y, hy⟩ => by cases hy
  refine Let_mk fun h2 e2 => ?_
  obtain ⟨s1, ch1⟩ := s0.push 1 #[.int .i64 0, .slice none 0 0, .slice none 0 0] 69
  rw [← e2] at s1 ch1
  refine Let_mk fun h3 e3 => ?_
  obtain ⟨s2, ch2⟩ := s1.push 0 #[.pointer (some (ad hb)), .slice (some (nb h1)) 1 1, .slice none 0 0, .int .i64 n, .int .i64 0] 43
  rw [← e3] at s2 ch2
  have ch := ch1.trans ch2
  have fW : ∀ b, ((W0.upd 1 (some h1.size) #[.int .i64 0, .slice none 0 0, .slice none 0 0].toList).upd 0 (some h2.size) #[.pointer (some (ad hb)), .slice (some (nb h1)) 1 1, .slice none 0 0, .int .i64 n, .int .i64 0].toList).own b → h1.size ≤ b := fun b hb => (ch.2 b hb).resolve_left (ow0 b)
  have k3 : Kept N h1 h3 := ch.1.mono fun b _ e => ow0 b e
  have v := RS.new_inv (n := n.toNat) (by omega) (by omega)
  refine hgood h3 h2.size ⟨hb, role, G, [], RS.new n.toNat, ⟨(W0.upd 1 (some h1.size) #[.int .i64 0, .slice none 0 0, .slice none 0 0].toList).upd 0 (some h2.size) #[.pointer (some (ad hb)), .slice (some (nb h1)) 1 1, .slice none 0 0, .int .i64 n, .int .i64 0].toList, [⟨0, [], []⟩], [⟨⟨none, 0, 0⟩, ⟨none, 0, 0⟩⟩], [], ⟨some (ad h1.size), 1, 1⟩, ⟨none, 0, 0⟩, n, 0⟩⟩
    ⟨rp.keep k3 fun _ e => e.elim, ⟨s2, Mem.loc_self .., Mem.cont_self .., rfl, ?_, ?_, ?_⟩, fun b hb => rp.fresh b (fW b hb), v⟩ ⟨⟨(by show n = ((n.toNat : Nat) : Int); omega), Nat.one_pos, (by show (-9223372036854775808 : Int) ≤ 0; omega), (by show (0 : Int) < 9223372036854775808; omega)⟩, rfl, rfl, fun id hid => ?_⟩ rfl rfl (fun b hb => ?_) (k1.trans k3)
  · refine ⟨rfl, fun e => ?_, fun b e => ?_⟩
    · have e : (Mem.upd (W0.upd 1 (some h1.size) _) 0 (some h2.size) _).loc 1 = none := e
      rw [Mem.loc_ne _ _ _ (by omega), Mem.loc_self] at e
      cases e
    · have e : (Mem.upd (W0.upd 1 (some h1.size) #[.int .i64 0, .slice none 0 0, .slice none 0 0].toList) 0 (some h2.size) #[.pointer (some (ad hb)), .slice (some (nb h1)) 1 1, .slice none 0 0, .int .i64 n, .int .i64 0].toList).loc 1 = some b := e
      rw [Mem.loc_ne _ _ _ (by omega), Mem.loc_self] at e
      obtain rfl := Option.some.inj e
      exact ⟨rfl, Nat.le_refl _, [], rfl, rfl⟩
  · exact ⟨rfl, fun _ => ⟨rfl, rfl, rfl⟩, fun b e => by
      have e : (Mem.upd (W0.upd 1 (some h1.size) #[.int .i64 0, .slice none 0 0, .slice none 0 0].toList) 0 (some h2.size) #[.pointer (some (ad hb)), .slice (some (nb h1)) 1 1, .slice none 0 0, .int .i64 n, .int .i64 0].toList).loc 2 = some b := e
      rw [Mem.loc_ne _ _ _ (by omega), Mem.loc_ne _ _ _ (by omega)] at e
      cases e⟩
  · intro i m g2 h4 h5
    have hi : i = 0 := by
      have h6 : i < 1 := (List.getElem?_eq_some_iff.1 h4).1
      omega
    subst hi
    obtain rfl : (⟨0, [], []⟩ : NodeD) = m := Option.some.inj h4
    obtain rfl : (⟨⟨none, 0, 0⟩, ⟨none, 0, 0⟩⟩ : NodG) = g2 := Option.some.inj h5
    exact ⟨⟨rfl, fun _ => ⟨rfl, rfl, rfl⟩, fun b e => by cases e⟩, ⟨rfl, fun _ => ⟨rfl, rfl, rfl⟩, fun b e => by cases e⟩⟩
  · rcases hid with hid | ⟨_, hid⟩ <;> cases hid
  · rcases hb with hb | hb
    · exact Nat.le_trans k1.1 (fW b hb)
    · exact fr b hb
end
end Go.Ev
set_option linter.all false
set_option maxRecDepth 1000000
namespace Go.Ev
open Go.Proofs
/-- The shadow in a law's loop: all of its blocks are new, what was there is as it was. -/
structure Lp (hB h : Hp) (sb : Nat) (D : ShD) (k : Nat) : Prop where
  x : Shw h sb D
  c : Coh D
  kp : Kept N hB h
  nw : ∀ b, D.foot b → hB.size ≤ b
  ol : D.s.objs.length ≤ k + 1
  rl : D.s.roots.length ≤ k
section
variable {h h' hB : Hp} {sb : Nat} {D D' : ShD} {sl : Sl} {ops : List MvL} {o : MvL} {k : Nat}
theorem Lp.step (l : Lp hB h sb D k) (x : Shw h' sb D') (c : Coh D') (st : Sts h D h' D') (a : D'.s.objs.length ≤ D.s.objs.length + 1) (b : D'.s.roots.length ≤ D.s.roots.length + 1) : Lp hB h' sb D' (k + 1) :=
  ⟨x, c, ⟨Nat.le_trans l.kp.1 st.1.1, fun i hi _ => (st.1.2 i (Nat.lt_of_lt_of_le hi l.kp.1) fun e => by have := l.nw i e; omega).trans (l.kp.2 i hi id)⟩,
    fun i hi => (st.2 i hi).elim (l.nw i) fun e => Nat.le_trans l.kp.1 e, by have := l.ol; omega, by have := l.rl; omega⟩
theorem Lp.keepN (l : Lp hB h sb D k) (kk : Kept N h h') : Lp hB h' sb D k := ⟨l.x.keepN kk, l.c, l.kp.trans kk, l.nw, l.ol, l.rl⟩
/-- A look changes nothing of it. -/
theorem Lp.look {W' : Mem} (l : Lp hB h sb D k) (x : Shw h' sb D) (kk : Kept N h h') : Lp hB h' sb D k := ⟨x, l.c, l.kp.trans kk, l.nw, l.ol, l.rl⟩
theorem keeps_ok {lim : Int} (hs : ReadsO h sl.a (ops.flatMap MvL.cells)) (hsn : sl.n = ops.length) (hok : ∀ o ∈ ops, o.Ok h) {R : Value → Hp → Prop} (hR : ∀ h', Kept N h h' → R (.bool true) h') :
    CallTo Try.prog 3 #[.agg #[.int .i64 lim, .slice sl.a sl.n sl.c]] h R := by
  refine f3F_ok ?_
  unfold f3F
  refine Let_mk fun h1 e1 => ?_
  have k1 : Kept N h h1 := e1 ▸ kept_push _ _ _
  have row1 : Row h1 h.size [.int .i64 lim, .slice sl.a sl.n sl.c] := e1 ▸ row_new h _ 24
  have enb : nb h = ad h.size := rfl
  rw [enb]
  refine wakes_ok fun h2 k2 => ⟨_, rfl, Cond_f rfl ?_⟩
  have row2 := kept_row k2 row1 id
  have k02 := k1.trans k2
  refine ⟨_, (cell_row row2 0).trans rfl, sl, by rw [add_ad]; exact (cell_row row2 1).trans rfl, small_ok (reads_keptN k02 hs) hsn fun h3 bl k3 hbl => ⟨_, rfl, ?_⟩⟩
  have row3 := kept_row k3 row2 id
  have k03 := k02.trans k3
  refine Cond_b (fun _ => hR h3 k03) fun hb => ?_
  have h200 : ops.length ≤ 200 := hbl (by cases bl with | true => rfl | false => cases hb)
  refine ⟨_, (cell_row row3 0).trans rfl, begins_ok2 ⟨_, _, rfl, Cond_t rfl (hR h3 k03)⟩ fun h4 sb D x4 c4 es el fo k4 => ⟨_, _, rfl, Cond_f rfl ?_⟩⟩
  have row4 := kept_row k4 row3 id
  have l4 : Lp h3 h4 sb D 0 := ⟨x4, c4, k4, fo, by rw [es]; exact Nat.le_refl _, by rw [es]; exact Nat.le_refl _⟩
  refine f3L1_rule (fun q s1 s3 s4 s5 h' => ∃ (i : Nat) (D : ShD), i ≤ ops.length ∧ q = ops.length - i ∧ s1 = ad h.size ∧ s3 = some (ad sb) ∧ s4 = true ∧ s5 = (i : Int) ∧ Lp h3 h' sb D i) ops.length ⟨0, D, Nat.zero_le _, rfl, rfl, rfl, rfl, rfl, l4⟩ ?_
  clear l4 c4 x4 es el fo
  rintro q s1 s3 s4 s5 g h5 ⟨i, D, hi, rfl, rfl, rfl, rfl, rfl, l5⟩
  unfold f3L1
  have row5 := kept_row l5.kp row3 id
  have k05 := k03.trans l5.kp
  have cS : cell h5 ((ad h.size).add 1) = some (.slice sl.a sl.n sl.c) := by rw [add_ad]; exact (cell_row row5 1).trans rfl
  refine ⟨sl, cS, Cond_dec (fun hlt => ?_) fun _ => hR h5 k05⟩
  have hil : i < ops.length := by omega
  obtain ⟨o, eo⟩ : ∃ o, ops[i]? = some o := ⟨_, List.getElem?_eq_getElem hil⟩
  have ko := (hok o (List.mem_of_getElem? eo)).keep k05 fun _ _ _ => id
  obtain ⟨p, hp, rd0, rd⟩ := mv_read (reads_keptN k05 hs) eo
  have kf : ∀ p, o.d.a = some p → o.bytes ≠ [] → ¬ D.foot p.block := fun p hp hn e => by
    have h1 := (hok o (List.mem_of_getElem? eo)).old p hp hn
    have h2 := l5.nw _ e
    have h3 := k03.1
    omega
  have hol := l5.ol
  have hrl := l5.rl
  refine ⟨sl, cS, ⟨by omega, hlt⟩, PtrOk_of hp ?_⟩
  rw [Int.toNat_natCast]
  refine ⟨_, rd0, _, rd 1 _ rfl, _, rd 2 _ rfl, _, rd 3 _ rfl, _, rd 4 _ rfl, _, rd 5 _ rfl, _, rd 6 _ rfl, o.d, rd 7 _ rfl, ?_⟩
  refine step_ok l5.x l5.c ko kf (by omega) (by omega) fun h6 D6 x6 c6 s6 _ a6 b6 _ => ⟨_, rfl, Cond_f rfl ?_⟩
  have l6 := l5.step x6 c6 s6 a6 b6
  refine look_ok2 x6 c6 (by have := l6.ol; omega) fun h7 zb W ss bs wh x7 z7 ap7 f7 k7 => ⟨_, _, rfl, Cond_f rfl ⟨ops.length - (i + 1), by omega, i + 1, D6, hil, rfl, rfl, rfl, rfl, ?_, l6.look (W' := W) x7 k7⟩⟩
  rw [wrap_i64' (by omega) (by omega)]; rfl
end
end Go.Ev
set_option linter.all false
set_option maxRecDepth 100000
namespace Go.Proofs.Ytgkhjbfkgckeoaa
open Go.ChangeShapes Go.WideShapes Go.ChangeAt Go.RowKit
open Go.Ev (MvL Reads ReadsO uv bv iv slV I6 Sl)
theorem own : ownKnob Try.prog.godebug = none := by kernel_rfl
theorem c3 : Try.prog.cellsOf 3 = 1 := by kernel_rfl
theorem c5 : Try.prog.cellsOf 5 = 1 := by kernel_rfl
theorem c30 : Try.prog.cellsOf 30 = 1 := by kernel_rfl
theorem c31 : Try.prog.cellsOf 31 = 1 := by kernel_rfl
theorem c22 : Try.prog.cellsOf 22 = 1 := by kernel_rfl
theorem c24 : Try.prog.cellsOf 24 = 2 := by kernel_rfl
theorem c33 : Try.prog.cellsOf 33 = 8 := by kernel_rfl
theorem b5 : Try.prog.bytesOf 5 = 1 := by kernel_rfl
theorem kids : Kids Try.prog (· < Try.prog.types.size) := kids_rows (by kernel_rfl) (by kernel_rfl)
theorem slices_some : ∀ t e, t < Try.prog.types.size → Try.prog.underlying t = some (.slice e) → 0 < Try.prog.cellsOf e := by
  have h : (List.range Try.prog.types.size).all (fun t => match Try.prog.underlying t with | some (.slice e) => decide (0 < Try.prog.cellsOf e) | _ => true) = true := by kernel_rfl
  intro t e ht hu
  have := List.all_eq_true.1 h t (List.mem_range.2 ht)
  rw [hu] at this
  exact of_decide_eq_true this
section
variable {H : Type} {enc : TypeId × Value → H} {W : World}
theorem weightsAll_mem {P : Program} {e : TypeId} : ∀ {ds : List (DataW H)} {d : DataW H}, d ∈ ds → ∀ n ∈ d.weights P e, n ∈ DataW.weightsAll P e ds
  | d0 :: ds, d, hd, n, hn => by
    rw [DataW.weightsAll, List.mem_append]
    rcases List.mem_cons.1 hd with rfl | hd
    · exact .inl hn
    · exact .inr (weightsAll_mem hd n hn)
theorem i64_of {n : Int} (h : (Lit.int .i64 n).wf = true) : I6 n := by
  have := bounds_i64 h
  exact ⟨this.1, by omega⟩
theorem bytes_of {n : Nat} {v : Value} {x : DataW H × List MemPlace} (h : DataW.trod enc Try.prog W 0 (fun _ => true) true n 31 [v] = some x) (hw : ∀ m ∈ x.1.weights Try.prog 31, m ≤ reachBytes) :
    ∃ (d : Sl) (l : List Nat), v = slV d ∧ ReadsO W.heap d.a (l.map bv) ∧ d.n = l.length ∧ (∀ c ∈ l, c < 256) ∧ l.length < 140737488355328 ∧ ∀ p, d.a = some p → l ≠ [] → p.block < W.heap.size := by
  rcases open_ints Try.underlying31 Try.underlying5 c5 h with ⟨hcs, _⟩ | ⟨a, len, cap, zs, hcs, _, hl, _, hz, hx, hcell, hwz⟩
  · refine ⟨⟨none, 0, 0⟩, [], ?_, rfl, rfl, by simp, by decide, nofun⟩
    exact (List.cons.inj hcs).1
  · simp only [if_true] at hz
    have hw1 := hw ((len + (cap - len)) * Try.prog.bytesOf 5) (by
      rw [hx]
      have e1 : ((lits (H := H) .u8 (zs.take len)).length) = len := by simp [lits]; omega
      have e2 : ((lits (H := H) .u8 (zs.drop len)).length) = cap - len := by simp [lits]; omega
      simp only [DataW.weights, Try.underlying31, List.mem_cons]
      exact .inl (by rw [e1, e2]))
    rw [b5] at hw1
    have hr := reachBytes_lt
    have wz : ∀ i, i < zs.length → 0 ≤ zs.getD i 0 ∧ zs.getD i 0 ≤ 255 := fun i hi => by
      rw [List.getD_eq_getElem?_getD, List.getElem?_eq_getElem hi]
      exact bounds_u8 (hwz _ (List.getElem_mem hi))
    have ll : ((zs.take len).map Int.toNat).length = len := by rw [List.length_map, List.length_take]; omega
    have rd : ∀ i, i < len → Go.Ev.cell W.heap (a.add i) = some (bv ((zs.take len).map Int.toNat)[i]!) := fun i hi => by
      have h1 : Go.Ev.cell W.heap (a.add i) = some (.int .u8 (zs.getD i 0)) := hcell i (by omega)
      have h2 := wz i (by omega)
      have e : ((zs.take len).map Int.toNat)[i]! = (zs.getD i 0).toNat := by
        rw [List.getElem!_eq_getElem?_getD, List.getElem?_map, List.getElem?_take, if_pos hi, List.getElem?_eq_getElem (by omega), List.getD_eq_getElem?_getD, List.getElem?_eq_getElem (by omega)]
        rfl
      rw [h1, e]
      unfold bv
      rw [Int.toNat_of_nonneg h2.1]
    refine ⟨⟨some a, len, cap⟩, (zs.take len).map Int.toNat, ?_, ?_, ll.symm, ?_, by omega, ?_⟩
    · simpa [slV] using hcs
    · intro j u hj
      rw [List.getElem?_map] at hj
      obtain ⟨z, hz1, rfl⟩ := Option.map_eq_some_iff.1 hj
      have hjl : j < len := by have := (List.getElem?_eq_some_iff.1 hz1).1; rw [ll] at this; exact this
      rw [rd j hjl, List.getElem!_eq_getElem?_getD, hz1]
      rfl
    · intro c hc
      obtain ⟨z, hz1, rfl⟩ := List.mem_map.1 hc
      have := bounds_u8 (hwz z (List.mem_of_mem_take hz1))
      omega
    · intro p hp hne
      obtain rfl := Option.some.inj hp
      have h0 : 0 < len := Nat.pos_of_ne_zero fun e => hne (List.length_eq_zero_iff.1 (ll.trans e))
      have h1 := rd 0 h0
      unfold Go.Ev.cell at h1
      have eb : (a.add 0).block = a.block := rfl
      rw [eb] at h1
      exact Nat.lt_of_not_le fun hl => by
        rw [Array.getElem?_eq_none hl] at h1
        cases h1
theorem mv_of {n : Nat} {cs : List Value} {x : DataW H × List MemPlace} (h : DataW.trod enc Try.prog W 0 (fun _ => true) true n 33 cs = some x) (hw : ∀ m ∈ x.1.weights Try.prog 33, m ≤ reachBytes) : ∃ o : MvL, cs = o.cells ∧ o.Ok W.heap := by
  obtain ⟨xs, n, _, rfl, hl, hn, hel⟩ := DataW.trod_struct Try.underlying33 h
  rw [c33] at hl
  have e0 : DataW.trod enc Try.prog W 0 (fun _ => true) true n 3 ((cs.drop 0).take (Try.prog.cellsOf 3)) = xs[0]? := hel 0 _ rfl
  have e1 : DataW.trod enc Try.prog W 0 (fun _ => true) true n 3 ((cs.drop 1).take (Try.prog.cellsOf 3)) = xs[1]? := hel 1 _ rfl
  have e2 : DataW.trod enc Try.prog W 0 (fun _ => true) true n 3 ((cs.drop 2).take (Try.prog.cellsOf 3)) = xs[2]? := hel 2 _ rfl
  have e3 : DataW.trod enc Try.prog W 0 (fun _ => true) true n 3 ((cs.drop 3).take (Try.prog.cellsOf 3)) = xs[3]? := hel 3 _ rfl
  have e4 : DataW.trod enc Try.prog W 0 (fun _ => true) true n 3 ((cs.drop 4).take (Try.prog.cellsOf 3)) = xs[4]? := hel 4 _ rfl
  have e5 : DataW.trod enc Try.prog W 0 (fun _ => true) true n 3 ((cs.drop 5).take (Try.prog.cellsOf 3)) = xs[5]? := hel 5 _ rfl
  have e6 : DataW.trod enc Try.prog W 0 (fun _ => true) true n 30 ((cs.drop 6).take (Try.prog.cellsOf 30)) = xs[6]? := hel 6 _ rfl
  have e7 : DataW.trod enc Try.prog W 0 (fun _ => true) true n 31 ((cs.drop 7).take (Try.prog.cellsOf 31)) = xs[7]? := hel 7 _ rfl
  rw [c3] at e0 e1 e2 e3 e4 e5
  rw [c30] at e6
  rw [c31] at e7
  match xs, hn with
  | [x0, x1, x2, x3, x4, x5, x6, x7], _ =>
    match cs, hl with
    | [v0, v1, v2, v3, v4, v5, v6, v7], _ =>
      obtain ⟨n0, a0, _, w0⟩ := DataW.trod_int Try.underlying3 (show DataW.trod enc Try.prog W 0 (fun _ => true) true n 3 [v0] = some x0 from e0)
      obtain ⟨n1, a1, _, w1⟩ := DataW.trod_int Try.underlying3 (show DataW.trod enc Try.prog W 0 (fun _ => true) true n 3 [v1] = some x1 from e1)
      obtain ⟨n2, a2, _, w2⟩ := DataW.trod_int Try.underlying3 (show DataW.trod enc Try.prog W 0 (fun _ => true) true n 3 [v2] = some x2 from e2)
      obtain ⟨n3, a3, _, w3⟩ := DataW.trod_int Try.underlying3 (show DataW.trod enc Try.prog W 0 (fun _ => true) true n 3 [v3] = some x3 from e3)
      obtain ⟨n4, a4, _, w4⟩ := DataW.trod_int Try.underlying3 (show DataW.trod enc Try.prog W 0 (fun _ => true) true n 3 [v4] = some x4 from e4)
      obtain ⟨n5, a5, _, w5⟩ := DataW.trod_int Try.underlying3 (show DataW.trod enc Try.prog W 0 (fun _ => true) true n 3 [v5] = some x5 from e5)
      obtain ⟨n6, a6, _, w6⟩ := DataW.trod_int Try.underlying30 (show DataW.trod enc Try.prog W 0 (fun _ => true) true n 30 [v6] = some x6 from e6)
      obtain ⟨d, l, d1, d2, d3, d4, d5, d6⟩ := bytes_of (show DataW.trod enc Try.prog W 0 (fun _ => true) true n 31 [v7] = some x7 from e7) (fun m hm => hw m (by
        simp only [DataW.weights, Try.underlying33]
        exact DataW.weights_mem_each (j := 7) (t := 31) rfl rfl m hm))
      simp only [List.cons.injEq, and_true] at a0 a1 a2 a3 a4 a5 a6
      have u6 := bounds_u64 w6
      refine ⟨⟨n0, n1, n2, n3, n4, n5, n6.toNat, d, l⟩, ?_, ⟨i64_of w0, i64_of w1, i64_of w2, i64_of w3, i64_of w4, i64_of w5, by show n6.toNat < _; omega, d2, d3, d4, d5, d6⟩⟩
      show [v0, v1, v2, v3, v4, v5, v6, v7] = [iv n0, iv n1, iv n2, iv n3, iv n4, iv n5, uv n6.toNat, slV d]
      have q6 : uv n6.toNat = .int .u64 n6 := by unfold uv; rw [Int.toNat_of_nonneg u6.1]
      rw [q6, a0, a1, a2, a3, a4, a5, a6, d1]
      rfl
theorem moves_of {n : Nat} {cs : List Value} {x : DataW H × List MemPlace} (h : DataW.trod enc Try.prog W 0 (fun _ => true) true n 24 cs = some x) (hw : ∀ m ∈ x.1.weights Try.prog 24, m ≤ reachBytes) :
    ∃ (l0 : Int) (sl : Sl) (ops : List MvL), cs = [.int .i64 l0, .slice sl.a sl.n sl.c] ∧ ReadsO W.heap sl.a (ops.flatMap MvL.cells) ∧ sl.n = ops.length ∧ ∀ o ∈ ops, o.Ok W.heap := by
  obtain ⟨xs, n, _, rfl, hl, hn, hel⟩ := DataW.trod_struct Try.underlying24 h
  rw [c24] at hl
  have e0 : DataW.trod enc Try.prog W 0 (fun _ => true) true n 3 ((cs.drop 0).take (Try.prog.cellsOf 3)) = xs[0]? := hel 0 _ rfl
  have e1 : DataW.trod enc Try.prog W 0 (fun _ => true) true n 22 ((cs.drop 1).take (Try.prog.cellsOf 22)) = xs[1]? := hel 1 _ rfl
  rw [c3] at e0
  rw [c22] at e1
  match xs, hn with
  | [x0, x1], _ =>
    match cs, hl with
    | [v0, v1], _ =>
      obtain ⟨l0, a0, _, _⟩ := DataW.trod_int Try.underlying3 (show DataW.trod enc Try.prog W 0 (fun _ => true) true n 3 [v0] = some x0 from e0)
      simp only [List.cons.injEq, and_true] at a0
      subst a0
      rcases DataW.trod_slice Try.underlying22 (show DataW.trod enc Try.prog W 0 (fun _ => true) true n 22 [v1] = some x1 from e1) with ⟨hc, _⟩ | ⟨a, len, cap, elems, rest, k, _, hc, rfl, _, _, _, hlen, hel3, _, _⟩
      · simp only [List.cons.injEq, and_true] at hc
        subst hc
        exact ⟨l0, ⟨none, 0, 0⟩, [], rfl, rfl, rfl, by simp⟩
      · simp only [List.cons.injEq, and_true] at hc
        subst hc
        rw [c33] at hel3
        have each : ∀ i, i < len → ∃ o : MvL, o.Ok W.heap ∧ ∀ j v, o.cells[j]? = some v → Go.Ev.cell W.heap (a.add (i * 8 + j)) = some v := fun i hi => by
          have h1 := hel3 i hi
          have hi2 : i < elems.length := by omega
          rw [List.getElem?_eq_getElem hi2] at h1
          obtain ⟨cs1, hc1, hd⟩ := Option.bind_eq_some_iff.1 h1
          obtain ⟨_, hcl, hcc⟩ := World.cells?_some hc1
          obtain ⟨o, ho, hok⟩ := mv_of hd (fun m hm => hw m (by
            simp only [DataW.weights, Try.underlying24]
            refine DataW.weights_mem_each (j := 1) (t := 22) rfl rfl m ?_
            simp only [DataW.weights, Try.underlying22, List.mem_cons, List.mem_append]
            exact .inr (.inl (weightsAll_mem (List.mem_map.2 ⟨_, List.getElem_mem hi2, rfl⟩) m hm))))
          refine ⟨o, hok, fun j v hj => ?_⟩
          have hjl : j < 8 := (List.getElem?_eq_some_iff.1 hj).1
          have h3 : Go.Ev.cell W.heap ((a.add (i * 8)).add j) = cs1[j]? := hcc j hjl
          rw [← Go.Ev.add_add, h3, ho, hj]
        obtain ⟨f, hf⟩ : ∃ f : Nat → MvL, ∀ i, i < len → (f i).Ok W.heap ∧ ∀ j v, (f i).cells[j]? = some v → Go.Ev.cell W.heap (a.add (i * 8 + j)) = some v :=
          ⟨fun i => if hi : i < len then (each i hi).choose else ⟨0, 0, 0, 0, 0, 0, 0, ⟨none, 0, 0⟩, []⟩, fun i hi => by dsimp only; rw [dif_pos hi]; exact (each i hi).choose_spec⟩
        refine ⟨l0, ⟨some a, len, cap⟩, (List.range len).map f, rfl, ?_, by simp, fun o ho => ?_⟩
        · intro j v hj
          have hjl : j < len * 8 := by
            have := (List.getElem?_eq_some_iff.1 hj).1
            rw [Go.Ev.flat_len Go.Ev.mv_len] at this
            simpa using this
          have hd : j = j / 8 * 8 + j % 8 := by omega
          have hi : j / 8 < len := by omega
          have h4 := Go.Ev.flat_at Go.Ev.mv_len ((List.range len).map f) (j / 8) (j % 8) (f (j / 8)) (by rw [List.getElem?_map, List.getElem?_range hi]; rfl) (by omega)
          rw [← hd, hj] at h4
          have := (hf (j / 8) hi).2 (j % 8) v h4.symm
          rwa [← hd] at this
        · obtain ⟨i, hi, rfl⟩ := List.mem_map.1 ho
          exact (hf i (List.mem_range.1 hi)).1
theorem kept_all {W W' : World} (hs : Go.Ev.Same W W') (hk : Go.Ev.Kept Go.Ev.N W.heap W'.heap) (may : MemPlace → Prop) : W.keptBut W' may := by
  refine ⟨hs.1, hs.2.2, fun i hi => ?_⟩
  rw [hk.2 i hi id]
  cases h : W.heap[i]? with
  | none => rfl
  | some o =>
    cases o <;> first | exact rfl | exact ⟨rfl, rfl, rfl, fun _ _ => rfl⟩ | exact .inr ⟨rfl, rfl⟩
theorem same_all {W W' : World} (hk : Go.Ev.Kept Go.Ev.N W.heap W'.heap) {p : MemPlace} (hp : p.block < W.heap.size) : W.sameAt W' p := by
  cases p with
  | cell b off =>
    show Go.Ev.cell W'.heap ⟨b, off, none⟩ = Go.Ev.cell W.heap ⟨b, off, none⟩
    unfold Go.Ev.cell
    rw [hk.2 b hp id]
  | map b => exact hk.2 b hp id
end
end Go.Proofs.Ytgkhjbfkgckeoaa
