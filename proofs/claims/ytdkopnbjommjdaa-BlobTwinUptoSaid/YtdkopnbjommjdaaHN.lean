/- (*Heap).collect is the document's collection: the halves are turned, the slots are gone through. No condition but that the heap is one. -/
import Derived.Test.YtdkopnbjommjdaaHK
set_option linter.all false
set_option maxRecDepth 100000
namespace Go.Ev
open Go.Proofs
namespace RS
section
variable {s : RS}
/-- A slot's block behind the walk, and what is left of it. -/
def f0 (s : RS) (id : Nat) : Option AObj := if id = 0 then none else some (s.encD s.gcEnd (s.dnOf s.gcEnd id) id)
def f1 (s : RS) (id : Nat) : Option AObj := if id ∈ s.gcEnd.line then s.f0 id else none
def blocksAt (s : RS) (i : Nat) : List (Option AObj) := (s.slots.take i).map s.f1 ++ (s.slots.drop i).map s.f0
def lw (s : RS) (id : Nat) : Nat := if id ∈ s.gcEnd.line then s.size id + 1 else 0
def largeAt (s : RS) (i : Nat) : Nat := ((s.slots.take i).map s.lw).sum
theorem blocksAt_len (i : Nat) : (s.blocksAt i).length = s.slots.length := by unfold blocksAt; simp; omega
theorem blocksAt_get {i x : Nat} (h : s.slots[i]? = some x) : (s.blocksAt i)[i]? = some (s.f0 x) := by
  have hi := (List.getElem?_eq_some_iff.1 h).1
  unfold blocksAt
  rw [List.getElem?_append_right (by simp; omega), List.getElem?_map, List.getElem?_drop]
  have : i + (i - ((s.slots.take i).map s.f1).length) = i := by simp; omega
  rw [this, h]; rfl
theorem blocksAt_succ {i x : Nat} (h : s.slots[i]? = some x) : s.blocksAt (i + 1) = (s.blocksAt i).set i (s.f1 x) := by
  obtain ⟨hi, he⟩ := List.getElem?_eq_some_iff.1 h
  unfold blocksAt
  rw [List.drop_eq_getElem_cons hi, he, take_snoc h, List.map_append, List.set_append_right _ _ (by simp; omega)]
  have : i - ((s.slots.take i).map s.f1).length = 0 := by simp; omega
  rw [this]
  simp
theorem largeAt_succ {i x : Nat} (h : s.slots[i]? = some x) : s.largeAt (i + 1) = s.largeAt i + s.lw x := by
  unfold largeAt
  rw [take_snoc h]
  simp
theorem largeAt_le (i : Nat) : s.largeAt i ≤ s.collection.large := by
  show _ ≤ (s.slots.map s.lw).sum
  unfold largeAt
  have : s.slots = s.slots.take i ++ s.slots.drop i := (List.take_append_drop i _).symm
  conv => rhs; rw [this]
  rw [List.map_append, List.sum_append]
  omega
theorem largeAt_len : s.largeAt s.slots.length = s.collection.large := by
  unfold largeAt
  rw [List.take_length]
  rfl
theorem blocks_end (v : s.Inv) : s.blocksAt s.slots.length = s.collection.slots.map fun id => if id = 0 then none else some (s.collection.enc id) := by
  have k := GcOk.fin v
  unfold blocksAt
  rw [List.take_length, List.drop_length, collection_slots, List.map_map, List.map_nil, List.append_nil]
  refine List.map_congr_left fun x _ => ?_
  show s.f1 x = if (if x ∈ s.gcEnd.line then x else 0) = 0 then none else some (s.collection.enc (if x ∈ s.gcEnd.line then x else 0))
  unfold f1 f0
  by_cases h : x ∈ s.gcEnd.line
  · simp only [if_pos h]
    rw [if_neg (k.ln x h).1, if_neg (k.ln x h).1, collection_enc v (.inr h), dnOf_fin (gcEnd_fin v) (.inr h)]
  · simp only [if_neg h, if_true]
theorem half_end (v : s.Inv) {dn : Nat → Nat} (hd : dn = s.dnOf s.gcEnd) : (s.gcEnd.copied.map fun id => s.encD s.gcEnd (dn id) id) = s.collection.small.map s.collection.enc := by
  subst hd
  refine List.map_congr_left fun x hx => ?_
  rw [collection_enc v (.inl hx), dnOf_fin (gcEnd_fin v) (.inl hx)]
theorem roots_end (v : s.Inv) : s.rootsAt s.gc0 s.roots.length = s.collection.roots.map s.collection.rootW := by
  unfold rootsAt
  rw [List.take_length, List.drop_length, List.map_nil, List.append_nil]
  refine List.map_congr_left fun x hx => ?_
  cases x with
  | none => rfl
  | some id =>
    show (true, s.newRef s.gc0 id) = (true, s.collection.ref id)
    have hp := s.gcAt_pre 0 s.objs.length
    rw [Nat.zero_add] at hp
    have h0 : id = 0 ∨ id ∈ s.gc0.copied ∨ id ∈ s.gc0.line := by
      have := gR_in (s := s) (i := s.roots.length) (id := id) (by rw [List.take_length]; exact hx)
      rwa [gR_len] at this
    rw [collection_ref v (gcEnd_root hx)]
    exact congrArg _ (newRef_pre v (g' := s.gcEnd) hp.1 h0 (GcOk.zero v).ln).symm
end
end RS
section
variable {h : Hp} {hb : Nat} {role : Nat → Role} {m : MH} {G : Geo} {s : RS}
theorem add_hd (b i j : Nat) : ((ad b).add i).add j = ⟨b, i + j, none⟩ := by rw [add_ad, add_mk]
/-- The words ahead of the slots' loop. -/
def RS.tailM (s : RS) (m : MH) (i : Nat) : MH := { m with half := m.spare, hz := m.sz, spare := m.half, sz := m.hz, blocks := s.blocksAt i, large := s.largeAt i }
theorem collect_tail (v : s.Inv) (rp : HRep h hb role m G) (c : RS.CRep s s.gcEnd (s.dnOf s.gcEnd) m) (e : Rest { s.words [] with roots := s.rootsAt s.gc0 s.roots.length } m) {R : Value → Hp → Prop}
    (hR : ∀ h' role' G' sp', HRep h' hb role' (s.collection.words sp') G' → ExtO h role h' role' → R (.tuple #[]) h') : ∀ J2 n2 x3, f54K2 J2 n2 (some (ad hb)) x3 false h R := by
  intro J2 n2 x3
  have k := RS.GcOk.fin v
  have i1 := v.u1
  have i2 := v.u2
  have i3 := v.h2
  have i4 := v.l2
  have i5 := v.sll
  have hlg := RS.collection_large v
  unfold f54K2
  refine Cond_f rfl ?_
  have c2 : cell h ((ad hb).add 2) = some (.pointer (some (ad G.Ls.pb))) := (rp.c 2).trans rfl
  have c1 : cell h ((ad hb).add 1) = some (.pointer (some (ad G.Lh.pb))) := (rp.c 1).trans rfl
  refine PtrOk_mk ⟨_, c2, PtrOk_mk ⟨_, c1, PtrOk_mk ?_⟩⟩
  obtain ⟨rs, xs⟩ := rp.swap
  rw [add_ad]
  refine ⟨rp.stOk (by omega), Let_mk fun h9 e9 => PtrOk_mk ?_⟩
  have hrow9 : Row h9 hb ((hcells m G).set 1 (.pointer (some (ad G.Ls.pb)))) := by rw [e9]; exact row_setc rp.row 1 _
  rw [← e9] at rs xs
  rw [add_ad]
  refine ⟨stOk_row hrow9 (by show 2 < 19; omega), Let_mk fun h10 e10 => PtrOk_mk ?_⟩
  rw [← e10] at rs xs
  have hsz : m.sz = s.half := c.sz
  have hhz : m.hz = s.half := e.hz
  have hbl : m.blocks = s.blocksAt 0 := by
    rw [c.blocks]
    unfold RS.blocksAt
    rw [List.take_zero, List.drop_zero]
    rfl
  refine rs.num (i := 6) (m' := s.tailM m 0) (add_ad _ _) (by omega) rfl rfl rfl rfl rfl hbl.symm rfl rfl rfl fun h2 rp2 x2 => ?_
  have x02 := xs.trans x2.o
  have hbn := rp2.bs_n
  have hbn : G.bs.n = (s.blocksAt 0).length := hbn
  rw [RS.blocksAt_len] at hbn
  have c3 : cell h2 ((ad hb).add 3) = some (.slice G.bs.a G.bs.n G.bs.c) := (rp2.c 3).trans rfl
  refine PtrOk_mk ⟨G.bs, c3, ?_⟩
  rw [hbn]
  generalize hg2 : ({ G with Lh := G.Ls, Ls := G.Lh } : Geo) = G2 at rp2
  have hl0 : s.slots.length = s.slots.length - 0 := by omega
  refine f54L3_rule (fun q s0 s122 s123 h' => ∃ (i : Nat) (role' : Nat → Role) (G' : Geo), i ≤ s.slots.length ∧ q = s.slots.length - i ∧ s0 = some (ad hb) ∧ s122 = ((s.slots.length : Nat) : Int) ∧ s123 = (i : Int) ∧ HRep h' hb role' (s.tailM m i) G' ∧ ExtO h role h' role') s.slots.length
    ⟨0, _, G2, Nat.zero_le _, rfl, rfl, rfl, rfl, rp2, x02⟩ ?_
  rintro q s0 s122 s123 g h1 ⟨i, role1, G1, hi, rfl, rfl, rfl, rfl, rp1, x1⟩
  unfold f54L3
  have hrn := rp1.rs_n
  have hrn : G1.rs.n = m.reached.length := hrn
  have hbn1 := rp1.bs_n
  have hbn1 : G1.bs.n = (s.blocksAt i).length := hbn1
  rw [RS.blocksAt_len] at hbn1
  have hrl : m.reached.length = s.slots.length := by rw [c.reached, List.length_map]
  have c4 : cell h1 ((ad hb).add 4) = some (.slice G1.rs.a G1.rs.n G1.rs.c) := (rp1.c 4).trans rfl
  have c3' : cell h1 ((ad hb).add 3) = some (.slice G1.bs.a G1.bs.n G1.bs.c) := (rp1.c 3).trans rfl
  have c6 : cell h1 ((ad hb).add 6) = some (.int .i64 ((s.largeAt i : Nat) : Int)) := (rp1.c 6).trans rfl
  have hla := s.largeAt_le i
  refine Cond_dec (fun hlt => ?_) fun hge => ?_
  · have hlt : i < s.slots.length := by omega
    obtain ⟨x, hx⟩ : ∃ x, s.slots[i]? = some x := ⟨_, List.getElem?_eq_getElem hlt⟩
    obtain ⟨b, ha, hc, hin⟩ := rp1.reach_at (i := i) (by show i < m.reached.length; omega)
    have hfl : (s.tailM m i).reached.getD i false = decide (x ∈ s.gcEnd.line) := by
      show m.reached.getD i false = _
      rw [c.reached, List.getD_eq_getElem?_getD, List.getElem?_map, hx]; rfl
    rw [hfl] at hc
    have cb : (0 : Int) ≤ (i : Int) ∧ (i : Int) < ((G1.rs.n : Nat) : Int) := by omega
    have cb2 : (0 : Int) ≤ (i : Int) ∧ (i : Int) < ((G1.bs.n : Nat) : Int) := by omega
    refine PtrOk_mk ⟨G1.rs, c4, cb, PtrOk_of ha ⟨_, by rw [Int.toNat_natCast]; exact hc, ?_⟩⟩
    have hwr : IntKind.wrap .i64 ((i : Int) + 1) = ((i + 1 : Nat) : Int) := by rw [wrap_i64' (by omega) (by omega)]; rfl
    by_cases hxl : x ∈ s.gcEnd.line
    · refine Cond_f (by simp [hxl]) (PtrOk_mk ⟨_, c6, PtrOk_mk ⟨G1.bs, c3', cb2, ?_⟩⟩)
      obtain ⟨hx0, _⟩ := k.ln x hxl
      have hblk : (s.tailM m i).blocks[i]? = some (some (s.encD s.gcEnd (s.dnOf s.gcEnd x) x)) := by
        show (s.blocksAt i)[i]? = _
        rw [RS.blocksAt_get hx]
        unfold RS.f0
        rw [if_neg hx0]
      obtain ⟨L, hL⟩ := rp1.loc_some hblk
      obtain ⟨bb, hba, hbc⟩ := rp1.slot_at hL
      obtain ⟨⟨wc, fc, fs, ra⟩, _⟩ := rp1.bl i _ _ hblk hL
      refine PtrOk_of hba ⟨some (ad L.pb), by rw [Int.toNat_natCast]; exact hbc, _, asize_ok ra ⟨rfl, rfl⟩, PtrOk_mk ?_⟩
      have hsum := RS.largeAt_succ hx
      have hlw : s.lw x = s.size x + 1 := by unfold RS.lw; rw [if_pos hxl]
      have hla2 := s.largeAt_le (i + 1)
      have hbs : s.blocksAt (i + 1) = s.blocksAt i := by
        rw [RS.blocksAt_succ hx]
        refine RS.set_same ?_
        rw [RS.blocksAt_get hx]
        unfold RS.f1
        rw [if_pos hxl]
      have hv : IntKind.wrap .i64 (((s.largeAt i : Nat) : Int) + (((s.encD s.gcEnd (s.dnOf s.gcEnd x) x).size + 1 : Nat) : Int)) = ((s.largeAt (i + 1) : Nat) : Int) := by
        rw [s.encD_size, wrap_ar (by omega) (by omega)]; omega
      rw [hv]
      refine rp1.num (i := 6) (m' := s.tailM m (i + 1)) (add_ad _ _) (by omega) rfl rfl rfl rfl rfl hbs rfl rfl rfl fun h3 rp3 x3 => ?_
      exact ⟨s.slots.length - (i + 1), by omega, i + 1, role1, G1, hlt, rfl, rfl, rfl, hwr, rp3, x1.trans x3.o⟩
    · refine Cond_t (by simp [hxl]) (PtrOk_mk ⟨G1.bs, c3', cb2, ?_⟩)
      obtain ⟨b2, ha2, st, rp3, x3⟩ := rp1.dropSlot (i := i) (by show i < (s.blocksAt i).length; rw [RS.blocksAt_len]; exact hlt)
      refine PtrOk_of ha2 ?_
      rw [Int.toNat_natCast]
      refine ⟨st, ?_⟩
      have hbs : s.blocksAt (i + 1) = (s.blocksAt i).set i none := by
        rw [RS.blocksAt_succ hx]
        unfold RS.f1
        rw [if_neg hxl]
      have hlg1 : s.largeAt (i + 1) = s.largeAt i := by
        rw [RS.largeAt_succ hx]
        unfold RS.lw
        rw [if_neg hxl]; rfl
      have em : s.tailM m (i + 1) = { s.tailM m i with blocks := (s.tailM m i).blocks.set i none } := by
        unfold RS.tailM
        rw [hbs, hlg1]
      exact ⟨s.slots.length - (i + 1), by omega, i + 1, role1, _, hlt, rfl, rfl, rfl, hwr, by rw [em]; exact rp3, x1.trans x3.o⟩
  · have : i = s.slots.length := by omega
    subst this
    refine PtrOk_mk ⟨G1.rs, c4, ?_⟩
    refine rp1.clrReached fun h2 rp2 x2 => PtrOk_mk ⟨_, (rp2.c 6).trans rfl, PtrOk_mk ?_⟩
    refine rp2.num (i := 7) (m' := { s.tailM m s.slots.length with reached := m.reached.map fun _ => false, since := 0 }) (add_ad _ _) (by omega) rfl rfl rfl rfl rfl rfl rfl rfl rfl fun h3 rp3 x3 => PtrOk_mk ?_
    refine rp3.num (i := 8) (m' := { s.tailM m s.slots.length with reached := m.reached.map fun _ => false, since := 0, kept := s.largeAt s.slots.length }) (add_ad _ _) (by omega) rfl rfl rfl rfl rfl rfl rfl rfl rfl fun h4 rp4 x4 => PtrOk_mk ?_
    obtain ⟨rp5, x5⟩ := rp4.noGrey
    rw [add_ad]
    refine ⟨rp4.stOk (by omega), Let_mk fun h5 e5 => ?_⟩
    rw [← e5] at rp5 x5
    have c16 : cell h5 (((ad hb).add 10).add 6) = some (.int .i64 m.r6) := by rw [add_hd]; exact (cell_row rp5.row 16).trans rfl
    refine PtrOk_mk ⟨_, c16, PtrOk_mk ?_⟩
    refine rp5.num (i := 16) (m' := { s.tailM m s.slots.length with reached := m.reached.map fun _ => false, since := 0, kept := s.largeAt s.slots.length, grey := [], r6 := IntKind.wrap .i64 (m.r6 + 1) }) (add_hd _ _ _) (by omega) rfl rfl rfl rfl rfl rfl rfl rfl rfl fun h6 rp6 x6 => PtrOk_mk ?_
    have c1' : cell h6 ((ad hb).add 1) = some (.pointer (some (ad G1.Lh.pb))) := (rp6.c 1).trans rfl
    obtain ⟨wc, fc, fs, ra⟩ := rp6.half
    have hus : Go.Ev.used m.spare = 1 + s.sizes s.gcEnd.copied := c.used_spare
    refine ⟨_, c1', aused_ok ra ⟨_, rfl, PtrOk_mk ?_⟩⟩
    have hle := RS.sizes_le (s := s) s.gcEnd.copied s.small (List.nodup_append.1 k.nd).1 k.cp
    have hv : IntKind.wrap .i64 (((Go.Ev.used m.spare : Nat) : Int) - (1 : Int)) = ((s.sizes s.gcEnd.copied : Nat) : Int) := by rw [hus, wrap_ar (by omega) (by omega)]; omega
    show Go.Ev.stOk h6 (((ad hb).add 10).add 8) ∧ Let (setc h6 (((ad hb).add 10).add 8) (.int .i64 (IntKind.wrap .i64 (((Go.Ev.used m.spare : Nat) : Int) - (1 : Int))))) fun h21 => R (.tuple #[]) h21
    rw [hv]
    refine rp6.num (i := 18) (m' := { s.tailM m s.slots.length with reached := m.reached.map fun _ => false, since := 0, kept := s.largeAt s.slots.length, grey := [], r6 := IntKind.wrap .i64 (m.r6 + 1), r8 := s.sizes s.gcEnd.copied }) (add_hd _ _ _) (by omega) rfl rfl rfl rfl rfl rfl rfl rfl rfl fun h7 rp7 x7 => ?_
    have em : ({ s.tailM m s.slots.length with reached := m.reached.map fun _ => false, since := 0, kept := s.largeAt s.slots.length, grey := [], r6 := IntKind.wrap .i64 (m.r6 + 1), r8 := s.sizes s.gcEnd.copied } : MH) = s.collection.words m.half := by
      unfold RS.tailM RS.words
      simp only [MH.mk.injEq]
      refine ⟨e.limit, hsz, ?_, hhz, trivial, RS.blocks_end v, ?_, trivial, RS.largeAt_len, rfl, RS.largeAt_len, ?_, e.r5, ?_, e.r7, rfl⟩
      · rw [c.spare]; exact RS.half_end v rfl
      · rw [c.reached, RS.collection_slots, List.map_map, List.map_map]; rfl
      · rw [e.roots]; exact RS.roots_end v
      · rw [e.r6]; rfl
    rw [em] at rp7
    exact hR h7 role1 _ m.half rp7 (((((x1.trans x2.o).trans x3.o).trans x4.o).trans x5.o).trans (x6.trans x7).o)
theorem collect_ok (v : s.Inv) {sp : List AObj} (rp : HRep h hb role (s.words sp) G) {R : Value → Hp → Prop}
    (hR : ∀ h' role' G' sp', HRep h' hb role' (s.collection.words sp') G' → ExtO h role h' role' → R (.tuple #[]) h') : CallTo Try.prog 54 #[.pointer (some (ad hb))] h R := by
  refine f54F_ok ?_
  unfold f54F
  have c2 : cell h ((ad hb).add 2) = some (.pointer (some (ad G.Ls.pb))) := (rp.c 2).trans rfl
  obtain ⟨wc, fc, fs, ra⟩ := rp.spare
  refine PtrOk_mk ⟨_, c2, aclear_ok ra fun h1 L1 ha hg => ⟨rfl, PtrOk_mk ?_⟩⟩
  have rp1 := rp.setSpare ha hg
  have x1 : ExtO h role h1 (joinR role h.size L1.fp .spare) := ExtO.of (role := role) hg.kept (fun b hb => by rw [rp.sparer b hb]; nofun) fun b hb ho => (joinR_old hb).trans ho
  have rp1 : HRep h1 hb _ (s.words []) { G with Ls := L1 } := rp1
  have c9 : cell h1 ((ad hb).add 9) = some (.slice G.ts.a G.ts.n G.ts.c) := (rp1.c 9).trans rfl
  have hn := rp1.ts_n
  have hn : G.ts.n = (s.roots.map s.rootW).length := hn
  rw [List.length_map] at hn
  refine ⟨G.ts, c9, ?_⟩
  rw [hn]
  refine collect_roots v rp1 fun h2 role2 G2 m2 rp2 x2 c2 e2 => ?_
  refine collect_scan v rp2 c2 fun h3 role3 G3 m3 rp3 x3 c3 e3 => ?_
  exact collect_tail v rp3 c3 (e2.trans e3) fun h4 role4 G4 sp4 rp4 x4 => hR h4 role4 G4 sp4 rp4 (((x1.trans x2.o).trans x3.o).trans x4)
end
end Go.Ev
