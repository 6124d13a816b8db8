/- HeapCompact: what lies there behind a collection, and the law's own call. No condition but that it is one. -/
import Derived.Test.YtgkhjbfkgckeoaaTZ
set_option linter.all false
set_option maxRecDepth 100000
namespace Go.Ev
open Go.Proofs
namespace RS
theorem reachL_congr {s c : RS} : ∀ (ids : List Nat) (g : Gc), (∀ r ∈ ids, r = 0 ∨ (c.obj r).big = (s.obj r).big) → c.reachL g ids = s.reachL g ids
  | [], _, _ => rfl
  | r :: ids, g, h => by
    have e : c.reach g r = s.reach g r := by
      unfold reach
      rcases h r (List.mem_cons_self ..) with e | e
      · rw [if_pos (.inl e), if_pos (.inl e)]
      · rw [e]
    show c.reachL (c.reach g r) ids = s.reachL (s.reach g r) ids
    rw [e]
    exact reachL_congr ids _ fun x hx => h x (List.mem_cons_of_mem _ hx)
theorem walk_congr {s c : RS} (v : s.Inv) (hr : c.roots = s.roots) (ho : c.objs.length = s.objs.length)
    (h : ∀ id, id ∈ s.gcEnd.copied ∨ id ∈ s.gcEnd.line → (c.obj id).big = (s.obj id).big ∧ (c.obj id).refs = (s.obj id).refs) : c.gcEnd = s.gcEnd := by
  have main : ∀ n, n ≤ s.objs.length → c.gcAt n = s.gcAt n := by
    intro n
    induction n with
    | zero =>
      intro _
      show c.gc0 = s.gc0
      unfold gc0
      rw [hr]
      refine reachL_congr _ _ fun r hr' => ?_
      obtain ⟨x, hx, ex⟩ := List.mem_filterMap.1 hr'
      have ex : x = some r := ex
      subst ex
      exact (gcEnd_root hx).imp_right fun q => (h r q).1
    | succ n ih =>
      intro hn
      show c.gcStep (c.gcAt n) = s.gcStep (s.gcAt n)
      rw [ih (by omega)]
      have hp := s.gcAt_pre n (s.objs.length - n)
      rw [show n + (s.objs.length - n) = s.objs.length by omega] at hp
      have st : ∀ id, id ∈ s.gcEnd.copied ∨ id ∈ s.gcEnd.line → c.reachL (s.gcAt n) (c.obj id).refs = s.reachL (s.gcAt n) (s.obj id).refs := fun id hid => by
        rw [(h id hid).2]
        exact reachL_congr _ _ fun r hr => (gcEnd_closed v hid r hr).imp_right fun q => (h r q).1
      unfold gcStep
      cases e : (s.gcAt n).copied[(s.gcAt n).a]? with
      | some id =>
        have hid : id ∈ s.gcEnd.copied := hp.1.subset (List.mem_of_getElem? e)
        simp only [st id (.inl hid)]
      | none =>
        cases e2 : (s.gcAt n).line[(s.gcAt n).b]? with
        | some id =>
          have hid : id ∈ s.gcEnd.line := hp.2.subset (List.mem_of_getElem? e2)
          simp only [st id (.inr hid)]
        | none => rfl
  show c.gcAt c.objs.length = s.gcAt s.objs.length
  rw [ho]
  exact main _ (Nat.le_refl _)
theorem collection_gcEnd {s : RS} (v : s.Inv) : s.collection.gcEnd = s.gcEnd :=
  walk_congr v rfl (collection_len s) fun id hid => ⟨(collection_kind v hid).2.2.2, (collection_kind v hid).2.1⟩
/-- Just what is live is there. -/
structure Packed (t : RS) : Prop where
  sm : t.small = t.gcEnd.copied
  sl : ∀ id ∈ t.slots, id ≠ 0 → id ∈ t.gcEnd.line
theorem collection_packed {s : RS} (v : s.Inv) : s.collection.Packed := by
  refine ⟨by rw [collection_gcEnd v]; rfl, fun id hid h0 => ?_⟩
  rw [collection_gcEnd v]
  obtain ⟨x, hx, e⟩ := List.mem_map.1 hid
  by_cases hl : x ∈ s.gcEnd.line
  · rw [if_pos hl] at e; subst e; exact hl
  · rw [if_neg hl] at e; exact absurd e.symm h0
/-- The same heap but for its numbers. -/
structure Alike (t s : RS) : Prop where
  objs : t.objs = s.objs
  small : t.small = s.small
  slots : t.slots = s.slots
  roots : t.roots = s.roots
  used : t.used = s.used
  large : t.large = s.large
  limit : t.limit = s.limit
theorem Alike.refl (s : RS) : Alike s s := ⟨rfl, rfl, rfl, rfl, rfl, rfl, rfl⟩
theorem become_alike (s : RS) (n : Nat) : Alike (s.become n) s := by unfold become; split <;> exact ⟨rfl, rfl, rfl, rfl, rfl, rfl, rfl⟩
theorem fit_alike (s : RS) (n : Nat) : Alike (s.fit n) s := by
  unfold fit
  split
  · split
    · exact become_alike _ _
    · exact Alike.refl _
  · split
    · exact become_alike _ _
    · exact Alike.refl _
section
variable {s t : RS}
theorem Alike.obj (a : Alike t s) (id : Nat) : t.obj id = s.obj id := by unfold RS.obj; rw [a.objs]
theorem Alike.gcEnd (a : Alike t s) (v : s.Inv) : t.gcEnd = s.gcEnd := walk_congr v a.roots (by rw [a.objs]) fun id _ => by rw [a.obj]; exact ⟨rfl, rfl⟩
theorem Packed.alike (p : s.Packed) (v : s.Inv) (a : Alike t s) : t.Packed := ⟨by rw [a.small, a.gcEnd v]; exact p.sm, fun id hid h0 => by rw [a.gcEnd v]; exact p.sl id (a.slots ▸ hid) h0⟩
theorem collect_packed (v : s.Inv) : s.collect.Packed := (collection_packed v).alike v.collection (fit_alike _ _)
theorem resize_packed (v : s.Inv) {n : Int} (h : (s.resize n).2 = 0) : (s.resize n).1.Packed := by
  unfold resize at h ⊢
  split at h
  · exact absurd h (by show ¬ ((36 : Int) = 0); omega)
  · rename_i h1
    rw [if_neg h1]
    split at h
    · exact absurd h (by show ¬ ((31 : Int) = 0); omega)
    · rename_i h2
      rw [if_neg h2]
      exact (collection_packed v).alike v.collection (become_alike _ _)
theorem Packed.used (p : s.Packed) (v : s.Inv) : s.used = 1 + s.sizes s.gcEnd.copied := by rw [← p.sm]; exact v.u1
theorem zero_line (v : s.Inv) : 0 ∉ s.gcEnd.line := fun h => ((GcOk.fin v).ln 0 h).1 rfl
theorem Packed.slot (p : s.Packed) (v : s.Inv) {id : Nat} (h : id ∈ s.slots) : id ∈ s.gcEnd.line ↔ id ≠ 0 := ⟨fun h e => zero_line v (e ▸ h), p.sl id h⟩
theorem Packed.large (p : s.Packed) (v : s.Inv) : s.large = s.lsum s.gcEnd.line := by
  rw [← collection_lsum v, v.lg]
  show _ = (s.slots.map fun id => if id ∈ s.gcEnd.line then s.size id + 1 else 0).sum
  congr 1
  refine List.map_congr_left fun x hx => ?_
  have := p.slot v hx
  by_cases h0 : x = 0
  · rw [if_pos h0, if_neg fun h => this.1 h h0]
  · rw [if_neg h0, if_pos (this.2 h0)]
theorem filter_sum (p : Nat → Bool) : ∀ l : List Nat, (l.filter p).length = (l.map fun x => if p x = true then 1 else 0).sum
  | [] => rfl
  | x :: l => by
    rw [List.map_cons, List.sum_cons, ← filter_sum p l, List.filter_cons]
    split <;> simp <;> omega
theorem line_count (v : s.Inv) {x : Nat} (hx : x ∈ s.gcEnd.line) : s.slots.count x = 1 := by
  obtain ⟨h0, hm⟩ := (GcOk.fin v).ln x hx
  exact count_one _ _ (fun i j hi hj => (v.sl i x hi h0).2.2.2.symm.trans (v.sl j x hj h0).2.2.2) hm
theorem Packed.slotsN (p : s.Packed) (v : s.Inv) : ((s.slots.filter fun x => decide (x ≠ 0)).length) = s.gcEnd.line.length := by
  rw [filter_sum]
  have e := sum_pick (f := fun _ => 1) s.slots s.gcEnd.line (List.nodup_append.1 (GcOk.fin v).nd).2.1 (fun x hx => ((GcOk.fin v).ln x hx).2) fun x hx => line_count v hx
  have e1 : ∀ l : List Nat, (l.map fun _ => 1).sum = l.length := fun l => by
    induction l with
    | nil => rfl
    | cons x l ih => rw [List.map_cons, List.sum_cons, ih, List.length_cons]; omega
  rw [e1] at e
  rw [← e]
  congr 1
  refine List.map_congr_left fun x hx => ?_
  have := p.slot v hx
  by_cases h0 : x = 0
  · rw [if_neg (by simp [h0]), if_neg fun h => this.1 h h0]
  · rw [if_pos (by simp [h0]), if_pos (this.2 h0)]
/-- Where the small ones lie. -/
theorem small_ref (v : s.Inv) {i id : Nat} (h : s.small[i]? = some id) : s.ref id = 1 + s.sizes (s.small.take i) := by
  obtain ⟨h0, _, hb, _, hp⟩ := v.sm id (List.mem_of_getElem? h)
  unfold ref
  rw [if_neg (by omega), if_neg (by rw [hb]; exact Bool.false_ne_true), hp, placeIn_at _ _ _ _ v.nds h]
end
end RS
end Go.Ev
set_option linter.all false
set_option maxRecDepth 1000000
namespace Go.Ev
open Go.Proofs
section
variable {h h' hB : Hp} {sb zb : Nat} {D D' : ShD} {sl : Sl} {ops : List MvL} {o : MvL} {k : Nat}
/-- A collection of the shadow's heap. -/
theorem Shw.collects (x : Shw h sb D) (c : Coh D) {R : Value → Hp → Prop}
    (hR : ∀ h' D', Shw h' sb D' → Coh D' → Sts h D h' D' → D'.s = D.s.collect → D'.y = D.y → R (.tuple #[]) h') : CallTo Try.prog 20 #[.pointer (some (ad D.hb))] h R :=
  hcollect_ok x.v x.rp fun h3 role' G' sp' rp' ex => by
    obtain ⟨x3, s3⟩ := x.prog rp' ex x.v.collect
    have sub := RS.Sub.collect x.v
    exact hR h3 _ x3 ⟨RS.collect_lm c.lm, c.rt.trans sub.roots.symm, c.sh.sub sub⟩ s3 rfl rfl
theorem packed_ok (x : Shw h sb D) (c : Coh D) (ol : D.s.objs.length < 100000000) (p : D.s.Packed) {R : Value → Hp → Prop} (hR : ∀ h', Shw h' sb D → Kept N h h' → R (.bool true) h') :
    CallTo Try.prog 19 #[.pointer (some (ad sb))] h R := by
  have i2 := x.v.h2; have i3 := x.v.u2; have i4 := x.v.l2
  have us := p.used x.v
  refine f19F_ok ?_
  unfold f19F
  refine look_ok2 x c ol fun h1 zb W ss bs wh x1 z1 ap1 f1 k1 => ⟨_, _, rfl, Cond_f rfl ?_⟩
  have kf := RS.GcOk.fin x.v
  have ssn : ss.n = D.s.gcEnd.copied.length := by have := z1.sm.len; rw [List.length_map, List.length_map] at this; omega
  have bsn : bs.n = D.s.gcEnd.line.length := by have := z1.bg.len; rw [List.length_map, List.length_map] at this; omega
  have cl : D.s.gcEnd.copied.length ≤ D.s.sizes D.s.gcEnd.copied := RS.len_sizes _
  refine f19L1_rule (fun q s0 s3 s5 s6 h' => ∃ i : Nat, i ≤ D.s.gcEnd.copied.length ∧ q = D.s.gcEnd.copied.length - i ∧ s0 = some (ad sb) ∧ s3 = some (ad zb) ∧ s5 = ((1 + D.s.sizes (D.s.gcEnd.copied.take i) : Nat) : Int) ∧ s6 = (i : Int) ∧ Kept N h1 h')
    D.s.gcEnd.copied.length ⟨0, Nat.zero_le _, rfl, rfl, rfl, rfl, rfl, Kept.refl _ _⟩ ?_
  rintro q s0 s3 s5 s6 g h2 ⟨i, hi, rfl, rfl, rfl, rfl, rfl, k2⟩
  unfold f19L1
  have x2 := x1.keepN k2
  have z2 := z1.keep k2 fun _ _ e => e
  have cs : cell h2 (ad zb) = some (.slice ss.a ss.n ss.c) := by rw [z2.sep.cell0 z2.loc, z2.hd]; rfl
  refine PtrOk_mk ⟨ss, cs, Cond_dec (fun hlt => ?_) fun hge => ?_⟩
  · have hil : i < D.s.gcEnd.copied.length := by omega
    obtain ⟨id, eid⟩ : ∃ id, D.s.gcEnd.copied[i]? = some id := ⟨_, List.getElem?_eq_getElem hil⟩
    have hin : id ∈ D.s.gcEnd.copied := List.mem_of_getElem? eid
    have hsm : id ∈ D.s.small := kf.cp id hin
    have h0 : id ≠ 0 := by have := (x.v.sm id hsm).1; omega
    have hh : D.s.here id := .inl hsm
    have hlt' := x.v.here_lt hh
    have eref : D.s.ref id = 1 + D.s.sizes (D.s.gcEnd.copied.take i) := by
      have := RS.small_ref x.v (i := i) (id := id) (by rw [p.sm]; exact eid)
      rwa [p.sm] at this
    obtain ⟨b1, _, ha1, hc1, cb1⟩ := sl_at z2.sm z2.sep (by rw [List.getElem?_map, eid]; rfl : (D.s.gcEnd.copied.map D.s.ref)[i]? = some (D.s.ref id))
    refine PtrOk_mk ⟨ss, cs, cb1, PtrOk_of ha1 ⟨((D.s.ref id : Nat) : Int), by rw [Int.toNat_natCast]; exact hc1, ?_⟩⟩
    rw [eref]
    refine Cond_f (bne_self_eq_false _) ?_
    have ndx := Nd.of x2 c hh h0
    obtain ⟨nb1, gg, hl1, hg, hna, cb, hc0, hcj, i1, i2'⟩ := x2.m.node ndx.at_
    have hrs : (D.s.obj id).refs.length = gg.rs.n * 1 := by have := i1.len; rwa [List.length_map] at this
    have hws : (D.s.obj id).raws.length = gg.ws.n * 1 := by have := i2'.len; rwa [List.length_map] at this
    have shp := x.v.shp id hh
    have nodeAt : ∀ h3, Kept N h2 h3 → CallTo Try.prog 41 #[.pointer (some (ad zb)), .int .u64 ((1 + D.s.sizes (D.s.gcEnd.copied.take i) : Nat) : Int)] h3 fun v h' => v = .int .i64 ((id : Nat) : Int) ∧ h' = h3 := fun h3 k3 => by
      rw [← eref]
      exact node_ok (x2.keepN k3) (z2.keep k3 fun _ _ e => e) kf ol (.inl hin) h0 ⟨rfl, rfl⟩
    refine PtrOk_mk ⟨_, x2.m.cN, _, nodeAt h2 (Kept.refl _ _), cb, PtrOk_of hna ?_⟩
    rw [Int.toNat_natCast]
    refine ⟨_, hc0, gg.rs, (hcj 1 (by omega)).trans rfl, gg.ws, (hcj 2 (by omega)).trans rfl, Let_mk fun h3 e3 => ?_⟩
    have w1 : NB2 h2 h2.size _ h3 := e3 ▸ NB2.new h2 _ 69
    have enb : Go.Ev.nb h2 = ad h2.size := rfl
    rw [enb]
    have x3 := x2.keepN w1.k
    obtain ⟨nb3, gg3, hl3, hg3, hna3, cb3, hc03, hcj3, _, _⟩ := x3.m.node ndx.at_
    rw [hl1] at hl3
    obtain rfl := Option.some.inj hl3
    rw [hg] at hg3
    obtain rfl := Option.some.inj hg3
    refine ⟨⟨_, hc03, gg.rs, (hcj3 1 (by omega)).trans rfl, gg.ws, (hcj3 2 (by omega)).trans rfl, rfl⟩, nodeAt h3 w1.k, ⟨_, x3.m.cN, rfl⟩, ?_⟩
    refine w1.st (i := 0) rfl (by show 0 < 3; omega) fun h4 w2 => ?_
    refine w2.st (i := 1) (add_ad _ _) (by show 1 < 3; omega) fun h5 w3 => ?_
    refine w3.st (i := 2) (add_ad _ _) (by show 2 < 3; omega) fun h6 w4 => ?_
    have rowN : Row h6 h2.size [nv (D.s.obj id).kind, slV gg.rs, slV gg.ws] := w4.row
    have est : 1 + D.s.sizes (D.s.gcEnd.copied.take (i + 1)) = 1 + D.s.sizes (D.s.gcEnd.copied.take i) + D.s.size id := by
      rw [RS.take_snoc eid]; unfold RS.sizes; simp; omega
    have hsz : D.s.size id = 1 + (D.s.obj id).refs.length + (D.s.obj id).raws.length := rfl
    have hle : D.s.sizes (D.s.gcEnd.copied.take (i + 1)) ≤ D.s.sizes D.s.gcEnd.copied := by
      unfold RS.sizes
      conv => rhs; rw [← List.take_append_drop (i + 1) D.s.gcEnd.copied, List.map_append, List.sum_append]
      omega
    refine ⟨gg.rs, by rw [add_ad]; exact (cell_row rowN 1).trans rfl, gg.ws, by rw [add_ad]; exact (cell_row rowN 2).trans rfl, D.s.gcEnd.copied.length - (i + 1), by omega, i + 1, hil, rfl, rfl, rfl, ?_, ?_, k2.trans w4.k⟩
    · rw [wrap_i64' (x := (1 : Int) + _) (by omega) (by omega), wrap_i64' (by omega) (by omega), wrap_u64' (x := (1 : Int) + _ + _) (by omega) (by omega), wrap_u64' (by omega) (by omega)]
      omega
    · rw [wrap_i64' (by omega) (by omega)]; rfl
  · have hie : i = D.s.gcEnd.copied.length := by omega
    subst hie
    rw [List.take_length, ← us]
    refine PtrOk_mk ⟨_, x2.m.p, hstats_ok x2.v x2.rp fun h3 k3 => ⟨_, _, _, _, _, _, _, _, _, rfl, Let_mk fun h4 e4 => ?_⟩⟩
    have w0 : NB2 h3 h3.size _ h4 := e4 ▸ NB2.new h3 _ 48
    have enb : Go.Ev.nb h3 = ad h3.size := rfl
    rw [enb]
    refine w0.st (i := 0) rfl (by show 0 < 9; omega) fun h5 w1 => ?_
    refine w1.st (i := 1) (add_ad _ _) (by show 1 < 9; omega) fun h6 w2 => ?_
    refine w2.st (i := 2) (add_ad _ _) (by show 2 < 9; omega) fun h7 w3 => ?_
    refine w3.st (i := 3) (add_ad _ _) (by show 3 < 9; omega) fun h8 w4 => ?_
    refine w4.st (i := 4) (add_ad _ _) (by show 4 < 9; omega) fun h9 w5 => ?_
    refine w5.st (i := 5) (add_ad _ _) (by show 5 < 9; omega) fun h10 w6 => ?_
    refine w6.st (i := 6) (add_ad _ _) (by show 6 < 9; omega) fun h11 w7 => ?_
    refine w7.st (i := 7) (add_ad _ _) (by show 7 < 9; omega) fun h12 w8 => ?_
    refine w8.st (i := 8) (add_ad _ _) (by show 8 < 9; omega) fun h13 w9 => ?_
    have rowS : Row h13 h3.size [.int .i64 (D.s.limit : Nat), .int .i64 (D.s.half : Nat), .int .i64 (D.s.used : Nat), .int .i64 (D.s.large : Nat), .int .i64 (D.s.slotsN : Nat), .int .i64 (D.s.rootsN : Nat), .int .i64 D.s.coll, .int .i64 D.s.resz, .int .i64 (D.s.moved : Nat)] := w9.row
    have x13 := (x2.keepN k3).keepN w9.k
    have z13 := (z2.keep k3 fun _ _ e => e).keep w9.k fun _ _ e => e
    have cz : ∀ j, cell h13 ((ad zb).add j) = [slV ss, slV bs, slV wh, nv (1 + D.s.sizes D.s.gcEnd.copied), nv (D.s.lsum D.s.gcEnd.line)][j]? := fun j => by rw [z13.sep.cellA z13.loc, z13.hd]
    have cR : ∀ j, cell h13 ((ad h3.size).add j) = ([.int .i64 (D.s.limit : Nat), .int .i64 (D.s.half : Nat), .int .i64 (D.s.used : Nat), .int .i64 (D.s.large : Nat), .int .i64 (D.s.slotsN : Nat), .int .i64 (D.s.rootsN : Nat), .int .i64 D.s.coll, .int .i64 D.s.resz, .int .i64 (D.s.moved : Nat)] : List Value)[j]? := fun j => by rw [add_ad]; exact cell_row rowS j
    have eu : IntKind.wrap .i64 ((D.s.used : Nat) : Int) = ((D.s.used : Nat) : Int) := wrap_i64' (by omega) (by omega)
    rw [eu]
    refine ⟨_, (cR 2).trans rfl, Cond_t (beq_self_eq_true _) ⟨_, (cR 2).trans rfl, PtrOk_mk ⟨_, (cz 3).trans rfl, ?_⟩⟩⟩
    rw [← us]
    refine Cond_t (beq_self_eq_true _) ⟨_, (cR 3).trans rfl, PtrOk_mk ⟨_, (cz 4).trans rfl, ?_⟩⟩
    rw [← p.large x.v]
    refine Cond_t (beq_self_eq_true _) ⟨_, (cR 4).trans rfl, PtrOk_mk ⟨bs, (cz 1).trans rfl, ?_⟩⟩
    rw [bsn, ← p.slotsN x.v]
    refine Cond_t (beq_self_eq_true _) (PtrOk_mk ⟨_, x13.m.p, _, (cR 2).trans rfl, himage_ok x13.v x13.rp fun b c' h14 sA fb k14 => ⟨⟨_, _, _⟩, rfl, ⟨_, ?_, rfl⟩, ?_⟩⟩)
    · rw [add_ad]; exact (cell_row (kept_row k14 rowS id) 2).trans rfl
    · rw [beq_self_eq_true]
      exact hR h14 (x13.keepN k14) ((((k1.trans k2).trans k3).trans w9.k).trans k14)
theorem compact_ok {lim : Int} (hs : ReadsO h sl.a (ops.flatMap MvL.cells)) (hsn : sl.n = ops.length) (hok : ∀ o ∈ ops, o.Ok h) {R : Value → Hp → Prop} (hR : ∀ h', Kept N h h' → R (.bool true) h') :
    CallTo Try.prog 5 #[.agg #[.int .i64 lim, .slice sl.a sl.n sl.c]] h R := by
  refine f5F_ok ?_
  unfold f5F
  refine Let_mk fun h1 e1 => ?_
  have k1 : Kept N h h1 := e1 ▸ kept_push _ _ _
  have row1 : Row h1 h.size [.int .i64 lim, .slice sl.a sl.n sl.c] := e1 ▸ row_new h _ 24
  have enb : nb h = ad h.size := rfl
  rw [enb]
  refine wakes_ok fun h2 k2 => ⟨_, rfl, Cond_f rfl ?_⟩
  have row2 := kept_row k2 row1 id
  have k02 := k1.trans k2
  refine ⟨_, (cell_row row2 0).trans rfl, sl, by rw [add_ad]; exact (cell_row row2 1).trans rfl, small_ok (reads_keptN k02 hs) hsn fun h3 bl k3 hbl => ⟨_, rfl, ?_⟩⟩
  have row3 := kept_row k3 row2 id
  have k03 := k02.trans k3
  refine Cond_b (fun _ => hR h3 k03) fun hb => ?_
  have h200 : ops.length ≤ 200 := hbl (by cases bl with | true => rfl | false => cases hb)
  refine ⟨_, (cell_row row3 0).trans rfl, begins_ok2 ⟨_, _, rfl, Cond_t rfl (hR h3 k03)⟩ fun h4 sb D x4 c4 es el fo k4 => ⟨_, _, rfl, Cond_f rfl ?_⟩⟩
  have l4 : Lp h3 h4 sb D 0 := ⟨x4, c4, k4, fo, by rw [es]; exact Nat.le_refl _, by rw [es]; exact Nat.le_refl _⟩
  refine f5L1_rule (fun q s1 s3 s5 h' => ∃ (i : Nat) (D : ShD), i ≤ ops.length ∧ q = ops.length - i ∧ s1 = ad h.size ∧ s3 = some (ad sb) ∧ s5 = (i : Int) ∧ Lp h3 h' sb D i) ops.length ⟨0, D, Nat.zero_le _, rfl, rfl, rfl, rfl, l4⟩ ?_
  clear l4 c4 x4 es el fo
  rintro q s1 s3 s5 g h5 ⟨i, D, hi, rfl, rfl, rfl, rfl, l5⟩
  unfold f5L1
  have row5 := kept_row l5.kp row3 id
  have k05 := k03.trans l5.kp
  have hol := l5.ol
  have hrl := l5.rl
  have cS : cell h5 ((ad h.size).add 1) = some (.slice sl.a sl.n sl.c) := by rw [add_ad]; exact (cell_row row5 1).trans rfl
  refine ⟨sl, cS, Cond_dec (fun hlt => ?_) fun _ => ?_⟩
  · have hil : i < ops.length := by omega
    obtain ⟨o, eo⟩ : ∃ o, ops[i]? = some o := ⟨_, List.getElem?_eq_getElem hil⟩
    have ko := (hok o (List.mem_of_getElem? eo)).keep k05 fun _ _ _ => id
    obtain ⟨p, hp, rd0, rd⟩ := mv_read (reads_keptN k05 hs) eo
    have kf : ∀ p, o.d.a = some p → o.bytes ≠ [] → ¬ D.foot p.block := fun p hp hn e => by
      have h1 := (hok o (List.mem_of_getElem? eo)).old p hp hn
      have h2 := l5.nw _ e
      have h3 := k03.1
      omega
    refine ⟨sl, cS, ⟨by omega, hlt⟩, PtrOk_of hp ?_⟩
    rw [Int.toNat_natCast]
    refine ⟨_, rd0, _, rd 1 _ rfl, _, rd 2 _ rfl, _, rd 3 _ rfl, _, rd 4 _ rfl, _, rd 5 _ rfl, _, rd 6 _ rfl, o.d, rd 7 _ rfl, ?_⟩
    refine step_ok l5.x l5.c ko kf (by omega) (by omega) fun h6 D6 x6 c6 s6 _ a6 b6 sp => ⟨_, rfl, Cond_f rfl ?_⟩
    have l6 := l5.step x6 c6 s6 a6 b6
    have row6 := kept_row l6.kp row3 id
    obtain ⟨p', hp', rd0', rd'⟩ := mv_read (reads_keptN (k03.trans l6.kp) hs) eo
    have nxt : ∀ h', Lp h3 h' sb D6 (i + 1) → f5K1 (fun q s1 s3 s5 h' => ∃ (i : Nat) (D : ShD), i ≤ ops.length ∧ q = ops.length - i ∧ s1 = ad h.size ∧ s3 = some (ad sb) ∧ s5 = (i : Int) ∧ Lp h3 h' sb D i) (ops.length - i) (ad h.size) (some (ad sb)) (i : Int) false h' R := fun h' l => by
      unfold f5K1
      exact Cond_f rfl ⟨ops.length - (i + 1), by omega, i + 1, D6, hil, rfl, rfl, rfl, by rw [wrap_i64' (by omega) (by omega)]; rfl, l⟩
    refine ⟨sl, by rw [add_ad]; exact (cell_row row6 1).trans rfl, ⟨by omega, hlt⟩, PtrOk_of hp' ?_⟩
    refine ⟨_, rd0', Cond_b (fun h8 => ?_) fun h8 => Cond_b (fun h9 => ?_) fun _ => nxt _ l6⟩
    · have h8 : o.dw = 8 := by simpa using h8
      have e6 : D6.s = D.s.collect := sp.cl h8
      exact packed_ok x6 c6 (by have := l6.ol; omega) (by rw [e6]; exact RS.collect_packed l5.x.v) fun h7 x7 k7 => ⟨_, rfl, nxt _ (l6.keepN k7)⟩
    · have h9 : o.dw = 9 := by simpa using h9
      obtain ⟨e6, e7⟩ := sp.rz h9
      refine PtrOk_mk ⟨_, x6.m.cLast, Cond_b (fun hz => ?_) fun _ => nxt _ l6⟩
      have hz : D6.y.last = 0 := by simpa using hz
      exact packed_ok x6 c6 (by have := l6.ol; omega) (by rw [e6]; exact RS.resize_packed l5.x.v (e7.symm.trans hz)) fun h7 x7 k7 => ⟨_, rfl, nxt _ (l6.keepN k7)⟩
  · refine PtrOk_mk ⟨_, l5.x.m.p, l5.x.collects l5.c fun h6 D6 x6 c6 s6 e6 ey => ⟨rfl, ?_⟩⟩
    have sub := RS.Sub.collect l5.x.v
    refine packed_ok x6 c6 (by rw [e6, sub.len]; omega) (by rw [e6]; exact RS.collect_packed l5.x.v) fun h7 x7 k7 => ⟨_, rfl, hR h7 ?_⟩
    refine k03.trans ⟨Nat.le_trans (Nat.le_trans l5.kp.1 s6.1.1) k7.1, fun b hb _ => ?_⟩
    have hb5 := Nat.lt_of_lt_of_le hb l5.kp.1
    exact ((k7.2 b (Nat.lt_of_lt_of_le hb5 s6.1.1) id).trans (s6.1.2 b hb5 fun hf => by have := l5.nw b hf; omega)).trans (l5.kp.2 b hb id)
end
end Go.Ev
