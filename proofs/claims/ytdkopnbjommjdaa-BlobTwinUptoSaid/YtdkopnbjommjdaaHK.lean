/- (*Heap).collect is the document's collection. No condition but that the heap is one. -/
import Derived.Test.YtdkopnbjommjdaaHJ
set_option linter.all false
set_option maxRecDepth 100000
namespace Go.Ev
open Go.Proofs
namespace RS
theorem reachL_withB (s : RS) (ids : List Nat) (g : Gc) (n : Nat) : s.reachL { g with b := n } ids = { s.reachL g ids with b := n } := by
  have h := s.reachL_with ids g g.a n
  have e : ({ s.reachL g ids with a := g.a, b := n } : Gc) = { s.reachL g ids with b := n } := by rw [← (s.reachL_ab ids g).1]
  exact h.trans e
end RS
section
variable {h : Hp} {hb : Nat} {role : Nat → Role} {m : MH} {G : Geo} {s : RS}
theorem HRep.loc_some (r : HRep h hb role m G) {i : Nat} {o : AObj} (ho : m.blocks[i]? = some (some o)) : ∃ L, G.locs[i]? = some (some L) := by
  have hi := (List.getElem?_eq_some_iff.1 ho).1
  have hl := r.ll
  have hx : G.locs[i]? = some G.locs[i] := List.getElem?_eq_getElem (by omega)
  have hb := r.bl i _ _ ho hx
  cases hL : G.locs[i] with
  | none => rw [hL] at hb; exact hb.elim
  | some L => rw [hL] at hx; exact ⟨L, hx⟩
theorem HRep.popG (r : HRep h hb role m G) {x : Nat} {l : List Nat} (hg : m.grey = x :: l) {K : Hp → Prop} (hK : ∀ h' G', HRep h' hb role { m with grey := l } G' → Ext h role h' role → K h') :
    Go.Ev.stOk h ((ad hb).add 5) ∧ Let (setc h ((ad hb).add 5) (.slice (if G.gs.c = (1 : Int).toNat then G.gs.a else Option.map (fun x => x.add ((1 : Int).toNat * 1)) G.gs.a) (G.gs.n - (1 : Int).toNat) (G.gs.c - (1 : Int).toNat))) fun h' => K h' := by
  obtain ⟨r1, x1⟩ := r.popGrey hg
  rw [add_ad]
  exact ⟨r.stOk (by omega), hK _ _ r1 x1⟩
theorem Rest.grey (m : MH) (l : List Nat) : Rest m { m with grey := l } := ⟨rfl, rfl, rfl, rfl, rfl, rfl, rfl, rfl, rfl, rfl, rfl⟩
abbrev L43a (R : Value → Hp → Prop) (hb : Nat) (n : Int) (h : Hp) : Prop := LoopEv (evC Try.prog tab lv54 (sub [1, 0, 1, 0, 0] body54)) (contAt Try.prog tab lv54 [1, 0, 1, 0] body54 [] (bodyK Try.prog Try.f54 [] R)) [(0, .pointer (some (ad hb))), (15, .int .i64 n), (16, .int .i64 0)] 192 h
abbrev L43b (R : Value → Hp → Prop) (hb : Nat) (h : Hp) : Prop := LoopEv (evC Try.prog tab lv54 (sub [1, 1, 1, 0, 0, 0] body54)) (contAt Try.prog tab lv54 [1, 1, 1, 0, 0] body54 [] (bodyK Try.prog Try.f54 [] R)) [(0, .pointer (some (ad hb))), (3, .int .i64 1)] 192 h
abbrev L43c (R : Value → Hp → Prop) (hb : Nat) (n : Int) (h : Hp) : Prop := LoopEv (evC Try.prog tab lv54 (sub [1, 1, 1, 1, 1, 1, 0, 1, 0, 0] body54)) (contAt Try.prog tab lv54 [1, 1, 1, 1, 1, 1, 0, 1, 0] body54 [] (bodyK Try.prog Try.f54 [] R)) [(0, .pointer (some (ad hb))), (122, .int .i64 n), (123, .int .i64 0)] 192 h
/-- The handles. -/
theorem collect_roots (v : s.Inv) (rp : HRep h hb role (s.words []) G) {R : Value → Hp → Prop}
    (hR : ∀ h' role' G' m', HRep h' hb role' m' G' → Ext h role h' role' → RS.CRep s s.gc0 (fun _ => 0) m' → Rest { s.words [] with roots := s.rootsAt s.gc0 s.roots.length } m' → L43b R hb h') :
    L43a R hb (s.roots.length : Nat) h := by
  have hrl := v.rl
  refine f54L1_rule (fun q s0 s15 s16 h' => ∃ (i : Nat) (role' : Nat → Role) (G' : Geo) (m' : MH), i ≤ s.roots.length ∧ q = s.roots.length - i ∧ s0 = some (ad hb) ∧ s15 = ((s.roots.length : Nat) : Int) ∧ s16 = (i : Int) ∧ HRep h' hb role' m' G' ∧ Ext h role h' role' ∧
    RS.CRep s (s.gR i) (fun _ => 0) m' ∧ Rest { s.words [] with roots := s.rootsAt (s.gR i) i } m') s.roots.length
    ⟨0, role, G, s.words [], Nat.zero_le _, rfl, rfl, rfl, rfl, rp, Ext.refl h role, RS.CRep.begin s, ⟨rfl, rfl, rfl, rfl, rfl, rfl, by simp [RS.rootsAt, RS.words], rfl, rfl, rfl, rfl⟩⟩ ?_
  rintro q s0 s15 s16 g h1 ⟨i, role1, G1, m1, hi, rfl, rfl, rfl, rfl, rp1, x1, c1, e1⟩
  unfold f54L1
  have hn := rp1.ts_n
  have hml : m1.roots.length = s.roots.length := by
    rw [e1.roots]
    show (s.rootsAt (s.gR i) i).length = _
    simp [RS.rootsAt]; omega
  have c9 : cell h1 ((ad hb).add 9) = some (.slice G1.ts.a G1.ts.n G1.ts.c) := (rp1.c 9).trans rfl
  refine Cond_dec (fun hlt => ?_) fun hge => ?_
  · have hlt : i < s.roots.length := by omega
    obtain ⟨x, hx⟩ : ∃ x, s.roots[i]? = some x := ⟨_, List.getElem?_eq_getElem hlt⟩
    have hxr : m1.roots[i]? = some (s.rootW x) := by rw [e1.roots]; exact RS.rootsAt_get hx
    obtain ⟨b, ha, k1, k2, _, _⟩ := rp1.root_at hxr
    have cb : (0 : Int) ≤ (i : Int) ∧ (i : Int) < ((G1.ts.n : Nat) : Int) := by omega
    refine PtrOk_mk ⟨G1.ts, c9, cb, PtrOk_of ha ⟨(s.rootW x).1, by rw [Int.toNat_natCast]; exact k1, ?_⟩⟩
    cases x with
    | none =>
      refine Cond_f rfl ?_
      unfold f54K1
      have e4 : s.rootsAt (s.gR i) (i + 1) = s.rootsAt (s.gR i) i := (RS.rootsAt_succ hx).trans (RS.set_same (RS.rootsAt_get hx))
      refine ⟨s.roots.length - (i + 1), by omega, i + 1, role1, G1, m1, hlt, rfl, rfl, rfl, by rw [wrap_i64' (by omega) (by omega)]; rfl, rp1, x1, by rw [RS.gR_none hx]; exact c1, ?_⟩
      rw [RS.gR_none hx, e4]; exact e1
    | some id =>
      have k2 : cell h1 (((ad b).add (i * 2)).add 1) = some (uv (s.ref id)) := k2
      refine Cond_t rfl (PtrOk_mk ⟨G1.ts, c9, PtrOk_mk ⟨G1.ts, c9, cb, PtrOk_of ha ⟨((s.ref id : Nat) : Int), by rw [Int.toNat_natCast]; exact k2, ?_⟩⟩⟩)
      have hid : id = 0 ∨ s.here id := v.rt id (List.mem_of_getElem? hx)
      have kg := RS.gR_ok v i
      obtain ⟨q1, q2⟩ := c1.reachAny v kg hid
      refine hmoved_all (r := s.ref id) rp1 (c1.moveOk v kg hid) fun h2 role2 G2 rp2 hh2 x2 => ⟨(((mMoved m1 (s.ref id)).2 : Nat) : Int), rfl, ?_⟩
      have ets : G2.ts = G1.ts := hh2.2.2.2.1
      have c9' : cell h2 ((ad hb).add 9) = some (.slice G1.ts.a G1.ts.n G1.ts.c) := (rp2.c 9).trans (by show some (slV G2.ts) = _; rw [ets]; rfl)
      refine ⟨⟨G1.ts, c9', rfl⟩, cb, PtrOk_of ha ?_⟩
      have er : (mMoved m1 (s.ref id)).1.roots = s.rootsAt (s.gR i) i := (mMoved_rest _ _).roots.trans e1.roots
      have hxr2 : (mMoved m1 (s.ref id)).1.roots[i]? = some (s.rootW (some id)) := by rw [er]; exact RS.rootsAt_get hx
      obtain ⟨b', ha', st, rp3, x3⟩ := rp2.setRoot hxr2 (s.newRef (s.reach (s.gR i) id) id)
      rw [ets, ha] at ha'
      obtain rfl : b = b' := by simpa [ad] using ha'
      rw [Int.toNat_natCast, q1]
      refine ⟨st, ?_⟩
      unfold f54K1
      refine ⟨s.roots.length - (i + 1), by omega, i + 1, role2, G2, _, hlt, rfl, rfl, rfl, by rw [wrap_i64' (by omega) (by omega)]; rfl, rp3, (x1.trans x2).trans x3, ?_, ?_⟩
      · rw [RS.gR_some hx]; exact q2.roots _
      · have e2 := (e1.trans (⟨rfl, rfl, rfl, rfl, rfl, rfl, rfl, rfl, rfl, rfl, rfl⟩ : Rest m1 m1)).trans (mMoved_rest m1 (s.ref id))
        have e2 := e2.setRoots ((s.rootsAt (s.gR i) i).set i (s.rootN (s.reach (s.gR i) id) (some id)))
        have e4 : s.rootsAt (s.gR (i + 1)) (i + 1) = (s.rootsAt (s.gR i) i).set i (s.rootN (s.reach (s.gR i) id) (some id)) := by
          rw [RS.rootsAt_succ hx, RS.gR_some hx]
          congr 1
          exact RS.rootsAt_congr fun id' h' => RS.newRef_pre v (s.reach_pre _ _).1 (RS.gR_in h') kg.ln
        rw [er, e4]
        exact e2
  · have : i = s.roots.length := by omega
    subst this
    rw [RS.gR_len] at c1 e1
    exact hR h1 role1 G1 m1 rp1 x1 c1 e1
/-- The walk. -/
theorem collect_scan (v : s.Inv) (rp : HRep h hb role m G) (c : RS.CRep s s.gc0 (fun _ => 0) m) {R : Value → Hp → Prop}
    (hR : ∀ h' role' G' m', HRep h' hb role' m' G' → Ext h role h' role' → RS.CRep s s.gcEnd (s.dnOf s.gcEnd) m' → Rest m m' → ∀ J2 n2 x3, f54K2 J2 n2 (some (ad hb)) x3 false h' R) : L43b R hb h := by
  have h0ab := s.gc0_ab
  have hd0 : s.dnOf (s.gcAt 0) = fun _ => 0 := by
    funext x
    show (if x ∈ s.gc0.copied.take s.gc0.a ∨ x ∈ s.gc0.line.take s.gc0.b then _ else 0) = 0
    rw [h0ab.1, h0ab.2]
    simp
  refine f54L2_rule (fun q s0 s3 h' => ∃ (n : Nat) (role' : Nat → Role) (G' : Geo) (m' : MH), q = (s.small.length + s.slots.length) - n ∧ s0 = some (ad hb) ∧ s3 = ((1 + s.sizes ((s.gcAt n).copied.take (s.gcAt n).a) : Nat) : Int) ∧ HRep h' hb role' m' G' ∧ Ext h role h' role' ∧
    RS.CRep s (s.gcAt n) (s.dnOf (s.gcAt n)) m' ∧ Rest m m' ∧ (s.gcAt n).a + (s.gcAt n).b = n) (s.small.length + s.slots.length)
    ⟨0, role, G, m, rfl, rfl, ?_, rp, Ext.refl h role, by rw [hd0]; exact c, Rest.refl m, ?_⟩ ?_
  · show (1 : Int) = ((1 + s.sizes (s.gc0.copied.take s.gc0.a) : Nat) : Int)
    rw [h0ab.1]; rfl
  · show s.gc0.a + s.gc0.b = 0; omega
  rintro q s0 s3 g h1 ⟨n, role1, G1, m1, rfl, rfl, rfl, rp1, x1, c1, e1, hn⟩
  have k := RS.GcOk.at v n
  have eg : s.gcAt (n + 1) = s.gcStep (s.gcAt n) := rfl
  generalize hgn : s.gcAt n = gn at *
  have hl2 := k.len2
  have ka := k.a
  have kb := k.b
  have hsz := RS.sizes_le (s := s) gn.copied s.small (List.nodup_append.1 k.nd).1 k.cp
  have i1 := v.u1
  have i2 := v.u2
  have i3 := v.h2
  have i4 := v.l2
  unfold f54L2
  have c2 : cell h1 ((ad hb).add 2) = some (.pointer (some (ad G1.Ls.pb))) := (rp1.c 2).trans rfl
  have c5 : cell h1 ((ad hb).add 5) = some (.slice G1.gs.a G1.gs.n G1.gs.c) := (rp1.c 5).trans rfl
  obtain ⟨wcs, fcs, fss, ra⟩ := rp1.spare
  have hu : Go.Ev.used m1.spare = 1 + s.sizes gn.copied := c1.used_spare
  refine PtrOk_mk ⟨_, c2, aused_ok ra ⟨_, rfl, ?_⟩⟩
  refine Cond_dec (fun hlt => ?_) fun hge => ?_
  · unfold f54K2
    refine Cond_t rfl (PtrOk_mk ⟨_, c2, aused_ok ra ⟨_, rfl, Cond_t (decide_eq_true hlt) (PtrOk_mk ⟨_, c2, ?_⟩)⟩⟩)
    have hal : gn.a < gn.copied.length := by
      rcases Nat.lt_or_ge gn.a gn.copied.length with hl | hl
      · exact hl
      · rw [List.take_of_length_le hl] at hlt; omega
    obtain ⟨id, hid⟩ : ∃ id, gn.copied[gn.a]? = some id := ⟨_, List.getElem?_eq_getElem hal⟩
    obtain ⟨d1, d2⟩ := RS.dnOf_small v k hid
    have hh : s.here id := k.here (.inl (List.mem_of_getElem? hid))
    have lk := RS.mLook_ok v c1 k (t := .sp gn.a) hid hh d1
    obtain ⟨c3, k3, _⟩ := RS.mLook_rep v c1 k (t := .sp gn.a) hid hh d1 _ (Nat.le_refl _)
    rw [List.take_length] at c3
    have hpa := c1.posA gn.a
    refine look_ok rp1 lk (RS.enc_ok v hh) (by show some (G1.Ls.pb, ((pos m1.spare gn.a : Nat) : Int)) = some (G1.Ls.pb, _); rw [hpa]) fun h2 role2 G2 rp2 hh2 x2 => ⟨_, rfl, ?_⟩
    have el : (s.enc id).refs.length = (s.obj id).refs.length := List.length_map ..
    rw [el] at rp2
    have hst : (1 + s.sizes (gn.copied.take gn.a)) + s.size id = 1 + s.sizes (gn.copied.take (gn.a + 1)) := by rw [RS.take_snoc hid, RS.sizes_snoc]; omega
    have hle := s.sizes_take gn.copied (gn.a + 1)
    rw [RS.gcStep_small hid] at eg
    refine ⟨s.small.length + s.slots.length - (n + 1), by omega, n + 1, role2, G2, _, rfl, rfl, ?_, rp2, x1.trans x2, ?_, e1.trans (mLook_rest _ _ _), ?_⟩
    · rw [eg, s.enc_size id, wrap_ar (by omega) (by omega)]
      show _ = ((1 + s.sizes ((s.reachL gn (s.obj id).refs).copied.take (gn.a + 1)) : Nat) : Int)
      rw [RS.take_pre (s.reachL_pre _ _).1 (by omega)]
      omega
    · rw [eg, d2]; exact c3.withA _
    · rw [eg]
      show gn.a + 1 + (s.reachL gn (s.obj id).refs).b = n + 1
      rw [(s.reachL_ab _ _).2]; omega
  · have hal : gn.a = gn.copied.length := by
      rcases Nat.lt_or_ge gn.a gn.copied.length with hl | hl
      · have h1 := RS.sizes_snoc s (gn.copied.take gn.a) gn.copied[gn.a]
        have h2 := s.sizes_take gn.copied (gn.a + 1)
        rw [RS.take_snoc (List.getElem?_eq_getElem hl), h1] at h2
        have : 1 ≤ s.size gn.copied[gn.a] := by unfold RS.size RObj.size; omega
        omega
      · omega
    have hg := c1.grey
    have hgn' := rp1.gs_n
    rw [hg, List.length_map, List.length_drop] at hgn'
    refine PtrOk_mk ⟨G1.gs, c5, ?_⟩
    by_cases hz : (0 : Int) < ((G1.gs.n : Nat) : Int)
    · rw [show decide (((G1.gs.n : Nat) : Int) > (0 : Int)) = true from decide_eq_true hz]
      have hbl : gn.b < gn.line.length := by omega
      have hid : gn.line[gn.b]? = some gn.line[gn.b] := List.getElem?_eq_getElem hbl
      have hgr : m1.grey = (s.obj gn.line[gn.b]).pl :: (gn.line.drop (gn.b + 1)).map fun id => (s.obj id).pl := by rw [hg, List.drop_eq_getElem_cons hbl]; rfl
      generalize gn.line[gn.b] = id at hid hgr
      unfold f54K2
      refine Cond_t rfl (PtrOk_mk ⟨_, c2, aused_ok ra ⟨_, rfl, Cond_f (decide_eq_false hge) (PtrOk_mk ⟨G1.gs, c5, ⟨by omega, hz⟩, ?_⟩)⟩⟩)
      have gs := rp1.gs
      rw [hgr] at gs
      obtain ⟨p, hp, hc⟩ := gs.at (i := 0) (v := nv (s.obj id).pl) rfl
      refine PtrOk_of hp ⟨_, hc, PtrOk_mk ⟨G1.gs, c5, ⟨by omega, by omega⟩, PtrOk_mk ?_⟩⟩
      refine rp1.popG hgr fun h2 G2 rp2 x2 => ?_
      obtain ⟨d1, d2⟩ := RS.dnOf_big v k hid
      have hm := List.mem_of_getElem? hid
      have hh : s.here id := k.here (.inr hm)
      have c3 := c1.pop rfl
      have k3 := k.withB (n := gn.b + 1) hbl
      have tg : RS.IsTgt s { gn with b := gn.b + 1 } id (.sl (s.obj id).pl) := ⟨hm, rfl⟩
      have lk := RS.mLook_ok v c3 k3 tg hh d1
      obtain ⟨c4, k4, _⟩ := RS.mLook_rep v c3 k3 tg hh d1 _ (Nat.le_refl _)
      rw [List.take_length, RS.reachL_withB] at c4
      have hat := tg.at v c3 k3
      obtain ⟨o, ho⟩ : ∃ o, m1.blocks[(s.obj id).pl]? = some (some o) := by
        have hat : (m1.blocks[(s.obj id).pl]?).bind (fun x => x) = some _ := hat
        cases hx : m1.blocks[(s.obj id).pl]? with
        | none => rw [hx] at hat; cases hat
        | some y => rw [hx] at hat; exact ⟨_, congrArg some hat⟩
      obtain ⟨L, hL⟩ := rp2.loc_some (i := (s.obj id).pl) ho
      have hbn := rp2.bs_n
      have hbn : G2.bs.n = m1.blocks.length := hbn
      have hpl := (List.getElem?_eq_some_iff.1 ho).1
      obtain ⟨bb, hba, hbc⟩ := rp2.slot_at hL
      have c3' : cell h2 ((ad hb).add 3) = some (.slice G2.bs.a G2.bs.n G2.bs.c) := (rp2.c 3).trans rfl
      refine PtrOk_mk ⟨G2.bs, c3', ⟨by omega, by omega⟩, PtrOk_of hba ⟨some (ad L.pb), by rw [Int.toNat_natCast]; exact hbc, ?_⟩⟩
      refine look_ok rp2 lk (RS.enc_ok v hh) (by show (match G2.locs[(s.obj id).pl]? with | some (some L) => some (L.pb, (1 : Int)) | _ => none) = some (L.pb, 1); rw [hL]) fun h3 role3 G3 rp3 hh3 x3 => ⟨_, rfl, ?_⟩
      have el : (s.enc id).refs.length = (s.obj id).refs.length := List.length_map ..
      rw [el] at rp3
      rw [RS.gcStep_big (by rw [hal]; exact List.getElem?_eq_none (Nat.le_refl _)) hid] at eg
      refine ⟨s.small.length + s.slots.length - (n + 1), by omega, n + 1, role3, G3, _, rfl, rfl, ?_, rp3, (x1.trans x2).trans x3, ?_, (e1.trans (Rest.grey m1 _)).trans (mLook_rest _ _ _), ?_⟩
      · rw [eg]
        show _ = ((1 + s.sizes ((s.reachL gn (s.obj id).refs).copied.take (s.reachL gn (s.obj id).refs).a) : Nat) : Int)
        rw [(s.reachL_ab _ _).1, RS.take_pre (s.reachL_pre _ _).1 ka]
      · rw [eg, d2]; exact c4
      · rw [eg]
        show (s.reachL gn (s.obj id).refs).a + (gn.b + 1) = n + 1
        rw [(s.reachL_ab _ _).1]; omega
    · rw [show decide (((G1.gs.n : Nat) : Int) > (0 : Int)) = false from decide_eq_false hz]
      have f : RS.Fin (s.gcAt n) := by rw [hgn]; exact ⟨hal, by omega⟩
      have ee := RS.gcEnd_eq v f (by rw [hgn]; omega)
      rw [hgn] at ee
      exact hR h1 role1 G1 m1 rp1 x1 (by rw [ee]; exact c1) e1 _ _ _
end
end Go.Ev
