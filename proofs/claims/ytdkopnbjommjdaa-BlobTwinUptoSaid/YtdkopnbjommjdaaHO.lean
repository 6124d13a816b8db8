/- want, become, fit, Collect, Resize: as the document's heap. No condition but that the heap is one. -/
import Derived.Test.YtdkopnbjommjdaaHN
set_option linter.all false
set_option maxRecDepth 100000
namespace Go.Ev
open Go.Proofs
/-! ### want -/
def wantN (u n : Nat) : Nat := if 3 * n < 4 * u ∧ 0 < n then wantN u (2 * n) else n
termination_by 4 * u - n
decreasing_by omega
def want (u : Nat) : Nat := wantN u 64
theorem wantN_up {u n : Nat} (h : 3 * n < 4 * u) (h0 : 0 < n) : wantN u n = wantN u (2 * n) := by rw [wantN]; rw [if_pos ⟨h, h0⟩]
theorem wantN_end {u n : Nat} (h : 4 * u ≤ 3 * n) : wantN u n = n := by rw [wantN]; rw [if_neg (fun c => by omega)]
theorem wantN_facts (u : Nat) : ∀ k n, 0 < n → 4 * u - n ≤ k → n ≤ wantN u n ∧ 4 * u ≤ 3 * wantN u n ∧ (wantN u n = n ∨ 3 * wantN u n < 8 * u) := by
  intro k
  induction k with
  | zero => intro n h0 h; rw [wantN_end (by omega)]; exact ⟨Nat.le_refl _, by omega, .inl rfl⟩
  | succ k ih =>
    intro n h0 h
    by_cases hc : 3 * n < 4 * u
    · rw [wantN_up hc h0]
      obtain ⟨h1, h2, h3⟩ := ih (2 * n) (by omega) (by omega)
      refine ⟨by omega, h2, .inr ?_⟩
      rcases h3 with h3 | h3
      · rw [h3]; omega
      · exact h3
    · rw [wantN_end (by omega)]; exact ⟨Nat.le_refl _, by omega, .inl rfl⟩
theorem want_facts (u : Nat) : 64 ≤ want u ∧ 4 * u ≤ 3 * want u ∧ (want u = 64 ∨ 3 * want u < 8 * u) := wantN_facts u _ 64 (by omega) (Nat.le_refl _)
theorem want_ok {u : Nat} (hu : u < 100000000) {h : Hp} {R : Value → Hp → Prop} (hR : R (.int .i64 (want u : Nat)) h) : CallTo Try.prog 65 #[.int .i64 (u : Nat)] h R := by
  refine f65F_ok ?_
  unfold f65F
  refine f65L1_rule (fun q s0 s3 h' => ∃ n : Nat, q = 4 * u - n ∧ s0 = (u : Int) ∧ s3 = (n : Int) ∧ 0 < n ∧ n < 1000000000 ∧ wantN u n = want u ∧ h' = h) (4 * u - 64) ⟨64, rfl, rfl, rfl, by omega, by omega, rfl, rfl⟩ ?_
  rintro q s0 s3 g h' ⟨n, rfl, rfl, rfl, h0, h1, h2, rfl⟩
  unfold f65L1
  rw [wrap_i64' (x := (4 : Int) * u) (by omega) (by omega), wrap_i64' (x := (3 : Int) * n) (by omega) (by omega)]
  refine Cond_dec (fun hlt => ?_) fun hge => ?_
  · rw [wrap_i64' (by omega) (by omega)]
    exact ⟨4 * u - 2 * n, by omega, 2 * n, rfl, rfl, by omega, by omega, by omega, by rw [← h2, wantN_up (by omega) h0], rfl⟩
  · rw [← h2, wantN_end (by omega)] at hR
    exact hR
/-! ### become, fit -/
namespace RS
def become (s : RS) (n : Nat) : RS := if n = s.half then s else { s with half := n, resz := IntKind.wrap .i64 (s.resz + 1) }
def fit (s : RS) (k : Nat) : RS :=
  if 3 * s.half < 4 * (s.used + k) then (if s.half < min (want (s.used + k)) ((s.limit - s.large) / 2) then s.become (min (want (s.used + k)) ((s.limit - s.large) / 2)) else s)
  else if 64 < s.half ∧ 8 * (s.used + k) < s.half then s.become (want (s.used + k)) else s
def collect (s : RS) : RS := s.collection.fit 0
theorem Inv.renum {s t : RS} (v : s.Inv) (e1 : t.objs = s.objs) (e2 : t.small = s.small) (e3 : t.slots = s.slots) (e4 : t.roots = s.roots) (e5 : t.limit = s.limit) (e6 : t.used = s.used) (e7 : t.large = s.large) (e8 : t.since = s.since) (e9 : t.kept = s.kept)
    (h1 : 64 ≤ t.half) (h2 : 2 * t.half + t.large ≤ t.limit) (h3 : t.used ≤ t.half) : t.Inv := by
  have eo : ∀ id, t.obj id = s.obj id := fun id => by unfold obj; rw [e1]
  have es : ∀ id, t.size id = s.size id := fun id => by unfold size; rw [eo]
  have eh : ∀ id, t.here id ↔ s.here id := fun id => by unfold here; rw [e2, e3]
  refine ⟨by rw [e5]; exact v.l1, by rw [e5]; exact v.l2, h1, h2, ?_, h3, ?_, by rw [e3]; exact v.sll, by rw [e4]; exact v.rl, by rw [e2]; exact v.nds, ?_, ?_, ?_, ?_, ?_, by rw [e1]; exact v.ob, by rw [e9]; exact v.kp, by rw [e8]; exact v.sn⟩
  · rw [e6, e2, sizes_congr fun x _ => es x]; exact v.u1
  · rw [e7, e3, v.lg]
    congr 1
    exact List.map_congr_left fun x _ => by rw [es]
  · intro id hid
    rw [e2] at hid
    rw [e1, eo, es, e2, placeIn_congr _ _ _ fun x _ => es x]
    exact v.sm id hid
  · intro i id hi h0
    rw [e3] at hi
    rw [e1, eo, es]
    exact v.sl i id hi h0
  · intro id hid r hr
    rw [eo] at hr
    rw [eh] at hid ⊢
    exact v.rf id hid r hr
  · intro id hid
    rw [e4] at hid
    rw [eh]
    exact v.rt id hid
  · intro id hid
    rw [eh] at hid
    rw [eo]
    exact v.shp id hid
theorem Inv.become {s : RS} (v : s.Inv) {n : Nat} (h1 : 64 ≤ n) (h2 : 2 * n + s.large ≤ s.limit) (h3 : s.used ≤ n) : (s.become n).Inv := by
  unfold RS.become
  split
  · exact v
  · exact v.renum rfl rfl rfl rfl rfl rfl rfl rfl rfl h1 h2 h3
theorem Inv.fit {s : RS} (v : s.Inv) {k : Nat} : (s.fit k).Inv := by
  have h1 := v.h1; have h2 := v.h2; have h3 := v.u2
  obtain ⟨w1, w2, w3⟩ := want_facts (s.used + k)
  unfold RS.fit
  split
  · split
    · exact v.become (by omega) (by omega) (by omega)
    · exact v
  · split
    · exact v.become (by omega) (by omega) (by omega)
    · exact v
theorem Inv.collect {s : RS} (v : s.Inv) : s.collect.Inv := v.collection.fit
end RS
section
variable {h : Hp} {hb : Nat} {role : Nat → Role} {m : MH} {G : Geo} {s : RS} {sp : List AObj}
theorem drop_modify_succ {α : Type} (l : List α) (i : Nat) (f : α → α) : (l.modify i f).drop (i + 1) = l.drop (i + 1) := by
  apply List.ext_getElem?
  intro j
  rw [List.getElem?_drop, List.getElem?_drop, List.getElem?_modify]
  cases l[i + 1 + j]? with
  | none => rfl
  | some x =>
    show some (if i = i + 1 + j then f x else x) = some x
    rw [if_neg (by omega)]
theorem sizes_modify {os : List AObj} {i : Nat} {f : AObj → AObj} (hf : ∀ o, (f o).size = o.size) : (os.modify i f).map AObj.size = os.map AObj.size := by
  apply List.ext_getElem?
  intro j
  rw [List.getElem?_map, List.getElem?_map, List.getElem?_modify]
  cases os[j]? with
  | none => rfl
  | some o => by_cases h : i = j <;> simp [h, hf]
theorem pos_sizes {os : List AObj} (hm : os.map AObj.size = s.small.map s.size) (k : Nat) : pos os k = 1 + s.sizes (s.small.take k) := by
  unfold pos RS.sizes
  rw [used_eq, List.map_take, hm, ← List.map_take]
theorem used_sizes {os : List AObj} (hm : os.map AObj.size = s.small.map s.size) : Go.Ev.used os = 1 + s.sizes s.small := by
  unfold RS.sizes
  rw [used_eq, hm]
theorem fwd_size (o : AObj) (t : Option Nat) : ({ o with fwd := t } : AObj).size = o.size := rfl
/-- The struct's cells while the halves are made anew. -/
def becells (m : MH) (G : Geo) (Ln : ArLoc) : List Value := ((hcells m G).set 2 (.pointer none)).set 1 (.pointer (some (ad Ln.pb)))
theorem become_ok (v : s.Inv) (rp : HRep h hb role (s.words sp) G) {n : Nat} (hn1 : 1 ≤ n) (hn2 : n ≤ 1048576) (hn3 : s.used ≤ n) {R : Value → Hp → Prop}
    (hR : ∀ h' role' G' sp', HRep h' hb role' ((s.become n).words sp') G' → ExtO h role h' role' → R (.tuple #[]) h') : CallTo Try.prog 61 #[.pointer (some (ad hb)), .int .i64 (n : Nat)] h R := by
  have i1 := v.u1
  have i2 := v.u2
  have i3 := v.h2
  have i4 := v.l2
  refine f61F_ok ?_
  unfold f61F
  have c1 : cell h ((ad hb).add 1) = some (.pointer (some (ad G.Lh.pb))) := (rp.c 1).trans rfl
  obtain ⟨wch, fch, fsh, ra⟩ := rp.half
  refine PtrOk_mk ⟨_, c1, asize_ok ra ⟨_, rfl, ?_⟩⟩
  have hz : (s.words sp).hz = s.half := rfl
  rw [hz]
  by_cases hne : n = s.half
  · refine Cond_t (by rw [hne]; simp) ?_
    have e : s.become n = s := by unfold RS.become; rw [if_pos hne]
    rw [e] at hR
    exact hR h role G sp rp (ExtO.refl h role)
  refine Cond_f (by simp; omega) (PtrOk_mk ⟨_, c1, PtrOk_mk ?_⟩)
  rw [add_ad]
  refine ⟨rp.stOk (by omega), Let_mk fun h2 e2 => ?_⟩
  have k2 : Kept (fun b => b = hb) h h2 := e2 ▸ kept_setc h 2 _ rfl
  have row2 : Row h2 hb ((hcells (s.words sp) G).set 2 (.pointer none)) := by rw [e2]; exact row_setc rp.row 2 _
  refine anew_ok (fun hbad => absurd ⟨by omega, by omega⟩ hbad) fun Ln h3 _ hLn hfn k3 => ⟨_, _, rfl, PtrOk_mk ?_⟩
  have row3 := kept_row k3 row2 id
  rw [add_ad]
  refine ⟨stOk_row row3 (by show 1 < 19; omega), Let_mk fun h4 e4 => ?_⟩
  have k4 : Kept (fun b => b = hb) h3 h4 := e4 ▸ kept_setc h3 1 _ rfl
  have row4 : Row h4 hb (becells (s.words sp) G Ln) := by rw [e4]; exact row_setc row3 1 _
  have k24 : Kept (fun b => b = hb) h h4 := (k2.trans (k3.mono fun _ _ e => e.elim)).trans k4
  have hsz2 : h.size ≤ h2.size := k2.1
  have hhb := rp.hlt
  have hLn4 : Ar h4 Ln n [] := by
    rw [Int.toNat_natCast] at hLn
    exact hLn.keep k4 fun b hb' e => by have := hfn b hb'; omega
  have hLo4 : Ar h4 G.Lh s.half (s.small.map s.enc) := rp.half.keep k24 fun b hb' e => by have := rp.halfr b hb'; rw [e, rp.rh] at this; cases this
  have hlt4 : ∀ b, Ln.fp b → b < h4.size := hLn4.lt
  let role4 := joinR role h.size Ln.fp .spare
  have q4 : HRest h4 hb role4 (s.words sp) G := rp.rest.move k24 (fun b e => .inr (.inr (.inl (e ▸ rp.rh)))) (fun b x hb' e _ _ _ => (joinR_old hb').trans e) fun b hb' => joinR_out (rp.fresh b (Nat.le_trans k24.1 hb')) fun hf => by have := hlt4 b hf; omega
  have ho4 : ∀ b, G.Lh.fp b → role4 b = .half := fun b hb' => (joinR_old (rp.half.lt b hb')).trans (rp.halfr b hb')
  have hn4 : ∀ b, Ln.fp b → role4 b = .spare := fun b hb' => joinR_new (by have := hfn b hb'; omega) hb'
  have x4 : ExtO h role h4 role4 := ExtO.of (role := role) k24 (fun b e => by rw [e, rp.rh]; nofun) fun b hb' ho => (joinR_old hb').trans ho
  refine f61L1_rule (fun q s0 s1 s4 s5 h' => ∃ (k : Nat) (role' : Nat → Role) (Ln' : ArLoc) (os : List AObj), k ≤ s.small.length ∧ q = s.small.length - k ∧ s0 = some (ad hb) ∧ s1 = (n : Int) ∧ s4 = some (ad G.Lh.pb) ∧ s5 = ((1 + s.sizes (s.small.take k) : Nat) : Int) ∧
    Row h' hb (becells (s.words sp) G Ln') ∧ HRest h' hb role' (s.words sp) G ∧ Ar h' G.Lh s.half os ∧ (∀ b, G.Lh.fp b → role' b = .half) ∧ os.map AObj.size = s.small.map s.size ∧ os.drop k = (s.small.drop k).map s.enc ∧
    Ar h' Ln' n ((s.small.take k).map s.enc) ∧ (∀ b, Ln'.fp b → role' b = .spare ∧ h.size ≤ b) ∧ ExtO h role h' role') s.small.length
    ⟨0, role4, Ln, s.small.map s.enc, Nat.zero_le _, rfl, rfl, rfl, rfl, rfl, row4, q4, hLo4, ho4, by rw [List.map_map]; exact List.map_congr_left fun x _ => s.enc_size x, rfl, hLn4, fun b hb' => ⟨hn4 b hb', by have := hfn b hb'; omega⟩, x4⟩ ?_
  rintro q s0 s1 s4 s5 g h5 ⟨k, role5, L5, os, hk, rfl, rfl, rfl, rfl, rfl, row5, q5, hLo5, ho5, hms, hdr, hLn5, hn5, x5⟩
  unfold f61L1
  obtain ⟨wco, fco, fso, rao⟩ := hLo5
  obtain ⟨wcn, fcn, fsn, ran⟩ := hLn5
  have hpk := pos_sizes hms k
  have hus := used_sizes hms
  refine aused_ok rao ⟨_, rfl, ?_⟩
  rw [hus]
  refine Cond_dec (fun hlt => ?_) fun hge => ?_
  · have hkl : k < s.small.length := by
      rcases Nat.lt_or_ge k s.small.length with hl | hl
      · exact hl
      · rw [List.take_of_length_le hl] at hlt; omega
    obtain ⟨x, hx⟩ : ∃ x, s.small[k]? = some x := ⟨_, List.getElem?_eq_getElem hkl⟩
    have hosk : os[k]? = some (s.enc x) := by
      have := congrArg (fun l => l[0]?) hdr
      simpa [List.getElem?_drop, hx] using this
    have hxs : x ∈ s.small := List.mem_of_getElem? hx
    have hh : s.here x := .inl hxs
    have hobj : objV os ((pos os k : Nat) : Int) = .tuple #[.int .i64 ((s.enc x).kind : Int), .int .i64 ((s.enc x).refs.length : Int), .int .i64 ((s.enc x).raws.length : Int), .int .i64 0] := by
      unfold objV
      rw [idxI_nat, idx_pos (List.getElem?_eq_some_iff.1 hosk).1]
      simp only [Option.bind_some, hosk]
      rfl
    rw [← hpk]
    refine aobject_ok rao ?_
    rw [hobj]
    have c1' : cell h5 ((ad hb).add 1) = some (.pointer (some (ad L5.pb))) := by rw [add_ad]; exact (cell_row row5 1).trans rfl
    refine ⟨_, _, _, _, rfl, PtrOk_mk ⟨_, c1', ?_⟩⟩
    have hst : 1 + s.sizes (s.small.take k) + s.size x = 1 + s.sizes (s.small.take (k + 1)) := by rw [RS.take_snoc hx, RS.sizes_snoc]; omega
    have hle := s.sizes_take s.small (k + 1)
    have hun : Go.Ev.used ((s.small.take k).map s.enc) = 1 + s.sizes (s.small.take k) := RS.used_map (fun id => s.enc_size id) _
    refine take_ok rao ran (fun b h1 h2 => by have := ho5 b h1; rw [(hn5 b h2).1] at this; cases this) hosk rfl (by rw [hun, s.enc_size]; omega) fun h6 L6 hLo6 hLn6 g6 => ⟨_, _, rfl, ?_⟩
    obtain ⟨g1, g2, g3⟩ := g6
    have hlt6 : ∀ b, L6.fp b → b < h6.size := hLn6.lt
    have hob : ∀ b, G.Lh.fp b → b < h5.size := rao.lt
    have nhd : ¬ (G.Lh.fp hb ∨ L5.fp hb) := fun e => by
      rcases e with e | e
      · have := ho5 hb e; rw [q5.rh] at this; cases this
      · have := (hn5 hb e).1; rw [q5.rh] at this; cases this
    refine ⟨s.small.length - (k + 1), by omega, k + 1, joinR role5 h5.size L6.fp .spare, L6, os.modify k fun o => { o with fwd := some (Go.Ev.used ((s.small.take k).map s.enc)) }, hkl, rfl, rfl, rfl, rfl, ?_, ?_, ?_, hLo6, ?_, ?_, ?_, ?_, ?_, ?_⟩
    · have e1 : (s.enc x).refs.length = (s.obj x).refs.length := List.length_map ..
      have e2 : (s.enc x).raws.length = (s.obj x).raws.length := rfl
      have e3 : s.size x = 1 + (s.obj x).refs.length + (s.obj x).raws.length := rfl
      rw [e1, e2, wrap_ar (x := (1 : Int) + ((s.obj x).refs.length : Int)) (by omega) (by omega), wrap_ar (x := (1 : Int) + ((s.obj x).refs.length : Int) + ((s.obj x).raws.length : Int)) (by omega) (by omega), hpk, wrap_ar (by omega) (by omega)]
      omega
    · have := kept_row g3 row5 nhd
      unfold becells at this ⊢
      rw [g1]
      exact this
    · exact q5.move g3 (fun b e => e.elim (fun e => .inl (ho5 b e)) fun e => .inr (.inl (hn5 b e).1)) (fun b y hb' e _ _ _ => (joinR_old hb').trans e) fun b hb' => joinR_out (q5.fresh b (Nat.le_trans g3.1 hb')) fun hf => by have := hlt6 b hf; omega
    · exact fun b hb' => (joinR_old (hob b hb')).trans (ho5 b hb')
    · exact (sizes_modify (f := fun o => { o with fwd := some (Go.Ev.used ((s.small.take k).map s.enc)) }) fun _ => rfl).trans hms
    · rw [drop_modify_succ]
      have := congrArg (List.drop 1) hdr
      simpa [List.drop_drop] using this
    · rw [RS.take_snoc hx, List.map_append]; exact hLn6
    · intro b hb'
      rcases Nat.lt_or_ge b h5.size with hl | hl
      · rw [joinR_old hl]
        rcases g2 b hb' with h | h
        · exact hn5 b h
        · omega
      · exact ⟨joinR_new hl hb', Nat.le_trans x5.1 hl⟩
    · refine x5.trans (ExtO.of (role := role5) g3 (fun b e => ?_) fun b hb' ho => (joinR_old hb').trans ho)
      rcases e with e | e
      · rw [ho5 b e]; nofun
      · rw [(hn5 b e).1]; nofun
  · have : k = s.small.length := by
      rcases Nat.lt_or_ge k s.small.length with hl | hl
      · have h1 := RS.sizes_snoc s (s.small.take k) s.small[k]
        have h2 := s.sizes_take s.small (k + 1)
        rw [RS.take_snoc (List.getElem?_eq_getElem hl), h1] at h2
        have : 1 ≤ s.size s.small[k] := by unfold RS.size RObj.size; omega
        omega
      · omega
    subst this
    rw [List.take_length] at ran
    refine anew_ok (fun hbad => absurd ⟨by omega, by omega⟩ hbad) fun Lz h6 _ hLz hfz k6 => ⟨_, _, rfl, PtrOk_mk ?_⟩
    rw [Int.toNat_natCast] at hLz
    have row6 := kept_row k6 row5 id
    rw [add_ad]
    refine ⟨stOk_row row6 (by show 2 < 19; omega), Let_mk fun h7 e7 => ?_⟩
    have k7 : Kept (fun b => b = hb) h6 h7 := e7 ▸ kept_setc h6 2 _ rfl
    have row7 := row_setc row6 2 (.pointer (some (ad Lz.pb)))
    rw [← e7] at row7
    have c17 : cell h7 (((ad hb).add 10).add 7) = some (.int .i64 s.resz) := by rw [add_hd]; exact (cell_row row7 17).trans rfl
    refine PtrOk_mk ⟨_, c17, PtrOk_mk ?_⟩
    rw [add_hd]
    refine ⟨stOk_row row7 (by show 17 < 19; omega), Let_mk fun h8 e8 => ?_⟩
    have k8 : Kept (fun b => b = hb) h7 h8 := e8 ▸ kept_setc h7 17 _ rfl
    have row8 := row_setc row7 17 (.int .i64 (IntKind.wrap .i64 (s.resz + 1)))
    rw [← e8] at row8
    have k58 : Kept (fun b => b = hb) h5 h8 := ((k6.mono fun _ _ e => e.elim).trans k7).trans k8
    have hhb5 : hb < h5.size := row_lt row5
    have hzlt : ∀ b, Lz.fp b → b < h8.size := fun b hb' => Nat.lt_of_lt_of_le (hLz.lt b hb') (Nat.le_trans k7.1 k8.1)
    have hnlt : ∀ b, L5.fp b → b < h5.size := ran.lt
    have hzn : ∀ b, Lz.fp b → ¬ L5.fp b := fun b h1 h2 => by have := hfz b h1; have := hnlt b h2; omega
    let role8 : Nat → Role := fun b => if L5.fp b then .half else if Lz.fp b then .spare else role5 b
    have r8n : ∀ b, L5.fp b → role8 b = .half := fun b hb' => if_pos hb'
    have r8z : ∀ b, Lz.fp b → role8 b = .spare := fun b hb' => (if_neg (hzn b hb')).trans (if_pos hb')
    have r8o : ∀ b, ¬ L5.fp b → ¬ Lz.fp b → role8 b = role5 b := fun b h1 h2 => (if_neg h1).trans (if_neg h2)
    have q8 : HRest h8 hb role8 (s.words sp) G := q5.move k58 (fun b e => .inr (.inr (.inl (e ▸ q5.rh))))
      (fun b y hb' e h1 h2 h3 => (r8o b (fun hf => h2 (e ▸ (hn5 b hf).1)) fun hf => by have := hfz b hf; omega).trans e)
      fun b hb' => (r8o b (fun hf => by have := hnlt b hf; have := k58.1; omega) fun hf => by have := hzlt b hf; omega).trans (q5.fresh b (Nat.le_trans k58.1 hb'))
    have eb : (s.become n) = { s with half := n, resz := IntKind.wrap .i64 (s.resz + 1) } := by unfold RS.become; rw [if_neg hne]
    have q9 : HRest h8 hb role8 ((s.become n).words []) { G with Lh := L5, Ls := Lz } := by
      rw [eb]
      exact q8.cast rfl rfl rfl rfl rfl rfl rfl rfl rfl rfl rfl rfl rfl
    refine hR h8 role8 { G with Lh := L5, Ls := Lz } [] (q9.rep ?_ ?_ r8n ?_ r8z) (x5.trans (ExtO.of (role := role5) k58 (fun b e => by rw [e, q5.rh]; nofun) fun b hb' ho => ?_))
    · rw [eb]; exact row8
    · rw [eb]
      exact Ar.keep (⟨_, _, _, ran⟩ : Ar h5 L5 n (s.small.map s.enc)) k58 fun b hb' e => by have := (hn5 b hb').1; rw [e, q5.rh] at this; cases this
    · rw [eb]
      exact hLz.keep (k7.trans k8) fun b hb' e => by have := hfz b hb'; omega
    · refine (r8o b (fun hf => ?_) fun hf => by have := hfz b hf; omega).trans ho
      have := (hn5 b hf).1
      rw [ho] at this; cases this
end
end Go.Ev
