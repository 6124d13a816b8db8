/- Object, Get, Set, Bytes, SetBytes, and the handles: as the document's heap. No condition but that the heap is one, and that a handle's list is not too long. -/
import Derived.Test.YtdkopnbjommjdaaHT
set_option linter.all false
set_option maxRecDepth 100000
namespace Go.Ev
open Go.Proofs
namespace RS
def objF (s : RS) (r : Nat) : (Nat × Nat × Nat) × Int := if s.ident r = 0 then ((0, 0, 0), 32) else (((s.obj (s.ident r)).kind, (s.obj (s.ident r)).refs.length, (s.obj (s.ident r)).raws.length), 0)
def getF (s : RS) (r : Nat) (i : Int) : Nat × Int :=
  if s.ident r = 0 then (0, 32) else if 0 ≤ i ∧ i < ((s.enc (s.ident r)).flds.length : Nat) then ((s.enc (s.ident r)).flds.getD i.toNat 0, 0) else (0, 33)
def setF (s : RS) (r : Nat) (i : Int) (x : Nat) : RS × Int :=
  if s.ident r = 0 then (s, 32)
  else if ¬ (0 ≤ i ∧ i < (((s.obj (s.ident r)).refs.length + (s.obj (s.ident r)).raws.length : Nat) : Int)) then (s, 33)
  else if i < ((s.obj (s.ident r)).refs.length : Nat) then
    (if x ≠ 0 ∧ s.ident x = 0 then (s, 32) else (s.setObj (s.ident r) { s.obj (s.ident r) with refs := (s.obj (s.ident r)).refs.set i.toNat (s.ident x) }, 0))
  else (s.setObj (s.ident r) { s.obj (s.ident r) with raws := (s.obj (s.ident r)).raws.set (i.toNat - (s.obj (s.ident r)).refs.length) x }, 0)
def spanOk (s : RS) (r : Nat) (f n : Int) : Prop := s.ident r ≠ 0 ∧ 0 ≤ f ∧ 0 ≤ n ∧ f + n ≤ 8 * (((s.obj (s.ident r)).raws.length : Nat) : Int)
instance (s : RS) (r : Nat) (f n : Int) : Decidable (s.spanOk r f n) := inferInstanceAs (Decidable (_ ∧ _ ∧ _ ∧ _))
def spanE (s : RS) (r : Nat) (f n : Int) : Int := if s.ident r = 0 then 32 else if s.spanOk r f n then 0 else 33
def setBytesF (s : RS) (r : Nat) (f : Int) (cs : List Nat) : RS × Int :=
  if s.spanOk r f cs.length then (s.setObj (s.ident r) { s.obj (s.ident r) with raws := putBytes (s.obj (s.ident r)).raws f.toNat cs }, 0) else (s, s.spanE r f cs.length)
def goodR (s : RS) (r : Nat) : Bool := decide (r = 0 ∨ s.ident r ≠ 0)
def hand (s : RS) (n : Int) : Option Nat := if 1 ≤ n ∧ n ≤ (s.roots.length : Nat) then s.roots.getD (n - 1).toNat none else none
def atF (s : RS) (n : Int) : Nat × Int := match s.hand n with | some id => (s.ref id, 0) | none => (0, 35)
def withRoots (s : RS) (l : List (Option Nat)) : RS := { s with roots := l }
def putF (s : RS) (n : Int) (r : Nat) : RS × Int :=
  match s.hand n with
  | none => (s, 35)
  | some _ => if s.goodR r = true then (s.withRoots (s.roots.set (n - 1).toNat (some (s.ident r))), 0) else (s, 32)
def dropF (s : RS) (n : Int) : RS × Int := match s.hand n with | none => (s, 35) | some _ => (s.withRoots (s.roots.set (n - 1).toNat none), 0)
def freeAt : List (Option Nat) → Nat
  | [] => 0
  | none :: _ => 0
  | some _ :: l => freeAt l + 1
theorem freeAt_eq : ∀ (l : List (Option Nat)) (i : Nat), (∀ j, j < i → ∃ x, l[j]? = some (some x)) → (l[i]? = some none ∨ i = l.length) → freeAt l = i
  | [], i, h, e => by
    rcases e with e | e
    · simp at e
    · rw [e]; rfl
  | none :: l, 0, _, _ => rfl
  | none :: l, i + 1, h, _ => by obtain ⟨x, hx⟩ := h 0 (by omega); simp at hx
  | some y :: l, 0, _, e => by
    rcases e with e | e
    · simp at e
    · simp at e
  | some y :: l, i + 1, h, e => by
    show freeAt l + 1 = i + 1
    rw [freeAt_eq l i (fun j hj => by have := h (j + 1) (by omega); simpa using this) (by simpa using e)]
theorem freeAt_le : ∀ l : List (Option Nat), freeAt l ≤ l.length
  | [] => Nat.le_refl _
  | none :: l => Nat.zero_le _
  | some _ :: l => Nat.succ_le_succ (freeAt_le l)
theorem count_some : ∀ (l : List (Option Nat)) (i x : Nat), l[i]? = some none → ((l.set i (some x)).filter Option.isSome).length = (l.filter Option.isSome).length + 1
  | [], i, x, h => by simp at h
  | y :: l, 0, x, h => by
    obtain rfl : y = none := by simpa using h
    simp
  | y :: l, i + 1, x, h => by
    have := count_some l i x (by simpa using h)
    rw [List.set_cons_succ]
    cases y <;> simp [this]
theorem count_none : ∀ (l : List (Option Nat)) (i x : Nat), l[i]? = some (some x) → ((l.set i none).filter Option.isSome).length + 1 = (l.filter Option.isSome).length
  | [], i, x, h => by simp at h
  | y :: l, 0, x, h => by
    obtain rfl : y = some x := by simpa using h
    simp
  | y :: l, i + 1, x, h => by
    have := count_none l i x (by simpa using h)
    rw [List.set_cons_succ]
    cases y <;> simp <;> omega
theorem count_same : ∀ (l : List (Option Nat)) (i x y : Nat), l[i]? = some (some x) → ((l.set i (some y)).filter Option.isSome).length = (l.filter Option.isSome).length
  | [], i, x, _, h => by simp at h
  | z :: l, 0, x, y, h => by
    obtain rfl : z = some x := by simpa using h
    simp
  | z :: l, i + 1, x, y, h => by
    have := count_same l i x y (by simpa using h)
    rw [List.set_cons_succ]
    cases z <;> simp [this]
def rootF (s : RS) (r : Nat) : RS × Nat × Int :=
  if s.goodR r = true then
    (s.withRoots (if freeAt s.roots < s.roots.length then s.roots.set (freeAt s.roots) (some (s.ident r)) else s.roots ++ [some (s.ident r)]), freeAt s.roots + 1, 0)
  else (s, 0, 32)
section
variable {s : RS}
theorem enc_flds_len (id : Nat) : (s.enc id).flds.length = (s.obj id).refs.length + (s.obj id).raws.length := by unfold AObj.flds enc; simp
theorem Inv.withRoots (v : s.Inv) {l : List (Option Nat)} (h1 : ∀ id, some id ∈ l → id = 0 ∨ s.here id) (h2 : l.length ≤ 100000000) : (s.withRoots l).Inv :=
  ⟨v.l1, v.l2, v.h1, v.h2, v.u1, v.u2, v.lg, v.sll, h2, v.nds, fun id hid => by
    obtain ⟨a, b, c, d, e⟩ := v.sm id hid
    exact ⟨a, b, c, d, e.trans (placeIn_congr (s := s.withRoots l) (t := s) _ _ _ fun _ _ => rfl)⟩, v.sl, v.rf, h1, v.shp, v.ob, v.kp, v.sn⟩
theorem goodR_ref (v : s.Inv) {r : Nat} (h : s.goodR r = true) : s.ref (s.ident r) = r := by
  have h : r = 0 ∨ s.ident r ≠ 0 := by simpa [goodR] using h
  rcases h with rfl | h
  · rw [ident_zero, ref_zero]
  · exact (ident_here v h).2
theorem Inv.set (v : s.Inv) (r : Nat) (i : Int) {x : Nat} (hx : x < 18446744073709551616) : (s.setF r i x).1.Inv := by
  unfold setF
  split
  · exact v
  · rename_i h0
    have hh := (ident_here v h0).1
    obtain ⟨_, _, _, _, hw⟩ := v.shp _ hh
    split
    · exact v
    · split
      · split
        · exact v
        · refine v.setObj hh ⟨rfl, by simp, rfl, rfl, rfl⟩ (fun y hy => ?_) hw
          rcases List.mem_or_eq_of_mem_set hy with hy | hy
          · exact v.rf _ hh y hy
          · rw [hy]; exact ident_in v x
      · refine v.setObj hh ⟨rfl, rfl, by simp, rfl, rfl⟩ (v.rf _ hh) fun y hy => ?_
        rcases List.mem_or_eq_of_mem_set hy with hy | hy
        · exact hw y hy
        · rw [hy]; exact hx
theorem Inv.setBytes (v : s.Inv) (r : Nat) (f : Int) {cs : List Nat} (hc : ∀ c ∈ cs, c < 256) : (s.setBytesF r f cs).1.Inv := by
  unfold setBytesF
  split
  · rename_i h
    have hh := (ident_here v h.1).1
    obtain ⟨_, _, _, _, hw⟩ := v.shp _ hh
    exact v.setObj hh ⟨rfl, rfl, putBytes_len _ _ _, rfl, rfl⟩ (v.rf _ hh) (putBytes_lt hw hc)
  · exact v
theorem hand_some {n : Int} {id : Nat} (h : s.hand n = some id) : 1 ≤ n ∧ n ≤ (s.roots.length : Nat) ∧ s.roots[(n - 1).toNat]? = some (some id) := by
  unfold hand at h
  split at h
  · rename_i hn
    refine ⟨hn.1, hn.2, ?_⟩
    rw [List.getD_eq_getElem?_getD] at h
    cases hx : s.roots[(n - 1).toNat]? with
    | none => rw [hx] at h; cases h
    | some x => rw [hx] at h; exact congrArg some h
  · cases h
theorem hand_here (v : s.Inv) {n : Int} {id : Nat} (h : s.hand n = some id) : id = 0 ∨ s.here id := v.rt id (List.mem_of_getElem? (hand_some h).2.2)
theorem roots_set_in (v : s.Inv) {k : Nat} {x : Option Nat} (hx : ∀ id, x = some id → id = 0 ∨ s.here id) : ∀ id, some id ∈ s.roots.set k x → id = 0 ∨ s.here id := fun id hid => by
  rcases List.mem_or_eq_of_mem_set hid with h | h
  · exact v.rt id h
  · exact hx id h.symm
theorem Inv.put (v : s.Inv) (n : Int) (r : Nat) : (s.putF n r).1.Inv := by
  unfold putF
  split
  · exact v
  · split
    · exact v.withRoots (roots_set_in v fun id e => by obtain rfl := Option.some.inj e; exact ident_in v r) (by rw [List.length_set]; exact v.rl)
    · exact v
theorem Inv.drop (v : s.Inv) (n : Int) : (s.dropF n).1.Inv := by
  unfold dropF
  split
  · exact v
  · exact v.withRoots (roots_set_in v fun id e => by cases e) (by rw [List.length_set]; exact v.rl)
theorem Inv.root (v : s.Inv) {r : Nat} (hl : s.roots.length < 100000000) : (s.rootF r).1.Inv := by
  unfold rootF
  split
  · refine v.withRoots ?_ ?_
    · split
      · exact roots_set_in v fun id e => by obtain rfl := Option.some.inj e; exact ident_in v r
      · intro id hid
        rcases List.mem_append.1 hid with h | h
        · exact v.rt id h
        · have := List.mem_singleton.1 h
          obtain rfl := Option.some.inj this
          exact ident_in v r
    · split
      · rw [List.length_set]; exact v.rl
      · rw [List.length_append]; show s.roots.length + 1 ≤ _; omega
  · exact v
end
end RS
theorem objV_at {os : List AObj} {i : Nat} {o : AObj} (h : os[i]? = some o) (hf : o.fwd = none) : objV os ((pos os i : Nat) : Int) = .tuple #[.int .i64 (o.kind : Int), .int .i64 (o.refs.length : Int), .int .i64 (o.raws.length : Int), .int .i64 0] := by
  unfold objV
  rw [idxI_nat, idx_pos (List.getElem?_eq_some_iff.1 h).1]
  simp only [Option.bind_some, h, hf]
section
variable {h : Hp} {hb : Nat} {role : Nat → Role} {m : MH} {G : Geo} {s : RS} {sp : List AObj}
theorem hobject_ok (v : s.Inv) (rp : HRep h hb role (s.words sp) G) {r : Nat} (hr : r < 18446744073709551616) {R : Value → Hp → Prop}
    (hR : R (.tuple #[.int .i64 ((s.objF r).1.1 : Nat), .int .i64 ((s.objF r).1.2.1 : Nat), .int .i64 ((s.objF r).1.2.2 : Nat), .int .i64 (s.objF r).2]) h) : CallTo Try.prog 40 #[.pointer (some (ad hb)), uv r] h R := by
  refine f40F_ok ?_
  unfold f40F
  refine find_ok v rp hr (fun h0 => ?_) fun L sz os i h0 p => ?_
  · unfold RS.objF at hR
    rw [if_pos h0] at hR
    exact ⟨_, _, _, rfl, Cond_t rfl hR⟩
  · obtain ⟨wc, fc, fs, ra⟩ := p.ar rp
    refine ⟨_, _, _, rfl, Cond_f rfl ⟨_, rfl, aobject_ok ra ?_⟩⟩
    rw [objV_at p.get rfl]
    unfold RS.objF at hR
    rw [if_neg h0] at hR
    have e : (s.enc (s.ident r)).refs.length = (s.obj (s.ident r)).refs.length := List.length_map ..
    rw [e]
    exact ⟨_, _, _, _, rfl, hR⟩
theorem hget_ok (v : s.Inv) (rp : HRep h hb role (s.words sp) G) {r : Nat} (hr : r < 18446744073709551616) {i : Int} {R : Value → Hp → Prop}
    (hR : R (.tuple #[uv (s.getF r i).1, .int .i64 (s.getF r i).2]) h) : CallTo Try.prog 41 #[.pointer (some (ad hb)), uv r, .int .i64 i] h R := by
  refine f41F_ok ?_
  unfold f41F
  refine find_ok v rp hr (fun h0 => ?_) fun L sz os j h0 p => ?_
  · unfold RS.getF at hR
    rw [if_pos h0] at hR
    exact ⟨_, _, _, rfl, Cond_t rfl hR⟩
  · obtain ⟨wc, fc, fs, ra⟩ := p.ar rp
    refine ⟨_, _, _, rfl, Cond_f rfl ⟨_, rfl, aget_ok ra ?_⟩⟩
    unfold RS.getF at hR
    rw [if_neg h0] at hR
    have hg : getV os ((pos os j : Nat) : Int) i = if 0 ≤ i ∧ i < ((s.enc (s.ident r)).flds.length : Nat) then .tuple #[uv ((s.enc (s.ident r)).flds.getD i.toNat 0), .int .i64 0] else .tuple #[.int .u64 0, .int .i64 24] := by
      have hget := p.get
      unfold getV
      rw [idxI_nat, idx_pos (List.getElem?_eq_some_iff.1 hget).1]
      simp only [Option.bind_some, hget]
      show (if 0 ≤ i then (match (s.enc (s.ident r)).flds[i.toNat]? with | some v => Value.tuple #[uv v, .int .i64 0] | none => Value.tuple #[.int .u64 0, .int .i64 24]) else Value.tuple #[.int .u64 0, .int .i64 24]) = _
      by_cases h1 : 0 ≤ i
      · rw [if_pos h1]
        by_cases h2 : i < ((s.enc (s.ident r)).flds.length : Nat)
        · rw [if_pos ⟨h1, h2⟩, List.getD_eq_getElem?_getD, List.getElem?_eq_getElem (by omega)]; rfl
        · rw [if_neg (fun c => h2 c.2), List.getElem?_eq_none (by omega)]
      · rw [if_neg h1, if_neg (fun c => h1 c.1)]
    rw [hg]
    split
    · rename_i hc
      rw [if_pos hc] at hR
      exact ⟨_, _, rfl, Cond_f rfl hR⟩
    · rename_i hc
      rw [if_neg hc] at hR
      exact ⟨_, _, rfl, Cond_t rfl hR⟩
theorem hgood_ok (v : s.Inv) (rp : HRep h hb role (s.words sp) G) {r : Nat} (hr : r < 18446744073709551616) {R : Value → Hp → Prop} (hR : R (.bool (s.goodR r)) h) : CallTo Try.prog 39 #[.pointer (some (ad hb)), uv r] h R := by
  refine f39F_ok ?_
  unfold f39F
  unfold RS.goodR at hR
  by_cases hz : r = 0
  · subst hz
    rw [decide_eq_true (.inl rfl)] at hR
    exact Cond_t rfl hR
  refine Cond_f (by simp; omega) (find_ok v rp hr (fun h0 => ?_) fun L sz os j h0 p => ?_)
  · rw [decide_eq_false (by simp [hz, h0])] at hR
    exact ⟨_, _, _, rfl, hR⟩
  · rw [decide_eq_true (.inr h0)] at hR
    exact ⟨_, _, _, rfl, hR⟩
theorem hset_ok (v : s.Inv) (rp : HRep h hb role (s.words sp) G) {r : Nat} (hr : r < 18446744073709551616) {i : Int} {x : Nat} (hx : x < 18446744073709551616) {R : Value → Hp → Prop}
    (hR : ∀ h' role' G', HRep h' hb role' ((s.setF r i x).1.words sp) G' → ExtO h role h' role' → R (.int .i64 (s.setF r i x).2) h') : CallTo Try.prog 35 #[.pointer (some (ad hb)), uv r, .int .i64 i, uv x] h R := by
  refine f35F_ok ?_
  unfold f35F
  refine find_ok v rp hr (fun h0 => ?_) fun L sz os j h0 p => ?_
  · have e : s.setF r i x = (s, 32) := by unfold RS.setF; rw [if_pos h0]
    rw [e] at hR
    exact ⟨_, _, _, rfl, Cond_t rfl (hR h role G rp (ExtO.refl h role))⟩
  · obtain ⟨wc, fc, fs, ra⟩ := p.ar rp
    have hh := (RS.ident_here v h0).1
    obtain ⟨_, _, hnr, hnw, _⟩ := v.shp _ hh
    have hget := p.get
    have efl := s.enc_flds_len (s.ident r)
    refine ⟨_, _, _, rfl, Cond_f rfl ⟨_, rfl, aobject_ok ra ?_⟩⟩
    rw [objV_at hget rfl]
    have er : (s.enc (s.ident r)).refs.length = (s.obj (s.ident r)).refs.length := List.length_map ..
    have ew : (s.enc (s.ident r)).raws.length = (s.obj (s.ident r)).raws.length := rfl
    rw [er, ew]
    refine ⟨_, _, _, _, rfl, ?_⟩
    have bad : ¬ (0 ≤ i ∧ i < (((s.obj (s.ident r)).refs.length + (s.obj (s.ident r)).raws.length : Nat) : Int)) → R (.int .i64 33) h := fun hb' => by
      have e : s.setF r i x = (s, 33) := by unfold RS.setF; rw [if_neg h0, if_pos hb']
      rw [e] at hR
      exact hR h role G rp (ExtO.refl h role)
    refine Cond_dec (fun c => ?_) fun c => ?_
    · unfold f35K1
      exact Cond_t rfl (bad fun q => by omega)
    rw [wrap_ar (x := (((s.obj (s.ident r)).refs.length : Nat) : Int) + (((s.obj (s.ident r)).raws.length : Nat) : Int)) (by omega) (by omega)]
    by_cases c2 : i ≥ (((s.obj (s.ident r)).refs.length : Nat) : Int) + (((s.obj (s.ident r)).raws.length : Nat) : Int)
    · rw [decide_eq_true c2]
      unfold f35K1
      exact Cond_t rfl (bad fun q => by omega)
    rw [decide_eq_false c2]
    unfold f35K1
    refine Cond_f rfl ?_
    obtain ⟨k, rfl⟩ := Int.eq_ofNat_of_zero_le (show 0 ≤ i by omega)
    have hkl : k < (s.enc (s.ident r)).flds.length := by omega
    have hE : setE os ((pos os j : Nat) : Int) (k : Int) = 0 := by
      unfold setE
      rw [idxI_nat, idx_pos (List.getElem?_eq_some_iff.1 hget).1]
      simp only [Option.bind_some, hget]
      show (if 0 ≤ (k : Int) ∧ (k : Int) < ((s.enc (s.ident r)).flds.length : Int) then (0 : Int) else 24) = 0
      rw [if_pos (by omega)]
    have fin : ∀ o, RS.SameShape (s.obj (s.ident r)) o → (s.enc (s.ident r)).setF k x = ⟨o.kind, o.refs.map s.ref, o.raws, none⟩ → s.setF r (k : Int) x = (s.setObj (s.ident r) o, 0) →
        CallTo Try.prog 92 #[.pointer (some (ad L.pb)), .int .i64 ((pos os j : Nat) : Int), .int .i64 (k : Int), uv x] h fun v h' => ∃ t55 : Int, v = .int .i64 t55 ∧ R (.int .i64 t55) h' := by
      intro o he ho hs
      refine aset_ok ra hx (fun hne => absurd hE hne) fun i' o' k' h' q1 q2 q3 q4 q5 q6 q7 => ?_
      obtain rfl : k = k' := by omega
      have ha : Ar h' L sz (os.modify j fun _ => (s.setObj (s.ident r) o).enc (s.ident r)) := by
        have hil := (List.getElem?_eq_some_iff.1 hget).1
        rw [idxI_nat, idx_pos hil] at q1
        obtain rfl := Option.some.inj q1
        rw [← modify_congr (f := fun o => o.setF k x) hget (by rw [RS.setObj_enc (v.here_lt hh) he, if_pos rfl, ho])]
        exact ⟨_, _, _, q6⟩
      obtain ⟨role', G', rp', x'⟩ := p.put v rp hh he ha q7
      rw [hs] at hR
      exact ⟨_, rfl, hR h' role' G' rp' x'⟩
    have e0 : s.setF r (k : Int) x = if (k : Int) < ((s.obj (s.ident r)).refs.length : Nat) then
        (if x ≠ 0 ∧ s.ident x = 0 then (s, 32) else (s.setObj (s.ident r) { s.obj (s.ident r) with refs := (s.obj (s.ident r)).refs.set k (s.ident x) }, 0))
        else (s.setObj (s.ident r) { s.obj (s.ident r) with raws := (s.obj (s.ident r)).raws.set (k - (s.obj (s.ident r)).refs.length) x }, 0) := by
      unfold RS.setF
      rw [if_neg h0, if_neg (by omega)]
      rfl
    refine Cond_dec (fun c3 => ?_) fun c3 => ?_
    · refine hgood_ok v rp hx ⟨_, rfl, ?_⟩
      have hkr : k < (s.obj (s.ident r)).refs.length := by omega
      by_cases hg : s.goodR x = true
      · rw [hg]
        have hg' : x = 0 ∨ s.ident x ≠ 0 := by simpa [RS.goodR] using hg
        refine Cond_f rfl ⟨_, rfl, fin { s.obj (s.ident r) with refs := (s.obj (s.ident r)).refs.set k (s.ident x) } ⟨rfl, by simp, rfl, rfl, rfl⟩ ?_ ?_⟩
        · unfold AObj.setF
          rw [if_pos (by rw [er]; exact hkr)]
          show (⟨_, ((s.obj (s.ident r)).refs.map s.ref).set k x, _, _⟩ : AObj) = ⟨_, ((s.obj (s.ident r)).refs.set k (s.ident x)).map s.ref, _, _⟩
          rw [List.map_set, RS.goodR_ref v hg]
          rfl
        · rw [e0, if_pos (by omega), if_neg (fun c => by exact hg'.elim c.1 fun h => h c.2)]
      · have hg1 : s.goodR x = false := by simpa using hg
        have hg' : ¬ (x = 0 ∨ s.ident x ≠ 0) := by simpa [RS.goodR] using hg
        rw [hg1]
        rw [e0, if_pos (by omega), if_pos ⟨fun c => hg' (.inl c), by
          by_cases hq : s.ident x = 0
          · exact hq
          · exact absurd (.inr hq) hg'⟩] at hR
        exact Cond_t rfl (hR h role G rp (ExtO.refl h role))
    · have hkr : ¬ k < (s.obj (s.ident r)).refs.length := by omega
      refine ⟨_, rfl, fin { s.obj (s.ident r) with raws := (s.obj (s.ident r)).raws.set (k - (s.obj (s.ident r)).refs.length) x } ⟨rfl, rfl, by simp, rfl, rfl⟩ ?_ ?_⟩
      · unfold AObj.setF
        rw [if_neg (by rw [er]; exact hkr)]
        rw [er]
        rfl
      · rw [e0, if_neg (by omega)]
theorem hbytes_ok (v : s.Inv) (rp : HRep h hb role (s.words sp) G) {r : Nat} (hr : r < 18446744073709551616) {f n : Int} (hn0 : -9223372036854775808 ≤ n) (hf0 : -9223372036854775808 ≤ f) (hn1 : n < 9223372036854775808) (hf1 : f < 9223372036854775808) {R : Value → Hp → Prop}
    (hbad : ¬ s.spanOk r f n → R (.tuple #[.slice none 0 0, .int .i64 (s.spanE r f n)]) h)
    (hgood : ∀ b h', s.spanOk r f n → Row h' b ((List.range n.toNat).map fun j => bv (byteAt (s.obj (s.ident r)).raws (f.toNat + j))) → h.size ≤ b → Kept N h h' → R (.tuple #[.slice (some (ad b)) n.toNat n.toNat, .int .i64 0]) h') :
    CallTo Try.prog 33 #[.pointer (some (ad hb)), uv r, .int .i64 f, .int .i64 n] h R := by
  refine f33F_ok ?_
  unfold f33F
  refine find_ok v rp hr (fun h0 => ?_) fun L sz os j h0 p => ?_
  · have hs : ¬ s.spanOk r f n := fun c => c.1 h0
    have := hbad hs
    unfold RS.spanE at this
    rw [if_pos h0] at this
    exact ⟨_, _, _, rfl, Cond_t rfl this⟩
  · obtain ⟨wc, fc, fs, ra⟩ := p.ar rp
    have hget := p.get
    have hil := (List.getElem?_eq_some_iff.1 hget).1
    have hsp : Go.Ev.spanE os ((pos os j : Nat) : Int) f n = if 0 ≤ f ∧ 0 ≤ n ∧ f + n ≤ 8 * (((s.obj (s.ident r)).raws.length : Nat) : Int) then 0 else 25 := by
      unfold Go.Ev.spanE
      rw [idxI_nat, idx_pos hil]
      simp only [Option.bind_some, hget]
      rfl
    refine ⟨_, _, _, rfl, Cond_f rfl ⟨_, rfl, abytes_ok ra hn0 hf0 hn1 hf1 (fun he => ?_) fun i o f' n' b h' q1 q2 q3 q4 q5 q6 q7 q8 q9 => ?_⟩⟩
    · have hs : ¬ s.spanOk r f n := fun c => he (by rw [hsp, if_pos c.2])
      have := hbad hs
      unfold RS.spanE at this
      rw [if_neg h0, if_neg hs] at this
      exact ⟨⟨none, 0, 0⟩, _, rfl, Cond_t (by simpa using he) this⟩
    · subst q4 q5
      rw [idxI_nat, idx_pos hil] at q1
      obtain rfl := Option.some.inj q1
      rw [hget] at q2
      obtain rfl := Option.some.inj q2
      have hs : s.spanOk r (f' : Int) (n' : Int) := ⟨h0, by omega, by omega, by have : (s.enc (s.ident r)).raws.length = (s.obj (s.ident r)).raws.length := rfl
                                                                                omega⟩
      have := hgood b h' hs (by rw [Int.toNat_natCast, Int.toNat_natCast]; exact q7) q8 q9
      rw [Int.toNat_natCast] at this
      exact ⟨⟨some (ad b), n', n'⟩, _, rfl, Cond_f rfl this⟩
theorem hsetbytes_ok (v : s.Inv) (rp : HRep h hb role (s.words sp) G) {r : Nat} (hr : r < 18446744073709551616) {f : Int} (hf0 : -9223372036854775808 ≤ f) (hf1 : f < 9223372036854775808) {a : Sl} {cs : List Nat} (hs : ReadsO h a.a (cs.map bv)) (hsn : a.n = cs.length)
    (hcs : ∀ c ∈ cs, c < 256) (hsb : ∀ p, a.a = some p → cs ≠ [] → role p.block = .out) (hn : (cs.length : Int) < 9223372036854775808) {R : Value → Hp → Prop}
    (hR : ∀ h' role' G', HRep h' hb role' ((s.setBytesF r f cs).1.words sp) G' → ExtO h role h' role' → R (.int .i64 (s.setBytesF r f cs).2) h') : CallTo Try.prog 36 #[.pointer (some (ad hb)), uv r, .int .i64 f, .slice a.a a.n a.c] h R := by
  refine f36F_ok ?_
  unfold f36F
  refine find_ok v rp hr (fun h0 => ?_) fun L sz os j h0 p => ?_
  · have hs' : ¬ s.spanOk r f cs.length := fun c => c.1 h0
    unfold RS.setBytesF at hR
    rw [if_neg hs'] at hR
    unfold RS.spanE at hR
    rw [if_pos h0] at hR
    exact ⟨_, _, _, rfl, Cond_t rfl (hR h role G rp (ExtO.refl h role))⟩
  · obtain ⟨wc, fc, fs, ra⟩ := p.ar rp
    have hget := p.get
    have hil := (List.getElem?_eq_some_iff.1 hget).1
    have hh := (RS.ident_here v h0).1
    have hsp : Go.Ev.spanE os ((pos os j : Nat) : Int) f cs.length = if 0 ≤ f ∧ 0 ≤ (cs.length : Int) ∧ f + (cs.length : Int) ≤ 8 * (((s.obj (s.ident r)).raws.length : Nat) : Int) then 0 else 25 := by
      unfold Go.Ev.spanE
      rw [idxI_nat, idx_pos hil]
      simp only [Option.bind_some, hget]
      rfl
    refine ⟨_, _, _, rfl, Cond_f rfl ⟨_, rfl, asetbytes_ok ra hs hsn hcs (fun q hq hne => p.apart rp (hsb q hq hne)) hn hf0 hf1 (fun he => ?_) fun i o f' h' q1 q2 q3 q4 q5 q6 q7 => ?_⟩⟩
    · have hs' : ¬ s.spanOk r f cs.length := fun c => he (by rw [hsp, if_pos c.2])
      unfold RS.setBytesF at hR
      rw [if_neg hs'] at hR
      unfold RS.spanE at hR
      rw [if_neg h0, if_neg hs'] at hR
      exact ⟨_, rfl, Cond_t (by simpa using he) (hR h role G rp (ExtO.refl h role))⟩
    · subst q4
      rw [idxI_nat, idx_pos hil] at q1
      obtain rfl := Option.some.inj q1
      rw [hget] at q2
      obtain rfl := Option.some.inj q2
      have hs' : s.spanOk r (f' : Int) cs.length := ⟨h0, by omega, by omega, by have : (s.enc (s.ident r)).raws.length = (s.obj (s.ident r)).raws.length := rfl
                                                                                omega⟩
      have he : RS.SameShape (s.obj (s.ident r)) { s.obj (s.ident r) with raws := putBytes (s.obj (s.ident r)).raws f' cs } := ⟨rfl, rfl, putBytes_len _ _ _, rfl, rfl⟩
      have ha : Ar h' L sz (os.modify j fun _ => (s.setObj (s.ident r) { s.obj (s.ident r) with raws := putBytes (s.obj (s.ident r)).raws f' cs }).enc (s.ident r)) := by
        rw [← modify_congr (f := fun o => o.withRaws (putBytes o.raws f' cs)) hget (by rw [RS.setObj_enc (v.here_lt hh) he, if_pos rfl]; rfl)]
        exact ⟨_, _, _, q6⟩
      obtain ⟨role', G', rp', x'⟩ := p.put v rp hh he ha q7
      unfold RS.setBytesF at hR
      rw [if_pos hs', Int.toNat_natCast] at hR
      exact ⟨_, rfl, Cond_f rfl (hR h' role' G' rp' x')⟩
end
end Go.Ev
