/- HeapSettles: a second collection, Resize, and the law's own call. No condition but that it is one. -/
import Derived.Test.YtgkhjbfkgckeoaaVZ
import Derived.Test.YtgkhjbfkgckeoaaWZ
import Derived.Test.YtgkhjbfkgckeoaaG7
set_option linter.all false
set_option maxRecDepth 100000
namespace Go.Ev
open Go.Proofs
namespace RS
section
variable {s t : RS}
theorem Packed.cused (p : s.Packed) (v : s.Inv) : s.collection.used = s.used := (p.used v).symm
theorem Packed.clarge (p : s.Packed) (v : s.Inv) : s.collection.large = s.large := (collection_lsum v).trans (p.large v).symm
theorem Packed.cslots (p : s.Packed) (v : s.Inv) : s.collection.slots = s.slots := by
  show s.slots.map (fun id => if id ∈ s.gcEnd.line then id else 0) = s.slots
  conv => rhs; rw [← List.map_id s.slots]
  refine List.map_congr_left fun x hx => ?_
  have := p.slot v hx
  by_cases h0 : x = 0
  · subst h0; split <;> rfl
  · rw [if_pos (this.2 h0)]; rfl
theorem Packed.cref (p : s.Packed) (v : s.Inv) {id : Nat} (h : id = 0 ∨ id ∈ s.gcEnd.copied ∨ id ∈ s.gcEnd.line) : s.collection.ref id = s.ref id := by
  rw [collection_ref v h]
  unfold newRef ref
  by_cases h0 : id = 0
  · rw [if_pos h0, if_pos h0]
  · rw [if_neg h0, if_neg h0]
    by_cases hb : (s.obj id).big = true
    · rw [if_pos hb, if_pos hb]
    · rw [if_neg hb, if_neg hb]
      rcases h.resolve_left h0 with h | h
      · have hs : id ∈ s.small := (GcOk.fin v).cp id h
        rw [(v.sm id hs).2.2.2.2, p.sm]
      · have hl := (GcOk.fin v).ln id h
        obtain ⟨i, hi⟩ := List.mem_iff_getElem?.1 hl.2
        exact absurd (v.sl i id hi h0).2.1 hb
theorem Packed.cimage (p : s.Packed) (v : s.Inv) : s.collection.image = s.image := by
  unfold image
  rw [collection_small, p.sm]
  congr 1
  refine List.map_congr_left fun x hx => ?_
  have hk := collection_kind v (.inl hx)
  unfold enc
  rw [hk.1, hk.2.1, hk.2.2.1]
  congr 1
  exact List.map_congr_left fun r hr => p.cref v (gcEnd_closed v (.inl hx) r hr)
theorem Alike.image (a : Alike t s) : t.image = s.image := by
  unfold RS.image
  rw [a.small]
  congr 1
  refine List.map_congr_left fun x hx => ?_
  unfold enc
  rw [a.obj]
  congr 1
  refine List.map_congr_left fun r _ => ?_
  unfold RS.ref
  rw [a.obj]
theorem become_half (n : Nat) : (s.become n).half = n := by unfold become; split <;> first | (rename_i e; exact e.symm) | rfl
theorem fit_half (s : RS) : (s.fit 0).half = (if 3 * s.half < 4 * s.used then (if s.half < min (want s.used) ((s.limit - s.large) / 2) then min (want s.used) ((s.limit - s.large) / 2) else s.half)
    else if 64 < s.half ∧ 8 * s.used < s.half then want s.used else s.half) := by
  unfold fit
  rw [Nat.add_zero]
  split
  · split
    · exact become_half _
    · rfl
  · split
    · exact become_half _
    · rfl
theorem fit_again (h1 : t.half = (s.fit 0).half) (h2 : t.used = s.used) (h3 : t.large = s.large) (h4 : t.limit = s.limit) : (t.fit 0).half = t.half := by
  rw [fit_half s] at h1
  rw [fit_half t, h2, h3, h4]
  obtain ⟨w1, w2, w3⟩ := want_facts s.used
  generalize hm : min (want s.used) ((s.limit - s.large) / 2) = m at *
  have hm1 : m ≤ want s.used := by rw [← hm]; exact Nat.min_le_left _ _
  generalize want s.used = w at *
  by_cases c1 : 3 * s.half < 4 * s.used
  · rw [if_pos c1] at h1
    by_cases c2 : s.half < m
    · rw [if_pos c2] at h1
      by_cases c3 : 3 * t.half < 4 * s.used
      · rw [if_pos c3, if_neg (by omega)]
      · rw [if_neg c3, if_neg (by omega)]
    · rw [if_neg c2] at h1
      rw [if_pos (by omega), if_neg (by omega)]
  · rw [if_neg c1] at h1
    by_cases c2 : 64 < s.half ∧ 8 * s.used < s.half
    · rw [if_pos c2] at h1
      rw [if_neg (by omega), if_neg (by omega)]
    · rw [if_neg c2] at h1
      rw [if_neg (by omega), if_neg (by omega)]
theorem fit_coll (n : Nat) : (s.fit n).coll = s.coll := by
  have hb : ∀ m, (s.become m).coll = s.coll := fun m => by unfold become; split <;> rfl
  unfold fit
  split
  · split
    · exact hb _
    · rfl
  · split
    · exact hb _
    · rfl
/-- A second collection: the image, the half, the blocks and the slots are as they were. -/
structure Again (t s : RS) : Prop where
  image : t.image = s.image
  half : t.half = s.half
  used : t.used = s.used
  large : t.large = s.large
  slots : t.slotsN = s.slotsN
  coll : t.coll = IntKind.wrap .i64 (s.coll + 1)
  limit : t.limit = s.limit
theorem collect_again (v : s.Inv) : Again s.collect.collect s.collect := by
  have p := collect_packed v
  have v1 := v.collect
  have a1 := fit_alike s.collect.collection 0
  have a0 := fit_alike s.collection 0
  have e1 : s.collect.used = s.collection.used := a0.used
  have e2 : s.collect.large = s.collection.large := a0.large
  refine ⟨a1.image.trans (p.cimage v1), ?_, a1.used.trans (p.cused v1), a1.large.trans (p.clarge v1), ?_, ?_, a1.limit⟩
  · refine fit_again (s := s.collection) (t := s.collect.collection) rfl ?_ ?_ ?_
    · rw [p.cused v1]; exact e1
    · rw [p.clarge v1]; exact e2
    · exact a0.limit
  · show (s.collect.collection.fit 0).slotsN = _
    unfold slotsN
    rw [a1.slots, p.cslots v1]
  · show (s.collect.collection.fit 0).coll = _
    rw [fit_coll]
    rfl
theorem become_resz (n : Nat) : (s.become n).resz = if n = s.half then s.resz else IntKind.wrap .i64 (s.resz + 1) := by unfold become; split <;> rfl
/-- Resize of a packed heap. -/
theorem resize_packed_image (v : s.Inv) (p : s.Packed) (n : Int) : (s.resize n).1.image = s.image := by
  unfold resize
  split
  · rfl
  · split
    · exact p.cimage v
    · exact (become_alike s.collection _).image.trans (p.cimage v)
theorem resize_small (v : s.Inv) {n : Int} (h : n < 64 ∨ n > 524288) : s.resize n = (s, 36) := by unfold resize; rw [if_pos h]
theorem resize_full (v : s.Inv) (p : s.Packed) {n : Int} (h : ¬ (n < 64 ∨ n > 524288)) (h2 : (s.used : Int) > n ∨ 2 * n + s.large > s.limit) : s.resize n = (s.collection, 31) := by
  unfold resize
  rw [if_neg h, if_pos (by rw [p.cused v, p.clarge v]; exact h2)]
theorem resize_done (v : s.Inv) (p : s.Packed) {n : Int} (h : ¬ (n < 64 ∨ n > 524288)) (h2 : ¬ ((s.used : Int) > n ∨ 2 * n + s.large > s.limit)) : s.resize n = (s.collection.become n.toNat, 0) := by
  unfold resize
  rw [if_neg h, if_neg (by rw [p.cused v, p.clarge v]; exact h2)]
end
end RS
end Go.Ev
set_option linter.all false
set_option maxRecDepth 1000000
namespace Go.Ev
open Go.Proofs
/-- The image and the numbers, taken in any order. -/
def SnapT (x3 : Option Addr) (h : Hp) (Kq : Sl → Addr → Hp → Prop) : Prop :=
  PtrOk x3 fun p73 => ∃ t75 : Option Addr, cell h p73 = some (.pointer t75) ∧ PtrOk x3 fun p78 => ∃ t80 : Option Addr, cell h p78 = some (.pointer t80) ∧ (CallTo Go.Proofs.Try.prog 22 #[.pointer t75] h fun r h29 => ∃ t76 : Sl, r = .slice t76.a t76.n t76.c ∧ (∃ y0 : Option Addr, cell h29 p78 = some (.pointer y0) ∧ Next.value (.pointer y0) = Next.value (.pointer t80)) ∧ (CallTo Go.Proofs.Try.prog 23 #[.pointer t80] h29 fun r h30 => ∃ t81_0 : Int, ∃ t81_1 : Int, ∃ t81_2 : Int, ∃ t81_3 : Int, ∃ t81_4 : Int, ∃ t81_5 : Int, ∃ t81_6 : Int, ∃ t81_7 : Int, ∃ t81_8 : Int, r = .agg #[.int .i64 t81_0, .int .i64 t81_1, .int .i64 t81_2, .int .i64 t81_3, .int .i64 t81_4, .int .i64 t81_5, .int .i64 t81_6, .int .i64 t81_7, .int .i64 t81_8] ∧ Let (h30.push (.cells #[.int .i64 0, .int .i64 0, .int .i64 0, .int .i64 0, .int .i64 0, .int .i64 0, .int .i64 0, .int .i64 0, .int .i64 0] 48)) fun h31 => stOk h31 (nb h30) ∧ Let (setc h31 (nb h30) (.int .i64 t81_0)) fun h32 => stOk h32 ((nb h30).add 1) ∧ Let (setc h32 ((nb h30).add 1) (.int .i64 t81_1)) fun h33 => stOk h33 ((nb h30).add 2) ∧ Let (setc h33 ((nb h30).add 2) (.int .i64 t81_2)) fun h34 => stOk h34 ((nb h30).add 3) ∧ Let (setc h34 ((nb h30).add 3) (.int .i64 t81_3)) fun h35 => stOk h35 ((nb h30).add 4) ∧ Let (setc h35 ((nb h30).add 4) (.int .i64 t81_4)) fun h36 => stOk h36 ((nb h30).add 5) ∧ Let (setc h36 ((nb h30).add 5) (.int .i64 t81_5)) fun h37 => stOk h37 ((nb h30).add 6) ∧ Let (setc h37 ((nb h30).add 6) (.int .i64 t81_6)) fun h38 => stOk h38 ((nb h30).add 7) ∧ Let (setc h38 ((nb h30).add 7) (.int .i64 t81_7)) fun h39 => stOk h39 ((nb h30).add 8) ∧ Let (setc h39 ((nb h30).add 8) (.int .i64 t81_8)) fun h40 => Kq t76 (nb h30) h40) ∧ (Let (h29.push (.cells #[.int .i64 0, .int .i64 0, .int .i64 0, .int .i64 0, .int .i64 0, .int .i64 0, .int .i64 0, .int .i64 0, .int .i64 0] 48)) fun h84 => (∃ y0 : Option Addr, cell h84 p78 = some (.pointer y0) ∧ Next.value (.pointer y0) = Next.value (.pointer t80)) ∧ CallTo Go.Proofs.Try.prog 23 #[.pointer t80] h84 fun r h85 => ∃ t81_0 : Int, ∃ t81_1 : Int, ∃ t81_2 : Int, ∃ t81_3 : Int, ∃ t81_4 : Int, ∃ t81_5 : Int, ∃ t81_6 : Int, ∃ t81_7 : Int, ∃ t81_8 : Int, r = .agg #[.int .i64 t81_0, .int .i64 t81_1, .int .i64 t81_2, .int .i64 t81_3, .int .i64 t81_4, .int .i64 t81_5, .int .i64 t81_6, .int .i64 t81_7, .int .i64 t81_8] ∧ stOk h85 (nb h29) ∧ Let (setc h85 (nb h29) (.int .i64 t81_0)) fun h86 => stOk h86 ((nb h29).add 1) ∧ Let (setc h86 ((nb h29).add 1) (.int .i64 t81_1)) fun h87 => stOk h87 ((nb h29).add 2) ∧ Let (setc h87 ((nb h29).add 2) (.int .i64 t81_2)) fun h88 => stOk h88 ((nb h29).add 3) ∧ Let (setc h88 ((nb h29).add 3) (.int .i64 t81_3)) fun h89 => stOk h89 ((nb h29).add 4) ∧ Let (setc h89 ((nb h29).add 4) (.int .i64 t81_4)) fun h90 => stOk h90 ((nb h29).add 5) ∧ Let (setc h90 ((nb h29).add 5) (.int .i64 t81_5)) fun h91 => stOk h91 ((nb h29).add 6) ∧ Let (setc h91 ((nb h29).add 6) (.int .i64 t81_6)) fun h92 => stOk h92 ((nb h29).add 7) ∧ Let (setc h92 ((nb h29).add 7) (.int .i64 t81_7)) fun h93 => stOk h93 ((nb h29).add 8) ∧ Let (setc h93 ((nb h29).add 8) (.int .i64 t81_8)) fun h94 => Kq t76 (nb h29) h94)) ∧ (Let (h.push (.cells #[.int .i64 0, .int .i64 0, .int .i64 0, .int .i64 0, .int .i64 0, .int .i64 0, .int .i64 0, .int .i64 0, .int .i64 0] 48)) fun h95 => (∃ y0 : Option Addr, cell h95 p78 = some (.pointer y0) ∧ Next.value (.pointer y0) = Next.value (.pointer t80)) ∧ (∃ y0 : Option Addr, cell h95 p73 = some (.pointer y0) ∧ Next.value (.pointer y0) = Next.value (.pointer t75)) ∧ CallTo Go.Proofs.Try.prog 22 #[.pointer t75] h95 fun r h96 => ∃ t76 : Sl, r = .slice t76.a t76.n t76.c ∧ (∃ y0 : Option Addr, cell h96 p78 = some (.pointer y0) ∧ Next.value (.pointer y0) = Next.value (.pointer t80)) ∧ CallTo Go.Proofs.Try.prog 23 #[.pointer t80] h96 fun r h97 => ∃ t81_0 : Int, ∃ t81_1 : Int, ∃ t81_2 : Int, ∃ t81_3 : Int, ∃ t81_4 : Int, ∃ t81_5 : Int, ∃ t81_6 : Int, ∃ t81_7 : Int, ∃ t81_8 : Int, r = .agg #[.int .i64 t81_0, .int .i64 t81_1, .int .i64 t81_2, .int .i64 t81_3, .int .i64 t81_4, .int .i64 t81_5, .int .i64 t81_6, .int .i64 t81_7, .int .i64 t81_8] ∧ stOk h97 (nb h) ∧ Let (setc h97 (nb h) (.int .i64 t81_0)) fun h98 => stOk h98 ((nb h).add 1) ∧ Let (setc h98 ((nb h).add 1) (.int .i64 t81_1)) fun h99 => stOk h99 ((nb h).add 2) ∧ Let (setc h99 ((nb h).add 2) (.int .i64 t81_2)) fun h100 => stOk h100 ((nb h).add 3) ∧ Let (setc h100 ((nb h).add 3) (.int .i64 t81_3)) fun h101 => stOk h101 ((nb h).add 4) ∧ Let (setc h101 ((nb h).add 4) (.int .i64 t81_4)) fun h102 => stOk h102 ((nb h).add 5) ∧ Let (setc h102 ((nb h).add 5) (.int .i64 t81_5)) fun h103 => stOk h103 ((nb h).add 6) ∧ Let (setc h103 ((nb h).add 6) (.int .i64 t81_6)) fun h104 => stOk h104 ((nb h).add 7) ∧ Let (setc h104 ((nb h).add 7) (.int .i64 t81_7)) fun h105 => stOk h105 ((nb h).add 8) ∧ Let (setc h105 ((nb h).add 8) (.int .i64 t81_8)) fun h106 => Kq t76 (nb h) h106)
def statC (s : RS) : List Value := [.int .i64 (s.limit : Nat), .int .i64 (s.half : Nat), .int .i64 (s.used : Nat), .int .i64 (s.large : Nat), .int .i64 (s.slotsN : Nat), .int .i64 (s.rootsN : Nat), .int .i64 s.coll, .int .i64 s.resz, .int .i64 (s.moved : Nat)]
/-- What follows the numbers behind Resize. -/
def TailT (J1 : Nat → Addr → Option Addr → Int → Hp → Prop) (n1 : Nat) (x1 : Addr) (x3 : Option Addr) (x5 : Int) (x6 : Addr) (x7 : Sl) (x10 : Addr) (t121 : Int) (R : Value → Hp → Prop) (x12 : Sl) (x13 : Addr) (h : Hp) : Prop :=
  CallTo Go.Proofs.Try.prog 24 #[.slice x7.a x7.n x7.c, .slice x12.a x12.n x12.c] h fun r h55 => ∃ t134 : Bool, r = .bool t134 ∧ Cond (!t134) (R (.bool false : Value) h55) (∃ t138 : Int, cell h55 (x6.add 1) = some (.int .i64 t138) ∧ ∃ t140_0 : Int, cell h55 x10 = some (.int .i64 t140_0) ∧ ∃ t140_1 : Int, cell h55 (x10.add 1) = some (.int .i64 t140_1) ∧ ∃ t140_2 : Int, cell h55 (x10.add 2) = some (.int .i64 t140_2) ∧ ∃ t140_3 : Int, cell h55 (x10.add 3) = some (.int .i64 t140_3) ∧ ∃ t140_4 : Int, cell h55 (x10.add 4) = some (.int .i64 t140_4) ∧ ∃ t140_5 : Int, cell h55 (x10.add 5) = some (.int .i64 t140_5) ∧ ∃ t140_6 : Int, cell h55 (x10.add 6) = some (.int .i64 t140_6) ∧ ∃ t140_7 : Int, cell h55 (x10.add 7) = some (.int .i64 t140_7) ∧ ∃ t140_8 : Int, cell h55 (x10.add 8) = some (.int .i64 t140_8) ∧ ∃ t141_0 : Int, cell h55 x13 = some (.int .i64 t141_0) ∧ ∃ t141_1 : Int, cell h55 (x13.add 1) = some (.int .i64 t141_1) ∧ ∃ t141_2 : Int, cell h55 (x13.add 2) = some (.int .i64 t141_2) ∧ ∃ t141_3 : Int, cell h55 (x13.add 3) = some (.int .i64 t141_3) ∧ ∃ t141_4 : Int, cell h55 (x13.add 4) = some (.int .i64 t141_4) ∧ ∃ t141_5 : Int, cell h55 (x13.add 5) = some (.int .i64 t141_5) ∧ ∃ t141_6 : Int, cell h55 (x13.add 6) = some (.int .i64 t141_6) ∧ ∃ t141_7 : Int, cell h55 (x13.add 7) = some (.int .i64 t141_7) ∧ ∃ t141_8 : Int, cell h55 (x13.add 8) = some (.int .i64 t141_8) ∧ CallTo Go.Proofs.Try.prog 26 #[.int .i64 t138, .int .i64 t121, .agg #[.int .i64 t140_0, .int .i64 t140_1, .int .i64 t140_2, .int .i64 t140_3, .int .i64 t140_4, .int .i64 t140_5, .int .i64 t140_6, .int .i64 t140_7, .int .i64 t140_8], .agg #[.int .i64 t141_0, .int .i64 t141_1, .int .i64 t141_2, .int .i64 t141_3, .int .i64 t141_4, .int .i64 t141_5, .int .i64 t141_6, .int .i64 t141_7, .int .i64 t141_8]] h55 fun r h56 => ∃ t142 : Bool, r = .bool t142 ∧ Cond (!t142) (R (.bool false : Value) h56) (∃ m, m < n1 ∧ J1 m x1 x3 (IntKind.wrap .i64 (x5 + (1 : Int))) h56))
/-- A new block, and only it is written. -/
structure NB3 (h h1 : Hp) (b : Nat) (cs : List Value) (h' : Hp) : Prop where
  row : Row h' b cs
  k : Kept N h h'
  k1 : Kept (fun i => i = b) h1 h'
  ge : h.size ≤ b
theorem NB3.new (h : Hp) (arr : Array Value) (t : TypeId) : NB3 h h h.size arr.toList (h.push (.cells arr t)) := ⟨row_new h arr t, kept_push _ _ _, kept_push _ _ _, Nat.le_refl _⟩
theorem NB3.st {h h1 h' : Hp} {b : Nat} {cs : List Value} (w : NB3 h h1 b cs h') {a : Addr} {i : Nat} {v : Value} (ha : a = ⟨b, i, none⟩) (hi : i < cs.length) {K : Hp → Prop} (hK : ∀ h'', NB3 h h1 b (cs.set i v) h'' → K h'') : Go.Ev.stOk h' a ∧ Let (setc h' a v) fun h'' => K h'' :=
  row_st w.row ha hi fun h'' r k => hK h'' ⟨r, ⟨Nat.le_trans w.k.1 k.1, fun i hi _ => (k.2 i (Nat.lt_of_lt_of_le hi w.k.1) (fun e => by have := w.ge; omega)).trans (w.k.2 i hi id)⟩, w.k1.trans k, w.ge⟩
section
variable {h h' hB : Hp} {sb zb : Nat} {D D' : ShD} {sl : Sl} {ops : List MvL} {o : MvL} {k : Nat}
theorem snap_ok (x : Shw h sb D) {Kq : Sl → Addr → Hp → Prop}
    (hK : ∀ h' b c tb, Kept N h h' → SlAt 1 h' (some (ad b)) D.s.used c (some b) (D.s.image.map uv) → Row h' tb (statC D.s) → h.size ≤ b → h.size ≤ tb → Kq ⟨some (ad b), D.s.used, c⟩ (ad tb) h') : SnapT (some (ad sb)) h Kq := by
  unfold SnapT
  have enb : ∀ h0 : Hp, Go.Ev.nb h0 = ad h0.size := fun _ => rfl
  have ex : ∀ h', Kept N h h' → ∃ y0 : Option Addr, cell h' (ad sb) = some (.pointer y0) ∧ Next.value (.pointer y0) = Next.value (.pointer (some (ad D.hb))) := fun h' k' => ⟨_, (x.keepN k').m.p, rfl⟩
  refine PtrOk_mk ⟨_, x.m.p, PtrOk_mk ⟨_, x.m.p, ?_, ?_⟩⟩
  · refine himage_ok x.v x.rp fun b c h1 sA fb k1 => ⟨⟨some (ad b), D.s.used, c⟩, rfl, ex h1 k1, ?_, ?_⟩
    · refine hstats_ok (x.keepN k1).v (x.keepN k1).rp fun h2 k2 => ⟨_, _, _, _, _, _, _, _, _, rfl, Let_mk fun h3 e3 => ?_⟩
      rw [enb]
      have w0 : NB3 h2 h2 h2.size _ h3 := e3 ▸ NB3.new h2 _ 48
      refine w0.st (i := 0) (rfl) (by show 0 < 9; omega) fun h10 w1 => ?_
      refine w1.st (i := 1) (add_ad _ _) (by show 1 < 9; omega) fun h11 w2 => ?_
      refine w2.st (i := 2) (add_ad _ _) (by show 2 < 9; omega) fun h12 w3 => ?_
      refine w3.st (i := 3) (add_ad _ _) (by show 3 < 9; omega) fun h13 w4 => ?_
      refine w4.st (i := 4) (add_ad _ _) (by show 4 < 9; omega) fun h14 w5 => ?_
      refine w5.st (i := 5) (add_ad _ _) (by show 5 < 9; omega) fun h15 w6 => ?_
      refine w6.st (i := 6) (add_ad _ _) (by show 6 < 9; omega) fun h16 w7 => ?_
      refine w7.st (i := 7) (add_ad _ _) (by show 7 < 9; omega) fun h17 w8 => ?_
      refine w8.st (i := 8) (add_ad _ _) (by show 8 < 9; omega) fun h18 w9 => ?_
      exact hK h18 b c h2.size ((k1.trans k2).trans w9.k) (sA.keep fun b' e => by obtain rfl := Option.some.inj e; exact (k2.trans w9.k).2 b sA.lt id) w9.row fb (Nat.le_trans k1.1 k2.1)
    · refine Let_mk fun h2 e2 => ?_
      have w0 : NB3 h1 h1 h1.size _ h2 := e2 ▸ NB3.new h1 _ 48
      have kk := k1.trans w0.k
      refine ⟨ex h2 kk, hstats_ok (x.keepN kk).v (x.keepN kk).rp fun h3 k3 => ⟨_, _, _, _, _, _, _, _, _, rfl, ?_⟩⟩
      rw [enb]
      have w0 : NB3 h1 h1 h1.size _ h3 := ⟨kept_row k3 w0.row id, w0.k.trans k3, w0.k1.trans (k3.mono fun _ _ e => e.elim), Nat.le_refl _⟩
      refine w0.st (i := 0) (rfl) (by show 0 < 9; omega) fun h10 w1 => ?_
      refine w1.st (i := 1) (add_ad _ _) (by show 1 < 9; omega) fun h11 w2 => ?_
      refine w2.st (i := 2) (add_ad _ _) (by show 2 < 9; omega) fun h12 w3 => ?_
      refine w3.st (i := 3) (add_ad _ _) (by show 3 < 9; omega) fun h13 w4 => ?_
      refine w4.st (i := 4) (add_ad _ _) (by show 4 < 9; omega) fun h14 w5 => ?_
      refine w5.st (i := 5) (add_ad _ _) (by show 5 < 9; omega) fun h15 w6 => ?_
      refine w6.st (i := 6) (add_ad _ _) (by show 6 < 9; omega) fun h16 w7 => ?_
      refine w7.st (i := 7) (add_ad _ _) (by show 7 < 9; omega) fun h17 w8 => ?_
      refine w8.st (i := 8) (add_ad _ _) (by show 8 < 9; omega) fun h18 w9 => ?_
      exact hK h18 b c h1.size (k1.trans w9.k) (sA.keep fun b' e => by obtain rfl := Option.some.inj e; exact w9.k.2 b sA.lt id) w9.row fb k1.1
  · refine Let_mk fun h1 e1 => ?_
    have v0 : NB3 h h h.size _ h1 := e1 ▸ NB3.new h _ 48
    have hz : h.size < h1.size := row_lt v0.row
    refine ⟨ex h1 v0.k, ex h1 v0.k, himage_ok (x.keepN v0.k).v (x.keepN v0.k).rp fun b c h2 sA fb k2 => ⟨⟨some (ad b), D.s.used, c⟩, rfl, ex h2 (v0.k.trans k2), ?_⟩⟩
    have x2 := (x.keepN v0.k).keepN k2
    refine hstats_ok x2.v x2.rp fun h3 k3 => ⟨_, _, _, _, _, _, _, _, _, rfl, ?_⟩
    rw [enb]
    have w0 : NB3 h h2 h.size _ h3 := ⟨kept_row (k2.trans k3) v0.row id, (v0.k.trans k2).trans k3, k3.mono fun _ _ e => e.elim, Nat.le_refl _⟩
    refine w0.st (i := 0) (rfl) (by show 0 < 9; omega) fun h10 w1 => ?_
    refine w1.st (i := 1) (add_ad _ _) (by show 1 < 9; omega) fun h11 w2 => ?_
    refine w2.st (i := 2) (add_ad _ _) (by show 2 < 9; omega) fun h12 w3 => ?_
    refine w3.st (i := 3) (add_ad _ _) (by show 3 < 9; omega) fun h13 w4 => ?_
    refine w4.st (i := 4) (add_ad _ _) (by show 4 < 9; omega) fun h14 w5 => ?_
    refine w5.st (i := 5) (add_ad _ _) (by show 5 < 9; omega) fun h15 w6 => ?_
    refine w6.st (i := 6) (add_ad _ _) (by show 6 < 9; omega) fun h16 w7 => ?_
    refine w7.st (i := 7) (add_ad _ _) (by show 7 < 9; omega) fun h17 w8 => ?_
    refine w8.st (i := 8) (add_ad _ _) (by show 8 < 9; omega) fun h18 w9 => ?_
    exact hK h18 b c h.size w9.k (sA.keep fun b' e => by obtain rfl := Option.some.inj e; exact w9.k1.2 b sA.lt (by omega)) w9.row (Nat.le_trans v0.k.1 fb) (Nat.le_refl _)
theorem resized_ok {a e u0 u1 u2 u3 u4 u5 u6 u7 u8 v0 v1 v2 v3 v4 v5 v6 v7 v8 : Int} {R : Value → Hp → Prop} (hw : IntKind.wrap .i64 (IntKind.wrap .i64 ((2 : Int) * a) + u3) = 2 * a + u3 ∨ (a < 64 ∨ a > 524288))
    (h1 : (a < 64 ∨ a > 524288) → e = 36 ∧ (v0 = u0 ∧ v1 = u1 ∧ v2 = u2 ∧ v3 = u3 ∧ v4 = u4 ∧ v5 = u5 ∧ v6 = u6 ∧ v7 = u7 ∧ v8 = u8)) (h2 : ¬ (a < 64 ∨ a > 524288) → (u2 > a ∨ 2 * a + u3 > u0) → e = 31 ∧ v1 = u1 ∧ v7 = u7)
    (h3 : ¬ (a < 64 ∨ a > 524288) → ¬ (u2 > a ∨ 2 * a + u3 > u0) → e = 0 ∧ v1 = a ∧ v7 = (if a = u1 then IntKind.wrap .i64 (u7 + 0) else IntKind.wrap .i64 (u7 + 1)) ∧ v3 = u3)
    (hR : ∀ h', Kept N h h' → R (.bool true) h') : CallTo Try.prog 26 #[.int .i64 a, .int .i64 e, .agg #[.int .i64 u0, .int .i64 u1, .int .i64 u2, .int .i64 u3, .int .i64 u4, .int .i64 u5, .int .i64 u6, .int .i64 u7, .int .i64 u8], .agg #[.int .i64 v0, .int .i64 v1, .int .i64 v2, .int .i64 v3, .int .i64 v4, .int .i64 v5, .int .i64 v6, .int .i64 v7, .int .i64 v8]] h R := by
  refine f26F_ok ?_
  unfold f26F
  refine Let_mk fun g1 e1 => Let_mk fun g2 e2 => ?_
  have k1 : Kept N h g1 := e1 ▸ kept_push _ _ _
  have k2 : Kept N g1 g2 := e2 ▸ kept_push _ _ _
  have rowU : Row g2 h.size [.int .i64 u0, .int .i64 u1, .int .i64 u2, .int .i64 u3, .int .i64 u4, .int .i64 u5, .int .i64 u6, .int .i64 u7, .int .i64 u8] := kept_row k2 (e1 ▸ row_new h _ 48) id
  have rowV : Row g2 g1.size [.int .i64 v0, .int .i64 v1, .int .i64 v2, .int .i64 v3, .int .i64 v4, .int .i64 v5, .int .i64 v6, .int .i64 v7, .int .i64 v8] := e2 ▸ row_new g1 _ 48
  have hr := hR g2 (k1.trans k2)
  have cU : ∀ j, cell g2 ((nb h).add j) = ([.int .i64 u0, .int .i64 u1, .int .i64 u2, .int .i64 u3, .int .i64 u4, .int .i64 u5, .int .i64 u6, .int .i64 u7, .int .i64 u8] : List Value)[j]? := fun j => by show cell g2 ((ad h.size).add j) = _; rw [add_ad]; exact cell_row rowU j
  have cV : ∀ j, cell g2 ((nb g1).add j) = ([.int .i64 v0, .int .i64 v1, .int .i64 v2, .int .i64 v3, .int .i64 v4, .int .i64 v5, .int .i64 v6, .int .i64 v7, .int .i64 v8] : List Value)[j]? := fun j => by show cell g2 ((ad g1.size).add j) = _; rw [add_ad]; exact cell_row rowV j
  have cU0 : cell g2 (nb h) = some (.int .i64 u0) := (cell_row rowU 0).trans rfl
  have cV0 : cell g2 (nb g1) = some (.int .i64 v0) := (cell_row rowV 0).trans rfl
  have main : ∀ b, b = decide (a < 64 ∨ a > 524288) → f26K1 a e (nb h) (nb g1) b g2 R := fun b hb => by
    unfold f26K1
    subst hb
    refine Cond_dec (fun hc => ?_) fun hc => ?_
    · obtain ⟨rfl, rfl, rfl, rfl, rfl, rfl, rfl, rfl, rfl, rfl⟩ := h1 hc
      refine Cond_t rfl ⟨_, cV0, _, (cV 1).trans rfl, _, (cV 2).trans rfl, _, (cV 3).trans rfl, _, (cV 4).trans rfl, _, (cV 5).trans rfl, _, (cV 6).trans rfl, _, (cV 7).trans rfl, _, (cV 8).trans rfl, _, cU0, _, (cU 1).trans rfl, _, (cU 2).trans rfl, _, (cU 3).trans rfl, _, (cU 4).trans rfl, _, (cU 5).trans rfl, _, (cU 6).trans rfl, _, (cU 7).trans rfl, _, (cU 8).trans rfl, ?_⟩
      simp only [beq_self_eq_true, Bool.and_true]
      exact hr
    · have hw := hw.resolve_right hc
      have full : u2 > a ∨ 2 * a + u3 > u0 → Cond (e == (31 : Int)) (∃ t41 : Int, cell g2 ((nb g1).add 1) = some (.int .i64 t41) ∧ ∃ t43 : Int, cell g2 ((nb h).add 1) = some (.int .i64 t43) ∧ Cond (t41 == t43) (∃ t48 : Int, cell g2 ((nb g1).add 7) = some (.int .i64 t48) ∧ ∃ t50 : Int, cell g2 ((nb h).add 7) = some (.int .i64 t50) ∧ R ((.bool (t48 == t50) : Value)) g2) (R (.bool false : Value) g2)) (R (.bool false : Value) g2) := fun hf => by
        obtain ⟨rfl, rfl, rfl⟩ := h2 hc hf
        refine Cond_t rfl ⟨_, (cV 1).trans rfl, _, (cU 1).trans rfl, Cond_t (beq_self_eq_true _) ⟨_, (cV 7).trans rfl, _, (cU 7).trans rfl, ?_⟩⟩
        rw [beq_self_eq_true]
        exact hr
      refine ⟨_, (cU 2).trans rfl, Cond_dec (fun hf => full (.inl hf)) fun hf => ⟨_, (cU 3).trans rfl, _, cU0, ?_⟩⟩
      rw [hw]
      refine Cond_dec (fun hf2 => full (.inr hf2)) fun hf2 => ⟨_, (cU 1).trans rfl, ?_⟩
      obtain ⟨rfl, rfl, q, rfl⟩ := h3 hc (fun h => h.elim hf hf2)
      refine Cond_b (fun hne => ?_) fun heq => ?_
      · have hne : ¬ v1 = u1 := by simpa using hne
        rw [if_neg hne] at q
        subst q
        refine Cond_t rfl ⟨_, (cV 1).trans rfl, Cond_t (beq_self_eq_true _) ⟨_, (cV 7).trans rfl, _, (cU 7).trans rfl, Cond_t (beq_self_eq_true _) ⟨_, (cV 3).trans rfl, _, (cU 3).trans rfl, ?_⟩⟩⟩
        rw [beq_self_eq_true]
        exact hr
      · have heq : v1 = u1 := by simpa using heq
        rw [if_pos heq] at q
        subst q
        refine Cond_t rfl ⟨_, (cV 1).trans rfl, Cond_t (beq_self_eq_true _) ⟨_, (cV 7).trans rfl, _, (cU 7).trans rfl, Cond_t (beq_self_eq_true _) ⟨_, (cV 3).trans rfl, _, (cU 3).trans rfl, ?_⟩⟩⟩
        rw [beq_self_eq_true]
        exact hr
  refine Cond_dec (fun hc => main _ (decide_eq_true (.inl hc)).symm) fun hc => main _ ?_
  by_cases hd : a > 524288
  · rw [decide_eq_true hd, decide_eq_true (.inr hd)]
  · rw [decide_eq_false hd, decide_eq_false (by omega)]
theorem Lp.same (l : Lp hB h sb D k) (x : Shw h' sb D') (c : Coh D') (st : Sts h D h' D') (a : D'.s.objs.length = D.s.objs.length) (b : D'.s.roots.length = D.s.roots.length) : Lp hB h' sb D' k :=
  ⟨x, c, ⟨Nat.le_trans l.kp.1 st.1.1, fun i hi _ => (st.1.2 i (Nat.lt_of_lt_of_le hi l.kp.1) fun e => by have := l.nw i e; omega).trans (l.kp.2 i hi id)⟩,
    fun i hi => (st.2 i hi).elim (l.nw i) fun e => Nat.le_trans l.kp.1 e, by have := l.ol; omega, by have := l.rl; omega⟩
theorem Shw.resizes (x : Shw h sb D) (c : Coh D) {a : Int} {R : Value → Hp → Prop}
    (hR : ∀ h' D', Shw h' sb D' → Coh D' → Sts h D h' D' → D'.s = (D.s.resize a).1 → R (.int .i64 (D.s.resize a).2) h') : CallTo Try.prog 25 #[.pointer (some (ad D.hb)), .int .i64 a] h R :=
  hresize_ok x.v x.rp fun h3 role' G' sp' rp' ex => by
    obtain ⟨x3, s3⟩ := x.prog rp' ex (x.v.resize a)
    have sub := RS.Sub.resize x.v a
    exact hR h3 _ x3 ⟨RS.resize_lm c.lm, c.rt.trans sub.roots.symm, c.sh.sub sub⟩ s3 rfl
theorem Sts.nf (st : Sts h D h' D') {b : Nat} (nf : ¬ D.foot b) (hb : b < h.size) : ¬ D'.foot b := fun hf => (st.2 b hf).elim nf fun e => by omega
theorem fresh_nf (x : Shw h sb D) {b : Nat} (hb : h.size ≤ b) : ¬ D.foot b := fun hf => by have := x.foot_lt hf; omega
/-- What a snap has taken. -/
structure Snap (s : RS) (a : Sl) (tb : Nat) (D : ShD) (h : Hp) : Prop where
  rd : ReadsO h a.a (s.image.map uv)
  n : a.n = s.image.length
  row : Row h tb (statC s)
  bb : ∀ p, a.a = some p → p.block < h.size ∧ ¬ D.foot p.block
  tl : tb < h.size
  tf : ¬ D.foot tb
theorem Snap.keep {s : RS} {a : Sl} {tb : Nat} (q : Snap s a tb D h) (st : Sts h D h' D') : Snap s a tb D' h' :=
  ⟨reads_kept st.1 q.rd fun p hp => q.bb p hp, q.n, kept_row st.1 q.row q.tf, fun p hp => ⟨Nat.lt_of_lt_of_le (q.bb p hp).1 st.1.1, st.nf (q.bb p hp).2 (q.bb p hp).1⟩, Nat.lt_of_lt_of_le q.tl st.1.1, st.nf q.tf q.tl⟩
theorem Snap.of (x : Shw h sb D) (k : Kept N h h') {b c tb : Nat} (sA : SlAt 1 h' (some (ad b)) D.s.used c (some b) (D.s.image.map uv)) (row : Row h' tb (statC D.s)) (hb : h.size ≤ b) (ht : h.size ≤ tb) : Snap D.s ⟨some (ad b), D.s.used, c⟩ tb D h' :=
  ⟨slAt_reads sA, by have := sA.len; rw [List.length_map] at this; show D.s.used = _; omega, row, fun p hp => by obtain rfl := Option.some.inj hp; exact ⟨sA.lt, fresh_nf x hb⟩, row_lt row, fresh_nf x ht⟩
theorem Snap.c {s : RS} {a : Sl} {tb : Nat} (q : Snap s a tb D h) (j : Nat) : cell h ((ad tb).add j) = (statC s)[j]? := by rw [add_ad]; exact cell_row q.row j
theorem image_len (v : D.s.Inv) : D.s.image.length = D.s.used := by
  unfold RS.image
  exact (RS.used_map (fun id => D.s.enc_size id) _).trans v.u1.symm
theorem settle_round {mb : Nat} (l : Lp hB h sb D k) (row : Row h mb o.cells) (nf : ¬ D.foot mb) {J1 : Nat → Addr → Option Addr → Int → Hp → Prop} {n1 : Nat} {x1 : Addr} {x5 : Int} {R : Value → Hp → Prop}
    (hJ : ∀ h' D', Lp hB h' sb D' k → ∃ m, m < n1 ∧ J1 m x1 (some (ad sb)) (IntKind.wrap .i64 (x5 + (1 : Int))) h') : f7K1 J1 n1 x1 (some (ad sb)) x5 (ad mb) false h R := by
  unfold f7K1
  refine Cond_f rfl (PtrOk_mk ⟨_, l.x.m.p, l.x.collects l.c fun h1 D1 x1' c1 s1 e1 ey1 => ⟨rfl, ?_⟩⟩)
  have sub1 := RS.Sub.collect l.x.v
  have l1 := l.same x1' c1 s1 (by rw [e1]; exact sub1.len) (by rw [e1, sub1.roots])
  have row1 := kept_row s1.1 row nf
  have nf1 := s1.nf nf (row_lt row)
  clear row nf
  show SnapT (some (ad sb)) h1 fun sl a g => f7K2 J1 n1 x1 (some (ad sb)) x5 (ad mb) sl a g R
  refine snap_ok x1' fun h2 b1 q1 t1 k2 sA1 rowT1 hb1 ht1 => ?_
  have q := Snap.of x1' k2 sA1 rowT1 hb1 ht1
  have l2 := l1.keepN k2
  have row2 := kept_row k2 row1 id
  generalize (⟨some (ad b1), D1.s.used, q1⟩ : Sl) = sa at q ⊢
  clear sA1 rowT1 hb1 ht1 l1
  unfold f7K2
  refine PtrOk_mk ⟨_, l2.x.m.p, l2.x.collects l2.c fun h3 D3 x3 c3 s3 e3 ey3 => ⟨rfl, ?_⟩⟩
  have sub3 := RS.Sub.collect l2.x.v
  have l3 := l2.same x3 c3 s3 (by rw [e3]; exact sub3.len) (by rw [e3, sub3.roots])
  have row3 := kept_row s3.1 row2 nf1
  have nf3 := s3.nf nf1 (row_lt row2)
  have q3 := q.keep s3
  show SnapT (some (ad sb)) h3 fun sl a g => f7K3 J1 n1 x1 (some (ad sb)) x5 (ad mb) sa (ad t1) sl a g R
  refine snap_ok x3 fun h4 b2 q2 t2 k4 sA2 rowT2 hb2 ht2 => ?_
  have p := Snap.of x3 k4 sA2 rowT2 hb2 ht2
  have l4 := l3.keepN k4
  have row4 := kept_row k4 row3 id
  have q4 := q3.keep (Sts.of_kept k4)
  generalize (⟨some (ad b2), D3.s.used, q2⟩ : Sl) = sb2 at p ⊢
  clear sA2 rowT2 hb2 ht2 l3 q3
  have ag : RS.Again D3.s D1.s := by rw [e3, e1]; exact RS.collect_again l.x.v
  have pk3 : D3.s.Packed := by rw [e3]; exact RS.collect_packed l2.x.v
  have il := image_len l2.x.v
  have i1 := l2.x.v.u2; have i2 := l2.x.v.h2; have i3 := l2.x.v.l2
  have v3 := l4.x.v
  unfold f7K3
  refine eqw_ok (l := D1.s.image) q4.rd (by rw [← ag.image]; exact p.rd) q4.n (by rw [← ag.image]; exact p.n) (by omega) ⟨_, rfl, Cond_f rfl ⟨_, (q4.c 1).trans rfl, _, (p.c 1).trans rfl, ?_⟩⟩
  refine Cond_f (by rw [ag.half]; exact bne_self_eq_false _) ⟨_, (q4.c 3).trans rfl, _, (p.c 3).trans rfl, ?_⟩
  refine Cond_f (by rw [ag.large]; exact bne_self_eq_false _) ⟨_, (q4.c 4).trans rfl, _, (p.c 4).trans rfl, ?_⟩
  refine Cond_f (by rw [ag.slots]; exact bne_self_eq_false _) ⟨_, (p.c 6).trans rfl, _, (q4.c 6).trans rfl, ?_⟩
  have ec : (D3.s.coll != IntKind.wrap .i64 (D1.s.coll + (1 : Int))) = false := by rw [ag.coll]; exact bne_self_eq_false _
  rw [ec]
  unfold f7K4
  refine Cond_f rfl (PtrOk_mk ⟨_, l4.x.m.p, o.a, (mvc row4 1).trans rfl, l4.x.resizes l4.c fun h5 D5 x5' c5 s5 e5 => ⟨_, rfl, ?_⟩⟩)
  have sub5 := RS.Sub.resize l4.x.v o.a
  have l5 := l4.same x5' c5 s5 (by rw [e5]; exact sub5.len) (by rw [e5, sub5.roots])
  have row5 := kept_row s5.1 row4 nf3
  have q5 := q4.keep s5
  have p5 := p.keep s5
  show SnapT (some (ad sb)) h5 (TailT J1 n1 x1 (some (ad sb)) x5 (ad mb) sa (ad t2) (D3.s.resize o.a).2 R)
  refine snap_ok x5' fun h6 b3 q6 t3 k6 sA3 rowT3 hb3 ht3 => ?_
  have r := Snap.of x5' k6 sA3 rowT3 hb3 ht3
  have l6 := l5.keepN k6
  have row6 := kept_row k6 row5 id
  have q6' := q5.keep (Sts.of_kept k6)
  have p6 := p5.keep (Sts.of_kept k6)
  generalize (⟨some (ad b3), D5.s.used, q6⟩ : Sl) = sb3 at r ⊢
  clear sA3 rowT3 hb3 ht3
  have ei : D5.s.image = D1.s.image := by rw [e5, RS.resize_packed_image v3 pk3]; exact ag.image
  unfold TailT
  have c0 : ∀ {s : RS} {a : Sl} {tb : Nat} {D : ShD} {h : Hp}, Snap s a tb D h → cell h (ad tb) = some (.int .i64 (s.limit : Nat)) := fun q => (cell_row q.row 0).trans rfl
  refine eqw_ok (l := D1.s.image) q6'.rd (by rw [← ei]; exact r.rd) q6'.n (by rw [← ei]; exact r.n) (by omega) ⟨_, rfl, Cond_f rfl ⟨_, (mvc row6 1).trans rfl, ?_⟩⟩
  refine ⟨_, c0 p6, _, (p6.c 1).trans rfl, _, (p6.c 2).trans rfl, _, (p6.c 3).trans rfl, _, (p6.c 4).trans rfl, _, (p6.c 5).trans rfl, _, (p6.c 6).trans rfl, _, (p6.c 7).trans rfl, _, (p6.c 8).trans rfl,
    _, c0 r, _, (r.c 1).trans rfl, _, (r.c 2).trans rfl, _, (r.c 3).trans rfl, _, (r.c 4).trans rfl, _, (r.c 5).trans rfl, _, (r.c 6).trans rfl, _, (r.c 7).trans rfl, _, (r.c 8).trans rfl, ?_⟩
  have j1 := v3.u2; have j2 := v3.h2; have j3 := v3.l2
  refine resized_ok ?_ (fun h => ?_) (fun h hf => ?_) (fun h hf => ?_) fun h7 k7 => ⟨_, rfl, Cond_f rfl (hJ h7 D5 (l6.keepN k7))⟩
  · by_cases hc : o.a < 64 ∨ o.a > 524288
    · exact .inr hc
    · refine .inl ?_
      rw [wrap_i64' (x := (2 : Int) * o.a) (by omega) (by omega), wrap_i64' (by omega) (by omega)]
  · have e := RS.resize_small (n := o.a) v3 h
    have e6 : D5.s = D3.s := by rw [e5, e]
    rw [e, e6]
    exact ⟨rfl, rfl, rfl, rfl, rfl, rfl, rfl, rfl, rfl, rfl⟩
  · have e := RS.resize_full (n := o.a) v3 pk3 h hf
    have e6 : D5.s = D3.s.collection := by rw [e5, e]
    rw [e, e6]
    exact ⟨rfl, rfl, rfl⟩
  · have e := RS.resize_done (n := o.a) v3 pk3 h hf
    have e6 : D5.s = D3.s.collection.become o.a.toNat := by rw [e5, e]
    have ea := RS.become_alike D3.s.collection o.a.toNat
    rw [e, e6, RS.become_half, RS.become_resz, ea.large, pk3.clarge v3]
    refine ⟨rfl, by omega, ?_, rfl⟩
    have eh : D3.s.collection.half = D3.s.half := rfl
    have er : D3.s.collection.resz = D3.s.resz := rfl
    rw [eh, er]
    by_cases hh : o.a = ((D3.s.half : Nat) : Int)
    · have rz := l4.c.lm.2.2
      rw [if_pos hh, if_pos (by omega), Int.add_zero, wrap_i64' rz.1 rz.2]
    · rw [if_neg hh, if_neg (by omega)]
theorem settles_ok {lim : Int} (hs : ReadsO h sl.a (ops.flatMap MvL.cells)) (hsn : sl.n = ops.length) (hok : ∀ o ∈ ops, o.Ok h) {R : Value → Hp → Prop} (hR : ∀ h', Kept N h h' → R (.bool true) h') :
    CallTo Try.prog 7 #[.agg #[.int .i64 lim, .slice sl.a sl.n sl.c]] h R := by
  refine f7F_ok ?_
  unfold f7F
  refine Let_mk fun h1 e1 => ?_
  have k1 : Kept N h h1 := e1 ▸ kept_push _ _ _
  have row1 : Row h1 h.size [.int .i64 lim, .slice sl.a sl.n sl.c] := e1 ▸ row_new h _ 24
  have enb : nb h = ad h.size := rfl
  rw [enb]
  refine wakes_ok fun h2 k2 => ⟨_, rfl, Cond_f rfl ?_⟩
  have row2 := kept_row k2 row1 id
  have k02 := k1.trans k2
  refine ⟨_, (cell_row row2 0).trans rfl, sl, by rw [add_ad]; exact (cell_row row2 1).trans rfl, small_ok (reads_keptN k02 hs) hsn fun h3 bl k3 hbl => ⟨_, rfl, ?_⟩⟩
  have row3 := kept_row k3 row2 id
  have k03 := k02.trans k3
  refine Cond_b (fun _ => hR h3 k03) fun hb => ?_
  have h200 : ops.length ≤ 200 := hbl (by cases bl with | true => rfl | false => cases hb)
  refine ⟨_, (cell_row row3 0).trans rfl, begins_ok2 ⟨_, _, rfl, Cond_t rfl (hR h3 k03)⟩ fun h4 sb D x4 c4 es el fo k4 => ⟨_, _, rfl, Cond_f rfl ?_⟩⟩
  have l4 : Lp h3 h4 sb D 0 := ⟨x4, c4, k4, fo, by rw [es]; exact Nat.le_refl _, by rw [es]; exact Nat.le_refl _⟩
  refine f7L1_rule (fun q s1 s3 s5 h' => ∃ (i : Nat) (D : ShD), i ≤ ops.length ∧ q = ops.length - i ∧ s1 = ad h.size ∧ s3 = some (ad sb) ∧ s5 = (i : Int) ∧ Lp h3 h' sb D i) ops.length ⟨0, D, Nat.zero_le _, rfl, rfl, rfl, rfl, l4⟩ ?_
  clear l4 c4 x4 es el fo
  rintro q s1 s3 s5 g h5 ⟨i, D, hi, rfl, rfl, rfl, rfl, l5⟩
  unfold f7L1
  have row5 := kept_row l5.kp row3 id
  have k05 := k03.trans l5.kp
  have cS : cell h5 ((ad h.size).add 1) = some (.slice sl.a sl.n sl.c) := by rw [add_ad]; exact (cell_row row5 1).trans rfl
  refine ⟨sl, cS, Cond_dec (fun hlt => ?_) fun _ => hR h5 k05⟩
  have hil : i < ops.length := by omega
  obtain ⟨o, eo⟩ : ∃ o, ops[i]? = some o := ⟨_, List.getElem?_eq_getElem hil⟩
  have ko := (hok o (List.mem_of_getElem? eo)).keep k05 fun _ _ _ => id
  obtain ⟨p, hp, rd0, rd⟩ := mv_read (reads_keptN k05 hs) eo
  have kf : ∀ p, o.d.a = some p → o.bytes ≠ [] → ¬ D.foot p.block := fun p hp hn e => by
    have h1 := (hok o (List.mem_of_getElem? eo)).old p hp hn
    have h2 := l5.nw _ e
    have h3 := k03.1
    omega
  have hol := l5.ol
  have hrl := l5.rl
  refine ⟨sl, cS, ⟨by omega, hlt⟩, PtrOk_of hp ?_⟩
  rw [Int.toNat_natCast]
  refine ⟨_, rd0, _, rd 1 _ rfl, _, rd 2 _ rfl, _, rd 3 _ rfl, _, rd 4 _ rfl, _, rd 5 _ rfl, _, rd 6 _ rfl, o.d, rd 7 _ rfl, Let_mk fun h6 e6 => ?_⟩
  have w3 : NB2 h5 h5.size _ h6 := e6 ▸ NB2.new h5 _ 33
  have enb2 : nb h5 = ad h5.size := rfl
  rw [enb2]
  refine w3.st (i := 0) (rfl) (by show 0 < 8; omega) fun h7 w4 => ?_
  refine w4.st (i := 1) (add_ad _ _) (by show 1 < 8; omega) fun h8 w5 => ?_
  refine w5.st (i := 2) (add_ad _ _) (by show 2 < 8; omega) fun h9 w6 => ?_
  refine w6.st (i := 3) (add_ad _ _) (by show 3 < 8; omega) fun h10 w7 => ?_
  refine w7.st (i := 4) (add_ad _ _) (by show 4 < 8; omega) fun h11 w8 => ?_
  refine w8.st (i := 5) (add_ad _ _) (by show 5 < 8; omega) fun h12 w9 => ?_
  refine w9.st (i := 6) (add_ad _ _) (by show 6 < 8; omega) fun h13 w10 => ?_
  refine w10.st (i := 7) (add_ad _ _) (by show 7 < 8; omega) fun h14 w11 => ?_
  have row : Row h14 h5.size o.cells := w11.row
  have l6 := l5.keepN w11.k
  have nf : ¬ D.foot h5.size := fun hf => by have := l5.x.foot_lt hf; omega
  have ko14 := ko.keep w11.k fun _ _ _ => id
  refine ⟨_, (cell_row row 0).trans rfl, _, (mvc row 1).trans rfl, _, (mvc row 2).trans rfl, _, (mvc row 3).trans rfl, _, (mvc row 4).trans rfl, _, (mvc row 5).trans rfl, _, (mvc row 6).trans rfl, o.d, (mvc row 7).trans rfl, ?_⟩
  refine step_ok l6.x l6.c ko14 kf (by omega) (by omega) fun h16 D' x16 c16 s16 elim a16 b16 sp => ⟨_, rfl, Cond_f rfl ?_⟩
  have l16 : Lp h3 h16 sb D' (i + 1) := l6.step x16 c16 s16 a16 b16
  have row16 := kept_row s16.1 row nf
  have nf16 := s16.nf nf (row_lt row)
  have nxt : ∀ (h' : Hp) (D' : ShD), Lp h3 h' sb D' (i + 1) → ∃ m, m < ops.length - i ∧ ∃ (i' : Nat) (D : ShD), i' ≤ ops.length ∧ m = ops.length - i' ∧ ad h.size = ad h.size ∧ some (ad sb) = some (ad sb) ∧ IntKind.wrap .i64 ((i : Int) + 1) = (i' : Int) ∧ Lp h3 h' sb D i' := fun h' D' l =>
    ⟨ops.length - (i + 1), by omega, i + 1, D', hil, rfl, rfl, rfl, by rw [wrap_i64' (by omega) (by omega)]; rfl, l⟩
  have main : ∀ b : Bool, f7K1 (fun q s1 s3 s5 h' => ∃ (i : Nat) (D : ShD), i ≤ ops.length ∧ q = ops.length - i ∧ s1 = ad h.size ∧ s3 = some (ad sb) ∧ s5 = (i : Int) ∧ Lp h3 h' sb D i) (ops.length - i) (ad h.size) (some (ad sb)) (i : Int) (ad h5.size) b h16 R := fun b => by
    cases b with
    | true => unfold f7K1; exact Cond_t rfl (nxt _ _ l16)
    | false => exact settle_round l16 row16 nf16 fun h' D' l => nxt h' D' l
  exact ⟨_, (cell_row row16 0).trans rfl, Cond_b (fun _ => ⟨_, (cell_row row16 0).trans rfl, main _⟩) fun _ => main _⟩

end
end Go.Ev
