/- HeapRoomy: Alloc's rule by the live words, and the law's own call. No condition but that it is one. -/
import Derived.Test.YtgkhjbfkgckeoaaSZ
set_option linter.all false
set_option maxRecDepth 100000
namespace Go.Ev
open Go.Proofs
namespace RS
section
variable {s : RS}
theorem fit_room (v : s.Inv) {n : Nat} (h : 2 * (s.used + n) ≤ s.limit - s.large) : s.used + n ≤ (s.fit n).half := by
  obtain ⟨w1, w2, w3⟩ := want_facts (s.used + n)
  have hb : ∀ m, (s.become m).half = m := fun m => by unfold become; split <;> first | (rename_i e; exact e.symm) | rfl
  have i1 := v.h2
  unfold fit
  split
  · split
    · rw [hb]; omega
    · omega
  · split
    · rw [hb]; omega
    · omega
theorem fit_same (n : Nat) : (s.fit n).used = s.used ∧ (s.fit n).large = s.large ∧ (s.fit n).limit = s.limit := by
  have hb : ∀ m, (s.become m).used = s.used ∧ (s.become m).large = s.large ∧ (s.become m).limit = s.limit := fun m => by unfold become; split <;> exact ⟨rfl, rfl, rfl⟩
  unfold fit
  split
  · split
    · exact hb _
    · exact ⟨rfl, rfl, rfl⟩
  · split
    · exact hb _
    · exact ⟨rfl, rfl, rfl⟩
/-- P3.9's rule, of the live words. -/
def Room (s : RS) (r w : Nat) : Prop :=
  if 1 + r + w ≤ 64 then 2 * (s.collection.used + (1 + r + w)) ≤ s.limit - s.collection.large ∧ s.collection.large ≤ s.limit
  else s.collection.large + (1 + r + w) + 1 + 2 * max s.collection.used 64 ≤ s.limit
theorem alloc_room (v : s.Inv) {k r w : Int} (hs : Shape k r w) : (s.alloc k r w).2.2 = 0 ↔ s.Room r.toNat w.toNat := by
  have c1 := collection_used v
  have c2 := collection_large v
  have vc := v.collection
  have i1 := v.h1; have i2 := v.h2; have i3 := v.u2
  have j2 := vc.h2; have j3 := vc.u2; have j1 := vc.h1
  have el : s.collection.limit = s.limit := rfl
  unfold alloc Room
  rw [if_pos hs]
  by_cases hn : 64 < 1 + r.toNat + w.toNat
  · rw [if_pos hn, if_neg (by omega)]
    unfold block
    generalize hg : s.block1 (2 + r.toNat + w.toNat) = g
    have hv : g.Inv := hg ▸ v.block1 _
    have hl : g.limit = s.limit ∧ ((g = s ∧ ¬ (s.limit < 2 * s.half + s.large + (2 + r.toNat + w.toNat))) ∨ (g.used = s.collection.used ∧ g.large = s.collection.large)) := by
      rw [← hg]
      unfold block1
      split
      · obtain ⟨f1, f2, f3⟩ := fit_same (s := s.collection) 0
        exact ⟨f3, .inr ⟨f1, f2⟩⟩
      · rename_i hc
        exact ⟨rfl, .inl ⟨rfl, fun h => hc (.inl h)⟩⟩
    have g1 := hv.h1; have g2 := hv.h2; have g3 := hv.u2
    unfold block2
    obtain ⟨hl1, hl2⟩ := hl
    rcases hl2 with ⟨e, hc⟩ | ⟨e1, e2⟩
    · subst e
      rw [if_neg hc]
      exact ⟨fun _ => by omega, fun _ => rfl⟩
    · split
      · split
        · exact ⟨fun h => by exact absurd h (by show ¬ ((31 : Int) = 0); omega), fun h => by omega⟩
        · exact ⟨fun _ => by omega, fun _ => rfl⟩
      · exact ⟨fun _ => by omega, fun _ => rfl⟩
  · rw [if_neg hn, if_pos (by omega)]
    unfold small1
    split
    · obtain ⟨f1, f2, f3⟩ := fit_same (s := s.collection) (1 + r.toNat + w.toNat)
      have vf := vc.fit (k := 1 + r.toNat + w.toNat)
      have q2 := vf.h2
      have room := fit_room vc (n := 1 + r.toNat + w.toNat)
      unfold small2
      split
      · exact ⟨fun h => by exact absurd h (by show ¬ ((31 : Int) = 0); omega), fun h => by omega⟩
      · exact ⟨fun _ => by omega, fun _ => rfl⟩
    · unfold small2
      rw [if_neg (by omega)]
      exact ⟨fun _ => by omega, fun _ => rfl⟩
end
end RS
end Go.Ev
set_option linter.all false
set_option maxRecDepth 100000
namespace Go.Ev
open Go.Proofs
namespace RS
theorem sum_pick {f : Nat → Nat} : ∀ (m l : List Nat), l.Nodup → (∀ x ∈ l, x ∈ m) → (∀ x ∈ l, m.count x = 1) → (m.map fun x => if x ∈ l then f x else 0).sum = (l.map f).sum := by
  intro m
  induction m with
  | nil =>
    intro l _ h _
    cases l with
    | nil => rfl
    | cons y l => exact absurd (h y (List.mem_cons_self ..)) (by simp)
  | cons y m ih =>
    intro l nd h hc
    by_cases hy : y ∈ l
    · have nd' := nd.erase y
      have h' : ∀ x ∈ l.erase y, x ∈ m := fun x hx => by
        have hne : x ≠ y := fun e => (List.Nodup.not_mem_erase nd) (e ▸ hx)
        exact (List.mem_cons.1 (h x (List.mem_of_mem_erase hx))).resolve_left hne
      have hc' : ∀ x ∈ l.erase y, m.count x = 1 := fun x hx => by
        have hne : x ≠ y := fun e => (List.Nodup.not_mem_erase nd) (e ▸ hx)
        have := hc x (List.mem_of_mem_erase hx)
        rwa [List.count_cons_of_ne (Ne.symm hne)] at this
      have e := ih (l.erase y) nd' h' hc'
      have hym : y ∉ m := fun hm => by
        have h1 := hc y hy
        rw [List.count_cons_self] at h1
        have := List.count_pos_iff.2 hm
        omega
      have e2 : (m.map fun x => if x ∈ l then f x else 0) = (m.map fun x => if x ∈ l.erase y then f x else 0) := List.map_congr_left fun x hx => by
        have hne : x ≠ y := fun e => hym (e ▸ hx)
        have q := List.mem_erase_of_ne (l := l) hne
        by_cases hl : x ∈ l
        · rw [if_pos hl, if_pos (q.2 hl)]
        · rw [if_neg hl, if_neg fun h => hl (q.1 h)]
      rw [List.map_cons, List.sum_cons, if_pos hy, e2, e]
      have p := (List.perm_cons_erase hy).map f
      rw [p.sum_nat]
      simp
    · rw [List.map_cons, List.sum_cons, if_neg hy, Nat.zero_add]
      refine ih l nd (fun x hx => (List.mem_cons.1 (h x hx)).resolve_left fun e => hy (e ▸ hx)) fun x hx => ?_
      have hne : x ≠ y := fun e => hy (e ▸ hx)
      have := hc x hx
      rwa [List.count_cons_of_ne (Ne.symm hne)] at this
theorem count_one : ∀ (l : List Nat) (x : Nat), (∀ i j : Nat, l[i]? = some x → l[j]? = some x → i = j) → x ∈ l → l.count x = 1 := by
  intro l
  induction l with
  | nil => intro x _ h; simp at h
  | cons y l ih =>
    intro x hu hm
    by_cases e : y = x
    · subst e
      rw [List.count_cons_self]
      have : y ∉ l := fun h => by
        obtain ⟨i, hi⟩ := List.mem_iff_getElem?.1 h
        have := hu 0 (i + 1) rfl (by simpa using hi)
        omega
      rw [List.count_eq_zero.2 this]
    · rw [List.count_cons_of_ne e]
      refine ih x (fun i j hi hj => ?_) ((List.mem_cons.1 hm).resolve_left fun h => e h.symm)
      have := hu (i + 1) (j + 1) (by simpa using hi) (by simpa using hj)
      omega
theorem collection_lsum {s : RS} (v : s.Inv) : s.collection.large = s.lsum s.gcEnd.line := by
  have k := GcOk.at v s.objs.length
  show (s.slots.map fun id => if id ∈ s.gcEnd.line then s.size id + 1 else 0).sum = _
  unfold lsum
  refine sum_pick (f := fun id => s.size id + 1) s.slots s.gcEnd.line (List.nodup_append.1 k.nd).2.1 (fun x hx => (k.ln x hx).2) fun x hx => ?_
  obtain ⟨h0, hm⟩ := k.ln x hx
  exact count_one _ _ (fun i j hi hj => (v.sl i x hi h0).2.2.2.symm.trans (v.sl j x hj h0).2.2.2) hm
end RS
end Go.Ev
set_option linter.all false
set_option maxRecDepth 1000000
namespace Go.Ev
open Go.Proofs
section
variable {h h' hB : Hp} {sb zb : Nat} {D D' : ShD} {sl : Sl} {ops : List MvL} {o : MvL} {k : Nat}
theorem room_ok {L W G b c : Nat} (eb : o.b = (b : Int)) (ec : o.c = (c : Int)) (hb : b ≤ 1048576) (hc : c ≤ 1048576) (hL : L ≤ 1048576) (hW : W ≤ 1048576) (hG : G ≤ 1048576)
    (cl : ∀ h', Kept N h h' → cell h' ((ad sb).add 3) = some (.int .i64 (L : Int))) (c3 : ∀ h', Kept N h h' → cell h' ((ad zb).add 3) = some (.int .i64 (W : Int))) (c4 : ∀ h', Kept N h h' → cell h' ((ad zb).add 4) = some (.int .i64 (G : Int))) {R : Value → Hp → Prop}
    (hR : ∀ h' bl, Kept N h h' → (bl = true ↔ if 1 + b + c ≤ 64 then 2 * (W + (1 + b + c)) + G ≤ L else G + (1 + b + c) + 1 + 2 * max W 64 ≤ L) → R (.bool bl) h') :
    CallTo Try.prog 18 #[.pointer (some (ad sb)), .pointer (some (ad zb)), o.val] h R := by
  refine f18F_ok ?_
  unfold f18F
  refine Let_mk fun h1 e1 => ?_
  have k1 : Kept N h h1 := e1 ▸ kept_push _ _ _
  have row1 : Row h1 h.size o.cells := e1 ▸ row_new h _ 33
  have enb : nb h = ad h.size := rfl
  rw [enb]
  refine ⟨_, (mvc row1 2).trans rfl, _, (mvc row1 3).trans rfl, ?_⟩
  rw [eb, ec]
  have en : IntKind.wrap .i64 (IntKind.wrap .i64 ((1 : Int) + (b : Int)) + (c : Int)) = ((1 + b + c : Nat) : Int) := by
    rw [wrap_i64' (x := (1 : Int) + (b : Int)) (by omega) (by omega), wrap_i64' (by omega) (by omega)]; omega
  rw [en]
  refine Cond_dec (fun hn => ?_) fun hn => ?_
  · refine PtrOk_mk ⟨_, c3 h1 k1, PtrOk_mk ⟨_, cl h1 k1, PtrOk_mk ⟨_, c4 h1 k1, hR h1 _ k1 ?_⟩⟩⟩
    rw [if_pos (by omega), wrap_i64' (x := (W : Int) + _) (by omega) (by omega), wrap_i64' (by omega) (by omega), wrap_i64' (by omega) (by omega), decide_eq_true_iff]
    omega
  · have fin : ∀ m : Nat, m = max W 64 → f18K1 (some (ad sb)) (some (ad zb)) ((1 + b + c : Nat) : Int) (m : Int) h1 R := fun m em => by
      unfold f18K1
      refine PtrOk_mk ⟨_, c4 h1 k1, PtrOk_mk ⟨_, cl h1 k1, hR h1 _ k1 ?_⟩⟩
      rw [if_neg (by omega), wrap_i64' (x := (G : Int) + _) (by omega) (by omega), wrap_i64' (x := (G : Int) + _ + 1) (by omega) (by omega), wrap_i64' (x := 2 * (m : Int)) (by omega) (by omega), wrap_i64' (by omega) (by omega), decide_eq_true_iff]
      omega
    refine PtrOk_mk ⟨_, c3 h1 k1, Cond_dec (fun hw => fin 64 (by omega)) fun hw => fin W (by omega)⟩
theorem roomy_ok {lim : Int} (hs : ReadsO h sl.a (ops.flatMap MvL.cells)) (hsn : sl.n = ops.length) (hok : ∀ o ∈ ops, o.Ok h) {R : Value → Hp → Prop} (hR : ∀ h', Kept N h h' → R (.bool true) h') :
    CallTo Try.prog 4 #[.agg #[.int .i64 lim, .slice sl.a sl.n sl.c]] h R := by
  refine f4F_ok ?_
  unfold f4F
  refine Let_mk fun h1 e1 => ?_
  have k1 : Kept N h h1 := e1 ▸ kept_push _ _ _
  have row1 : Row h1 h.size [.int .i64 lim, .slice sl.a sl.n sl.c] := e1 ▸ row_new h _ 24
  have enb : nb h = ad h.size := rfl
  rw [enb]
  refine wakes_ok fun h2 k2 => ⟨_, rfl, Cond_f rfl ?_⟩
  have row2 := kept_row k2 row1 id
  have k02 := k1.trans k2
  refine ⟨_, (cell_row row2 0).trans rfl, sl, by rw [add_ad]; exact (cell_row row2 1).trans rfl, small_ok (reads_keptN k02 hs) hsn fun h3 bl k3 hbl => ⟨_, rfl, ?_⟩⟩
  have row3 := kept_row k3 row2 id
  have k03 := k02.trans k3
  refine Cond_b (fun _ => hR h3 k03) fun hb => ?_
  have h200 : ops.length ≤ 200 := hbl (by cases bl with | true => rfl | false => cases hb)
  refine ⟨_, (cell_row row3 0).trans rfl, begins_ok2 ⟨_, _, rfl, Cond_t rfl (hR h3 k03)⟩ fun h4 sb D x4 c4 es el fo k4 => ⟨_, _, rfl, Cond_f rfl ?_⟩⟩
  have row4 := kept_row k4 row3 id
  have l4 : Lp h3 h4 sb D 0 := ⟨x4, c4, k4, fo, by rw [es]; exact Nat.le_refl _, by rw [es]; exact Nat.le_refl _⟩
  refine f4L1_rule (fun q s1 s3 s5 h' => ∃ (i : Nat) (D : ShD), i ≤ ops.length ∧ q = ops.length - i ∧ s1 = ad h.size ∧ s3 = some (ad sb) ∧ s5 = (i : Int) ∧ Lp h3 h' sb D i) ops.length ⟨0, D, Nat.zero_le _, rfl, rfl, rfl, rfl, l4⟩ ?_
  clear l4 c4 x4 es el fo
  rintro q s1 s3 s5 g h5 ⟨i, D, hi, rfl, rfl, rfl, rfl, l5⟩
  unfold f4L1
  have row5 := kept_row l5.kp row3 id
  have k05 := k03.trans l5.kp
  have cS : cell h5 ((ad h.size).add 1) = some (.slice sl.a sl.n sl.c) := by rw [add_ad]; exact (cell_row row5 1).trans rfl
  refine ⟨sl, cS, Cond_dec (fun hlt => ?_) fun _ => hR h5 k05⟩
  have hil : i < ops.length := by omega
  obtain ⟨o, eo⟩ : ∃ o, ops[i]? = some o := ⟨_, List.getElem?_eq_getElem hil⟩
  have ko := (hok o (List.mem_of_getElem? eo)).keep k05 fun _ _ _ => id
  obtain ⟨p, hp, rd0, rd⟩ := mv_read (reads_keptN k05 hs) eo
  have kf : ∀ p, o.d.a = some p → o.bytes ≠ [] → ¬ D.foot p.block := fun p hp hn e => by
    have h1 := (hok o (List.mem_of_getElem? eo)).old p hp hn
    have h2 := l5.nw _ e
    have h3 := k03.1
    omega
  have hol := l5.ol
  have hrl := l5.rl
  refine ⟨sl, cS, ⟨by omega, hlt⟩, PtrOk_of hp ?_⟩
  rw [Int.toNat_natCast]
  refine ⟨_, rd0, _, rd 1 _ rfl, _, rd 2 _ rfl, _, rd 3 _ rfl, _, rd 4 _ rfl, _, rd 5 _ rfl, _, rd 6 _ rfl, o.d, rd 7 _ rfl, Let_mk fun h6 e6 => ?_⟩
  have w3 : NB2 h5 h5.size _ h6 := e6 ▸ NB2.new h5 _ 33
  have enb2 : nb h5 = ad h5.size := rfl
  rw [enb2]
  refine w3.st (i := 0) (rfl) (by show 0 < 8; omega) fun h7 w4 => ?_
  refine w4.st (i := 1) (add_ad _ _) (by show 1 < 8; omega) fun h8 w5 => ?_
  refine w5.st (i := 2) (add_ad _ _) (by show 2 < 8; omega) fun h9 w6 => ?_
  refine w6.st (i := 3) (add_ad _ _) (by show 3 < 8; omega) fun h10 w7 => ?_
  refine w7.st (i := 4) (add_ad _ _) (by show 4 < 8; omega) fun h11 w8 => ?_
  refine w8.st (i := 5) (add_ad _ _) (by show 5 < 8; omega) fun h12 w9 => ?_
  refine w9.st (i := 6) (add_ad _ _) (by show 6 < 8; omega) fun h13 w10 => ?_
  refine w10.st (i := 7) (add_ad _ _) (by show 7 < 8; omega) fun h14 w11 => ?_
  have row : Row h14 h5.size o.cells := w11.row
  have l6 := l5.keepN w11.k
  have nf : ¬ D.foot h5.size := fun hf => by have := l5.x.foot_lt hf; omega
  have nxt : ∀ (h' : Hp) (D' : ShD), Lp h3 h' sb D' (i + 1) → ∃ m, m < ops.length - i ∧ ∃ (i' : Nat) (D : ShD), i' ≤ ops.length ∧ m = ops.length - i' ∧ ad h.size = ad h.size ∧ some (ad sb) = some (ad sb) ∧ IntKind.wrap .i64 ((i : Int) + 1) = (i' : Int) ∧ Lp h3 h' sb D i' := fun h' D' l =>
    ⟨ops.length - (i + 1), by omega, i + 1, D', hil, rfl, rfl, rfl, by rw [wrap_i64' (by omega) (by omega)]; rfl, l⟩
  have main : ∀ sh : Bool, (sh = true → Shape o.a o.b o.c) → f4K1 (fun q s1 s3 s5 h' => ∃ (i : Nat) (D : ShD), i ≤ ops.length ∧ q = ops.length - i ∧ s1 = ad h.size ∧ s3 = some (ad sb) ∧ s5 = (i : Int) ∧ Lp h3 h' sb D i) (ops.length - i) (ad h.size) (some (ad sb)) (i : Int) (ad h5.size) sh h14 R := fun sh hsh => by
    unfold f4K1
    refine look_ok2 l6.x l6.c (by omega) fun h15 zb W ss bs wh x15 z15 ap15 f15 k15 => ⟨_, _, rfl, Cond_f rfl ?_⟩
    have row15 := kept_row k15 row id
    have ko15 := ko.keep (w11.k.trans k15) fun _ _ _ => id
    refine ⟨_, (cell_row row15 0).trans rfl, _, (mvc row15 1).trans rfl, _, (mvc row15 2).trans rfl, _, (mvc row15 3).trans rfl, _, (mvc row15 4).trans rfl, _, (mvc row15 5).trans rfl, _, (mvc row15 6).trans rfl, o.d, (mvc row15 7).trans rfl, ?_⟩
    refine step_ok x15 l6.c ko15 kf (by omega) (by omega) fun h16 D' x16 c16 s16 elim a16 b16 sp => ⟨_, rfl, ?_⟩
    have l16 : Lp h3 h16 sb D' (i + 1) := (l6.keepN k15).step x16 c16 s16 a16 b16
    have row16 := kept_row s16.1 row15 nf
    have ez : Sep h16 W := z15.sep.keep s16.1 fun b hb hf => ap15 b hf hb
    unfold f4K2
    refine Cond_f rfl ⟨_, (cell_row row16 0).trans rfl, Cond_b (fun hm => ?_) fun _ => nxt _ _ l16⟩
    have hm : o.dw = 1 := by simpa using hm
    refine Cond_b (fun hsh' => ?_) fun _ => nxt _ _ l16
    have hS := hsh hsh'
    obtain ⟨⟨s1, s2⟩, ⟨s3, s4⟩, s5, s6⟩ := hS
    refine PtrOk_mk ⟨_, x16.m.cLast, _, (cell_row row16 0).trans rfl, _, (mvc row16 1).trans rfl, _, (mvc row16 2).trans rfl, _, (mvc row16 3).trans rfl, _, (mvc row16 4).trans rfl, _, (mvc row16 5).trans rfl, _, (mvc row16 6).trans rfl, o.d, (mvc row16 7).trans rfl, ?_⟩
    have v := l6.x.v
    have vc := v.collection
    have i1 := v.l2
    have j1 := vc.h2; have j2 := vc.u2; have j3 : D.s.collection.limit = D.s.limit := rfl
    have j4 := RS.collection_lsum v
    have j5 : D.s.collection.used = 1 + D.s.sizes D.s.gcEnd.copied := rfl
    refine room_ok (b := o.b.toNat) (c := o.c.toNat) (L := D.s.limit) (W := D.s.collection.used) (G := D.s.collection.large) (by omega) (by omega) (by omega) (by omega) (by omega) (by omega) (by omega) ?_ ?_ ?_ fun h17 bl k17 hbl => ⟨_, rfl, ⟨_, (x16.keepN k17).m.cLast, rfl⟩, ?_⟩
    · intro h17 k17
      rw [(x16.keepN k17).m.cLim, elim, l6.c.lm.1]
    · intro h17 k17
      rw [(ez.keepN k17).cellA z15.loc, z15.hd, j5]; rfl
    · intro h17 k17
      rw [(ez.keepN k17).cellA z15.loc, z15.hd, j4]; rfl
    · have hr := RS.alloc_room v ⟨⟨s1, s2⟩, ⟨s3, s4⟩, s5, s6⟩
      have el := sp.al hm
      have eq : (D'.y.last == (0 : Int)) = bl := by
        rw [Bool.eq_iff_iff, hbl, beq_iff_eq, el, hr]
        unfold RS.Room
        split <;> omega
      rw [eq]
      exact Cond_f (by simp) (nxt _ _ (l16.keepN k17))
  refine ⟨_, (mvc row 1).trans rfl, Cond_dec (fun s1 => ⟨_, (mvc row 1).trans rfl, Cond_dec (fun s2 => ⟨_, (mvc row 2).trans rfl, Cond_dec (fun s3 => ⟨_, (mvc row 2).trans rfl, Cond_dec (fun s4 => ⟨_, (mvc row 3).trans rfl, Cond_dec (fun s5 => ⟨_, (mvc row 3).trans rfl, ?_⟩) fun _ => main _ nofun⟩) fun _ => main _ nofun⟩) fun _ => main _ nofun⟩) fun _ => main _ nofun⟩) fun _ => main _ nofun⟩
  exact main _ fun e => ⟨⟨s1, s2⟩, ⟨s3, s4⟩, s5, of_decide_eq_true e⟩
end
end Go.Ev
