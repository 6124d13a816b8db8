/-
  The walk through OrderRows itself: forty copies of the table, each compared, written over with a mark of its own, appended to one by one: none changes another.
  No condition but that the variable's cells read as the row lays them.
-/
import Derived.Test.YtnippoaemjaihaaDoorDR
set_option maxRecDepth 100000
namespace Go.Ev
open Go.Proofs
theorem PtrOk_of {x : Option Addr} {a : Addr} {K : Addr → Prop} (e : x = some a) (h : K a) : PtrOk x K := e ▸ h
def Fc (h : Hp) (b n j : Nat) : Prop := ∀ q, q < n → cell h ⟨b, q * 7, none⟩ = some (.string (mk j))
theorem Fc.keep {h h' : Hp} {b n j : Nat} (f : Fc h b n j) {S : Nat → Prop} (k : Kept S h h') (hb : b < h.size) (hS : ¬ S b) : Fc h' b n j := fun q hq => by
  have := f q hq
  unfold cell at this ⊢
  rw [k.2 b hb hS]
  exact this
theorem Fc.of {h : Hp} {a : Option Addr} {n c b k j : Nat} {vs : List Value} (s : SlAt 7 h a n c (some b) vs) (m : Nm k vs (mk j)) (hk : k ≤ n) : Fc h b k j := fun q hq => by
  rw [s.cell (by rw [s.len]; omega)]
  exact m q hq
/-- A list of slices, each with its marked cells. -/
structure LF (h0 h : Hp) (own : Nat → Option Nat) (lo cnt n : Nat) (s : Sl) (o : Option Nat) (vals : List Value) : Prop where
  sn : s.n = cnt
  sl : SlAt 1 h s.a cnt s.c o vals
  ob : ∀ b, o = some b → own b = none ∧ h0.size ≤ b ∧ b ≠ lo
  fc : ∀ j, j < cnt → ∃ b c, vals[j]? = some (sv n (b, c)) ∧ own b = some j ∧ Fc h b n j
structure C4 (h0 h : Hp) (own : Nat → Option Nat) (lo i : Nat) (s1 : Sl) (bs : List (Nat × Nat)) : Prop where
  s : S1 h0 h s1 lo bs
  nlo : own lo = none
  ow : ∀ b j, own b = some j → h0.size ≤ b ∧ b < h.size
  base : ∀ j p, bs[j]? = some p → own p.1 = some j ∧ Fc h p.1 31 j
  next : ∀ j p, i ≤ j → bs[j]? = some p → ∃ vs, SlAt 7 h (some (ad p.1)) 31 p.2 (some p.1) vs ∧ Nm 31 vs (mk j)
section
variable {h0 h h' : Hp} {own : Nat → Option Nat} {lo i : Nat} {s1 : Sl} {bs : List (Nat × Nat)}
theorem LF.at {cnt n : Nat} {s : Sl} {o : Nat} {vals : List Value} (l : LF h0 h own lo cnt n s (some o) vals) {j : Nat} {v : Value} (hv : vals[j]? = some v) : cell h ((ad o).add ((j : Int).toNat * 1)) = some v := by
  rw [add_ad, Nat.mul_one]
  show cell h ⟨o, j, none⟩ = _
  rw [l.sl.cell (List.getElem?_eq_some_iff.1 hv).1, hv]
/-- What is not the list's own, nor bears an owner, may change; and an owner's cells that stay marked. -/
theorem LF.move {cnt n : Nat} {s : Sl} {o : Option Nat} {vals : List Value} (l : LF h0 h own lo cnt n s o vals) {S : Nat → Prop} (k : Kept S h h') (ho : ∀ b, o = some b → ¬ S b)
    (hf : ∀ b j, j < cnt → own b = some j → Fc h b n j → Fc h' b n j) : LF h0 h' own lo cnt n s o vals :=
  ⟨l.sn, slat_kept' l.sl k ho, l.ob, fun j hj => by obtain ⟨b, c, h1, h2, h3⟩ := l.fc j hj; exact ⟨b, c, h1, h2, hf b j hj h2 h3⟩⟩
theorem LF.grow {cnt n : Nat} {s : Sl} {o : Option Nat} {vals : List Value} (l : LF h0 h own lo cnt n s o vals) {b0 j0 : Nat} (hb : own b0 = none) (ho : o ≠ some b0) : LF h0 h (fun b => if b = b0 then some j0 else own b) lo cnt n s o vals :=
  ⟨l.sn, l.sl, fun b e => by
    have := l.ob b e
    refine ⟨?_, this.2⟩
    by_cases hbb : b = b0
    · subst hbb; exact absurd e ho
    · simp only [if_neg hbb]; exact this.1,
   fun j hj => by
    obtain ⟨b, c, h1, h2, h3⟩ := l.fc j hj
    refine ⟨b, c, h1, ?_, h3⟩
    have : b ≠ b0 := fun e => by subst e; rw [hb] at h2; cases h2
    simp only [if_neg this]; exact h2⟩
theorem C4.move (c : C4 h0 h own lo i s1 bs) {S : Nat → Prop} (k : Kept S h h') (hS : ∀ b, S b → h0.size ≤ b ∧ b ≠ lo ∧ ∀ j, i ≤ j → own b ≠ some j)
    (hf : ∀ b j, own b = some j → Fc h b 31 j → Fc h' b 31 j) : C4 h0 h' own lo i s1 bs :=
  ⟨c.s.keep k (fun b hb => (hS b hb).1) (fun hb => (hS lo hb).2.1 rfl), c.nlo, fun b j e => ⟨(c.ow b j e).1, Nat.lt_of_lt_of_le (c.ow b j e).2 k.1⟩,
   fun j p hp => ⟨(c.base j p hp).1, hf _ _ (c.base j p hp).1 (c.base j p hp).2⟩,
   fun j p hj hp => by
    obtain ⟨vs, h1, h2⟩ := c.next j p hj hp
    exact ⟨vs, slat_kept h1 k (fun hb => (hS _ hb).2.2 j hj (c.base j p hp).1), h2⟩⟩
theorem C4.grow (c : C4 h0 h own lo i s1 bs) {b0 j0 : Nat} (hb : own b0 = none) (h1 : h0.size ≤ b0) (h2 : b0 < h.size) (h3 : b0 ≠ lo) : C4 h0 h (fun b => if b = b0 then some j0 else own b) lo i s1 bs :=
  ⟨c.s, by simp only [if_neg (Ne.symm h3)]; exact c.nlo, fun b j e => by
    by_cases hbb : b = b0
    · subst hbb; exact ⟨h1, h2⟩
    · simp only [if_neg hbb] at e; exact c.ow b j e,
   fun j p hp => by
    obtain ⟨h4, h5⟩ := c.base j p hp
    have : p.1 ≠ b0 := fun e => by rw [e, hb] at h4; cases h4
    refine ⟨?_, h5⟩
    simp only [if_neg this]; exact h4,
   c.next⟩
end

/-! ### the last look -/
def J7 (s1 s6 s7 : Sl) (h1 : Hp) : Nat → Sl → Sl → Sl → Int → Hp → Prop := fun n a b c i h => ∃ k : Nat, k ≤ 40 ∧ n = 40 - k ∧ a = s1 ∧ b = s6 ∧ c = s7 ∧ i = k ∧ Kept N h1 h
theorem step7 {h0 h1 : Hp} {own : Nat → Option Nat} {lo fo mo : Nat} {s1 s6 s7 : Sl} {bs : List (Nat × Nat)} {fv mv : List Value} {R : Value → Hp → Prop}
    (hg : Reads h0 ⟨0, 0, none⟩ (flats rws)) (hR : ∀ h', Kept N h0 h' → R (.bool true) h')
    (c : C4 h0 h1 own lo 40 s1 bs) (hf : LF h0 h1 own lo 40 32 s6 (some fo) fv) (hm : LF h0 h1 own lo 40 101 s7 (some mo) mv)
    (n : Nat) (a1 a6 a7 : Sl) (i11 : Int) (g : Nat → Value) (h : Hp) (hJ : J7 s1 s6 s7 h1 n a1 a6 a7 i11 h) : f3L7 (J7 s1 s6 s7 h1) n a1 a6 a7 i11 g h R := by
  obtain ⟨i, hi, rfl, rfl, rfl, rfl, rfl, hk⟩ := hJ
  unfold f3L7
  have mv1 : ∀ {h'}, Kept N h1 h' → C4 h0 h' own lo 40 a1 bs := fun k => c.move k (fun _ e => e.elim) fun b j e f => f.keep k (c.ow b j e).2 id
  have mv6 : ∀ {h'}, Kept N h1 h' → LF h0 h' own lo 40 32 a6 (some fo) fv := fun k => hf.move k (fun _ _ => id) fun b j _ e f => f.keep k (c.ow b j e).2 id
  have mv7 : ∀ {h'}, Kept N h1 h' → LF h0 h' own lo 40 101 a7 (some mo) mv := fun k => hm.move k (fun _ _ => id) fun b j _ e f => f.keep k (c.ow b j e).2 id
  refine Cond_dec (fun hlt => ?_) fun hge => ?_
  · have hi40 : i < 40 := by omega
    obtain ⟨p, hp⟩ : ∃ p, bs[i]? = some p := ⟨_, List.getElem?_eq_getElem (by rw [c.s.len]; exact hi40)⟩
    obtain ⟨b6, c6, e6, o6, _⟩ := hf.fc i hi40
    obtain ⟨b7, c7, e7, o7, _⟩ := hm.fc i hi40
    have f6 : ∀ {h'}, Kept N h1 h' → Fc h' b6 32 i := fun k => by
      obtain ⟨b, d, h2, _, h4⟩ := (mv6 k).fc i hi40
      rw [e6] at h2
      have h2 := Option.some.inj h2
      unfold sv at h2
      simp only [Value.slice.injEq, Option.some.injEq, ad, Addr.mk.injEq, true_and, and_true] at h2
      rw [← h2.1] at h4
      exact h4
    have f7 : ∀ {h'}, Kept N h1 h' → Fc h' b7 101 i := fun k => by
      obtain ⟨b, d, h2, _, h4⟩ := (mv7 k).fc i hi40
      rw [e7] at h2
      have h2 := Option.some.inj h2
      unfold sv at h2
      simp only [Value.slice.injEq, Option.some.injEq, ad, Addr.mk.injEq, true_and, and_true] at h2
      rw [← h2.1] at h4
      exact h4
    refine ⟨⟨by omega, by rw [c.s.n]; omega⟩, PtrOk_of c.s.a ⟨⟨some (ad p.1), 31, p.2⟩, (mv1 hk).s.at hp, mark_ok fun h2 k2 => ⟨_, rfl, ⟨⟨_, _, _⟩, (mv1 (hk.trans k2)).s.at hp, rfl⟩, true,
      named_ok (n := 31) (by omega) ((mv1 (hk.trans k2)).base i p hp).2 ⟨rfl, rfl⟩, Cond_f rfl ?_⟩⟩⟩
    refine ⟨⟨by omega, by rw [hf.sn]; omega⟩, PtrOk_of (hf.sl.row fo rfl).1 ⟨⟨some (ad b6), 32, c6⟩, (mv6 (hk.trans k2)).at e6, mark_ok fun h3 k3 => ⟨_, rfl, ⟨⟨_, _, _⟩, (mv6 ((hk.trans k2).trans k3)).at e6, rfl⟩, true,
      named_ok (n := 32) (by omega) (f6 ((hk.trans k2).trans k3)) ⟨rfl, rfl⟩, Cond_f rfl ?_⟩⟩⟩
    refine ⟨⟨by omega, by rw [hm.sn]; omega⟩, PtrOk_of (hm.sl.row mo rfl).1 ⟨⟨some (ad b7), 101, c7⟩, (mv7 ((hk.trans k2).trans k3)).at e7, mark_ok fun h4 k4 => ⟨_, rfl, ⟨⟨_, _, _⟩, (mv7 (((hk.trans k2).trans k3).trans k4)).at e7, rfl⟩, true,
      named_ok (n := 101) (by omega) (f7 (((hk.trans k2).trans k3).trans k4)) ⟨rfl, rfl⟩, ?_⟩⟩⟩
    unfold f3K3
    refine Cond_f rfl ⟨40 - (i + 1), by omega, i + 1, by omega, rfl, rfl, rfl, rfl, ?_, ((hk.trans k2).trans k3).trans k4⟩
    rw [wrap_sm (by omega) (by omega)]; rfl
  · have k0 : Kept N h0 h := (mv1 hk).s.kept
    refine cmds_ok (reads_kept hg (by decide) k0 id) fun b d h2 s2 hb2 k2 => ⟨⟨some (ad b), 31, d⟩, rfl, rows_ok s2 fun h3 k3 => ⟨true, rfl, hR h3 ((k0.trans k2).trans k3)⟩⟩

/-! ### the appends -/
theorem C4.free {h0 h : Hp} {own : Nat → Option Nat} {lo i : Nat} {s1 : Sl} {bs : List (Nat × Nat)} (c : C4 h0 h own lo i s1 bs) {b : Nat} (hb : h.size ≤ b) : own b = none := by
  cases e : own b with
  | none => rfl
  | some j => have := (c.ow b j e).2; omega
theorem lf_append {h0 h : Hp} {own : Nat → Option Nat} {lo cnt n : Nat} {s : Sl} {o : Option Nat} {vals : List Value} (l : LF h0 h own lo cnt n s o vals) (hc : cnt < 1000) {b c : Nat} (hb : own b = some cnt) (hf : Fc h b n cnt)
    (hfree : ∀ b, h.size ≤ b → own b = none) (hlo : lo < h.size) (h00 : h0.size ≤ h.size) {K : Option Addr → Nat → Nat → Hp → Prop}
    (hK : ∀ a' c' o' h3, LF h0 h3 own lo (cnt + 1) n ⟨a', cnt + 1, c'⟩ o' (vals ++ [sv n (b, c)]) → (o' = o ∨ ∃ b0, o' = some b0 ∧ h.size ≤ b0) → Kept (fun b => o = some b) h h3 → K a' (cnt + 1) c' h3) :
    Let (h.push (.cells #[.slice (some (ad b)) n c] 23)) fun h2 => appSl 23 1 24 #[.slice none 0 0] s.a s.n s.c (some (nb h)) 1 h2 K := by
  refine Let_mk fun h2 e2 => ?_
  have k2 : Kept N h h2 := e2 ▸ kept_push _ _ _
  have hs2 : h2.size = h.size + 1 := by rw [e2]; simp
  have r2 : Row h2 h.size [sv n (b, c)] := e2 ▸ row_new h #[.slice (some (ad b)) n c] 23
  have hlt : ∀ b j, own b = some j → b < h.size := fun b j e => by
    rcases Nat.lt_or_ge b h.size with h1 | h1
    · exact h1
    · rw [hfree b h1] at e; cases e
  have l2 := l.move k2 (fun _ _ => id) (fun b j _ e f => f.keep k2 (hlt b j e) id)
  refine ⟨[sv n (b, c)], reads_row r2 (fun j v hj => by rw [Nat.zero_add]; exact hj), rfl, ?_⟩
  rw [l.sn]
  refine appT_ok l2.sl rfl rfl (by intro v hv; obtain rfl := List.mem_singleton.1 hv; rfl) (by omega) (by omega) fun a' c' o' h3 s3 ho k3 => ?_
  have k3' : Kept (fun b => o = some b) h h3 := ⟨Nat.le_trans k2.1 k3.1, fun i hi hn => (k3.2 i (Nat.lt_of_lt_of_le hi k2.1) hn).trans (k2.2 i hi id)⟩
  have hno : ∀ b j, own b = some j → ¬ o = some b := fun b j e eo => by rw [(l.ob b eo).1] at e; cases e
  refine hK a' c' o' h3 ⟨rfl, s3, fun b0 e0 => ?_, fun j hj => ?_⟩ ?_ k3'
  · rcases ho with rfl | rfl
    · exact l.ob b0 e0
    · obtain rfl := Option.some.inj e0
      exact ⟨hfree _ (by omega), by omega, by omega⟩
  · rcases Nat.lt_or_ge j cnt with hj1 | hj1
    · obtain ⟨b1, c1, h4, h5, h6⟩ := l.fc j hj1
      exact ⟨b1, c1, by rw [List.getElem?_append_left (List.getElem?_eq_some_iff.1 h4).1]; exact h4, h5, h6.keep k3' (hlt _ _ h5) (hno _ _ h5)⟩
    · obtain rfl : j = cnt := by omega
      have hl : vals.length = j := by have := l.sl.len; omega
      exact ⟨b, c, by rw [List.getElem?_append_right (by omega), hl, Nat.sub_self]; rfl, hb, hf.keep k3' (hlt _ _ hb) (hno _ _ hb)⟩
  · rcases ho with rfl | rfl
    · exact .inl rfl
    · exact .inr ⟨_, rfl, by omega⟩

def J5 (h0 : Hp) (s1 : Sl) (lo : Nat) (bs : List (Nat × Nat)) : Nat → Sl → Sl → Sl → Int → Hp → Prop := fun n a1 a6 a7 i8 h => ∃ (i : Nat) (own : Nat → Option Nat) (fo mo : Option Nat) (fv mv : List Value),
  i ≤ 40 ∧ n = 40 - i ∧ a1 = s1 ∧ i8 = i ∧ C4 h0 h own lo i s1 bs ∧ LF h0 h own lo i 32 a6 fo fv ∧ LF h0 h own lo i 101 a7 mo mv ∧ (∀ b, fo = some b → mo ≠ some b)
def J6 (h0 : Hp) (s1 : Sl) (lo : Nat) (bs : List (Nat × Nat)) (i : Nat) : Nat → Sl → Sl → Sl → Int → Sl → Int → Hp → Prop := fun n a1 a6 a7 i8 s9 i10 h => ∃ (k : Nat) (own : Nat → Option Nat) (fo mo : Option Nat) (fv mv : List Value) (gb : Nat) (gvs : List Value),
  k ≤ 70 ∧ n = 70 - k ∧ a1 = s1 ∧ i8 = i ∧ i10 = k ∧ C4 h0 h own lo (i + 1) s1 bs ∧ LF h0 h own lo (i + min k 1) 32 a6 fo fv ∧ LF h0 h own lo i 101 a7 mo mv ∧ (∀ b, fo = some b → mo ≠ some b) ∧
  s9.n = 31 + k ∧ SlAt 7 h s9.a (31 + k) s9.c (some gb) gvs ∧ own gb = some i ∧ Nm (31 + k) gvs (mk i)
theorem Nm.app {k j : Nat} {vs news : List Value} (m : Nm k vs (mk j)) (hl : vs.length = k * 7) (h0 : news[0]? = some (.string (mk j))) : Nm (k + 1) (vs ++ news) (mk j) := fun q hq => by
  rcases Nat.lt_or_ge q k with h | h
  · rw [List.getElem?_append_left (by omega)]; exact m q h
  · obtain rfl : q = k := by omega
    rw [List.getElem?_append_right (by omega), hl, Nat.sub_self]; exact h0
theorem step6 {h0 : Hp} {lo i : Nat} {s1 : Sl} {bs : List (Nat × Nat)} {R : Value → Hp → Prop} (hi : i < 40)
    (n : Nat) (a1 a6 a7 : Sl) (i8 : Int) (s9 : Sl) (i10 : Int) (g : Nat → Value) (h : Hp) (hJ : J6 h0 s1 lo bs i n a1 a6 a7 i8 s9 i10 h) : f3L6 (J5 h0 s1 lo bs) (40 - i) (J6 h0 s1 lo bs i) n a1 a6 a7 i8 s9 i10 g h R := by
  obtain ⟨k, own, fo, mo, fv, mv, gb, gvs, hk, rfl, rfl, rfl, rfl, c, hf, hm, hne, h9, hs, hgo, hnm⟩ := hJ
  unfold f3L6
  have h0s := c.s.kept.1
  have hlo := c.s.lst.lt
  refine Cond_dec (fun hlt => ?_) fun hge => ?_
  · have hk70 : k < 70 := by omega
    refine mark_ok fun h1 k1 => ⟨mk i, rfl, Let_mk fun h2 e2 => ?_⟩
    have k2 : Kept N h h2 := k1.trans (e2 ▸ kept_push _ _ _)
    have r2 : Row h2 h1.size (flat (mk i, 0, false, 0, 0, 0, 0)) := e2 ▸ row_new h1 _ 28
    have c2 := c.move k2 (fun _ e => e.elim) fun b j e f => f.keep k2 (c.ow b j e).2 id
    have hf2 := hf.move k2 (fun _ _ => id) fun b j _ e f => f.keep k2 (c.ow b j e).2 id
    have hm2 := hm.move k2 (fun _ _ => id) fun b j _ e f => f.keep k2 (c.ow b j e).2 id
    have hs2 := slat_kept hs k2 id
    refine ⟨flat (mk i, 0, false, 0, 0, 0, 0), reads_row r2 (fun j v hj => by rw [Nat.zero_add]; exact hj), rfl, ?_⟩
    rw [h9]
    refine appT_ok2 hs2 rfl rfl (flat_cell _) (by omega) (by omega) fun a' c' ob' h3 s3 hcase => ?_
    -- what stands behind the append
    have key : ∃ (own' : Nat → Option Nat) (gb' : Nat), ob' = some gb' ∧ own' gb' = some i ∧ C4 h0 h3 own' lo (i + 1) a1 bs ∧ LF h0 h3 own' lo (i + min k 1) 32 a6 fo fv ∧ LF h0 h3 own' lo i 101 a7 mo mv := by
      have hnm3 : Nm (31 + k + 1) (gvs ++ flat (mk i, 0, false, 0, 0, 0, 0)) (mk i) := hnm.app hs2.len rfl
      rcases hcase with ⟨rfl, k3⟩ | ⟨rfl, k3⟩
      · have hfc : ∀ m, m ≤ 31 + k + 1 → Fc h3 gb m i := fun m hm => Fc.of s3 (fun q hq => hnm3 q (by omega)) hm
        have hgn : gb ≠ lo := fun e => by rw [e, c.nlo] at hgo; cases hgo
        refine ⟨own, gb, rfl, hgo, c2.move k3 (fun b e => ?_) fun b j e f => ?_, hf2.move k3 (fun b e e' => ?_) fun b j hj e f => ?_, hm2.move k3 (fun b e e' => ?_) fun b j hj e f => ?_⟩
        · obtain rfl := Option.some.inj e
          exact ⟨(c.ow _ _ hgo).1, hgn, fun j hj e2 => by rw [hgo] at e2; have := Option.some.inj e2; omega⟩
        · by_cases hbg : b = gb
          · subst hbg
            rw [hgo] at e
            obtain rfl := Option.some.inj e
            exact hfc 31 (by omega)
          · exact f.keep k3 (c2.ow b j e).2 (fun e => hbg (Option.some.inj e).symm)
        · obtain rfl := Option.some.inj e'
          rw [(hf.ob _ e).1] at hgo; cases hgo
        · by_cases hbg : b = gb
          · subst hbg
            rw [hgo] at e
            obtain rfl := Option.some.inj e
            exact hfc 32 (by omega)
          · exact f.keep k3 (c2.ow b j e).2 (fun e => hbg (Option.some.inj e).symm)
        · obtain rfl := Option.some.inj e'
          rw [(hm.ob _ e).1] at hgo; cases hgo
        · by_cases hbg : b = gb
          · subst hbg
            rw [hgo] at e
            obtain rfl := Option.some.inj e
            omega
          · exact f.keep k3 (c2.ow b j e).2 (fun e => hbg (Option.some.inj e).symm)
      · have c3 := c2.move k3 (fun _ e => e.elim) fun b j e f => f.keep k3 (c2.ow b j e).2 id
        have hf3 := hf2.move k3 (fun _ _ => id) fun b j _ e f => f.keep k3 (c2.ow b j e).2 id
        have hm3 := hm2.move k3 (fun _ _ => id) fun b j _ e f => f.keep k3 (c2.ow b j e).2 id
        have hfr : own h2.size = none := c2.free (Nat.le_refl _)
        have hl3 : h2.size < h3.size := s3.lt
        have h02 := c2.s.kept.1
        have hlo2 := c2.s.lst.lt
        refine ⟨fun b => if b = h2.size then some i else own b, h2.size, rfl, by simp, c3.grow hfr h02 hl3 (by omega), hf3.grow hfr ?_, hm3.grow hfr ?_⟩
        · intro e
          have e := e
          subst e
          exact absurd hf2.sl.lt (by omega)
        · intro e
          subst e
          exact absurd hm2.sl.lt (by omega)
    obtain ⟨own', gb', rfl, hgo', c3, hf3, hm3⟩ := key
    have hnm3 : Nm (31 + k + 1) (gvs ++ flat (mk i, 0, false, 0, 0, 0, 0)) (mk i) := hnm.app hs2.len rfl
    have hw : IntKind.wrap .i64 ((k : Int) + 1) = ((k + 1 : Nat) : Int) := by rw [wrap_sm (by omega) (by omega)]; rfl
    refine Cond_b (fun hz => ?_) fun hz => ?_
    · obtain rfl : k = 0 := by have : (k : Int) = 0 := by simpa using hz
                               omega
      have ha := (s3.row gb' rfl).1
      rw [ha]
      have hl3 := c3.s.lst.lt
      refine lf_append (c := c') hf3 (by omega) hgo' (Fc.of s3 hnm3 (by omega)) (fun b hb => c3.free hb) hl3 c3.s.kept.1 fun a2 c2' o2 h4 hf4 ho2 k4 => ?_
      unfold f3K2
      have hsub : ∀ b, fo = some b → own' b = none := fun b e => (hf3.ob b e).1
      refine ⟨70 - (0 + 1), by omega, 1, own', o2, mo, _, mv, gb', _, by omega, rfl, rfl, rfl, hw, ?_, hf4, ?_, ?_, rfl, ?_, hgo', hnm3⟩
      · exact c3.move k4 (fun b e => ⟨(hf3.ob b e).2.1, (hf3.ob b e).2.2, fun j _ e2 => by rw [hsub b e] at e2; cases e2⟩) fun b j e f => f.keep k4 (c3.ow b j e).2 fun e' => by rw [hsub b e'] at e; cases e
      · exact hm3.move k4 (fun b e e' => hne b e' e) fun b j _ e f => f.keep k4 (c3.ow b j e).2 fun e' => by rw [hsub b e'] at e; cases e
      · intro b e e'
        rcases ho2 with rfl | ⟨b0, rfl, hb0⟩
        · exact hne b e e'
        · obtain rfl := Option.some.inj e
          subst e'
          exact absurd hm3.sl.lt (by omega)
      · exact slat_kept (ha ▸ s3) k4 fun e => by rw [hsub _ e] at hgo'; cases hgo'
    · have hk0 : k ≠ 0 := fun e => by subst e; simp at hz
      unfold f3K2
      refine ⟨70 - (k + 1), by omega, k + 1, own', fo, mo, fv, mv, gb', _, by omega, rfl, rfl, rfl, hw, c3, ?_, hm3, hne, rfl, s3, hgo', hnm3⟩
      rw [show min (k + 1) 1 = min k 1 by omega]
      exact hf3
  · obtain rfl : k = 70 := by omega
    have ha := (hs.row gb rfl).1
    rw [ha, h9]
    refine lf_append (c := s9.c) hm (by omega) hgo (Fc.of hs hnm (by omega)) (fun b hb => c.free hb) hlo h0s fun a2 c2 o2 h4 hm4 ho2 k4 => ?_
    have hsub : ∀ b, mo = some b → own b = none := fun b e => (hm.ob b e).1
    refine ⟨40 - (i + 1), by omega, i + 1, own, fo, o2, fv, _, by omega, rfl, rfl, ?_, ?_, ?_, hm4, ?_⟩
    · rw [wrap_sm (by omega) (by omega)]; rfl
    · exact c.move k4 (fun b e => ⟨(hm.ob b e).2.1, (hm.ob b e).2.2, fun j _ e2 => by rw [hsub b e] at e2; cases e2⟩) fun b j e f => f.keep k4 (c.ow b j e).2 fun e' => by rw [hsub b e'] at e; cases e
    · exact hf.move k4 (fun b e e' => hne b e e') fun b j _ e f => f.keep k4 (c.ow b j e).2 fun e' => by rw [hsub b e'] at e; cases e
    · intro b e e'
      rcases ho2 with rfl | ⟨b0, rfl, hb0⟩
      · exact hne b e e'
      · obtain rfl := Option.some.inj e'
        subst e
        exact absurd hf.sl.lt (by omega)

theorem step5 {h0 : Hp} {lo : Nat} {s1 : Sl} {bs : List (Nat × Nat)} {R : Value → Hp → Prop} (hg : Reads h0 ⟨0, 0, none⟩ (flats rws)) (hR : ∀ h', Kept N h0 h' → R (.bool true) h')
    (n : Nat) (a1 a6 a7 : Sl) (i8 : Int) (g : Nat → Value) (h : Hp) (hJ : J5 h0 s1 lo bs n a1 a6 a7 i8 h) : f3L5 (J5 h0 s1 lo bs) n a1 a6 a7 i8 g h R := by
  obtain ⟨i, own, fo, mo, fv, mv, hi, rfl, rfl, rfl, c, hf, hm, hne⟩ := hJ
  unfold f3L5
  refine Cond_dec (fun hlt => ?_) fun hge => ?_
  · have hi40 : i < 40 := by omega
    obtain ⟨p, hp⟩ : ∃ p, bs[i]? = some p := ⟨_, List.getElem?_eq_getElem (by rw [c.s.len]; exact hi40)⟩
    obtain ⟨vs, hs, hnm⟩ := c.next i p (Nat.le_refl _) hp
    refine ⟨⟨by omega, by rw [c.s.n]; omega⟩, PtrOk_of c.s.a ⟨⟨some (ad p.1), 31, p.2⟩, c.s.at hp, ?_⟩⟩
    refine f3L6_rule (s9 := ⟨some (ad p.1), 31, p.2⟩) (J6 h0 a1 lo bs i) 70 ⟨0, own, fo, mo, fv, mv, p.1, vs, by omega, rfl, rfl, rfl, rfl, ⟨c.s, c.nlo, c.ow, c.base, fun j p hj hp => c.next j p (by omega) hp⟩, hf, hm, hne, rfl, hs, (c.base i p hp).1, hnm⟩ ?_
    intro n a1' a6 a7 i8 s9 i10 g h hJ
    exact step6 hi40 n a1' a6 a7 i8 s9 i10 g h hJ
  · obtain rfl : i = 40 := by omega
    have k0 := c.s.kept
    refine cmds_ok (reads_kept hg (by decide) k0 id) fun b d h2 s2 hb2 k2 => ⟨⟨some (ad b), 31, d⟩, rfl, rows_ok s2 fun h3 k3 => ⟨true, rfl, Cond_f rfl ?_⟩⟩
    have k := k2.trans k3
    have c3 := c.move k (fun _ e => e.elim) fun b j e f => f.keep k (c.ow b j e).2 id
    have hf3 := hf.move k (fun _ _ => id) fun b j _ e f => f.keep k (c.ow b j e).2 id
    have hm3 := hm.move k (fun _ _ => id) fun b j _ e f => f.keep k (c.ow b j e).2 id
    cases fo with
    | none => exact absurd (hf3.sl.nil rfl).2.1 (by omega)
    | some fo =>
      cases mo with
      | none => exact absurd (hm3.sl.nil rfl).2.1 (by omega)
      | some mo =>
        refine f3L7_rule (J7 a1 a6 a7 h3) 40 ⟨0, by omega, rfl, rfl, rfl, rfl, rfl, Kept.refl _ _⟩ fun n b1 b6 b7 i11 g h hJ => step7 hg hR c3 hf3 hm3 n b1 b6 b7 i11 g h hJ

/-! ### the marks -/
def J3 (h0 : Hp) (s1 : Sl) (lo : Nat) (bs : List (Nat × Nat)) : Nat → Sl → Int → Hp → Prop := fun n a1 i4 h => ∃ i : Nat, i ≤ 40 ∧ n = 40 - i ∧ a1 = s1 ∧ i4 = i ∧ S1 h0 h s1 lo bs ∧ Marked h bs i 0
def J4 (h0 : Hp) (s1 : Sl) (lo : Nat) (bs : List (Nat × Nat)) (i : Nat) : Nat → Sl → Int → Int → Hp → Prop := fun n a1 i4 i5 h => ∃ k : Nat, k ≤ 31 ∧ n = 31 - k ∧ a1 = s1 ∧ i4 = i ∧ i5 = k ∧ S1 h0 h s1 lo bs ∧ Marked h bs i k
theorem nd_at {bs : List (Nat × Nat)} (h : bs.Pairwise fun p q => p.1 ≠ q.1) {i j : Nat} {p q : Nat × Nat} (hp : bs[i]? = some p) (hq : bs[j]? = some q) (hij : i ≠ j) : p.1 ≠ q.1 := by
  obtain ⟨hi, rfl⟩ := List.getElem?_eq_some_iff.1 hp
  obtain ⟨hj, rfl⟩ := List.getElem?_eq_some_iff.1 hq
  rcases Nat.lt_or_gt_of_ne hij with h1 | h1
  · exact List.pairwise_iff_getElem.1 h i j hi hj h1
  · exact (List.pairwise_iff_getElem.1 h j i hj hi h1).symm
theorem step4 {h0 : Hp} {lo i : Nat} {s1 : Sl} {bs : List (Nat × Nat)} {R : Value → Hp → Prop} (hi : i < 40)
    (n : Nat) (a1 : Sl) (i4 i5 : Int) (g : Nat → Value) (h : Hp) (hJ : J4 h0 s1 lo bs i n a1 i4 i5 h) : f3L4 (J3 h0 s1 lo bs) (40 - i) (J4 h0 s1 lo bs i) n a1 i4 i5 g h R := by
  obtain ⟨k, hk, rfl, rfl, rfl, rfl, s, m⟩ := hJ
  unfold f3L4
  obtain ⟨p, hp⟩ : ∃ p, bs[i]? = some p := ⟨_, List.getElem?_eq_getElem (by rw [s.len]; exact hi)⟩
  have c1 : (0 : Int) ≤ (i : Int) ∧ (i : Int) < ((a1.n : Nat) : Int) := ⟨by omega, by rw [s.n]; omega⟩
  refine ⟨c1, PtrOk_of s.a ⟨⟨some (ad p.1), 31, p.2⟩, s.at hp, Cond_dec (fun hlt => ?_) fun hge => ?_⟩⟩
  · have hk31 : k < 31 := by have : (k : Int) < ((31 : Nat) : Int) := hlt; omega
    refine ⟨c1, PtrOk_of s.a ⟨⟨some (ad p.1), 31, p.2⟩, s.at hp, mark_ok fun h1 k1 => ?_⟩⟩
    have s' := s.keep k1 (fun _ e => e.elim) id
    have m' := m.keep k1 (fun _ _ => id)
    refine ⟨mk i, rfl, ⟨⟨_, _, _⟩, s'.at hp, rfl⟩, ⟨by omega, hlt⟩, PtrOk_mk ?_⟩
    have idx : ∀ b : Nat, (ad b).add ((k : Int).toNat * 7) = ⟨b, k * 7, none⟩ := fun b => by rw [add_ad]; rfl
    simp only [idx]
    obtain ⟨vs, hs, hm1, hm2⟩ := m' i p hp
    have hvl := hs.len
    obtain ⟨_, _, junk, hr, hjl⟩ := hs.row p.1 rfl
    refine put7 hr (by rw [List.length_append]; omega) _ _ _ _ _ _ _ fun h2 hr2 k2 => ?_
    have hs2 := slat_ovw (l := [.string (mk i), .int .i64 0, .bool false, .int .i64 0, .int .i64 0, .int .i64 0, .int .i64 0]) hs (by simp; omega) hjl hr2
    refine ⟨31 - (k + 1), by omega, k + 1, by omega, rfl, rfl, rfl, ?_, s'.keep k2 (fun b e => e ▸ s.own p (List.mem_of_getElem? hp)) (Ne.symm (s.lo1 p (List.mem_of_getElem? hp))), fun j q hq => ?_⟩
    · rw [wrap_sm (by omega) (by omega)]; rfl
    · by_cases hji : j = i
      · subst hji
        rw [hp] at hq
        obtain rfl := Option.some.inj hq
        refine ⟨_, hs2, fun hlt => by omega, fun _ r hr => ?_⟩
        unfold ovw
        rcases Nat.lt_or_ge r k with h | h
        · have h1 : (vs.take (k * 7)).length = k * 7 := by rw [List.length_take]; omega
          rw [List.append_assoc, List.getElem?_append_left (by omega), List.getElem?_take, if_pos (by omega)]
          exact hm2 rfl r h
        · obtain rfl : r = k := by omega
          have h1 : (vs.take (r * 7)).length = r * 7 := by rw [List.length_take]; omega
          rw [List.append_assoc, List.getElem?_append_right (by omega), h1, Nat.sub_self]
          rfl
      · obtain ⟨vs', h1, h2⟩ := m' j q hq
        exact ⟨vs', slat_kept h1 k2 (nd_at s.nd hq hp hji), h2.1, fun e => absurd e hji⟩
  · obtain rfl : k = 31 := by have : ¬ (k : Int) < ((31 : Nat) : Int) := hge; omega
    refine ⟨40 - (i + 1), by omega, i + 1, by omega, rfl, rfl, ?_, s, fun j q hq => ?_⟩
    · rw [wrap_sm (by omega) (by omega)]; rfl
    · obtain ⟨vs, h1, h2, h3⟩ := m j q hq
      refine ⟨vs, h1, fun hj => ?_, fun _ r hr => by omega⟩
      by_cases hji : j = i
      · exact h3 hji
      · exact h2 (by omega)
def ownOf (bs : List (Nat × Nat)) (b : Nat) : Option Nat := bs.findIdx? fun p => p.1 == b
theorem ownOf_at {bs : List (Nat × Nat)} (h : bs.Pairwise fun p q => p.1 ≠ q.1) {j : Nat} {p : Nat × Nat} (hp : bs[j]? = some p) : ownOf bs p.1 = some j := by
  unfold ownOf
  obtain ⟨hj, rfl⟩ := List.getElem?_eq_some_iff.1 hp
  rw [List.findIdx?_eq_some_iff_getElem]
  refine ⟨hj, by simp, fun i hij => ?_⟩
  have := List.pairwise_iff_getElem.1 h i j (by omega) hj hij
  simpa using this
theorem ownOf_mem {bs : List (Nat × Nat)} {b j : Nat} (h : ownOf bs b = some j) : ∃ p, bs[j]? = some p ∧ p.1 = b := by
  unfold ownOf at h
  rw [List.findIdx?_eq_some_iff_getElem] at h
  obtain ⟨hj, he, _⟩ := h
  exact ⟨_, List.getElem?_eq_getElem hj, by simpa using he⟩
theorem step3 {h0 : Hp} {lo : Nat} {s1 : Sl} {bs : List (Nat × Nat)} {R : Value → Hp → Prop} (hg : Reads h0 ⟨0, 0, none⟩ (flats rws)) (hR : ∀ h', Kept N h0 h' → R (.bool true) h')
    (n : Nat) (a1 : Sl) (i4 : Int) (g : Nat → Value) (h : Hp) (hJ : J3 h0 s1 lo bs n a1 i4 h) : f3L3 (J3 h0 s1 lo bs) n a1 i4 g h R := by
  obtain ⟨i, hi, rfl, rfl, rfl, s, m⟩ := hJ
  unfold f3L3
  refine Cond_dec (fun hlt => ?_) fun hge => ?_
  · have hi40 : i < 40 := by omega
    exact f3L4_rule (J4 h0 a1 lo bs i) 31 ⟨0, by omega, rfl, rfl, rfl, rfl, s, m⟩ fun n a1' i4 i5 g h hJ => step4 hi40 n a1' i4 i5 g h hJ
  · obtain rfl : i = 40 := by omega
    have hm : ∀ (j : Nat) (p : Nat × Nat), bs[j]? = some p → ∃ vs, SlAt 7 h (some (ad p.1)) 31 p.2 (some p.1) vs ∧ Nm 31 vs (mk j) := fun j p hp => by
      obtain ⟨vs, h1, h2, _⟩ := m j p hp
      have hj := (List.getElem?_eq_some_iff.1 hp).1
      rw [s.len] at hj
      exact ⟨vs, h1, h2 hj⟩
    have c : C4 h0 h (ownOf bs) lo 0 a1 bs := by
      refine ⟨s, ?_, fun b j e => ?_, fun j p hp => ⟨ownOf_at s.nd hp, ?_⟩, fun j p _ hp => hm j p hp⟩
      · cases e : ownOf bs lo with
        | none => rfl
        | some j =>
          obtain ⟨p, hp, he⟩ := ownOf_mem e
          exact absurd he (s.lo1 p (List.mem_of_getElem? hp))
      · obtain ⟨p, hp, rfl⟩ := ownOf_mem e
        obtain ⟨vs, h1, _⟩ := hm j p hp
        exact ⟨s.own p (List.mem_of_getElem? hp), h1.lt⟩
      · obtain ⟨vs, h1, h2⟩ := hm j p hp
        exact Fc.of h1 h2 (Nat.le_refl _)
    refine f3L5_rule (s6 := ⟨none, 0, 0⟩) (s7 := ⟨none, 0, 0⟩) (J5 h0 a1 lo bs) 40 ⟨0, ownOf bs, none, none, [], [], by omega, rfl, rfl, rfl, c, ⟨rfl, slAt_nil 1 h, nofun, fun j hj => by omega⟩, ⟨rfl, slAt_nil 1 h, nofun, fun j hj => by omega⟩, nofun⟩
      fun n a1' a6 a7 i8 g h hJ => step5 hg hR n a1' a6 a7 i8 g h hJ

/-! ### the forty copies -/
def J2 (h0 : Hp) (s1 : Sl) (lo : Nat) (bs : List (Nat × Nat)) : Nat → Sl → Int → Hp → Prop := fun n a1 i3 h => ∃ i : Nat, i ≤ 40 ∧ n = 40 - i ∧ a1 = s1 ∧ i3 = i ∧ S1 h0 h s1 lo bs ∧ ∀ p ∈ bs, SlAt 7 h (some (ad p.1)) 31 p.2 (some p.1) (flats rws)
theorem step2 {h0 : Hp} {lo : Nat} {s1 : Sl} {bs : List (Nat × Nat)} {R : Value → Hp → Prop} (hg : Reads h0 ⟨0, 0, none⟩ (flats rws)) (hR : ∀ h', Kept N h0 h' → R (.bool true) h')
    (n : Nat) (a1 : Sl) (i3 : Int) (g : Nat → Value) (h : Hp) (hJ : J2 h0 s1 lo bs n a1 i3 h) : f3L2 (J2 h0 s1 lo bs) n a1 i3 g h R := by
  obtain ⟨i, hi, rfl, rfl, rfl, s, ht⟩ := hJ
  unfold f3L2
  refine Cond_dec (fun hlt => ?_) fun hge => ?_
  · have hi40 : i < 40 := by omega
    obtain ⟨p, hp⟩ : ∃ p, bs[i]? = some p := ⟨_, List.getElem?_eq_getElem (by rw [s.len]; exact hi40)⟩
    have c1 : (0 : Int) ≤ (i : Int) ∧ (i : Int) < ((a1.n : Nat) : Int) := ⟨by omega, by rw [s.n]; omega⟩
    refine ⟨c1, PtrOk_of s.a ⟨⟨some (ad p.1), 31, p.2⟩, s.at hp, rows_ok (ht p (List.mem_of_getElem? hp)) fun h1 k1 => ⟨true, rfl, Cond_f rfl ?_⟩⟩⟩
    have s' := s.keep k1 (fun _ e => e.elim) id
    refine ⟨c1, PtrOk_of s.a ⟨⟨some (ad p.1), 31, p.2⟩, s'.at hp, ?_⟩⟩
    unfold f3K1
    refine Cond_f rfl ⟨40 - (i + 1), by omega, i + 1, by omega, rfl, rfl, ?_, s', fun q hq => slat_kept (ht q hq) k1 id⟩
    rw [wrap_sm (by omega) (by omega)]; rfl
  · refine f3L3_rule (J3 h0 a1 lo bs) 40 ⟨0, by omega, rfl, rfl, rfl, s, fun j p hp => ⟨_, ht p (List.mem_of_getElem? hp), fun h => by omega, fun _ q hq => by omega⟩⟩
      fun n a1' i4 g h hJ => step3 hg hR n a1' i4 g h hJ
def J1 (h0 : Hp) : Nat → Sl → Int → Hp → Prop := fun n a1 i2 h => ∃ (i : Nat) (ob : Option Nat) (bs : List (Nat × Nat)), i ≤ 40 ∧ n = 40 - i ∧ i2 = i ∧ a1.n = i ∧ bs.length = i ∧ SlAt 1 h a1.a i a1.c ob (bs.map (sv 31)) ∧
  (∀ b, ob = some b → h0.size ≤ b ∧ ∀ p ∈ bs, p.1 ≠ b) ∧ (∀ p ∈ bs, h0.size ≤ p.1 ∧ SlAt 7 h (some (ad p.1)) 31 p.2 (some p.1) (flats rws)) ∧ (bs.Pairwise fun p q => p.1 ≠ q.1) ∧ Kept N h0 h
theorem step1 {h0 : Hp} {R : Value → Hp → Prop} (hg : Reads h0 ⟨0, 0, none⟩ (flats rws)) (hR : ∀ h', Kept N h0 h' → R (.bool true) h')
    (n : Nat) (a1 : Sl) (i2 : Int) (g : Nat → Value) (h : Hp) (hJ : J1 h0 n a1 i2 h) : f3L1 (J1 h0) n a1 i2 g h R := by
  obtain ⟨i, ob, bs, hi, rfl, rfl, hn, hl, hs, hob, ht, hnd, hk⟩ := hJ
  unfold f3L1
  refine Cond_dec (fun hlt => ?_) fun hge => ?_
  · refine cmds_ok (reads_kept hg (by decide) hk id) fun b c h1 s1 hb k1 => ⟨⟨some (ad b), 31, c⟩, rfl, Let_mk fun h2 e2 => ?_⟩
    have k2 : Kept N h h2 := k1.trans (e2 ▸ kept_push _ _ _)
    have r2 : Row h2 h1.size [sv 31 (b, c)] := e2 ▸ row_new h1 #[.slice (some (ad b)) 31 c] 23
    have hs2 := slat_kept' hs k2 (fun _ _ => id)
    have hb1 : b < h1.size := s1.lt
    have hz2 : h2.size = h1.size + 1 := by rw [e2]; simp
    have s1' : SlAt 7 h2 (some (ad b)) 31 c (some b) (flats rws) := slat_kept s1 (e2 ▸ kept_push h1 _ N) id
    refine ⟨[sv 31 (b, c)], reads_row r2 (fun j v hj => by rw [Nat.zero_add]; exact hj), rfl, ?_⟩
    rw [hn]
    have hobl : ∀ b0, ob = some b0 → b0 < h.size := fun b0 e => by subst e; exact hs.lt
    have hpl : ∀ p ∈ bs, p.1 < h.size := fun p hp => (ht p hp).2.lt
    refine appT_ok hs2 rfl rfl (by intro v hv; obtain rfl := List.mem_singleton.1 hv; rfl) (by omega) (by omega) fun a' c' ob' h3 hs3 ho k3 => ?_
    have hk0 := hk.1
    refine ⟨40 - (i + 1), by omega, i + 1, ob', bs ++ [(b, c)], by omega, rfl, ?_, rfl, by rw [List.length_append, hl]; rfl, by rw [List.map_append]; exact hs3, fun b0 e0 => ?_, fun p hp => ?_, ?_, ?_⟩
    · rw [wrap_sm (by omega) (by omega)]; rfl
    · rcases ho with rfl | rfl
      · refine ⟨(hob b0 e0).1, fun p hp => ?_⟩
        rcases List.mem_append.1 hp with hp | hp
        · exact (hob b0 e0).2 p hp
        · obtain rfl := List.mem_singleton.1 hp
          have := hobl b0 e0
          show b ≠ b0
          omega
      · obtain rfl := Option.some.inj e0
        refine ⟨by omega, fun p hp => ?_⟩
        rcases List.mem_append.1 hp with hp | hp
        · have := hpl p hp
          omega
        · obtain rfl := List.mem_singleton.1 hp
          show b ≠ _
          omega
    · rcases List.mem_append.1 hp with hp | hp
      · exact ⟨(ht p hp).1, slat_kept (slat_kept (ht p hp).2 k2 id) k3 fun e => (hob _ e).2 p hp rfl⟩
      · obtain rfl := List.mem_singleton.1 hp
        exact ⟨by show h0.size ≤ b; omega, slat_kept s1' k3 fun e => by have := hobl b e; omega⟩
    · rw [List.pairwise_append]
      refine ⟨hnd, List.pairwise_singleton _ _, fun p hp q hq => ?_⟩
      obtain rfl := List.mem_singleton.1 hq
      have := hpl p hp
      show p.1 ≠ b
      omega
    · refine ⟨Nat.le_trans hk.1 (Nat.le_trans k2.1 k3.1), fun j hj _ => ?_⟩
      have j1 := Nat.lt_of_lt_of_le hj hk.1
      rw [k3.2 j (Nat.lt_of_lt_of_le j1 k2.1) fun e => by have := (hob j e).1; omega, k2.2 j j1 id]
      exact hk.2 j hj id
  · obtain rfl : i = 40 := by omega
    cases ob with
    | none => exact absurd (hs.nil rfl).2.1 (by omega)
    | some lo =>
      have s : S1 h0 h a1 lo bs := ⟨hn, hl, hs, (hob lo rfl).1, (hob lo rfl).2, fun p hp => (ht p hp).1, hnd, hk⟩
      exact f3L2_rule (J2 h0 a1 lo bs) 40 ⟨0, by omega, rfl, rfl, rfl, s, fun p hp => (ht p hp).2⟩ fun n a1' i3 g h hJ => step2 hg hR n a1' i3 g h hJ
theorem order_ok {h0 : Hp} {R : Value → Hp → Prop} (hg : Reads h0 ⟨0, 0, none⟩ (flats rws)) (hR : ∀ h', Kept N h0 h' → R (.bool true) h') : CallTo Tryd.prog 3 #[] h0 R := by
  refine f3F_ok ?_
  unfold f3F
  exact f3L1_rule (s1 := ⟨none, 0, 0⟩) (J1 h0) 40 ⟨0, none, [], by omega, rfl, rfl, rfl, rfl, slAt_nil 1 h0, nofun, nofun, List.Pairwise.nil, Kept.refl _ _⟩ fun n a1 i2 g h hJ => step1 hg hR n a1 i2 g h hJ
end Go.Ev
