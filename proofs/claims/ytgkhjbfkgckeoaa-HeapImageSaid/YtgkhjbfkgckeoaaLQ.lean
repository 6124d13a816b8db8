/- The exact statements over the two heaps: the steps, the play, the script's datum. No condition but that it is one. -/
import Derived.Test.YtgkhjbfkgckeoaaGZ
import Derived.Test.YtgkhjbfkgckeoaaGX
import Derived.Test.YtgkhjbfkgckeoaaRQ
import Derived.ProofKit
import Derived.SizedLaws
import Derived.LaidMore
import Derived.OpenShut
set_option linter.all false
set_option maxRecDepth 100000
namespace Go.Ev
open Go.Proofs
theorem PtrOk_mk' {o : Option Addr} {a : Addr} {K : Addr → Prop} (e : o = some a) (h : K a) : PtrOk o K := e ▸ h
theorem readsO_get {h : Hp} {a : Option Addr} {vs : List Value} (r : ReadsO h a vs) {i : Nat} {v : Value} (hv : vs[i]? = some v) : ∃ p, a = some p ∧ cell h (p.add i) = some v := by
  cases a with
  | none =>
    have e : vs = [] := r
    rw [e] at hv
    cases hv
  | some p => exact ⟨p, rfl, r i v hv⟩
theorem slAt_reads {h : Hp} {a : Option Addr} {n c : Nat} {ob : Option Nat} {vs : List Value} (s : SlAt 1 h a n c ob vs) : ReadsO h a vs := by
  cases ob with
  | none =>
    have h1 := s.nil rfl
    have h2 := s.len
    rw [h1.1]
    have : vs.length = 0 := by rw [h2, h1.2.1]
    exact List.length_eq_zero_iff.1 this
  | some b =>
    obtain ⟨h1, _, j, h3, _⟩ := s.row b rfl
    rw [h1]
    exact reads_row h3 fun k v hv => by rw [Nat.zero_add, List.getElem?_append_left (List.getElem?_eq_some_iff.1 hv).1]; exact hv
theorem row_reads {h : Hp} {b : Nat} {vs : List Value} (r : Row h b vs) : ReadsO h (some (ad b)) vs := reads_row r fun j v hv => by rw [Nat.zero_add]; exact hv
theorem eqw_ok {h : Hp} {a b : Sl} {l : List Nat} (ha : ReadsO h a.a (l.map uv)) (hb : ReadsO h b.a (l.map uv)) (na : a.n = l.length) (nb : b.n = l.length) (hn : l.length < 9223372036854775807) {R : Value → Hp → Prop} (hR : R (.bool true) h) :
    CallTo Try.prog 24 #[.slice a.a a.n a.c, .slice b.a b.n b.c] h R := by
  refine f24F_ok ?_
  unfold f24F
  refine Cond_f (by rw [na, nb]; simp) ?_
  refine f24L1_rule (s0 := a) (s1 := b) (fun q s0 s1 s5 h' => ∃ i : Nat, i ≤ l.length ∧ q = l.length - i ∧ s0 = a ∧ s1 = b ∧ s5 = (i : Int) ∧ h' = h) l.length ⟨0, Nat.zero_le _, rfl, rfl, rfl, rfl, rfl⟩ ?_
  rintro q s0 s1 s5 g0 h2 ⟨i, hi, rfl, rfl, rfl, rfl, rfl⟩
  unfold f24L1
  refine Cond_dec (fun hlt => ?_) (fun _ => hR)
  have hil : i < l.length := by rw [na] at hlt; omega
  have e0 : (l.map uv)[i]? = some (uv l[i]) := by rw [List.getElem?_map, List.getElem?_eq_getElem hil]; rfl
  obtain ⟨p, hp, cp⟩ := readsO_get ha e0
  obtain ⟨p', hp', cp'⟩ := readsO_get hb e0
  refine ⟨⟨by omega, hlt⟩, PtrOk_mk' hp ⟨_, by rw [Int.toNat_natCast, Nat.mul_one]; exact cp, ⟨by omega, by rw [nb]; omega⟩, PtrOk_mk' hp' ⟨_, by rw [Int.toNat_natCast, Nat.mul_one]; exact cp', Cond_f (by simp) ?_⟩⟩⟩
  refine ⟨l.length - (i + 1), by omega, i + 1, hil, rfl, rfl, rfl, ?_, rfl⟩
  rw [wrap_i64' (by omega) (by omega)]; rfl
theorem cmp_ok {h : Hp} {a b : Sl} {l : List Nat} (ha : ReadsO h a.a (l.map bv)) (hb : ReadsO h b.a (l.map bv)) (na : a.n = l.length) (nb : b.n = l.length) (hn : l.length < 9223372036854775807) {R : Value → Hp → Prop} (hR : R (.int .i64 0) h) :
    CallTo Try.prog 113 #[.slice a.a a.n a.c, .slice b.a b.n b.c] h R := by
  refine f113F_ok ?_
  unfold f113F
  refine f113L1_rule (s0 := a) (s1 := b) (fun q s0 s1 s5 h' => ∃ i : Nat, i ≤ l.length ∧ q = l.length - i ∧ s0 = a ∧ s1 = b ∧ s5 = (i : Int) ∧ h' = h) l.length ⟨0, Nat.zero_le _, rfl, rfl, rfl, rfl, rfl⟩ ?_
  rintro q s0 s1 s5 g0 h2 ⟨i, hi, rfl, rfl, rfl, rfl, rfl⟩
  have hend : ∀ J, ¬ i < l.length → f113K1 J (l.length - i) s0 s1 (i : Int) false h2 R := fun J _ => by
    unfold f113K1
    refine Cond_f rfl (Cond_f (by rw [na, nb]; simp) (Cond_f (by rw [na, nb]; simp) hR))
  unfold f113L1
  refine Cond_dec (fun hlt => ?_) (fun hlt => hend _ (by rw [na] at hlt; omega))
  have hil : i < l.length := by rw [na] at hlt; omega
  have e0 : (l.map bv)[i]? = some (bv l[i]) := by rw [List.getElem?_map, List.getElem?_eq_getElem hil]; rfl
  obtain ⟨p, hp, cp⟩ := readsO_get ha e0
  obtain ⟨p', hp', cp'⟩ := readsO_get hb e0
  unfold f113K1
  refine Cond_t (by rw [nb]; exact decide_eq_true (by omega)) ?_
  refine ⟨⟨by omega, hlt⟩, PtrOk_mk' hp ⟨_, by rw [Int.toNat_natCast, Nat.mul_one]; exact cp, ⟨by omega, by rw [nb]; omega⟩, PtrOk_mk' hp' ⟨_, by rw [Int.toNat_natCast, Nat.mul_one]; exact cp', Cond_f (by simp) ?_⟩⟩⟩
  refine ⟨⟨by omega, hlt⟩, PtrOk_mk' hp ⟨_, by rw [Int.toNat_natCast, Nat.mul_one]; exact cp, ⟨by omega, by rw [nb]; omega⟩, PtrOk_mk' hp' ⟨_, by rw [Int.toNat_natCast, Nat.mul_one]; exact cp', Cond_f (by simp) ?_⟩⟩⟩
  refine ⟨l.length - (i + 1), by omega, i + 1, hil, rfl, rfl, rfl, ?_, rfl⟩
  rw [wrap_i64' (by omega) (by omega)]; rfl
theorem eqb_ok {h : Hp} {a b : Sl} {l : List Nat} (ha : ReadsO h a.a (l.map bv)) (hb : ReadsO h b.a (l.map bv)) (na : a.n = l.length) (nb : b.n = l.length) (hn : l.length < 9223372036854775807) {R : Value → Hp → Prop} (hR : R (.bool true) h) :
    CallTo Try.prog 98 #[.slice a.a a.n a.c, .slice b.a b.n b.c] h R := by
  refine f98F_ok ?_
  unfold f98F
  exact cmp_ok ha hb na nb hn ⟨_, rfl, hR⟩
/-- Copy: new memory with the same bytes. -/
theorem copy_ok {h : Hp} {a : Sl} {l : List Nat} (ha : ReadsO h a.a (l.map bv)) (na : a.n = l.length) (hn : l.length < 140737488355328) {R : Value → Hp → Prop}
    (hR : ∀ b h', Row h' b (l.map bv) → h.size ≤ b → Kept N h h' → R (.slice (some (ad b)) l.length l.length) h') : CallTo Try.prog 107 #[.slice a.a a.n a.c] h R := by
  refine f107F_ok ?_
  unfold f107F
  rw [na]
  refine ⟨⟨by omega, by omega⟩, by omega, by omega, Let_mk fun h1 e1 => ?_⟩
  rw [Int.toNat_natCast] at e1 ⊢
  have k1 : Kept N h h1 := e1 ▸ kept_push _ _ _
  have row1 : Row h1 h.size (List.replicate l.length (.int .u8 0)) := by
    have e2 := e1
    rw [zrow_one] at e2
    exact e2 ▸ row_new h (List.replicate l.length (.int .u8 0)).toArray 5
  have enb : nb h = ad h.size := rfl
  rw [enb]
  refine ⟨l.map bv, reads_keptN k1 ha, by rw [List.length_map]; omega, ?_⟩
  have key : ∀ h2, Row h2 h.size (l.map bv) → Kept N h h2 → R (.slice (some (ad h.size)) l.length l.length) h2 := fun h2 r2 k2 => hR _ h2 r2 (Nat.le_refl _) k2
  show stsOk h1 ((ad h.size).add 0) _ 0 ∧ R _ (setcs h1 ((ad h.size).add 0) _ 0)
  rw [add_ad]
  refine ⟨stsOk_row _ _ _ 0 0 row1 (by simp) (fun v hv => by obtain ⟨x, _, rfl⟩ := List.mem_map.1 hv; rfl), key _ ?_ ⟨by rw [size_setcs]; exact k1.1, fun b hb _ => (setcs_ne _ _ _ _ (by omega)).trans (k1.2 b hb id)⟩⟩
  have := row_setcs (l.map bv) h1 _ 0 0 row1 (by simp)
  have e : ovw (List.replicate l.length (.int .u8 0)) (0 + 0) (l.map bv) = l.map bv := by unfold ovw; simp
  rw [e] at this
  exact this
theorem twin_ok {h : Hp} {a : Sl} {l : List Nat} (ha : ReadsO h a.a (l.map bv)) (na : a.n = l.length) (hn : l.length < 140737488355328) {R : Value → Hp → Prop}
    (hR : ∀ s : Sl, ∀ h', ReadsO h' s.a (l.map bv) → s.n = l.length → (∀ p, s.a = some p → h.size ≤ p.block ∧ p.block < h'.size) → Kept N h h' → R (.slice s.a s.n s.c) h') : CallTo Try.prog 82 #[.slice a.a a.n a.c] h R := by
  refine f82F_ok ?_
  unfold f82F
  refine Cond_b (fun hn0 => ?_) fun hn0 => ?_
  · rw [Option.isNone_iff_eq_none] at hn0
    rw [hn0] at ha
    refine hR ⟨none, 0, 0⟩ h ha ?_ nofun (Kept.refl _ _)
    have : l.map bv = [] := ha
    rw [List.map_eq_nil_iff.1 this]
    rfl
  · exact copy_ok ha na hn fun b h' r1 hb k => ⟨⟨some (ad b), l.length, l.length⟩, rfl, hR ⟨some (ad b), l.length, l.length⟩ h' (row_reads r1) rfl (fun p hp => by obtain rfl := Option.some.inj hp; exact ⟨hb, row_lt r1⟩) k⟩
end Go.Ev
set_option linter.all false
set_option maxRecDepth 100000
namespace Go.Ev
open Go.Proofs
namespace RS
section
variable {s : RS}
theorem become_len (n : Nat) : (s.become n).objs.length = s.objs.length ∧ (s.become n).roots = s.roots := by unfold become; split <;> exact ⟨rfl, rfl⟩
theorem fit_len (n : Nat) : (s.fit n).objs.length = s.objs.length ∧ (s.fit n).roots = s.roots := by
  unfold fit
  split
  · split
    · exact become_len _
    · exact ⟨rfl, rfl⟩
  · split
    · exact become_len _
    · exact ⟨rfl, rfl⟩
theorem coll_len : s.collection.objs.length = s.objs.length ∧ s.collection.roots = s.roots := by unfold collection; exact ⟨by simp, rfl⟩
theorem collect_len : s.collect.objs.length = s.objs.length ∧ s.collect.roots = s.roots := by
  unfold collect
  exact ⟨(fit_len _).1.trans coll_len.1, (fit_len _).2.trans coll_len.2⟩
theorem resize_len (n : Int) : (s.resize n).1.objs.length = s.objs.length ∧ (s.resize n).1.roots = s.roots := by
  unfold resize
  split
  · exact ⟨rfl, rfl⟩
  · split
    · exact coll_len
    · exact ⟨(become_len _).1.trans coll_len.1, (become_len _).2.trans coll_len.2⟩
theorem setObj_len (id : Nat) (o : RObj) : (s.setObj id o).objs.length = s.objs.length ∧ (s.setObj id o).roots = s.roots := ⟨by unfold setObj; simp, rfl⟩
theorem setF_len (r : Nat) (i : Int) (x : Nat) : (s.setF r i x).1.objs.length = s.objs.length ∧ (s.setF r i x).1.roots = s.roots := by
  unfold setF
  split
  · exact ⟨rfl, rfl⟩
  · split
    · exact ⟨rfl, rfl⟩
    · split
      · split
        · exact ⟨rfl, rfl⟩
        · exact setObj_len _ _
      · exact setObj_len _ _
theorem setBytesF_len (r : Nat) (f : Int) (cs : List Nat) : (s.setBytesF r f cs).1.objs.length = s.objs.length ∧ (s.setBytesF r f cs).1.roots = s.roots := by
  unfold setBytesF
  split
  · exact setObj_len _ _
  · exact ⟨rfl, rfl⟩
theorem putF_len (n : Int) (r : Nat) : (s.putF n r).1.objs.length = s.objs.length ∧ (s.putF n r).1.roots.length = s.roots.length := by
  unfold putF
  split
  · exact ⟨rfl, rfl⟩
  · split
    · exact ⟨rfl, by unfold withRoots; simp⟩
    · exact ⟨rfl, rfl⟩
theorem dropF_len (n : Int) : (s.dropF n).1.objs.length = s.objs.length ∧ (s.dropF n).1.roots.length = s.roots.length := by
  unfold dropF
  split
  · exact ⟨rfl, rfl⟩
  · exact ⟨rfl, by unfold withRoots; simp⟩
theorem rootF_len (r : Nat) : (s.rootF r).1.objs.length = s.objs.length ∧ (s.rootF r).1.roots.length ≤ s.roots.length + 1 := by
  unfold rootF
  split
  · refine ⟨rfl, ?_⟩
    unfold withRoots
    dsimp only
    split <;> simp
  · exact ⟨rfl, Nat.le_succ _⟩
theorem addBig_len (k r w : Nat) : (s.addBig k r w).objs.length = s.objs.length + 1 ∧ (s.addBig k r w).roots = s.roots := ⟨by unfold addBig; simp, rfl⟩
theorem alloc_len (k r w : Int) : (s.alloc k r w).1.objs.length ≤ s.objs.length + 1 ∧ (s.alloc k r w).1.roots = s.roots := by
  unfold alloc
  split
  · split
    · unfold block
      have h1 : (s.block1 (2 + r.toNat + w.toNat)).objs.length = s.objs.length ∧ (s.block1 (2 + r.toNat + w.toNat)).roots = s.roots := by
        unfold block1
        split
        · exact collect_len
        · exact ⟨rfl, rfl⟩
      unfold block2
      generalize hg : s.block1 (2 + r.toNat + w.toNat) = g at h1
      obtain ⟨g1, g2⟩ := h1
      split
      · split
        · exact ⟨by show g.objs.length ≤ _; omega, g2⟩
        · have := addBig_len (s := g.become ((g.limit - g.large - (2 + r.toNat + w.toNat)) / 2)) k.toNat r.toNat w.toNat
          have h2 := become_len (s := g) ((g.limit - g.large - (2 + r.toNat + w.toNat)) / 2)
          exact ⟨by rw [this.1, h2.1]; omega, this.2.trans (h2.2.trans g2)⟩
      · have := addBig_len (s := g) k.toNat r.toNat w.toNat
        exact ⟨by rw [this.1]; omega, this.2.trans g2⟩
    · have h1 : (s.small1 (1 + r.toNat + w.toNat)).objs.length = s.objs.length ∧ (s.small1 (1 + r.toNat + w.toNat)).roots = s.roots := by
        unfold small1
        split
        · exact ⟨(fit_len _).1.trans coll_len.1, (fit_len _).2.trans coll_len.2⟩
        · exact ⟨rfl, rfl⟩
      generalize s.small1 (1 + r.toNat + w.toNat) = g at h1
      unfold small2
      split
      · exact ⟨by show g.objs.length ≤ _; omega, h1.2⟩
      · refine ⟨?_, h1.2⟩
        unfold addSmall
        simp
        omega
  · exact ⟨by show s.objs.length ≤ _; omega, rfl⟩
theorem atF_lt (v : s.Inv) (n : Int) : (s.atF n).1 < 18446744073709551616 := by
  unfold atF
  cases h : s.hand n with
  | none => exact (by omega : (0 : Nat) < 18446744073709551616)
  | some id => exact ref_lt v (hand_here v h)
end
end RS
/-! ### Sides -/
structure SdG where
  hb : Nat
  rb : Nat
  role : Nat → Role
  M : Mem
  Y : Mem
  G : Geo
  sp : List AObj
  g : RGeo
  sl : Sl
  s : RS
  t : RS
  l : List Nat
structure Side (h : Hp) (sb : Nat) (D : SdG) : Prop where
  rp : HRep h D.hb D.role (D.s.words D.sp) D.G
  rt : RT h D.rb D.M D.t D.g
  sy : Sep h D.Y
  y0 : D.Y.loc 0 = some sb
  c0 : D.Y.cont 0 = [.pointer (some (ad D.hb)), .pointer (some (ad D.rb)), slV D.sl]
  rg : IsSl 1 D.Y 1 D.sl (D.l.map uv)
  d1 : ∀ b, D.Y.own b → D.role b = .out
  d2 : ∀ b, D.Y.own b → ¬ D.M.own b
  d3 : ∀ b, D.M.own b → D.role b = .out
  vs : D.s.Inv
  vt : D.t.Inv
  ll : ∀ x ∈ D.l, x < 18446744073709551616
def SdG.foot (D : SdG) (b : Nat) : Prop := D.Y.own b ∨ D.role b ≠ .out ∨ D.M.own b
def Stp (h : Hp) (D : SdG) (h' : Hp) (D' : SdG) : Prop := Kept D.foot h h' ∧ ∀ b, D'.foot b → D.foot b ∨ h.size ≤ b
section
variable {h h' h2 : Hp} {sb : Nat} {D D' D2 : SdG}
theorem Stp.refl (h : Hp) (D : SdG) : Stp h D h D := ⟨Kept.refl _ _, fun _ => .inl⟩
theorem Stp.trans (a : Stp h D h' D') (b : Stp h' D' h2 D2) : Stp h D h2 D2 :=
  ⟨⟨Nat.le_trans a.1.1 b.1.1, fun i hi hn => (b.1.2 i (Nat.lt_of_lt_of_le hi a.1.1) fun o => (a.2 i o).elim hn fun h => by omega).trans (a.1.2 i hi hn)⟩,
    fun i o => (b.2 i o).elim (a.2 i) fun h => .inr (Nat.le_trans a.1.1 h)⟩
theorem Stp.of_kept (k : Kept N h h') : Stp h D h' D := ⟨k.mono fun _ _ e => e.elim, fun _ => .inl⟩
theorem Side.foot_lt (x : Side h sb D) {b : Nat} (hb : D.foot b) : b < h.size := by
  rcases hb with hb | hb | hb
  · exact x.sy.own_lt hb
  · exact Nat.lt_of_not_le fun hl => hb (x.rp.fresh b hl)
  · exact x.rt.sep.own_lt hb
theorem Side.keep (x : Side h sb D) {S : Nat → Prop} (k : Kept S h h') (hS : ∀ b, D.foot b → ¬ S b) : Side h' sb D :=
  ⟨x.rp.keep k fun b hb => Classical.byContradiction fun hn => hS b (.inr (.inl hn)) hb, x.rt.keep k fun b hb => hS b (.inr (.inr hb)), x.sy.keep k fun b hb => hS b (.inl hb), x.y0, x.c0, x.rg, x.d1, x.d2, x.d3, x.vs, x.vt, x.ll⟩
theorem Side.keepN (x : Side h sb D) (k : Kept N h h') : Side h' sb D := x.keep k fun _ _ e => e
theorem Side.prog (x : Side h sb D) {role' : Nat → Role} {G' : Geo} {sp' : List AObj} {s' : RS} (r : HRep h' D.hb role' (s'.words sp') G') (e : ExtO h D.role h' role') (v : s'.Inv) :
    Side h' sb { D with role := role', G := G', sp := sp', s := s' } ∧ Stp h D h' { D with role := role', G := G', sp := sp', s := s' } := by
  have k : Kept (fun b => D.role b ≠ .out) h h' := ⟨e.1, fun b hb hn => (e.2 b hb (Classical.byContradiction hn)).2⟩
  refine ⟨⟨r, x.rt.keep k fun b hb hn => hn (x.d3 b hb), x.sy.keep k fun b hb hn => hn (x.d1 b hb), x.y0, x.c0, x.rg, fun b hb => (e.2 b (x.sy.own_lt hb) (x.d1 b hb)).1, x.d2, fun b hb => (e.2 b (x.rt.sep.own_lt hb) (x.d3 b hb)).1, v, x.vt, x.ll⟩,
    k.mono fun b _ hb => .inr (.inl hb), fun b hb => ?_⟩
  rcases hb with hb | hb | hb
  · exact .inl (.inl hb)
  · by_cases hl : h.size ≤ b
    · exact .inr hl
    · refine .inl (.inr (.inl fun ho => hb (e.2 b (by omega) ho).1))
  · exact .inl (.inr (.inr hb))
theorem Side.ref (x : Side h sb D) {M' : Mem} {g' : RGeo} {t' : RS} (r : RT h' D.rb M' t' g') (c : Chg h D.M h' M') (v : t'.Inv) :
    Side h' sb { D with M := M', g := g', t := t' } ∧ Stp h D h' { D with M := M', g := g', t := t' } := by
  refine ⟨⟨x.rp.keep c.1 fun b hb => x.d3 b hb, r, x.sy.keep c.1 x.d2, x.y0, x.c0, x.rg, x.d1, fun b hb hm => ?_, fun b hb => ?_, x.vs, v, x.ll⟩, c.1.mono fun b _ hb => .inr (.inr hb), fun b hb => ?_⟩
  · rcases c.2 b hm with hm | hm
    · exact x.d2 b hb hm
    · have := x.sy.own_lt hb; omega
  · rcases c.2 b hb with hb | hb
    · exact x.d3 b hb
    · exact x.rp.fresh b hb
  · rcases hb with hb | hb | hb
    · exact .inl (.inl hb)
    · exact .inl (.inr (.inl hb))
    · exact (c.2 b hb).imp (fun h => .inr (.inr h)) id
/-- The side's own part is another. -/
theorem Side.own (x : Side h sb D) {Y' : Mem} {sl' : Sl} {l' : List Nat} (sy : Sep h' Y') (y0 : Y'.loc 0 = some sb) (c0 : Y'.cont 0 = [.pointer (some (ad D.hb)), .pointer (some (ad D.rb)), slV sl']) (rg : IsSl 1 Y' 1 sl' (l'.map uv)) (c : Chg h D.Y h' Y')
    (ll : ∀ y ∈ l', y < 18446744073709551616) : Side h' sb { D with Y := Y', sl := sl', l := l' } ∧ Stp h D h' { D with Y := Y', sl := sl', l := l' } := by
  refine ⟨⟨x.rp.keep c.1 x.d1, x.rt.keep c.1 fun b hb hn => x.d2 b hn hb, sy, y0, c0, rg, fun b hb => ?_, fun b hb hm => ?_, x.d3, x.vs, x.vt, ll⟩, c.1.mono fun b _ hb => .inl hb, fun b hb => ?_⟩
  · rcases c.2 b hb with hb | hb
    · exact x.d1 b hb
    · exact x.rp.fresh b hb
  · rcases c.2 b hb with hb | hb
    · exact x.d2 b hb hm
    · have := x.rt.sep.own_lt hm; omega
  · rcases hb with hb | hb | hb
    · exact (c.2 b hb).imp .inl id
    · exact .inl (.inr (.inl hb))
    · exact .inl (.inr (.inr hb))
theorem Side.p (x : Side h sb D) : cell h (ad sb) = some (.pointer (some (ad D.hb))) := by rw [x.sy.cell0 x.y0, x.c0]; rfl
theorem Side.q (x : Side h sb D) : cell h ((ad sb).add 1) = some (.pointer (some (ad D.rb))) := by rw [x.sy.cellA x.y0, x.c0]; rfl
theorem Side.r (x : Side h sb D) : cell h ((ad sb).add 2) = some (.slice D.sl.a D.sl.n D.sl.c) := by rw [x.sy.cellA x.y0, x.c0]; rfl
theorem Side.n (x : Side h sb D) : D.sl.n = D.l.length := by have := x.rg.len; rw [List.length_map] at this; omega
/-- note -/
theorem note_ok (x : Side h sb D) {v : Nat} (hv : v < 18446744073709551616) (hl : D.l.length < 100000000) {R : Value → Hp → Prop}
    (hR : ∀ h' Y' sl', Side h' sb { D with Y := Y', sl := sl', l := D.l ++ [v] } → Stp h D h' { D with Y := Y', sl := sl', l := D.l ++ [v] } → R (.tuple #[]) h') : CallTo Try.prog 70 #[.pointer (some (ad sb)), uv v] h R := by
  have hn := x.n
  refine f70F_ok ?_
  unfold f70F
  refine PtrOk_mk ⟨D.sl, x.r, ?_⟩
  refine IsSl.app1 (arr := #[uv v]) (t := 30) (bys := 8) x.rg x.sy rfl rfl (fun u hu => by rw [List.mem_singleton.1 hu]; rfl) (by omega) (by omega) fun a' c' h2 ob c q1 q2 q3 => ?_
  refine PtrOk_mk ?_
  have l0 : (D.Y.upd 1 ob c).loc 0 = some sb := by rw [Mem.loc_ne _ _ _ (by decide)]; exact x.y0
  have k0 : (D.Y.upd 1 ob c).cont 0 = [.pointer (some (ad D.hb)), .pointer (some (ad D.rb)), slV D.sl] := by rw [Mem.cont_ne _ _ _ (by decide)]; exact x.c0
  refine q1.st l0 (o := 2) (add_ad _ _) (by rw [k0]; exact Nat.lt_succ_self 2) fun h3 q4 q5 => ?_
  obtain ⟨z1, z2⟩ := x.own (Y' := (D.Y.upd 1 ob c).upd 0 (some sb) (((D.Y.upd 1 ob c).cont 0).set 2 (.slice a' (D.sl.n + 1) c'))) (sl' := ⟨a', D.sl.n + 1, c'⟩) (l' := D.l ++ [v]) q4 (Mem.loc_self ..)
    (by rw [Mem.cont_self, k0]; rfl) (by rw [List.map_append]; exact q2.other (by decide)) (q3.trans q5) (fun y hy => by
      rcases List.mem_append.1 hy with hy | hy
      · exact x.ll y hy
      · rw [List.mem_singleton.1 hy]; exact hv)
  exact hR _ _ _ z1 z2
end
end Go.Ev
set_option linter.all false
set_option maxRecDepth 100000
namespace Go.Ev
open Go.Proofs
namespace RS
section
variable {s : RS}
theorem getF_lt (v : s.Inv) (r : Nat) (i : Int) : (s.getF r i).1 < 18446744073709551616 := by
  unfold getF
  split
  · exact (by omega : (0 : Nat) < 18446744073709551616)
  · rename_i h0
    split
    · rename_i h1
      have ok := enc_ok v (ident_here v h0).1
      have hl : i.toNat < (s.enc (s.ident r)).flds.length := by omega
      show (s.enc (s.ident r)).flds.getD i.toNat 0 < _
      rw [List.getD_eq_getElem?_getD, List.getElem?_eq_getElem hl]
      exact ok.fl _ (List.getElem_mem hl)
    · exact (by omega : (0 : Nat) < 18446744073709551616)
theorem free_lt (v : s.Inv) : top + freeSlot s.slots < 18446744073709551616 := by
  have h1 := (freeSlot_facts s.slots).1
  have h2 := v.sll
  have ht : top = 9223372036854775808 := rfl
  omega
theorem alloc_ref_lt (v : s.Inv) (k r w : Int) : (s.alloc k r w).2.1 < 18446744073709551616 := by
  unfold alloc
  split
  · split
    · unfold block
      have v1 := v.block1 (2 + r.toNat + w.toNat)
      generalize s.block1 (2 + r.toNat + w.toNat) = g at v1
      unfold block2
      split
      · split
        · exact (by omega : (0 : Nat) < 18446744073709551616)
        · exact free_lt v1
      · exact free_lt v1
    · have v1 := v.small1 (1 + r.toNat + w.toNat)
      generalize s.small1 (1 + r.toNat + w.toNat) = g at v1
      unfold small2
      split
      · exact (by omega : (0 : Nat) < 18446744073709551616)
      · have h1 := v1.u2; have h2 := v1.h2; have h3 := v1.l2
        show g.used < _
        omega
  · exact (by omega : (0 : Nat) < 18446744073709551616)
end
end RS
/-- One step of a script, as data. -/
structure OpL where
  on : Int
  dw : Int
  a : Int
  b : Int
  c : Int
  r : Int
  v : Int
  raw : Nat
  w : Nat
  d : Sl
  bytes : List Nat
def I64 (n : Int) : Prop := -9223372036854775808 ≤ n ∧ n < 9223372036854775808
structure OpL.Ok (o : OpL) (h : Hp) : Prop where
  on : I64 o.on
  dw : I64 o.dw
  a : I64 o.a
  b : I64 o.b
  c : I64 o.c
  r : I64 o.r
  v : I64 o.v
  raw : o.raw < 18446744073709551616
  w : o.w < 18446744073709551616
  rd : ReadsO h o.d.a (o.bytes.map bv)
  dn : o.d.n = o.bytes.length
  by8 : ∀ c ∈ o.bytes, c < 256
  long : o.bytes.length < 140737488355328
  old : ∀ p, o.d.a = some p → o.bytes ≠ [] → p.block < h.size
def OpL.cells (o : OpL) : List Value := [iv o.on, iv o.dw, iv o.a, iv o.b, iv o.c, iv o.r, iv o.v, uv o.raw, uv o.w, slV o.d]
section
variable {h h' : Hp} {sb : Nat} {D : SdG} {o : OpL}
theorem OpL.Ok.keep (k : o.Ok h) {S : Nat → Prop} (kk : Kept S h h') (hS : ∀ p, o.d.a = some p → o.bytes ≠ [] → ¬ S p.block) : o.Ok h' :=
  ⟨k.on, k.dw, k.a, k.b, k.c, k.r, k.v, k.raw, k.w, reads_kept2 kk k.rd fun p hp hn => have hn' : o.bytes ≠ [] := fun e => hn (by rw [e]; rfl); ⟨k.old p hp hn', hS p hp hn'⟩, k.dn, k.by8, k.long, fun p hp hn => Nat.lt_of_lt_of_le (k.old p hp hn) kk.1⟩
theorem pick_ok (x : Side h sb D) {n : Int} (hn : I64 n) {raw : Nat} (hr : raw < 18446744073709551616) (hl : D.l.length < 100000000) {R : Value → Hp → Prop} (hR : ∀ v, v < 18446744073709551616 → R (uv v) h) :
    CallTo Try.prog 92 #[.pointer (some (ad sb)), .int .i64 n, uv raw] h R := by
  have hsn := x.n
  unfold I64 at hn
  refine f92F_ok ?_
  unfold f92F
  refine Cond_b (fun _ => hR _ hr) fun _ => Cond_dec (fun hneg => ?_) fun hneg => Cond_b (fun _ => ?_) fun hz => ?_
  · refine PtrOk_mk ⟨_, x.q, ?_⟩
    exact rat_ok x.rt x.vt ⟨_, _, rfl, hR _ (RS.atF_lt x.vt _)⟩
  · unfold f92K1
    exact Cond_t rfl (hR 0 (by omega))
  · refine PtrOk_mk ⟨D.sl, x.r, ?_⟩
    unfold f92K1
    refine Cond_b (fun _ => hR 0 (by omega)) fun hz2 => ?_
    have hpos : 0 < n := by
      have h1 : n ≠ 0 := by simpa using hz
      omega
    have hlen : 0 < D.l.length := by
      have h1 : D.sl.n ≠ 0 := by simpa using hz2
      omega
    refine PtrOk_mk ⟨D.sl, x.r, PtrOk_mk ⟨D.sl, x.r, PtrOk_mk ⟨D.sl, x.r, by omega, ?_⟩⟩⟩
    rw [wrap_i64' (x := (D.sl.n : Int) - 1) (by omega) (by omega), wrap_i64' (x := n - 1) (by omega) (by omega), tmod_nn (by omega)]
    have m1 := Int.emod_nonneg (n - 1) (b := (D.sl.n : Int)) (by omega)
    have m2 := Int.emod_lt_of_pos (n - 1) (b := (D.sl.n : Int)) (by omega)
    generalize (n - 1) % (D.sl.n : Int) = m at m1 m2
    rw [wrap_i64' (x := (D.sl.n : Int) - 1 - m) (by omega) (by omega)]
    have hi : ((D.sl.n : Int) - 1 - m).toNat < D.l.length := by omega
    obtain ⟨b, hb, ha, hc⟩ := x.rg.at x.sy (o := ((D.sl.n : Int) - 1 - m).toNat) (v := uv D.l[((D.sl.n : Int) - 1 - m).toNat]) (by rw [List.getElem?_map, List.getElem?_eq_getElem hi]; rfl)
    exact ⟨⟨by omega, by omega⟩, PtrOk_mk' ha ⟨_, by rw [Nat.mul_one, add_ad]; exact hc, hR _ (x.ll _ (List.getElem_mem hi))⟩⟩
/-- What a step comes to: a side, as it was or with what was built, true. -/
def Fin (n : Nat) (h : Hp) (sb : Nat) (D : SdG) (R : Value → Hp → Prop) : Prop :=
  ∀ h' D', Side h' sb D' → Stp h D h' D' → D'.s = D'.t → D'.s.objs.length ≤ D.s.objs.length + n → D'.s.roots.length ≤ D.s.roots.length + n → D'.l.length ≤ D.l.length + n → R (.bool true) h'
theorem Fin.keep {n : Nat} {R : Value → Hp → Prop} (f : Fin n h sb D R) (k : Kept N h h') : Fin n h' sb D R := fun h2 D' x e1 => f h2 D' x ((Stp.of_kept k).trans e1)
end
end Go.Ev
set_option linter.all false
set_option maxRecDepth 100000
namespace Go.Ev
open Go.Proofs
@[reducible] def OpL.val (o : OpL) : Value := .agg #[.int .i64 o.on, .int .i64 o.dw, .int .i64 o.a, .int .i64 o.b, .int .i64 o.c, .int .i64 o.r, .int .i64 o.v, .int .u64 (o.raw : Int), .int .u64 (o.w : Int), .slice o.d.a o.d.n o.d.c]
section
variable {h h' : Hp} {sb : Nat} {D : SdG} {o : OpL}
theorem opc {b : Nat} (row : Row h b o.cells) (i : Nat) : cell h ((ad b).add i) = o.cells[i]? := by rw [add_ad]; exact cell_row row i
theorem Fin.same {n : Nat} {R : Value → Hp → Prop} (f : Fin n h sb D R) (x : Side h' sb D) (s : Stp h D h' D) (e : D.s = D.t) {t : Bool} (ht : t = true) : R (.bool t) h' := by
  subst ht
  exact f h' D x s e (Nat.le_add_right ..) (Nat.le_add_right ..) (Nat.le_add_right ..)
theorem sfields_ok (x : Side h sb D) (e : D.s = D.t) (ko : o.Ok h) (kf : ∀ p, o.d.a = some p → o.bytes ≠ [] → ¬ D.foot p.block) (hl : D.l.length < 100000000) {R : Value → Hp → Prop} (hR : Fin 1 h sb D R) : CallTo Try.prog 71 #[.pointer (some (ad sb)), o.val] h R := by
  have ia := ko.a; have ib := ko.b
  unfold I64 at ia ib
  refine f71F_ok ?_
  unfold f71F
  refine Let_mk fun h1 e1 => ?_
  have k1 : Kept N h h1 := e1 ▸ kept_push _ _ _
  have x1 := x.keepN k1
  have ko1 := ko.keep k1 fun _ _ _ => id
  have row1 : Row h1 h.size o.cells := e1 ▸ row_new h _ 96
  have hnf : ¬ D.foot h.size := fun hb => by have := x.foot_lt hb; omega
  have rt1 : RT h1 D.rb D.M D.s D.g := e.symm ▸ x1.rt
  have enb : nb h = ad h.size := rfl
  rw [enb]
  refine ⟨o.r, (opc row1 5).trans rfl, o.raw, (opc row1 7).trans rfl, pick_ok x1 ko.r ko.raw hl fun v hv => ⟨v, rfl, o.dw, (opc row1 1).trans rfl, ?_⟩⟩
  refine Cond_b (fun _ => ?_) fun _ => Cond_b (fun _ => ?_) fun _ => Cond_b (fun _ => ?_) fun _ => Cond_b (fun _ => ?_) fun _ => ?_
  · refine PtrOk_mk ⟨_, x1.p, hobject_ok x1.vs x1.rp hv ⟨_, _, _, _, rfl, PtrOk_mk ⟨_, x1.q, robject_ok rt1 x1.vs hv ⟨_, _, _, _, rfl, ?_⟩⟩⟩⟩
    exact Cond_t (beq_self_eq_true _) (Cond_t (beq_self_eq_true _) (Cond_t (beq_self_eq_true _) (hR.same x1 (Stp.of_kept k1) e (beq_self_eq_true _))))
  · refine PtrOk_mk ⟨_, x1.p, o.a, (opc row1 2).trans rfl, hget_ok x1.vs x1.rp hv ⟨_, _, rfl, PtrOk_mk ⟨_, x1.q, o.a, (opc row1 2).trans rfl, _, _, rget_ok rt1 x1.vs hv ⟨rfl, rfl⟩, ?_⟩⟩⟩
    refine note_ok x1 (RS.getF_lt x1.vs _ _) hl fun h3 Y' sl' x3 s3 => ⟨rfl, Cond_t (beq_self_eq_true _) ?_⟩
    rw [beq_self_eq_true]
    exact hR _ _ x3 ((Stp.of_kept k1).trans s3) e (Nat.le_add_right ..) (Nat.le_add_right ..) (by simp)
  · refine ⟨o.v, (opc row1 6).trans rfl, o.w, (opc row1 8).trans rfl, pick_ok x1 ko.v ko.w hl fun y hy => ⟨y, rfl, PtrOk_mk ⟨_, x1.p, o.a, (opc row1 2).trans rfl, ?_⟩⟩⟩
    refine hset_ok x1.vs x1.rp hv hy fun h2 role' G' rp' ex => ⟨_, rfl, ?_⟩
    obtain ⟨x2, s2⟩ := x1.prog rp' ex (x1.vs.set v o.a hy)
    have row2 := kept_row s2.1 row1 hnf
    refine PtrOk_mk ⟨_, x2.q, o.a, (opc row2 2).trans rfl, ?_⟩
    refine rset_ok (s := D.s) (e.symm ▸ x2.rt : RT h2 D.rb D.M D.s D.g) x1.vs hv hy fun h3 M' r3 c3 => ⟨_, rfl, ?_⟩
    obtain ⟨x3, s3⟩ := x2.ref r3 c3 (x1.vs.set v o.a hy)
    rw [beq_self_eq_true]
    have q := RS.setF_len (s := D.s) v o.a y
    exact hR _ _ x3 (((Stp.of_kept k1).trans s2).trans s3) rfl (by show (D.s.setF v o.a y).1.objs.length ≤ _; rw [q.1]; omega) (by show (D.s.setF v o.a y).1.roots.length ≤ _; rw [q.2]; omega) (Nat.le_add_right ..)
  · refine PtrOk_mk ⟨_, x1.p, o.a, (opc row1 2).trans rfl, o.b, (opc row1 3).trans rfl, ?_⟩
    refine hbytes_ok x1.vs x1.rp hv ib.1 ia.1 ib.2 ia.2 (fun hbad => ⟨⟨none, 0, 0⟩, _, rfl, PtrOk_mk ⟨_, x1.q, o.a, (opc row1 2).trans rfl, o.b, (opc row1 3).trans rfl, ?_⟩⟩) fun bb h2 hgood rowb hbb k2 => ⟨⟨some (ad bb), o.b.toNat, o.b.toNat⟩, _, rfl, ?_⟩
    · refine rbytes_ok rt1 x1.vs hv ib.2 (fun _ => ⟨⟨none, 0, 0⟩, _, rfl, ?_⟩) fun _ _ _ _ hg => absurd hg hbad
      refine eqb_ok (a := ⟨none, 0, 0⟩) (b := ⟨none, 0, 0⟩) (l := []) rfl rfl rfl rfl (by simp) ⟨_, rfl, Cond_t rfl (hR.same x1 (Stp.of_kept k1) e (beq_self_eq_true _))⟩
    · have x2 := x1.keepN k2
      have row2 : Row h2 h.size o.cells := kept_row k2 row1 id
      refine PtrOk_mk ⟨_, x2.q, o.a, (opc row2 2).trans rfl, o.b, (opc row2 3).trans rfl, ?_⟩
      refine rbytes_ok (s := D.s) (e.symm ▸ x2.rt : RT h2 D.rb D.M D.s D.g) x1.vs hv ib.2 (fun hg => absurd hgood hg) fun a2 c2 ob h3 _ sl3 hob k3 => ⟨⟨a2, o.b.toNat, c2⟩, _, rfl, ?_⟩
      have hspan := hgood
      unfold RS.spanOk at hspan
      have shp := x1.vs.shp _ (RS.ident_here x1.vs hspan.1).1
      have hlen : o.b.toNat < 100000000 := by have := shp.2.2.2.1; omega
      have em : ((List.range o.b.toNat).map fun j => bv (byteAt (D.s.obj (D.s.ident v)).raws (o.a.toNat + j))) = ((List.range o.b.toNat).map fun j => byteAt (D.s.obj (D.s.ident v)).raws (o.a.toNat + j)).map bv := by rw [List.map_map]; rfl
      have hlen2 : ((List.range o.b.toNat).map fun j => byteAt (D.s.obj (D.s.ident v)).raws (o.a.toNat + j)).length = o.b.toNat := by simp
      refine eqb_ok (a := ⟨some (ad bb), o.b.toNat, o.b.toNat⟩) (b := ⟨a2, o.b.toNat, c2⟩) (l := (List.range o.b.toNat).map fun j => byteAt (D.s.obj (D.s.ident v)).raws (o.a.toNat + j)) (by rw [← em]; exact row_reads (kept_row k3 rowb id))
        (by rw [← em]; exact slAt_reads sl3) hlen2.symm hlen2.symm (by omega) ⟨_, rfl, Cond_t rfl ?_⟩
      exact hR.same (x2.keepN k3) (((Stp.of_kept k1).trans (Stp.of_kept k2)).trans (Stp.of_kept k3)) e rfl
  · refine PtrOk_mk ⟨_, x1.p, o.a, (opc row1 2).trans rfl, o.d, (opc row1 9).trans rfl, ?_⟩
    refine twin_ok ko1.rd ko1.dn ko1.long fun tw h2 twr twn twb k2 => ⟨tw, rfl, ?_⟩
    have x2 := x1.keepN k2
    have row2 : Row h2 h.size o.cells := kept_row k2 row1 id
    refine ⟨⟨o.a, (opc row2 2).trans rfl, rfl⟩, ⟨_, x2.p, rfl⟩, ?_⟩
    have h63 : ((o.bytes.length : Nat) : Int) < 9223372036854775808 := by have := ko.long; omega
    refine hsetbytes_ok x2.vs x2.rp hv ia.1 ia.2 twr twn ko.by8 (fun p hp => x1.rp.fresh _ (twb p hp).1) h63 fun h3 role' G' rp' ex => ⟨_, rfl, ?_⟩
    obtain ⟨x3, s3⟩ := x2.prog rp' ex (x2.vs.setBytes v o.a ko.by8)
    have row3 := kept_row s3.1 row2 hnf
    refine PtrOk_mk ⟨_, x3.q, o.a, (opc row3 2).trans rfl, o.d, (opc row3 9).trans rfl, ?_⟩
    have ko3 := (ko1.keep k2 fun _ _ _ => id).keep s3.1 kf
    refine rsetbytes_ok (s := D.s) (e.symm ▸ x3.rt : RT h3 D.rb D.M D.s D.g) x1.vs hv ko3.rd ko3.dn ko.by8 (fun p hp hn => ⟨ko3.old p hp hn, fun hm => kf p hp hn (.inr (.inr hm))⟩) h63 fun h4 M' r4 c4 => ⟨_, rfl, ?_⟩
    obtain ⟨x4, s4⟩ := x3.ref r4 c4 (x1.vs.setBytes v o.a ko.by8)
    rw [beq_self_eq_true]
    have q := RS.setBytesF_len (s := D.s) v o.a o.bytes
    exact hR _ _ x4 ((((Stp.of_kept k1).trans (Stp.of_kept k2)).trans s3).trans s4) rfl (by show (D.s.setBytesF v o.a o.bytes).1.objs.length ≤ _; rw [q.1]; omega) (by show (D.s.setBytesF v o.a o.bytes).1.roots.length ≤ _; rw [q.2]; omega) (Nat.le_add_right ..)
theorem shandles_ok (x : Side h sb D) (e : D.s = D.t) (ko : o.Ok h) (hl : D.l.length < 100000000) (hr : D.s.roots.length < 100000000) {R : Value → Hp → Prop} (hR : Fin 1 h sb D R) : CallTo Try.prog 72 #[.pointer (some (ad sb)), o.val] h R := by
  refine f72F_ok ?_
  unfold f72F
  refine Let_mk fun h1 e1 => ?_
  have k1 : Kept N h h1 := e1 ▸ kept_push _ _ _
  have x1 := x.keepN k1
  have row1 : Row h1 h.size o.cells := e1 ▸ row_new h _ 96
  have hnf : ¬ D.foot h.size := fun hb => by have := x.foot_lt hb; omega
  have rt1 : RT h1 D.rb D.M D.s D.g := e.symm ▸ x1.rt
  have enb : nb h = ad h.size := rfl
  rw [enb]
  refine ⟨o.r, (opc row1 5).trans rfl, o.raw, (opc row1 7).trans rfl, pick_ok x1 ko.r ko.raw hl fun v hv => ⟨v, rfl, o.dw, (opc row1 1).trans rfl, ?_⟩⟩
  refine Cond_b (fun _ => ?_) fun _ => Cond_b (fun _ => ?_) fun _ => Cond_b (fun _ => ?_) fun _ => ?_
  · refine PtrOk_mk ⟨_, x1.p, hroot_ok x1.vs x1.rp hr hv fun h2 role' G' rp' ex => ⟨_, _, rfl, ?_⟩⟩
    obtain ⟨x2, s2⟩ := x1.prog rp' ex (x1.vs.root hr)
    refine PtrOk_mk ⟨_, x2.q, rroot_ok (s := D.s) (e.symm ▸ x2.rt : RT h2 D.rb D.M D.s D.g) x1.vs hv fun h3 M' g' r3 c3 => ⟨_, _, rfl, Cond_t (beq_self_eq_true _) ?_⟩⟩
    obtain ⟨x3, s3⟩ := x2.ref r3 c3 (x1.vs.root hr)
    rw [beq_self_eq_true]
    have q := RS.rootF_len (s := D.s) v
    exact hR _ _ x3 (((Stp.of_kept k1).trans s2).trans s3) rfl (by show (D.s.rootF v).1.objs.length ≤ _; rw [q.1]; omega) q.2 (Nat.le_add_right ..)
  · refine PtrOk_mk ⟨_, x1.p, o.a, (opc row1 2).trans rfl, _, _, hat_ok x1.vs x1.rp ⟨rfl, rfl⟩, PtrOk_mk ⟨_, x1.q, o.a, (opc row1 2).trans rfl, _, _, rat_ok rt1 x1.vs ⟨rfl, rfl⟩, ?_⟩⟩
    refine note_ok x1 (RS.atF_lt x1.vs _) hl fun h3 Y' sl' x3 s3 => ⟨rfl, Cond_t (beq_self_eq_true _) ?_⟩
    rw [beq_self_eq_true]
    exact hR _ _ x3 ((Stp.of_kept k1).trans s3) e (Nat.le_add_right ..) (Nat.le_add_right ..) (by simp)
  · refine PtrOk_mk ⟨_, x1.p, o.a, (opc row1 2).trans rfl, hput_ok x1.vs x1.rp hv fun h2 role' G' rp' ex => ⟨_, rfl, ?_⟩⟩
    obtain ⟨x2, s2⟩ := x1.prog rp' ex (x1.vs.put o.a v)
    have row2 := kept_row s2.1 row1 hnf
    refine PtrOk_mk ⟨_, x2.q, o.a, (opc row2 2).trans rfl, rput_ok (s := D.s) (e.symm ▸ x2.rt : RT h2 D.rb D.M D.s D.g) x1.vs hv fun h3 M' r3 c3 => ⟨_, rfl, ?_⟩⟩
    obtain ⟨x3, s3⟩ := x2.ref r3 c3 (x1.vs.put o.a v)
    rw [beq_self_eq_true]
    have q := RS.putF_len (s := D.s) o.a v
    exact hR _ _ x3 (((Stp.of_kept k1).trans s2).trans s3) rfl (by show (D.s.putF o.a v).1.objs.length ≤ _; rw [q.1]; omega) (by show (D.s.putF o.a v).1.roots.length ≤ _; rw [q.2]; omega) (Nat.le_add_right ..)
  · refine PtrOk_mk ⟨_, x1.p, o.a, (opc row1 2).trans rfl, hdrop_ok x1.vs x1.rp fun h2 role' G' rp' ex => ⟨_, rfl, ?_⟩⟩
    obtain ⟨x2, s2⟩ := x1.prog rp' ex (x1.vs.drop o.a)
    have row2 := kept_row s2.1 row1 hnf
    refine PtrOk_mk ⟨_, x2.q, o.a, (opc row2 2).trans rfl, rdrop_ok (s := D.s) (e.symm ▸ x2.rt : RT h2 D.rb D.M D.s D.g) x1.vs fun h3 M' r3 c3 => ⟨_, rfl, ?_⟩⟩
    obtain ⟨x3, s3⟩ := x2.ref r3 c3 (x1.vs.drop o.a)
    rw [beq_self_eq_true]
    have q := RS.dropF_len (s := D.s) o.a
    exact hR _ _ x3 (((Stp.of_kept k1).trans s2).trans s3) rfl (by show (D.s.dropF o.a).1.objs.length ≤ _; rw [q.1]; omega) (by show (D.s.dropF o.a).1.roots.length ≤ _; rw [q.2]; omega) (Nat.le_add_right ..)
end
end Go.Ev
set_option linter.all false
set_option maxRecDepth 100000
namespace Go.Ev
open Go.Proofs
/-- A new block that is being filled. -/
structure NB (h : Hp) (b : Nat) (cs : List Value) (h' : Hp) : Prop where
  row : Row h' b cs
  k : Kept N h h'
  ge : h.size ≤ b
section
variable {h h' : Hp} {sb : Nat} {D : SdG} {o : OpL}
theorem NB.new (h : Hp) (arr : Array Value) (t : TypeId) : NB h h.size arr.toList (h.push (.cells arr t)) := ⟨row_new h arr t, kept_push _ _ _, Nat.le_refl _⟩
theorem NB.st {b : Nat} {cs : List Value} (w : NB h b cs h') {a : Addr} {i : Nat} {v : Value} (ha : a = ⟨b, i, none⟩) (hi : i < cs.length) {K : Hp → Prop} (hK : ∀ h'', NB h b (cs.set i v) h'' → K h'') : Go.Ev.stOk h' a ∧ Let (setc h' a v) fun h'' => K h'' :=
  row_st w.row ha hi fun h'' r k => hK h'' ⟨r, ⟨Nat.le_trans w.k.1 k.1, fun i hi _ => (k.2 i (Nat.lt_of_lt_of_le hi w.k.1) (fun e => by have := w.ge; omega)).trans (w.k.2 i hi id)⟩, w.ge⟩
theorem NB.c {b : Nat} {cs : List Value} (w : NB h b cs h') (i : Nat) : cell h' ((ad b).add i) = cs[i]? := by rw [add_ad]; exact cell_row w.row i

theorem sstats_ok {a0 a1 a2 a3 a4 a5 a6 a7 a8 : Int} {R : Value → Hp → Prop} (hR : ∀ h', Kept N h h' → R (.bool true) h') : CallTo Try.prog 76 #[.agg #[.int .i64 a0, .int .i64 a1, .int .i64 a2, .int .i64 a3, .int .i64 a4, .int .i64 a5, .int .i64 a6, .int .i64 a7, .int .i64 a8], .agg #[.int .i64 a0, .int .i64 a1, .int .i64 a2, .int .i64 a3, .int .i64 a4, .int .i64 a5, .int .i64 a6, .int .i64 a7, .int .i64 a8]] h R := by
  refine f76F_ok ?_
  unfold f76F
  refine Let_mk fun h1 e1 => Let_mk fun h2 e2 => ?_
  have w1 : NB h h.size _ h1 := e1 ▸ NB.new h _ 48
  have w2 : NB h1 h1.size _ h2 := e2 ▸ NB.new h1 _ 125
  have x1 : NB h h.size _ h2 := ⟨kept_row w2.k w1.row id, w1.k.trans w2.k, Nat.le_refl _⟩
  have enb : nb h = ad h.size := rfl
  have enb1 : nb h1 = ad h1.size := rfl
  rw [enb, enb1]
  refine ⟨_, (cell_row x1.row 0).trans rfl, _, (cell_row w2.row 0).trans rfl, Cond_f (bne_self_eq_false _) ?_⟩
  refine ⟨_, (x1.c 1).trans rfl, _, (w2.c 1).trans rfl, Cond_f (bne_self_eq_false _) ?_⟩
  refine ⟨_, (x1.c 2).trans rfl, _, (w2.c 2).trans rfl, Cond_f (bne_self_eq_false _) ?_⟩
  refine ⟨_, (x1.c 3).trans rfl, _, (w2.c 3).trans rfl, Cond_f (bne_self_eq_false _) ?_⟩
  refine ⟨_, (x1.c 4).trans rfl, _, (w2.c 4).trans rfl, ?_⟩
  unfold f76K1
  refine Cond_f (bne_self_eq_false _) ?_
  refine ⟨_, (x1.c 5).trans rfl, _, (w2.c 5).trans rfl, Cond_t (beq_self_eq_true _) ?_⟩
  refine ⟨_, (x1.c 6).trans rfl, _, (w2.c 6).trans rfl, Cond_t (beq_self_eq_true _) ?_⟩
  refine ⟨_, (x1.c 7).trans rfl, _, (w2.c 7).trans rfl, Cond_t (beq_self_eq_true _) ?_⟩
  refine ⟨_, (x1.c 8).trans rfl, _, (w2.c 8).trans rfl, ?_⟩
  rw [beq_self_eq_true]
  exact hR _ x1.k
/-- All that a step needs. -/
structure PlayW (h : Hp) (sb : Nat) (D : SdG) (o : OpL) (b : Nat) : Prop where
  x : Side h sb D
  e : D.s = D.t
  row : Row h b o.cells
  nf : ¬ D.foot b
  ko : o.Ok h
  kf : ∀ p, o.d.a = some p → o.bytes ≠ [] → ¬ D.foot p.block
  ll : D.l.length < 100000000
  rl : D.s.roots.length < 100000000
  ol : D.s.objs.length ≤ 100000000
theorem plays2_ok {b : Nat} (p : PlayW h sb D o b) {t : Bool} {R : Value → Hp → Prop} (hR : Fin 1 h sb D R) : f52K2 (some (ad sb)) (ad b) o.dw t h R := by
  have x1 := p.x
  have row1 := p.row
  have e := p.e
  have v := x1.vs
  have rt1 : RT h D.rb D.M D.s D.g := e.symm ▸ x1.rt
  unfold f52K2
  refine Cond_b (fun _ => ?_) fun _ => Cond_b (fun _ => ?_) fun _ => Cond_b (fun _ => ?_) fun _ => Cond_b (fun _ => ?_) fun _ => Cond_b (fun _ => ?_) fun _ => ?_
  · exact ⟨o.on, (cell_row row1 0).trans rfl, o.dw, (opc row1 1).trans rfl, o.a, (opc row1 2).trans rfl, o.b, (opc row1 3).trans rfl, o.c, (opc row1 4).trans rfl, o.r, (opc row1 5).trans rfl, o.v, (opc row1 6).trans rfl, o.raw, (opc row1 7).trans rfl, o.w, (opc row1 8).trans rfl, o.d, (opc row1 9).trans rfl, shandles_ok p.x e p.ko p.ll p.rl fun h2 D2 a1 a2 a3 a4 a5 a6 => ⟨true, rfl, hR h2 D2 a1 a2 a3 a4 a5 a6⟩⟩
  · refine PtrOk_mk ⟨_, x1.p, hcollect_ok v x1.rp fun h2 role' G' sp' rp' ex => ⟨rfl, ?_⟩⟩
    obtain ⟨x2, s2⟩ := x1.prog rp' ex v.collect
    refine PtrOk_mk ⟨_, x2.q, rcollect_ok (s := D.s) (e.symm ▸ x2.rt : RT h2 D.rb D.M D.s D.g) v p.ol fun h3 M' g' r3 c3 => ⟨rfl, ?_⟩⟩
    obtain ⟨x3, s3⟩ := x2.ref r3 c3 v.collect
    have q := RS.collect_len (s := D.s)
    exact hR _ _ x3 (s2.trans s3) rfl (by show D.s.collect.objs.length ≤ _; rw [q.1]; omega) (by show D.s.collect.roots.length ≤ _; rw [q.2]; omega) (Nat.le_add_right ..)
  · refine PtrOk_mk ⟨_, x1.p, o.a, (opc row1 2).trans rfl, hresize_ok v x1.rp fun h2 role' G' sp' rp' ex => ⟨_, rfl, ?_⟩⟩
    obtain ⟨x2, s2⟩ := x1.prog rp' ex (v.resize o.a)
    have row2 := kept_row s2.1 row1 p.nf
    refine PtrOk_mk ⟨_, x2.q, o.a, (opc row2 2).trans rfl, rresize_ok (s := D.s) (e.symm ▸ x2.rt : RT h2 D.rb D.M D.s D.g) v p.ol fun h3 M' g' r3 c3 => ⟨_, rfl, ?_⟩⟩
    obtain ⟨x3, s3⟩ := x2.ref r3 c3 (v.resize o.a)
    rw [beq_self_eq_true]
    have q := RS.resize_len (s := D.s) o.a
    exact hR _ _ x3 (s2.trans s3) rfl (by show (D.s.resize o.a).1.objs.length ≤ _; rw [q.1]; omega) (by show (D.s.resize o.a).1.roots.length ≤ _; rw [q.2]; omega) (Nat.le_add_right ..)
  · refine PtrOk_mk ⟨_, x1.p, hstats_ok v x1.rp fun h2 k2 => ⟨_, _, _, _, _, _, _, _, _, rfl, Let_mk fun h3 e3 => ?_⟩⟩
    have w3 : NB h2 h2.size _ h3 := e3 ▸ NB.new h2 _ 48
    have enb2 : nb h2 = ad h2.size := rfl
    rw [enb2]
    refine w3.st (i := 0) (rfl) (by show 0 < 9; omega) fun h4 w4 => ?_
    refine w4.st (i := 1) (add_ad _ _) (by show 1 < 9; omega) fun h5 w5 => ?_
    refine w5.st (i := 2) (add_ad _ _) (by show 2 < 9; omega) fun h6 w6 => ?_
    refine w6.st (i := 3) (add_ad _ _) (by show 3 < 9; omega) fun h7 w7 => ?_
    refine w7.st (i := 4) (add_ad _ _) (by show 4 < 9; omega) fun h8 w8 => ?_
    refine w8.st (i := 5) (add_ad _ _) (by show 5 < 9; omega) fun h9 w9 => ?_
    refine w9.st (i := 6) (add_ad _ _) (by show 6 < 9; omega) fun h10 w10 => ?_
    refine w10.st (i := 7) (add_ad _ _) (by show 7 < 9; omega) fun h11 w11 => ?_
    refine w11.st (i := 8) (add_ad _ _) (by show 8 < 9; omega) fun h12 w12 => ?_
    have k12 : Kept N h h12 := k2.trans w12.k
    have x12 := x1.keepN k12
    refine PtrOk_mk ⟨_, x12.q, rstats_ok (s := D.s) (e.symm ▸ x12.rt : RT h12 D.rb D.M D.s D.g) v fun h13 k13 => ⟨_, _, _, _, _, _, _, _, _, rfl, Let_mk fun h14 e14 => ?_⟩⟩
    have w14 : NB h13 h13.size _ h14 := e14 ▸ NB.new h13 _ 125
    have enb13 : nb h13 = ad h13.size := rfl
    rw [enb13]
    refine w14.st (i := 0) (rfl) (by show 0 < 9; omega) fun h15 w15 => ?_
    refine w15.st (i := 1) (add_ad _ _) (by show 1 < 9; omega) fun h16 w16 => ?_
    refine w16.st (i := 2) (add_ad _ _) (by show 2 < 9; omega) fun h17 w17 => ?_
    refine w17.st (i := 3) (add_ad _ _) (by show 3 < 9; omega) fun h18 w18 => ?_
    refine w18.st (i := 4) (add_ad _ _) (by show 4 < 9; omega) fun h19 w19 => ?_
    refine w19.st (i := 5) (add_ad _ _) (by show 5 < 9; omega) fun h20 w20 => ?_
    refine w20.st (i := 6) (add_ad _ _) (by show 6 < 9; omega) fun h21 w21 => ?_
    refine w21.st (i := 7) (add_ad _ _) (by show 7 < 9; omega) fun h22 w22 => ?_
    refine w22.st (i := 8) (add_ad _ _) (by show 8 < 9; omega) fun h23 w23 => ?_
    have rA : NB h2 h2.size _ h23 := ⟨kept_row w23.k (kept_row k13 w12.row id) id, (w12.k.trans k13).trans w23.k, Nat.le_refl _⟩
    refine ⟨_, (cell_row rA.row 0).trans rfl, _, (rA.c 1).trans rfl, _, (rA.c 2).trans rfl, _, (rA.c 3).trans rfl, _, (rA.c 4).trans rfl, _, (rA.c 5).trans rfl, _, (rA.c 6).trans rfl, _, (rA.c 7).trans rfl, _, (rA.c 8).trans rfl, ?_⟩
    refine ⟨_, (cell_row w23.row 0).trans rfl, _, (w23.c 1).trans rfl, _, (w23.c 2).trans rfl, _, (w23.c 3).trans rfl, _, (w23.c 4).trans rfl, _, (w23.c 5).trans rfl, _, (w23.c 6).trans rfl, _, (w23.c 7).trans rfl, _, (w23.c 8).trans rfl, ?_⟩
    exact sstats_ok fun h24 k24 => ⟨true, rfl, hR.same (x12.keepN ((k13.trans w23.k).trans k24)) (Stp.of_kept (((k12.trans k13).trans w23.k).trans k24)) e rfl⟩
  · have us : D.s.used < 9223372036854775807 := by have h1 := v.u2; have h2 := v.h2; have h3 := v.l2; omega
    refine PtrOk_mk ⟨_, x1.p, himage_ok v x1.rp fun b2 c2 h2 sl2 hb2 k2 => ⟨⟨some (ad b2), D.s.used, c2⟩, rfl, ?_⟩⟩
    have x2 := x1.keepN k2
    refine PtrOk_mk ⟨_, x2.q, rimage_ok (s := D.s) (e.symm ▸ x2.rt : RT h2 D.rb D.M D.s D.g) v fun a3 c3 ob h3 sl3 hb3 k3 => ⟨⟨a3, D.s.used, c3⟩, rfl, ?_⟩⟩
    have len : D.s.used = D.s.image.length := by have := sl3.len; rw [List.length_map] at this; omega
    have r2 : ReadsO h3 (some (ad b2)) (D.s.image.map uv) := slAt_reads (slat_kept' sl2 k3 fun _ _ => id)
    exact eqw_ok (a := ⟨some (ad b2), D.s.used, c2⟩) (b := ⟨a3, D.s.used, c3⟩) (l := D.s.image) r2 (slAt_reads sl3) len len (len ▸ us) ⟨true, rfl, hR.same (x2.keepN k3) (Stp.of_kept (k2.trans k3)) e rfl⟩
  · exact hR.same x1 (Stp.refl _ _) e rfl
theorem plays1_ok {b : Nat} (p : PlayW h sb D o b) {t : Bool} {R : Value → Hp → Prop} (hR : Fin 1 h sb D R) : f52K1 (some (ad sb)) (ad b) o.dw t h R := by
  have row1 := p.row
  unfold f52K1
  refine Cond_b (fun _ => ?_) fun _ => Cond_b (fun _ => plays2_ok p hR) fun _ => Cond_b (fun _ => plays2_ok p hR) fun _ => Cond_b (fun _ => plays2_ok p hR) fun _ => plays2_ok p hR
  exact ⟨o.on, (cell_row row1 0).trans rfl, o.dw, (opc row1 1).trans rfl, o.a, (opc row1 2).trans rfl, o.b, (opc row1 3).trans rfl, o.c, (opc row1 4).trans rfl, o.r, (opc row1 5).trans rfl, o.v, (opc row1 6).trans rfl, o.raw, (opc row1 7).trans rfl, o.w, (opc row1 8).trans rfl, o.d, (opc row1 9).trans rfl, sfields_ok p.x p.e p.ko p.kf p.ll fun h2 D2 a1 a2 a3 a4 a5 a6 => ⟨true, rfl, hR h2 D2 a1 a2 a3 a4 a5 a6⟩⟩
theorem plays_ok (x : Side h sb D) (e : D.s = D.t) (ko : o.Ok h) (kf : ∀ p, o.d.a = some p → o.bytes ≠ [] → ¬ D.foot p.block) (ll : D.l.length < 100000000) (rl : D.s.roots.length < 100000000) (ol : D.s.objs.length ≤ 100000000) {R : Value → Hp → Prop} (hR : Fin 1 h sb D R) :
    CallTo Try.prog 52 #[.pointer (some (ad sb)), o.val] h R := by
  refine f52F_ok ?_
  unfold f52F
  refine Let_mk fun h1 e1 => ?_
  have k1 : Kept N h h1 := e1 ▸ kept_push _ _ _
  have x1 := x.keepN k1
  have row1 : Row h1 h.size o.cells := e1 ▸ row_new h _ 96
  have hnf : ¬ D.foot h.size := fun hb => by have := x.foot_lt hb; omega
  have enb : nb h = ad h.size := rfl
  rw [enb]
  have p : PlayW h1 sb D o h.size := ⟨x1, e, row1, hnf, ko.keep k1 fun _ _ _ => id, kf, ll, rl, ol⟩
  have hR1 : Fin 1 h1 sb D R := hR.keep k1
  have v := x1.vs
  refine ⟨o.dw, (opc row1 1).trans rfl, Cond_b (fun _ => ?_) fun _ => Cond_b (fun _ => plays1_ok p hR1) fun _ => Cond_b (fun _ => plays1_ok p hR1) fun _ => Cond_b (fun _ => plays1_ok p hR1) fun _ => Cond_b (fun _ => plays1_ok p hR1) fun _ => plays1_ok p hR1⟩
  refine PtrOk_mk ⟨_, x1.p, o.a, (opc row1 2).trans rfl, o.b, (opc row1 3).trans rfl, o.c, (opc row1 4).trans rfl, halloc_ok v x1.rp fun h2 role' G' sp' rp' ex => ⟨_, _, rfl, ?_⟩⟩
  obtain ⟨x2, s2⟩ := x1.prog rp' ex (v.alloc o.a o.b o.c)
  have row2 := kept_row s2.1 row1 hnf
  refine PtrOk_mk ⟨_, x2.q, o.a, (opc row2 2).trans rfl, o.b, (opc row2 3).trans rfl, o.c, (opc row2 4).trans rfl, ralloc_ok (s := D.s) (e.symm ▸ x2.rt : RT h2 D.rb D.M D.s D.g) v ol fun h3 M' g' r3 c3 => ⟨_, _, rfl, ?_⟩⟩
  obtain ⟨x3, s3⟩ := x2.ref r3 c3 (v.alloc o.a o.b o.c)
  refine note_ok x3 (RS.alloc_ref_lt v _ _ _) ll fun h4 Y' sl' x4 s4 => ⟨rfl, Cond_t (beq_self_eq_true _) ?_⟩
  rw [beq_self_eq_true]
  have q := RS.alloc_len (s := D.s) o.a o.b o.c
  exact hR1 _ _ x4 ((s2.trans s3).trans s4) rfl q.1 (by show (D.s.alloc o.a o.b o.c).1.roots.length ≤ _; rw [q.2]; omega) (by simp)
end
end Go.Ev
set_option linter.all false
set_option maxRecDepth 100000
namespace Go.Ev
open Go.Proofs
theorem add_add (p : Addr) (a b : Nat) : (p.add a).add b = p.add (a + b) := by
  unfold Addr.add
  by_cases ha : a = 0
  · subst ha; simp
  · by_cases hb : b = 0
    · subst hb; simp
    · rw [if_neg ha, if_neg hb, if_neg (by omega), Nat.add_assoc]
def nilSide : List Value := [.pointer none, .pointer none, .slice none 0 0]
section
variable {h h' : Hp} {sb : Nat}
/-- New on both. -/
theorem begin2_ok {n : Int} (row : Row h sb nilSide) {R : Value → Hp → Prop} (hbad : ∀ h', Row h' sb nilSide → Kept (fun b => b = sb) h h' → R (.bool true) h')
    (hgood : ∀ h' D, Side h' sb D → D.s = D.t → D.s.objs.length = 1 → D.s.roots = [] → D.l = [] → Kept (fun b => b = sb) h h' → (∀ b, D.foot b → b = sb ∨ h.size ≤ b) → R (.bool true) h') : CallTo Try.prog 51 #[.pointer (some (ad sb)), .int .i64 n] h R := by
  refine f51F_ok ?_
  unfold f51F
  have hlt := row_lt row
  refine hnew_ok (fun hn => ⟨_, _, rfl, rnew_ok (fun _ => ⟨_, _, rfl, PtrOk_mk ?_⟩) fun _ _ _ _ hg => absurd hg hn⟩) fun h1 hb role G hn rp fr k1 => ⟨_, _, rfl, rnew_ok (fun hg => absurd hn hg) fun h2 rb M g _ rt frM k2 => ⟨_, _, rfl, PtrOk_mk ?_⟩⟩
  · refine row_st row (i := 0) rfl (by show 0 < 3; omega) fun h3 r3 k3 => PtrOk_mk ?_
    refine row_st r3 (i := 1) (add_ad _ _) (by show 1 < 3; omega) fun h4 r4 k4 => Cond_t (beq_self_eq_true _) ?_
    exact hbad h4 r4 (k3.trans k4)
  · have row2 : Row h2 sb nilSide := kept_row (k1.trans k2) row id
    refine row_st row2 (i := 0) rfl (by show 0 < 3; omega) fun h3 r3 k3 => PtrOk_mk ?_
    refine row_st r3 (i := 1) (add_ad _ _) (by show 1 < 3; omega) fun h4 r4 k4 => Cond_t (beq_self_eq_true _) ?_
    have k34 := k3.trans k4
    have hlt1 : sb < h1.size := Nat.lt_of_lt_of_le hlt k1.1
    have rs : role sb = .out := Classical.byContradiction fun hx => by have := fr sb hx; omega
    have v := RS.new_inv (n := n.toNat) (by omega) (by omega)
    have own : ∀ b, (⟨fun x => if x = 0 then some sb else none, fun _ => [.pointer (some (ad hb)), .pointer (some (ad rb)), .slice none 0 0]⟩ : Mem).own b → b = sb := fun b ⟨x, hx⟩ => by
      dsimp only at hx
      split at hx
      · exact (Option.some.inj hx).symm
      · cases hx
    have rM : ∀ b, M.own b → role b = .out := fun b hb => rp.fresh b (frM b hb)
    refine hgood h4 ⟨hb, rb, role, M, ⟨fun x => if x = 0 then some sb else none, fun _ => [.pointer (some (ad hb)), .pointer (some (ad rb)), .slice none 0 0]⟩, G, [], g, ⟨none, 0, 0⟩, RS.new n.toNat, RS.new n.toNat, []⟩
      ⟨(rp.keep k2 fun _ e => e.elim).keep k34 fun b e => e ▸ rs, rt.keep k34 fun b hb e => ?_, ⟨fun x b hx => ?_, fun x y b hx hy => ?_⟩, rfl, rfl, ⟨rfl, fun _ => ⟨rfl, rfl, rfl⟩, fun b hb => by cases hb⟩, fun b hb => own b hb ▸ rs, fun b hb hm => ?_, rM, v, v, by simp⟩ rfl rfl rfl rfl
      ⟨Nat.le_trans (k1.trans k2).1 k34.1, fun b hb hn => (k34.2 b (Nat.lt_of_lt_of_le hb (k1.trans k2).1) hn).trans ((k1.trans k2).2 b hb id)⟩ fun b hb => ?_
    · have := frM b hb; omega
    · dsimp only at hx
      split at hx
      · obtain rfl := Option.some.inj hx; exact r4
      · cases hx
    · dsimp only at hx hy
      split at hx
      · split at hy
        · omega
        · cases hy
      · cases hx
    · have := own b hb; have := frM b hm; omega
    · rcases hb with hb | hb | hb
      · exact .inl (own b hb)
      · exact .inr (fr b hb)
      · exact .inr (by have := frM b hb; have := k1.1; omega)
/-! ### The walk's parts -/
def SideSt (h : Hp) (sb : Nat) (k : Nat) (P : Nat → Prop) : Prop :=
  (Row h sb nilSide ∧ P sb) ∨ ∃ D, Side h sb D ∧ D.s = D.t ∧ D.s.objs.length ≤ k + 1 ∧ D.s.roots.length ≤ k ∧ D.l.length ≤ k ∧ ∀ b, D.foot b → P b
def Oth (h : Hp) (b j : Nat) (P : Nat → Prop) : Prop := ∃ role sp G s, HRep h b role (RS.words s sp) G ∧ s.Inv ∧ (∀ c, role c ≠ .out → P c) ∧ s.objF 1 = ((1 + j % 200, 0, 1), 0)
theorem SideSt.keep {k k' : Nat} {P P' S : Nat → Prop} (x : SideSt h sb k P) (kk : Kept S h h') (hS : ∀ b, P b → ¬ S b) (hP : ∀ b, P b → P' b) (hk : k ≤ k') : SideSt h' sb k' P' := by
  rcases x with ⟨r, p⟩ | ⟨D, x, e, a, b, c, f⟩
  · exact .inl ⟨kept_row kk r (hS _ p), hP _ p⟩
  · exact .inr ⟨D, x.keep kk fun b hb => hS b (f b hb), e, by omega, by omega, by omega, fun b hb => hP b (f b hb)⟩
theorem Oth.keep {b j : Nat} {P P' S : Nat → Prop} (x : Oth h b j P) (kk : Kept S h h') (hS : ∀ b, P b → ¬ S b) (hP : ∀ b, P b → P' b) : Oth h' b j P' := by
  obtain ⟨role, sp, G, s, r, v, f, q⟩ := x
  exact ⟨role, sp, G, s, r.keep kk fun b hb => Classical.byContradiction fun hn => hS b (f b hn) hb, v, fun c hc => hP c (f c hc), q⟩
structure LW (hB h : Hp) (own : Nat → Nat) (sa sc : Nat) (k : Nat) (s9 : Sl) (P : List Nat) : Prop where
  kp : Kept N hB h
  base : ∀ b, b < hB.size → own b = 0
  fresh : ∀ b, h.size ≤ b → own b = 0
  A : SideSt h sa k (fun b => own b = 1)
  B : SideSt h sc k (fun b => own b = 2)
  ob : ∃ ob, SlAt 1 h s9.a s9.n s9.c ob (P.map fun b => .pointer (some (ad b))) ∧ ∀ b, ob = some b → own b = 3
  ot : ∀ j b, P[j]? = some b → Oth h b j (fun c => own c = 5 + j)
  pl : P.length ≤ 1000
/-- What belongs to one thing changes, and new blocks come to it: all else stays. -/
structure Upd (h h' : Hp) (own own' : Nat → Nat) (i : Nat) : Prop where
  k : Kept (fun b => own b = i) h h'
  u : ∀ b, own' b = own b ∨ (own' b = i ∧ (own b = i ∨ h.size ≤ b) ∧ b < h'.size)
theorem Upd.of {own : Nat → Nat} {i : Nat} {S X : Nat → Prop} (k : Kept S h h') (hS : ∀ b, S b → own b = i) (hX : ∀ b, X b → own b = i ∨ h.size ≤ b) (hl : ∀ b, X b → b < h'.size) :
    ∃ own', Upd h h' own own' i ∧ ∀ b, X b → own' b = i := by
  classical
  refine ⟨fun b => if X b then i else own b, ⟨k.mono fun b _ hb => hS b hb, fun b => ?_⟩, fun b hb => if_pos hb⟩
  by_cases hb : X b
  · exact .inr ⟨if_pos hb, hX b hb, hl b hb⟩
  · exact .inl (if_neg hb)
section
variable {hB : Hp} {own own' : Nat → Nat} {sa sc k : Nat} {s9 : Sl} {P : List Nat} {i : Nat}
theorem LW.stay (w : LW hB h own sa sc k s9 P) (u : Upd h h' own own' i) {j : Nat} (hj : j ≠ i) (hj0 : j ≠ 0) : ∀ b, own b = j → own' b = j := fun b hb => by
  rcases u.u b with e | ⟨_, e | e, _⟩
  · rw [e, hb]
  · exact absurd (hb.symm.trans e) hj
  · exact absurd (hb.symm.trans (w.fresh b e)) hj0
theorem LW.lt (w : LW hB h own sa sc k s9 P) {b : Nat} (hb : own b ≠ 0) : b < h.size := Nat.lt_of_not_le fun hl => hb (w.fresh b hl)
theorem LW.kp' (w : LW hB h own sa sc k s9 P) (u : Upd h h' own own' i) (hi : i ≠ 0) : Kept N hB h' :=
  ⟨Nat.le_trans w.kp.1 u.k.1, fun b hb _ => (u.k.2 b (Nat.lt_of_lt_of_le hb w.kp.1) fun e => hi ((w.base b hb).symm.trans e).symm).trans (w.kp.2 b hb id)⟩
theorem LW.base' (w : LW hB h own sa sc k s9 P) (u : Upd h h' own own' i) (hi : i ≠ 0) : ∀ b, b < hB.size → own' b = 0 := fun b hb => by
  rcases u.u b with e | ⟨_, e | e, _⟩
  · rw [e, w.base b hb]
  · exact absurd ((w.base b hb).symm.trans e).symm hi
  · have := w.kp.1; omega
theorem LW.fresh' (w : LW hB h own sa sc k s9 P) (u : Upd h h' own own' i) : ∀ b, h'.size ≤ b → own' b = 0 := fun b hb => by
  rcases u.u b with e | ⟨_, _, e⟩
  · rw [e]; exact w.fresh b (Nat.le_trans u.k.1 hb)
  · omega
theorem LW.A' (w : LW hB h own sa sc k s9 P) (u : Upd h h' own own' i) (hi : 1 ≠ i) {k' : Nat} (hk : k ≤ k') : SideSt h' sa k' (fun b => own' b = 1) := w.A.keep u.k (fun _ hb e => hi (hb.symm.trans e)) (w.stay u hi (by omega)) hk
theorem LW.B' (w : LW hB h own sa sc k s9 P) (u : Upd h h' own own' i) (hi : 2 ≠ i) {k' : Nat} (hk : k ≤ k') : SideSt h' sc k' (fun b => own' b = 2) := w.B.keep u.k (fun _ hb e => hi (hb.symm.trans e)) (w.stay u hi (by omega)) hk
theorem LW.ob' (w : LW hB h own sa sc k s9 P) (u : Upd h h' own own' i) (hi : 3 ≠ i) : ∃ ob, SlAt 1 h' s9.a s9.n s9.c ob (P.map fun b => .pointer (some (ad b))) ∧ ∀ b, ob = some b → own' b = 3 := by
  obtain ⟨ob, s, f⟩ := w.ob
  exact ⟨ob, slat_kept' s u.k fun b hb e => hi ((f b hb).symm.trans e), fun b hb => w.stay u hi (by omega) b (f b hb)⟩
theorem LW.ot' (w : LW hB h own sa sc k s9 P) (u : Upd h h' own own' i) {j b : Nat} (hj : P[j]? = some b) (hi : 5 + j ≠ i) : Oth h' b j (fun c => own' c = 5 + j) :=
  (w.ot j b hj).keep u.k (fun _ hb e => hi (hb.symm.trans e)) (w.stay u hi (by omega))
theorem LW.keepN (w : LW hB h own sa sc k s9 P) (kk : Kept N h h') {k' : Nat} (hk : k ≤ k') : LW hB h' own sa sc k' s9 P :=
  ⟨w.kp.trans kk, w.base, fun b hb => w.fresh b (Nat.le_trans kk.1 hb), w.A.keep kk (fun _ _ => id) (fun _ => id) hk, w.B.keep kk (fun _ _ => id) (fun _ => id) hk,
    by obtain ⟨ob, s, f⟩ := w.ob; exact ⟨ob, slat_kept' s kk fun _ _ => id, f⟩, fun j b hj => (w.ot j b hj).keep kk (fun _ _ => id) (fun _ => id), w.pl⟩
/-- One side has stepped. -/
theorem LW.sideA (w : LW hB h own sa sc k s9 P) {D D' : SdG} (hD : ∀ b, D.foot b → own b = 1) (x : Side h' sa D') (st : Stp h D h' D') (e : D'.s = D'.t) (a : D'.s.objs.length ≤ k + 1 + 1) (b : D'.s.roots.length ≤ k + 1) (c : D'.l.length ≤ k + 1) :
    ∃ own', LW hB h' own' sa sc (k + 1) s9 P := by
  obtain ⟨own', u, f⟩ := Upd.of (own := own) (i := 1) (X := D'.foot) st.1 hD (fun b hb => (st.2 b hb).imp_left (hD b)) fun b hb => x.foot_lt hb
  exact ⟨own', w.kp' u (by omega), w.base' u (by omega), w.fresh' u, .inr ⟨D', x, e, a, b, c, f⟩, w.B' u (by omega) (by omega), w.ob' u (by omega), fun j b hj => w.ot' u hj (by omega), w.pl⟩
theorem LW.sideB (w : LW hB h own sa sc k s9 P) {D D' : SdG} (hD : ∀ b, D.foot b → own b = 2) (x : Side h' sc D') (st : Stp h D h' D') (e : D'.s = D'.t) (a : D'.s.objs.length ≤ k + 1 + 1) (b : D'.s.roots.length ≤ k + 1) (c : D'.l.length ≤ k + 1) :
    ∃ own', LW hB h' own' sa sc (k + 1) s9 P := by
  obtain ⟨own', u, f⟩ := Upd.of (own := own) (i := 2) (X := D'.foot) st.1 hD (fun b hb => (st.2 b hb).imp_left (hD b)) fun b hb => x.foot_lt hb
  exact ⟨own', w.kp' u (by omega), w.base' u (by omega), w.fresh' u, w.A' u (by omega) (by omega), .inr ⟨D', x, e, a, b, c, f⟩, w.ob' u (by omega), fun j b hj => w.ot' u hj (by omega), w.pl⟩
end
end
end Go.Ev
set_option linter.all false
set_option maxRecDepth 1000000
namespace Go.Ev
open Go.Proofs
theorem other_alloc {k : Nat} (h1 : 1 ≤ k) (h2 : k ≤ 255) : ((RS.new 128).alloc (k : Int) 0 1).1.objF 1 = ((k, 0, 1), 0) := by
  have e : ((RS.new 128).alloc (k : Int) 0 1).1 = (RS.new 128).addSmall k 0 1 := by
    unfold RS.alloc
    rw [if_pos ⟨⟨by omega, by omega⟩, ⟨by omega, by omega⟩, ⟨by omega, by omega⟩⟩, if_neg (by decide)]
    rfl
  rw [e]
  rfl
theorem Cond_d2 {p : Prop} {i : Decidable p} {A B : Prop} (h1 : p → A) (h2 : ¬ p → B) : Cond (@decide p i) A B := Cond_dec h1 h2
theorem op_len (o : OpL) : o.cells.length = 10 := rfl
section
def sideP (s x : Addr) (lo hi : Int) (h : Hp) (R : Value → Hp → Prop) (K : Hp → Prop) : Prop :=
  ∃ t92 : Option Addr, cell h s = some (.pointer t92) ∧ Cond (Option.isNone t92) (K h) (∃ t95_0 : Int, cell h x = some (.int .i64 t95_0) ∧ ∃ t95_1 : Int, cell h (x.add 1) = some (.int .i64 t95_1) ∧ ∃ t95_2 : Int, cell h (x.add 2) = some (.int .i64 t95_2) ∧ ∃ t95_3 : Int, cell h (x.add 3) = some (.int .i64 t95_3) ∧ ∃ t95_4 : Int, cell h (x.add 4) = some (.int .i64 t95_4) ∧ ∃ t95_5 : Int, cell h (x.add 5) = some (.int .i64 t95_5) ∧ ∃ t95_6 : Int, cell h (x.add 6) = some (.int .i64 t95_6) ∧ ∃ t95_7 : Int, cell h (x.add 7) = some (.int .u64 t95_7) ∧ ∃ t95_8 : Int, cell h (x.add 8) = some (.int .u64 t95_8) ∧ ∃ t95_9 : Sl, cell h (x.add 9) = some (.slice t95_9.a t95_9.n t95_9.c) ∧ CallTo Try.prog 52 #[.pointer (some s), .agg #[.int .i64 t95_0, .int .i64 t95_1, .int .i64 t95_2, .int .i64 t95_3, .int .i64 t95_4, .int .i64 t95_5, .int .i64 t95_6, .int .u64 t95_7, .int .u64 t95_8, .slice t95_9.a t95_9.n t95_9.c]] h fun r h20 =>
    ∃ t96 : Bool, r = .bool t96 ∧ Cond (!t96) (∃ t101 : Int, cell h20 (x.add 1) = some (.int .i64 t101) ∧ Cond (decide (t101 ≥ lo)) (∃ t107 : Int, cell h20 (x.add 1) = some (.int .i64 t107) ∧ Cond (decide (t107 ≤ hi)) (R (.bool false : Value) h20) (K h20)) (K h20)) (K h20))
def bothP (s7 s8 x : Addr) (lo hi : Int) (h : Hp) (R : Value → Hp → Prop) (K : Hp → Prop) : Prop :=
  ∃ t85 : Int, cell h x = some (.int .i64 t85) ∧ Cond ((andI .i64 t85 (1 : Int)) == (1 : Int)) (sideP s8 x lo hi h R K) (sideP s7 x lo hi h R K)
variable {h h' hB : Hp} {own : Nat → Nat} {sa sc k b : Nat} {s9 : Sl} {P : List Nat} {o : OpL} {lo hi : Int} {R : Value → Hp → Prop} {K : Hp → Prop}
theorem sideA_ok (w : LW hB h own sa sc k s9 P) (row : Row h b o.cells) (ko : o.Ok h) (kf : ∀ p, o.d.a = some p → o.bytes ≠ [] → p.block < hB.size) (hk : k < 65536) (hK : ∀ h' own', LW hB h' own' sa sc (k + 1) s9 P → K h') : sideP (ad sa) (ad b) lo hi h R K := by
  rcases w.A with ⟨r, _⟩ | ⟨D, x, e, a, bb, c, f⟩
  · exact ⟨none, (cell_ad r).trans rfl, Cond_t rfl (hK h own (w.keepN (Kept.refl _ _) (by omega)))⟩
  · refine ⟨_, x.p, Cond_f rfl ⟨_, (cell_row row 0).trans rfl, _, (opc row 1).trans rfl, _, (opc row 2).trans rfl, _, (opc row 3).trans rfl, _, (opc row 4).trans rfl, _, (opc row 5).trans rfl, _, (opc row 6).trans rfl, _, (opc row 7).trans rfl, _, (opc row 8).trans rfl, _, (opc row 9).trans rfl, ?_⟩⟩
    refine plays_ok x e ko (fun p hp hne hf => ?_) (by omega) (by omega) (by omega) fun h2 D2 x2 st e2 a2 b2 c2 => ⟨true, rfl, Cond_f rfl ?_⟩
    · have h1 : own p.block = 1 := f _ hf
      rw [w.base _ (kf p hp hne)] at h1
      omega
    · obtain ⟨own2, w2⟩ := w.sideA f x2 st e2 (by omega) (by omega) (by omega)
      exact hK h2 own2 w2
theorem sideB_ok (w : LW hB h own sa sc k s9 P) (row : Row h b o.cells) (ko : o.Ok h) (kf : ∀ p, o.d.a = some p → o.bytes ≠ [] → p.block < hB.size) (hk : k < 65536) (hK : ∀ h' own', LW hB h' own' sa sc (k + 1) s9 P → K h') : sideP (ad sc) (ad b) lo hi h R K := by
  rcases w.B with ⟨r, _⟩ | ⟨D, x, e, a, bb, c, f⟩
  · exact ⟨none, (cell_ad r).trans rfl, Cond_t rfl (hK h own (w.keepN (Kept.refl _ _) (by omega)))⟩
  · refine ⟨_, x.p, Cond_f rfl ⟨_, (cell_row row 0).trans rfl, _, (opc row 1).trans rfl, _, (opc row 2).trans rfl, _, (opc row 3).trans rfl, _, (opc row 4).trans rfl, _, (opc row 5).trans rfl, _, (opc row 6).trans rfl, _, (opc row 7).trans rfl, _, (opc row 8).trans rfl, _, (opc row 9).trans rfl, ?_⟩⟩
    refine plays_ok x e ko (fun p hp hne hf => ?_) (by omega) (by omega) (by omega) fun h2 D2 x2 st e2 a2 b2 c2 => ⟨true, rfl, Cond_f rfl ?_⟩
    · have h1 : own p.block = 2 := f _ hf
      rw [w.base _ (kf p hp hne)] at h1
      omega
    · obtain ⟨own2, w2⟩ := w.sideB f x2 st e2 (by omega) (by omega) (by omega)
      exact hK h2 own2 w2
theorem both_ok (w : LW hB h own sa sc k s9 P) (row : Row h b o.cells) (ko : o.Ok h) (kf : ∀ p, o.d.a = some p → o.bytes ≠ [] → p.block < hB.size) (hk : k < 65536) (hK : ∀ h' own', LW hB h' own' sa sc (k + 1) s9 P → K h') : bothP (ad sa) (ad sc) (ad b) lo hi h R K :=
  ⟨_, (cell_row row 0).trans rfl, Cond_b (fun _ => sideB_ok w row ko kf hk hK) fun _ => sideA_ok w row ko kf hk hK⟩
/-- One more heap that is made meanwhile. -/
theorem other_ok (w : LW hB h own sa sc k s9 P) (hp : (P.length : Int) < 1000) {role : Nat → Role} {sp : List AObj} {G : Geo} {s : RS} {c : Nat} (rp : HRep h' c role (s.words sp) G) (v : s.Inv) (kk : Kept N h h') (fr : ∀ b, role b ≠ .out → h.size ≤ b)
    (q : s.objF 1 = ((1 + P.length % 200, 0, 1), 0)) {K : Option Addr → Nat → Nat → Hp → Prop} (hK : ∀ a' c' h2 own2, LW hB h2 own2 sa sc k ⟨a', s9.n + 1, c'⟩ (P ++ [c]) → Kept (fun b => own b = 3) h h2 → K a' (s9.n + 1) c' h2) :
    Let (h'.push (.cells #[.pointer (some (ad c))] 38)) fun h18 => appSl 38 1 8 #[.pointer none] s9.a s9.n s9.c (some (nb h')) 1 h18 K := by
  obtain ⟨own1, u1, f1⟩ := Upd.of (own := own) (i := 5 + P.length) (X := fun b => role b ≠ .out) kk (fun _ e => e.elim) (fun b hb => .inr (fr b hb)) fun b hb => Nat.lt_of_not_le fun hl => hb (rp.fresh b hl)
  have w1 : LW hB h' own1 sa sc k s9 P := ⟨w.kp' u1 (by omega), w.base' u1 (by omega), w.fresh' u1, w.A' u1 (by omega) (Nat.le_refl _), w.B' u1 (by omega) (Nat.le_refl _), w.ob' u1 (by omega),
    fun j b hj => w.ot' u1 hj (by have := (List.getElem?_eq_some_iff.1 hj).1; omega), w.pl⟩
  refine Let_mk fun h18 e18 => ?_
  have k18 : Kept N h' h18 := e18 ▸ kept_push _ _ _
  have w18 := w1.keepN k18 (Nat.le_refl k)
  have rp18 := rp.keep k18 fun _ e => e.elim
  have row18 : Row h18 h'.size [.pointer (some (ad c))] := e18 ▸ row_new h' #[.pointer (some (ad c))] 38
  obtain ⟨ob, sl, fo⟩ := w18.ob
  have hsn : s9.n = P.length := by have := sl.len; rw [List.length_map] at this; omega
  refine ⟨[.pointer (some (ad c))], reads_row row18 (fun j v hj => by rw [Nat.zero_add]; exact hj), rfl, ?_⟩
  have hpl := w.pl
  refine appT_ok2 sl rfl rfl (fun u hu => by rw [List.mem_singleton.1 hu]; rfl) (by omega) (by omega) fun a' c' ob' h3 sl3 hcase => ?_
  have kS : Kept (fun b => ob = some b) h18 h3 := by
    rcases hcase with ⟨_, q⟩ | ⟨_, q⟩
    · exact q
    · exact q.mono fun _ _ e => e.elim
  obtain ⟨own2, u2, f2⟩ := Upd.of (own := own1) (i := 3) (X := fun b => ob' = some b) kS (fun b hb => fo b hb) (fun b hb => by
    rcases hcase with ⟨q, _⟩ | ⟨q, _⟩
    · exact .inl (fo b (q ▸ hb))
    · rw [q] at hb; obtain rfl := Option.some.inj hb; exact .inr (Nat.le_refl _)) fun b hb => by
      obtain ⟨_, _, j, r, _⟩ := sl3.row b hb
      exact row_lt r
  refine hK a' c' h3 own2 ⟨w18.kp' u2 (by omega), w18.base' u2 (by omega), w18.fresh' u2, w18.A' u2 (by omega) (Nat.le_refl _), w18.B' u2 (by omega) (Nat.le_refl _), ⟨ob', by rw [List.map_append]; exact sl3, f2⟩, fun j b hj => ?_, by rw [List.length_append]; simp; omega⟩ ?_
  · rw [List.getElem?_append] at hj
    split at hj
    · exact w18.ot' u2 hj (by omega)
    · rename_i hjl
      have e0 : j = P.length := by
        have := (List.getElem?_eq_some_iff.1 hj).1
        simp at this
        omega
      subst e0
      rw [Nat.sub_self] at hj
      obtain rfl : c = b := Option.some.inj hj
      exact (show Oth h18 c P.length (fun d => own1 d = 5 + P.length) from ⟨role, sp, G, s, rp18, v, f1, q⟩).keep u2.k (fun b hb e => by omega) (w18.stay u2 (by omega) (by omega))
  · refine ⟨Nat.le_trans kk.1 (Nat.le_trans k18.1 kS.1), fun b hb hn => ?_⟩
    have hb' := Nat.lt_of_lt_of_le hb kk.1
    refine (kS.2 b (Nat.lt_of_lt_of_le hb' k18.1) fun e => ?_).trans ((k18.2 b hb' id).trans (kk.2 b hb id))
    have h3 := fo b e
    rcases u1.u b with q | ⟨_, q | q, _⟩
    · exact hn (q.symm.trans h3)
    · omega
    · omega
end
section
variable {hB : Hp} {sa sc bs : Nat} {l0 l1 : Int} {sl : Sl} {ops : List OpL} {lo hi : Int} {R : Value → Hp → Prop}
/-- Behind the steps: each of the other heaps still has its object. -/
theorem others_ok {h : Hp} {own : Nat → Nat} {k : Nat} {s9 : Sl} {P : List Nat} (w : LW hB h own sa sc k s9 P) (hR : R (.bool true) h) :
    LoopEv (evC Go.Proofs.Try.prog tab lv27 (sub [1, 1, 1, 1, 1, 1, 0, 1, 0, 0] body27)) (contAt Go.Proofs.Try.prog tab lv27 [1, 1, 1, 1, 1, 1, 0, 1, 0] body27 [] (bodyK Go.Proofs.Try.prog Go.Proofs.Try.f27 [] R)) [(9, .slice s9.a s9.n s9.c), (16, .int .i64 0)] 144 h := by
  obtain ⟨ob, sl, fo⟩ := w.ob
  have hsn : s9.n = P.length := by have := sl.len; rw [List.length_map] at this; omega
  have hpl := w.pl
  refine f27L2_rule (s9 := s9) (fun n s9' s16 h' => ∃ i : Nat, i ≤ P.length ∧ n = P.length - i ∧ s9' = s9 ∧ s16 = (i : Int) ∧ h' = h) P.length ⟨0, Nat.zero_le _, rfl, rfl, rfl, rfl⟩ ?_
  rintro n s9' s16 g h2 ⟨i, hi, rfl, rfl, rfl, rfl⟩
  unfold f27L2
  refine Cond_dec (fun hlt => ?_) fun _ => hR
  have hil : i < P.length := by omega
  have e0 : (P.map fun b => Value.pointer (some (ad b)))[i]? = some (.pointer (some (ad P[i]))) := by rw [List.getElem?_map, List.getElem?_eq_getElem hil]; rfl
  obtain ⟨p, hp, cp⟩ := readsO_get (slAt_reads sl) e0
  obtain ⟨role, sp, G, s, rp, v, f, q⟩ := w.ot i P[i] (List.getElem?_eq_getElem hil)
  refine ⟨⟨by omega, hlt⟩, PtrOk_mk' hp ⟨_, by rw [Int.toNat_natCast, Nat.mul_one]; exact cp, ?_⟩⟩
  refine hobject_ok v rp (r := 1) (by omega) ⟨_, _, _, _, rfl, ?_⟩
  rw [q]
  have em : IntKind.wrap .i64 ((1 : Int) + Int.tmod (i : Int) (200 : Int)) = ((1 + i % 200 : Nat) : Int) := by
    rw [tmod_nn (by omega), wrap_i64' (by omega) (by omega)]
    omega
  rw [em]
  refine Cond_f (bne_self_eq_false _) ⟨by omega, Cond_f (bne_self_eq_false _) (Cond_f rfl (Cond_f rfl ?_))⟩
  refine ⟨P.length - (i + 1), by omega, i + 1, hil, rfl, rfl, ?_, rfl⟩
  rw [wrap_i64' (by omega) (by omega)]
  rfl
theorem steps_ok (rowB : Row hB bs [.int .i64 l0, .int .i64 l1, .slice sl.a sl.n sl.c]) (hs : ReadsO hB sl.a (ops.flatMap OpL.cells)) (hsn : sl.n = ops.length) (hok : ∀ o ∈ ops, o.Ok hB)
    {h : Hp} {own : Nat → Nat} (w : LW hB h own sa sc 0 ⟨none, 0, 0⟩ []) (hR : ∀ h', Kept N hB h' → R (.bool true) h') :
    LoopEv (evC Go.Proofs.Try.prog tab lv27 (sub [1, 1, 1, 1, 1, 0, 1, 0, 0] body27)) (contAt Go.Proofs.Try.prog tab lv27 [1, 1, 1, 1, 1, 0, 1, 0] body27 [] (bodyK Go.Proofs.Try.prog Go.Proofs.Try.f27 [] R)) [(1, .int .i64 lo), (2, .int .i64 hi), (3, .pointer (some (ad bs))), (7, .pointer (some (ad sa))), (8, .pointer (some (ad sc))), (9, .slice none 0 0), (10, .int .i64 0)] 144 h := by
  refine f27L1_rule (s9 := ⟨none, 0, 0⟩) (fun n s1 s2 s3 s7 s8 s9 s10 h' => ∃ (i : Nat) (own : Nat → Nat) (P : List Nat), i ≤ ops.length ∧ i ≤ 65536 ∧ n = ops.length - i ∧ s3 = ad bs ∧ s7 = ad sa ∧ s8 = ad sc ∧ s10 = (i : Int) ∧ LW hB h' own sa sc i s9 P) ops.length
    ⟨0, own, [], Nat.zero_le _, Nat.zero_le _, rfl, rfl, rfl, rfl, rfl, w⟩ ?_
  clear w
  rintro n s1 s2 s3 s7 s8 s9 s10 g h ⟨i, own, P, hi, hi2, rfl, rfl, rfl, rfl, rfl, w⟩
  have rowS : Row h bs _ := kept_row w.kp rowB id
  have cS : cell h ((ad bs).add 2) = some (.slice sl.a sl.n sl.c) := by rw [add_ad]; exact (cell_row rowS 2).trans rfl
  have hend := fun (_ : True) => others_ok (R := R) w (hR h w.kp)
  unfold f27L1
  refine ⟨sl, cS, ?_⟩
  refine Cond_dec (fun hlt => ?_) ?_
  rotate_left
  · exact fun _ => hend trivial
  refine Cond_d2 (fun hlt2 => ?_) ?_
  rotate_left
  · exact fun _ => hend trivial
  have hil : i < ops.length := by omega
  have eo : ops[i]? = some ops[i] := List.getElem?_eq_getElem hil
  have ko0 : ops[i].Ok hB := hok _ (List.getElem_mem hil)
  generalize ops[i] = o at eo ko0
  have rd : ∀ j v, o.cells[j]? = some v → ∃ p, sl.a = some p ∧ cell h ((p.add (i * 10)).add j) = some v := fun j v hj => by
    have hjl : j < 10 := by have := (List.getElem?_eq_some_iff.1 hj).1; rw [op_len] at this; exact this
    obtain ⟨p, hp, cp⟩ := readsO_get (reads_keptN w.kp hs) ((flat_at op_len ops i j o eo hjl).trans hj)
    exact ⟨p, hp, by rw [add_add]; exact cp⟩
  obtain ⟨p, hp, _⟩ := rd 0 _ rfl
  have rd' : ∀ j v, o.cells[j]? = some v → cell h ((p.add (i * 10)).add j) = some v := fun j v hj => by
    obtain ⟨p', hp', c⟩ := rd j v hj
    rw [hp] at hp'
    obtain rfl := Option.some.inj hp'
    exact c
  have rd0 : cell h (p.add (i * 10)) = some (.int .i64 o.on) := rd' 0 _ rfl
  refine ⟨sl, cS, ⟨by omega, hlt⟩, PtrOk_mk' hp ?_⟩
  rw [Int.toNat_natCast]
  refine ⟨_, rd0, _, rd' 1 _ rfl, _, rd' 2 _ rfl, _, rd' 3 _ rfl, _, rd' 4 _ rfl, _, rd' 5 _ rfl, _, rd' 6 _ rfl, _, rd' 7 _ rfl, _, rd' 8 _ rfl, o.d, rd' 9 _ rfl, Let_mk fun h5 e5 => ?_⟩
  have w5 : NB h h.size _ h5 := e5 ▸ NB.new h _ 96
  have enb : nb h = ad h.size := rfl
  rw [enb]
  refine w5.st (i := 0) (rfl) (by show 0 < 10; omega) fun h6 w6 => ?_
  refine w6.st (i := 1) (add_ad _ _) (by show 1 < 10; omega) fun h7 w7 => ?_
  refine w7.st (i := 2) (add_ad _ _) (by show 2 < 10; omega) fun h8 w8 => ?_
  refine w8.st (i := 3) (add_ad _ _) (by show 3 < 10; omega) fun h9 w9 => ?_
  refine w9.st (i := 4) (add_ad _ _) (by show 4 < 10; omega) fun h10 w10 => ?_
  refine w10.st (i := 5) (add_ad _ _) (by show 5 < 10; omega) fun h11 w11 => ?_
  refine w11.st (i := 6) (add_ad _ _) (by show 6 < 10; omega) fun h12 w12 => ?_
  refine w12.st (i := 7) (add_ad _ _) (by show 7 < 10; omega) fun h13 w13 => ?_
  refine w13.st (i := 8) (add_ad _ _) (by show 8 < 10; omega) fun h14 w14 => ?_
  refine w14.st (i := 9) (add_ad _ _) (by show 9 < 10; omega) fun h15 w15 => ?_
  have row : Row h15 h.size o.cells := w15.row
  have ww := w.keepN w15.k (Nat.le_refl i)
  have ko := (ko0.keep w.kp fun _ _ _ => id).keep w15.k fun _ _ _ => id
  have kf := ko0.old
  have hK : ∀ s9' P' h' own', LW hB h' own' sa sc (i + 1) s9' P' → ∃ m, m < ops.length - i ∧ ∃ (i_1 : Nat) (own : Nat → Nat) (P : List Nat), i_1 ≤ ops.length ∧ i_1 ≤ 65536 ∧ m = ops.length - i_1 ∧ ad bs = ad bs ∧ ad sa = ad sa ∧ ad sc = ad sc ∧ IntKind.wrap .i64 ((i : Int) + (1 : Int)) = (i_1 : Int) ∧ LW hB h' own sa sc i_1 s9' P := fun s9' P' h' own' w' =>
    ⟨ops.length - (i + 1), by omega, i + 1, own', P', hil, by omega, rfl, rfl, rfl, rfl, by rw [wrap_i64' (by omega) (by omega)]; rfl, w'⟩
  have hnew : LW hB h15 own sa sc i s9 P := ww
  have hplain : bothP (ad sa) (ad sc) (ad h.size) s1 s2 h15 R _ := both_ok ww row ko kf (by omega) fun h' own' w' => hK s9 P h' own' w'
  refine ⟨by omega, Cond_b (fun _ => Cond_dec (fun h1000 => ?_) fun _ => hplain) fun _ => hplain⟩
  have hsn9 : s9.n = P.length := by
    obtain ⟨ob, q, _⟩ := w.ob
    have := q.len
    rw [List.length_map] at this
    omega
  have hpl := w.pl
  refine hnew_ok (fun hn => absurd (by omega) hn) fun h16 hb role G _ rp fr k16 => ⟨_, _, rfl, Cond_f rfl (Cond_f rfl ⟨by omega, ?_⟩)⟩
  have em : IntKind.wrap .i64 ((1 : Int) + Int.tmod ((s9.n : Nat) : Int) (200 : Int)) = ((1 + P.length % 200 : Nat) : Int) := by
    rw [tmod_nn (by omega), wrap_i64' (by omega) (by omega), hsn9]
    omega
  rw [em]
  have v0 : (RS.new (128 : Int).toNat).Inv := RS.new_inv (by decide) (by decide)
  refine halloc_ok v0 rp fun h17 role' G' sp' rp' ex => ⟨_, _, rfl, ?_⟩
  have k17 : Kept N h15 h17 := ⟨Nat.le_trans k16.1 ex.1, fun b hb _ => by
    have ho : role b = .out := Classical.byContradiction fun hn => by have := fr b hn; omega
    exact (ex.2 b (Nat.lt_of_lt_of_le hb k16.1) ho).2.trans (k16.2 b hb id)⟩
  have fr' : ∀ b, role' b ≠ .out → h15.size ≤ b := fun b hb => Nat.le_of_not_lt fun hl => hb (ex.2 b (Nat.lt_of_lt_of_le hl k16.1) (Classical.byContradiction fun hn => by have := fr b hn; omega)).1
  refine other_ok ww (by omega) rp' (v0.alloc _ _ _) k17 fr' (other_alloc (by omega) (by omega)) fun a' c' h19 own2 w19 k19 => ?_
  have nf : ¬ own h.size = 3 := by
    intro e
    rw [w.fresh _ (Nat.le_refl _)] at e
    omega
  have row19 : Row h19 h.size o.cells := kept_row k19 row nf
  have ko19 := ko.keep k19 fun p hp hne e => by
    rw [w.base _ (kf p hp hne)] at e
    omega
  exact (both_ok w19 row19 ko19 kf (by omega) fun h' own' w' => hK ⟨a', s9.n + 1, c'⟩ (P ++ [hb]) h' own' w' : bothP (ad sa) (ad sc) (ad h.size) s1 s2 h19 R _)
end
end Go.Ev
set_option linter.all false
set_option maxRecDepth 1000000
namespace Go.Ev
open Go.Proofs
section
variable {h h' hB : Hp} {own : Nat → Nat} {sa sc k k' sb : Nat} {s9 : Sl} {P : List Nat} {S X : Nat → Prop}
theorem SideSt.self {Q : Nat → Prop} (x : SideSt h sb k Q) : Q sb := by
  rcases x with ⟨_, p⟩ | ⟨D, x, _, _, _, _, f⟩
  · exact p
  · exact f _ (.inl ⟨0, x.y0⟩)
theorem SideSt.mono {Q Q' : Nat → Prop} (x : SideSt h sb k Q) (hQ : ∀ b, Q b → Q' b) : SideSt h sb k Q' := x.keep (Kept.refl (fun _ => False) h) (fun _ _ => id) hQ (Nat.le_refl _)
theorem LW.putA (w : LW hB h own sa sc k s9 P) (kS : Kept S h h') (hS : ∀ b, S b → own b = 1) (hX : ∀ b, X b → own b = 1 ∨ h.size ≤ b) (hl : ∀ b, X b → b < h'.size) (x : SideSt h' sa k' X) (hk : k ≤ k') : ∃ own', LW hB h' own' sa sc k' s9 P := by
  obtain ⟨own', u, f⟩ := Upd.of (own := own) (i := 1) (X := X) kS hS hX hl
  exact ⟨own', w.kp' u (by omega), w.base' u (by omega), w.fresh' u, x.mono f, w.B' u (by omega) hk, w.ob' u (by omega), fun j b hj => w.ot' u hj (by omega), w.pl⟩
theorem LW.putB (w : LW hB h own sa sc k s9 P) (kS : Kept S h h') (hS : ∀ b, S b → own b = 2) (hX : ∀ b, X b → own b = 2 ∨ h.size ≤ b) (hl : ∀ b, X b → b < h'.size) (x : SideSt h' sc k' X) (hk : k ≤ k') : ∃ own', LW hB h' own' sa sc k' s9 P := by
  obtain ⟨own', u, f⟩ := Upd.of (own := own) (i := 2) (X := X) kS hS hX hl
  exact ⟨own', w.kp' u (by omega), w.base' u (by omega), w.fresh' u, w.A' u (by omega) hk, x.mono f, w.ob' u (by omega), fun j b hj => w.ot' u hj (by omega), w.pl⟩
theorem holds_ok {l0 l1 lo hi : Int} {sl : Sl} {ops : List OpL} (hs : ReadsO h sl.a (ops.flatMap OpL.cells)) (hsn : sl.n = ops.length) (hok : ∀ o ∈ ops, o.Ok h) {R : Value → Hp → Prop}
    (hR : ∀ h', Kept N h h' → R (.bool true) h') : CallTo Try.prog 27 #[.agg #[.int .i64 l0, .int .i64 l1, .slice sl.a sl.n sl.c], .int .i64 lo, .int .i64 hi] h R := by
  refine f27F_ok ?_
  unfold f27F
  refine Let_mk fun h1 e1 => Let_mk fun h2 e2 => Let_mk fun h3 e3 => ?_
  have k1 : Kept N h h1 := e1 ▸ kept_push _ _ _
  have k2 : Kept N h1 h2 := e2 ▸ kept_push _ _ _
  have k3 : Kept N h2 h3 := e3 ▸ kept_push _ _ _
  have z2 : h2.size = h1.size + 1 := by rw [e2]; simp
  have z3 : h3.size = h2.size + 1 := by rw [e3]; simp
  have rowB : Row h1 h.size [.int .i64 l0, .int .i64 l1, .slice sl.a sl.n sl.c] := e1 ▸ row_new h _ 56
  have rowa : Row h3 h1.size nilSide := kept_row k3 (e2 ▸ row_new h1 _ 92) id
  have rowc : Row h3 h2.size nilSide := e3 ▸ row_new h2 _ 92
  have rowS := kept_row (k2.trans k3) rowB id
  have enb : nb h = ad h.size := rfl
  have enb1 : nb h1 = ad h1.size := rfl
  have enb2 : nb h2 = ad h2.size := rfl
  rw [enb, enb1, enb2]
  have w3 : LW h1 h3 (fun b => if b = h1.size then 1 else if b = h2.size then 2 else 0) h1.size h2.size 0 ⟨none, 0, 0⟩ [] := by
    refine ⟨k2.trans k3, fun b hb => ?_, fun b hb => ?_, .inl ⟨rowa, if_pos rfl⟩, .inl ⟨rowc, ?_⟩, ⟨none, slAt_nil 1 h3, nofun⟩, fun j b hj => by simp at hj, by simp⟩
    · show (if b = h1.size then 1 else if b = h2.size then 2 else 0) = 0
      rw [if_neg (by omega), if_neg (by omega)]
    · show (if b = h1.size then 1 else if b = h2.size then 2 else 0) = 0
      rw [if_neg (by omega), if_neg (by omega)]
    · show (if h2.size = h1.size then 1 else if h2.size = h2.size then 2 else 0) = 2
      rw [if_neg (by omega), if_pos rfl]
  have fin : ∀ h' own', LW h1 h' own' h1.size h2.size 0 ⟨none, 0, 0⟩ [] → f27K1 lo hi (ad h.size) (ad h1.size) (ad h2.size) (!true) h' R := fun h' own' w => by
    unfold f27K1
    exact Cond_f rfl (steps_ok rowB (reads_keptN k1 hs) hsn (fun o ho => (hok o ho).keep k1 fun _ _ _ => id) w fun h' kk => hR h' (k1.trans kk))
  have sec : ∀ h4 own4, LW h1 h4 own4 h1.size h2.size 0 ⟨none, 0, 0⟩ [] → Row h4 h2.size nilSide → (0 ≤ (1 : Int) ∧ (1 : Int) < ((2 : Nat) : Int)) ∧ ∃ t35 : Int, cell h4 ((ad h.size).add ((1 : Int).toNat * 1)) = some (.int .i64 t35) ∧ CallTo Try.prog 51 #[.pointer (some (ad h2.size)), .int .i64 t35] h4 fun r h27 => ∃ t36 : Bool, r = .bool t36 ∧ f27K1 lo hi (ad h.size) (ad h1.size) (ad h2.size) (!t36) h27 R := fun h4 own4 w row => by
    refine ⟨by omega, l1, by rw [add_ad]; exact (cell_row (kept_row w.kp rowB id) 1).trans rfl, begin2_ok row (fun h5 r5 k5 => ⟨true, rfl, ?_⟩) fun h5 D x e a b c k5 f5 => ⟨true, rfl, ?_⟩⟩
    · obtain ⟨own5, w5⟩ := w.putB (X := fun b => b = h2.size) k5 (fun b e => by rw [e]; exact w.B.self) (fun b e => .inl (by rw [e]; exact w.B.self)) (fun b e => by rw [e]; exact row_lt r5) (.inl ⟨r5, rfl⟩) (Nat.le_refl _)
      exact fin h5 own5 w5
    · obtain ⟨own5, w5⟩ := w.putB (k' := 0) (X := D.foot) k5 (fun b e => by rw [e]; exact w.B.self) (fun b hb => (f5 b hb).imp_left fun e => by rw [e]; exact w.B.self) (fun b hb => x.foot_lt hb) (.inr ⟨D, x, e, by omega, by rw [b]; simp, by rw [c]; simp, fun _ => id⟩) (Nat.le_refl _)
      exact fin h5 own5 w5
  refine ⟨by omega, l0, by rw [add_ad]; exact (cell_row rowS 0).trans rfl, begin2_ok rowa (fun h4 r4 k4 => ⟨true, rfl, Cond_f rfl ?_⟩) fun h4 D x e a b c k4 f4 => ⟨true, rfl, Cond_f rfl ?_⟩⟩
  · obtain ⟨own4, w4⟩ := w3.putA (X := fun b => b = h1.size) k4 (fun b e => if_pos e) (fun b e => .inl (if_pos e)) (fun b e => by rw [e]; exact row_lt r4) (.inl ⟨r4, rfl⟩) (Nat.le_refl _)
    exact sec h4 own4 w4 (kept_row k4 rowc fun e : h2.size = h1.size => by omega)
  · obtain ⟨own4, w4⟩ := w3.putA (k' := 0) (X := D.foot) k4 (fun b e => if_pos e) (fun b hb => (f4 b hb).imp_left fun e => if_pos e) (fun b hb => x.foot_lt hb) (.inr ⟨D, x, e, by omega, by rw [b]; simp, by rw [c]; simp, fun _ => id⟩) (Nat.le_refl _)
    exact sec h4 own4 w4 (kept_row k4 rowc fun e : h2.size = h1.size => by omega)
theorem law8_ok {l0 l1 : Int} {sl : Sl} {ops : List OpL} (hs : ReadsO h sl.a (ops.flatMap OpL.cells)) (hsn : sl.n = ops.length) (hok : ∀ o ∈ ops, o.Ok h) {R : Value → Hp → Prop}
    (hR : ∀ h', Kept N h h' → R (.bool true) h') : CallTo Try.prog 8 #[.agg #[.int .i64 l0, .int .i64 l1, .slice sl.a sl.n sl.c]] h R := by
  refine f8F_ok ?_
  unfold f8F
  refine Let_mk fun h1 e1 => ?_
  have k1 : Kept N h h1 := e1 ▸ kept_push _ _ _
  have row : Row h1 h.size [.int .i64 l0, .int .i64 l1, .slice sl.a sl.n sl.c] := e1 ▸ row_new h _ 56
  have enb : nb h = ad h.size := rfl
  rw [enb]
  exact ⟨_, (cell_row row 0).trans rfl, _, by rw [add_ad]; exact (cell_row row 1).trans rfl, sl, by rw [add_ad]; exact (cell_row row 2).trans rfl, holds_ok (reads_keptN k1 hs) hsn
    (fun o ho => (hok o ho).keep k1 fun _ _ _ => id) fun h2 k2 => ⟨true, rfl, hR h2 (k1.trans k2)⟩⟩
theorem law9_ok {l0 l1 : Int} {sl : Sl} {ops : List OpL} (hs : ReadsO h sl.a (ops.flatMap OpL.cells)) (hsn : sl.n = ops.length) (hok : ∀ o ∈ ops, o.Ok h) {R : Value → Hp → Prop}
    (hR : ∀ h', Kept N h h' → R (.bool true) h') : CallTo Try.prog 9 #[.agg #[.int .i64 l0, .int .i64 l1, .slice sl.a sl.n sl.c]] h R := by
  refine f9F_ok ?_
  unfold f9F
  refine Let_mk fun h1 e1 => ?_
  have k1 : Kept N h h1 := e1 ▸ kept_push _ _ _
  have row : Row h1 h.size [.int .i64 l0, .int .i64 l1, .slice sl.a sl.n sl.c] := e1 ▸ row_new h _ 56
  have enb : nb h = ad h.size := rfl
  rw [enb]
  exact ⟨_, (cell_row row 0).trans rfl, _, by rw [add_ad]; exact (cell_row row 1).trans rfl, sl, by rw [add_ad]; exact (cell_row row 2).trans rfl, holds_ok (reads_keptN k1 hs) hsn
    (fun o ho => (hok o ho).keep k1 fun _ _ _ => id) fun h2 k2 => ⟨true, rfl, hR h2 (k1.trans k2)⟩⟩
theorem law10_ok {l0 l1 : Int} {sl : Sl} {ops : List OpL} (hs : ReadsO h sl.a (ops.flatMap OpL.cells)) (hsn : sl.n = ops.length) (hok : ∀ o ∈ ops, o.Ok h) {R : Value → Hp → Prop}
    (hR : ∀ h', Kept N h h' → R (.bool true) h') : CallTo Try.prog 10 #[.agg #[.int .i64 l0, .int .i64 l1, .slice sl.a sl.n sl.c]] h R := by
  refine f10F_ok ?_
  unfold f10F
  refine Let_mk fun h1 e1 => ?_
  have k1 : Kept N h h1 := e1 ▸ kept_push _ _ _
  have row : Row h1 h.size [.int .i64 l0, .int .i64 l1, .slice sl.a sl.n sl.c] := e1 ▸ row_new h _ 56
  have enb : nb h = ad h.size := rfl
  rw [enb]
  exact ⟨_, (cell_row row 0).trans rfl, _, by rw [add_ad]; exact (cell_row row 1).trans rfl, sl, by rw [add_ad]; exact (cell_row row 2).trans rfl, holds_ok (reads_keptN k1 hs) hsn
    (fun o ho => (hok o ho).keep k1 fun _ _ _ => id) fun h2 k2 => ⟨true, rfl, hR h2 (k1.trans k2)⟩⟩
theorem law11_ok {l0 l1 : Int} {sl : Sl} {ops : List OpL} (hs : ReadsO h sl.a (ops.flatMap OpL.cells)) (hsn : sl.n = ops.length) (hok : ∀ o ∈ ops, o.Ok h) {R : Value → Hp → Prop}
    (hR : ∀ h', Kept N h h' → R (.bool true) h') : CallTo Try.prog 11 #[.agg #[.int .i64 l0, .int .i64 l1, .slice sl.a sl.n sl.c]] h R := by
  refine f11F_ok ?_
  unfold f11F
  refine Let_mk fun h1 e1 => ?_
  have k1 : Kept N h h1 := e1 ▸ kept_push _ _ _
  have row : Row h1 h.size [.int .i64 l0, .int .i64 l1, .slice sl.a sl.n sl.c] := e1 ▸ row_new h _ 56
  have enb : nb h = ad h.size := rfl
  rw [enb]
  exact ⟨_, (cell_row row 0).trans rfl, _, by rw [add_ad]; exact (cell_row row 1).trans rfl, sl, by rw [add_ad]; exact (cell_row row 2).trans rfl, holds_ok (reads_keptN k1 hs) hsn
    (fun o ho => (hok o ho).keep k1 fun _ _ _ => id) fun h2 k2 => ⟨true, rfl, hR h2 (k1.trans k2)⟩⟩
theorem law12_ok {l0 l1 : Int} {sl : Sl} {ops : List OpL} (hs : ReadsO h sl.a (ops.flatMap OpL.cells)) (hsn : sl.n = ops.length) (hok : ∀ o ∈ ops, o.Ok h) {R : Value → Hp → Prop}
    (hR : ∀ h', Kept N h h' → R (.bool true) h') : CallTo Try.prog 12 #[.agg #[.int .i64 l0, .int .i64 l1, .slice sl.a sl.n sl.c]] h R := by
  refine f12F_ok ?_
  unfold f12F
  refine Let_mk fun h1 e1 => ?_
  have k1 : Kept N h h1 := e1 ▸ kept_push _ _ _
  have row : Row h1 h.size [.int .i64 l0, .int .i64 l1, .slice sl.a sl.n sl.c] := e1 ▸ row_new h _ 56
  have enb : nb h = ad h.size := rfl
  rw [enb]
  exact ⟨_, (cell_row row 0).trans rfl, _, by rw [add_ad]; exact (cell_row row 1).trans rfl, sl, by rw [add_ad]; exact (cell_row row 2).trans rfl, holds_ok (reads_keptN k1 hs) hsn
    (fun o ho => (hok o ho).keep k1 fun _ _ _ => id) fun h2 k2 => ⟨true, rfl, hR h2 (k1.trans k2)⟩⟩
end
end Go.Ev
set_option linter.all false
set_option maxRecDepth 100000
namespace Go.Proofs.Ytgkhjbfkgckeoaa
open Go.ChangeShapes Go.WideShapes Go.ChangeAt Go.RowKit
open Go.Ev (OpL Reads ReadsO uv bv iv slV I64 Sl)
theorem own : ownKnob Try.prog.godebug = none := by kernel_rfl
theorem c3 : Try.prog.cellsOf 3 = 1 := by kernel_rfl
theorem c5 : Try.prog.cellsOf 5 = 1 := by kernel_rfl
theorem c30 : Try.prog.cellsOf 30 = 1 := by kernel_rfl
theorem c31 : Try.prog.cellsOf 31 = 1 := by kernel_rfl
theorem c53 : Try.prog.cellsOf 53 = 2 := by kernel_rfl
theorem c54 : Try.prog.cellsOf 54 = 1 := by kernel_rfl
theorem c56 : Try.prog.cellsOf 56 = 3 := by kernel_rfl
theorem c96 : Try.prog.cellsOf 96 = 10 := by kernel_rfl
theorem b5 : Try.prog.bytesOf 5 = 1 := by kernel_rfl
theorem kids : Kids Try.prog (· < Try.prog.types.size) := kids_rows (by kernel_rfl) (by kernel_rfl)
theorem slices_some : ∀ t e, t < Try.prog.types.size → Try.prog.underlying t = some (.slice e) → 0 < Try.prog.cellsOf e := by
  have h : (List.range Try.prog.types.size).all (fun t => match Try.prog.underlying t with | some (.slice e) => decide (0 < Try.prog.cellsOf e) | _ => true) = true := by kernel_rfl
  intro t e ht hu
  have := List.all_eq_true.1 h t (List.mem_range.2 ht)
  rw [hu] at this
  exact of_decide_eq_true this
section
variable {H : Type} {enc : TypeId × Value → H} {W : World}
theorem weightsAll_mem {P : Program} {e : TypeId} : ∀ {ds : List (DataW H)} {d : DataW H}, d ∈ ds → ∀ n ∈ d.weights P e, n ∈ DataW.weightsAll P e ds
  | d0 :: ds, d, hd, n, hn => by
    rw [DataW.weightsAll, List.mem_append]
    rcases List.mem_cons.1 hd with rfl | hd
    · exact .inl hn
    · exact .inr (weightsAll_mem hd n hn)
theorem i64_of {n : Int} (h : (Lit.int .i64 n).wf = true) : I64 n := by
  have := bounds_i64 h
  exact ⟨this.1, by omega⟩
theorem bytes_of {n : Nat} {v : Value} {x : DataW H × List MemPlace} (h : DataW.trod enc Try.prog W 0 (fun _ => true) true n 31 [v] = some x) (hw : ∀ m ∈ x.1.weights Try.prog 31, m ≤ reachBytes) :
    ∃ (d : Sl) (l : List Nat), v = slV d ∧ ReadsO W.heap d.a (l.map bv) ∧ d.n = l.length ∧ (∀ c ∈ l, c < 256) ∧ l.length < 140737488355328 ∧ ∀ p, d.a = some p → l ≠ [] → p.block < W.heap.size := by
  rcases open_ints Try.underlying31 Try.underlying5 c5 h with ⟨hcs, _⟩ | ⟨a, len, cap, zs, hcs, _, hl, _, hz, hx, hcell, hwz⟩
  · refine ⟨⟨none, 0, 0⟩, [], ?_, rfl, rfl, by simp, by decide, nofun⟩
    exact (List.cons.inj hcs).1
  · simp only [if_true] at hz
    have hw1 := hw ((len + (cap - len)) * Try.prog.bytesOf 5) (by
      rw [hx]
      have e1 : ((lits (H := H) .u8 (zs.take len)).length) = len := by simp [lits]; omega
      have e2 : ((lits (H := H) .u8 (zs.drop len)).length) = cap - len := by simp [lits]; omega
      simp only [DataW.weights, Try.underlying31, List.mem_cons]
      exact .inl (by rw [e1, e2]))
    rw [b5] at hw1
    have hr := reachBytes_lt
    have wz : ∀ i, i < zs.length → 0 ≤ zs.getD i 0 ∧ zs.getD i 0 ≤ 255 := fun i hi => by
      rw [List.getD_eq_getElem?_getD, List.getElem?_eq_getElem hi]
      exact bounds_u8 (hwz _ (List.getElem_mem hi))
    have ll : ((zs.take len).map Int.toNat).length = len := by rw [List.length_map, List.length_take]; omega
    have rd : ∀ i, i < len → Go.Ev.cell W.heap (a.add i) = some (bv ((zs.take len).map Int.toNat)[i]!) := fun i hi => by
      have h1 : Go.Ev.cell W.heap (a.add i) = some (.int .u8 (zs.getD i 0)) := hcell i (by omega)
      have h2 := wz i (by omega)
      have e : ((zs.take len).map Int.toNat)[i]! = (zs.getD i 0).toNat := by
        rw [List.getElem!_eq_getElem?_getD, List.getElem?_map, List.getElem?_take, if_pos hi, List.getElem?_eq_getElem (by omega), List.getD_eq_getElem?_getD, List.getElem?_eq_getElem (by omega)]
        rfl
      rw [h1, e]
      unfold bv
      rw [Int.toNat_of_nonneg h2.1]
    refine ⟨⟨some a, len, cap⟩, (zs.take len).map Int.toNat, ?_, ?_, ll.symm, ?_, by omega, ?_⟩
    · simpa [slV] using hcs
    · intro j u hj
      rw [List.getElem?_map] at hj
      obtain ⟨z, hz1, rfl⟩ := Option.map_eq_some_iff.1 hj
      have hjl : j < len := by have := (List.getElem?_eq_some_iff.1 hz1).1; rw [ll] at this; exact this
      rw [rd j hjl, List.getElem!_eq_getElem?_getD, hz1]
      rfl
    · intro c hc
      obtain ⟨z, hz1, rfl⟩ := List.mem_map.1 hc
      have := bounds_u8 (hwz z (List.mem_of_mem_take hz1))
      omega
    · intro p hp hne
      obtain rfl := Option.some.inj hp
      have h0 : 0 < len := Nat.pos_of_ne_zero fun e => hne (List.length_eq_zero_iff.1 (ll.trans e))
      have h1 := rd 0 h0
      unfold Go.Ev.cell at h1
      have eb : (a.add 0).block = a.block := rfl
      rw [eb] at h1
      exact Nat.lt_of_not_le fun hl => by
        rw [Array.getElem?_eq_none hl] at h1
        cases h1
theorem op_of {n : Nat} {cs : List Value} {x : DataW H × List MemPlace} (h : DataW.trod enc Try.prog W 0 (fun _ => true) true n 96 cs = some x) (hw : ∀ m ∈ x.1.weights Try.prog 96, m ≤ reachBytes) : ∃ o : OpL, cs = o.cells ∧ o.Ok W.heap := by
  obtain ⟨xs, n, _, rfl, hl, hn, hel⟩ := DataW.trod_struct Try.underlying96 h
  rw [c96] at hl
  have e0 : DataW.trod enc Try.prog W 0 (fun _ => true) true n 3 ((cs.drop 0).take (Try.prog.cellsOf 3)) = xs[0]? := hel 0 _ rfl
  have e1 : DataW.trod enc Try.prog W 0 (fun _ => true) true n 3 ((cs.drop 1).take (Try.prog.cellsOf 3)) = xs[1]? := hel 1 _ rfl
  have e2 : DataW.trod enc Try.prog W 0 (fun _ => true) true n 3 ((cs.drop 2).take (Try.prog.cellsOf 3)) = xs[2]? := hel 2 _ rfl
  have e3 : DataW.trod enc Try.prog W 0 (fun _ => true) true n 3 ((cs.drop 3).take (Try.prog.cellsOf 3)) = xs[3]? := hel 3 _ rfl
  have e4 : DataW.trod enc Try.prog W 0 (fun _ => true) true n 3 ((cs.drop 4).take (Try.prog.cellsOf 3)) = xs[4]? := hel 4 _ rfl
  have e5 : DataW.trod enc Try.prog W 0 (fun _ => true) true n 3 ((cs.drop 5).take (Try.prog.cellsOf 3)) = xs[5]? := hel 5 _ rfl
  have e6 : DataW.trod enc Try.prog W 0 (fun _ => true) true n 3 ((cs.drop 6).take (Try.prog.cellsOf 3)) = xs[6]? := hel 6 _ rfl
  have e7 : DataW.trod enc Try.prog W 0 (fun _ => true) true n 30 ((cs.drop 7).take (Try.prog.cellsOf 30)) = xs[7]? := hel 7 _ rfl
  have e8 : DataW.trod enc Try.prog W 0 (fun _ => true) true n 30 ((cs.drop 8).take (Try.prog.cellsOf 30)) = xs[8]? := hel 8 _ rfl
  have e9 : DataW.trod enc Try.prog W 0 (fun _ => true) true n 31 ((cs.drop 9).take (Try.prog.cellsOf 31)) = xs[9]? := hel 9 _ rfl
  rw [c3] at e0 e1 e2 e3 e4 e5 e6
  rw [c30] at e7 e8
  rw [c31] at e9
  match xs, hn with
  | [x0, x1, x2, x3, x4, x5, x6, x7, x8, x9], _ =>
    match cs, hl with
    | [v0, v1, v2, v3, v4, v5, v6, v7, v8, v9], _ =>
      obtain ⟨n0, a0, _, w0⟩ := DataW.trod_int Try.underlying3 (show DataW.trod enc Try.prog W 0 (fun _ => true) true n 3 [v0] = some x0 from e0)
      obtain ⟨n1, a1, _, w1⟩ := DataW.trod_int Try.underlying3 (show DataW.trod enc Try.prog W 0 (fun _ => true) true n 3 [v1] = some x1 from e1)
      obtain ⟨n2, a2, _, w2⟩ := DataW.trod_int Try.underlying3 (show DataW.trod enc Try.prog W 0 (fun _ => true) true n 3 [v2] = some x2 from e2)
      obtain ⟨n3, a3, _, w3⟩ := DataW.trod_int Try.underlying3 (show DataW.trod enc Try.prog W 0 (fun _ => true) true n 3 [v3] = some x3 from e3)
      obtain ⟨n4, a4, _, w4⟩ := DataW.trod_int Try.underlying3 (show DataW.trod enc Try.prog W 0 (fun _ => true) true n 3 [v4] = some x4 from e4)
      obtain ⟨n5, a5, _, w5⟩ := DataW.trod_int Try.underlying3 (show DataW.trod enc Try.prog W 0 (fun _ => true) true n 3 [v5] = some x5 from e5)
      obtain ⟨n6, a6, _, w6⟩ := DataW.trod_int Try.underlying3 (show DataW.trod enc Try.prog W 0 (fun _ => true) true n 3 [v6] = some x6 from e6)
      obtain ⟨n7, a7, _, w7⟩ := DataW.trod_int Try.underlying30 (show DataW.trod enc Try.prog W 0 (fun _ => true) true n 30 [v7] = some x7 from e7)
      obtain ⟨n8, a8, _, w8⟩ := DataW.trod_int Try.underlying30 (show DataW.trod enc Try.prog W 0 (fun _ => true) true n 30 [v8] = some x8 from e8)
      obtain ⟨d, l, d1, d2, d3, d4, d5, d6⟩ := bytes_of (show DataW.trod enc Try.prog W 0 (fun _ => true) true n 31 [v9] = some x9 from e9) (fun m hm => hw m (by
        simp only [DataW.weights, Try.underlying96]
        exact DataW.weights_mem_each (j := 9) (t := 31) rfl rfl m hm))
      simp only [List.cons.injEq, and_true] at a0 a1 a2 a3 a4 a5 a6 a7 a8
      have u7 := bounds_u64 w7
      have u8 := bounds_u64 w8
      refine ⟨⟨n0, n1, n2, n3, n4, n5, n6, n7.toNat, n8.toNat, d, l⟩, ?_, ⟨i64_of w0, i64_of w1, i64_of w2, i64_of w3, i64_of w4, i64_of w5, i64_of w6, by show n7.toNat < _; omega, by show n8.toNat < _; omega, d2, d3, d4, d5, d6⟩⟩
      show [v0, v1, v2, v3, v4, v5, v6, v7, v8, v9] = [iv n0, iv n1, iv n2, iv n3, iv n4, iv n5, iv n6, uv n7.toNat, uv n8.toNat, slV d]
      have q7 : uv n7.toNat = .int .u64 n7 := by unfold uv; rw [Int.toNat_of_nonneg u7.1]
      have q8 : uv n8.toNat = .int .u64 n8 := by unfold uv; rw [Int.toNat_of_nonneg u8.1]
      rw [q7, q8, a0, a1, a2, a3, a4, a5, a6, a7, a8, d1]
      rfl
theorem script_of {n : Nat} {cs : List Value} {x : DataW H × List MemPlace} (h : DataW.trod enc Try.prog W 0 (fun _ => true) true n 56 cs = some x) (hw : ∀ m ∈ x.1.weights Try.prog 56, m ≤ reachBytes) :
    ∃ (l0 l1 : Int) (sl : Sl) (ops : List OpL), cs = [.int .i64 l0, .int .i64 l1, .slice sl.a sl.n sl.c] ∧ ReadsO W.heap sl.a (ops.flatMap OpL.cells) ∧ sl.n = ops.length ∧ ∀ o ∈ ops, o.Ok W.heap := by
  obtain ⟨xs, n, _, rfl, hl, hn, hel⟩ := DataW.trod_struct Try.underlying56 h
  rw [c56] at hl
  have e0 : DataW.trod enc Try.prog W 0 (fun _ => true) true n 53 ((cs.drop 0).take (Try.prog.cellsOf 53)) = xs[0]? := hel 0 _ rfl
  have e1 : DataW.trod enc Try.prog W 0 (fun _ => true) true n 54 ((cs.drop 2).take (Try.prog.cellsOf 54)) = xs[1]? := hel 1 _ rfl
  rw [c53] at e0
  rw [c54] at e1
  match xs, hn with
  | [x0, x1], _ =>
    match cs, hl with
    | [v0, v1, v2], _ =>
      obtain ⟨ys, m, _, rfl, _, hy, hel2⟩ := DataW.trod_array Try.underlying53 (show DataW.trod enc Try.prog W 0 (fun _ => true) true n 53 [v0, v1] = some x0 from e0)
      rw [c3] at hel2
      match ys, hy with
      | [y0, y1], _ =>
        obtain ⟨l0, a0, _, _⟩ := DataW.trod_int Try.underlying3 (show DataW.trod enc Try.prog W 0 (fun _ => true) true m 3 [v0] = some y0 from hel2 0 (by omega))
        obtain ⟨l1, a1, _, _⟩ := DataW.trod_int Try.underlying3 (show DataW.trod enc Try.prog W 0 (fun _ => true) true m 3 [v1] = some y1 from hel2 1 (by omega))
        simp only [List.cons.injEq, and_true] at a0 a1
        subst a0 a1
        rcases DataW.trod_slice Try.underlying54 (show DataW.trod enc Try.prog W 0 (fun _ => true) true n 54 [v2] = some x1 from e1) with ⟨hc, _⟩ | ⟨a, len, cap, elems, rest, k, _, hc, rfl, _, _, _, hlen, hel3, _, _⟩
        · simp only [List.cons.injEq, and_true] at hc
          subst hc
          exact ⟨l0, l1, ⟨none, 0, 0⟩, [], rfl, rfl, rfl, by simp⟩
        · simp only [List.cons.injEq, and_true] at hc
          subst hc
          rw [c96] at hel3
          have each : ∀ i, i < len → ∃ o : OpL, o.Ok W.heap ∧ ∀ j v, o.cells[j]? = some v → Go.Ev.cell W.heap (a.add (i * 10 + j)) = some v := fun i hi => by
            have h1 := hel3 i hi
            have hi2 : i < elems.length := by omega
            rw [List.getElem?_eq_getElem hi2] at h1
            obtain ⟨cs1, hc1, hd⟩ := Option.bind_eq_some_iff.1 h1
            obtain ⟨_, hcl, hcc⟩ := World.cells?_some hc1
            obtain ⟨o, ho, hok⟩ := op_of hd (fun m hm => hw m (by
              simp only [DataW.weights, Try.underlying56]
              refine DataW.weights_mem_each (j := 1) (t := 54) rfl rfl m ?_
              simp only [DataW.weights, Try.underlying54, List.mem_cons, List.mem_append]
              exact .inr (.inl (weightsAll_mem (List.mem_map.2 ⟨_, List.getElem_mem hi2, rfl⟩) m hm))))
            refine ⟨o, hok, fun j v hj => ?_⟩
            have hjl : j < 10 := (List.getElem?_eq_some_iff.1 hj).1
            have h3 : Go.Ev.cell W.heap ((a.add (i * 10)).add j) = cs1[j]? := hcc j hjl
            rw [← Go.Ev.add_add, h3, ho, hj]
          obtain ⟨f, hf⟩ : ∃ f : Nat → OpL, ∀ i, i < len → (f i).Ok W.heap ∧ ∀ j v, (f i).cells[j]? = some v → Go.Ev.cell W.heap (a.add (i * 10 + j)) = some v :=
            ⟨fun i => if hi : i < len then (each i hi).choose else ⟨0, 0, 0, 0, 0, 0, 0, 0, 0, ⟨none, 0, 0⟩, []⟩, fun i hi => by dsimp only; rw [dif_pos hi]; exact (each i hi).choose_spec⟩
          refine ⟨l0, l1, ⟨some a, len, cap⟩, (List.range len).map f, rfl, ?_, by simp, fun o ho => ?_⟩
          · intro j v hj
            have hjl : j < len * 10 := by
              have := (List.getElem?_eq_some_iff.1 hj).1
              rw [Go.Ev.flat_len Go.Ev.op_len] at this
              simpa using this
            have hd : j = j / 10 * 10 + j % 10 := by omega
            have hi : j / 10 < len := by omega
            have h4 := Go.Ev.flat_at Go.Ev.op_len ((List.range len).map f) (j / 10) (j % 10) (f (j / 10)) (by rw [List.getElem?_map, List.getElem?_range hi]; rfl) (by omega)
            rw [← hd, hj] at h4
            have := (hf (j / 10) hi).2 (j % 10) v h4.symm
            rwa [← hd] at this
          · obtain ⟨i, hi, rfl⟩ := List.mem_map.1 ho
            exact (hf i (List.mem_range.1 hi)).1
theorem kept_all {W W' : World} (hs : Go.Ev.Same W W') (hk : Go.Ev.Kept Go.Ev.N W.heap W'.heap) (may : MemPlace → Prop) : W.keptBut W' may := by
  refine ⟨hs.1, hs.2.2, fun i hi => ?_⟩
  rw [hk.2 i hi id]
  cases h : W.heap[i]? with
  | none => rfl
  | some o =>
    cases o <;> first | exact rfl | exact ⟨rfl, rfl, rfl, fun _ _ => rfl⟩ | exact .inr ⟨rfl, rfl⟩
theorem same_all {W W' : World} (hk : Go.Ev.Kept Go.Ev.N W.heap W'.heap) {p : MemPlace} (hp : p.block < W.heap.size) : W.sameAt W' p := by
  cases p with
  | cell b off =>
    show Go.Ev.cell W'.heap ⟨b, off, none⟩ = Go.Ev.cell W.heap ⟨b, off, none⟩
    unfold Go.Ev.cell
    rw [hk.2 b hp id]
  | map b => exact hk.2 b hp id
end
end Go.Proofs.Ytgkhjbfkgckeoaa
