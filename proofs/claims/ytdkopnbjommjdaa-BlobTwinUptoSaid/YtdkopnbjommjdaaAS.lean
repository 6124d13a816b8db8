/- The arena's calls that make room: New, Clear, Alloc, Image, Take. No condition but that the blocks are ones. -/
import Derived.Test.YtdkopnbjommjdaaAR
set_option linter.all false
set_option maxRecDepth 100000
namespace Go.Ev
open Go.Proofs
section
variable {h h' : Hp} {L : ArLoc} {sz : Nat} {os : List AObj} {wc fc : Nat} {fs : List Nat}
def newO (k r w : Nat) : AObj := ⟨k, List.replicate r 0, List.replicate w 0, none⟩
theorem newO_size (k r w : Nat) : (newO k r w).size = 1 + r + w := by rw [AObj.size_eq]; simp [newO]
theorem newO_enc (k r w : Nat) : (newO k r w).enc = hdw k r w :: List.replicate (r + w) 0 := by
  unfold AObj.enc AObj.head AObj.flds newO
  simp
theorem newO_ok {k r w : Nat} (h1 : 1 ≤ k) (h2 : k ≤ 255) (h3 : r ≤ 1048576) (h4 : w ≤ 1048576) : (newO k r w).Ok :=
  ⟨h1, h2, by simpa [newO] using h3, by simpa [newO] using h4, by intro x hx; unfold AObj.flds newO at hx; simp at hx; omega, nofun⟩
def Shape (k r w : Int) : Prop := (1 ≤ k ∧ k ≤ 255) ∧ (0 ≤ r ∧ r ≤ 1048576) ∧ (0 ≤ w ∧ w ≤ 1048576)
theorem aalloc_ok (r : ArR h L sz os wc fc fs) {k rf w : Int} {R : Value → Hp → Prop} (hbad : ¬ Shape k rf w → R (.tuple #[.int .i64 0, .int .i64 21]) h)
    (hfull : Shape k rf w → (sz : Int) < used os + 1 + rf + w → R (.tuple #[.int .i64 0, .int .i64 22]) h)
    (hgood : ∀ h' L', Shape k rf w → (used os : Int) + 1 + rf + w ≤ sz → Ar h' L' sz (os ++ [newO k.toNat rf.toNat w.toNat]) → Grown h L L' h' → R (.tuple #[.int .i64 (used os : Nat), .int .i64 0]) h') :
    CallTo Try.prog 56 #[.pointer (some (ad L.pb)), .int .i64 k, .int .i64 rf, .int .i64 w] h R := by
  refine f56F_ok ?_
  unfold f56F
  have hs := r.s
  have hu := r.u
  refine head_ok ?_
  split
  · rename_i hsh
    obtain ⟨⟨k1, k2⟩, ⟨r1, r2⟩, ⟨w1, w2⟩⟩ := hsh
    refine ⟨_, _, rfl, Cond_f rfl (PtrOk_mk ⟨_, r.c0, PtrOk_mk ⟨⟨some (ad L.wb), used os, wc⟩, r.c1, ?_⟩⟩)⟩
    have e1 : IntKind.wrap .i64 (1 + rf) = 1 + rf := wrap_ar (by omega) (by omega)
    have e2 : IntKind.wrap .i64 (1 + rf + w) = 1 + rf + w := wrap_ar (by omega) (by omega)
    have e3 : IntKind.wrap .i64 ((sz : Int) - ((used os : Nat) : Int)) = (sz : Int) - ((used os : Nat) : Int) := wrap_ar (by omega) (by omega)
    simp only [e1, e2, e3]
    refine Cond_dec (fun hgt => hfull ⟨⟨k1, k2⟩, ⟨r1, r2⟩, ⟨w1, w2⟩⟩ (by omega)) fun hle => ?_
    obtain ⟨k, rfl⟩ := Int.eq_ofNat_of_zero_le (show 0 ≤ k by omega)
    obtain ⟨rf, rfl⟩ := Int.eq_ofNat_of_zero_le r1
    obtain ⟨w, rfl⟩ := Int.eq_ofNat_of_zero_le w1
    simp only [Int.toNat_natCast] at hgood ⊢
    have en : (1 : Int) + (rf : Int) + (w : Int) = ((1 + rf + w : Nat) : Int) := by omega
    rw [en]
    refine extend_ok r (newO k rf w) (newO_ok (by omega) (by omega) (by omega) (by omega)) (n := 1 + rf + w) (by rw [newO_enc, show 1 + rf + w - 1 = rf + w by omega]) (newO_size k rf w).symm (by rw [newO_size]; omega) fun h' L' ha hg => ?_
    exact ⟨_, rfl, hgood h' L' ⟨⟨k1, k2⟩, ⟨r1, r2⟩, ⟨w1, w2⟩⟩ (by omega) ha hg⟩
  · rename_i hsh
    exact ⟨_, _, rfl, Cond_t rfl (hbad hsh)⟩
theorem ar_new {sz : Nat} (h1 : 1 ≤ sz) (h2 : sz ≤ 1048576) {h : Hp} {pb wb fb : Nat} (hp : Row h pb [.int .i64 sz, .slice (some (ad wb)) 1 1, .slice (some (ad fb)) 1 1]) (hw : Row h wb [uv 0]) (hf : Row h fb [uv 0])
    (d1 : pb ≠ wb) (d2 : pb ≠ fb) (d3 : wb ≠ fb) : Ar h ⟨pb, wb, fb⟩ sz [] :=
  ⟨1, 1, [0], hp, ⟨rfl, nofun, fun b e => by obtain rfl := Option.some.inj e; exact ⟨rfl, Nat.le_refl _, [], hw, rfl⟩⟩, ⟨rfl, nofun, fun b e => by obtain rfl := Option.some.inj e; exact ⟨rfl, Nat.le_refl _, [], hf, rfl⟩⟩,
    firstOk_nil, nofun, h1, h2, by decide, d1, d2, d3⟩
theorem zrow1 : zrow #[.int .u64 0] ((1 : Int).toNat * 1) = #[uv 0] := by
  show zrow #[.int .u64 0] (1 * 1) = _
  rw [zrow_one]; rfl
theorem anew_ok {sz : Int} {R : Value → Hp → Prop} (hbad : ¬ (1 ≤ sz ∧ sz ≤ 1048576) → R (.tuple #[.pointer none, .int .i64 20]) h)
    (hgood : ∀ L h', 1 ≤ sz ∧ sz ≤ 1048576 → Ar h' L sz.toNat [] → (∀ b, L.fp b → h.size ≤ b) → Kept N h h' → R (.tuple #[.pointer (some (ad L.pb)), .int .i64 0]) h') : CallTo Try.prog 26 #[.int .i64 sz] h R := by
  refine f26F_ok ?_
  unfold f26F
  refine Cond_dec (fun c => ?_) fun c1 => ?_
  · unfold f26K1; exact hbad (by omega)
  unfold f26K1
  refine Cond_dec (fun c => hbad (by omega)) fun c2 => ?_
  obtain ⟨n, rfl⟩ := Int.eq_ofNat_of_zero_le (show 0 ≤ sz by omega)
  simp only [zrow1]
  have kp : ∀ h1 h2 h3 : Hp, ∀ o1 o2 o3, h1 = h.push o1 → h2 = h1.push o2 → h3 = h2.push o3 → Kept N h h3 := fun h1 h2 h3 o1 o2 o3 e1 e2 e3 => by
    subst e1 e2 e3
    exact ((kept_push _ _ _).trans (kept_push _ _ _)).trans (kept_push _ _ _)
  refine ⟨⟨by omega, by omega, by omega, Let_mk fun h1 e1 => ⟨by omega, by omega, by omega, Let_mk fun h2 e2 => Let_mk fun h3 e3 => ?_⟩⟩, ⟨by omega, by omega, by omega, Let_mk fun h1 e1 => ⟨by omega, by omega, by omega, Let_mk fun h2 e2 => Let_mk fun h3 e3 => ?_⟩⟩⟩
  · have z1 : h1.size = h.size + 1 := by rw [e1]; simp
    have z2 : h2.size = h1.size + 1 := by rw [e2]; simp
    have r1 : Row h3 h.size [uv 0] := by rw [e3]; exact row_push (by rw [e2]; exact row_push (by rw [e1]; exact row_new h #[uv 0] 36) _) _
    have r2 : Row h3 h1.size [uv 0] := by rw [e3]; exact row_push (by rw [e2]; exact row_new h1 #[uv 0] 36) _
    have r3 : Row h3 h2.size [.int .i64 (n : Int), .slice (some (ad h.size)) 1 1, .slice (some (ad h1.size)) 1 1] := by rw [e3]; exact row_new h2 _ 102
    refine hgood ⟨h2.size, h.size, h1.size⟩ h3 (by omega) (by rw [Int.toNat_natCast]; exact ar_new (by omega) (by omega) r3 r1 r2 (by omega) (by omega) (by omega)) ?_ (kp _ _ _ _ _ _ e1 e2 e3)
    rintro b (e | e | e) <;> (subst e; simp only; omega)
  · have z1 : h1.size = h.size + 1 := by rw [e1]; simp
    have z2 : h2.size = h1.size + 1 := by rw [e2]; simp
    have r1 : Row h3 h.size [uv 0] := by rw [e3]; exact row_push (by rw [e2]; exact row_push (by rw [e1]; exact row_new h #[uv 0] 36) _) _
    have r2 : Row h3 h1.size [uv 0] := by rw [e3]; exact row_push (by rw [e2]; exact row_new h1 #[uv 0] 36) _
    have r3 : Row h3 h2.size [.int .i64 (n : Int), .slice (some (ad h1.size)) 1 1, .slice (some (ad h.size)) 1 1] := by rw [e3]; exact row_new h2 _ 102
    refine hgood ⟨h2.size, h1.size, h.size⟩ h3 (by omega) (by rw [Int.toNat_natCast]; exact ar_new (by omega) (by omega) r3 r2 r1 (by omega) (by omega) (by omega)) ?_ (kp _ _ _ _ _ _ e1 e2 e3)
    rintro b (e | e | e) <;> (subst e; simp only; omega)
theorem aclear_ok (r : ArR h L sz os wc fc fs) {R : Value → Hp → Prop} (hR : ∀ h' L', Ar h' L' sz [] → Grown h L L' h' → R (.tuple #[]) h') : CallTo Try.prog 62 #[.pointer (some (ad L.pb))] h R := by
  refine f62F_ok ?_
  unfold f62F
  simp only [zrow1]
  have hu := r.u
  have hu1 := used_pos os
  have hp := r.lt _ (.inl rfl)
  refine ⟨by omega, by omega, by omega, Let_mk fun h1 e1 => PtrOk_mk ?_⟩
  have x1 : (ad L.pb).add 1 = ⟨L.pb, 1, none⟩ := add_ad _ _
  have x2 : (ad L.pb).add 2 = ⟨L.pb, 2, none⟩ := add_ad _ _
  simp only [x1]
  have z1 : h1.size = h.size + 1 := by rw [e1]; simp
  have p1 := row_push r.row (.cells #[uv 0] 36)
  rw [← e1] at p1
  have w1 : Row h1 h.size [uv 0] := by rw [e1]; exact row_new h #[uv 0] 36
  refine ⟨stOk_row p1 (by simp), Let_mk fun h2 e2 => ⟨by omega, by omega, by omega, Let_mk fun h3 e3 => PtrOk_mk ?_⟩⟩
  have p2 := row_setc p1 1 (.slice (some (nb h)) ((1 : Int).toNat) ((1 : Int).toNat))
  rw [← e2] at p2
  have w2 : Row h2 h.size [uv 0] := by rw [e2]; exact row_setc_ne w1 _ (by show h.size ≠ L.pb; omega)
  have z2 : h2.size = h1.size := by rw [e2]; exact size_setc _ _ _
  have p3 := row_push p2 (.cells #[uv 0] 36)
  rw [← e3] at p3
  have w3 : Row h3 h.size [uv 0] := by rw [e3]; exact row_push w2 _
  have f3 : Row h3 h2.size [uv 0] := by rw [e3]; exact row_new h2 #[uv 0] 36
  simp only [x2]
  refine ⟨stOk_row p3 (by simp), Let_mk fun h4 e4 => ?_⟩
  have p4 := row_setc p3 2 (.slice (some (nb h2)) ((1 : Int).toNat) ((1 : Int).toNat))
  rw [← e4] at p4
  have w4 : Row h4 h.size [uv 0] := by rw [e4]; exact row_setc_ne w3 _ (by show h.size ≠ L.pb; omega)
  have f4 : Row h4 h2.size [uv 0] := by rw [e4]; exact row_setc_ne f3 _ (by show h2.size ≠ L.pb; omega)
  refine hR h4 ⟨L.pb, h.size, h2.size⟩ (ar_new (by omega) r.s p4 w4 f4 (by omega) (by omega) (by omega)) ⟨rfl, ?_, ?_⟩
  · rintro b (rfl | rfl | rfl)
    · exact .inl (.inl rfl)
    · exact .inr (Nat.le_refl _)
    · exact .inr (by show h.size ≤ h2.size; omega)
  · have k1 : Kept L.fp h h1 := by rw [e1]; exact kept_push _ _ _
    have k2 : Kept L.fp h1 h2 := by rw [e2]; exact kept_setc h1 1 _ (.inl rfl)
    have k3 : Kept L.fp h2 h3 := by rw [e3]; exact kept_push _ _ _
    have k4 : Kept L.fp h3 h4 := by rw [e4]; exact kept_setc h3 2 _ (.inl rfl)
    exact ((k1.trans k2).trans k3).trans k4
theorem aimage_ok (r : ArR h L sz os wc fc fs) {R : Value → Hp → Prop} (hR : ∀ b c h', SlAt 1 h' (some (ad b)) (used os) c (some b) ((wordsOf os).map uv) → h.size ≤ b → Kept N h h' → R (.slice (some (ad b)) (used os) c) h') :
    CallTo Try.prog 49 #[.pointer (some (ad L.pb))] h R := by
  refine f49F_ok ?_
  unfold f49F
  have hu := r.u
  have hs := r.s
  have hu1 := used_pos os
  refine PtrOk_mk ⟨⟨some (ad L.wb), used os, wc⟩, r.c1, ?_⟩
  obtain ⟨_, _, junk, hrow, _⟩ := r.ws.row _ rfl
  refine ⟨(wordsOf os).map uv, reads_row hrow (fun j v hj => by rw [Nat.zero_add, List.getElem?_append_left (List.getElem?_eq_some_iff.1 hj).1]; exact hj), by rw [List.length_map, Nat.mul_one]; rfl, ?_⟩
  refine appT_ok2 (slAt_nil 1 h) rfl (by rw [List.length_map, Nat.mul_one]; rfl) (by intro v hv; obtain ⟨n, _, rfl⟩ := List.mem_map.1 hv; rfl) (by show (2 * (0 + used os) + 768) * 8 ≤ 2 ^ 48; omega) (by show 0 + used os < 2 ^ 62; omega) fun a' c' ob' h2 s2 hcase => ?_
  rw [List.nil_append] at s2
  simp only [Nat.zero_add] at s2 ⊢
  rcases hcase with ⟨rfl, k2⟩ | ⟨rfl, k2⟩
  · have := (s2.nil rfl).2.1
    exact absurd this (by show used os ≠ 0; omega)
  · have ha := (s2.row _ rfl).1
    rw [ha] at s2 ⊢
    exact hR h.size c' h2 s2 (Nat.le_refl _) k2

/-! ### Take -/
theorem ovw_app {vs junk l : List Value} {o : Nat} (h : o + l.length ≤ vs.length) : ovw (vs ++ junk) o l = ovw vs o l ++ junk := by
  unfold ovw
  rw [List.take_append_of_le_length (by omega), List.drop_append_of_le_length h, List.append_assoc, List.append_assoc, List.append_assoc]
theorem slat_ovw {sz : Nat} {h h' : Hp} {a : Option Addr} {n c b : Nat} {vs junk l : List Value} {o : Nat} (s : SlAt sz h a n c (some b) vs) (hl : o + l.length ≤ vs.length) (hj : vs.length + junk.length = c * sz)
    (hr : Row h' b (ovw (vs ++ junk) o l)) : SlAt sz h' a n c (some b) (ovw vs o l) := by
  obtain ⟨h1, h2, _, _, _⟩ := s.row b rfl
  refine ⟨by rw [ovw_len hl]; exact s.len, nofun, fun b' e => ?_⟩
  obtain rfl := Option.some.inj e
  exact ⟨h1, h2, junk, by rw [← ovw_app hl]; exact hr, by rw [ovw_len hl]; exact hj⟩
def ovwN (ws : List Nat) (p : Nat) (ns : List Nat) : List Nat := ws.take p ++ ns ++ ws.drop (p + ns.length)
theorem ovwN_map (ws : List Nat) (p : Nat) (ns : List Nat) : (ovwN ws p ns).map uv = ovw (ws.map uv) p (ns.map uv) := by
  unfold ovwN ovw
  rw [List.map_append, List.map_append, List.map_take, List.map_drop, List.length_map]
theorem ovwN_len {ws ns : List Nat} {p : Nat} (h : p + ns.length ≤ ws.length) : (ovwN ws p ns).length = ws.length := by unfold ovwN; simp; omega
theorem uv_cells (ns : List Nat) : ∀ v ∈ ns.map uv, isCell v = true := by intro v hv; obtain ⟨n, _, rfl⟩ := List.mem_map.1 hv; rfl
theorem Raw.setWs {ws : List Nat} (r : Raw h L sz ws wc fs fc) {p : Nat} {ns : List Nat} (hp : p + ns.length ≤ ws.length) :
    stsOk h ⟨L.wb, p, none⟩ (ns.map uv) 0 ∧ Raw (setcs h ⟨L.wb, p, none⟩ (ns.map uv) 0) L sz (ovwN ws p ns) wc fs fc ∧ Grown h L L (setcs h ⟨L.wb, p, none⟩ (ns.map uv) 0) := by
  obtain ⟨h1, h2, junk, hr, hj⟩ := r.ws.row _ rfl
  have hfit : p + 0 + (ns.map uv).length ≤ (ws.map uv ++ junk).length := by simp; omega
  have hrow := row_setcs (ns.map uv) h _ p 0 hr hfit
  rw [Nat.add_zero] at hrow
  refine ⟨stsOk_row _ h _ p 0 hr hfit (uv_cells ns), ⟨?_, ?_, ?_, r.d1, r.d2, r.d3⟩, ⟨rfl, fun _ => .inl, kept_setcs h p 0 _ (.inr (.inl rfl))⟩⟩
  · rw [ovwN_len hp]; exact row_keep r.row (setcs_ne _ h p 0 r.d1)
  · rw [ovwN_len hp, ovwN_map]
    exact slat_ovw r.ws (by simp; omega) hj hrow
  · exact r.fsl.keep fun b e => by obtain rfl := Option.some.inj e; exact setcs_ne _ h p 0 (Ne.symm r.d3)
theorem modify_last {α : Type} (x : α) (f : α → α) : ∀ l : List α, (l ++ [x]).modify l.length f = l ++ [f x]
  | [] => rfl
  | a :: l => by
    show (a :: (l ++ [x])).modify (l.length + 1) f = _
    rw [List.modify_succ_cons, modify_last x f l]
    rfl
def Grown2 (h : Hp) (Ls Ld Ld' : ArLoc) (h' : Hp) : Prop := Ld'.pb = Ld.pb ∧ (∀ b, Ld'.fp b → Ld.fp b ∨ h.size ≤ b) ∧ Kept (fun b => Ls.fp b ∨ Ld.fp b) h h'
theorem fwd_ok {o : AObj} (ho : o.Ok) {t : Nat} (ht : t < 9223372036854775808) : ({ o with fwd := some t } : AObj).Ok :=
  ⟨ho.k1, ho.k2, ho.nr, ho.nw, ho.fl, fun t' e => by obtain rfl := Option.some.inj e; exact ht⟩
theorem take_moved {Ls Ld : ArLoc} {szs : Nat} {oss : List AObj} {wcs fcs : Nat} {fss : List Nat} (rs : ArR h Ls szs oss wcs fcs fss) {i : Nat} {o : AObj} (ho : oss[i]? = some o) {t : Nat} (hf : o.fwd = some t)
    {R : Value → Hp → Prop} (hR : R (.tuple #[.int .i64 (t : Int), .int .i64 0]) h) : CallTo Try.prog 69 #[.pointer (some (ad Ld.pb)), .pointer (some (ad Ls.pb)), .int .i64 (pos oss i : Int)] h R := by
  refine f69F_ok ?_
  unfold f69F
  have hm : movedV oss (pos oss i : Int) = .tuple #[.int .i64 (t : Int), .bool true, .int .i64 0] := by
    unfold movedV
    rw [idxI_nat, idx_pos (List.getElem?_eq_some_iff.1 ho).1]
    simp only [Option.bind_some, ho, hf]
  refine moved_ok rs ?_
  rw [hm]
  exact ⟨_, _, _, rfl, Cond_f rfl (by unfold f69K1; exact hR)⟩
theorem take_ok {Ls Ld : ArLoc} {szs : Nat} {oss : List AObj} {wcs fcs : Nat} {fss : List Nat} {szd : Nat} {osd : List AObj} {wcd fcd : Nat} {fsd : List Nat} (rs : ArR h Ls szs oss wcs fcs fss) (rd : ArR h Ld szd osd wcd fcd fsd)
    (hdis : ∀ b, Ls.fp b → ¬ Ld.fp b) {i : Nat} {o : AObj} (ho : oss[i]? = some o) (hf : o.fwd = none) (hfit : used osd + o.size ≤ szd)
    {R : Value → Hp → Prop} (hR : ∀ h' Ld', Ar h' Ls szs (oss.modify i fun o => { o with fwd := some (used osd) }) → Ar h' Ld' szd (osd ++ [o]) → Grown2 h Ls Ld Ld' h' → R (.tuple #[.int .i64 (used osd : Nat), .int .i64 0]) h') :
    CallTo Try.prog 69 #[.pointer (some (ad Ld.pb)), .pointer (some (ad Ls.pb)), .int .i64 (pos oss i : Int)] h R := by
  refine f69F_ok ?_
  unfold f69F
  have hil := (List.getElem?_eq_some_iff.1 ho).1
  have hoo := rs.ok o (List.mem_of_getElem? ho)
  have hm : movedV oss (pos oss i : Int) = .tuple #[.int .i64 0, .bool false, .int .i64 0] := by
    unfold movedV
    rw [idxI_nat, idx_pos hil]
    simp only [Option.bind_some, ho, hf]
  refine moved_ok rs ?_
  rw [hm]
  refine ⟨_, _, _, rfl, Cond_f rfl ?_⟩
  unfold f69K1
  refine Cond_f rfl ?_
  refine fields_ok rs (fun he => ?_) fun i' o' a he hi' ho' hf' ha hp => ?_
  · exfalso
    apply he
    unfold objE
    rw [idxI_nat, idx_pos hil]
    simp only [Option.bind_some, ho, hf]
    rfl
  rw [idxI_nat, idx_pos hil] at hi'
  obtain rfl := Option.some.inj hi'
  rw [ho] at ho'
  obtain rfl := Option.some.inj ho'
  have hsd := rd.s
  have hss := rs.s
  have hus := rs.u
  have hps := pos_size_le ho
  have hpl := pos_lt_used hil
  have hsz : o.size = 1 + o.flds.length := rfl
  have e1 : IntKind.wrap .i64 ((1 : Int) + ((o.flds.length : Nat) : Int)) = ((o.size : Nat) : Int) := by rw [wrap_ar (by omega) (by omega)]; omega
  have e2 : IntKind.wrap .i64 ((szd : Int) - ((used osd : Nat) : Int)) = (szd : Int) - ((used osd : Nat) : Int) := wrap_ar (by omega) (by omega)
  refine ⟨⟨a, o.flds.length, o.flds.length⟩, _, _, rfl, Cond_f rfl (PtrOk_mk ⟨_, rd.c0, PtrOk_mk ⟨⟨some (ad Ld.wb), used osd, wcd⟩, rd.c1, ?_⟩⟩)⟩
  simp only [e1, e2]
  refine Cond_dec (fun hgt => by omega) fun _ => ?_
  have hw : cell h ((ad Ls.wb).add ((pos oss i : Int).toNat * 1)) = some (.int .u64 (o.head : Int)) := by
    rw [Int.toNat_natCast]; exact rs.word (word_head ho)
  refine PtrOk_mk ⟨⟨some (ad Ls.wb), used oss, wcs⟩, rs.c1, rs.at_ok ho, PtrOk_mk ⟨_, hw, ?_⟩⟩
  obtain ⟨hh, hhl⟩ := AObj.head_plain hoo hf
  have hen : o.flds.length = o.refs.length + o.raws.length := by unfold AObj.flds; simp
  refine extend_ok rd (newO o.kind o.refs.length o.raws.length) (newO_ok hoo.k1 hoo.k2 hoo.nr hoo.nw) (n := o.size) (by rw [newO_enc, hh, hsz, show 1 + o.flds.length - 1 = o.refs.length + o.raws.length by omega]) (by rw [newO_size, hsz]; omega)
    (by rw [newO_size]; omega) fun h3 L3 ha3 g3 => ⟨_, rfl, ?_⟩
  obtain ⟨wc3, fc3, fs3, r3⟩ := ha3
  have rs3 : ArR h3 Ls szs oss wcs fcs fss := rs.keep g3.kept hdis
  have hu3 : used (osd ++ [newO o.kind o.refs.length o.raws.length]) = used osd + o.size := by rw [used_snoc, newO_size]; omega
  have c13 := r3.c1
  rw [g3.pb, hu3] at c13
  have e3 : IntKind.wrap .i64 (((used osd : Nat) : Int) + 1) = ((used osd + 1 : Nat) : Int) := by rw [wrap_ar (by omega) (by omega)]; omega
  have e4 : IntKind.wrap .i64 ((pos oss i : Int) + ((o.size : Nat) : Int)) = ((pos oss i + o.size : Nat) : Int) := by rw [wrap_ar (by omega) (by omega)]; omega
  have e5 : IntKind.wrap .i64 ((pos oss i : Int) + 1) = ((pos oss i + 1 : Nat) : Int) := by rw [wrap_ar (by omega) (by omega)]; omega
  have hcap := (rs3.ws.row _ rfl).2.1
  refine PtrOk_mk ⟨⟨some (ad L3.wb), used osd + o.size, wc3⟩, c13, ?_⟩
  simp only [e3, e4, e5, Int.toNat_natCast]
  refine ⟨⟨by omega, by omega⟩, PtrOk_mk ⟨⟨some (ad Ls.wb), used oss, wcs⟩, rs3.c1, ?_⟩⟩
  refine ⟨⟨by omega, ?_⟩, ⟨by omega, by omega⟩, ?_⟩
  · show ((pos oss i + o.size : Nat) : Int) ≤ ((wcs : Nat) : Int); omega
  have emin : min (pos oss i + o.size - (pos oss i + 1)) (used osd + o.size - (used osd + 1)) = o.flds.length := by omega
  obtain ⟨_, _, junk, hrow, _⟩ := rs3.ws.row _ rfl
  refine ⟨o.flds.map uv, ?_, by rw [emin, List.length_map, Nat.mul_one], ?_⟩
  · by_cases h0 : o.flds.length = 0
    · rw [List.length_eq_zero_iff.1 h0]
      split
      · intro j v hj; simp at hj
      · intro j v hj; simp at hj
    · have hne : ¬ wcs = pos oss i + 1 := by omega
      rw [if_neg hne]
      show Reads h3 ((ad Ls.wb).add ((pos oss i + 1) * 1)) _
      rw [add_ad, Nat.mul_one]
      refine reads_row hrow fun j v hj => ?_
      rw [List.getElem?_map] at hj
      have hj1 : j < o.flds.length := by
        rcases Nat.lt_or_ge j o.flds.length with h | h
        · exact h
        · rw [List.getElem?_eq_none h] at hj; cases hj
      rw [List.getElem?_append_left (by rw [List.length_map]; show _ < used oss; omega), List.getElem?_map, word_fld ho hj1]
      exact hj
  -- behind the copy: the object, whole
  have key : ∀ h4, Raw h4 L3 szd (ovwN (wordsOf (osd ++ [newO o.kind o.refs.length o.raws.length])) (used osd + 1) o.flds) wc3 fs3 fc3 → Grown h3 L3 L3 h4 →
      PtrOk (some (ad Ls.pb)) fun p82 => ∃ t84 : Sl, cell h4 (p82.add 1) = some (.slice t84.a t84.n t84.c) ∧ (0 ≤ (pos oss i : Int) ∧ (pos oss i : Int) < ((t84.n : Nat) : Int)) ∧ PtrOk t84.a fun p89 => stOk h4 (p89.add ((pos oss i : Int).toNat * 1)) ∧
        Let (setc h4 (p89.add ((pos oss i : Int).toNat * 1)) (.int .u64 (orI .u64 (9223372036854775808 : Int) (IntKind.wrap .u64 ((used osd : Nat) : Int))))) fun h5 => R (.tuple #[.int .i64 ((used osd : Nat) : Int), .int .i64 0] : Value) h5 := by
    intro h4 r4 g4
    have hws : ovwN (wordsOf (osd ++ [newO o.kind o.refs.length o.raws.length])) (used osd + 1) o.flds = wordsOf (osd ++ [o]) := by
      rw [wordsOf_snoc, wordsOf_snoc, newO_enc]
      have hl : (wordsOf osd).length = used osd := rfl
      unfold ovwN
      have d1 : (wordsOf osd).drop (used osd + 1 + o.flds.length) = [] := List.drop_eq_nil_of_le (by rw [hl]; omega)
      have d2 : List.drop (used osd + 1 + o.flds.length - used osd) (hdw o.kind o.refs.length o.raws.length :: List.replicate (o.refs.length + o.raws.length) 0) = [] := List.drop_eq_nil_of_le (by simp; omega)
      have d3 : (wordsOf osd).take (used osd + 1) = wordsOf osd := List.take_of_length_le (by rw [hl]; omega)
      rw [List.take_append, List.drop_append, hl, d1, d2, d3, show used osd + 1 - used osd = 1 by omega]
      unfold AObj.enc
      rw [hh]
      simp
    rw [hws] at r4
    have hlen : (wordsOf (osd ++ [o])).length = used osd + o.size := used_snoc osd o
    have hfirst : FirstOk fs3 (osd ++ [o]) := by
      have := r3.first.modify (i := osd.length) (f := fun x => if x.size = o.size then o else x) (fun x => by split <;> simp_all)
      have e : (osd ++ [newO o.kind o.refs.length o.raws.length]).modify osd.length (fun x => if x.size = o.size then o else x) = osd ++ [o] := by
        rw [modify_last]
        simp [newO_size, hsz, hen]
        omega
      rw [e] at this
      exact this
    have rd4 : ArR h4 L3 szd (osd ++ [o]) wc3 fc3 fs3 := by
      refine ⟨r4.row, r4.ws, r4.fsl, hfirst, ?_, by rw [used_snoc]; exact hfit, hsd, ?_, r4.d1, r4.d2, r4.d3⟩
      · intro x hx
        rcases List.mem_append.1 hx with hx | hx
        · exact rd.ok x hx
        · rw [List.mem_singleton.1 hx]; exact hoo
      · have := r3.fl; rw [hu3] at this; rw [used_snoc]; exact this
    have hdis3 : ∀ b, Ls.fp b → ¬ L3.fp b := fun b hb h3b => by
      rcases g3.fp b h3b with h | h
      · exact hdis b hb h
      · have := rs.lt b hb; omega
    have rs4 : ArR h4 Ls szs oss wcs fcs fss := rs3.keep g4.kept hdis3
    refine PtrOk_mk ⟨⟨some (ad Ls.wb), used oss, wcs⟩, rs4.c1, rs4.at_ok ho, PtrOk_mk ?_⟩
    have e6 : (ad Ls.wb).add ((pos oss i : Int).toNat * 1) = ⟨Ls.wb, pos oss i, none⟩ := by rw [add_ad, Int.toNat_natCast, Nat.mul_one]
    rw [wrap_u64' (by omega) (by omega), orI_gone (by omega) (by omega)]
    simp only [e6]
    obtain ⟨hst, r5, k5⟩ := rs4.setw (p := pos oss i) (w := 9223372036854775808 + used osd) (os' := oss.modify i fun o => { o with fwd := some (used osd) }) (by omega) (words_fwd ho) (rs.first.modify fun _ => rfl)
      (ok_modify rs.ok fun o ho => fwd_ok ho (by omega))
    have ev : (.int .u64 ((9223372036854775808 : Int) + ((used osd : Nat) : Int)) : Value) = uv (9223372036854775808 + used osd) := rfl
    rw [ev]
    refine ⟨hst, hR _ L3 ⟨_, _, _, r5⟩ ⟨_, _, _, rd4.keep k5 fun b hb hs => hdis3 b hs hb⟩ ⟨g3.pb, g3.fp, ?_⟩⟩
    refine ⟨Nat.le_trans g3.kept.1 (Nat.le_trans g4.kept.1 k5.1), fun j hj hn => ?_⟩
    have j3 := Nat.lt_of_lt_of_le hj g3.kept.1
    rw [k5.2 j (Nat.lt_of_lt_of_le j3 g4.kept.1) (fun e => hn (.inl e)), g4.kept.2 j j3 (fun e => (g3.fp j e).elim (fun h => hn (.inr h)) fun h => by omega)]
    exact g3.kept.2 j hj (fun e => hn (.inr e))
  by_cases h0 : wc3 = used osd + 1
  · have hz : o.flds.length = 0 := by
      have := (r3.ws.row _ rfl).2.1
      rw [hu3] at this
      omega
    rw [if_pos h0]
    have hnil : o.flds = [] := List.length_eq_zero_iff.1 hz
    rw [hnil] at key ⊢
    refine ⟨trivial, ?_⟩
    refine key _ ?_ (Grown.refl _ _)
    have : ovwN (wordsOf (osd ++ [newO o.kind o.refs.length o.raws.length])) (used osd + 1) [] = wordsOf (osd ++ [newO o.kind o.refs.length o.raws.length]) := by unfold ovwN; simp
    rw [this]
    exact r3.raw
  · rw [if_neg h0]
    have ea : ((ad L3.wb).add ((used osd + 1) * 1)).add 0 = ⟨L3.wb, used osd + 1, none⟩ := by rw [add_ad, Nat.mul_one, add_mk]
    obtain ⟨hst, r4, g4⟩ := r3.raw.setWs (p := used osd + 1) (ns := o.flds) (by show _ ≤ used (osd ++ [newO o.kind o.refs.length o.raws.length]); omega)
    show stsOk h3 (((ad L3.wb).add ((used osd + 1) * 1)).add (0)) (o.flds.map uv) 0 ∧ _
    rw [ea]
    exact ⟨hst, key _ r4 g4⟩
end
end Go.Ev
