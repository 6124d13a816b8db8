/- The law of the statement, and what it leans on. No condition but that it is one. -/
import Derived.Test.YtdkopnbjommjdaaCB
set_option linter.all false
set_option maxRecDepth 1000000
namespace Go.Ev
open Go.Proofs
section
variable {h h' h2 : Hp} {q q' q2 : HQ} {s s' : RS} {nd : List NodeD} {b t : List Nat} {id : Nat} {R : Value → Hp → Prop}
theorem Ex.row {c : Nat} {cs : List Value} (e : Ex h q h' q') (r : Row h c cs) (ho : q.role c = .out) : Row h' c cs := kept_row e.kept r fun hn => hn ho
theorem blob_node (v : s.Inv) (sh : s.Shd nd) (hh : s.here id) (hn : nd[id]? = some (blobN b)) : s.IsB id b := RS.IsB.of v sh hh hn
theorem blob_size (B : s.IsB id b) (ok : Okb b) : s.size id ≤ 515 := by
  have e : s.size id = 1 + (s.obj id).refs.length + (s.obj id).raws.length := rfl
  rw [e, B.refs, RS.raws_len B ok]
  have := ok.len
  unfold wordsN
  simp
  omega
theorem inPl_here {raws : List Nat} (x : Nat) : (s.inPl id raws).here x ↔ s.here x := Iff.rfl
/-- What Write does where one handle holds the blob. -/
theorem write1 (v : s.Inv) (sh : s.Shd nd) (hh : s.here id) (hn : nd[id]? = some (blobN b)) (ok : Okb b) (rt : s.roots = [some id]) {p : Nat} (ht : Bytes8 t) (h0 : t ≠ []) (hl : p + t.length ≤ 4096) (hL : s.limit = 262144) :
    ∃ s' nd' j, s.writeF id b (p : Int) t = (s', s'.ref j, 0) ∧ s'.Inv ∧ s'.Shd nd' ∧ s'.here id ∧ s'.here j ∧ nd'[j]? = some (blobN (splice b p t)) ∧ (j = id ∨ nd'[id]? = some (blobN b)) ∧
      (s'.roots = [some id] ∨ s'.roots = [some id, none]) ∧ s'.limit = 262144 := by
  have B := blob_node v sh hh hn
  have okS := okb_splice ok ht hl
  have hpos : 0 < t.length := List.length_pos_iff.2 h0
  unfold RS.writeF
  rw [if_neg (by omega), if_neg (by omega), if_neg (by omega), Int.toNat_natCast]
  have hlt : id < nd.length := (List.getElem?_eq_some_iff.1 hn).1
  split
  · rename_i hw
    have hlr : (blobRaws (splice b p t)).length = (s.obj id).raws.length := by rw [okS.is.len, splice_len, hw, RS.raws_len B ok]
    refine ⟨_, nd.set id (blobN (splice b p t)), id, by rw [RS.inPl_ref v hh hlr], v.inPl hh hlr okS.is.lt, sh.inPl v hh B, hh, hh, List.getElem?_set_self hlt, .inl rfl, .inl rt, hL⟩
  · have er := rootF_good v (id := id) (.inr hh)
    have f1 : RS.freeAt s.roots = 1 := by rw [rt]; rfl
    have ers : (if RS.freeAt s.roots < s.roots.length then s.roots.set (RS.freeAt s.roots) (some id) else s.roots ++ [some id]) = [some id, some id] := by rw [f1, rt]; rfl
    rw [ers] at er
    rw [er]
    have v1 : (s.withRoots [some id, some id]).Inv := v.withRoots (fun x hx => by
      simp only [List.mem_cons, Option.some.injEq, List.not_mem_nil, or_false] at hx
      rcases hx with e | e <;> (rw [e]; exact .inr hh)) (by simp)
    have sh1 : (s.withRoots [some id, some id]).Shd nd := sh.roots _
    have B1 : (s.withRoots [some id, some id]).IsB id b := ⟨B.here, B.nz, B.kind, B.refs, B.raws⟩
    have hsz := blob_size B1 ok
    obtain ⟨s2, el, v2, sh2, er2, hh2, lm2⟩ := RS.lay_fits (b := splice b p t) v1 sh1 okS (fun x hx => by
      have hx : some x ∈ [some id, some id] := hx
      simp only [List.mem_cons, Option.some.injEq, List.not_mem_nil, or_false] at hx
      rcases hx with e | e <;> (rw [e]; exact B1.refs)) (by
        have e : (s.withRoots [some id, some id]).heldL = [id, id] := rfl
        rw [e]
        unfold RS.sizes
        simp
        omega) hL
    rw [el, f1]
    have er2 : s2.roots = [some id, some id] := er2
    have hd : s2.dropF ((1 + 1 : Nat) : Int) = (s2.withRoots [some id, none], 0) := by
      unfold RS.dropF RS.hand
      rw [er2]
      rfl
    rw [hd]
    have hid2 : s2.here id := (v2.rt id (by rw [er2]; exact List.mem_cons_self ..)).resolve_left B.nz
    refine ⟨s2.withRoots [some id, none], nd ++ [blobN (splice b p t)], nd.length, rfl, v2.withRoots (fun x hx => by
      simp only [List.mem_cons, Option.some.injEq, List.not_mem_nil, or_false, reduceCtorEq] at hx
      rw [hx]; exact .inr hid2) (by simp), sh2.roots _, hid2, hh2, ?_, .inr ?_, .inr rfl, lm2.trans hL⟩
    · rw [List.getElem?_append_right (Nat.le_refl _), Nat.sub_self]; rfl
    · rw [List.getElem?_append_left hlt]; exact hn
theorem hand_at2 (v : s.Inv) {n i : Nat} (hn : s.roots[n]? = some (some i)) : s.atF ((n + 1 : Nat) : Int) = (s.ref i, 0) := by
  have hl := (List.getElem?_eq_some_iff.1 hn).1
  unfold RS.atF RS.hand
  rw [if_pos ⟨by omega, by omega⟩]
  have e : (((n + 1 : Nat) : Int) - 1).toNat = n := by omega
  rw [e, List.getD_eq_getElem?_getD, hn]
  rfl
theorem splices_ok {sA sB sW : Sl} {A Bt : List Nat} {at_ num : Int} {wl : List Int} (rA : ReadsO h sA.a (A.map bv)) (nA : sA.n = A.length) (bA : Bytes8 A) (lA : A.length < 140737488355328) (oA : ∀ p, sA.a = some p → A ≠ [] → p.block < h.size)
    (rB : ReadsO h sB.a (Bt.map bv)) (nB : sB.n = Bt.length) (bB : Bytes8 Bt) (lB : Bt.length < 140737488355328) (oB : ∀ p, sB.a = some p → Bt ≠ [] → p.block < h.size) (hat : I64 at_)
    (rW : ReadsO h sW.a (wl.map iv)) (nW : sW.n = wl.length) (lW : wl.length < 9223372036854775807) (iW : ∀ n ∈ wl, I64 n) (oW : ∀ p, sW.a = some p → wl ≠ [] → p.block < h.size) (hR : ∀ h', Kept N h h' → R (.bool true) h') :
    CallTo Try.prog 4 #[.agg #[.slice sA.a sA.n sA.c, .slice sB.a sB.n sB.c, .int .i64 at_, .int .i64 num, .slice sW.a sW.n sW.c]] h R := by
  refine f4F_ok ?_
  unfold f4F
  refine Let_mk fun h1 e1 => ?_
  have k1 : Kept N h h1 := e1 ▸ kept_push _ _ _
  have row1 : Row h1 h.size [slV sA, slV sB, .int .i64 at_, .int .i64 num, slV sW] := e1 ▸ row_new h _ 25
  have enb : nb h = ad h.size := rfl
  rw [enb]
  have hz : h.size < h1.size := row_lt row1
  have cR : ∀ {h'}, Row h' h.size [slV sA, slV sB, .int .i64 at_, .int .i64 num, slV sW] → ∀ j, cell h' ((ad h.size).add j) = ([slV sA, slV sB, .int .i64 at_, .int .i64 num, slV sW] : List Value)[j]? := fun r j => by rw [add_ad]; exact cell_row r j
  have cR0 : ∀ {h'}, Row h' h.size [slV sA, slV sB, .int .i64 at_, .int .i64 num, slV sW] → cell h' (ad h.size) = some (slV sA) := fun r => (cell_row r 0).trans rfl
  have skip : ∀ b, b = true → f4K1 (ad h.size) b h1 R := fun b hb => by unfold f4K1; exact Cond_t hb (hR h1 k1)
  have main : A.length ≤ 4096 → Bt ≠ [] → 0 ≤ at_ → at_ ≤ 4096 - (Bt.length : Int) → f4K1 (ad h.size) false h1 R := fun gA gB g0 g1 => by
    obtain ⟨p, rfl⟩ : ∃ p : Nat, at_ = (p : Int) := ⟨at_.toNat, by omega⟩
    have okA : Okb A := ⟨bA, gA⟩
    have hpos : 0 < Bt.length := List.length_pos_iff.2 gB
    have hsum : p + Bt.length ≤ 4096 := by omega
    unfold f4K1
    refine Cond_f rfl (hnew_ok (fun hn => absurd ⟨by omega, by omega⟩ hn) fun h2 hb role G hn rp fr k2 => ⟨_, _, rfl, num_ok ⟨_, rfl, Cond_f rfl (Cond_f rfl ?_)⟩⟩)
    have row2 := kept_row k2 row1 _root_.id
    have e262 : (262144 : Int).toNat = 262144 := rfl
    rw [e262] at rp
    have v0 := RS.new_inv (n := 262144) (by omega) (by omega)
    have x2 : HSt h2 ⟨hb, role, G, []⟩ (RS.new 262144) := ⟨rp, v0⟩
    have outL : ∀ c, c < h1.size → role c = .out := fun c hc => Classical.byContradiction fun hn => by have := fr c hn; omega
    have sh0 : (RS.new 262144).Shd [⟨0, [], []⟩] := ⟨rfl, fun id hid => by unfold RS.here RS.new at hid; simp at hid⟩
    have k02 := k1.trans k2
    have hz2 : h1.size ≤ h2.size := k2.1
    refine ⟨sA, cR0 row2, made_ok (q := ⟨hb, role, G, []⟩) x2 sh0 okA (reads_keptN k02 rA) nA (fun z hz' hne => by have := oA z hz' hne; omega) (by show (0 : Nat) < _; omega) (fun _ hx => by cases hx) (by show (0 : Nat) ≤ _; omega) rfl fun h3 q3 s3 x3 ex3 sh3 rt3 lm3 => ⟨_, rfl, ?_⟩⟩
    have rt3 : s3.roots = [some 1] := rt3
    have row3 := ex3.row row2 (outL _ hz)
    have out3 : ∀ c, c < h1.size → q3.role c = .out := fun c hc => ex3.out (by omega) (outL c hc)
    have keep3 : ∀ {a : Sl} {l : List Value}, ReadsO h a.a l → (∀ z, a.a = some z → l ≠ [] → z.block < h.size) → ReadsO h3 a.a l := fun {a l} r o =>
      reads_kept2 ex3.kept (reads_keptN k02 r) fun z hz' hne => ⟨by have := o z hz' hne; omega, fun hx => hx (outL _ (by have := o z hz' hne; omega))⟩
    have mapne : ∀ {α : Type} {f : α → Value} {l : List α}, l.map f ≠ [] → l ≠ [] := fun hn e => hn (by rw [e]; rfl)
    have hh1 : s3.here 1 := (x3.v.rt 1 (by rw [rt3]; exact List.mem_cons_self ..)).resolve_left (by omega)
    have hn1 : ([(⟨0, [], []⟩ : NodeD)] ++ [blobN A])[1]? = some (blobN A) := rfl
    generalize hnd : [(⟨0, [], []⟩ : NodeD)] ++ [blobN A] = nd3 at sh3 hn1
    have rfree : RS.freeAt (RS.new 262144).roots + 1 = 1 := rfl
    have eh3 : q3.hb = hb := ex3.1
    rw [rfree, ← eh3]
    have hz3 : h2.size ≤ h3.size := ex3.2.1
    refine ⟨sW, (cR row3 4).trans rfl, waste_ok x3 sh3 (keep3 rW fun z hz' hne => oW z hz' (mapne hne)) nW lW iW (fun z hz' hne => ⟨out3 _ (by have := oW z hz' hne; omega), by have := oW z hz' hne; omega⟩) fun h4 q4 s4 nd4 x4 ex4 id4 => ⟨rfl, ?_⟩⟩
    have row4 := ex4.row row3 (out3 _ hz)
    have out4 : ∀ c, c < h1.size → q4.role c = .out := fun c hc => ex4.out (by omega) (out3 c hc)
    have rt4 : s4.roots = [some 1] := id4.rt.trans rt3
    have hh4 : s4.here 1 := (x4.v.rt 1 (by rw [rt4]; exact List.mem_cons_self ..)).resolve_left (by omega)
    have hn4 := id4.gr 1 _ hn1
    have B4 := blob_node x4.v id4.sh hh4 hn4
    have at4 := hand_at2 x4.v (n := 0) (i := 1) (by rw [rt4]; rfl)
    have at4 : s4.atF ((1 : Nat) : Int) = (s4.ref 1, 0) := at4
    rw [← ex4.1]
    refine at_ok x4 ⟨_, rfl, _, (cR row4 2).trans rfl, sB, (cR row4 1).trans rfl, ?_⟩
    rw [at4]
    have ex24 := ex3.trans ex4
    have srcB : Src h4 q4 sB Bt := ⟨reads_kept2 ex4.kept (keep3 rB fun z hz' hne => oB z hz' (mapne hne)) (fun z hz' hne => ⟨by have := oB z hz' (mapne hne); omega, fun hx => hx (out3 _ (by have := oB z hz' (mapne hne); omega))⟩), nB, bB, fun z hz' hne => ⟨out4 _ (by have := oB z hz' hne; omega), by have := oB z hz' hne; have := ex4.2.1; omega⟩⟩
    have srcA : Src h4 q4 sA A := ⟨reads_kept2 ex4.kept (keep3 rA fun z hz' hne => oA z hz' (mapne hne)) (fun z hz' hne => ⟨by have := oA z hz' (mapne hne); omega, fun hx => hx (out3 _ (by have := oA z hz' (mapne hne); omega))⟩), nA, bA, fun z hz' hne => ⟨out4 _ (by have := oA z hz' hne; omega), by have := oA z hz' hne; have := ex4.2.1; omega⟩⟩
    have srcW : ReadsO h4 sW.a (wl.map iv) := reads_kept2 ex4.kept (keep3 rW fun z hz' hne => oW z hz' (mapne hne)) (fun z hz' hne => ⟨by have := oW z hz' (mapne hne); omega, fun hx => hx (out3 _ (by have := oW z hz' (mapne hne); omega))⟩)
    obtain ⟨s5, nd5, j, ew, v5, sh5, hh5, hj5, nj5, ni5, rt5, lm5⟩ := write1 x4.v id4.sh hh4 hn4 okA rt4 (p := p) bB gB hsum (id4.lm.trans lm3)
    refine write_ok x4 id4.sh B4 okA ⟨by omega, by omega⟩ srcB lB (by rw [rt4]; simp) fun h5 q5 x5 ex5 => ⟨_, _, rfl, Cond_f rfl (num_ok ⟨_, rfl, ?_⟩)⟩
    rw [ew] at x5 ⊢
    refine Cond_f rfl ?_
    have row5 := ex5.row row4 (out4 _ hz)
    have hz4 : h3.size ≤ h4.size := ex4.2.1
    have out5 : ∀ c, c < h1.size → q5.role c = .out := fun c hc => ex5.out (by omega) (out4 c hc)
    have at5 : s5.atF ((1 : Nat) : Int) = (s5.ref 1, 0) := by
      rcases rt5 with e | e <;> exact hand_at2 v5 (n := 0) (i := 1) (by rw [e]; rfl)
    rw [← ex5.1]
    refine at_ok x5 ⟨_, rfl, ?_⟩
    rw [at5]
    have hrj := RS.ref_lt v5 (.inr hj5)
    have eg := rootF_good v5 (id := j) (.inr hj5)
    have rl5 : s5.roots.length < 100000000 := by rcases rt5 with e | e <;> (rw [e]; simp)
    have eg2 : s5.rootF (s5.ref j) = (s5.withRoots [some 1, some j], 2, 0) := by
      rw [eg]
      rcases rt5 with e | e <;> (rw [e]; rfl)
    refine c_root x5 rl5 hrj fun h6 q6 x6 ex6 => ⟨_, _, rfl, ?_⟩
    rw [eg2] at x6 ⊢
    have row6 := ex6.row row5 (out5 _ hz)
    have hz5 : h4.size ≤ h5.size := ex5.2.1
    have hz6 : h5.size ≤ h6.size := ex6.2.1
    have out6 : ∀ c, c < h1.size → q6.role c = .out := fun c hc => ex6.out (by omega) (out5 c hc)
    have sh6 : (s5.withRoots [some 1, some j]).Shd nd5 := sh5.roots _
    have ex46 := ex5.trans ex6
    have rW6 : ReadsO h6 sW.a (wl.map iv) := reads_kept2 ex46.kept srcW fun z hz' hne => ⟨by have := oW z hz' (mapne hne); omega, fun hx => hx (out4 _ (by have := oW z hz' (mapne hne); omega))⟩
    rw [← ex6.1]
    refine ⟨sW, (cR row6 4).trans rfl, waste_ok x6 sh6 rW6 nW lW iW (fun z hz' hne => ⟨out6 _ (by have := oW z hz' hne; omega), by have := oW z hz' hne; omega⟩) fun h7 q7 s7 nd7 x7 ex7 id7 => ⟨rfl, ?_⟩⟩
    have rt7 : s7.roots = [some 1, some j] := id7.rt
    have row7 := ex7.row row6 (out6 _ hz)
    have hz7 : h6.size ≤ h7.size := ex7.2.1
    have j0 : j ≠ 0 := fun e => by
      rw [e] at hj5
      rcases hj5 with hj | hj
      · have := (v5.sm 0 hj).1; omega
      · exact hj.1 rfl
    have hh7 : s7.here 1 := (x7.v.rt 1 (by rw [rt7]; exact List.mem_cons_self ..)).resolve_left (by omega)
    have hj7 : s7.here j := (x7.v.rt j (by rw [rt7]; simp)).resolve_left j0
    have Bj := blob_node x7.v id7.sh hj7 (id7.gr j _ nj5)
    have okS := okb_splice okA bB hsum
    have atx : s7.atF ((1 : Nat) : Int) = (s7.ref 1, 0) := hand_at2 x7.v (n := 0) (i := 1) (by rw [rt7]; rfl)
    have aty : s7.atF ((2 : Nat) : Int) = (s7.ref j, 0) := hand_at2 x7.v (n := 1) (i := j) (by rw [rt7]; rfl)
    have src7 : Src h7 q7 sA A := srcA.ex ((ex46).trans ex7)
    have src7B : Src h7 q7 sB Bt := srcB.ex ((ex46).trans ex7)
    rw [← ex7.1]
    refine at_ok x7 ⟨_, rfl, ?_⟩
    rw [aty]
    refine read_ok x7 Bj okS fun c h8 rowc hc k8 => ⟨⟨_, _, _⟩, _, rfl, ?_⟩
    have x8 := x7.keepN k8
    refine at_ok x8 ⟨_, rfl, ?_⟩
    rw [aty]
    refine len_ok x8 Bj okS ⟨_, _, rfl, num_ok ⟨_, rfl, Cond_f rfl (num_ok ⟨_, rfl, Cond_f rfl (num_ok ⟨_, rfl, Cond_f rfl (Cond_f (bne_self_eq_false _) ?_)⟩)⟩)⟩⟩
    have row8 := kept_row k8 row7 _root_.id
    have rA8 : ReadsO h8 sA.a (A.map bv) := reads_keptN k8 src7.rd
    have rB8 : ReadsO h8 sB.a (Bt.map bv) := reads_keptN k8 src7B.rd
    have hSl := splice_len A p Bt
    refine ⟨sA, cR0 row8, _, (cR row8 2).trans rfl, sB, (cR row8 1).trans rfl, ?_⟩
    have em : (if ((sA.n : Nat) : Int) < IntKind.wrap .i64 (((p : Nat) : Int) + ((sB.n : Nat) : Int)) then IntKind.wrap .i64 (((p : Nat) : Int) + ((sB.n : Nat) : Int)) else ((sA.n : Nat) : Int)) = (((splice A p Bt).length : Nat) : Int) := by
      rw [wrap_i64' (by omega) (by omega), hSl]
      split <;> omega
    rw [em]
    refine Cond_f (bne_self_eq_false _) ?_
    have kEnd : Kept N h h8 := by
      have hk : Kept N h1 h8 := ⟨by have := k8.1; omega, fun c hc _ => by
        have hA : h8[c]? = h7[c]? := k8.2 c (by omega) _root_.id
        have hB : h7[c]? = h6[c]? := (ex7.2.2 c (by omega) (out6 c hc)).2
        have hC : h6[c]? = h5[c]? := (ex6.2.2 c (by omega) (out5 c hc)).2
        have hD : h5[c]? = h4[c]? := (ex5.2.2 c (by omega) (out4 c hc)).2
        have hE : h4[c]? = h3[c]? := (ex4.2.2 c (by omega) (out3 c hc)).2
        have hF : h3[c]? = h2[c]? := (ex3.2.2 c (by omega) (outL c hc)).2
        have hG : h2[c]? = h1[c]? := k2.2 c hc _root_.id
        rw [hA, hB, hC, hD, hE, hF, hG]⟩
      exact k1.trans hk
    have rd8 := row_reads rowc
    refine f4L1_rule (fun m s1 s3 s5' s8 s10 s14 h' => ∃ i : Nat, i ≤ (splice A p Bt).length ∧ m = (splice A p Bt).length - i ∧ s1 = ad h.size ∧ s3 = some (ad q7.hb) ∧ s5' = ((1 : Nat) : Int) ∧ s8 = (((s5.ref j : Nat) : Int) == ((s5.ref 1 : Nat) : Int)) ∧ s10 = ⟨some (ad c), (splice A p Bt).length, (splice A p Bt).length⟩ ∧ s14 = (i : Int) ∧ h8 = h') (splice A p Bt).length
      ⟨0, Nat.zero_le _, rfl, rfl, rfl, rfl, rfl, rfl, rfl, rfl⟩ ?_
    rintro m s1 s3 s5' s8 s10 s14 g h9 ⟨i, hi, rfl, rfl, rfl, rfl, rfl, rfl, rfl, rfl⟩
    unfold f4L1
    have cell_of : ∀ {sl : Sl} {l : List Nat} {k : Nat}, ReadsO h8 sl.a (l.map bv) → k < l.length → ∃ pa, sl.a = some pa ∧ cell h8 (pa.add k) = some (.int .u8 ((l.getD k 0 : Nat) : Int)) := fun {sl l k} r hk => by
      obtain ⟨pa, hpa, hc⟩ := readsO_get r (i := k) (v := bv (l.getD k 0)) (by rw [List.getElem?_map, List.getD_eq_getElem?_getD, List.getElem?_eq_getElem hk]; rfl)
      exact ⟨pa, hpa, hc⟩
    refine Cond_dec (fun hlt => ?_) fun hge => ?_
    · have hil : i < (splice A p Bt).length := by have : ((i : Nat) : Int) < (((splice A p Bt).length : Nat) : Int) := hlt; omega
      obtain ⟨pc, hpc, hcc⟩ := cell_of (sl := ⟨some (ad c), (splice A p Bt).length, (splice A p Bt).length⟩) rd8 hil
      have hsp := splice_at A p Bt i
      have nxt : ∃ m, m < (splice A p Bt).length - i ∧ ∃ i' : Nat, i' ≤ (splice A p Bt).length ∧ m = (splice A p Bt).length - i' ∧ ad h.size = ad h.size ∧ some (ad q7.hb) = some (ad q7.hb) ∧ ((1 : Nat) : Int) = ((1 : Nat) : Int) ∧ (((s5.ref j : Nat) : Int) == ((s5.ref 1 : Nat) : Int)) = (((s5.ref j : Nat) : Int) == ((s5.ref 1 : Nat) : Int)) ∧
          (⟨some (ad c), (splice A p Bt).length, (splice A p Bt).length⟩ : Sl) = ⟨some (ad c), (splice A p Bt).length, (splice A p Bt).length⟩ ∧ IntKind.wrap .i64 ((i : Int) + 1) = (i' : Int) ∧ h8 = h8 :=
        ⟨(splice A p Bt).length - (i + 1), by omega, i + 1, hil, rfl, rfl, rfl, rfl, rfl, rfl, by rw [wrap_i64' (by omega) (by omega)]; rfl, rfl⟩
      have fin : ∀ w : Nat, (splice A p Bt).getD i 0 = w → (0 ≤ (i : Int) ∧ (i : Int) < (((splice A p Bt).length : Nat) : Int)) ∧ PtrOk (some (ad c)) fun p190 => ∃ t191 : Int, cell h8 (p190.add ((i : Int).toNat * 1)) = some (.int .u8 t191) ∧ Cond (t191 != ((w : Nat) : Int)) (R (.bool false) h8) (∃ m, m < (splice A p Bt).length - i ∧ ∃ i' : Nat, i' ≤ (splice A p Bt).length ∧ m = (splice A p Bt).length - i' ∧ ad h.size = ad h.size ∧ some (ad q7.hb) = some (ad q7.hb) ∧ ((1 : Nat) : Int) = ((1 : Nat) : Int) ∧ (((s5.ref j : Nat) : Int) == ((s5.ref 1 : Nat) : Int)) = (((s5.ref j : Nat) : Int) == ((s5.ref 1 : Nat) : Int)) ∧
          (⟨some (ad c), (splice A p Bt).length, (splice A p Bt).length⟩ : Sl) = ⟨some (ad c), (splice A p Bt).length, (splice A p Bt).length⟩ ∧ IntKind.wrap .i64 ((i : Int) + 1) = (i' : Int) ∧ h8 = h8) := fun w hw =>
        ⟨⟨by omega, by omega⟩, PtrOk_of hpc ⟨_, by rw [Int.toNat_natCast, Nat.mul_one]; exact hcc, Cond_f (by rw [hw]; exact bne_self_eq_false _) nxt⟩⟩
      have tailA : ∃ t180 : Sl, cell h8 (ad h.size) = some (.slice t180.a t180.n t180.c) ∧ (¬ (p ≤ i ∧ i < p + Bt.length) → t180 = sA) := ⟨sA, cR0 row8, fun _ => rfl⟩
      by_cases hc1 : p ≤ i
      · by_cases hc2 : i < p + Bt.length
        · rw [if_pos ⟨hc1, hc2⟩] at hsp
          obtain ⟨pb, hpb, hcb⟩ := cell_of (k := i - p) rB8 (by omega)
          refine ⟨_, (cR row8 2).trans rfl, Cond_t (decide_eq_true (by omega)) ⟨_, (cR row8 2).trans rfl, sB, (cR row8 1).trans rfl, Cond_t (decide_eq_true (by rw [wrap_i64' (by omega) (by omega)]; omega)) ⟨sB, (cR row8 1).trans rfl, _, (cR row8 2).trans rfl, ?_⟩⟩⟩
          have ei : IntKind.wrap .i64 ((i : Int) - ((p : Nat) : Int)) = ((i - p : Nat) : Int) := by rw [wrap_i64' (by omega) (by omega)]; omega
          rw [ei]
          exact ⟨⟨by omega, by omega⟩, PtrOk_of hpb ⟨_, by rw [Int.toNat_natCast, Nat.mul_one]; exact hcb, fin _ hsp⟩⟩
        · rw [if_neg (by omega)] at hsp
          refine ⟨_, (cR row8 2).trans rfl, Cond_t (decide_eq_true (by omega)) ⟨_, (cR row8 2).trans rfl, sB, (cR row8 1).trans rfl, Cond_f (decide_eq_false (by rw [wrap_i64' (by omega) (by omega)]; omega)) ⟨sA, cR0 row8, Cond_dec (fun ha => ?_) fun ha => ?_⟩⟩⟩
          · obtain ⟨pa, hpa, hca⟩ := cell_of (k := i) rA8 (by omega)
            exact ⟨sA, cR0 row8, ⟨by omega, ha⟩, PtrOk_of hpa ⟨_, by rw [Int.toNat_natCast, Nat.mul_one]; exact hca, fin _ hsp⟩⟩
          · rw [List.getD_eq_getElem?_getD (l := A), List.getElem?_eq_none (by omega)] at hsp
            exact fin 0 hsp
      · rw [if_neg (by omega)] at hsp
        refine ⟨_, (cR row8 2).trans rfl, Cond_f (decide_eq_false (by omega)) ⟨sA, cR0 row8, Cond_dec (fun ha => ?_) fun ha => ?_⟩⟩
        · obtain ⟨pa, hpa, hca⟩ := cell_of (k := i) rA8 (by omega)
          exact ⟨sA, cR0 row8, ⟨by omega, ha⟩, PtrOk_of hpa ⟨_, by rw [Int.toNat_natCast, Nat.mul_one]; exact hca, fin _ hsp⟩⟩
        · rw [List.getD_eq_getElem?_getD (l := A), List.getElem?_eq_none (by omega)] at hsp
          exact fin 0 hsp
    · refine at_ok x8 ⟨_, rfl, ?_⟩
      rw [atx]
      by_cases hj1 : j = 1
      · subst hj1
        refine read_ok x8 Bj okS fun c2 h10 rowc2 hc2 k10 => ⟨⟨_, _, _⟩, _, rfl, num_ok ⟨_, rfl, Cond_t rfl (Cond_t (beq_self_eq_true _) ?_)⟩⟩
        exact eq_ok (l := splice A p Bt) (row_reads rowc2) (reads_keptN k10 rd8) rfl rfl (by omega) ⟨_, rfl, Cond_t rfl (hR _ (kEnd.trans k10))⟩
      · have hnA := ni5.resolve_left hj1
        have B1 := blob_node x7.v id7.sh hh7 (id7.gr 1 _ hnA)
        have hne : (((s5.ref j : Nat) : Int) == ((s5.ref 1 : Nat) : Int)) = false := by
          rw [beq_eq_false_iff_ne]
          intro e
          have q1 := RS.ident_ref v5 (id := j) (.inr hj5)
          have q2 := RS.ident_ref v5 (id := 1) (.inr hh5)
          rw [show s5.ref j = s5.ref 1 by omega, q2] at q1
          exact hj1 q1.symm
        rw [hne]
        refine read_ok x8 B1 okA fun c2 h10 rowc2 hc2 k10 => ⟨⟨_, _, _⟩, _, rfl, num_ok ⟨_, rfl, Cond_t rfl (Cond_f rfl (Cond_t rfl ⟨sA, cR0 (kept_row k10 row8 _root_.id), ?_⟩))⟩⟩
        exact eq_ok (l := A) (row_reads rowc2) (reads_keptN k10 rA8) rfl nA (by omega) ⟨_, rfl, hR _ (kEnd.trans k10)⟩
  refine ⟨sA, cR0 row1, Cond_dec (fun _ => skip _ rfl) fun c1 => ⟨sB, (cR row1 1).trans rfl, Cond_b (fun _ => skip _ rfl) fun c2 => ⟨_, (cR row1 2).trans rfl, Cond_dec (fun _ => skip _ rfl) fun c3 => ⟨_, (cR row1 2).trans rfl, sB, (cR row1 1).trans rfl, ?_⟩⟩⟩⟩
  by_cases hb4 : ((sB.n : Nat) : Int) > 4096
  · refine Cond_b (fun _ => skip _ rfl) fun _ => ⟨sB, (cR row1 1).trans rfl, skip _ (decide_eq_true hb4)⟩
  · rw [wrap_i64' (x := (4096 : Int) - _) (by omega) (by omega)]
    refine Cond_dec (fun _ => skip _ rfl) fun c4 => ⟨sB, (cR row1 1).trans rfl, ?_⟩
    rw [decide_eq_false hb4]
    refine main (by omega) (fun e => ?_) (by omega) (by omega)
    rw [nB, e] at c2
    cases c2
end
end Go.Ev
