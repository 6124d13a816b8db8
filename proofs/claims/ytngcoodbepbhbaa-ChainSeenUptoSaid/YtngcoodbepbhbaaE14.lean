/- Alloc, Stats: as the document's heap / Stats: as the document's heap / How long the heap's lists are behind each change / The shadow's graph beside the plain data RS: what each change does to both / Fields of an object by its ref / Alloc finds room just where the live words say so / The live large objects' words, by the walk's list and by the slots / Bytes in words: a blob's words, and what writing does to them. No condition but that these are ones. -/
import Derived.Test.YtngcoodbepbhbaaE13
import Derived.Test.YtngcoodbepbhbaaE7
set_option linter.all false
set_option maxRecDepth 100000
namespace Go.Ev
open Go.Proofs
section
variable {h:Hp} {hb:Nat} {role:Nat→Role} {m:MH} {G:Geo} {s:RS} {sp:List AObj}
theorem tdiv2 {x:Int} (h1:-100000000 ≤ x) (h2:x ≤ 100000000):IntKind.wrap .i64 (Int.tdiv x 2)=Int.tdiv x 2:=by
 apply wrap_ar
 ·rcases Int.lt_or_le x 0 with h | h
  ·have:Int.tdiv x 2=- ((-x) / 2):=by
    rw [← Int.tdiv_eq_ediv_of_nonneg (by omega),Int.neg_tdiv]; omega
   omega
  ·rw [Int.tdiv_eq_ediv_of_nonneg h]; omega
 ·rcases Int.lt_or_le x 0 with h | h
  ·have:Int.tdiv x 2=- ((-x) / 2):=by
    rw [← Int.tdiv_eq_ediv_of_nonneg (by omega),Int.neg_tdiv]; omega
   omega
  ·rw [Int.tdiv_eq_ediv_of_nonneg h]; omega
theorem RS.become_fields (s:RS) (n:Nat):(s.become n).limit=s.limit∧(s.become n).used=s.used∧(s.become n).large=s.large∧(s.become n).kept=s.kept∧(s.become n).slots=s.slots∧(s.become n).half=n∧(s.become n).objs=s.objs∧(s.become n).small=s.small∧(s.become n).roots=s.roots:=by
 unfold RS.become
 split
 ·rename_i h; exact ⟨rfl,rfl,rfl,rfl,rfl,h.symm,rfl,rfl,rfl⟩
 ·exact ⟨rfl,rfl,rfl,rfl,rfl,rfl,rfl,rfl,rfl⟩
theorem RS.fit_fields (s:RS) (n:Nat):(s.fit n).limit=s.limit∧(s.fit n).used=s.used∧(s.fit n).large=s.large∧(s.fit n).kept=s.kept∧(s.fit n).slots=s.slots∧(s.fit n).objs=s.objs∧(s.fit n).small=s.small∧(s.fit n).roots=s.roots:=by
 have hb:=fun n=>s.become_fields n
 unfold RS.fit
 split
 ·split
  ·exact ⟨(hb _).1,(hb _).2.1,(hb _).2.2.1,(hb _).2.2.2.1,(hb _).2.2.2.2.1,(hb _).2.2.2.2.2.2.1,(hb _).2.2.2.2.2.2.2.1,(hb _).2.2.2.2.2.2.2.2⟩
  ·exact ⟨rfl,rfl,rfl,rfl,rfl,rfl,rfl,rfl⟩
 ·split
  ·exact ⟨(hb _).1,(hb _).2.1,(hb _).2.2.1,(hb _).2.2.2.1,(hb _).2.2.2.2.1,(hb _).2.2.2.2.2.2.1,(hb _).2.2.2.2.2.2.2.1,(hb _).2.2.2.2.2.2.2.2⟩
  ·exact ⟨rfl,rfl,rfl,rfl,rfl,rfl,rfl,rfl⟩
theorem RS.collect_limit (s:RS):s.collect.limit=s.limit:=(s.collection.fit_fields 0).1
/-- What follows in begin behind the collection. -/
theorem begin_rest (v:s.Inv) (rp:HRep h hb role (s.words sp) G) {k r w:Nat} (h1:1 ≤ k) (h2:k ≤ 255) (h3:r ≤ 1048576) (h4:w ≤ 1048576) (h5:64 < 1 + r + w) {R:Value→Hp→Prop}
  (hR:∀ h' role' G' sp',HRep h' hb role' ((s.block2 k r w).1.words sp') G'→ExtO h role h' role'→R (.tuple #[uv (s.block2 k r w).2.1,.int .i64 (s.block2 k r w).2.2]) h') (hc:s.limit < 2 * s.half + s.large + (2 + r + w)) :
  (IntKind.wrap .i64 ((IntKind.wrap .i64 (((s.limit:Nat):Int) - ((s.large:Nat):Int))) - ((2 + r + w:Nat):Int)) < 0→R (.tuple #[.int .u64 0,.int .i64 31]) h) ∧
  (IntKind.wrap .i64 (Int.tdiv (IntKind.wrap .i64 ((IntKind.wrap .i64 (((s.limit:Nat):Int) - ((s.large:Nat):Int))) - ((2 + r + w:Nat):Int))) (2:Int)) < 64→R (.tuple #[.int .u64 0,.int .i64 31]) h) ∧
  (IntKind.wrap .i64 (Int.tdiv (IntKind.wrap .i64 ((IntKind.wrap .i64 (((s.limit:Nat):Int) - ((s.large:Nat):Int))) - ((2 + r + w:Nat):Int))) (2:Int)) < ((s.used:Nat):Int)→R (.tuple #[.int .u64 0,.int .i64 31]) h) ∧
  (¬ IntKind.wrap .i64 ((IntKind.wrap .i64 (((s.limit:Nat):Int) - ((s.large:Nat):Int))) - ((2 + r + w:Nat):Int)) < 0 →
   ¬ IntKind.wrap .i64 (Int.tdiv (IntKind.wrap .i64 ((IntKind.wrap .i64 (((s.limit:Nat):Int) - ((s.large:Nat):Int))) - ((2 + r + w:Nat):Int))) (2:Int)) < 64 →
   ¬ IntKind.wrap .i64 (Int.tdiv (IntKind.wrap .i64 ((IntKind.wrap .i64 (((s.limit:Nat):Int) - ((s.large:Nat):Int))) - ((2 + r + w:Nat):Int))) (2:Int)) < ((s.used:Nat):Int) →
   ∃ n:Nat,IntKind.wrap .i64 (Int.tdiv (IntKind.wrap .i64 ((IntKind.wrap .i64 (((s.limit:Nat):Int) - ((s.large:Nat):Int))) - ((2 + r + w:Nat):Int))) (2:Int))=(n:Int)∧64 ≤ n∧2 * n + s.large + (2 + r + w) ≤ s.limit∧s.used ≤ n ∧
    s.block2 k r w=((s.become n).addBig k r w,top + RS.freeSlot (s.become n).slots,0)):=by
 have i2:=v.h2; have i4:=v.l2; have i6:=v.h1; have i7:=v.u2
 have e1:IntKind.wrap .i64 (((s.limit:Nat):Int) - ((s.large:Nat):Int))=((s.limit:Nat):Int) - ((s.large:Nat):Int):=wrap_ar (by omega) (by omega)
 have e2:IntKind.wrap .i64 (((s.limit:Nat):Int) - ((s.large:Nat):Int) - ((2 + r + w:Nat):Int))=((s.limit:Nat):Int) - ((s.large:Nat):Int) - ((2 + r + w:Nat):Int):=wrap_ar (by omega) (by omega)
 rw [e1,e2,tdiv2 (by omega) (by omega)]
 have full:(s.limit < s.large + (2 + r + w) ∨ (s.limit - s.large - (2 + r + w)) / 2 < 64 ∨ (s.limit - s.large - (2 + r + w)) / 2 < s.used)→R (.tuple #[.int .u64 0,.int .i64 31]) h:=fun hf=>by
  have e:s.block2 k r w=(s,0,31):=by unfold RS.block2; rw [if_pos hc,if_pos hf]
  rw [e] at hR
  exact hR h role G sp rp (ExtO.refl h role)
 have up:0 ≤ ((s.limit:Nat):Int) - ((s.large:Nat):Int) - ((2 + r + w:Nat):Int)→Int.tdiv (((s.limit:Nat):Int) - ((s.large:Nat):Int) - ((2 + r + w:Nat):Int)) 2=(((s.limit - s.large - (2 + r + w)) / 2:Nat):Int):=fun h0=>by
  rw [Int.tdiv_eq_ediv_of_nonneg h0]; omega
 refine ⟨fun h0=>full (.inl (by omega)),fun h0=>?_,fun h0=>?_,fun c1 c2 c3=>?_⟩
 ·by_cases hn:0 ≤ ((s.limit:Nat):Int) - ((s.large:Nat):Int) - ((2 + r + w:Nat):Int)
  ·rw [up hn] at h0; exact full (.inr (.inl (by omega)))
  ·exact full (.inl (by omega))
 ·by_cases hn:0 ≤ ((s.limit:Nat):Int) - ((s.large:Nat):Int) - ((2 + r + w:Nat):Int)
  ·rw [up hn] at h0; exact full (.inr (.inr (by omega)))
  ·exact full (.inl (by omega))
 ·rw [up (by omega)] at c2 c3 ⊢
  refine ⟨_,rfl,by omega,by omega,by omega,?_⟩
  unfold RS.block2
  rw [if_pos hc,if_neg (by omega),(s.become_fields _).2.2.2.2.1]
theorem begin_mid (v:s.Inv) (rp:HRep h hb role (s.words sp) G) {k r w:Nat} (h1:1 ≤ k) (h2:k ≤ 255) (h3:r ≤ 1048576) (h4:w ≤ 1048576) (h5:64 < 1 + r + w) {R:Value→Hp→Prop}
  (hR:∀ h' role' G' sp',HRep h' hb role' ((s.block2 k r w).1.words sp') G'→ExtO h role h' role'→R (.tuple #[uv (s.block2 k r w).2.1,.int .i64 (s.block2 k r w).2.2]) h') {x65:Bool} (hx:x65=false):f64K1 (some (ad hb)) (k:Nat) (r:Nat) (w:Nat) (2 + r + w:Nat) x65 h R:=by
 have i2:=v.h2; have i4:=v.l2; have i6:=v.h1; have i7:=v.u2
 subst hx
 unfold f64K1
 refine Cond_f rfl ?_
 have c1:cell h ((ad hb).add 1)=some (.pointer (some (ad G.Lh.pb))):=(rp.c 1).trans rfl
 have c0:cell h (ad hb)=some (.int .i64 (s.limit:Nat)):=rp.c0
 have c6:cell h ((ad hb).add 6)=some (.int .i64 (s.large:Nat)):=(rp.c 6).trans rfl
 obtain ⟨wch,fch,fsh,ra⟩:=rp.half
 have hz:(s.words sp).hz=s.half:=rfl
 have hu:=RS.used_words v sp
 refine PtrOk_mk ⟨_,c1,_,asize_ok ra ⟨rfl,rfl⟩,PtrOk_mk ⟨_,c6,PtrOk_mk ⟨_,c0,?_⟩⟩⟩
 rw [hz,wrap_ar (x:=(2:Int) * ((s.half:Nat):Int)) (by omega) (by omega),wrap_ar (x:=(2:Int) * ((s.half:Nat):Int) + ((s.large:Nat):Int)) (by omega) (by omega),wrap_ar (x:=(2:Int) * ((s.half:Nat):Int) + ((s.large:Nat):Int) + ((2 + r + w:Nat):Int)) (by omega) (by omega)]
 refine Cond_dec (fun hc=>?_) fun hc=>?_
 ·have hc:s.limit < 2 * s.half + s.large + (2 + r + w):=by omega
  obtain ⟨q1,q2,q3,q4⟩:=begin_rest v rp h1 h2 h3 h4 h5 hR hc
  refine PtrOk_mk ⟨_,c0,PtrOk_mk ⟨_,c6,by omega,PtrOk_mk ⟨_,c0,PtrOk_mk ⟨_,c6,?_⟩⟩⟩⟩
  refine Cond_dec (fun d1=>?_) fun d1=>Cond_dec (fun d2=>?_) fun d2=>PtrOk_mk ⟨_,c1,_,aused_ok ra ⟨rfl,rfl⟩,?_⟩
  ·unfold f64K2; exact Cond_t rfl (q1 d1)
  ·unfold f64K2; exact Cond_t rfl (q2 d2)
  ·rw [hu]
   by_cases d3:IntKind.wrap .i64 (Int.tdiv (IntKind.wrap .i64 ((IntKind.wrap .i64 (((s.limit:Nat):Int) - ((s.large:Nat):Int))) - ((2 + r + w:Nat):Int))) (2:Int)) < ((s.used:Nat):Int)
   ·rw [decide_eq_true d3]
    unfold f64K2; exact Cond_t rfl (q3 d3)
   ·rw [decide_eq_false d3]
    obtain ⟨n,e0,e1,e2,e3,e4⟩:=q4 d1 d2 d3
    unfold f64K2
    rw [e0]
    refine Cond_f rfl (become_ok v rp (by omega) (by omega) e3 fun h7 role7 G7 sp7 rp7 x7=>⟨rfl,?_⟩)
    obtain ⟨b1,b2,b3,b4,b5,b6,b7,b8,b9⟩:=s.become_fields n
    have v7:=v.become (n:=n) e1 (by omega) e3
    rw [e4] at hR
    exact begin_tail v7 rp7 h1 h2 h3 h4 h5 (by rw [b6,b3,b1]; omega) fun h8 role8 G8 rp8 x8=>hR h8 role8 G8 sp7 rp8 (x7.trans x8)
 ·have hc:¬ s.limit < 2 * s.half + s.large + (2 + r + w):=by omega
  have e:s.block2 k r w=(s.addBig k r w,top + RS.freeSlot s.slots,0):=by unfold RS.block2; rw [if_neg hc]
  rw [e] at hR
  exact begin_tail v rp h1 h2 h3 h4 h5 (by omega) fun h8 role8 G8 rp8 x8=>hR h8 role8 G8 sp rp8 x8
/-- K1 ahead of a collection is the collection and K1 behind it. -/
theorem begin_col (v:s.Inv) (rp:HRep h hb role (s.words sp) G) {k r w:Nat} (h1:1 ≤ k) (h2:k ≤ 255) (h3:r ≤ 1048576) (h4:w ≤ 1048576) (h5:64 < 1 + r + w) {R:Value→Hp→Prop}
  (hR:∀ h' role' G' sp',HRep h' hb role' ((s.collect.block2 k r w).1.words sp') G'→ExtO h role h' role'→R (.tuple #[uv (s.collect.block2 k r w).2.1,.int .i64 (s.collect.block2 k r w).2.2]) h'):f64K1 (some (ad hb)) (k:Nat) (r:Nat) (w:Nat) (2 + r + w:Nat) true h R:=by
 unfold f64K1
 refine Cond_t rfl (collect_ok v rp fun ha rolea Ga spa rpa xa=>⟨rfl,fit_ok v.collection rpa (k:=0) (by omega) fun hc rolec Gc spc rpc xc=>⟨rfl,?_⟩⟩)
 have:=begin_mid (h:=hc) (hb:=hb) (role:=rolec) (s:=s.collect) (sp:=spc) (G:=Gc) v.collect rpc h1 h2 h3 h4 h5 (R:=R) (fun h' role' G' sp' rp' x'=>hR h' role' G' sp' rp' ((xa.trans xc).trans x')) (x65:=false) rfl
 unfold f64K1 at this
 exact this
theorem begin_ok (v:s.Inv) (rp:HRep h hb role (s.words sp) G) {k r w:Nat} (h1:1 ≤ k) (h2:k ≤ 255) (h3:r ≤ 1048576) (h4:w ≤ 1048576) (h5:64 < 1 + r + w) {R:Value→Hp→Prop}
  (hR:∀ h' role' G' sp',HRep h' hb role' ((s.block k r w).1.words sp') G'→ExtO h role h' role'→R (.tuple #[uv (s.block k r w).2.1,.int .i64 (s.block k r w).2.2]) h') :
  CallTo Try.prog 64 #[.pointer (some (ad hb)),.int .i64 (k:Nat),.int .i64 (r:Nat),.int .i64 (w:Nat),.int .i64 (1 + r + w:Nat)] h R:=by
 have i2:=v.h2; have i4:=v.l2; have i6:=v.h1; have i7:=v.u2; have i8:=v.sn; have i9:=v.kp
 refine f64F_ok ?_
 unfold f64F
 have c1:cell h ((ad hb).add 1)=some (.pointer (some (ad G.Lh.pb))):=(rp.c 1).trans rfl
 have c0:cell h (ad hb)=some (.int .i64 (s.limit:Nat)):=rp.c0
 have c6:cell h ((ad hb).add 6)=some (.int .i64 (s.large:Nat)):=(rp.c 6).trans rfl
 have c7:cell h ((ad hb).add 7)=some (.int .i64 (s.since:Nat)):=(rp.c 7).trans rfl
 have c8:cell h ((ad hb).add 8)=some (.int .i64 (s.kept:Nat)):=(rp.c 8).trans rfl
 obtain ⟨wch,fch,fsh,ra⟩:=rp.half
 have hz:(s.words sp).hz=s.half:=rfl
 have eb:IntKind.wrap .i64 (((1 + r + w:Nat):Int) + (1:Int))=((2 + r + w:Nat):Int):=by rw [wrap_ar (by omega) (by omega)]; omega
 rw [eb]
 unfold RS.block RS.block1 at hR
 refine PtrOk_mk ⟨_,c0,Cond_dec (fun hc=>?_) fun hc=>?_⟩
 ·rw [if_pos (by omega)] at hR
  refine collect_ok v rp fun ha rolea Ga spa rpa xa=>⟨rfl,fit_ok v.collection rpa (k:=0) (by omega) fun hc' rolec Gc spc rpc xc=>⟨rfl,?_⟩⟩
  have vc:=v.collect
  have hl:=s.collect_limit
  have q2:=vc.h2
  have e:s.collect.block2 k r w=(s.collect,0,31):=by unfold RS.block2; rw [if_pos (by omega),if_pos (by omega)]
  rw [e] at hR
  exact hR hc' rolec Gc spc rpc (xa.trans xc)
 ·refine PtrOk_mk ⟨_,c1,_,asize_ok ra ⟨rfl,rfl⟩,PtrOk_mk ⟨_,c6,PtrOk_mk ⟨_,c0,?_⟩⟩⟩
  rw [hz,wrap_ar (x:=(2:Int) * ((s.half:Nat):Int)) (by omega) (by omega),wrap_ar (x:=(2:Int) * ((s.half:Nat):Int) + ((s.large:Nat):Int)) (by omega) (by omega),wrap_ar (x:=(2:Int) * ((s.half:Nat):Int) + ((s.large:Nat):Int) + ((2 + r + w:Nat):Int)) (by omega) (by omega)]
  refine Cond_dec (fun hd=>?_) fun hd=>?_
  ·rw [if_pos (by omega)] at hR
   exact begin_col v rp h1 h2 h3 h4 h5 hR
  ·refine PtrOk_mk ⟨_,c7,PtrOk_mk ⟨_,c1,_,asize_ok ra ⟨rfl,rfl⟩,PtrOk_mk ⟨_,c8,?_⟩⟩⟩
   rw [hz,wrap_ar (x:=((s.since:Nat):Int) + ((2 + r + w:Nat):Int)) (by omega) (by omega),wrap_ar (x:=((s.half:Nat):Int) + ((s.kept:Nat):Int)) (by omega) (by omega)]
   by_cases he:((s.since:Nat):Int) + ((2 + r + w:Nat):Int) > ((s.half:Nat):Int) + ((s.kept:Nat):Int)
   ·rw [decide_eq_true he]
    rw [if_pos (by omega)] at hR
    exact begin_col v rp h1 h2 h3 h4 h5 hR
   ·rw [decide_eq_false he]
    rw [if_neg (by omega)] at hR
    exact begin_mid v rp h1 h2 h3 h4 h5 hR rfl
/-- A small object behind the others. -/
theorem asmall (v:s.Inv) (rp:HRep h hb role (s.words sp) G) {k r w:Nat} (h1:1 ≤ k) (h2:k ≤ 255) (h3:r ≤ 1048576) (h4:w ≤ 1048576) {R:Value→Hp→Prop}
  (hR:∀ h' role' G' sp',HRep h' hb role' ((s.small2 k r w).1.words sp') G'→ExtO h role h' role'→R (.tuple #[uv (s.small2 k r w).2.1,.int .i64 (s.small2 k r w).2.2]) h') :
  PtrOk (some (ad hb)) fun p69=>∃ t71:Option Addr,cell h (p69.add 1)=some (.pointer t71)∧CallTo Try.prog 65 #[.pointer t71,.int .i64 (k:Nat),.int .i64 (r:Nat),.int .i64 (w:Nat)] h fun r h7=>∃ t75_0:Int,∃ t75_1:Int,r=.tuple #[.int .i64 t75_0,.int .i64 t75_1]∧Cond (t75_1 != (0:Int)) (R (.tuple #[.int .u64 0,.int .i64 31]:Value) h7) (R ((.tuple #[.int .u64 (IntKind.wrap .u64 t75_0),.int .i64 0]:Value)) h7):=by
 have i2:=v.h2; have i4:=v.l2; have i6:=v.h1; have i7:=v.u2
 have c1:cell h ((ad hb).add 1)=some (.pointer (some (ad G.Lh.pb))):=(rp.c 1).trans rfl
 obtain ⟨wc,fc,fs,ra⟩:=rp.half
 have hu:=RS.used_words v sp
 have hz:(s.words sp).hz=s.half:=rfl
 have hsh:Shape (k:Nat) (r:Nat) (w:Nat):=⟨⟨by omega,by omega⟩,⟨by omega,by omega⟩,by omega,by omega⟩
 refine PtrOk_mk ⟨_,c1,aalloc_ok ra (fun hb'=>absurd hsh hb') (fun _ hf=>?_) fun h' L' _ hg ha g=>?_⟩
 ·have e:s.small2 k r w=(s,0,31):=by unfold RS.small2; rw [if_pos (by rw [hu,hz] at hf; omega)]
  rw [e] at hR
  exact ⟨_,_,rfl,Cond_t rfl (hR h role G sp rp (ExtO.refl h role))⟩
 ·rw [hu,hz] at hg
  have e:s.small2 k r w=(s.addSmall k r w,s.used,0):=by unfold RS.small2; rw [if_neg (by omega)]
  rw [e] at hR
  rw [Int.toNat_natCast,Int.toNat_natCast,Int.toNat_natCast] at ha
  have rp1:=rp.setHalf ha g
  refine ⟨_,_,rfl,Cond_f rfl ?_⟩
  rw [hu,wrap_u64' (by omega) (by omega)]
  refine hR h' (joinR role h.size L'.fp .half) { G with Lh:=L' } sp ?_ (ExtO.of (role:=role) g.kept (fun b hb'=>by rw [rp.halfr b hb']; nofun) fun b hb' ho=>(joinR_old hb').trans ho)
  rw [RS.addSmall_words v]
  exact rp1
theorem halloc_ok (v:s.Inv) (rp:HRep h hb role (s.words sp) G) {k r w:Int} {R:Value→Hp→Prop}
  (hR:∀ h' role' G' sp',HRep h' hb role' ((s.alloc k r w).1.words sp') G'→ExtO h role h' role'→R (.tuple #[uv (s.alloc k r w).2.1,.int .i64 (s.alloc k r w).2.2]) h'):CallTo Try.prog 40 #[.pointer (some (ad hb)),.int .i64 k,.int .i64 r,.int .i64 w] h R:=by
 have i2:=v.h2; have i4:=v.l2; have i6:=v.h1; have i7:=v.u2
 refine f40F_ok ?_
 unfold f40F
 have bad:¬ Shape k r w→f40K1 (some (ad hb)) k r w true h R:=fun hn=>by
  have e:s.alloc k r w=(s,0,34):=by unfold RS.alloc; rw [if_neg hn]
  rw [e] at hR
  unfold f40K1
  exact Cond_t rfl (hR h role G sp rp (ExtO.refl h role))
 have sh:∀ {x:Prop},¬ x→(Shape k r w→x)→¬ Shape k r w:=fun hn hx hs=>hn (hx hs)
 refine Cond_dec (fun c=>bad fun q=>by have:=q.1.1; omega) fun c1=>Cond_dec (fun c=>bad fun q=>by have:=q.1.2; omega) fun c2=>Cond_dec (fun c=>bad fun q=>by have:=q.2.1.1; omega) fun c3 =>
  Cond_dec (fun c=>bad fun q=>by have:=q.2.1.2; omega) fun c4=>Cond_dec (fun c=>bad fun q=>by have:=q.2.2.1; omega) fun c5=>?_
 by_cases c6:w > 1048576
 ·rw [decide_eq_true c6]; exact bad fun q=>by have:=q.2.2.2; omega
 rw [decide_eq_false c6]
 have hsh:Shape k r w:=⟨⟨by omega,by omega⟩,⟨by omega,by omega⟩,by omega,by omega⟩
 obtain ⟨k,rfl⟩:=Int.eq_ofNat_of_zero_le (show 0 ≤ k by omega)
 obtain ⟨r,rfl⟩:=Int.eq_ofNat_of_zero_le (show 0 ≤ r by omega)
 obtain ⟨w,rfl⟩:=Int.eq_ofNat_of_zero_le (show 0 ≤ w by omega)
 unfold f40K1
 have es:IntKind.wrap .i64 ((IntKind.wrap .i64 ((1:Int) + ((r:Nat):Int))) + ((w:Nat):Int))=((1 + r + w:Nat):Int):=by
  rw [wrap_ar (x:=(1:Int) + ((r:Nat):Int)) (by omega) (by omega),wrap_ar (by omega) (by omega)]; omega
 rw [es]
 have ea:s.alloc (k:Int) (r:Int) (w:Int)=if 64 < 1 + r + w then s.block k r w else (s.small1 (1 + r + w)).small2 k r w:=by
  unfold RS.alloc
  rw [if_pos hsh]
  rfl
 rw [ea] at hR
 refine Cond_f rfl (Cond_dec (fun hl=>?_) fun hl=>?_)
 ·rw [if_pos (by omega)] at hR
  exact begin_ok v rp (by omega) (by omega) (by omega) (by omega) (by omega) fun h' role' G' sp' rp' x'=>⟨_,_,rfl,hR h' role' G' sp' rp' x'⟩
 ·rw [if_neg (by omega)] at hR
  have c1':cell h ((ad hb).add 1)=some (.pointer (some (ad G.Lh.pb))):=(rp.c 1).trans rfl
  obtain ⟨wc,fc,fs,ra⟩:=rp.half
  have hu:=RS.used_words v sp
  have hz:(s.words sp).hz=s.half:=rfl
  refine PtrOk_mk ⟨_,c1',_,aused_ok ra ⟨rfl,rfl⟩,PtrOk_mk ⟨_,c1',_,asize_ok ra ⟨rfl,rfl⟩,?_⟩⟩
  rw [hu,hz,wrap_ar (x:=((s.used:Nat):Int) + ((1 + r + w:Nat):Int)) (by omega) (by omega)]
  unfold RS.small1 at hR
  refine Cond_dec (fun hc=>?_) fun hc=>?_
  ·rw [if_pos (by omega)] at hR
   refine collect_ok v rp fun ha rolea Ga spa rpa xa=>⟨rfl,fit_ok v.collection rpa (by omega) fun hc' rolec Gc spc rpc xc=>⟨rfl,?_⟩⟩
   exact asmall v.collection.fit rpc (by omega) (by omega) (by omega) (by omega) fun h' role' G' sp' rp' x'=>hR h' role' G' sp' rp' ((xa.trans xc).trans x')
  ·rw [if_neg (by omega)] at hR
   exact asmall v rp (by omega) (by omega) (by omega) (by omega) fun h' role' G' sp' rp' x'=>hR h' role' G' sp' rp' x'
end
end Go.Ev
set_option linter.all false
set_option maxRecDepth 100000
namespace Go.Ev
open Go.Proofs
def zi:Value:=.int .i64 0
theorem filter_take {α:Type} (p:α→Bool) {l:List α} {i:Nat} {x:α} (h:l[i]?=some x):((l.take (i + 1)).filter p).length=((l.take i).filter p).length + (if p x=true then 1 else 0):=by
 rw [RS.take_snoc h,List.filter_append,List.length_append]
 cases hp:p x <;> simp [hp]
/-- The heap, and two new blocks behind all that was. -/
structure StW (h:Hp) (hb:Nat) (role:Nat→Role) (m:MH) (G:Geo) (A B:List Value) (h':Hp):Prop where
 rp:HRep h' hb role m G
 ra:Row h' h.size A
 rb:Row h' (h.size + 1) B
 kp:Kept N h h'
section
variable {h:Hp} {hb:Nat} {role:Nat→Role} {m:MH} {G:Geo} {s:RS} {sp:List AObj} {A B:List Value} {h':Hp}
theorem kept_news {a b:Hp} {n:Nat} (k:Kept N h a) (x:Kept (fun b=>b=n) a b) (hn:h.size ≤ n):Kept N h b :=
 ⟨Nat.le_trans k.1 x.1,fun i hi _=>(x.2 i (Nat.lt_of_lt_of_le hi k.1) (by omega)).trans (k.2 i hi id)⟩
theorem StW.stB (w:StW h hb role m G A B h') (fr:∀ b,h.size ≤ b→role b=.out) {a:Addr} {i:Nat} {v:Value} (ha:a=⟨h.size + 1,i,none⟩) (hi:i < B.length) {K:Hp→Prop} (hK:∀ h'',StW h hb role m G A (B.set i v) h''→K h'') :
  Go.Ev.stOk h' a∧Let (setc h' a v) fun h''=>K h'' :=
 row_st w.rb ha hi fun h'' r k=>hK h'' ⟨w.rp.keep k fun b (e:b=h.size + 1)=>fr b (by omega),kept_row k w.ra (fun e:h.size=h.size + 1=>by omega),r,kept_news w.kp k (by omega)⟩
theorem StW.stA (w:StW h hb role m G A B h') (fr:∀ b,h.size ≤ b→role b=.out) {a:Addr} {i:Nat} {v:Value} (ha:a=⟨h.size,i,none⟩) (hi:i < A.length) {K:Hp→Prop} (hK:∀ h'',StW h hb role m G (A.set i v) B h''→K h'') :
  Go.Ev.stOk h' a∧Let (setc h' a v) fun h''=>K h'' :=
 row_st w.ra ha hi fun h'' r k=>hK h'' ⟨w.rp.keep k fun b (e:b=h.size)=>fr b (by omega),r,kept_row k w.rb (fun e:h.size + 1=h.size=>by omega),kept_news w.kp k (by omega)⟩
def slotsAt (s:RS) (i:Nat):Nat:=((s.slots.take i).filter fun x=>decide (x ≠ 0)).length
theorem hstats_ok (v:s.Inv) (rp:HRep h hb role (s.words sp) G) {R:Value→Hp→Prop} (hR:∀ h',Kept N h h'→R (.agg (s.stats.map fun x=>Value.int .i64 x).toArray) h'):CallTo Try.prog 17 #[.pointer (some (ad hb))] h R:=by
 have i2:=v.h2; have i4:=v.l2; have i6:=v.h1; have i7:=v.u2; have i5:=v.sll
 have fr:=rp.fresh
 refine f17F_ok ?_
 unfold f17F
 refine Let_mk fun h1 e1=>PtrOk_mk ?_
 have k1:Kept N h h1:=e1 ▸ kept_push _ _ _
 have rp1:=rp.keep k1 fun _ e=>e.elim
 have z1:h1.size=h.size + 1:=by rw [e1]; simp
 have rowA1:Row h1 h.size [zi,zi,zi,zi,zi,zi,zi,zi,zi]:=e1 ▸ row_new h #[zi,zi,zi,zi,zi,zi,zi,zi,zi] 42
 refine ⟨_,(rp1.c 10).trans rfl,_,(by rw [add_hd]; exact (cell_row rp1.row 11).trans rfl),_,(by rw [add_hd]; exact (cell_row rp1.row 12).trans rfl),_,(by rw [add_hd]; exact (cell_row rp1.row 13).trans rfl),_,(by rw [add_hd]; exact (cell_row rp1.row 14).trans rfl),_,(by rw [add_hd]; exact (cell_row rp1.row 15).trans rfl),_,(by rw [add_hd]; exact (cell_row rp1.row 16).trans rfl),_,(by rw [add_hd]; exact (cell_row rp1.row 17).trans rfl),_,(by rw [add_hd]; exact (cell_row rp1.row 18).trans rfl),Let_mk fun h2 e2=>?_⟩
 have k2:Kept N h1 h2:=e2 ▸ kept_push _ _ _
 have rowB2:Row h2 (h.size + 1) [zi,zi,zi,zi,zi,zi,zi,zi,zi]:=by
  have:=row_new h1 #[zi,zi,zi,zi,zi,zi,zi,zi,zi] 42
  rw [z1] at this
  exact e2 ▸ this
 have w2:StW h hb role (s.words sp) G _ _ h2:=⟨rp1.keep k2 fun _ e=>e.elim,kept_row k2 rowA1 id,rowB2,k1.trans k2⟩
 have enb:nb h1=ad (h.size + 1):=by unfold nb ad; rw [z1]
 have enb0:nb h=ad h.size:=rfl
 rw [enb]
 refine w2.stB fr (i:=0) (rfl) (by show 0 < 9; omega) fun h3 w3=>?_
 refine w3.stB fr (i:=1) (add_ad _ _) (by show 1 < 9; omega) fun h4 w4=>?_
 refine w4.stB fr (i:=2) (add_ad _ _) (by show 2 < 9; omega) fun h5 w5=>?_
 refine w5.stB fr (i:=3) (add_ad _ _) (by show 3 < 9; omega) fun h6 w6=>?_
 refine w6.stB fr (i:=4) (add_ad _ _) (by show 4 < 9; omega) fun h7 w7=>?_
 refine w7.stB fr (i:=5) (add_ad _ _) (by show 5 < 9; omega) fun h8 w8=>?_
 refine w8.stB fr (i:=6) (add_ad _ _) (by show 6 < 9; omega) fun h9 w9=>?_
 refine w9.stB fr (i:=7) (add_ad _ _) (by show 7 < 9; omega) fun h10 w10=>?_
 refine w10.stB fr (i:=8) (add_ad _ _) (by show 8 < 9; omega) fun h11 w11=>?_
 refine PtrOk_mk ⟨_,w11.rp.c0,?_⟩
 refine w11.stB fr (i:=0) (rfl) (by show 0 < 9; omega) fun h12 w12=>?_
 have cp12:cell h12 ((ad hb).add 1)=some (.pointer (some (ad G.Lh.pb))):=(w12.rp.c 1).trans rfl
 obtain ⟨wc12,fc12,fs12,ra12⟩:=w12.rp.half
 refine PtrOk_mk ⟨_,cp12,asize_ok ra12 ⟨_,rfl,?_⟩⟩
 refine w12.stB fr (i:=1) (add_ad _ _) (by show 1 < 9; omega) fun h13 w13=>?_
 have cp13:cell h13 ((ad hb).add 1)=some (.pointer (some (ad G.Lh.pb))):=(w13.rp.c 1).trans rfl
 obtain ⟨wc13,fc13,fs13,ra13⟩:=w13.rp.half
 refine PtrOk_mk ⟨_,cp13,aused_ok ra13 ⟨_,rfl,?_⟩⟩
 rw [RS.used_words v sp]
 refine w13.stB fr (i:=2) (add_ad _ _) (by show 2 < 9; omega) fun h14 w14=>?_
 have cq14:cell h14 ((ad hb).add 6)=some (.int .i64 (s.large:Nat)):=(w14.rp.c 6).trans rfl
 refine PtrOk_mk ⟨_,cq14,?_⟩
 refine w14.stB fr (i:=3) (add_ad _ _) (by show 3 < 9; omega) fun h15 w15=>?_
 have c3:cell h15 ((ad hb).add 3)=some (.slice G.bs.a G.bs.n G.bs.c):=(w15.rp.c 3).trans rfl
 have hbn:=w15.rp.bs_n
 have hbn:G.bs.n=(s.slots.map fun id=>if id=0 then none else some (s.enc id)).length:=hbn
 rw [List.length_map] at hbn
 have hll:=w15.rp.ll
 have hll:G.locs.length=(s.slots.map fun id=>if id=0 then none else some (s.enc id)).length:=hll
 rw [List.length_map] at hll
 refine PtrOk_mk ⟨G.bs,c3,?_⟩
 rw [hbn]
 refine f17L1_rule (fun q s0 s2 s3 s35 s36 h'=>∃ i:Nat,i ≤ s.slots.length∧q=s.slots.length - i∧s0=some (ad hb)∧s2=ad h.size∧s3=ad (h.size + 1)∧s35=((s.slots.length:Nat):Int)∧s36=(i:Int) ∧
  StW h hb role (s.words sp) G [zi,zi,zi,zi,zi,zi,zi,zi,zi] [nv s.limit,nv s.half,nv s.used,nv s.large,nv (slotsAt s i),nv s.rootsN,.int .i64 s.coll,.int .i64 s.resz,nv s.moved] h') s.slots.length
  ⟨0,Nat.zero_le _,rfl,rfl,rfl,rfl,rfl,rfl,w15⟩ ?_
 rintro q s0 s2 s3 s35 s36 g hc ⟨i,hi,rfl,rfl,rfl,rfl,rfl,rfl,wc⟩
 unfold f17L1
 refine Cond_dec (fun hlt=>?_) fun hge=>?_
 ·have hlt:i < s.slots.length:=by omega
  obtain ⟨x,hx⟩:∃ x,s.slots[i]?=some x:=⟨_,List.getElem?_eq_getElem hlt⟩
  have cb:(0:Int) ≤ (i:Int)∧(i:Int) < ((G.bs.n:Nat):Int):=by omega
  have hL:G.locs[i]?=some G.locs[i]:=List.getElem?_eq_getElem (by omega)
  obtain ⟨bb,hba,hbc⟩:=wc.rp.slot_at hL
  have hm:(s.slots.map fun id=>if id=0 then none else some (s.enc id))[i]?=some (if x=0 then none else some (s.enc x)):=by rw [List.getElem?_map,hx]; rfl
  have hbk:=wc.rp.bl i _ _ hm hL
  generalize hLk:G.locs[i]=Lk at hL hbc hbk
  have c3c:cell hc ((ad hb).add 3)=some (.slice G.bs.a G.bs.n G.bs.c):=(wc.rp.c 3).trans rfl
  have hwr:IntKind.wrap .i64 ((i:Int) + 1)=((i + 1:Nat):Int):=by rw [wrap_ar (by omega) (by omega)]; rfl
  have hft:=filter_take (fun x=>decide (x ≠ 0)) hx
  have hsl:slotsAt s i ≤ s.slots.length:=Nat.le_trans (List.length_filter_le _ _) (by rw [List.length_take]; omega)
  have hft:slotsAt s (i + 1)=slotsAt s i + (if decide (x ≠ 0)=true then 1 else 0):=hft
  by_cases hx0:x=0
  ·subst hx0
   rw [if_pos rfl] at hbk
   cases Lk with
   | some L=>exact hbk.elim
   | none =>
    refine PtrOk_mk ⟨G.bs,c3c,cb,PtrOk_of hba ⟨none,by rw [Int.toNat_natCast]; exact hbc,Cond_f rfl ?_⟩⟩
    unfold f17K1
    refine ⟨s.slots.length - (i + 1),by omega,i + 1,hlt,rfl,rfl,rfl,rfl,rfl,hwr,?_⟩
    rw [hft]; exact wc
  ·rw [if_neg hx0] at hbk
   cases Lk with
   | none=>exact hbk.elim
   | some L =>
    refine PtrOk_mk ⟨G.bs,c3c,cb,PtrOk_of hba ⟨some (ad L.pb),by rw [Int.toNat_natCast]; exact hbc,Cond_t rfl ⟨_,by rw [add_ad]; exact (cell_row wc.rb 4).trans rfl,?_⟩⟩⟩
    rw [wrap_ar (x:=((slotsAt s i:Nat):Int) + 1) (by omega) (by omega)]
    refine wc.stB fr (i:=4) (add_ad _ _) (by show 4 < 9; omega) fun hd wd=>?_
    unfold f17K1
    refine ⟨s.slots.length - (i + 1),by omega,i + 1,hlt,rfl,rfl,rfl,rfl,rfl,hwr,?_⟩
    have e4:nv (slotsAt s (i + 1))=.int .i64 (((slotsAt s i:Nat):Int) + 1):=by
     rw [hft,if_pos (by simp [hx0])]
     rfl
    rw [e4]
    exact wd
 ·have:i=s.slots.length:=by omega
  subst this
  have hfin:slotsAt s s.slots.length=s.slotsN:=by unfold slotsAt RS.slotsN; rw [List.take_length]
  rw [hfin] at wc
  refine ⟨_,(cell_row wc.rb 0).trans rfl,_,(by rw [add_ad]; exact (cell_row wc.rb 1).trans rfl),_,(by rw [add_ad]; exact (cell_row wc.rb 2).trans rfl),_,(by rw [add_ad]; exact (cell_row wc.rb 3).trans rfl),_,(by rw [add_ad]; exact (cell_row wc.rb 4).trans rfl),_,(by rw [add_ad]; exact (cell_row wc.rb 5).trans rfl),_,(by rw [add_ad]; exact (cell_row wc.rb 6).trans rfl),_,(by rw [add_ad]; exact (cell_row wc.rb 7).trans rfl),_,(by rw [add_ad]; exact (cell_row wc.rb 8).trans rfl),?_⟩
  refine wc.stA fr (i:=0) (rfl) (by show 0 < 9; omega) fun g0 v0=>?_
  refine v0.stA fr (i:=1) (add_ad _ _) (by show 1 < 9; omega) fun g1 v1=>?_
  refine v1.stA fr (i:=2) (add_ad _ _) (by show 2 < 9; omega) fun g2 v2=>?_
  refine v2.stA fr (i:=3) (add_ad _ _) (by show 3 < 9; omega) fun g3 v3=>?_
  refine v3.stA fr (i:=4) (add_ad _ _) (by show 4 < 9; omega) fun g4 v4=>?_
  refine v4.stA fr (i:=5) (add_ad _ _) (by show 5 < 9; omega) fun g5 v5=>?_
  refine v5.stA fr (i:=6) (add_ad _ _) (by show 6 < 9; omega) fun g6 v6=>?_
  refine v6.stA fr (i:=7) (add_ad _ _) (by show 7 < 9; omega) fun g7 v7=>?_
  refine v7.stA fr (i:=8) (add_ad _ _) (by show 8 < 9; omega) fun g8 v8=>?_
  refine ⟨_,(cell_row v8.ra 0).trans rfl,_,(by rw [add_ad]; exact (cell_row v8.ra 1).trans rfl),_,(by rw [add_ad]; exact (cell_row v8.ra 2).trans rfl),_,(by rw [add_ad]; exact (cell_row v8.ra 3).trans rfl),_,(by rw [add_ad]; exact (cell_row v8.ra 4).trans rfl),_,(by rw [add_ad]; exact (cell_row v8.ra 5).trans rfl),_,(by rw [add_ad]; exact (cell_row v8.ra 6).trans rfl),_,(by rw [add_ad]; exact (cell_row v8.ra 7).trans rfl),_,(by rw [add_ad]; exact (cell_row v8.ra 8).trans rfl),?_⟩
  exact hR _ v8.kp
end
end Go.Ev
set_option linter.all false
set_option maxRecDepth 100000
namespace Go.Ev
open Go.Proofs
namespace RS
section
variable {s:RS}
theorem become_len (n:Nat):(s.become n).objs.length=s.objs.length∧(s.become n).roots=s.roots:=by unfold become; split <;> exact ⟨rfl,rfl⟩
theorem fit_len (n:Nat):(s.fit n).objs.length=s.objs.length∧(s.fit n).roots=s.roots:=by
 unfold fit
 split
 ·split
  ·exact become_len _
  ·exact ⟨rfl,rfl⟩
 ·split
  ·exact become_len _
  ·exact ⟨rfl,rfl⟩
theorem coll_len:s.collection.objs.length=s.objs.length∧s.collection.roots=s.roots:=by unfold collection; exact ⟨by simp,rfl⟩
theorem collect_len:s.collect.objs.length=s.objs.length∧s.collect.roots=s.roots:=by
 unfold collect
 exact ⟨(fit_len _).1.trans coll_len.1,(fit_len _).2.trans coll_len.2⟩
theorem addBig_len (k r w:Nat):(s.addBig k r w).objs.length=s.objs.length + 1∧(s.addBig k r w).roots=s.roots:=⟨by unfold addBig; simp,rfl⟩
theorem alloc_len (k r w:Int):(s.alloc k r w).1.objs.length ≤ s.objs.length + 1∧(s.alloc k r w).1.roots=s.roots:=by
 unfold alloc
 split
 ·split
  ·unfold block
   have h1:(s.block1 (2 + r.toNat + w.toNat)).objs.length=s.objs.length∧(s.block1 (2 + r.toNat + w.toNat)).roots=s.roots:=by
    unfold block1
    split
    ·exact collect_len
    ·exact ⟨rfl,rfl⟩
   unfold block2
   generalize hg:s.block1 (2 + r.toNat + w.toNat)=g at h1
   obtain ⟨g1,g2⟩:=h1
   split
   ·split
    ·exact ⟨by show g.objs.length ≤ _; omega,g2⟩
    ·have:=addBig_len (s:=g.become ((g.limit - g.large - (2 + r.toNat + w.toNat)) / 2)) k.toNat r.toNat w.toNat
     have h2:=become_len (s:=g) ((g.limit - g.large - (2 + r.toNat + w.toNat)) / 2)
     exact ⟨by rw [this.1,h2.1]; omega,this.2.trans (h2.2.trans g2)⟩
   ·have:=addBig_len (s:=g) k.toNat r.toNat w.toNat
    exact ⟨by rw [this.1]; omega,this.2.trans g2⟩
  ·have h1:(s.small1 (1 + r.toNat + w.toNat)).objs.length=s.objs.length∧(s.small1 (1 + r.toNat + w.toNat)).roots=s.roots:=by
    unfold small1
    split
    ·exact ⟨(fit_len _).1.trans coll_len.1,(fit_len _).2.trans coll_len.2⟩
    ·exact ⟨rfl,rfl⟩
   generalize s.small1 (1 + r.toNat + w.toNat)=g at h1
   unfold small2
   split
   ·exact ⟨by show g.objs.length ≤ _; omega,h1.2⟩
   ·refine ⟨?_,h1.2⟩
    unfold addSmall
    simp
    omega
 ·exact ⟨by show s.objs.length ≤ _; omega,rfl⟩
theorem become_lim (n:Nat):(s.become n).limit=s.limit:=by unfold become; split <;> rfl
theorem fit_lim (n:Nat):(s.fit n).limit=s.limit:=by
 unfold fit
 split
 ·split
  ·exact become_lim _
  ·rfl
 ·split
  ·exact become_lim _
  ·rfl
theorem collect_lim:s.collect.limit=s.limit:=fit_lim (s:=s.collection) 0
theorem setF_lim (r:Nat) (i:Int) (x:Nat):(s.setF r i x).1.limit=s.limit:=by
 unfold setF
 split
 ·rfl
 ·split
  ·rfl
  ·split
   ·split <;> rfl
   ·rfl
theorem setBytesF_lim (r:Nat) (f:Int) (cs:List Nat):(s.setBytesF r f cs).1.limit=s.limit:=by unfold setBytesF; split <;> rfl
theorem alloc_lim (k r w:Int):(s.alloc k r w).1.limit=s.limit:=by
 unfold alloc
 split
 ·split
  ·unfold block
   have h1:(s.block1 (2 + r.toNat + w.toNat)).limit=s.limit:=by
    unfold block1
    split
    ·exact collect_lim
    ·rfl
   generalize s.block1 (2 + r.toNat + w.toNat)=g at h1
   unfold block2
   split
   ·split
    ·exact h1
    ·exact (become_lim (s:=g) _).trans h1
   ·exact h1
  ·have h1:(s.small1 (1 + r.toNat + w.toNat)).limit=s.limit:=by
    unfold small1
    split
    ·exact fit_lim (s:=s.collection) _
    ·rfl
   generalize s.small1 (1 + r.toNat + w.toNat)=g at h1
   unfold small2
   split
   ·exact h1
   ·exact h1
 ·rfl
/-- The slots grow no faster than the objects. -/
def RzI (s:RS):Prop:=-9223372036854775808 ≤ s.resz∧s.resz < 9223372036854775808
def Sl2 (t s:RS):Prop:=t.slots.length + s.objs.length ≤ s.slots.length + t.objs.length∧(RzI s→RzI t)
/-- The limit, and as many objects as slots. -/
def Lim (l:Int) (s:RS):Prop:=l=((s.limit:Nat):Int)∧s.slots.length < s.objs.length∧RzI s
theorem Lim.of {t:RS} {l:Int} (h1:t.limit=s.limit) (h2:Sl2 t s) (h:Lim l s):Lim l t:=⟨by rw [h1]; exact h.1,by have:=h.2.1; have:=h2.1; omega,h2.2 h.2.2⟩
theorem Sl2.refl (s:RS):Sl2 s s:=⟨Nat.le_refl _,_root_.id⟩
theorem Sl2.trans {t u:RS} (h:Sl2 t s) (k:Sl2 u t):Sl2 u s:=⟨by have:=h.1; have:=k.1; omega,fun q=>k.2 (h.2 q)⟩
theorem Sl2.eq {t:RS} (h1:t.slots=s.slots) (h2:t.objs.length=s.objs.length) (h3:t.resz=s.resz):Sl2 t s:=⟨by rw [h1,h2]; exact Nat.le_refl _,fun q=>by unfold RzI; rw [h3]; exact q⟩
end
end RS
end Go.Ev
set_option linter.all false
set_option maxRecDepth 100000
namespace Go.Ev
open Go.Proofs
/-- An object as it must be. -/
structure NodeD where
 kind:Nat
 refs:List Nat
 raws:List Nat
namespace RS
/-- The same graph: each object that is there is as its node says. -/
structure Shd (s:RS) (nd:List NodeD):Prop where
 len:nd.length=s.objs.length
 at_:∀ id,s.here id→nd[id]?=some ⟨(s.obj id).kind,(s.obj id).refs,(s.obj id).raws⟩
/-- Nothing new, nothing changed: some may be gone. -/
structure Sub (t s:RS):Prop where
 len:t.objs.length=s.objs.length
 roots:t.roots=s.roots
 at_:∀ id,t.here id→s.here id∧(t.obj id).kind=(s.obj id).kind∧(t.obj id).refs=(s.obj id).refs∧(t.obj id).raws=(s.obj id).raws
section
variable {s t u:RS} {nd:List NodeD}
theorem Sub.refl (s:RS):Sub s s:=⟨rfl,rfl,fun _ h=>⟨h,rfl,rfl,rfl⟩⟩
theorem Sub.trans (a:Sub u t) (b:Sub t s):Sub u s :=
 ⟨a.len.trans b.len,a.roots.trans b.roots,fun id h=>by
  obtain ⟨h1,h2,h3,h4⟩:=a.at_ id h
  obtain ⟨k1,k2,k3,k4⟩:=b.at_ id h1
  exact ⟨k1,h2.trans k2,h3.trans k3,h4.trans k4⟩⟩
theorem Sub.of (e1:t.objs=s.objs) (e2:t.small=s.small) (e3:t.slots=s.slots) (e4:t.roots=s.roots):Sub t s:=by
 have eo:∀ id,t.obj id=s.obj id:=fun id=>by unfold obj; rw [e1]
 exact ⟨by rw [e1],e4,fun id h=>⟨by unfold here at h ⊢; rw [← e2,← e3]; exact h,by rw [eo],by rw [eo],by rw [eo]⟩⟩
theorem Shd.sub (h:Shd s nd) (k:Sub t s):Shd t nd:=⟨h.len.trans k.len.symm,fun id hid=>by
 obtain ⟨h1,h2,h3,h4⟩:=k.at_ id hid
 rw [h2,h3,h4]
 exact h.at_ id h1⟩
theorem Sub.collection (v:s.Inv):Sub s.collection s:=⟨collection_len s,rfl,fun id h=>by
 have h1:=(collection_here v).1 h
 obtain ⟨k1,k2,k3,_⟩:=collection_kind v h1
 exact ⟨(GcOk.at v _).here h1,k1,k2,k3⟩⟩
theorem Sub.become (n:Nat):Sub (s.become n) s:=by
 unfold RS.become
 split
 ·exact Sub.refl s
 ·exact Sub.of rfl rfl rfl rfl
theorem Sub.fit (n:Nat):Sub (s.fit n) s:=by
 unfold RS.fit
 split
 ·split
  ·exact Sub.become _
  ·exact Sub.refl s
 ·split
  ·exact Sub.become _
  ·exact Sub.refl s
theorem Sub.collect (v:s.Inv):Sub s.collect s:=(Sub.fit 0).trans (Sub.collection v)
/-- A new object. -/
structure New (t s:RS) (k r w ref:Nat):Prop where
 objs:∃ b pl,t.objs=s.objs ++ [mkO k r w b pl]
 roots:t.roots=s.roots
 here:∀ id,t.here id ↔ id=s.objs.length ∨ s.here id
 ref:t.ref s.objs.length=ref
theorem New.small (v:s.Inv) (k r w:Nat):New (s.addSmall k r w) s k r w s.used:=by
 have h1:=v.ob
 refine ⟨⟨_,_,rfl⟩,rfl,fun id=>?_,?_⟩
 ·show (id ∈ s.small ++ [s.objs.length] ∨ (id ≠ 0∧id ∈ s.slots)) ↔ _
  rw [List.mem_append,List.mem_singleton]
  exact ⟨fun h=>h.elim (fun h=>h.elim (fun h=>.inr (.inl h)) .inl) fun h=>.inr (.inr h),fun h=>h.elim (fun h=>.inl (.inr h)) fun h=>h.elim (fun h=>.inl (.inl h)) .inr⟩
 ·have eo:(s.addSmall k r w).obj s.objs.length=mkO k r w false s.used:=by unfold obj addSmall; simp
  unfold RS.ref
  rw [if_neg (by omega),eo]
  rfl
theorem New.big (v:s.Inv) (k r w:Nat):New (s.addBig k r w) s k r w (top + freeSlot s.slots):=by
 have h1:=v.ob
 obtain ⟨f1,f2,f3⟩:=freeSlot_facts s.slots
 refine ⟨⟨_,_,rfl⟩,rfl,fun id=>?_,?_⟩
 ·show (id ∈ s.small ∨ (id ≠ 0∧id ∈ (s.addBig k r w).slots)) ↔ _
  have e:(id ≠ 0∧id ∈ (s.addBig k r w).slots) ↔ id=s.objs.length ∨ (id ≠ 0∧id ∈ s.slots):=by
   constructor
   ·rintro ⟨h0,h⟩
    obtain ⟨i,hi⟩:=List.mem_iff_getElem?.1 h
    rw [addBig_slot] at hi
    split at hi
    ·exact .inl (Option.some.inj hi).symm
    ·exact .inr ⟨h0,List.mem_of_getElem? hi⟩
   ·rintro (h | ⟨h0,h⟩)
    ·refine ⟨by omega,?_⟩
     exact List.mem_of_getElem? (i:=freeSlot s.slots) (by rw [addBig_slot,if_pos rfl,h])
    ·refine ⟨h0,?_⟩
     obtain ⟨i,hi⟩:=List.mem_iff_getElem?.1 h
     have hil:=(List.getElem?_eq_some_iff.1 hi).1
     refine List.mem_of_getElem? (i:=i) ?_
     rw [addBig_slot,if_neg,hi]
     intro e
     subst e
     rw [f2 hil] at hi
     exact h0 (Option.some.inj hi).symm
  rw [e]
  exact ⟨fun h=>h.elim (fun h=>.inr (.inl h)) fun h=>h.elim .inl fun h=>.inr (.inr h),fun h=>h.elim (fun h=>.inr (.inl h)) fun h=>h.elim .inl fun h=>.inr (.inr h)⟩
 ·have eo:(s.addBig k r w).obj s.objs.length=mkO k r w true (freeSlot s.slots):=by unfold obj addBig; simp
  unfold RS.ref
  rw [if_neg (by omega),eo]
  rfl
theorem New.shd {k r w ref:Nat} (n:New t s k r w ref) (v:s.Inv) (h:Shd s nd):Shd t (nd ++ [⟨k,List.replicate r 0,List.replicate w 0⟩]):=by
 obtain ⟨⟨b,pl,e⟩,_,hh,_⟩:=n
 refine ⟨by rw [List.length_append,h.len,e,List.length_append]; rfl,fun id hid=>?_⟩
 by_cases hn:id=s.objs.length
 ·subst hn
  have eo:t.obj s.objs.length=mkO k r w b pl:=by unfold obj; rw [e]; simp
  rw [eo,List.getElem?_append_right (by rw [h.len]; exact Nat.le_refl _),h.len,Nat.sub_self]
  rfl
 ·have h1:=((hh id).1 hid).resolve_left hn
  have hlt:=v.here_lt h1
  have eo:t.obj id=s.obj id:=by unfold obj; rw [e,List.getD_eq_getElem?_getD,List.getElem?_append_left hlt,← List.getD_eq_getElem?_getD]
  rw [eo,List.getElem?_append_left (by rw [h.len]; exact hlt)]
  exact h.at_ id h1
/-- What Alloc comes to: refused by the shape; full, at most something gone; one more. -/
theorem alloc_cases (v:s.Inv) (k r w:Int):(¬ Shape k r w∧s.alloc k r w=(s,0,34)) ∨
  (Shape k r w∧∃ t,Sub t s∧t.Inv∧(s.alloc k r w=(t,0,31) ∨ ∃ t' ref,s.alloc k r w=(t',ref,0)∧New t' t k.toNat r.toNat w.toNat ref)):=by
 unfold alloc
 split
 ·rename_i hs
  refine .inr ⟨hs,?_⟩
  split
  ·unfold block
   have v1:=v.block1 (2 + r.toNat + w.toNat)
   have s1:Sub (s.block1 (2 + r.toNat + w.toNat)) s:=by
    unfold block1
    split
    ·exact Sub.collect v
    ·exact Sub.refl s
   generalize s.block1 (2 + r.toNat + w.toNat)=g at v1 s1
   unfold block2
   split
   ·split
    ·exact ⟨g,s1,v1,.inl rfl⟩
    ·rename_i hn
     simp only [not_or,Nat.not_lt] at hn
     obtain ⟨n1,n2,n3⟩:=hn
     have v2:(g.become ((g.limit - g.large - (2 + r.toNat + w.toNat)) / 2)).Inv:=v1.become n2 (by omega) n3
     refine ⟨_,(Sub.become _).trans s1,v2,.inr ⟨_,_,rfl,?_⟩⟩
     have:=New.big v2 k.toNat r.toNat w.toNat
     have es:(g.become ((g.limit - g.large - (2 + r.toNat + w.toNat)) / 2)).slots=g.slots:=by unfold become; split <;> rfl
     rw [es] at this
     exact this
   ·exact ⟨g,s1,v1,.inr ⟨_,_,rfl,New.big v1 _ _ _⟩⟩
  ·have v1:=v.small1 (1 + r.toNat + w.toNat)
   have s1:Sub (s.small1 (1 + r.toNat + w.toNat)) s:=by
    unfold small1
    split
    ·exact (Sub.fit _).trans (Sub.collection v)
    ·exact Sub.refl s
   generalize s.small1 (1 + r.toNat + w.toNat)=g at v1 s1
   unfold small2
   split
   ·exact ⟨g,s1,v1,.inl rfl⟩
   ·exact ⟨g,s1,v1,.inr ⟨_,_,rfl,New.small v1 _ _ _⟩⟩
 ·exact .inl ⟨by assumption,rfl⟩
/-- An object's fields are others. -/
theorem Shd.setObj (v:s.Inv) (h:Shd s nd) {id:Nat} (hid:s.here id) {o:RObj} (hk:o.kind=(s.obj id).kind):Shd (s.setObj id o) (nd.set id ⟨o.kind,o.refs,o.raws⟩):=by
 have hlt:=v.here_lt hid
 refine ⟨by rw [List.length_set,h.len]; unfold RS.setObj; simp,fun x hx=>?_⟩
 have hx:s.here x:=hx
 by_cases e:x=id
 ·subst e
  have eo:(s.setObj x o).obj x=o:=by unfold obj RS.setObj; simp [hlt]
  rw [eo,List.getElem?_set_self (by rw [h.len]; exact hlt)]
 ·have eo:(s.setObj id o).obj x=s.obj x:=by unfold obj RS.setObj; rw [List.getD_eq_getElem?_getD,List.getElem?_set_ne (Ne.symm e),← List.getD_eq_getElem?_getD]
  rw [eo,List.getElem?_set_ne (Ne.symm e)]
  exact h.at_ x hx
theorem Shd.roots (h:Shd s nd) (l:List (Option Nat)):Shd (s.withRoots l) nd:=⟨h.len,h.at_⟩
end
end RS
end Go.Ev
set_option linter.all false
set_option maxRecDepth 100000
namespace Go.Ev
open Go.Proofs
namespace RS
section
variable {s:RS}
theorem setF_ref (v:s.Inv) {id t k:Nat} (hh:s.here id) (h0:id ≠ 0) (ht:t=0 ∨ s.here t) (hk:k < (s.obj id).refs.length):s.setF (s.ref id) (k:Int) (s.ref t)=(s.setObj id { s.obj id with refs:=(s.obj id).refs.set k t },0):=by
 have e:=ident_ref v (id:=id) (.inr hh)
 have e2:=ident_ref v ht
 unfold setF
 rw [e,e2,if_neg h0,if_neg (by omega),if_pos (by omega),if_neg,Int.toNat_natCast]
 rintro ⟨h1,h2⟩
 subst h2
 exact h1 rfl
theorem setF_raw (v:s.Inv) {id k x:Nat} (hh:s.here id) (h0:id ≠ 0) (hk:k < (s.obj id).raws.length):s.setF (s.ref id) (((s.obj id).refs.length + k:Nat):Int) x=(s.setObj id { s.obj id with raws:=(s.obj id).raws.set k x },0):=by
 have e:=ident_ref v (id:=id) (.inr hh)
 unfold setF
 rw [e,if_neg h0,if_neg (by omega),if_neg (by omega),Int.toNat_natCast,Nat.add_sub_cancel_left]
theorem getF_ref (v:s.Inv) {id k r:Nat} (hh:s.here id) (h0:id ≠ 0) (hk:(s.obj id).refs[k]?=some r):s.getF (s.ref id) (k:Int)=(s.ref r,0):=by
 have hkl:=(List.getElem?_eq_some_iff.1 hk).1
 have e:=ident_ref v (id:=id) (.inr hh)
 unfold getF
 rw [e,if_neg h0,if_pos ⟨by omega,by rw [enc_flds_len]; omega⟩,Int.toNat_natCast]
 have:(s.enc id).flds.getD k 0=s.ref r:=by
  rw [List.getD_eq_getElem?_getD]
  unfold AObj.flds enc
  rw [List.getElem?_append_left (by rw [List.length_map]; exact hkl),List.getElem?_map,hk]
  rfl
 rw [this]
theorem getF_raw (v:s.Inv) {id k r:Nat} (hh:s.here id) (h0:id ≠ 0) (hk:(s.obj id).raws[k]?=some r):s.getF (s.ref id) (((s.obj id).refs.length + k:Nat):Int)=(r,0):=by
 have hkl:=(List.getElem?_eq_some_iff.1 hk).1
 have e:=ident_ref v (id:=id) (.inr hh)
 unfold getF
 rw [e,if_neg h0,if_pos ⟨by omega,by rw [enc_flds_len]; omega⟩,Int.toNat_natCast]
 have:(s.enc id).flds.getD ((s.obj id).refs.length + k) 0=r:=by
  rw [List.getD_eq_getElem?_getD]
  unfold AObj.flds enc
  rw [List.getElem?_append_right (by rw [List.length_map]; omega),List.length_map,Nat.add_sub_cancel_left,hk]
  rfl
 rw [this]
theorem good_ref (v:s.Inv) {r:Nat} (hr:r=0 ∨ s.here r):s.goodR (s.ref r)=true:=by
 unfold goodR
 rw [ident_ref v hr]
 by_cases h:r=0
 ·subst h; rfl
 ·exact decide_eq_true (.inr h)
def lsum (s:RS) (l:List Nat):Nat:=(l.map fun id=>s.size id + 1).sum
end
end RS
end Go.Ev
set_option linter.all false
set_option maxRecDepth 100000
namespace Go.Ev
open Go.Proofs
namespace RS
section
variable {s:RS}
theorem fit_room (v:s.Inv) {n:Nat} (h:2 * (s.used + n) ≤ s.limit - s.large):s.used + n ≤ (s.fit n).half:=by
 obtain ⟨w1,w2,w3⟩:=want_facts (s.used + n)
 have hb:∀ m,(s.become m).half=m:=fun m=>by unfold become; split <;> first | (rename_i e; exact e.symm) | rfl
 have i1:=v.h2
 unfold fit
 split
 ·split
  ·rw [hb]; omega
  ·omega
 ·split
  ·rw [hb]; omega
  ·omega
theorem fit_same (n:Nat):(s.fit n).used=s.used∧(s.fit n).large=s.large∧(s.fit n).limit=s.limit:=by
 have hb:∀ m,(s.become m).used=s.used∧(s.become m).large=s.large∧(s.become m).limit=s.limit:=fun m=>by unfold become; split <;> exact ⟨rfl,rfl,rfl⟩
 unfold fit
 split
 ·split
  ·exact hb _
  ·exact ⟨rfl,rfl,rfl⟩
 ·split
  ·exact hb _
  ·exact ⟨rfl,rfl,rfl⟩
/-- P3.9's rule, of the live words. -/
def Room (s:RS) (r w:Nat):Prop :=
 if 1 + r + w ≤ 64 then 2 * (s.collection.used + (1 + r + w)) ≤ s.limit - s.collection.large∧s.collection.large ≤ s.limit
 else s.collection.large + (1 + r + w) + 1 + 2 * max s.collection.used 64 ≤ s.limit
theorem alloc_room (v:s.Inv) {k r w:Int} (hs:Shape k r w):(s.alloc k r w).2.2=0 ↔ s.Room r.toNat w.toNat:=by
 have c1:=collection_used v
 have c2:=collection_large v
 have vc:=v.collection
 have i1:=v.h1; have i2:=v.h2; have i3:=v.u2
 have j2:=vc.h2; have j3:=vc.u2; have j1:=vc.h1
 have el:s.collection.limit=s.limit:=rfl
 unfold alloc Room
 rw [if_pos hs]
 by_cases hn:64 < 1 + r.toNat + w.toNat
 ·rw [if_pos hn,if_neg (by omega)]
  unfold block
  generalize hg:s.block1 (2 + r.toNat + w.toNat)=g
  have hv:g.Inv:=hg ▸ v.block1 _
  have hl:g.limit=s.limit∧((g=s∧¬ (s.limit < 2 * s.half + s.large + (2 + r.toNat + w.toNat))) ∨ (g.used=s.collection.used∧g.large=s.collection.large)):=by
   rw [← hg]
   unfold block1
   split
   ·obtain ⟨f1,f2,f3⟩:=fit_same (s:=s.collection) 0
    exact ⟨f3,.inr ⟨f1,f2⟩⟩
   ·rename_i hc
    exact ⟨rfl,.inl ⟨rfl,fun h=>hc (.inl h)⟩⟩
  have g1:=hv.h1; have g2:=hv.h2; have g3:=hv.u2
  unfold block2
  obtain ⟨hl1,hl2⟩:=hl
  rcases hl2 with ⟨e,hc⟩ | ⟨e1,e2⟩
  ·subst e
   rw [if_neg hc]
   exact ⟨fun _=>by omega,fun _=>rfl⟩
  ·split
   ·split
    ·exact ⟨fun h=>by exact absurd h (by show ¬ ((31:Int)=0); omega),fun h=>by omega⟩
    ·exact ⟨fun _=>by omega,fun _=>rfl⟩
   ·exact ⟨fun _=>by omega,fun _=>rfl⟩
 ·rw [if_neg hn,if_pos (by omega)]
  unfold small1
  split
  ·obtain ⟨f1,f2,f3⟩:=fit_same (s:=s.collection) (1 + r.toNat + w.toNat)
   have vf:=vc.fit (k:=1 + r.toNat + w.toNat)
   have q2:=vf.h2
   have room:=fit_room vc (n:=1 + r.toNat + w.toNat)
   unfold small2
   split
   ·exact ⟨fun h=>by exact absurd h (by show ¬ ((31:Int)=0); omega),fun h=>by omega⟩
   ·exact ⟨fun _=>by omega,fun _=>rfl⟩
  ·unfold small2
   rw [if_neg (by omega)]
   exact ⟨fun _=>by omega,fun _=>rfl⟩
end
end RS
end Go.Ev
set_option linter.all false
set_option maxRecDepth 100000
namespace Go.Ev
open Go.Proofs
namespace RS
theorem sum_pick {f:Nat→Nat}:∀ (m l:List Nat),l.Nodup→(∀ x ∈ l,x ∈ m)→(∀ x ∈ l,m.count x=1)→(m.map fun x=>if x ∈ l then f x else 0).sum=(l.map f).sum:=by
 intro m
 induction m with
 | nil =>
  intro l _ h _
  cases l with
  | nil=>rfl
  | cons y l=>exact absurd (h y (List.mem_cons_self ..)) (by simp)
 | cons y m ih =>
  intro l nd h hc
  by_cases hy:y ∈ l
  ·have nd':=nd.erase y
   have h':∀ x ∈ l.erase y,x ∈ m:=fun x hx=>by
    have hne:x ≠ y:=fun e=>(List.Nodup.not_mem_erase nd) (e ▸ hx)
    exact (List.mem_cons.1 (h x (List.mem_of_mem_erase hx))).resolve_left hne
   have hc':∀ x ∈ l.erase y,m.count x=1:=fun x hx=>by
    have hne:x ≠ y:=fun e=>(List.Nodup.not_mem_erase nd) (e ▸ hx)
    have:=hc x (List.mem_of_mem_erase hx)
    rwa [List.count_cons_of_ne (Ne.symm hne)] at this
   have e:=ih (l.erase y) nd' h' hc'
   have hym:y ∉ m:=fun hm=>by
    have h1:=hc y hy
    rw [List.count_cons_self] at h1
    have:=List.count_pos_iff.2 hm
    omega
   have e2:(m.map fun x=>if x ∈ l then f x else 0)=(m.map fun x=>if x ∈ l.erase y then f x else 0):=List.map_congr_left fun x hx=>by
    have hne:x ≠ y:=fun e=>hym (e ▸ hx)
    have q:=List.mem_erase_of_ne (l:=l) hne
    by_cases hl:x ∈ l
    ·rw [if_pos hl,if_pos (q.2 hl)]
    ·rw [if_neg hl,if_neg fun h=>hl (q.1 h)]
   rw [List.map_cons,List.sum_cons,if_pos hy,e2,e]
   have p:=(List.perm_cons_erase hy).map f
   rw [p.sum_nat]
   simp
  ·rw [List.map_cons,List.sum_cons,if_neg hy,Nat.zero_add]
   refine ih l nd (fun x hx=>(List.mem_cons.1 (h x hx)).resolve_left fun e=>hy (e ▸ hx)) fun x hx=>?_
   have hne:x ≠ y:=fun e=>hy (e ▸ hx)
   have:=hc x hx
   rwa [List.count_cons_of_ne (Ne.symm hne)] at this
theorem count_one:∀ (l:List Nat) (x:Nat),(∀ i j:Nat,l[i]?=some x→l[j]?=some x→i=j)→x ∈ l→l.count x=1:=by
 intro l
 induction l with
 | nil=>intro x _ h; simp at h
 | cons y l ih =>
  intro x hu hm
  by_cases e:y=x
  ·subst e
   rw [List.count_cons_self]
   have:y ∉ l:=fun h=>by
    obtain ⟨i,hi⟩:=List.mem_iff_getElem?.1 h
    have:=hu 0 (i + 1) rfl (by simpa using hi)
    omega
   rw [List.count_eq_zero.2 this]
  ·rw [List.count_cons_of_ne e]
   refine ih x (fun i j hi hj=>?_) ((List.mem_cons.1 hm).resolve_left fun h=>e h.symm)
   have:=hu (i + 1) (j + 1) (by simpa using hi) (by simpa using hj)
   omega
theorem collection_lsum {s:RS} (v:s.Inv):s.collection.large=s.lsum s.gcEnd.line:=by
 have k:=GcOk.at v s.objs.length
 show (s.slots.map fun id=>if id ∈ s.gcEnd.line then s.size id + 1 else 0).sum=_
 unfold lsum
 refine sum_pick (f:=fun id=>s.size id + 1) s.slots s.gcEnd.line (List.nodup_append.1 k.nd).2.1 (fun x hx=>(k.ln x hx).2) fun x hx=>?_
 obtain ⟨h0,hm⟩:=k.ln x hx
 exact count_one _ _ (fun i j hi hj=>(v.sl i x hi h0).2.2.2.symm.trans (v.sl j x hj h0).2.2.2) hm
end RS
end Go.Ev
set_option linter.all false
set_option maxRecDepth 100000
namespace Go.Ev
open Go.Proofs
theorem byteAt_bit (raws:List Nat) (j i:Nat):(byteAt raws j).testBit i=(decide (i < 8) && (raws.getD (j / 8) 0).testBit (j % 8 * 8 + i)):=by
 unfold byteAt
 rw [show (256:Nat)=2 ^ 8 from rfl,Nat.testBit_mod_two_pow,Nat.testBit_div_two_pow,Nat.add_comm i]
theorem byteAt_put {raws:List Nat} {j c:Nat} (hj:j / 8 < raws.length) (hc:c < 256) (k:Nat):byteAt (putByte raws j c) k=if k=j then c else byteAt raws k:=by
 have hcb:∀ i,8 ≤ i→c.testBit i=false:=testBit_lt (k:=8) hc
 apply Nat.eq_of_testBit_eq
 intro i
 rw [byteAt_bit]
 unfold putByte
 rw [List.getD_eq_getElem?_getD]
 by_cases hw:k / 8=j / 8
 ·rw [hw,List.getElem?_set_self hj]
  show (decide (i < 8) && (putW (raws.getD (j / 8) 0) (j % 8 * 8) c).testBit (k % 8 * 8 + i))=_
  rw [putW_bit hc]
  by_cases hk:k=j
  ·subst hk
   rw [if_pos rfl,if_neg (by omega)]
   by_cases hi:i < 8
   ·rw [if_pos (by omega),show k % 8 * 8 + i - k % 8 * 8=i by omega]; simp [hi]
   ·rw [hcb i (by omega)]; simp [hi]
  ·rw [if_neg hk,byteAt_bit,hw]
   by_cases hi:i < 8
   ·by_cases hlt:k % 8 < j % 8
    ·rw [if_pos (by omega)]
    ·rw [if_neg (by omega),if_neg (by omega)]
   ·simp [hi]
 ·have hk:k ≠ j:=fun e=>hw (by rw [e])
  rw [if_neg hk,List.getElem?_set_ne (Ne.symm hw),byteAt_bit,List.getD_eq_getElem?_getD]
theorem putByte_word {raws:List Nat} {j c:Nat} (hj:8 ≤ j):(putByte raws j c).getD 0 0=raws.getD 0 0:=by
 unfold putByte
 rw [List.getD_eq_getElem?_getD,List.getElem?_set_ne (by omega),← List.getD_eq_getElem?_getD]
theorem putBytes_word:∀ (l:List Nat) {raws:List Nat} {j:Nat},8 ≤ j→(putBytes raws j l).getD 0 0=raws.getD 0 0
 | [],_,_,_=>rfl
 | c :: l,raws,j,h=>by
  show (putBytes (putByte raws j c) (j + 1) l).getD 0 0=_
  rw [putBytes_word l (by omega),putByte_word h]
theorem putBytes_at:∀ (l:List Nat) {raws:List Nat} {p:Nat},p + l.length ≤ 8 * raws.length→(∀ c ∈ l,c < 256)→∀ k,byteAt (putBytes raws p l) k=if p ≤ k∧k < p + l.length then l.getD (k - p) 0 else byteAt raws k
 | [],raws,p,_,_,k=>by
  rw [if_neg (by rw [List.length_nil]; omega)]; rfl
 | c :: l,raws,p,h,hc,k=>by
  rw [List.length_cons] at h ⊢
  show byteAt (putBytes (putByte raws p c) (p + 1) l) k=_
  rw [putBytes_at l (by rw [putByte_len]; omega) (fun x hx=>hc x (List.mem_cons_of_mem _ hx)),byteAt_put (by omega) (hc c (List.mem_cons_self ..))]
  by_cases hk:k=p
  ·subst hk
   rw [if_neg (by omega),if_pos rfl,if_pos (by omega),Nat.sub_self]
   rfl
  ·by_cases h1:p + 1 ≤ k∧k < p + 1 + l.length
   ·rw [if_pos h1,if_pos (by omega),show k - p=(k - (p + 1)) + 1 by omega,List.getD_cons_succ]
   ·rw [if_neg h1,if_neg hk,if_neg (by omega)]
/-! ### A blob's words -/
def wordsN (n:Nat):Nat:=(n + 7) / 8
def Bytes8 (b:List Nat):Prop:=∀ c ∈ b,c < 256
structure IsRaws (raws b:List Nat):Prop where
 len:raws.length=1 + wordsN b.length
 h0:raws.getD 0 0=b.length
 at_:∀ j,j < 8 * wordsN b.length→byteAt raws (8 + j)=b.getD j 0
 lt:∀ x ∈ raws,x < 18446744073709551616
def blobRaws (b:List Nat):List Nat:=putBytes (b.length :: List.replicate (wordsN b.length) 0) 8 b
theorem byteAt_zero (n:Nat) (m j:Nat):byteAt (n :: List.replicate m 0) (8 + j)=0:=by
 unfold byteAt
 rw [show (8 + j) / 8=j / 8 + 1 by omega,List.getD_cons_succ]
 have:(List.replicate m 0).getD (j / 8) 0=0:=by
  rw [List.getD_eq_getElem?_getD,List.getElem?_replicate]
  split <;> rfl
 rw [this,Nat.zero_div]
theorem blobRaws_is {b:List Nat} (h8:Bytes8 b) (hl:b.length < 18446744073709551616):IsRaws (blobRaws b) b:=by
 have hlen:(b.length :: List.replicate (wordsN b.length) 0).length=1 + wordsN b.length:=by simp; omega
 have hw:b.length ≤ 8 * wordsN b.length:=by unfold wordsN; omega
 refine ⟨by unfold blobRaws; rw [putBytes_len,hlen],by unfold blobRaws; rw [putBytes_word _ (Nat.le_refl _)]; rfl,fun j hj=>?_,?_⟩
 ·unfold blobRaws
  rw [putBytes_at _ (by rw [hlen]; omega) h8]
  split
  ·rw [show 8 + j - 8=j by omega]
  ·rename_i hc
   rw [byteAt_zero,List.getD_eq_getElem?_getD,List.getElem?_eq_none (by omega)]; rfl
 ·refine putBytes_lt (fun x hx=>?_) h8
  rcases List.mem_cons.1 hx with e | e
  ·rw [e]; exact hl
  ·rw [(List.mem_replicate.1 e).2]; omega
/-! ### What Write leaves -/
def splice (b:List Nat) (p:Nat) (t:List Nat):List Nat:=(List.range (max b.length (p + t.length))).map fun j=>if p ≤ j∧j < p + t.length then t.getD (j - p) 0 else b.getD j 0
theorem splice_len (b:List Nat) (p:Nat) (t:List Nat):(splice b p t).length=max b.length (p + t.length):=by unfold splice; simp
theorem splice_at (b:List Nat) (p:Nat) (t:List Nat) (j:Nat):(splice b p t).getD j 0=if p ≤ j∧j < p + t.length then t.getD (j - p) 0 else b.getD j 0:=by
 rw [List.getD_eq_getElem?_getD]
 by_cases hj:j < max b.length (p + t.length)
 ·unfold splice
  rw [List.getElem?_map,List.getElem?_range hj]
  rfl
 ·rw [List.getElem?_eq_none (by rw [splice_len]; omega),if_neg (by omega),List.getD_eq_getElem?_getD,List.getElem?_eq_none (by omega)]
/-- Write in place. -/
theorem IsRaws.write {r b t:List Nat} {p:Nat} (h:IsRaws r b) (ht:Bytes8 t) (hw:wordsN (max b.length (p + t.length))=wordsN b.length) (hl:max b.length (p + t.length) < 18446744073709551616) :
  IsRaws (putBytes (r.set 0 (max b.length (p + t.length))) (8 + p) t) (splice b p t):=by
 have hn:p + t.length ≤ 8 * wordsN b.length:=by rw [← hw]; unfold wordsN; omega
 have hls:(r.set 0 (max b.length (p + t.length))).length=1 + wordsN b.length:=by rw [List.length_set]; exact h.len
 have hr0:0 < r.length:=by rw [h.len]; omega
 refine ⟨?_,?_,fun j hj=>?_,?_⟩
 ·rw [putBytes_len,hls,splice_len,hw]
 ·rw [putBytes_word _ (by omega),splice_len,List.getD_eq_getElem?_getD,List.getElem?_set_self hr0]; rfl
 ·rw [splice_len,hw] at hj
  rw [putBytes_at _ (by rw [hls]; omega) ht,splice_at]
  by_cases hc:p ≤ j∧j < p + t.length
  ·rw [if_pos (by omega),if_pos hc,show 8 + j - (8 + p)=j - p by omega]
  ·rw [if_neg (by omega),if_neg hc,← h.at_ j hj]
   unfold byteAt
   rw [List.getD_eq_getElem?_getD,List.getElem?_set_ne (by omega),← List.getD_eq_getElem?_getD]
 ·refine putBytes_lt (fun x hx=>?_) ht
  rcases List.mem_or_eq_of_mem_set hx with e | e
  ·exact h.lt x e
  ·rw [e]; exact hl
/-- The same, all of it at once. -/
theorem IsRaws.over {r b c:List Nat} (h:IsRaws r b) (hc:Bytes8 c) (hw:wordsN c.length=wordsN b.length) (hbl:b.length ≤ c.length) (hl:c.length < 18446744073709551616):IsRaws (putBytes (r.set 0 c.length) 8 c) c:=by
 have hn:c.length ≤ 8 * wordsN b.length:=by rw [← hw]; unfold wordsN; omega
 have hls:(r.set 0 c.length).length=1 + wordsN b.length:=by rw [List.length_set]; exact h.len
 have hr0:0 < r.length:=by rw [h.len]; omega
 refine ⟨?_,?_,fun j hj=>?_,?_⟩
 ·rw [putBytes_len,hls,hw]
 ·rw [putBytes_word _ (Nat.le_refl _),List.getD_eq_getElem?_getD,List.getElem?_set_self hr0]; rfl
 ·rw [hw] at hj
  rw [putBytes_at _ (by rw [hls]; omega) hc]
  by_cases hc:j < c.length
  ·rw [if_pos (by omega),show 8 + j - 8=j by omega]
  ·rw [if_neg (by omega),List.getD_eq_getElem?_getD,List.getElem?_eq_none (by omega)]
   have:=h.at_ j hj
   rw [List.getD_eq_getElem?_getD,List.getElem?_eq_none (by omega)] at this
   rw [← this]
   unfold byteAt
   rw [List.getD_eq_getElem?_getD,List.getElem?_set_ne (by omega),← List.getD_eq_getElem?_getD]
 ·refine putBytes_lt (fun x hx=>?_) hc
  rcases List.mem_or_eq_of_mem_set hx with e | e
  ·exact h.lt x e
  ·rw [e]; exact hl
/-- What Read tells. -/
theorem IsRaws.read {r b:List Nat} (h:IsRaws r b):(List.range b.length).map (fun j=>byteAt r (8 + j))=b:=by
 apply List.ext_getElem?
 intro j
 by_cases hj:j < b.length
 ·rw [List.getElem?_map,List.getElem?_range hj,List.getElem?_eq_getElem hj]
  show some (byteAt r (8 + j))=_
  rw [h.at_ j (by unfold wordsN; omega),List.getD_eq_getElem?_getD,List.getElem?_eq_getElem hj]
  rfl
 ·rw [List.getElem?_eq_none (by simp; omega),List.getElem?_eq_none (by omega)]
end Go.Ev
