/- The handles, Stats, Image, New: as the document's heap / Alloc: as the document's heap. No condition but that these are ones. -/
import Derived.Test.YtngcoodbepbhbaaE12
set_option linter.all false
set_option maxRecDepth 100000
namespace Go.Ev
open Go.Proofs
theorem row_st {h:Hp} {b:Nat} {cs:List Value} {i:Nat} {v:Value} (hr:Row h b cs) {a:Addr} (ha:a=⟨b,i,none⟩) (hi:i < cs.length) {K:Hp→Prop} (hK:∀ h',Row h' b (cs.set i v)→Kept (fun x=>x=b) h h'→K h') :
  Go.Ev.stOk h a∧Let (setc h a v) fun h'=>K h':=by
 subst ha
 exact ⟨stOk_row hr hi,hK _ (row_setc hr i v) (kept_setc h i v rfl)⟩
namespace RS
def new (n:Nat):RS:={ limit:=n,half:=64,used:=1,large:=0,since:=0,kept:=0,objs:=[RObj.no],small:=[],slots:=[],roots:=[],coll:=0,resz:=0,moved:=0 }
theorem new_inv {n:Nat} (h1:128 ≤ n) (h2:n ≤ 1048576):(new n).Inv:=by
 refine ⟨h1,h2,Nat.le_refl _,?_,rfl,?_,rfl,Nat.zero_le _,Nat.zero_le _,List.nodup_nil,nofun,?_,?_,nofun,?_,Nat.le_refl _,Nat.zero_le _,Nat.zero_le _⟩
 ·show 2 * 64 + 0 ≤ n; omega
 ·show 1 ≤ 64; omega
 ·intro i id h; simp [new] at h
 ·rintro id (h | ⟨_,h⟩) <;> cases h
 ·rintro id (h | ⟨_,h⟩) <;> cases h
def slotsN (s:RS):Nat:=(s.slots.filter fun x=>decide (x ≠ 0)).length
def rootsN (s:RS):Nat:=(s.roots.filter Option.isSome).length
def stats (s:RS):List Int:=[s.limit,s.half,s.used,s.large,s.slotsN,s.rootsN,s.coll,s.resz,s.moved]
theorem hand_words (s:RS) (n:Int) (h1:1 ≤ n) (h2:n ≤ (s.roots.length:Nat)):∃ x,s.roots[(n - 1).toNat]?=some x∧s.hand n=x:=by
 have hl:(n - 1).toNat < s.roots.length:=by omega
 refine ⟨s.roots[(n - 1).toNat],List.getElem?_eq_getElem hl,?_⟩
 unfold hand
 rw [if_pos ⟨h1,h2⟩,List.getD_eq_getElem?_getD,List.getElem?_eq_getElem hl]
 rfl
theorem withRoots_words (s:RS) (l:List (Option Nat)) (sp:List AObj):(s.withRoots l).words sp={ s.words sp with roots:=l.map s.rootW,r5:=(l.filter Option.isSome).length }:=by
 unfold words
 have e1:(s.withRoots l).rootW=s.rootW:=by funext x; cases x <;> rfl
 rw [e1]
 rfl
end RS
section
variable {h:Hp} {hb:Nat} {role:Nat→Role} {m:MH} {G:Geo} {s:RS} {sp:List AObj}
theorem hheld_ok (v:s.Inv) (rp:HRep h hb role (s.words sp) G) {n:Int} {R:Value→Hp→Prop} (hR:R (.bool (s.hand n).isSome) h):CallTo Try.prog 78 #[.pointer (some (ad hb)),.int .i64 n] h R:=by
 have hrl:=v.rl
 refine f78F_ok ?_
 unfold f78F
 have hn:=rp.ts_n
 have hn:G.ts.n=(s.roots.map s.rootW).length:=hn
 rw [List.length_map] at hn
 have c9:cell h ((ad hb).add 9)=some (.slice G.ts.a G.ts.n G.ts.c):=(rp.c 9).trans rfl
 refine Cond_dec (fun h1=>?_) fun h1=>?_
 ·refine PtrOk_mk ⟨G.ts,c9,Cond_dec (fun h2=>?_) fun h2=>?_⟩
  ·obtain ⟨x,hx,hh⟩:=s.hand_words n (by omega) (by omega)
   have hxr:(s.words sp).roots[(n - 1).toNat]?=some (s.rootW x):=by show (s.roots.map s.rootW)[(n - 1).toNat]?=_; rw [List.getElem?_map,hx]; rfl
   obtain ⟨b,ha,k1,k2,k3,_⟩:=rp.root_at hxr
   rw [wrap_ar (x:=n - 1) (by omega) (by omega)]
   refine PtrOk_mk ⟨G.ts,c9,⟨by omega,by omega⟩,PtrOk_of ha ⟨(s.rootW x).1,k1,?_⟩⟩
   rw [hh] at hR
   cases x <;> exact hR
  ·have:s.hand n=none:=by unfold RS.hand; rw [if_neg (by omega)]
   rw [this] at hR
   exact hR
 ·have:s.hand n=none:=by unfold RS.hand; rw [if_neg (by omega)]
  rw [this] at hR
  exact hR
theorem hat_ok (v:s.Inv) (rp:HRep h hb role (s.words sp) G) {n:Int} {R:Value→Hp→Prop} (hR:R (.tuple #[uv (s.atF n).1,.int .i64 (s.atF n).2]) h):CallTo Try.prog 67 #[.pointer (some (ad hb)),.int .i64 n] h R:=by
 have hrl:=v.rl
 refine f67F_ok ?_
 unfold f67F
 refine hheld_ok v rp ⟨_,rfl,?_⟩
 unfold RS.atF at hR
 cases hh:s.hand n with
 | none=>rw [hh] at hR; exact Cond_t rfl hR
 | some id =>
  rw [hh] at hR
  obtain ⟨h1,h2,hx⟩:=RS.hand_some hh
  have c9:cell h ((ad hb).add 9)=some (.slice G.ts.a G.ts.n G.ts.c):=(rp.c 9).trans rfl
  have hxr:(s.words sp).roots[(n - 1).toNat]?=some (s.rootW (some id)):=by show (s.roots.map s.rootW)[(n - 1).toNat]?=_; rw [List.getElem?_map,hx]; rfl
  obtain ⟨b,ha,k1,k2,k3,_⟩:=rp.root_at hxr
  rw [wrap_ar (x:=n - 1) (by omega) (by omega)]
  exact Cond_f rfl (PtrOk_mk ⟨G.ts,c9,⟨by omega,by omega⟩,PtrOk_of ha ⟨_,k2,hR⟩⟩)
theorem hdrop_F (v:s.Inv) (rp:HRep h hb role (s.words sp) G) {n:Int} {R:Value→Hp→Prop}
  (hR:∀ h' role' G',HRep h' hb role' ((s.dropF n).1.words sp) G'→ExtO h role h' role'→R (.int .i64 (s.dropF n).2) h'):f63F (some (ad hb)) n h R:=by
 have hrl:=v.rl
 unfold f63F
 refine hheld_ok v rp ⟨_,rfl,?_⟩
 unfold RS.dropF at hR
 cases hh:s.hand n with
 | none=>rw [hh] at hR; exact Cond_t rfl (hR h role G rp (ExtO.refl h role))
 | some id =>
  rw [hh] at hR
  obtain ⟨h1,h2,hx⟩:=RS.hand_some hh
  have hlt:=(List.getElem?_eq_some_iff.1 hx).1
  have c9:cell h ((ad hb).add 9)=some (.slice G.ts.a G.ts.n G.ts.c):=(rp.c 9).trans rfl
  have hxr:(s.words sp).roots[(n - 1).toNat]?=some (s.rootW (some id)):=by show (s.roots.map s.rootW)[(n - 1).toNat]?=_; rw [List.getElem?_map,hx]; rfl
  have htn:=rp.ts_n
  have htn:G.ts.n=(s.roots.map s.rootW).length:=htn
  rw [List.length_map] at htn
  rw [wrap_ar (x:=n - 1) (by omega) (by omega)]
  obtain ⟨b,ha,st,rp1,x1⟩:=rp.setUsed hxr false
  refine Cond_f rfl (PtrOk_mk ⟨G.ts,c9,⟨by omega,by omega⟩,PtrOk_of ha ⟨st,Let_mk fun h2 e2=>?_⟩⟩)
  rw [← e2] at rp1 x1
  have hxr1:((s.words sp).roots.set (n - 1).toNat (false,(s.rootW (some id)).2))[(n - 1).toNat]?=some (false,(s.rootW (some id)).2):=List.getElem?_set_self (by show _ < (s.roots.map s.rootW).length; rw [List.length_map]; exact hlt)
  obtain ⟨b',ha',st2,rp2,x2⟩:=rp1.setRoot hxr1 0
  rw [ha] at ha'
  obtain rfl:b=b':=by simpa [ad] using ha'
  refine ⟨st2,Let_mk fun h3 e3=>?_⟩
  have rp2:HRep h3 hb role _ G:=e3 ▸ rp2
  have x2:Ext h2 role h3 role:=e3 ▸ x2
  have c15:cell h3 (((ad hb).add 10).add 5)=some (.int .i64 ((s.roots.filter Option.isSome).length:Nat)):=by rw [add_hd]; exact (cell_row rp2.row 15).trans rfl
  refine PtrOk_mk ⟨_,c15,PtrOk_mk ?_⟩
  have hcn:=RS.count_none _ _ _ hx
  have hle:(s.roots.filter Option.isSome).length ≤ s.roots.length:=List.length_filter_le _ _
  rw [wrap_ar (x:=(((s.roots.filter Option.isSome).length:Nat):Int) - 1) (by omega) (by omega)]
  have ev:(((s.roots.filter Option.isSome).length:Nat):Int) - 1=(((s.roots.set (n - 1).toNat none).filter Option.isSome).length:Nat):=by omega
  rw [ev]
  refine rp2.num (i:=15) (m':={ s.words sp with roots:=((s.words sp).roots.set (n - 1).toNat (false,(s.rootW (some id)).2)).set (n - 1).toNat (false,0),r5:=((s.roots.set (n - 1).toNat none).filter Option.isSome).length }) (add_hd _ _ _) (by omega) rfl rfl rfl rfl rfl rfl rfl rfl rfl fun h4 rp4 x4=>?_
  refine hR h4 role G ?_ ((x1.trans x2).trans x4).o
  show HRep _ hb role ((s.withRoots _).words sp) G
  rw [RS.withRoots_words,List.map_set]
  rw [List.set_set] at rp4
  exact rp4
theorem hdrop_ok (v:s.Inv) (rp:HRep h hb role (s.words sp) G) {n:Int} {R:Value→Hp→Prop}
  (hR:∀ h' role' G',HRep h' hb role' ((s.dropF n).1.words sp) G'→ExtO h role h' role'→R (.int .i64 (s.dropF n).2) h'):CallTo Try.prog 63 #[.pointer (some (ad hb)),.int .i64 n] h R:=f63F_ok (hdrop_F v rp hR)
theorem hroot_ok (v:s.Inv) (rp:HRep h hb role (s.words sp) G) (hl:s.roots.length < 100000000) {r:Nat} (hr:r < 18446744073709551616) {R:Value→Hp→Prop}
  (hR:∀ h' role' G',HRep h' hb role' ((s.rootF r).1.words sp) G'→ExtO h role h' role'→R (.tuple #[.int .i64 ((s.rootF r).2.1:Nat),.int .i64 (s.rootF r).2.2]) h'):CallTo Try.prog 66 #[.pointer (some (ad hb)),uv r] h R:=by
 refine f66F_ok ?_
 unfold f66F
 refine hgood_ok v rp hr ⟨_,rfl,?_⟩
 unfold RS.rootF at hR
 cases hg:s.goodR r with
 | false=>rw [hg] at hR; exact Cond_t rfl (hR h role G rp (ExtO.refl h role))
 | true =>
  rw [hg] at hR
  refine Cond_f rfl ?_
  have c15:cell h (((ad hb).add 10).add 5)=some (.int .i64 ((s.roots.filter Option.isSome).length:Nat)):=by rw [add_hd]; exact (cell_row rp.row 15).trans rfl
  have hle:(s.roots.filter Option.isSome).length ≤ s.roots.length:=List.length_filter_le _ _
  refine PtrOk_mk ⟨_,c15,PtrOk_mk ?_⟩
  rw [wrap_ar (x:=(((s.roots.filter Option.isSome).length:Nat):Int) + 1) (by omega) (by omega)]
  have ev:(((s.roots.filter Option.isSome).length:Nat):Int) + 1=((s.roots.filter Option.isSome).length + 1:Nat):=by omega
  rw [ev]
  refine rp.num (i:=15) (m':={ s.words sp with r5:=(s.roots.filter Option.isSome).length + 1 }) (add_hd _ _ _) (by omega) rfl rfl rfl rfl rfl rfl rfl rfl rfl fun h2 rp2 x2=>?_
  have htn:=rp2.ts_n
  have htn:G.ts.n=(s.roots.map s.rootW).length:=htn
  rw [List.length_map] at htn
  have c9:cell h2 ((ad hb).add 9)=some (.slice G.ts.a G.ts.n G.ts.c):=(rp2.c 9).trans rfl
  refine PtrOk_mk ⟨G.ts,c9,?_⟩
  rw [htn]
  have erw:s.rootW (some (s.ident r))=(true,r):=by show (true,s.ref (s.ident r))=(true,r); rw [RS.goodR_ref v hg]
  refine f66L1_rule (fun q s0 s1 s24 s25 h'=>∃ i:Nat,i ≤ s.roots.length∧q=s.roots.length - i∧s0=some (ad hb)∧s1=(r:Int)∧s24=((s.roots.length:Nat):Int)∧s25=(i:Int)∧h'=h2∧∀ j,j < i→∃ x,s.roots[j]?=some (some x)) s.roots.length
   ⟨0,Nat.zero_le _,rfl,rfl,rfl,rfl,rfl,rfl,fun j hj=>absurd hj (Nat.not_lt_zero _)⟩ ?_
  rintro q s0 s1 s24 s25 g h' ⟨i,hi,rfl,rfl,rfl,rfl,rfl,rfl,hall⟩
  unfold f66L1
  refine Cond_dec (fun hlt=>?_) fun hge=>?_
  ·have hlt:i < s.roots.length:=by omega
   obtain ⟨x,hx⟩:∃ x,s.roots[i]?=some x:=⟨_,List.getElem?_eq_getElem hlt⟩
   have hxr:({ s.words sp with r5:=(s.roots.filter Option.isSome).length + 1 }:MH).roots[i]?=some (s.rootW x):=by show (s.roots.map s.rootW)[i]?=_; rw [List.getElem?_map,hx]; rfl
   obtain ⟨b,ha,k1,k2,k3,_⟩:=rp2.root_at hxr
   have cb:(0:Int) ≤ (i:Int)∧(i:Int) < ((G.ts.n:Nat):Int):=by omega
   have hwr:IntKind.wrap .i64 ((i:Int) + 1)=((i + 1:Nat):Int):=by rw [wrap_ar (by omega) (by omega)]; rfl
   refine PtrOk_mk ⟨G.ts,c9,cb,PtrOk_of ha ⟨(s.rootW x).1,by rw [Int.toNat_natCast]; exact k1,?_⟩⟩
   cases x with
   | some y =>
    refine Cond_f rfl ?_
    refine ⟨s.roots.length - (i + 1),by omega,i + 1,hlt,rfl,rfl,rfl,rfl,hwr,rfl,fun j hj=>?_⟩
    rcases Nat.lt_or_ge j i with hji | hji
    ·exact hall j hji
    ·obtain rfl:j=i:=by omega
     exact ⟨y,hx⟩
   | none =>
    have hf:RS.freeAt s.roots=i:=RS.freeAt_eq _ _ hall (.inl hx)
    rw [hf,if_pos rfl,if_pos hlt] at hR
    obtain ⟨b1,ha1,st,rp3,x3⟩:=rp2.setUsed hxr true
    rw [ha] at ha1
    obtain rfl:b=b1:=by simpa [ad] using ha1
    refine Cond_t rfl (PtrOk_mk ⟨G.ts,c9,cb,PtrOk_of ha ?_⟩)
    rw [Int.toNat_natCast]
    refine ⟨st,Let_mk fun h3 e3=>?_⟩
    rw [← e3] at rp3 x3
    have hxr1:((s.roots.map s.rootW).set i (true,(s.rootW none).2))[i]?=some (true,(s.rootW none).2):=List.getElem?_set_self (by rw [List.length_map]; exact hlt)
    obtain ⟨b2,ha2,st2,rp4,x4⟩:=rp3.setRoot hxr1 r
    rw [ha] at ha2
    obtain rfl:b=b2:=by simpa [ad] using ha2
    refine ⟨st2,?_⟩
    rw [hwr]
    refine hR _ role G ?_ ((x2.trans x3).trans x4).o
    rw [RS.withRoots_words,RS.count_some _ _ _ hx,List.map_set,erw]
    have e:(((s.roots.map s.rootW).set i (true,(s.rootW none).2)).set i (true,r))=(s.roots.map s.rootW).set i (true,r):=List.set_set ..
    rw [← e]
    exact rp4
  ·have hie:i=s.roots.length:=by omega
   have hf:RS.freeAt s.roots=i:=RS.freeAt_eq _ _ hall (.inr hie)
   rw [hf,if_pos rfl,if_neg (by omega)] at hR
   refine PtrOk_mk ⟨G.ts,c9,?_⟩
   refine rp2.addRoot (ref:=r) (by show (s.roots.map s.rootW).length ≤ _; rw [List.length_map]; omega) fun h3 role3 G3 rp3 x3=>?_
   have htn3:=rp3.ts_n
   have htn3:G3.ts.n=(s.roots.map s.rootW ++ [(true,r)]).length:=htn3
   have hlen:(s.roots.map s.rootW ++ [(true,r)]).length=i + 1:=by rw [List.length_append,List.length_map,hie]; rfl
   have c9':cell h3 ((ad hb).add 9)=some (.slice G3.ts.a G3.ts.n G3.ts.c):=(rp3.c 9).trans rfl
   refine PtrOk_mk ⟨G3.ts,c9',?_⟩
   rw [htn3,hlen]
   refine hR h3 role3 G3 ?_ (x2.trans x3).o
   rw [RS.withRoots_words,List.map_append,List.filter_append,List.length_append]
   show HRep h3 hb role3 { s.words sp with roots:=s.roots.map s.rootW ++ [s.rootW (some (s.ident r))],r5:=_ } G3
   rw [erw]
   exact rp3
theorem hnew_ok {n:Int} {h:Hp} {R:Value→Hp→Prop} (hbad:¬ (128 ≤ n∧n ≤ 1048576)→R (.tuple #[.pointer none,.int .i64 30]) h)
  (hgood:∀ h' hb role G,128 ≤ n∧n ≤ 1048576→HRep h' hb role ((RS.new n.toNat).words []) G→(∀ b,role b ≠ .out→h.size ≤ b)→Kept N h h'→R (.tuple #[.pointer (some (ad hb)),.int .i64 0]) h'):CallTo Try.prog 9 #[.int .i64 n] h R:=by
 refine f9F_ok ?_
 unfold f9F
 have bad:¬ (128 ≤ n∧n ≤ 1048576)→f9K1 n true h R:=fun c=>by unfold f9K1; exact Cond_t rfl (hbad c)
 refine Cond_dec (fun c=>bad (by omega)) fun c1=>?_
 by_cases c2:n > 1048576
 ·rw [decide_eq_true c2]; exact bad (by omega)
 rw [decide_eq_false c2]
 unfold f9K1
 refine Cond_f rfl (Let_mk fun h1 e1=>?_)
 have k1:Kept N h h1:=e1 ▸ kept_push _ _ _
 have row1:=row_new h #[.int .i64 n,.pointer none,.pointer none,.slice none 0 0,.slice none 0 0,.slice none 0 0,.int .i64 0,.int .i64 0,.int .i64 0,.slice none 0 0,.int .i64 0,.int .i64 0,.int .i64 0,.int .i64 0,.int .i64 0,.int .i64 0,.int .i64 0,.int .i64 0,.int .i64 0] 103
 rw [← e1] at row1
 have hz1:h1.size=h.size + 1:=by rw [e1]; simp
 refine anew_ok (fun hb'=>absurd ⟨by omega,by omega⟩ hb') fun L1 h2 _ a1 f1 k2=>⟨_,_,rfl,?_⟩
 have row2:=kept_row k2 row1 id
 refine row_st row2 (i:=1) (add_ad _ _) (by show 1 < 19; omega) fun h3 row3 k3=>?_
 refine anew_ok (fun hb'=>absurd ⟨by omega,by omega⟩ hb') fun L2 h4 _ a2 f2 k4=>⟨_,_,rfl,?_⟩
 have row4:=kept_row k4 row3 id
 refine row_st row4 (i:=2) (add_ad _ _) (by show 2 < 19; omega) fun h5 row5 k5=>?_
 have l1:∀ b,L1.fp b→b < h2.size:=a1.lt
 have l2:∀ b,L2.fp b→b < h4.size:=a2.lt
 have s2:=k2.1; have s3:=k3.1; have s4:=k4.1; have s5:=k5.1
 have d12:∀ b,L2.fp b→¬ L1.fp b:=fun b q1 q2=>by have:=f2 b q1; have:=l1 b q2; omega
 have d1:¬ L1.fp h.size:=fun q=>by have:=f1 _ q; omega
 have d2:¬ L2.fp h.size:=fun q=>by have:=f2 _ q; omega
 let role:Nat→Role:=fun b=>if b=h.size then .hd else if L1.fp b then .half else if L2.fp b then .spare else .out
 have r0:role h.size=.hd:=if_pos rfl
 have r1:∀ b,L1.fp b→role b=.half:=fun b hb'=>(if_neg fun e:b=h.size=>d1 (e ▸ hb')).trans (if_pos hb')
 have r2:∀ b,L2.fp b→role b=.spare:=fun b hb'=>(if_neg fun e:b=h.size=>d2 (e ▸ hb')).trans ((if_neg (d12 b hb')).trans (if_pos hb'))
 have ro:∀ b,b ≠ h.size→¬ L1.fp b→¬ L2.fp b→role b=.out:=fun b q1 q2 q3=>(if_neg q1).trans ((if_neg q2).trans (if_neg q3))
 obtain ⟨k,rfl⟩:=Int.eq_ofNat_of_zero_le (show 0 ≤ n by omega)
 have k35:Kept (fun b=>b=h.size) h3 h5:=(k4.mono fun _ _ e=>e.elim).trans k5
 refine hgood h5 h.size role ⟨L1,L2,[],⟨none,0,0⟩,none,⟨none,0,0⟩,none,⟨none,0,0⟩,none,⟨none,0,0⟩,none⟩ ⟨by omega,by omega⟩ ⟨?_,r0,fun b hb'=>ro b (by omega) (fun q=>by have:=l1 b q; omega) (fun q=>by have:=l2 b q; omega),?_,r1,?_,r2,slAt_nil 1 _,nofun,rfl,fun i o L h1 h2=>?_,slAt_nil 1 _,nofun,slO_nil 1 _,nofun,slAt_nil 2 _,nofun⟩ (fun b hne=>?_) ?_
 ·exact row5
 ·have k25:Kept (fun b=>b=h.size) h2 h5:=k3.trans k35
  exact a1.keep k25 fun b q (e:b=h.size)=>d1 (e ▸ q)
 ·have k5:Kept (fun b=>b=h.size) h4 h5:=k5
  exact a2.keep k5 fun b q (e:b=h.size)=>d2 (e ▸ q)
 ·simp [RS.words,RS.new] at h1
 ·rcases Nat.lt_or_ge b h.size with hl | hl
  ·exact absurd (ro b (by omega) (fun q=>by have:=f1 b q; omega) (fun q=>by have:=f2 b q; omega)) hne
  ·exact hl
 ·exact ⟨by omega,fun b hb' _=>by
   rw [k35.2 b (by omega) (by omega),k3.2 b (by omega) (by omega),k2.2 b (by omega) id,k1.2 b hb' id]⟩
end
end Go.Ev
set_option linter.all false
set_option maxRecDepth 100000
namespace Go.Ev
open Go.Proofs
instance (k r w:Int):Decidable (Shape k r w):=inferInstanceAs (Decidable ((_∧_)∧(_∧_)∧(_∧_)))
namespace RS
def mkO (k r w:Nat) (big:Bool) (pl:Nat):RObj:=⟨k,List.replicate r 0,List.replicate w 0,big,pl⟩
def addSmall (s:RS) (k r w:Nat):RS:={ s with small:=s.small ++ [s.objs.length],objs:=s.objs ++ [mkO k r w false s.used],used:=s.used + (1 + r + w) }
def freeSlot:List Nat→Nat
 | []=>0
 | x :: l=>if x=0 then 0 else freeSlot l + 1
def addBig (s:RS) (k r w:Nat):RS :=
 {s with
  large:=s.large + (2 + r + w)
  since:=s.since + (2 + r + w)
  slots:=(if freeSlot s.slots < s.slots.length then s.slots.set (freeSlot s.slots) s.objs.length else s.slots ++ [s.objs.length])
  objs:=s.objs ++ [mkO k r w true (freeSlot s.slots)] }
def block1 (s:RS) (b:Nat):RS:=if s.limit < 2 * s.half + s.large + b ∨ s.half + s.kept < s.since + b then s.collect else s
def block2 (s:RS) (k r w:Nat):RS × Nat × Int :=
 if s.limit < 2 * s.half + s.large + (2 + r + w) then
  (if s.limit < s.large + (2 + r + w) ∨ (s.limit - s.large - (2 + r + w)) / 2 < 64 ∨ (s.limit - s.large - (2 + r + w)) / 2 < s.used then (s,0,31)
  else ((s.become ((s.limit - s.large - (2 + r + w)) / 2)).addBig k r w,top + freeSlot s.slots,0))
 else (s.addBig k r w,top + freeSlot s.slots,0)
def block (s:RS) (k r w:Nat):RS × Nat × Int:=(s.block1 (2 + r + w)).block2 k r w
def small1 (s:RS) (n:Nat):RS:=if s.half < s.used + n then s.collection.fit n else s
def small2 (s:RS) (k r w:Nat):RS × Nat × Int:=if s.half < s.used + (1 + r + w) then (s,0,31) else (s.addSmall k r w,s.used,0)
def alloc (s:RS) (k r w:Int):RS × Nat × Int :=
 if Shape k r w then
  (if 64 < 1 + r.toNat + w.toNat then s.block k.toNat r.toNat w.toNat else (s.small1 (1 + r.toNat + w.toNat)).small2 k.toNat r.toNat w.toNat)
 else (s,0,34)
theorem freeSlot_eq:∀ (l:List Nat) (i:Nat),(∀ j,j < i→∃ x,l[j]?=some x∧x ≠ 0)→(l[i]?=some 0 ∨ i=l.length)→freeSlot l=i
 | [],i,h,e=>by
  rcases e with e | e
  ·simp at e
  ·rw [e]; rfl
 | y :: l,0,_,e=>by
  rcases e with e | e
  ·obtain rfl:y=0:=by simpa using e
   rfl
  ·simp at e
 | y :: l,i + 1,h,e=>by
  obtain ⟨x,hx,h0⟩:=h 0 (by omega)
  obtain rfl:y=x:=by simpa using hx
  show (if y=0 then 0 else freeSlot l + 1)=i + 1
  rw [if_neg h0,freeSlot_eq l i (fun j hj=>by have:=h (j + 1) (by omega); simpa using this) (by simpa using e)]
theorem freeSlot_facts:∀ (l:List Nat),freeSlot l ≤ l.length∧(freeSlot l < l.length→l[freeSlot l]?=some 0)∧(∀ j,j < freeSlot l→∃ x,l[j]?=some x∧x ≠ 0)
 | []=>⟨Nat.le_refl _,nofun,nofun⟩
 | y :: l=>by
  obtain ⟨h1,h2,h3⟩:=freeSlot_facts l
  by_cases hy:y=0
  ·subst hy
   exact ⟨Nat.zero_le _,fun _=>rfl,nofun⟩
  ·have e:freeSlot (y :: l)=freeSlot l + 1:=if_neg hy
   rw [e]
   refine ⟨Nat.succ_le_succ h1,fun h=>?_,fun j hj=>?_⟩
   ·rw [List.getElem?_cons_succ]; exact h2 (by simpa using h)
   ·cases j with
    | zero=>exact ⟨y,rfl,hy⟩
    | succ j=>rw [List.getElem?_cons_succ]; exact h3 j (by omega)
section
variable {s:RS}
theorem app_obj (s t:RS) (o:RObj) (e:t.objs=s.objs ++ [o]) (x:Nat):t.obj x=if x=s.objs.length then o else s.obj x:=by
 unfold obj
 rw [e,List.getD_eq_getElem?_getD,List.getD_eq_getElem?_getD]
 rcases Nat.lt_trichotomy x s.objs.length with h | h | h
 ·rw [List.getElem?_append_left h,if_neg (by omega)]
 ·subst h
  rw [List.getElem?_append_right (Nat.le_refl _),Nat.sub_self,if_pos rfl]; rfl
 ·rw [List.getElem?_eq_none (by simp; omega),List.getElem?_eq_none (by omega),if_neg (by omega)]
theorem app_old {t:RS} {o:RObj} (e:t.objs=s.objs ++ [o]) {x:Nat} (hx:x < s.objs.length):t.obj x=s.obj x:=by rw [app_obj s t o e,if_neg (by omega)]
theorem app_new {t:RS} {o:RObj} (e:t.objs=s.objs ++ [o]):t.obj s.objs.length=o:=by rw [app_obj s t o e,if_pos rfl]
theorem app_ref (v:s.Inv) {t:RS} {o:RObj} (e:t.objs=s.objs ++ [o]) {x:Nat} (hx:x=0 ∨ s.here x):t.ref x=s.ref x:=by
 unfold ref
 by_cases h0:x=0
 ·rw [if_pos h0,if_pos h0]
 ·rw [app_old e (v.here_lt (hx.resolve_left h0))]
theorem app_enc (v:s.Inv) {t:RS} {o:RObj} (e:t.objs=s.objs ++ [o]) {x:Nat} (hx:s.here x):t.enc x=s.enc x:=by
 unfold enc
 rw [app_old e (v.here_lt hx)]
 congr 1
 exact List.map_congr_left fun y hy=>app_ref v e (v.rf x hx y hy)
theorem app_encNew {t:RS} {k r w pl:Nat} {big:Bool} (e:t.objs=s.objs ++ [mkO k r w big pl]):t.enc s.objs.length=newO k r w:=by
 unfold enc
 rw [app_new e]
 show (⟨k,(List.replicate r 0).map t.ref,List.replicate w 0,none⟩:AObj)=⟨k,List.replicate r 0,List.replicate w 0,none⟩
 rw [List.map_replicate,ref_zero]
theorem app_rootW (v:s.Inv) {t:RS} {o:RObj} (e:t.objs=s.objs ++ [o]):s.roots.map t.rootW=s.roots.map s.rootW:=by
 refine List.map_congr_left fun x hx=>?_
 cases x with
 | none=>rfl
 | some id=>show (true,_)=(true,_); rw [app_ref v e (v.rt id hx)]
theorem app_size {t:RS} {o:RObj} (e:t.objs=s.objs ++ [o]) {x:Nat} (hx:x < s.objs.length):t.size x=s.size x:=by unfold size; rw [app_old e hx]
theorem mk_size (k r w pl:Nat) (b:Bool):(mkO k r w b pl).size=1 + r + w:=by unfold mkO RObj.size; simp
theorem mk_shp {k r w pl:Nat} {b:Bool} (h1:1 ≤ k) (h2:k ≤ 255) (h3:r ≤ 1048576) (h4:w ≤ 1048576):1 ≤ (mkO k r w b pl).kind∧(mkO k r w b pl).kind ≤ 255∧(mkO k r w b pl).refs.length ≤ 1048576∧(mkO k r w b pl).raws.length ≤ 1048576∧∀ x ∈ (mkO k r w b pl).raws,x < 18446744073709551616 :=
 ⟨h1,h2,by simpa [mkO] using h3,by simpa [mkO] using h4,fun x hx=>by have hx:x ∈ List.replicate w 0:=hx; rw [(List.mem_replicate.1 hx).2]; omega⟩
theorem Inv.addSmall (v:s.Inv) {k r w:Nat} (h1:1 ≤ k) (h2:k ≤ 255) (h3:r ≤ 1048576) (h4:w ≤ 1048576) (h5:1 + r + w ≤ 64) (h6:s.used + (1 + r + w) ≤ s.half):(s.addSmall k r w).Inv:=by
 have e:(s.addSmall k r w).objs=s.objs ++ [mkO k r w false s.used]:=rfl
 have hlt:∀ x ∈ s.small,x < s.objs.length:=fun x hx=>(v.sm x hx).2.1
 have hnm:s.objs.length ∉ s.small:=fun h=>by have:=hlt _ h; omega
 have esz:∀ x ∈ s.small,(s.addSmall k r w).size x=s.size x:=fun x hx=>app_size e (hlt x hx)
 have hhere:∀ x,(s.addSmall k r w).here x→s.here x ∨ x=s.objs.length:=fun x hx=>by
  rcases hx with hx | hx
  ·rcases List.mem_append.1 (show x ∈ s.small ++ [s.objs.length] from hx) with hx | hx
   ·exact .inl (.inl hx)
   ·exact .inr (List.mem_singleton.1 hx)
  ·exact .inl (.inr hx)
 have hup:∀ x,s.here x→(s.addSmall k r w).here x:=fun x hx=>hx.imp_left fun hx=>List.mem_append_left _ hx
 have hnew:(s.addSmall k r w).size s.objs.length=1 + r + w:=by unfold size; rw [app_new e,mk_size]
 refine ⟨v.l1,v.l2,v.h1,v.h2,?_,h6,?_,v.sll,v.rl,?_,?_,?_,?_,?_,?_,?_,v.kp,v.sn⟩
 ·show s.used + (1 + r + w)=1 + (s.addSmall k r w).sizes (s.small ++ [s.objs.length])
  rw [sizes_snoc,sizes_congr esz,hnew,v.u1]
  omega
 ·show s.large=(s.slots.map _).sum
  rw [v.lg]
  congr 1
  refine List.map_congr_left fun x hx=>?_
  by_cases h0:x=0
  ·rw [if_pos h0,if_pos h0]
  ·rw [if_neg h0,if_neg h0,app_size e (v.here_lt (.inr ⟨h0,hx⟩))]
 ·show (s.small ++ [s.objs.length]).Nodup
  rw [List.nodup_append]
  exact ⟨v.nds,by simp,fun a ha b hb=>by rw [List.mem_singleton.1 hb]; exact fun e=>hnm (e ▸ ha)⟩
 ·intro x hx
  show 0 < x∧x < (s.objs ++ [mkO k r w false s.used]).length∧_∧_∧_=(s.addSmall k r w).placeIn (s.small ++ [s.objs.length]) 1 x
  rw [List.length_append]
  rcases List.mem_append.1 (show x ∈ s.small ++ [s.objs.length] from hx) with hx | hx
  ·obtain ⟨q1,q2,q3,q4,q5⟩:=v.sm x hx
   rw [app_old e q2,esz x hx,placeIn_app_left _ _ _ _ hx,placeIn_congr _ _ _ esz]
   exact ⟨q1,by simp; omega,q3,q4,q5⟩
  ·obtain rfl:=List.mem_singleton.1 hx
   rw [app_new e,hnew,placeIn_snoc _ _ _ hnm,sizes_congr esz]
   exact ⟨v.ob,by simp,rfl,h5,v.u1⟩
 ·intro i x hi h0
  obtain ⟨q1,q2,q3,q4⟩:=v.sl i x hi h0
  show x < (s.objs ++ [mkO k r w false s.used]).length∧_
  rw [List.length_append,app_old e q1,app_size e q1]
  exact ⟨by simp; omega,q2,q3,q4⟩
 ·intro x hx y hy
  rcases hhere x hx with hx | rfl
  ·rw [app_old e (v.here_lt hx)] at hy
   exact (v.rf x hx y hy).imp_right (hup y)
  ·rw [app_new e] at hy
   exact .inl (List.mem_replicate.1 hy).2
 ·intro x hx
  exact (v.rt x hx).imp_right (hup x)
 ·intro x hx
  rcases hhere x hx with hx | rfl
  ·rw [app_old e (v.here_lt hx)]; exact v.shp x hx
  ·rw [app_new e]; exact mk_shp h1 h2 h3 h4
 ·show 1 ≤ (s.objs ++ [mkO k r w false s.used]).length
  simp
theorem slots_big (v:s.Inv) (h:∀ i,i < s.slots.length→∃ x,s.slots[i]?=some x∧x ≠ 0):66 * s.slots.length ≤ s.large:=by
 rw [v.lg]
 have:∀ l:List Nat,(∀ x ∈ l,x ≠ 0∧64 < s.size x)→66 * l.length ≤ (l.map fun id=>if id=0 then 0 else s.size id + 1).sum:=by
  intro l
  induction l with
  | nil=>intro _; exact Nat.le_refl _
  | cons y l ih =>
   intro hl
   have h1:=hl y (List.mem_cons_self ..)
   have h2:=ih fun x hx=>hl x (List.mem_cons_of_mem _ hx)
   rw [List.map_cons,List.sum_cons,if_neg h1.1,List.length_cons]
   omega
 refine this _ fun x hx=>?_
 obtain ⟨i,hi⟩:=List.mem_iff_getElem?.1 hx
 obtain ⟨y,hy,h0⟩:=h i (List.getElem?_eq_some_iff.1 hi).1
 rw [hi] at hy
 obtain rfl:=Option.some.inj hy
 exact ⟨h0,(v.sl i x hi h0).2.2.1⟩
theorem addBig_slots (s:RS) (k r w:Nat):(s.addBig k r w).slots=if freeSlot s.slots < s.slots.length then s.slots.set (freeSlot s.slots) s.objs.length else s.slots ++ [s.objs.length]:=rfl
/-- The slots behind: the new one in its place, all others as they were. -/
theorem addBig_slot (s:RS) (k r w i:Nat):(s.addBig k r w).slots[i]?=if i=freeSlot s.slots then some s.objs.length else s.slots[i]?:=by
 obtain ⟨h1,h2,h3⟩:=freeSlot_facts s.slots
 rw [addBig_slots]
 split
 ·rename_i h
  by_cases hi:i=freeSlot s.slots
  ·rw [if_pos hi,hi,List.getElem?_set_self h]
  ·rw [if_neg hi,List.getElem?_set_ne (Ne.symm hi)]
 ·rename_i h
  have hf:freeSlot s.slots=s.slots.length:=by omega
  rw [hf]
  rcases Nat.lt_trichotomy i s.slots.length with hi | hi | hi
  ·rw [List.getElem?_append_left hi,if_neg (by omega)]
  ·rw [if_pos hi,hi,List.getElem?_append_right (Nat.le_refl _),Nat.sub_self]; rfl
  ·rw [List.getElem?_eq_none (by simp; omega),if_neg (by omega),List.getElem?_eq_none (by omega)]
theorem sum_set {f:Nat→Nat} {x:Nat}:∀ {l:List Nat} {i y:Nat},l[i]?=some y→((l.set i x).map f).sum + f y=(l.map f).sum + f x
 | [],i,y,h=>by simp at h
 | z :: l,0,y,h=>by
  obtain rfl:z=y:=by simpa using h
  simp; omega
 | z :: l,i + 1,y,h=>by
  have:=sum_set (f:=f) (x:=x) (l:=l) (i:=i) (y:=y) (by simpa using h)
  simp only [List.set_cons_succ,List.map_cons,List.sum_cons]
  omega
theorem Inv.addBig (v:s.Inv) {k r w:Nat} (h1:1 ≤ k) (h2:k ≤ 255) (h3:r ≤ 1048576) (h4:w ≤ 1048576) (h5:64 < 1 + r + w) (h6:2 * s.half + s.large + (2 + r + w) ≤ s.limit) (h7:s.since + (2 + r + w) ≤ 2097152):(s.addBig k r w).Inv:=by
 have e:(s.addBig k r w).objs=s.objs ++ [mkO k r w true (freeSlot s.slots)]:=rfl
 obtain ⟨q1,q2,q3⟩:=freeSlot_facts s.slots
 have hlt:∀ x,s.here x→x < s.objs.length:=fun x hx=>v.here_lt hx
 have hob:=v.ob
 have hup:∀ x,s.here x→(s.addBig k r w).here x:=fun x hx=>by
  refine hx.imp_right fun ⟨h0,hx⟩=>⟨h0,?_⟩
  obtain ⟨i,hi⟩:=List.mem_iff_getElem?.1 hx
  refine List.mem_iff_getElem?.2 ⟨i,?_⟩
  rw [addBig_slot,if_neg fun hf=>?_]
  ·exact hi
  ·have:=q2 (by rw [← hf]; exact (List.getElem?_eq_some_iff.1 hi).1)
   rw [← hf,hi] at this
   exact h0 (Option.some.inj this)
 have hhere:∀ x,(s.addBig k r w).here x→s.here x ∨ x=s.objs.length:=fun x hx=>by
  rcases hx with hx | ⟨h0,hx⟩
  ·exact .inl (.inl hx)
  ·obtain ⟨i,hi⟩:=List.mem_iff_getElem?.1 hx
   rw [addBig_slot] at hi
   split at hi
   ·exact .inr (Option.some.inj hi).symm
   ·exact .inl (.inr ⟨h0,List.mem_of_getElem? hi⟩)
 have hnew:(s.addBig k r w).size s.objs.length=1 + r + w:=by unfold size; rw [app_new e,mk_size]
 have hsm:∀ x ∈ s.small,(s.addBig k r w).size x=s.size x:=fun x hx=>app_size e (v.sm x hx).2.1
 have hl2:=v.l2
 have hh1:=v.h1
 refine ⟨v.l1,v.l2,v.h1,?_,?_,v.u2,?_,?_,v.rl,v.nds,?_,?_,?_,?_,?_,?_,v.kp,h7⟩
 ·show 2 * s.half + (s.large + (2 + r + w)) ≤ s.limit; omega
 ·show s.used=1 + (s.addBig k r w).sizes s.small
  rw [sizes_congr hsm]; exact v.u1
 ·show s.large + (2 + r + w)=((s.addBig k r w).slots.map _).sum
  have eo:∀ x ∈ s.slots,(if x=0 then 0 else (s.addBig k r w).size x + 1)=if x=0 then 0 else s.size x + 1:=fun x hx=>by
   by_cases h0:x=0
   ·rw [if_pos h0,if_pos h0]
   ·rw [if_neg h0,if_neg h0,app_size e (hlt x (.inr ⟨h0,hx⟩))]
  have es:(s.slots.map fun x=>if x=0 then 0 else (s.addBig k r w).size x + 1).sum=s.large:=by rw [List.map_congr_left eo,v.lg]
  have en:(if s.objs.length=0 then 0 else (s.addBig k r w).size s.objs.length + 1)=2 + r + w:=by rw [if_neg (by omega),hnew]; omega
  rw [addBig_slots]
  split
  ·rename_i h
   have:=sum_set (f:=fun x=>if x=0 then 0 else (s.addBig k r w).size x + 1) (x:=s.objs.length) (q2 h)
   simp only [if_true] at this
   rw [en] at this
   omega
  ·rw [List.map_append,List.sum_append,es]
   show s.large + _=s.large + ((if s.objs.length=0 then 0 else (s.addBig k r w).size s.objs.length + 1) + 0)
   rw [en]; rfl
 ·rw [addBig_slots]
  split
  ·rw [List.length_set]; exact v.sll
  ·rename_i h
   have:=slots_big v fun i hi=>q3 i (by omega)
   rw [List.length_append]
   show s.slots.length + 1 ≤ _
   omega
 ·intro x hx
  obtain ⟨p1,p2,p3,p4,p5⟩:=v.sm x hx
  show 0 < x∧x < (s.objs ++ [mkO k r w true (freeSlot s.slots)]).length∧_∧_∧_=(s.addBig k r w).placeIn s.small 1 x
  rw [List.length_append,app_old e p2,hsm x hx,placeIn_congr _ _ _ hsm]
  exact ⟨p1,by simp; omega,p3,p4,p5⟩
 ·intro i x hi h0
  rw [addBig_slot] at hi
  show x < (s.objs ++ [mkO k r w true (freeSlot s.slots)]).length∧_
  rw [List.length_append]
  split at hi
  ·rename_i hif
   obtain rfl:=Option.some.inj hi
   rw [app_new e,hnew]
   exact ⟨by simp,rfl,h5,hif.symm⟩
  ·obtain ⟨p1,p2,p3,p4⟩:=v.sl i x hi h0
   rw [app_old e p1,app_size e p1]
   exact ⟨by simp; omega,p2,p3,p4⟩
 ·intro x hx y hy
  rcases hhere x hx with hx | rfl
  ·rw [app_old e (v.here_lt hx)] at hy
   exact (v.rf x hx y hy).imp_right (hup y)
  ·rw [app_new e] at hy
   exact .inl (List.mem_replicate.1 hy).2
 ·intro x hx
  exact (v.rt x hx).imp_right (hup x)
 ·intro x hx
  rcases hhere x hx with hx | rfl
  ·rw [app_old e (v.here_lt hx)]; exact v.shp x hx
  ·rw [app_new e]; exact mk_shp h1 h2 h3 h4
 ·show 1 ≤ (s.objs ++ [mkO k r w true (freeSlot s.slots)]).length
  simp
theorem Inv.block1 (v:s.Inv) (b:Nat):(s.block1 b).Inv:=by
 unfold RS.block1
 split
 ·exact v.collect
 ·exact v
theorem become_since (s:RS) (n:Nat):(s.become n).since=s.since:=by unfold RS.become; split <;> rfl
theorem fit_since (s:RS) (n:Nat):(s.fit n).since=s.since:=by
 unfold RS.fit
 split
 ·split
  ·exact become_since _ _
  ·rfl
 ·split
  ·exact become_since _ _
  ·rfl
theorem block1_since (s:RS) (b:Nat):(s.block1 b).since=0 ∨ (s.block1 b).since + b ≤ (s.block1 b).half + (s.block1 b).kept:=by
 unfold RS.block1
 split
 ·left
  show (s.collection.fit 0).since=0
  rw [fit_since]; rfl
 ·right; omega
theorem Inv.block2 (v:s.Inv) {k r w:Nat} (h1:1 ≤ k) (h2:k ≤ 255) (h3:r ≤ 1048576) (h4:w ≤ 1048576) (h5:64 < 1 + r + w) (h7:s.since=0 ∨ s.since + (2 + r + w) ≤ s.half + s.kept):(s.block2 k r w).1.Inv:=by
 have q1:=v.kp; have q2:=v.h2; have q3:=v.l2
 unfold RS.block2
 split
 ·split
  ·exact v
  ·rename_i hn
   have v2:=v.become (n:=(s.limit - s.large - (2 + r + w)) / 2) (by omega) (by omega) (by omega)
   refine v2.addBig h1 h2 h3 h4 h5 ?_ (by rw [become_since]; omega)
   unfold RS.become
   split
   ·omega
   ·show 2 * ((s.limit - s.large - (2 + r + w)) / 2) + s.large + (2 + r + w) ≤ s.limit
    omega
 ·exact v.addBig h1 h2 h3 h4 h5 (by omega) (by omega)
theorem Inv.small1 (v:s.Inv) (n:Nat):(s.small1 n).Inv:=by
 unfold RS.small1
 split
 ·exact v.collection.fit
 ·exact v
theorem Inv.alloc (v:s.Inv) (k r w:Int):(s.alloc k r w).1.Inv:=by
 unfold RS.alloc
 split
 ·rename_i h
  obtain ⟨⟨h1,h2⟩,⟨h3,h4⟩,h5,h6⟩:=h
  split
  ·exact (v.block1 _).block2 (by omega) (by omega) (by omega) (by omega) (by omega) (s.block1_since _)
  ·unfold RS.small2
   split
   ·exact v.small1 _
   ·exact (v.small1 _).addSmall (by omega) (by omega) (by omega) (by omega) (by omega) (by omega)
 ·exact v
end
end RS
end Go.Ev
set_option linter.all false
set_option maxRecDepth 100000
namespace Go.Ev
open Go.Proofs
namespace RS
section
variable {s:RS}
theorem addSmall_words (v:s.Inv) (k r w:Nat) (sp:List AObj):(s.addSmall k r w).words sp={ s.words sp with half:=s.small.map s.enc ++ [newO k r w] }:=by
 have e:(s.addSmall k r w).objs=s.objs ++ [mkO k r w false s.used]:=rfl
 unfold words
 simp only [MH.mk.injEq]
 refine ⟨rfl,rfl,?_,rfl,trivial,?_,rfl,trivial,rfl,rfl,rfl,app_rootW v e,rfl,rfl,rfl,rfl⟩
 ·show (s.small ++ [s.objs.length]).map _=_
  rw [List.map_append,List.map_congr_left fun x hx=>app_enc v e (.inl hx)]
  show _ ++ [_]=_
  rw [app_encNew e]
 ·show s.slots.map _=_
  refine List.map_congr_left fun x hx=>?_
  by_cases h0:x=0
  ·rw [if_pos h0,if_pos h0]
  ·rw [if_neg h0,if_neg h0,app_enc v e (.inr ⟨h0,hx⟩)]
theorem addBig_words (v:s.Inv) (k r w:Nat) (sp:List AObj):(s.addBig k r w).words sp={ s.words sp with
  blocks:=(if freeSlot s.slots < s.slots.length then (s.words sp).blocks.set (freeSlot s.slots) (some (newO k r w)) else (s.words sp).blocks ++ [some (newO k r w)])
  reached:=(if freeSlot s.slots < s.slots.length then (s.words sp).reached else (s.words sp).reached ++ [false])
  large:=s.large + (2 + r + w)
  since:=s.since + (2 + r + w) }:=by
 have e:(s.addBig k r w).objs=s.objs ++ [mkO k r w true (freeSlot s.slots)]:=rfl
 have hob:=v.ob
 have eo:(s.slots.map fun x=>if x=0 then none else some ((s.addBig k r w).enc x))=s.slots.map fun x=>if x=0 then none else some (s.enc x):=by
  refine List.map_congr_left fun x hx=>?_
  by_cases h0:x=0
  ·rw [if_pos h0,if_pos h0]
  ·rw [if_neg h0,if_neg h0,app_enc v e (.inr ⟨h0,hx⟩)]
 have en:(if s.objs.length=0 then none else some ((s.addBig k r w).enc s.objs.length))=some (newO k r w):=by rw [if_neg (by omega),app_encNew e]
 unfold words
 simp only [MH.mk.injEq]
 refine ⟨rfl,rfl,?_,rfl,trivial,?_,?_,trivial,rfl,rfl,rfl,app_rootW v e,rfl,rfl,rfl,rfl⟩
 ·show s.small.map _=_
  exact List.map_congr_left fun x hx=>app_enc v e (.inl hx)
 ·rw [addBig_slots]
  split
  ·rw [List.map_set,eo,en]
  ·rw [List.map_append,eo]
   show _ ++ [(if s.objs.length=0 then none else some ((s.addBig k r w).enc s.objs.length))]=_
   rw [en]
 ·rw [addBig_slots]
  split
  ·apply List.ext_getElem?
   intro i
   rw [List.getElem?_map,List.getElem?_map]
   by_cases hi:i < s.slots.length
   ·rw [List.getElem?_eq_getElem (by rw [List.length_set]; exact hi),List.getElem?_eq_getElem hi]; rfl
   ·rw [List.getElem?_eq_none (by rw [List.length_set]; omega),List.getElem?_eq_none (by omega)]
  ·rw [List.map_append]; rfl
end
end RS
section
variable {h:Hp} {hb:Nat} {role:Nat→Role} {m:MH} {G:Geo} {s:RS} {sp:List AObj}
/-- The large object's block, and its slot. -/
theorem begin_tail (v:s.Inv) (rp:HRep h hb role (s.words sp) G) {k r w:Nat} (h1:1 ≤ k) (h2:k ≤ 255) (h3:r ≤ 1048576) (h4:w ≤ 1048576) (h5:64 < 1 + r + w) (h6:2 * s.half + s.large + (2 + r + w) ≤ s.limit) {R:Value→Hp→Prop}
  (hR:∀ h' role' G',HRep h' hb role' ((s.addBig k r w).words sp) G'→ExtO h role h' role'→R (.tuple #[uv (top + RS.freeSlot s.slots),.int .i64 0]) h') :
  CallTo Try.prog 39 #[.int .i64 (2 + r + w:Nat)] h fun r' h8=>∃ t130_0:Option Addr,∃ t130_1:Int,r'=.tuple #[.pointer t130_0,.int .i64 t130_1]∧CallTo Try.prog 65 #[.pointer t130_0,.int .i64 (k:Nat),.int .i64 (r:Nat),.int .i64 (w:Nat)] h8 fun r' h9=>∃ t137_0:Int,∃ t137_1:Int,r'=.tuple #[.int .i64 t137_0,.int .i64 t137_1]∧PtrOk (some (ad hb)) fun p139=>∃ t141:Int,cell h9 (p139.add 6)=some (.int .i64 t141)∧PtrOk (some (ad hb)) fun p144=>stOk h9 (p144.add 6)∧Let (setc h9 (p144.add 6) (.int .i64 (IntKind.wrap .i64 (t141 + (2 + r + w:Nat))))) fun h10=>PtrOk (some (ad hb)) fun p147=>∃ t149:Int,cell h10 (p147.add 7)=some (.int .i64 t149)∧PtrOk (some (ad hb)) fun p152=>stOk h10 (p152.add 7)∧Let (setc h10 (p152.add 7) (.int .i64 (IntKind.wrap .i64 (t149 + (2 + r + w:Nat))))) fun h11=>PtrOk (some (ad hb)) fun p155=>∃ t157:Sl,cell h11 (p155.add 3)=some (.slice t157.a t157.n t157.c)∧LoopEv (evC Try.prog tab lv64 (sub [1,1,1,1,1,1,1,1,1,0,1,0,0] body64)) (contAt Try.prog tab lv64 [1,1,1,1,1,1,1,1,1,0,1,0] body64 [] (bodyK Try.prog Try.f64 [] R)) [(0,.pointer (some (ad hb))),(14,.pointer t130_0),(158,.int .i64 (((t157.n:Nat):Int))),(159,.int .i64 0)] 208 h11:=by
 have i2:=v.h2; have i4:=v.l2; have i5:=v.sll; have i6:=v.h1; have i7:=v.u2
 have ht:top=9223372036854775808:=rfl
 have hsn:=v.sn
 refine anew_ok (fun hbad=>absurd ⟨by omega,by omega⟩ hbad) fun L1 ha _ a1 f1 k1=>⟨_,_,rfl,?_⟩
 rw [Int.toNat_natCast] at a1
 obtain ⟨wc,fc,fs,ra⟩:=a1
 have hsh:Shape (k:Nat) (r:Nat) (w:Nat):=⟨⟨by omega,by omega⟩,⟨by omega,by omega⟩,by omega,by omega⟩
 have hu0:Go.Ev.used ([]:List AObj)=1:=used_nil
 refine aalloc_ok ra (fun hbad=>absurd hsh hbad) (fun _ hf=>by rw [hu0] at hf; omega) fun hc L2 _ _ a2 g2=>⟨_,_,rfl,PtrOk_mk ?_⟩
 rw [Int.toNat_natCast,Int.toNat_natCast,Int.toNat_natCast,List.nil_append] at a2
 have hnsz:(newO k r w).size + 1=2 + r + w:=by rw [newO_size]; omega
 rw [← hnsz] at a2
 have kc:Kept (fun b=>L1.fp b) h hc:=(k1.mono fun _ _ e=>e.elim).trans g2.kept
 have hfr:∀ b,L2.fp b→h.size ≤ b:=fun b hb'=>by
  rcases g2.fp b hb' with h | h
  ·exact f1 b h
  ·have:=k1.1; omega
 have hlt:∀ b,L2.fp b→b < hc.size:=a2.lt
 have rp1:HRep hc hb role (s.words sp) G:=rp.keep kc fun b hb'=>rp.fresh b (f1 b hb')
 have x1:ExtO h role hc role:=⟨kc.1,fun b hb' ho=>⟨ho,kc.2 b hb' fun e=>by have:=f1 b e; omega⟩⟩
 have hro:∀ b,L2.fp b→role b=.out:=fun b hb'=>rp.fresh b (hfr b hb')
 have c6:cell hc ((ad hb).add 6)=some (.int .i64 (s.large:Nat)):=(rp1.c 6).trans rfl
 refine ⟨_,c6,PtrOk_mk ?_⟩
 have ev6:IntKind.wrap .i64 (((s.large:Nat):Int) + ((2 + r + w:Nat):Int))=((s.large + (2 + r + w):Nat):Int):=by rw [wrap_ar (by omega) (by omega)]; omega
 rw [ev6]
 refine rp1.num (i:=6) (m':={ s.words sp with large:=s.large + (2 + r + w) }) (add_ad _ _) (by omega) rfl rfl rfl rfl rfl rfl rfl rfl rfl fun hd rp3 x3=>PtrOk_mk ?_
 have c7:cell hd ((ad hb).add 7)=some (.int .i64 (s.since:Nat)):=(rp3.c 7).trans rfl
 refine ⟨_,c7,PtrOk_mk ?_⟩
 have ev7:IntKind.wrap .i64 (((s.since:Nat):Int) + ((2 + r + w:Nat):Int))=((s.since + (2 + r + w):Nat):Int):=by rw [wrap_ar (by omega) (by omega)]; omega
 rw [ev7]
 refine rp3.num (i:=7) (m':={ s.words sp with large:=s.large + (2 + r + w),since:=s.since + (2 + r + w) }) (add_ad _ _) (by omega) rfl rfl rfl rfl rfl rfl rfl rfl rfl fun he rp4 x4=>PtrOk_mk ?_
 have kof:∀ {a b:Hp},Ext a role b role→Kept (fun b=>role b ≠ .out) a b:=fun x=>⟨x.1,fun b hb' hn=>x.2.2 b hb' (by
  cases hx:role b <;> first | rfl | exact absurd (show role b ≠ .out by rw [hx]; nofun) hn)⟩
 have a4:Ar he L2 ((newO k r w).size + 1) [newO k r w]:=a2.keep (kof (x3.trans x4)) fun b hb' hn=>hn (hro b hb')
 have hlt4:∀ b,L2.fp b→b < he.size:=a4.lt
 have rp5:=rp4.rerole (P:=L2.fp) (.slot (RS.freeSlot s.slots)) fun b hb'=>⟨hro b hb',hlt4 b hb'⟩
 have x5:=((x1.trans x3.o).trans x4.o).rerole (P:=L2.fp) (.slot (RS.freeSlot s.slots)) hfr
 have hLr:∀ b,L2.fp b→reR role L2.fp (.slot (RS.freeSlot s.slots)) b=.slot (RS.freeSlot s.slots):=fun b hb'=>reR_in hb'
 have c3:cell he ((ad hb).add 3)=some (.slice G.bs.a G.bs.n G.bs.c):=(rp5.c 3).trans rfl
 have hbn:=rp5.bs_n
 have hbn:G.bs.n=(s.slots.map fun id=>if id=0 then none else some (s.enc id)).length:=hbn
 rw [List.length_map] at hbn
 have hll:=rp5.ll
 have hll:G.locs.length=(s.slots.map fun id=>if id=0 then none else some (s.enc id)).length:=hll
 rw [List.length_map] at hll
 have hwords:=RS.addBig_words v k r w sp
 refine ⟨G.bs,c3,?_⟩
 rw [hbn]
 refine f64L1_rule (fun q s0 s14 s158 s159 h'=>∃ i:Nat,i ≤ s.slots.length∧q=s.slots.length - i∧s0=some (ad hb)∧s14=some (ad L2.pb)∧s158=((s.slots.length:Nat):Int)∧s159=(i:Int)∧h'=he∧∀ j,j < i→∃ x,s.slots[j]?=some x∧x ≠ 0) s.slots.length
  ⟨0,Nat.zero_le _,rfl,rfl,by rw [g2.pb],rfl,rfl,rfl,fun j hj=>absurd hj (Nat.not_lt_zero _)⟩ ?_
 rintro q s0 s14 s158 s159 g h' ⟨i,hi,rfl,rfl,rfl,rfl,rfl,rfl,hall⟩
 unfold f64L1
 have hora:∀ n:Nat,n < 9223372036854775808→orI .u64 (9223372036854775808:Int) (IntKind.wrap .u64 (n:Int))=((top + n:Nat):Int):=fun n hn=>by
  rw [wrap_u64' (by omega) (by omega),orI_gone (by omega) (by omega)]; omega
 refine Cond_dec (fun hlt'=>?_) fun hge=>?_
 ·have hlt':i < s.slots.length:=by omega
  obtain ⟨x,hx⟩:∃ x,s.slots[i]?=some x:=⟨_,List.getElem?_eq_getElem hlt'⟩
  have cb:(0:Int) ≤ (i:Int)∧(i:Int) < ((G.bs.n:Nat):Int):=by omega
  have hL:G.locs[i]?=some G.locs[i]:=List.getElem?_eq_getElem (by omega)
  obtain ⟨bb,hba,hbc⟩:=rp5.slot_at hL
  have hm:(s.slots.map fun id=>if id=0 then none else some (s.enc id))[i]?=some (if x=0 then none else some (s.enc x)):=by rw [List.getElem?_map,hx]; rfl
  have hbk:=rp5.bl i _ _ hm hL
  generalize hLk:G.locs[i]=Lk at hL hbc hbk
  by_cases hx0:x=0
  ·subst hx0
   rw [if_pos rfl] at hbk
   cases Lk with
   | some L=>exact hbk.elim
   | none =>
    have hf:RS.freeSlot s.slots=i:=RS.freeSlot_eq _ _ hall (.inl hx)
    rw [hf] at hR hwords hLr rp5 x5
    rw [if_pos hlt',if_pos hlt'] at hwords
    obtain ⟨b2,hb2,st,rp6,x6⟩:=rp5.putSlot (i:=i) (by show i < (s.slots.map _).length; rw [List.length_map]; exact hlt') a4 hLr
    rw [hba] at hb2
    obtain rfl:bb=b2:=by simpa [ad] using hb2
    refine PtrOk_mk ⟨G.bs,c3,cb,PtrOk_of hba ⟨none,by rw [Int.toNat_natCast]; exact hbc,Cond_t rfl (PtrOk_mk ⟨G.bs,c3,cb,PtrOk_of hba ?_⟩)⟩⟩
    rw [Int.toNat_natCast]
    refine ⟨st,?_⟩
    rw [hora i (by omega)]
    refine hR _ _ { G with locs:=G.locs.set i (some L2) } ?_ (x5.trans x6.o)
    rw [hwords]
    exact rp6
  ·rw [if_neg hx0] at hbk
   cases Lk with
   | none=>exact hbk.elim
   | some L =>
    have hwr:IntKind.wrap .i64 ((i:Int) + 1)=((i + 1:Nat):Int):=by rw [wrap_ar (by omega) (by omega)]; rfl
    refine PtrOk_mk ⟨G.bs,c3,cb,PtrOk_of hba ⟨some (ad L.pb),by rw [Int.toNat_natCast]; exact hbc,Cond_f rfl ⟨s.slots.length - (i + 1),by omega,i + 1,hlt',rfl,rfl,rfl,rfl,hwr,rfl,fun j hj=>?_⟩⟩⟩
    rcases Nat.lt_or_ge j i with hji | hji
    ·exact hall j hji
    ·obtain rfl:j=i:=by omega
     exact ⟨x,hx,hx0⟩
 ·have hie:i=s.slots.length:=by omega
  have hf:RS.freeSlot s.slots=i:=RS.freeSlot_eq _ _ hall (.inr hie)
  rw [hf] at hR hwords hLr rp5 x5
  rw [if_neg (by omega),if_neg (by omega)] at hwords
  have hml:(s.slots.map fun id=>if id=0 then none else some (s.enc id)).length=i:=by rw [List.length_map]; exact hie.symm
  refine PtrOk_mk ⟨G.bs,c3,?_⟩
  refine rp5.addSlot a4 (fun b hb'=>(hLr b hb').trans (congrArg Role.slot hml.symm)) (by show (s.slots.map _).length ≤ _; rw [List.length_map]; omega) fun h6 role6 G6 rp6 x6=>?_
  have c4:cell h6 ((ad hb).add 4)=some (.slice G6.rs.a G6.rs.n G6.rs.c):=(rp6.c 4).trans rfl
  refine PtrOk_mk ⟨G6.rs,c4,?_⟩
  refine rp6.addReach (by show (s.slots.map _).length ≤ _; rw [List.length_map]; omega) fun h7 role7 G7 rp7 e7 x7=>?_
  have hbn6:=rp7.bs_n
  have hbn6:G7.bs.n=((s.slots.map fun id=>if id=0 then none else some (s.enc id)) ++ [some (newO k r w)]).length:=hbn6
  rw [List.length_append,hml] at hbn6
  have c37:cell h7 ((ad hb).add 3)=some (.slice G7.bs.a G7.bs.n G7.bs.c):=(rp7.c 3).trans rfl
  refine PtrOk_mk ⟨G7.bs,c37,?_⟩
  have hbn6:G7.bs.n=i + 1:=hbn6
  have ev:IntKind.wrap .i64 (((G7.bs.n:Nat):Int) - (1:Int))=(i:Int):=by rw [hbn6,wrap_ar (by omega) (by omega)]; omega
  rw [ev,hora i (by omega)]
  refine hR h7 role7 G7 ?_ ((x5.trans x6.o).trans x7.o)
  rw [hwords]
  exact rp7
end
end Go.Ev
