/- The program's Wait: a line grows; Block / The program's Wait: Block / The program's Wait: a line shrinks / The program's Wait: Release. No condition but that these are ones. -/
import Derived.Test.YtfilpdcphgmhgaaF7
set_option linter.all false
set_option maxRecDepth 1000000
namespace Go.Ev
open Go.Proofs
/-! ### Lines, as plain lists -/
def LineIs (ls:List LN) (p:Plc) (k:Int) (cs:List Int):Prop:=(∃ y ∈ ls,(y.key=p∧y.kind=k)∧y.cs=cs) ∨ (cs=[]∧∀ y ∈ ls,¬ (y.key=p∧y.kind=k))
theorem lineOf_is (ls:List LN) (p:Plc) (k:Int):LineIs ls p k (lineOf ls p k):=by
 unfold lineOf
 cases e:ls.find? (fun y=>decide (y.key=p∧y.kind=k)) with
 | some y=>exact .inl ⟨y,List.mem_of_find?_eq_some e,by simpa using List.find?_some e,rfl⟩
 | none=>exact .inr ⟨rfl,fun y hy=>by simpa using List.find?_eq_none.1 e y hy⟩
theorem map_inj_at {α β:Type} {f:α→β} {l:List α} (nd:(l.map f).Nodup) {i j:Nat} {a b:α} (hi:l[i]?=some a) (hj:l[j]?=some b) (e:f a=f b):i=j:=by
 have h1:(l.map f)[i]?=some (f a):=by rw [List.getElem?_map,hi]; rfl
 have h2:(l.map f)[j]?=some (f b):=by rw [List.getElem?_map,hj]; rfl
 obtain ⟨l1,e1⟩:=List.getElem?_eq_some_iff.1 h1
 obtain ⟨l2,e2⟩:=List.getElem?_eq_some_iff.1 h2
 exact (List.getElem_inj nd).1 (by rw [e1,e2,e])
theorem mem_inj {α β:Type} {f:α→β} {l:List α} (nd:(l.map f).Nodup) {a b:α} (ha:a ∈ l) (hb:b ∈ l) (e:f a=f b):a=b:=by
 obtain ⟨i,hi⟩:=List.mem_iff_getElem?.1 ha
 obtain ⟨j,hj⟩:=List.mem_iff_getElem?.1 hb
 have:=map_inj_at nd hi hj e
 subst this
 rw [hi] at hj
 exact Option.some.inj hj
theorem LineIs.eq {ls:List LN} {p:Plc} {k:Int} {a b:List Int} (kn:(ls.map fun y=>(y.key,y.kind)).Nodup) (h1:LineIs ls p k a) (h2:LineIs ls p k b):a=b:=by
 rcases h1 with ⟨y,hy,ey,rfl⟩ | ⟨rfl,h1⟩ <;> rcases h2 with ⟨z,hz,ez,rfl⟩ | ⟨rfl,h2⟩
 ·rw [mem_inj kn hy hz (by show (y.key,y.kind)=(z.key,z.kind); rw [ey.1,ey.2,ez.1,ez.2])]
 ·exact absurd ey (h2 y hy)
 ·exact absurd ez (h1 z hz)
 ·rfl
theorem mem_set_iff {α:Type} {l:List α} {j:Nat} {y y' z:α} (hj:l[j]?=some y):z ∈ l.set j y' ↔ z=y' ∨ ∃ i,i ≠ j∧l[i]?=some z:=by
 have hl:=(List.getElem?_eq_some_iff.1 hj).1
 rw [List.mem_iff_getElem?]
 constructor
 ·rintro ⟨i,hi⟩
  rw [List.getElem?_set] at hi
  split at hi
  ·exact .inl (Option.some.inj hi).symm
  ·rename_i e; exact .inr ⟨i,fun z=>e z.symm,hi⟩
 ·rintro (rfl | ⟨i,hne,hi⟩)
  ·exact ⟨j,List.getElem?_set_self hl⟩
  ·exact ⟨i,by rw [List.getElem?_set,if_neg fun e=>hne e.symm]; exact hi⟩
theorem nodup_set {α:Type} {l:List α} (nd:l.Nodup) {j:Nat} {v:α} (h:∀ i,i ≠ j→l[i]? ≠ some v):(l.set j v).Nodup:=by
 unfold List.Nodup at nd ⊢
 rw [List.pairwise_iff_getElem] at nd ⊢
 intro a b ha hb hab
 rw [List.length_set] at ha hb
 rw [List.getElem_set,List.getElem_set]
 by_cases h1:j=a
 ·subst h1
  rw [if_pos rfl,if_neg (by omega)]
  exact fun e=>h b (by omega) (by rw [List.getElem?_eq_getElem hb,e])
 ·rw [if_neg h1]
  by_cases h2:j=b
  ·subst h2
   rw [if_pos rfl]
   exact fun e=>h a (by omega) (by rw [List.getElem?_eq_getElem ha,e])
  ·rw [if_neg h2]
   exact nd a b ha hb hab
theorem line_app {ls:List LN} (kn:(ls.map fun y=>(y.key,y.kind)).Nodup) {y:LN} (hn:∀ z ∈ ls,¬ (z.key=y.key∧z.kind=y.kind)) (q:Plc) (l:Int):lineOf (ls ++ [y]) q l=if q=y.key∧l=y.kind then y.cs else lineOf ls q l:=by
 have kn':((ls ++ [y]).map fun y=>(y.key,y.kind)).Nodup:=by
  rw [List.map_append,List.nodup_append]
  refine ⟨kn,by simp,fun a ha b hb e=>?_⟩
  obtain ⟨z,hz,rfl⟩:=List.mem_map.1 ha
  have hb:b=(y.key,y.kind):=by simpa using hb
  rw [hb] at e
  exact hn z hz ⟨congrArg Prod.fst e,congrArg Prod.snd e⟩
 refine LineIs.eq kn' (lineOf_is _ q l) ?_
 by_cases e:q=y.key∧l=y.kind
 ·rw [if_pos e]
  exact .inl ⟨y,by simp,⟨e.1.symm,e.2.symm⟩,rfl⟩
 ·rw [if_neg e]
  rcases lineOf_is ls q l with ⟨z,hz,ez,h⟩ | ⟨h,hz⟩
  ·exact .inl ⟨z,List.mem_append_left _ hz,ez,h⟩
  ·refine .inr ⟨h,fun z hz'=>?_⟩
   rcases List.mem_append.1 hz' with hz' | hz'
   ·exact hz z hz'
   ·rw [List.mem_singleton.1 hz']; exact fun z=>e ⟨z.1.symm,z.2.symm⟩
theorem line_set {ls:List LN} (kn:(ls.map fun y=>(y.key,y.kind)).Nodup) {j:Nat} {y y':LN} (hj:ls[j]?=some y) (hk:y'.key=y.key∧y'.kind=y.kind):((ls.set j y').map fun y=>(y.key,y.kind)).Nodup∧∀ q l,lineOf (ls.set j y') q l=if q=y.key∧l=y.kind then y'.cs else lineOf ls q l:=by
 have em:(ls.set j y').map (fun y=>(y.key,y.kind))=ls.map fun y=>(y.key,y.kind):=by
  rw [List.map_set,hk.1,hk.2]
  apply List.ext_getElem?
  intro i
  rw [List.getElem?_set]
  split
  ·rename_i e; subst e
   have hl:=(List.getElem?_eq_some_iff.1 hj).1
   rw [if_pos (by rw [List.length_map]; exact hl),List.getElem?_map,hj]; rfl
  ·rfl
 have kn':((ls.set j y').map fun y=>(y.key,y.kind)).Nodup:=by rw [em]; exact kn
 refine ⟨kn',fun q l=>LineIs.eq kn' (lineOf_is _ q l) ?_⟩
 by_cases e:q=y.key∧l=y.kind
 ·rw [if_pos e]
  exact .inl ⟨y',(mem_set_iff hj).2 (.inl rfl),⟨hk.1.trans e.1.symm,hk.2.trans e.2.symm⟩,rfl⟩
 ·rw [if_neg e]
  rcases lineOf_is ls q l with ⟨z,hz,ez,h⟩ | ⟨h,hz⟩
  ·obtain ⟨i,hi⟩:=List.mem_iff_getElem?.1 hz
   refine .inl ⟨z,(mem_set_iff hj).2 (.inr ⟨i,fun eij=>?_,hi⟩),ez,h⟩
   rw [eij,hj] at hi
   obtain rfl:=Option.some.inj hi
   exact e ⟨ez.1.symm,ez.2.symm⟩
  ·refine .inr ⟨h,fun z hz'=>?_⟩
   rcases (mem_set_iff hj).1 hz' with rfl | ⟨i,_,hi⟩
   ·exact fun z=>e ⟨z.1.symm.trans hk.1,z.2.symm.trans hk.2⟩
   ·exact hz z (List.mem_of_getElem? hi)
/-- The change that a call on a Wait may make. -/
def WTr (h:Hp) (W:WP) (h':Hp) (W':WP):Prop:=Kept W.foot h h'∧∀ b,W'.foot b→W.foot b ∨ h.size ≤ b
section
variable {h h' h2:Hp} {W W' W2:WP} {R:Value→Hp→Prop}
theorem WTr.refl (h:Hp) (W:WP):WTr h W h W:=⟨Kept.refl _ _,fun _=>.inl⟩
theorem WTr.trans (a:WTr h W h' W') (b:WTr h' W' h2 W2):WTr h W h2 W2 :=
 ⟨⟨Nat.le_trans a.1.1 b.1.1,fun i hi hn=>(b.1.2 i (Nat.lt_of_lt_of_le hi a.1.1) fun o=>(a.2 i o).elim hn fun h=>by omega).trans (a.1.2 i hi hn)⟩,
  fun i o=>(b.2 i o).elim (a.2 i) fun h=>.inr (Nat.le_trans a.1.1 h)⟩
theorem WTr.keepN (k:Kept N h h'):WTr h W h' W:=⟨k.mono fun _ _ e=>e.elim,fun _=>.inl⟩
theorem foot_ls {ls:List LN} {c1:Nat} {b:Nat} (hb:WP.foot { W with ls:=ls,c1:=c1 } b):W.foot b ∨ ∃ y ∈ ls,y.b=b:=by
 rcases hb with e | e | e | e | e
 ·exact .inl (.inl e)
 ·exact .inl (.inr (.inl e))
 ·exact .inl (.inr (.inr (.inl e)))
 ·exact .inl (.inr (.inr (.inr (.inl e))))
 ·exact .inr e
/-- A connection is put at the end of a line. -/
theorem wadd_ok (x:WMem h W) {p:Plc} {k c:Int} {a1:Option Addr} (ra:ReadsO h a1 [iv c]) (hout:∀ q,a1=some q→¬ W.foot q.block∧q.block < h.size) (hlen:(lineOf W.ls p k).length ≤ 100) {K:Hp→Prop}
  (hK:∀ h' ls' c1',WMem h' { W with ls:=ls',c1:=c1' }→(∀ q l,lineOf ls' q l=if q=p∧l=k then lineOf W.ls p k ++ [c] else lineOf W.ls q l)→WTr h W h' { W with ls:=ls',c1:=c1' }→K h') :
  MapGrab Try.prog 73 32 (.map (some W.r1)) (.agg #[.int .i64 p.1,.string p.2,.int .i64 k]) h fun kv kb h14=>∃ t66:Sl,kv=.slice t66.a t66.n t66.c∧appSl 3 1 8 #[.int .i64 0] t66.a t66.n t66.c a1 1 h14 fun ra15 rn15 rc15 h15=>MapLay (.map (some W.r1)) kb (.slice ra15 rn15 rc15) h15 fun h16=>K h16:=by
 have z0:zV Try.prog 32=some (.slice none 0 0):=zero32
 have key:∀ z ∈ W.ls,z.ent.key=.agg #[.int .i64 p.1,.string p.2,.int .i64 k]→z.key=p∧z.kind=k:=fun z hz e=>lnK_inj (show lnK z.key z.kind=lnK p k from e)
 have r1f:W.foot W.r1:=.inr (.inl rfl)
 have r1l:=ob_lt x.m1
 refine ⟨LinK,W.r1,_,W.c1,_,klaw_lines,⟨_,_,_,rfl⟩,rfl,x.lines,z0,fun hlk=>?_,fun j e hj hek=>?_⟩
 ·-- a new line
  refine ⟨⟨none,0,0⟩,rfl,?_⟩
  have no:∀ z ∈ W.ls,¬ (z.key=p∧z.kind=k):=fun z hz hk=>hlk z.ent (List.mem_map.2 ⟨z,hz,rfl⟩) (by show lnK z.key z.kind=_; rw [hk.1,hk.2]; rfl)
  have k1:=kept_seti h W.r1 (.map (W.ls.map LN.ent ++ [({ key:=.agg #[.int .i64 p.1,.string p.2,.int .i64 k],val:=.slice none 0 0,born:=W.c1 }:MapEntry)]).toArray (W.c1 + 1))
  have ob1:=seti_self (o:=.map (W.ls.map LN.ent ++ [({ key:=.agg #[.int .i64 p.1,.string p.2,.int .i64 k],val:=.slice none 0 0,born:=W.c1 }:MapEntry)]).toArray (W.c1 + 1)) x.m1
  generalize h.setIfInBounds W.r1 (.map (W.ls.map LN.ent ++ [({ key:=.agg #[.int .i64 p.1,.string p.2,.int .i64 k],val:=.slice none 0 0,born:=W.c1 }:MapEntry)]).toArray (W.c1 + 1))=h1 at k1 ob1
  refine ⟨[iv c],reads_kept2 k1 ra fun q hq _=>⟨(hout q hq).2,fun e=>(hout q hq).1 (e ▸ r1f)⟩,rfl,appT_ok2 (m:=1) (slAt_nil 1 h1) rfl rfl (fun v hv=>by rw [List.mem_singleton.1 hv]; rfl) (by show (2 * (0 + 1) + 768) * 8 ≤ 2 ^ 48; decide) (by show 0 + 1 < 2 ^ 62; decide) fun a' c' ob' h2 sa hx=>?_⟩
  have hob:ob'=some h1.size∧Kept N h1 h2:=by
   rcases hx with ⟨e,_⟩ | ⟨e,kk⟩
   ·exfalso
    rw [e] at sa
    have:=(sa.nil rfl).2.1
    omega
   ·exact ⟨e,kk⟩
  obtain ⟨rfl,k2⟩:=hob
  obtain ⟨sa1,sa2,junk,sa3,sa4⟩:=sa.row _ rfl
  have ob2:=kept_ob k2 ob1 _root_.id
  have z1:=k1.1
  have z2:=k2.1
  have hb1:=row_lt sa3
  refine ⟨W.r1,_,W.c1 + 1,W.ls.length,({ key:=.agg #[.int .i64 p.1,.string p.2,.int .i64 k],val:=.slice none 0 0,born:=W.c1 }:MapEntry),rfl,ob2,?_,rfl,fun i e' hi he'=>?_,?_⟩
  ·rw [List.getElem?_append_right (by rw [List.length_map]; exact Nat.le_refl _),List.length_map,Nat.sub_self]; rfl
  ·rw [List.getElem?_append_left (by rw [List.length_map]; exact hi),List.getElem?_map] at he'
   obtain ⟨z,hz,rfl⟩:=Option.map_eq_some_iff.1 he'
   have:=x.lt1 z (List.mem_of_getElem? hz)
   show z.born ≠ W.c1
   omega
  ·have k3:=kept_seti h2 W.r1 (.map ((W.ls ++ [(⟨p,k,⟨a',0 + 1,c'⟩,h1.size,[c],W.c1⟩:LN)]).map LN.ent).toArray (W.c1 + 1))
   have ob3:=seti_self (o:=.map ((W.ls ++ [(⟨p,k,⟨a',0 + 1,c'⟩,h1.size,[c],W.c1⟩:LN)]).map LN.ent).toArray (W.c1 + 1)) ob2
   have em:(W.ls.map LN.ent ++ [({ key:=.agg #[.int .i64 p.1,.string p.2,.int .i64 k],val:=.slice none 0 0,born:=W.c1 }:MapEntry)]).set W.ls.length ({ key:=.agg #[.int .i64 p.1,.string p.2,.int .i64 k],val:=.slice a' (0 + 1) c',born:=W.c1 }:MapEntry)=(W.ls ++ [(⟨p,k,⟨a',0 + 1,c'⟩,h1.size,[c],W.c1⟩:LN)]).map LN.ent:=by
    rw [List.set_append_right _ _ (by rw [List.length_map]; exact Nat.le_refl _),List.length_map,Nat.sub_self,List.map_append]
    rfl
   rw [em]
   generalize h2.setIfInBounds W.r1 (.map ((W.ls ++ [(⟨p,k,⟨a',0 + 1,c'⟩,h1.size,[c],W.c1⟩:LN)]).map LN.ent).toArray (W.c1 + 1))=h3 at k3 ob3
   have k03:Kept (fun b=>b=W.r1) h h3:=(k1.trans (k2.mono fun _ _ z=>z.elim)).trans k3
   have nr:∀ {b:Nat} {cs:List Value},Row h b cs→¬ b=W.r1:=fun r e=>row_map (e ▸ r) x.m1
   refine hK h3 _ (W.c1 + 1) ⟨kept_row k03 x.row (nr x.row),ob3,kept_ob k03 x.m2 fun e=>x.r12 e.symm,fun y hy=>(x.pw y hy).keep k03 (by obtain ⟨_,r⟩:=(x.pw y hy).row; exact nr r),fun y hy=>?_,x.r12,?_,fun y hy=>?_,fun y hy z hz=>?_,x.pwb,?_,x.bn2,fun y hy=>?_,x.lt2,x.cn,?_,x.tn,x.tu,x.tl⟩ (fun q l=>?_) ⟨k03.mono fun b _ e=>e ▸ r1f,fun b hb=>?_⟩
   ·rcases List.mem_append.1 hy with hy | hy
    ·exact (x.ln y hy).keep k03 (by obtain ⟨_,r,_⟩:=(x.ln y hy).row; exact nr r)
    ·rw [List.mem_singleton.1 hy]
     refine ⟨sa1,rfl,by simp,junk,kept_row k3 sa3 (by show ¬ h1.size=W.r1; omega),?_⟩
     have:[iv c].length + junk.length=c' * 1:=sa4
     simp only [List.length_singleton] at this ⊢
     omega
   ·rw [List.map_append,List.nodup_append]
    refine ⟨x.lb,by simp,fun a ha b hb e=>?_⟩
    obtain ⟨y,hy,rfl⟩:=List.mem_map.1 ha
    have hb:b=h1.size:=by simpa using hb
    have:=(x.ln y hy).lt
    omega
   ·rcases List.mem_append.1 hy with hy | hy
    ·exact x.lw y hy
    ·rw [List.mem_singleton.1 hy]; show h1.size ≠ W.wb; have:=row_lt x.row; omega
   ·rcases List.mem_append.1 hy with hy | hy
    ·exact x.lp y hy z hz
    ·rw [List.mem_singleton.1 hy]; show z.pb ≠ h1.size; have:=(x.pw z hz).lt; omega
   ·rw [List.map_append,List.nodup_append]
    refine ⟨x.bn1,by simp,fun a ha b hb e=>?_⟩
    obtain ⟨y,hy,rfl⟩:=List.mem_map.1 ha
    have hb:b=W.c1:=by simpa using hb
    have:=x.lt1 y hy
    omega
   ·rcases List.mem_append.1 hy with hy | hy
    ·have:=x.lt1 y hy; show y.born < W.c1 + 1; omega
    ·rw [List.mem_singleton.1 hy]; show W.c1 < W.c1 + 1; omega
   ·rw [List.map_append,List.nodup_append]
    refine ⟨x.kn,by simp,fun a ha b hb e=>?_⟩
    obtain ⟨y,hy,rfl⟩:=List.mem_map.1 ha
    have hb:b=(p,k):=by simpa using hb
    rw [hb] at e
    exact no y hy ⟨congrArg Prod.fst e,congrArg Prod.snd e⟩
   ·rw [line_app x.kn (y:=⟨p,k,⟨a',0 + 1,c'⟩,h1.size,[c],W.c1⟩) no]
    have e0:lineOf W.ls p k=[]:=LineIs.eq x.kn (lineOf_is _ _ _) (.inr ⟨rfl,no⟩)
    rw [e0]
    rfl
   ·rcases foot_ls hb with e | ⟨y,hy,e⟩
    ·exact .inl e
    ·rcases List.mem_append.1 hy with hy | hy
     ·exact .inl (.inr (.inr (.inr (.inr ⟨y,hy,e⟩))))
     ·rw [List.mem_singleton.1 hy] at e
      exact .inr (by rw [← e]; exact z1)
 ·-- one that is there
  rw [List.getElem?_map] at hj
  obtain ⟨y,hy,rfl⟩:=Option.map_eq_some_iff.1 hj
  have hym:=List.mem_of_getElem? hy
  obtain ⟨ek,ekd⟩:=key y hym hek
  have ok:=x.ln y hym
  obtain ⟨junk0,row0,cap0⟩:=ok.row
  refine ⟨y.sl,rfl,?_⟩
  have k1:=kept_seti h W.r1 (.map (W.ls.map LN.ent).toArray W.c1)
  have ob1:=seti_self (o:=.map (W.ls.map LN.ent).toArray W.c1) x.m1
  generalize h.setIfInBounds W.r1 (.map (W.ls.map LN.ent).toArray W.c1)=h1 at k1 ob1
  have nr:∀ {b:Nat} {cs:List Value},Row h b cs→¬ b=W.r1:=fun r e=>row_map (e ▸ r) x.m1
  have sa0:SlAt 1 h1 y.sl.a y.sl.n y.sl.c (some y.b) (y.cs.map iv):=⟨by rw [List.length_map,ok.n,Nat.mul_one],nofun,fun b hb=>by
   obtain rfl:=Option.some.inj hb
   exact ⟨ok.a,by rw [ok.n]; omega,junk0,kept_row k1 row0 (nr row0),by rw [List.length_map]; omega⟩⟩
  have el:lineOf W.ls p k=y.cs:=LineIs.eq x.kn (lineOf_is _ _ _) (.inl ⟨y,hym,⟨ek,ekd⟩,rfl⟩)
  rw [el] at hlen
  have yf:W.foot y.b:=.inr (.inr (.inr (.inr ⟨y,hym,rfl⟩)))
  have okn:=ok.n
  refine ⟨[iv c],reads_kept2 k1 ra fun q hq _=>⟨(hout q hq).2,fun e=>(hout q hq).1 (e ▸ r1f)⟩,rfl,appT_ok2 (m:=1) sa0 rfl rfl (fun v hv=>by rw [List.mem_singleton.1 hv]; rfl) (by omega) (by omega) fun a' c' ob' h2 sa hx=>?_⟩
  have k2:Kept (fun b=>some y.b=some b) h1 h2:=hx.elim (fun z=>z.2) fun z=>z.2.mono fun _ _ f=>f.elim
  obtain ⟨b',rfl,hb'⟩:∃ b',ob'=some b'∧(b'=y.b ∨ b'=h1.size):=by
   rcases hx with ⟨e,_⟩ | ⟨e,_⟩
   ·exact ⟨_,e,.inl rfl⟩
   ·exact ⟨_,e,.inr rfl⟩
  obtain ⟨sa1,sa2,junk,sa3,sa4⟩:=sa.row _ rfl
  have z1:=k1.1
  have z2:=k2.1
  have ylt:=ok.lt
  have ob2:=kept_ob k2 ob1 fun e=>nr row0 (Option.some.inj e)
  refine ⟨W.r1,_,W.c1,j,y.ent,rfl,ob2,by rw [List.getElem?_map,hy]; rfl,rfl,fun i e' hi he'=>?_,?_⟩
  ·rw [List.getElem?_map] at he'
   obtain ⟨z,hz,rfl⟩:=Option.map_eq_some_iff.1 he'
   intro e
   have:=map_inj_at x.bn1 hz hy e
   omega
  ·have em:(W.ls.map LN.ent).set j { y.ent with val:=.slice a' (y.sl.n + 1) c' }=(W.ls.set j { y with sl:=⟨a',y.sl.n + 1,c'⟩,b:=b',cs:=y.cs ++ [c] }).map LN.ent:=by
    rw [List.map_set]; rfl
   rw [em]
   generalize hy':({ y with sl:=⟨a',y.sl.n + 1,c'⟩,b:=b',cs:=y.cs ++ [c] }:LN)=y'
   have f1:y'.key=y.key:=by rw [← hy']
   have f2:y'.kind=y.kind:=by rw [← hy']
   have f3:y'.b=b':=by rw [← hy']
   have f4:y'.born=y.born:=by rw [← hy']
   have f5:y'.cs=y.cs ++ [c]:=by rw [← hy']
   have f6:y'.sl=⟨a',y.sl.n + 1,c'⟩:=by rw [← hy']
   have k3:=kept_seti h2 W.r1 (.map ((W.ls.set j y').map LN.ent).toArray W.c1)
   have ob3:=seti_self (o:=.map ((W.ls.set j y').map LN.ent).toArray W.c1) ob2
   generalize h2.setIfInBounds W.r1 (.map ((W.ls.set j y').map LN.ent).toArray W.c1)=h3 at k3 ob3
   have k03:Kept (fun b=>b=W.r1 ∨ b=y.b) h h3:=((k1.mono fun _ _ z=>.inl z).trans (k2.mono fun _ _ z=>.inr (Option.some.inj z).symm)).trans (k3.mono fun _ _ z=>.inl z)
   have hl:=(List.getElem?_eq_some_iff.1 hy).1
   obtain ⟨kn',ln'⟩:=line_set x.kn hy (y':=y') ⟨f1,f2⟩
   have other:∀ z ∈ W.ls.set j y',z=y' ∨ (z ∈ W.ls∧z.b ≠ y.b):=fun z hz=>((mem_set_iff hy).1 hz).imp_right fun ⟨i,hne,hi⟩=>⟨List.mem_of_getElem? hi,fun e=>hne (map_inj_at x.lb hi hy e)⟩
   refine hK h3 (W.ls.set j y') W.c1 ⟨kept_row k03 x.row (by rintro (e | e); exact nr x.row e; exact x.lw y hym e.symm),ob3,kept_ob k03 x.m2 (by rintro (e | e); exact x.r12 e.symm; exact row_map (e ▸ row0) x.m2),fun z hz=>(x.pw z hz).keep k03 (by obtain ⟨_,r⟩:=(x.pw z hz).row; rintro (e | e); exact nr r e; exact x.lp y hym z hz e),fun z hz=>?_,x.r12,?_,fun z hz=>?_,fun z hz w hw=>?_,x.pwb,?_,x.bn2,fun z hz=>?_,x.lt2,x.cn,kn',x.tn,x.tu,x.tl⟩ (fun q l=>?_) ⟨k03.mono fun b _ e=>e.elim (fun e=>e ▸ r1f) fun e=>e ▸ yf,fun b hb=>?_⟩
   ·rcases other z hz with rfl | ⟨hz,hzb⟩
    ·refine ⟨by rw [f6,f3]; exact sa1,by rw [f6,f5,List.length_append]; show y.sl.n + 1=_; rw [okn]; rfl,by rw [f5]; simp,junk,?_,?_⟩
     ·rw [f3,f5,List.map_append]
      refine kept_row k3 sa3 ?_
      intro e
      exact row_map (e ▸ sa3) ob2
     ·have:(y.cs.map iv ++ [iv c]).length + junk.length=c' * 1:=sa4
      rw [f5,f6]
      simp only [List.length_append,List.length_map,List.length_singleton] at this ⊢
      omega
    ·exact (x.ln z hz).keep k03 (by obtain ⟨_,r,_⟩:=(x.ln z hz).row; rintro (e | e); exact nr r e; exact hzb e)
   ·rw [List.map_set,f3]
    refine nodup_set x.lb fun i hne e=>?_
    rw [List.getElem?_map] at e
    obtain ⟨z,hz,ez⟩:=Option.map_eq_some_iff.1 e
    rcases hb' with e1 | e1
    ·exact hne (map_inj_at x.lb hz hy (ez.trans e1))
    ·have:=(x.ln z (List.mem_of_getElem? hz)).lt; omega
   ·rcases other z hz with rfl | ⟨hz,_⟩
    ·rw [f3]
     rcases hb' with e1 | e1
     ·rw [e1]; exact x.lw y hym
     ·have:=row_lt x.row; show b' ≠ W.wb; omega
    ·exact x.lw z hz
   ·rcases other z hz with rfl | ⟨hz,_⟩
    ·rw [f3]
     rcases hb' with e1 | e1
     ·rw [e1]; exact x.lp y hym w hw
     ·have:=(x.pw w hw).lt; omega
    ·exact x.lp z hz w hw
   ·rw [List.map_set,f4]
    exact nodup_set x.bn1 fun i hne e=>by
     rw [List.getElem?_map] at e
     obtain ⟨z,hz,ez⟩:=Option.map_eq_some_iff.1 e
     exact hne (map_inj_at x.bn1 hz hy ez)
   ·rcases other z hz with rfl | ⟨hz,_⟩
    ·rw [f4]; exact x.lt1 y hym
    ·exact x.lt1 z hz
   ·rw [ln' q l,ek,ekd,f5,el]
   ·rcases foot_ls hb with e | ⟨z,hz,e⟩
    ·exact .inl e
    ·rcases other z hz with rfl | ⟨hz,_⟩
     ·rw [f3] at e
      rcases hb' with e1 | e1
      ·exact .inl (by rw [← e,e1]; exact yf)
      ·exact .inr (by omega)
     ·exact .inl (.inr (.inr (.inr (.inr ⟨z,hz,e⟩))))
end
end Go.Ev
set_option linter.all false
set_option maxRecDepth 1000000
namespace Go.Ev
open Go.Proofs
theorem blockE_zero {b:Bool} {c k t:Int} {ps:List Plc} (h:blockE b c k ps t=0):(0 ≤ c∧c < 8)∧b=false∧(k=2 ∨ k=5)∧(1 ≤ ps.length∧ps.length ≤ 64)∧t ≤ 4503599627370496:=by
 unfold blockE at h
 by_cases h1:c < 0 ∨ 8 ≤ c
 ·rw [if_pos h1] at h; omega
 rw [if_neg h1] at h
 by_cases h2:b=true
 ·rw [if_pos h2] at h; omega
 rw [if_neg h2] at h
 by_cases h3:k ≠ 2∧k ≠ 5
 ·rw [if_pos h3] at h; omega
 rw [if_neg h3] at h
 by_cases h4:ps.length=0 ∨ 64 < ps.length ∨ ps.all fitB=false
 ·rw [if_pos h4] at h; omega
 rw [if_neg h4] at h
 by_cases h5:t > 4503599627370496
 ·rw [if_pos h5] at h; omega
 refine ⟨by omega,by simpa using h2,by omega,?_,by omega⟩
 have:¬ ps.length=0:=fun e=>h4 (.inl e)
 have:¬ 64 < ps.length:=fun e=>h4 (.inr (.inl e))
 omega
def inT (ps:List Plc) (i:Nat) (q:Plc):Bool:=(ps.take i).any fun r=>decide (r=q)
theorem inT_succ {ps:List Plc} {i:Nat} {p:Plc} (hp:ps[i]?=some p) (q:Plc):inT ps (i + 1) q=(inT ps i q || decide (p=q)):=by
 unfold inT
 rw [List.take_add_one,hp,List.any_append]
 simp
theorem connsOf_app (ws:List PW) (y:PW) (q:Plc) (l:Int):connsOf (ws ++ [y]) q l=connsOf ws q l ++ if wants y.w q l=true then [y.w.conn] else []:=by
 unfold connsOf
 rw [List.filter_append,List.map_append]
 congr 1
 cases e:wants y.w q l <;> simp [e]
theorem connsOf_len (ws:List PW) (q:Plc) (l:Int):(connsOf ws q l).length ≤ ws.length:=by
 unfold connsOf
 rw [List.length_map]
 exact List.length_filter_le _ _
section
variable {h h' h2:Hp} {W W' W2:WP} {R:Value→Hp→Prop}
theorem WMem.bump (x:WMem h W) (k:Kept (fun b=>b=W.wb) h h') (r:Row h' W.wb [.map (some W.r1),.map (some W.r2),.int .i64 ((W.turns + 1:Nat):Int)]) (tb:W.turns < 1000000):WMem h' { W with turns:=W.turns + 1 } :=
 ⟨r,kept_ob k x.m1 (fun e=>row_map x.row (by rw [← e]; exact x.m1)),kept_ob k x.m2 (fun e=>row_map x.row (by rw [← e]; exact x.m2)),fun y hy=>(x.pw y hy).keep k (x.pwb y hy),fun y hy=>(x.ln y hy).keep k (x.lw y hy),x.r12,x.lb,x.lw,x.lp,x.pwb,x.bn1,x.bn2,x.lt1,x.lt2,x.cn,x.kn,x.tn,
  fun y hy=>Nat.le_succ_of_le (x.tu y hy),tb⟩
theorem WMem.who_add (x:WMem h W) {y:PW} (hb:y.born=W.c2) (ht:∀ z ∈ W.ws,z.turn < y.turn) (htu:y.turn ≤ W.turns) (hc:W.find y.w.conn=none) {h3:Hp} (ok:PWOk h y) (p1:y.pb ≠ W.wb) (p2:∀ z ∈ W.ls,y.pb ≠ z.b) :
  WMem (h.setIfInBounds W.r2 (.map ((W.ws ++ [y]).map PW.ent).toArray (W.c2 + 1))) { W with ws:=W.ws ++ [y],c2:=W.c2 + 1 }:=by
 have k:=kept_seti h W.r2 (.map ((W.ws ++ [y]).map PW.ent).toArray (W.c2 + 1))
 have ob:=seti_self (o:=.map ((W.ws ++ [y]).map PW.ent).toArray (W.c2 + 1)) x.m2
 generalize h.setIfInBounds W.r2 (.map ((W.ws ++ [y]).map PW.ent).toArray (W.c2 + 1))=h1 at k ob
 have nr:∀ {b:Nat} {cs:List Value},Row h b cs→¬ b=W.r2:=fun r e=>row_map (e ▸ r) x.m2
 refine ⟨kept_row k x.row (nr x.row),kept_ob k x.m1 x.r12,ob,fun z hz=>?_,fun z hz=>(x.ln z hz).keep k (by obtain ⟨_,r,_⟩:=(x.ln z hz).row; exact nr r),x.r12,x.lb,x.lw,fun z hz w hw=>?_,fun z hz=>?_,x.bn1,?_,x.lt1,fun z hz=>?_,?_,x.kn,?_,fun z hz=>?_,x.tl⟩
 ·rcases List.mem_append.1 hz with hz | hz
  ·exact (x.pw z hz).keep k (by obtain ⟨_,r⟩:=(x.pw z hz).row; exact nr r)
  ·rw [List.mem_singleton.1 hz]; exact ok.keep k (by obtain ⟨_,r⟩:=ok.row; exact nr r)
 ·rcases List.mem_append.1 hw with hw | hw
  ·exact x.lp z hz w hw
  ·rw [List.mem_singleton.1 hw]; exact p2 z hz
 ·rcases List.mem_append.1 hz with hz | hz
  ·exact x.pwb z hz
  ·rw [List.mem_singleton.1 hz]; exact p1
 ·rw [List.map_append,List.nodup_append]
  refine ⟨x.bn2,by simp,fun a ha b hb' e=>?_⟩
  obtain ⟨z,hz,rfl⟩:=List.mem_map.1 ha
  have hb':b=W.c2:=by simpa [hb] using hb'
  have:=x.lt2 z hz
  omega
 ·rcases List.mem_append.1 hz with hz | hz
  ·have:=x.lt2 z hz; show z.born < W.c2 + 1; omega
  ·rw [List.mem_singleton.1 hz,hb]; show W.c2 < W.c2 + 1; omega
 ·rw [List.map_append,List.nodup_append]
  refine ⟨x.cn,by simp,fun a ha b hb' e=>?_⟩
  obtain ⟨z,hz,rfl⟩:=List.mem_map.1 ha
  have hb':b=y.w.conn:=by simpa using hb'
  exact WP.find_none hc hz (e.trans hb')
 ·rw [List.pairwise_append]
  exact ⟨x.tn,List.pairwise_singleton _ _,fun a ha b hb'=>by rw [List.mem_singleton.1 hb']; exact ht a ha⟩
 ·rcases List.mem_append.1 hz with hz | hz
  ·exact x.tu z hz
  ·rw [List.mem_singleton.1 hz]; exact htu
theorem wblock_ok (x:WRep h W) {a:Sl} {ps:List Plc} (pi:PlIn h a ps) (hout:∀ p,a.a=some p→ps ≠ []→¬ W.foot p.block∧p.block < h.size) (tb:W.turns < 1000000) {c k t:Int} (ht:0 ≤ t)
  (hbad:∀ h',blockE (W.find c).isSome c k ps t ≠ 0→Kept N h h'→R (.int .i64 (blockE (W.find c).isSome c k ps t)) h')
  (hgood:blockE (W.find c).isSome c k ps t=0→∀ h' W' y,WRep h' W'→W'.wb=W.wb→W'.ws=W.ws ++ [y]→y.w=⟨c,k,ps,t⟩→W'.turns=W.turns + 1→WTr h W h' W'→R (.int .i64 0) h') :
  CallTo Try.prog 18 #[.pointer (some (ad W.wb)),.int .i64 c,.int .i64 k,.slice a.a a.n a.c,.int .u64 t] h R:=by
 refine f18F_ok (a3:=a) ?_
 unfold f18F
 refine check_ok x pi fun h1 k1=>⟨_,rfl,?_⟩
 by_cases he:blockE (W.find c).isSome c k ps t=0
 case neg=>exact Cond_t (by rw [bne_iff_ne]; exact he) (hbad h1 he k1)
 have hg:=hgood he
 rw [he]
 refine Cond_f rfl ?_
 obtain ⟨hc,hbusy,hk,⟨hl1,hl2⟩,htl⟩:=blockE_zero he
 have hnone:W.find c=none:=by cases e:W.find c with | none=>rfl | some _=>rw [e] at hbusy; cases hbusy
 have hne:ps ≠ []:=fun e=>by rw [e] at hl1; simp at hl1
 have x1:=x.keepN k1
 have tl:=x.m.tl
 have pin:=pi.n
 have out1:∀ p,a.a=some p→¬ W.foot p.block∧p.block < h1.size:=fun p hp=>(have z:=hout p hp hne; ⟨z.1,Nat.lt_of_lt_of_le z.2 k1.1⟩)
 have wbf:W.foot W.wb:=.inl rfl
 refine PtrOk_mk ⟨_,x1.m.c2,PtrOk_mk (row_st x1.m.row (i:=2) (add_ad _ _) (by show 2 < 3; omega) fun h2 r2 k2=>?_)⟩
 have e1:IntKind.wrap .i64 (((W.turns:Nat):Int) + 1)=((W.turns + 1:Nat):Int):=by rw [wr (by omega) (by omega)]; rfl
 rw [e1] at r2
 have m2:=x1.m.bump k2 r2 tb
 have pi2:PlIn h2 a ps:=⟨reads_kept2 k2 (pi.keepN k1).rd fun p hp _=>⟨(out1 p hp).2,fun e=>(out1 p hp).1 (e ▸ wbf)⟩,pi.n,pi.c⟩
 refine PtrOk_mk ⟨_,m2.c1,PtrOk_mk ⟨_,m2.c2,clone_ok pi2.rd pi2.n (by omega) (fun e=>absurd e hne) fun s' b h3 po hfr k3=>⟨s',rfl,?_⟩⟩⟩
 have m3:=m2.keep k3 fun _ _=>_root_.id
 have hbf:=hfr hne
 refine ⟨⟨_,m3.c2,rfl⟩,⟨_,m3.c1,rfl⟩,?_⟩
 obtain ⟨junk,rowp,cap⟩:=po.row hne
 have bl3:=row_lt rowp
 have ok:PWOk h3 ⟨⟨c,k,ps,t⟩,W.turns + 1,W.c2,s',b⟩:=⟨po.at_ hne,po.n,⟨junk,rowp⟩,hc,⟨hl1,hl2⟩,⟨ht,htl⟩,by show s'.n ≤ s'.c; have:=po.n; omega⟩
 have q1:=k1.1
 have q2:=k2.1
 have q3:=k3.1
 have wl:=row_lt x1.m.row
 refine ⟨IntK,W.r2,_,W.c2,klaw_who,⟨c,rfl⟩,rfl,m3.who,fun _=>?_,fun j e hj hek=>?_⟩
 case refine_2 =>
  obtain ⟨z,hz,rfl⟩:=List.mem_map.1 (List.mem_of_getElem? hj)
  exact absurd (Value.int.inj hek).2 (WP.find_none hnone hz)
 have m4:=m3.who_add (h3:=h3) (y:=⟨⟨c,k,ps,t⟩,W.turns + 1,W.c2,s',b⟩) rfl (fun z hz=>Nat.lt_succ_of_le (x.m.tu z hz)) (Nat.le_refl _) hnone ok (by show b ≠ W.wb; omega) fun z hz=>by
  have:=(x1.m.ln z hz).lt
  show b ≠ z.b
  omega
 have k4:=kept_seti h3 W.r2 (.map ((W.ws ++ [(⟨⟨c,k,ps,t⟩,W.turns + 1,W.c2,s',b⟩:PW)]).map PW.ent).toArray (W.c2 + 1))
 have em:(W.ws.map PW.ent ++ [({ key:=.int .i64 c,val:=.agg #[.int .i64 k,.slice s'.a s'.n s'.c,.int .u64 t,.int .i64 ((W.turns + 1:Nat):Int)],born:=W.c2 }:MapEntry)])=(W.ws ++ [(⟨⟨c,k,ps,t⟩,W.turns + 1,W.c2,s',b⟩:PW)]).map PW.ent:=by
  rw [List.map_append]; rfl
 have e4:(h3.setIfInBounds W.r2 (.map (W.ws.map PW.ent ++ [({ key:=.int .i64 c,val:=.agg #[.int .i64 k,.slice s'.a s'.n s'.c,.int .u64 t,.int .i64 ((W.turns + 1:Nat):Int)],born:=W.c2 }:MapEntry)]).toArray (W.c2 + 1)))=h3.setIfInBounds W.r2 (.map ((W.ws ++ [(⟨⟨c,k,ps,t⟩,W.turns + 1,W.c2,s',b⟩:PW)]).map PW.ent).toArray (W.c2 + 1)):=by rw [em]
 show LoopEv _ _ _ _ (h3.setIfInBounds W.r2 (.map (W.ws.map PW.ent ++ [({ key:=.int .i64 c,val:=.agg #[.int .i64 k,.slice s'.a s'.n s'.c,.int .u64 t,.int .i64 ((W.turns + 1:Nat):Int)],born:=W.c2 }:MapEntry)]).toArray (W.c2 + 1)))
 rw [e4]
 have m4:WMem (h3.setIfInBounds W.r2 (.map ((W.ws ++ [(⟨⟨c,k,ps,t⟩,W.turns + 1,W.c2,s',b⟩:PW)]).map PW.ent).toArray (W.c2 + 1))) { W with turns:=W.turns + 1,ws:=W.ws ++ [⟨⟨c,k,ps,t⟩,W.turns + 1,W.c2,s',b⟩],c2:=W.c2 + 1 }:=m4
 generalize h3.setIfInBounds W.r2 (.map ((W.ws ++ [(⟨⟨c,k,ps,t⟩,W.turns + 1,W.c2,s',b⟩:PW)]).map PW.ent).toArray (W.c2 + 1))=h4 at k4 m4
 clear e4 em
 generalize hy:(⟨⟨c,k,ps,t⟩,W.turns + 1,W.c2,s',b⟩:PW)=y at m4 ok
 have yw:y.w=⟨c,k,ps,t⟩:=by rw [← hy]
 have ypb:y.pb=b:=by rw [← hy]
 have r2f:W.foot W.r2:=.inr (.inr (.inl rfl))
 have tr4:WTr h W h4 { W with turns:=W.turns + 1,ws:=W.ws ++ [y],c2:=W.c2 + 1 }:=by
  refine ⟨((k1.mono fun _ _ z=>z.elim).trans (k2.mono fun i _ e=>e ▸ wbf)).trans ((k3.mono fun _ _ z=>z.elim).trans (k4.mono fun i _ e=>e ▸ r2f)),fun i hi=>?_⟩
  rcases hi with e | e | e | ⟨z,hz,e⟩ | e
  ·exact .inl (.inl e)
  ·exact .inl (.inr (.inl e))
  ·exact .inl (.inr (.inr (.inl e)))
  ·rcases List.mem_append.1 hz with hz | hz
   ·exact .inl (.inr (.inr (.inr (.inl ⟨z,hz,e⟩))))
   ·rw [List.mem_singleton.1 hz,ypb] at e
    exact .inr (by omega)
  ·exact .inl (.inr (.inr (.inr (.inr e))))
 have x_l:=x.l
 refine f18L1_rule (s3:=a) (s45:=a) (fun m s0 s1 s2 s3 s45 s46 s47 h'=>∃ (i:Nat) (W':WP),i ≤ ps.length∧m=ps.length - i∧s0=some (ad W.wb)∧s1=c∧s2=k∧a=s3∧a=s45∧s46=((ps.length:Nat):Int)∧s47=(i:Int)∧WMem h' W'∧(W'.wb=W.wb∧W'.r1=W.r1∧W'.ws=W.ws ++ [y]∧W'.turns=W.turns + 1)∧(∀ q l,lineOf W'.ls q l=connsOf W.ws q l ++ if l=k∧inT ps i q=true then [c] else [])∧WTr h W h' W') ps.length
  ⟨0,{ W with turns:=W.turns + 1,ws:=W.ws ++ [y],c2:=W.c2 + 1 },Nat.zero_le _,rfl,rfl,rfl,rfl,rfl,rfl,by rw [pin],rfl,m4,⟨rfl,rfl,rfl,rfl⟩,fun q l=>by rw [if_neg (by rintro ⟨_,z⟩; cases z),List.append_nil]; exact x_l q l,tr4⟩ ?_
 rintro m s0 s1 s2 s3 s45 s46 s47 g h5 ⟨i,W5,hi,rfl,rfl,rfl,rfl,rfl,rfl,rfl,rfl,m5,⟨w1,w2,w3,w4⟩,ll5,tr5⟩
 unfold f18L1
 have out5:∀ p,a.a=some p→¬ W5.foot p.block∧p.block < h5.size:=fun p hp=>(have z:=hout p hp hne; ⟨fun hf=>(tr5.2 _ hf).elim z.1 fun e=>by omega,Nat.lt_of_lt_of_le z.2 tr5.1.1⟩)
 have rd5:PlIn h5 a ps:=⟨reads_kept2 tr5.1 pi.rd fun p hp _=>(have z:=hout p hp hne; ⟨z.2,z.1⟩),pi.n,pi.c⟩
 refine Cond_dec (fun hlt=>?_) fun hge=>?_
 ·have hil:i < ps.length:=by omega
  obtain ⟨p,hp⟩:∃ p,ps[i]?=some p:=⟨_,List.getElem?_eq_getElem hil⟩
  obtain ⟨pa,ea,c0,c1⟩:=pl_read rd5.rd hp
  have nxt:IntKind.wrap .i64 ((i:Int) + 1)=((i + 1:Nat):Int):=by rw [wr (by omega) (by omega)]; rfl
  simp only [Int.toNat_natCast]
  refine ⟨⟨by omega,by omega⟩,PtrOk_of ea ⟨_,c0,_,c1,own2 fun h6 r6 k6=>first_ok (rd5.keepN k6).rd rd5.n rd5.c (by omega) hp fun h7 k7=>⟨_,rfl,?_⟩⟩⟩
  have k57:=k6.trans k7
  have r7:=kept_row k7 r6 _root_.id
  cases hf:firstB ps i p with
  | false =>
   have hin:inT ps i p=true:=by unfold firstB at hf; unfold inT; simpa using hf
   refine Cond_f rfl ?_
   unfold f18K1
   refine ⟨ps.length - (i + 1),by omega,i + 1,W5,by omega,rfl,(by first | rfl | trivial),(by first | rfl | trivial),(by first | rfl | trivial),(by first | rfl | trivial),(by first | rfl | trivial),(by first | rfl | trivial),nxt,m5.keep k57 (fun _ _=>_root_.id),⟨w1,w2,w3,w4⟩,fun q l=>?_,tr5.trans (WTr.keepN k57)⟩
   rw [ll5,inT_succ hp]
   by_cases e:p=q
   ·subst e; rw [hin]; simp
   ·simp [e]
  | true =>
   have hin:inT ps i p=false:=by unfold firstB at hf; unfold inT; simpa using hf
   have enb5:nb h5=ad h5.size:=rfl
   have enb7:nb h7=ad h7.size:=rfl
   rw [enb5,enb7]
   refine Cond_t rfl ⟨_,(cell_row r7 0).trans rfl,_,by rw [add_ad]; exact (cell_row r7 1).trans rfl,own3 fun h8 r8 k8=>?_⟩
   have m8:=m5.keep (k57.trans k8) fun _ _=>_root_.id
   have c08:=m8.c0
   have c18:cell h8 ((ad h7.size).add 1)=some (.string p.2):=by rw [add_ad]; exact (cell_row r8 1).trans rfl
   have c28:cell h8 ((ad h7.size).add 2)=some (.int .i64 s2):=by rw [add_ad]; exact (cell_row r8 2).trans rfl
   rw [w1,w2] at c08
   refine PtrOk_mk ⟨_,c08,_,(cell_row r8 0).trans rfl,_,c18,_,c28,Let_mk fun h9 e9=>?_⟩
   have k9:Kept N h8 h9:=e9 ▸ kept_push _ _ _
   have r9:Row h9 h8.size [iv s1]:=e9 ▸ row_new h8 _ 3
   have m9:=m8.keep k9 fun _ _=>_root_.id
   have c09:=m9.c0
   rw [w1,w2] at c09
   have r89:=kept_row k9 r8 _root_.id
   refine ⟨⟨_,(cell_row r89 0).trans rfl,_,by rw [add_ad]; exact (cell_row r89 1).trans rfl,_,by rw [add_ad]; exact (cell_row r89 2).trans rfl,rfl⟩,⟨_,c09,rfl⟩,?_⟩
   have hl9:=row_lt r9
   have k59:=(k57.trans k8).trans k9
   have lnl:(lineOf W5.ls p s2).length ≤ 100:=by
    rw [ll5,List.length_append]
    have:=connsOf_len W.ws p s2
    have:=wlen8 x.m
    split <;> simp <;> omega
   have ad9:=wadd_ok m9 (p:=p) (k:=s2) (a1:=some (nb h8)) (row_reads r9) (fun q hq=>by
    obtain rfl:=Option.some.inj hq
    refine ⟨fun hf=>?_,hl9⟩
    have:=m8.foot_lt hf
    exact Nat.lt_irrefl _ this) lnl (K:=fun h16=>f18K1 (fun m s0 s1_1 s2_1 s3 s45 s46 s47 h'=>∃ (i:Nat) (W':WP),i ≤ ps.length∧m=ps.length - i∧s0=some (ad W.wb)∧s1_1=s1∧s2_1=s2∧a=s3∧a=s45∧s46=((ps.length:Nat):Int)∧s47=(i:Int)∧WMem h' W'∧(W'.wb=W.wb∧W'.r1=W.r1∧W'.ws=W.ws ++ [y]∧W'.turns=W.turns + 1)∧(∀ q l,lineOf W'.ls q l=connsOf W.ws q l ++ if l=s2∧inT ps i q=true then [s1] else [])∧WTr h W h' W') (ps.length - i) (some (ad W.wb)) s1 s2 a a ((ps.length:Nat):Int) (i:Int) h16 R) fun h10 ls' c1' m10 l10 t10=>by
     unfold f18K1
     refine ⟨ps.length - (i + 1),by omega,i + 1,_,by omega,rfl,rfl,rfl,rfl,rfl,rfl,rfl,nxt,m10,⟨w1,w2,w3,w4⟩,fun q l=>?_,(tr5.trans (WTr.keepN k59)).trans t10⟩
     show lineOf ls' q l=_
     rw [l10,inT_succ hp]
     by_cases e:q=p∧l=s2
     ·obtain ⟨rfl,rfl⟩:=e
      rw [if_pos ⟨rfl,rfl⟩,ll5,hin]
      simp
     ·rw [if_neg e,ll5]
      congr 1
      by_cases e2:l=s2
      ·have e3:¬ p=q:=fun z=>e ⟨z.symm,e2⟩
       simp [e2,e3]
      ·simp [e2]
   rw [w2] at ad9
   exact ad9
 ·have e:i=ps.length:=by omega
  subst e
  refine hg h5 W5 y ⟨m5,fun q l=>?_⟩ w1 w3 yw w4 tr5
  rw [ll5,w3,connsOf_app,yw]
  congr 1
  unfold wants inT
  rw [List.take_length]
  by_cases e1:s2=l
  ·subst e1
   rw [decide_eq_true rfl,Bool.true_and]
   cases ps.any fun r=>decide (r=q) with
   | true=>rw [if_pos ⟨rfl,rfl⟩,if_pos rfl]
   | false=>rw [if_neg (fun z=>by cases z.2),if_neg (fun z=>by cases z)]
  ·have e2:¬ l=s2:=fun z=>e1 z.symm
   rw [decide_eq_false e1,Bool.false_and,if_neg (fun z=>e2 z.1),if_neg (fun z=>by cases z)]
end
end Go.Ev
set_option linter.all false
set_option maxRecDepth 1000000
namespace Go.Ev
open Go.Proofs
theorem mem_erase {α:Type} {l:List α} {j:Nat} {y z:α} (hj:l[j]?=some y):z ∈ l.eraseIdx j ↔ ∃ i,i ≠ j∧l[i]?=some z:=List.mem_eraseIdx_iff_getElem?
theorem line_erase {ls:List LN} (kn:(ls.map fun y=>(y.key,y.kind)).Nodup) {j:Nat} {y:LN} (hj:ls[j]?=some y):((ls.eraseIdx j).map fun y=>(y.key,y.kind)).Nodup∧∀ q l,lineOf (ls.eraseIdx j) q l=if q=y.key∧l=y.kind then [] else lineOf ls q l:=by
 have kn':((ls.eraseIdx j).map fun y=>(y.key,y.kind)).Nodup:=((List.eraseIdx_sublist ls j).map _).nodup kn
 refine ⟨kn',fun q l=>LineIs.eq kn' (lineOf_is _ q l) ?_⟩
 by_cases e:q=y.key∧l=y.kind
 ·rw [if_pos e]
  refine .inr ⟨rfl,fun z hz hk=>?_⟩
  obtain ⟨i,hne,hi⟩:=(mem_erase hj).1 hz
  exact hne (map_inj_at kn hi hj (by show (z.key,z.kind)=(y.key,y.kind); rw [hk.1,hk.2,e.1,e.2]))
 ·rw [if_neg e]
  rcases lineOf_is ls q l with ⟨z,hz,ez,h⟩ | ⟨h,hz⟩
  ·obtain ⟨i,hi⟩:=List.mem_iff_getElem?.1 hz
   refine .inl ⟨z,(mem_erase hj).2 ⟨i,fun eij=>?_,hi⟩,ez,h⟩
   rw [eij,hj] at hi
   obtain rfl:=Option.some.inj hi
   exact e ⟨ez.1.symm,ez.2.symm⟩
  ·refine .inr ⟨h,fun z hz'=>?_⟩
   obtain ⟨i,_,hi⟩:=(mem_erase hj).1 hz'
   exact hz z (List.mem_of_getElem? hi)
section
variable {h h' h2:Hp} {W W' W2:WP} {R:Value→Hp→Prop}
theorem index_ok {s:Sl} {cs:List Int} {c:Int} (rd:ReadsO h s.a (cs.map iv)) (hn:s.n=cs.length) (hl:cs.length < 1000) {j:Nat} (hj:cs[j]?=some c) (hb:∀ i,i < j→cs[i]? ≠ some c) (hR:R (.int .i64 (j:Nat)) h):CallTo Try.prog 33 #[.slice s.a s.n s.c,.int .i64 c] h R:=by
 have hjl:=(List.getElem?_eq_some_iff.1 hj).1
 refine f33F_ok (a0:=s) ?_
 unfold f33F
 refine f33L1_rule (s0:=s) (fun m s0 s1 s7 s8 h'=>∃ i:Nat,i ≤ j∧m=j - i∧s=s0∧s1=c∧s7=((s.n:Nat):Int)∧s8=(i:Int)∧h=h') j ⟨0,Nat.zero_le _,rfl,rfl,rfl,rfl,rfl,rfl⟩ ?_
 rintro m s0 s1 s7 s8 g h1 ⟨i,hi,rfl,rfl,rfl,rfl,rfl,rfl⟩
 unfold f33L1
 refine Cond_dec (fun hlt=>?_) fun hge=>by omega
 obtain ⟨d,hd⟩:∃ d,cs[i]?=some d:=⟨_,List.getElem?_eq_getElem (by omega)⟩
 obtain ⟨p,hp,cp⟩:=readsO_get rd (show (cs.map iv)[i]?=some (iv d) by rw [List.getElem?_map,hd]; rfl)
 refine ⟨⟨by omega,by omega⟩,PtrOk_of hp ⟨d,by rw [Int.toNat_natCast,Nat.mul_one]; exact cp,Cond_b (fun e=>?_) fun e=>?_⟩⟩
 ·have e:s1=d:=by simpa using e
  subst e
  have:i=j:=by
   apply Classical.byContradiction
   intro hne
   exact hb i (by omega) hd
  subst this
  exact hR
 ·have e:s1 ≠ d:=by simpa using e
  have:i ≠ j:=fun z=>by subst z; rw [hj] at hd; exact e (Option.some.inj hd)
  exact ⟨j - (i + 1),by omega,i + 1,by omega,rfl,rfl,rfl,rfl,by rw [wr (by omega) (by omega)]; rfl,rfl⟩
theorem sl0 (rc c z:Nat):(if rc=(0:Int).toNat then some (ad c) else Option.map (fun x=>x.add ((0:Int).toNat * z)) (some (ad c)))=some (ad c):=by
 split
 ·rfl
 ·show some ((ad c).add ((0:Int).toNat * z))=_
  rw [show (0:Int).toNat * z=0 by show 0 * z=0; omega]
  rfl
theorem delete_ok {b cap:Nat} {cs:List Int} {junk:List Value} (row:Row h b (cs.map iv ++ junk)) (hcap:cs.length + junk.length=cap) (hl:cs.length < 1000) {j:Nat} (hj:j < cs.length)
  (hR:∀ h',Row h' b ((cs.eraseIdx j).map iv ++ (iv 0 :: junk))→Kept (fun i=>i=b) h h'→R (.slice (some (ad b)) (cs.length - 1) cap) h'):CallTo Try.prog 34 #[.slice (some (ad b)) cs.length cap,.int .i64 (j:Nat),.int .i64 ((j + 1:Nat):Int)] h R:=by
 refine f34F_ok (a0:=⟨some (ad b),cs.length,cap⟩) ?_
 unfold f34F
 simp only [Int.toNat_natCast]
 refine ⟨⟨by omega,by show ((cs.length:Nat):Int) ≤ ((cap:Nat):Int); omega⟩,⟨by omega,by show ((j + 1:Nat):Int) ≤ ((cs.length:Nat):Int); omega⟩,⟨by omega,by omega⟩,Cond_f (by rw [beq_eq_false_iff_ne]; omega) ⟨⟨by omega,by show ((j:Nat):Int) ≤ ((cap:Nat):Int); omega⟩,⟨by omega,by omega⟩,⟨by omega,by show ((j + 1:Nat):Int) ≤ ((cs.length:Nat):Int); omega⟩,?_⟩⟩
 have dl:((cs.drop (j + 1)).map iv).length=cs.length - (j + 1):=by rw [List.length_map,List.length_drop]
 refine ⟨(cs.drop (j + 1)).map iv,?_,by rw [dl,Nat.mul_one],fun hle=>?_,fun hlt=>?_⟩
 ·show ReadsO h (if cap=j + 1 then some (ad b) else Option.map (fun x=>x.add ((j + 1) * 1)) (some (ad b))) _
  by_cases e:cap=j + 1
  ·rw [if_pos e]
   have:cs.drop (j + 1)=[]:=List.drop_of_length_le (by omega)
   rw [this]
   intro i v hv
   simp at hv
  ·rw [if_neg e]
   intro i v hv
   show cell h (((ad b).add ((j + 1) * 1)).add i)=some v
   rw [add_add,add_ad]
   refine (cell_row row _).trans ?_
   rw [List.getElem?_append_left]
   ·rw [List.map_drop,List.getElem?_drop,Nat.mul_one] at *
    exact hv
   ·have:=(List.getElem?_eq_some_iff.1 hv).1
    rw [dl] at this
    rw [List.length_map]
    omega
 ·show fromBase h (if cap=(0:Int).toNat then some (ad b) else Option.map (fun x=>x.add ((0:Int).toNat * 1)) (some (ad b))) _ _ _
  rw [sl0]
  show stsOk h ((ad b).add ((j - 0) * 1)) _ 0∧_
  have e0:(j - 0) * 1=j:=by omega
  rw [e0,add_ad]
  have fits:j + 0 + ((cs.drop (j + 1)).map iv).length ≤ (cs.map iv ++ junk).length:=by rw [dl,List.length_append,List.length_map]; omega
  refine ⟨stsOk_row _ _ _ j 0 row fits (fun v hv=>by obtain ⟨x,_,rfl⟩:=List.mem_map.1 hv; rfl),?_⟩
  have r1:=row_setcs ((cs.drop (j + 1)).map iv) h _ j 0 row fits
  have k1:Kept (fun i=>i=b) h (setcs h ⟨b,j,none⟩ ((cs.drop (j + 1)).map iv) 0):=kept_setcs _ _ _ _ rfl
  have eh:setcs h ((ad b).add ((j - Int.toNat 0) * 1)) ((cs.drop (j + 1)).map iv) 0=setcs h ⟨b,j,none⟩ ((cs.drop (j + 1)).map iv) 0:=by show setcs h ((ad b).add ((j - 0) * 1)) _ 0=_; rw [e0,add_ad]
  try rw [eh]
  generalize setcs h ⟨b,j,none⟩ ((cs.drop (j + 1)).map iv) 0=h1 at r1 k1 ⊢
  rw [Nat.add_zero] at r1
  have e1:ovw (cs.map iv ++ junk) j ((cs.drop (j + 1)).map iv)=(cs.eraseIdx j).map iv ++ ((cs.map iv ++ junk).drop (cs.length - 1)):=by
   unfold ovw
   rw [List.eraseIdx_eq_take_drop_succ,List.map_append,List.take_append_of_le_length (by rw [List.length_map]; omega),dl,← List.map_take]
   have:j + (cs.length - (j + 1))=cs.length - 1:=by omega
   rw [this]
  rw [e1] at r1
  have el:(cs.eraseIdx j).length=cs.length - 1:=List.length_eraseIdx_of_lt hj
  have en:j + (cs.length - (j + 1))=cs.length - 1:=by omega
  refine ⟨⟨by omega,by show ((cs.length:Nat):Int) ≤ ((cap - (0:Int).toNat:Nat):Int); show _ ≤ ((cap - 0:Nat):Int); omega⟩,⟨by omega,by show ((j - (0:Int).toNat + (cs.length - (j + 1)):Nat):Int) ≤ ((cs.length:Nat):Int); show ((j - 0 + (cs.length - (j + 1)):Nat):Int) ≤ _; omega⟩,?_⟩
  have en2:j - (0:Int).toNat + (cs.length - (j + 1))=cs.length - 1:=by show j - 0 + _=_; omega
  have ec:cap - (0:Int).toNat=cap:=rfl
  show clrO _ (if cap - (0:Int).toNat=j - (0:Int).toNat + (cs.length - (j + 1)) then _ else _) _ _ _
  rw [ec,if_neg (by rw [en2]; omega),en2]
  have e3:cs.length - (cs.length - 1)=1:=by omega
  show clrO #[.int .i64 0] (some ((ad b).add ((cs.length - 1) * 1))) (cs.length - (cs.length - 1)) h1 _
  rw [e3,Nat.mul_one,add_ad]
  have f2:(cs.length - 1) + 0 + ([iv 0]:List Value).length ≤ ((cs.eraseIdx j).map iv ++ ((cs.map iv ++ junk).drop (cs.length - 1))).length:=by
   rw [List.length_append,List.length_map,el,List.length_drop,List.length_append,List.length_map]
   show cs.length - 1 + 0 + 1 ≤ _
   omega
  have ez:(zrow #[Value.int .i64 0] (1 * (#[Value.int .i64 0]:Array Value).size)).toList=[iv 0]:=by simp [zrow,iv]
  unfold clrO
  rw [ez]
  refine ⟨stsOk_row _ _ _ _ 0 r1 f2 (fun v hv=>by rw [List.mem_singleton.1 hv]; rfl),?_⟩
  have r2:=row_setcs [iv 0] h1 _ (cs.length - 1) 0 r1 f2
  have k2:Kept (fun i=>i=b) h1 (setcs h1 ⟨b,cs.length - 1,none⟩ [iv 0] 0):=kept_setcs _ _ _ _ rfl
  refine hR _ ?_ (k1.trans k2)
  rw [Nat.add_zero] at r2
  have e5:ovw ((cs.eraseIdx j).map iv ++ ((cs.map iv ++ junk).drop (cs.length - 1))) (cs.length - 1) [iv 0]=(cs.eraseIdx j).map iv ++ (iv 0 :: junk):=by
   unfold ovw
   have l1:((cs.eraseIdx j).map iv).length=cs.length - 1:=by rw [List.length_map,el]
   rw [List.take_append_of_le_length (by omega),List.take_of_length_le (by omega),List.append_assoc]
   congr 1
   show iv 0 :: List.drop (cs.length - 1 + 1) _=_
   congr 1
   rw [← l1,List.drop_append,l1]
   have:((cs.eraseIdx j).map iv).drop (cs.length - 1 + 1)=[]:=List.drop_of_length_le (by omega)
   rw [this,List.nil_append]
   have:cs.length - 1 + 1 - (cs.length - 1)=1:=by omega
   rw [this,List.drop_drop]
   have:cs.length - 1 + 1=(cs.map iv).length:=by rw [List.length_map]; omega
   rw [this,List.drop_left]
  rw [e5] at r2
  exact r2
 ·exfalso
  have hlt:cap - 0 < j - 0 + (cs.length - (j + 1)):=hlt
  omega
end
end Go.Ev
set_option linter.all false
set_option maxRecDepth 1000000
namespace Go.Ev
open Go.Proofs
theorem erase_filter {α:Type} {f:α→Int} {l:List α} (nd:(l.map f).Nodup) {j:Nat} {y:α} (hj:l[j]?=some y):l.eraseIdx j=l.filter fun x=>decide (f x ≠ f y):=by
 induction l generalizing j with
 | nil=>simp at hj
 | cons a t ih =>
  rw [List.map_cons,List.nodup_cons] at nd
  cases j with
  | zero =>
   obtain rfl:a=y:=by simpa using hj
   show t=_
   rw [List.filter_cons_of_neg (by simp),List.filter_eq_self.2]
   intro x hx
   have:f x ≠ f a:=fun e=>nd.1 (e ▸ List.mem_map.2 ⟨x,hx,rfl⟩)
   simpa using this
  | succ j =>
   have hj:t[j]?=some y:=by simpa using hj
   have:f a ≠ f y:=fun e=>nd.1 (e ▸ List.mem_map.2 ⟨y,List.mem_of_getElem? hj,rfl⟩)
   show a :: t.eraseIdx j=_
   rw [List.filter_cons_of_pos (by simpa using this),ih nd.2 hj]
def cut (c:Int) (l:List Int):List Int:=l.filter fun d=>decide (d ≠ c)
theorem conns_nodup {ws:List PW} (cn:(ws.map (·.w.conn)).Nodup) (q:Plc) (l:Int):(connsOf ws q l).Nodup:=by
 unfold connsOf
 exact ((List.filter_sublist (p:=fun x:PW=>wants x.w q l)).map _).nodup cn
theorem conns_erase {ws:List PW} (cn:(ws.map (·.w.conn)).Nodup) {j:Nat} {y:PW} (hj:ws[j]?=some y) (q:Plc) (l:Int):connsOf (ws.eraseIdx j) q l=cut y.w.conn (connsOf ws q l):=by
 rw [erase_filter cn hj]
 unfold connsOf cut
 rw [List.filter_filter,List.filter_map,List.filter_filter]
 congr 2
 funext x
 exact Bool.and_comm _ _
theorem conns_cut {ws:List PW} (cn:(ws.map (·.w.conn)).Nodup) {y:PW} (hy:y ∈ ws) {q:Plc} {l:Int} (hw:wants y.w q l=false):cut y.w.conn (connsOf ws q l)=connsOf ws q l:=by
 unfold cut
 rw [List.filter_eq_self]
 intro d hd
 obtain ⟨x,hx,rfl⟩:=List.mem_map.1 hd
 obtain ⟨hx,hwx⟩:=List.mem_filter.1 hx
 have:x.w.conn ≠ y.w.conn:=fun e=>by
  obtain rfl:=mem_inj cn hx hy e
  rw [hw] at hwx
  cases hwx
 simpa using this
section
variable {h h' h2:Hp} {W W' W2:WP} {R:Value→Hp→Prop}
theorem wcut_ok (x:WMem h W) {p:Plc} {k c:Int} {kb:Nat} (rk:Row h kb [.int .i64 p.1,.string p.2,.int .i64 k]) (hkb:∀ y ∈ W.ls,y.b ≠ kb) {j:Nat} (hj:(lineOf W.ls p k)[j]?=some c) (hb:∀ i,i < j→(lineOf W.ls p k)[i]? ≠ some c) (hlen:(lineOf W.ls p k).length ≤ 100) {K:Hp→Prop}
  (hK:∀ h' ls',WMem h' { W with ls:=ls' }→(∀ q l,lineOf ls' q l=if q=p∧l=k then (lineOf W.ls p k).eraseIdx j else lineOf W.ls q l)→(∀ z ∈ ls',∃ y ∈ W.ls,y.b=z.b)→Kept (fun b=>b=W.r1 ∨ ∃ y ∈ W.ls,y.b=b) h h'→K h') :
  ∃ t50:Sl,∃ kt50:Bool,MapGet Try.prog 73 32 (.map (some W.r1)) (.agg #[.int .i64 p.1,.string p.2,.int .i64 k]) h (.slice t50.a t50.n t50.c) kt50∧CallTo Try.prog 33 #[.slice t50.a t50.n t50.c,.int .i64 c] h fun r h15=>∃ t53:Int,r=.int .i64 t53∧CallTo Try.prog 34 #[.slice t50.a t50.n t50.c,.int .i64 t53,.int .i64 (IntKind.wrap .i64 (t53 + (1:Int)))] h15 fun r h16=>∃ t58:Sl,r=.slice t58.a t58.n t58.c∧Cond ((((t58.n:Nat):Int)) == (0:Int)) (PtrOk (some (ad W.wb)) fun p63=>∃ t65:Option Nat,cell h16 p63=some (.map t65)∧∃ t66_0:Int,cell h16 (ad kb)=some (.int .i64 t66_0)∧∃ t66_1:ByteArray,cell h16 ((ad kb).add 1)=some (.string t66_1)∧∃ t66_2:Int,cell h16 ((ad kb).add 2)=some (.int .i64 t66_2)∧MapDel Try.prog 73 (.map t65) (.agg #[.int .i64 t66_0,.string t66_1,.int .i64 t66_2]) h16 fun h17=>K h17) (PtrOk (some (ad W.wb)) fun p68=>∃ t70:Option Nat,cell h16 p68=some (.map t70)∧∃ t71_0:Int,cell h16 (ad kb)=some (.int .i64 t71_0)∧∃ t71_1:ByteArray,cell h16 ((ad kb).add 1)=some (.string t71_1)∧∃ t71_2:Int,cell h16 ((ad kb).add 2)=some (.int .i64 t71_2)∧MapPut Try.prog 73 (.map t70) (.agg #[.int .i64 t71_0,.string t71_1,.int .i64 t71_2]) (.slice t58.a t58.n t58.c) h16 fun h18=>K h18):=by
 refine ⟨_,_,x.lget p k,?_⟩
 cases e:W.lfind p k with
 | none =>
  exfalso
  have:lineOf W.ls p k=[]:=by unfold lineOf; unfold WP.lfind at e; rw [e]
  rw [this] at hj
  simp at hj
 | some y =>
  obtain ⟨hy,hy1,hy2⟩:=WP.lfind_some e
  have el:lineOf W.ls p k=y.cs:=by unfold lineOf; unfold WP.lfind at e; rw [e]
  rw [el] at hj hb hlen hK
  obtain ⟨jy,hjy⟩:=List.mem_iff_getElem?.1 hy
  have ok:=x.ln y hy
  obtain ⟨junk,row,cap⟩:=ok.row
  have okn:=ok.n
  have hjl:=(List.getElem?_eq_some_iff.1 hj).1
  have es:(LNz (some y))=y.sl:=rfl
  rw [es]
  refine index_ok (s:=y.sl) (by rw [ok.a]; exact reads_head row) ok.n (by omega) hj hb ⟨_,rfl,?_⟩
  have nxt:IntKind.wrap .i64 ((j:Int) + 1)=((j + 1:Nat):Int):=by rw [wr (by omega) (by omega)]; rfl
  rw [nxt,ok.a,okn]
  refine delete_ok row cap (by omega) hjl fun h1 r1 k1=>⟨⟨some (ad y.b),y.cs.length - 1,y.sl.c⟩,rfl,?_⟩
  have nr:∀ {b:Nat} {cs:List Value},Row h b cs→¬ b=W.r1:=fun r e=>row_map (e ▸ r) x.m1
  have k1':Kept (fun b=>b=W.r1 ∨ ∃ y ∈ W.ls,y.b=b) h h1:=k1.mono fun b _ e=>.inr ⟨y,hy,e.symm⟩
  have r1y:¬ W.r1=y.b:=fun e=>nr row e.symm
  have lin1:MapAt LinK h1 W.r1 (W.ls.map LN.ent) W.c1:=⟨kept_ob k1 x.m1 r1y,x.lines.2,x.lines.3⟩
  have c01:cell h1 (ad W.wb)=some (.map (some W.r1)):=cell_row (kept_row k1 x.row fun e=>x.lw y hy e.symm) 0
  have rk1:=kept_row k1 rk fun e=>hkb y hy e.symm
  have d1:cell h1 ((ad kb).add 1)=some (.string p.2):=by rw [add_ad]; exact (cell_row rk1 1).trans rfl
  have d2:cell h1 ((ad kb).add 2)=some (.int .i64 k):=by rw [add_ad]; exact (cell_row rk1 2).trans rfl
  have key:∀ z ∈ W.ls,z.ent.key=.agg #[.int .i64 p.1,.string p.2,.int .i64 k]→z=y:=fun z hz e=>by
   obtain ⟨e1,e2⟩:=lnK_inj (show lnK z.key z.kind=lnK p k from e)
   exact mem_inj x.kn hz hy (by show (z.key,z.kind)=(y.key,y.kind); rw [e1,e2,hy1,hy2])
  have there:¬ Lacks (W.ls.map LN.ent) (.agg #[.int .i64 p.1,.string p.2,.int .i64 k]):=fun hl=>hl y.ent (List.mem_map.2 ⟨y,hy,rfl⟩) (by show lnK y.key y.kind=_; rw [hy1,hy2]; rfl)
  have eln:(y.cs.eraseIdx j).length=y.cs.length - 1:=List.length_eraseIdx_of_lt hjl
  refine Cond_b (fun hz=>?_) fun hz=>?_
  ·have hz:y.cs.length - 1=0:=by
    have:((y.cs.length - 1:Nat):Int)=0:=by simpa using hz
    omega
   refine PtrOk_mk ⟨_,c01,_,(cell_row rk1 0).trans rfl,_,d1,_,d2,LinK,W.r1,_,W.c1,klaw_lines,⟨_,_,_,rfl⟩,rfl,lin1,fun hl=>absurd hl there,fun i e' hi he'=>?_⟩
   rw [List.getElem?_map] at hi
   obtain ⟨z,hz',rfl⟩:=Option.map_eq_some_iff.1 hi
   obtain rfl:=key z (List.mem_of_getElem? hz') he'
   have em:(W.ls.map LN.ent).eraseIdx i=(W.ls.eraseIdx i).map LN.ent:=by rw [List.eraseIdx_eq_take_drop_succ,List.eraseIdx_eq_take_drop_succ,List.map_append,List.map_take,List.map_drop]
   rw [em]
   have k2:=kept_seti h1 W.r1 (.map ((W.ls.eraseIdx i).map LN.ent).toArray W.c1)
   have ob2:=seti_self (o:=.map ((W.ls.eraseIdx i).map LN.ent).toArray W.c1) lin1.1
   generalize h1.setIfInBounds W.r1 (.map ((W.ls.eraseIdx i).map LN.ent).toArray W.c1)=h2 at k2 ob2
   have k02:Kept (fun b=>b=W.r1 ∨ b=z.b) h h2:=(k1.mono fun _ _ e=>.inr e).trans (k2.mono fun _ _ e=>.inl e)
   obtain ⟨kn',ln'⟩:=line_erase x.kn hz'
   have other:∀ w ∈ W.ls.eraseIdx i,w ∈ W.ls∧w.b ≠ z.b:=fun w hw=>by
    obtain ⟨i',hne,hi'⟩:=(mem_erase hz').1 hw
    exact ⟨List.mem_of_getElem? hi',fun e=>hne (map_inj_at x.lb hi' hz' e)⟩
   have sub:=List.eraseIdx_sublist W.ls i
   refine hK h2 (W.ls.eraseIdx i) ⟨kept_row k02 x.row (by rintro (e | e); exact nr x.row e; exact x.lw z hy e.symm),ob2,kept_ob k02 x.m2 (by rintro (e | e); exact x.r12 e.symm; exact row_map (e ▸ row) x.m2),fun w hw=>(x.pw w hw).keep k02 (by obtain ⟨_,r⟩:=(x.pw w hw).row; rintro (e | e); exact nr r e; exact x.lp z hy w hw e),fun w hw=>(x.ln w (other w hw).1).keep k02 (by obtain ⟨_,r,_⟩:=(x.ln w (other w hw).1).row; rintro (e | e); exact nr r e; exact (other w hw).2 e),x.r12,(sub.map _).nodup x.lb,fun w hw=>x.lw w (other w hw).1,fun w hw v hv=>x.lp w (other w hw).1 v hv,x.pwb,(sub.map _).nodup x.bn1,x.bn2,fun w hw=>x.lt1 w (other w hw).1,x.lt2,x.cn,kn',x.tn,x.tu,x.tl⟩ (fun q l=>?_) (fun w hw=>⟨w,(other w hw).1,rfl⟩) (k02.mono fun b _ e=>e.imp_right fun e=>⟨z,hy,e.symm⟩)
   rw [ln' q l,hy1,hy2]
   by_cases e:q=p∧l=k
   ·rw [if_pos e,if_pos e]
    exact (List.eq_nil_of_length_eq_zero (eln.trans hz)).symm
   ·rw [if_neg e,if_neg e]
  ·have hz:y.cs.length - 1 ≠ 0:=by
    intro e
    rw [e] at hz
    cases hz
   refine PtrOk_mk ⟨_,c01,_,(cell_row rk1 0).trans rfl,_,d1,_,d2,LinK,W.r1,_,W.c1,klaw_lines,⟨_,_,_,rfl⟩,rfl,lin1,fun hl=>absurd hl there,fun i e' hi he'=>?_⟩
   rw [List.getElem?_map] at hi
   obtain ⟨z,hz',rfl⟩:=Option.map_eq_some_iff.1 hi
   obtain rfl:=key z (List.mem_of_getElem? hz') he'
   have em:(W.ls.map LN.ent).set i { z.ent with val:=.slice (some (ad z.b)) (z.cs.length - 1) z.sl.c }=(W.ls.set i { z with sl:=⟨some (ad z.b),z.cs.length - 1,z.sl.c⟩,cs:=z.cs.eraseIdx j }).map LN.ent:=by rw [List.map_set]; rfl
   rw [em]
   generalize hy':({ z with sl:=⟨some (ad z.b),z.cs.length - 1,z.sl.c⟩,cs:=z.cs.eraseIdx j }:LN)=y'
   have f1:y'.key=z.key:=by rw [← hy']
   have f2:y'.kind=z.kind:=by rw [← hy']
   have f3:y'.b=z.b:=by rw [← hy']
   have f4:y'.born=z.born:=by rw [← hy']
   have f5:y'.cs=z.cs.eraseIdx j:=by rw [← hy']
   have f6:y'.sl=⟨some (ad z.b),z.cs.length - 1,z.sl.c⟩:=by rw [← hy']
   have k2:=kept_seti h1 W.r1 (.map ((W.ls.set i y').map LN.ent).toArray W.c1)
   have ob2:=seti_self (o:=.map ((W.ls.set i y').map LN.ent).toArray W.c1) lin1.1
   generalize h1.setIfInBounds W.r1 (.map ((W.ls.set i y').map LN.ent).toArray W.c1)=h2 at k2 ob2
   have k02:Kept (fun b=>b=W.r1 ∨ b=z.b) h h2:=(k1.mono fun _ _ e=>.inr e).trans (k2.mono fun _ _ e=>.inl e)
   obtain ⟨kn',ln'⟩:=line_set x.kn hz' (y':=y') ⟨f1,f2⟩
   have other:∀ w ∈ W.ls.set i y',w=y' ∨ (w ∈ W.ls∧w.b ≠ z.b):=fun w hw=>((mem_set_iff hz').1 hw).imp_right fun ⟨i',hne,hi⟩=>⟨List.mem_of_getElem? hi,fun e=>hne (map_inj_at x.lb hi hz' e)⟩
   refine hK h2 (W.ls.set i y') ⟨kept_row k02 x.row (by rintro (e | e); exact nr x.row e; exact x.lw z hy e.symm),ob2,kept_ob k02 x.m2 (by rintro (e | e); exact x.r12 e.symm; exact row_map (e ▸ row) x.m2),fun w hw=>(x.pw w hw).keep k02 (by obtain ⟨_,r⟩:=(x.pw w hw).row; rintro (e | e); exact nr r e; exact x.lp z hy w hw e),fun w hw=>?_,x.r12,?_,fun w hw=>?_,fun w hw v hv=>?_,x.pwb,?_,x.bn2,fun w hw=>?_,x.lt2,x.cn,kn',x.tn,x.tu,x.tl⟩ (fun q l=>?_) (fun w hw=>?_) (k02.mono fun b _ e=>e.imp_right fun e=>⟨z,hy,e.symm⟩)
   ·rcases other w hw with rfl | ⟨hw,hwb⟩
    ·refine ⟨by rw [f6,f3],by rw [f6,f5,eln],fun e=>?_,iv 0 :: junk,?_,?_⟩
     ·rw [f5] at e
      rw [e] at eln
      exact hz eln.symm
     ·rw [f3,f5]
      exact kept_row k2 r1 fun e=>r1y e.symm
     ·rw [f5,f6,eln]
      simp only [List.length_cons]
      omega
    ·exact (x.ln w hw).keep k02 (by obtain ⟨_,r,_⟩:=(x.ln w hw).row; rintro (e | e); exact nr r e; exact hwb e)
   ·rw [List.map_set,f3]
    refine nodup_set x.lb fun i' hne e=>?_
    rw [List.getElem?_map] at e
    obtain ⟨w,hw,ew⟩:=Option.map_eq_some_iff.1 e
    exact hne (map_inj_at x.lb hw hz' ew)
   ·rcases other w hw with rfl | ⟨hw,_⟩
    ·rw [f3]; exact x.lw z hy
    ·exact x.lw w hw
   ·rcases other w hw with rfl | ⟨hw,_⟩
    ·rw [f3]; exact x.lp z hy v hv
    ·exact x.lp w hw v hv
   ·rw [List.map_set,f4]
    exact nodup_set x.bn1 fun i' hne e=>by
     rw [List.getElem?_map] at e
     obtain ⟨w,hw,ew⟩:=Option.map_eq_some_iff.1 e
     exact hne (map_inj_at x.bn1 hw hz' ew)
   ·rcases other w hw with rfl | ⟨hw,_⟩
    ·rw [f4]; exact x.lt1 z hy
    ·exact x.lt1 w hw
   ·rw [ln' q l,hy1,hy2,f5]
   ·rcases other w hw with rfl | ⟨hw,_⟩
    ·exact ⟨z,hy,f3.symm⟩
    ·exact ⟨w,hw,rfl⟩
end
end Go.Ev
