/- (*Heap) / want, become, fit, Collect, Resize: as the document's heap / fit, Collect, Resize, find and what goes through it: as the document's heap. No condition but that these are ones. -/
import Derived.Test.YtngcoodbepbhbaaE10
set_option linter.all false
set_option maxRecDepth 100000
namespace Go.Ev
open Go.Proofs
namespace RS
theorem reachL_withB (s:RS) (ids:List Nat) (g:Gc) (n:Nat):s.reachL { g with b:=n } ids={ s.reachL g ids with b:=n }:=by
 have h:=s.reachL_with ids g g.a n
 have e:({ s.reachL g ids with a:=g.a,b:=n }:Gc)={ s.reachL g ids with b:=n }:=by rw [← (s.reachL_ab ids g).1]
 exact h.trans e
end RS
section
variable {h:Hp} {hb:Nat} {role:Nat→Role} {m:MH} {G:Geo} {s:RS}
theorem HRep.loc_some (r:HRep h hb role m G) {i:Nat} {o:AObj} (ho:m.blocks[i]?=some (some o)):∃ L,G.locs[i]?=some (some L):=by
 have hi:=(List.getElem?_eq_some_iff.1 ho).1
 have hl:=r.ll
 have hx:G.locs[i]?=some G.locs[i]:=List.getElem?_eq_getElem (by omega)
 have hb:=r.bl i _ _ ho hx
 cases hL:G.locs[i] with
 | none=>rw [hL] at hb; exact hb.elim
 | some L=>rw [hL] at hx; exact ⟨L,hx⟩
theorem HRep.popG (r:HRep h hb role m G) {x:Nat} {l:List Nat} (hg:m.grey=x :: l) {K:Hp→Prop} (hK:∀ h' G',HRep h' hb role { m with grey:=l } G'→Ext h role h' role→K h') :
  Go.Ev.stOk h ((ad hb).add 5)∧Let (setc h ((ad hb).add 5) (.slice (if G.gs.c=(1:Int).toNat then G.gs.a else Option.map (fun x=>x.add ((1:Int).toNat * 1)) G.gs.a) (G.gs.n - (1:Int).toNat) (G.gs.c - (1:Int).toNat))) fun h'=>K h':=by
 obtain ⟨r1,x1⟩:=r.popGrey hg
 rw [add_ad]
 exact ⟨r.stOk (by omega),hK _ _ r1 x1⟩
theorem Rest.grey (m:MH) (l:List Nat):Rest m { m with grey:=l }:=⟨rfl,rfl,rfl,rfl,rfl,rfl,rfl,rfl,rfl,rfl,rfl⟩
abbrev L43a (R:Value→Hp→Prop) (hb:Nat) (n:Int) (h:Hp):Prop:=LoopEv (evC Try.prog tab lv56 (sub [1,0,1,0,0] body56)) (contAt Try.prog tab lv56 [1,0,1,0] body56 [] (bodyK Try.prog Try.f56 [] R)) [(0,.pointer (some (ad hb))),(15,.int .i64 n),(16,.int .i64 0)] 192 h
abbrev L43b (R:Value→Hp→Prop) (hb:Nat) (h:Hp):Prop:=LoopEv (evC Try.prog tab lv56 (sub [1,1,1,0,0,0] body56)) (contAt Try.prog tab lv56 [1,1,1,0,0] body56 [] (bodyK Try.prog Try.f56 [] R)) [(0,.pointer (some (ad hb))),(3,.int .i64 1)] 192 h
/-- The handles. -/
theorem collect_roots (v:s.Inv) (rp:HRep h hb role (s.words []) G) {R:Value→Hp→Prop}
  (hR:∀ h' role' G' m',HRep h' hb role' m' G'→Ext h role h' role'→RS.CRep s s.gc0 (fun _=>0) m'→Rest { s.words [] with roots:=s.rootsAt s.gc0 s.roots.length } m'→L43b R hb h') :
  L43a R hb (s.roots.length:Nat) h:=by
 have hrl:=v.rl
 refine f56L1_rule (fun q s0 s15 s16 h'=>∃ (i:Nat) (role':Nat→Role) (G':Geo) (m':MH),i ≤ s.roots.length∧q=s.roots.length - i∧s0=some (ad hb)∧s15=((s.roots.length:Nat):Int)∧s16=(i:Int)∧HRep h' hb role' m' G'∧Ext h role h' role' ∧
  RS.CRep s (s.gR i) (fun _=>0) m'∧Rest { s.words [] with roots:=s.rootsAt (s.gR i) i } m') s.roots.length
  ⟨0,role,G,s.words [],Nat.zero_le _,rfl,rfl,rfl,rfl,rp,Ext.refl h role,RS.CRep.begin s,⟨rfl,rfl,rfl,rfl,rfl,rfl,by simp [RS.rootsAt,RS.words],rfl,rfl,rfl,rfl⟩⟩ ?_
 rintro q s0 s15 s16 g h1 ⟨i,role1,G1,m1,hi,rfl,rfl,rfl,rfl,rp1,x1,c1,e1⟩
 unfold f56L1
 have hn:=rp1.ts_n
 have hml:m1.roots.length=s.roots.length:=by
  rw [e1.roots]
  show (s.rootsAt (s.gR i) i).length=_
  simp [RS.rootsAt]; omega
 have c9:cell h1 ((ad hb).add 9)=some (.slice G1.ts.a G1.ts.n G1.ts.c):=(rp1.c 9).trans rfl
 refine Cond_dec (fun hlt=>?_) fun hge=>?_
 ·have hlt:i < s.roots.length:=by omega
  obtain ⟨x,hx⟩:∃ x,s.roots[i]?=some x:=⟨_,List.getElem?_eq_getElem hlt⟩
  have hxr:m1.roots[i]?=some (s.rootW x):=by rw [e1.roots]; exact RS.rootsAt_get hx
  obtain ⟨b,ha,k1,k2,_,_⟩:=rp1.root_at hxr
  have cb:(0:Int) ≤ (i:Int)∧(i:Int) < ((G1.ts.n:Nat):Int):=by omega
  refine PtrOk_mk ⟨G1.ts,c9,cb,PtrOk_of ha ⟨(s.rootW x).1,by rw [Int.toNat_natCast]; exact k1,?_⟩⟩
  cases x with
  | none =>
   refine Cond_f rfl ?_
   unfold f56K1
   have e4:s.rootsAt (s.gR i) (i + 1)=s.rootsAt (s.gR i) i:=(RS.rootsAt_succ hx).trans (RS.set_same (RS.rootsAt_get hx))
   refine ⟨s.roots.length - (i + 1),by omega,i + 1,role1,G1,m1,hlt,rfl,rfl,rfl,by rw [wrap_i64' (by omega) (by omega)]; rfl,rp1,x1,by rw [RS.gR_none hx]; exact c1,?_⟩
   rw [RS.gR_none hx,e4]; exact e1
  | some id =>
   have k2:cell h1 (((ad b).add (i * 2)).add 1)=some (uv (s.ref id)):=k2
   refine Cond_t rfl (PtrOk_mk ⟨G1.ts,c9,PtrOk_mk ⟨G1.ts,c9,cb,PtrOk_of ha ⟨((s.ref id:Nat):Int),by rw [Int.toNat_natCast]; exact k2,?_⟩⟩⟩)
   have hid:id=0 ∨ s.here id:=v.rt id (List.mem_of_getElem? hx)
   have kg:=RS.gR_ok v i
   obtain ⟨q1,q2⟩:=c1.reachAny v kg hid
   refine hmoved_all (r:=s.ref id) rp1 (c1.moveOk v kg hid) fun h2 role2 G2 rp2 hh2 x2=>⟨(((mMoved m1 (s.ref id)).2:Nat):Int),rfl,?_⟩
   have ets:G2.ts=G1.ts:=hh2.2.2.2.1
   have c9':cell h2 ((ad hb).add 9)=some (.slice G1.ts.a G1.ts.n G1.ts.c):=(rp2.c 9).trans (by show some (slV G2.ts)=_; rw [ets]; rfl)
   refine ⟨⟨G1.ts,c9',rfl⟩,cb,PtrOk_of ha ?_⟩
   have er:(mMoved m1 (s.ref id)).1.roots=s.rootsAt (s.gR i) i:=(mMoved_rest _ _).roots.trans e1.roots
   have hxr2:(mMoved m1 (s.ref id)).1.roots[i]?=some (s.rootW (some id)):=by rw [er]; exact RS.rootsAt_get hx
   obtain ⟨b',ha',st,rp3,x3⟩:=rp2.setRoot hxr2 (s.newRef (s.reach (s.gR i) id) id)
   rw [ets,ha] at ha'
   obtain rfl:b=b':=by simpa [ad] using ha'
   rw [Int.toNat_natCast,q1]
   refine ⟨st,?_⟩
   unfold f56K1
   refine ⟨s.roots.length - (i + 1),by omega,i + 1,role2,G2,_,hlt,rfl,rfl,rfl,by rw [wrap_i64' (by omega) (by omega)]; rfl,rp3,(x1.trans x2).trans x3,?_,?_⟩
   ·rw [RS.gR_some hx]; exact q2.roots _
   ·have e2:=(e1.trans (⟨rfl,rfl,rfl,rfl,rfl,rfl,rfl,rfl,rfl,rfl,rfl⟩:Rest m1 m1)).trans (mMoved_rest m1 (s.ref id))
    have e2:=e2.setRoots ((s.rootsAt (s.gR i) i).set i (s.rootN (s.reach (s.gR i) id) (some id)))
    have e4:s.rootsAt (s.gR (i + 1)) (i + 1)=(s.rootsAt (s.gR i) i).set i (s.rootN (s.reach (s.gR i) id) (some id)):=by
     rw [RS.rootsAt_succ hx,RS.gR_some hx]
     congr 1
     exact RS.rootsAt_congr fun id' h'=>RS.newRef_pre v (s.reach_pre _ _).1 (RS.gR_in h') kg.ln
    rw [er,e4]
    exact e2
 ·have:i=s.roots.length:=by omega
  subst this
  rw [RS.gR_len] at c1 e1
  exact hR h1 role1 G1 m1 rp1 x1 c1 e1
/-- The walk. -/
theorem collect_scan (v:s.Inv) (rp:HRep h hb role m G) (c:RS.CRep s s.gc0 (fun _=>0) m) {R:Value→Hp→Prop}
  (hR:∀ h' role' G' m',HRep h' hb role' m' G'→Ext h role h' role'→RS.CRep s s.gcEnd (s.dnOf s.gcEnd) m'→Rest m m'→∀ J2 n2 x3,f56K2 J2 n2 (some (ad hb)) x3 false h' R):L43b R hb h:=by
 have h0ab:=s.gc0_ab
 have hd0:s.dnOf (s.gcAt 0)=fun _=>0:=by
  funext x
  show (if x ∈ s.gc0.copied.take s.gc0.a ∨ x ∈ s.gc0.line.take s.gc0.b then _ else 0)=0
  rw [h0ab.1,h0ab.2]
  simp
 refine f56L2_rule (fun q s0 s3 h'=>∃ (n:Nat) (role':Nat→Role) (G':Geo) (m':MH),q=(s.small.length + s.slots.length) - n∧s0=some (ad hb)∧s3=((1 + s.sizes ((s.gcAt n).copied.take (s.gcAt n).a):Nat):Int)∧HRep h' hb role' m' G'∧Ext h role h' role' ∧
  RS.CRep s (s.gcAt n) (s.dnOf (s.gcAt n)) m'∧Rest m m'∧(s.gcAt n).a + (s.gcAt n).b=n) (s.small.length + s.slots.length)
  ⟨0,role,G,m,rfl,rfl,?_,rp,Ext.refl h role,by rw [hd0]; exact c,Rest.refl m,?_⟩ ?_
 ·show (1:Int)=((1 + s.sizes (s.gc0.copied.take s.gc0.a):Nat):Int)
  rw [h0ab.1]; rfl
 ·show s.gc0.a + s.gc0.b=0; omega
 rintro q s0 s3 g h1 ⟨n,role1,G1,m1,rfl,rfl,rfl,rp1,x1,c1,e1,hn⟩
 have k:=RS.GcOk.at v n
 have eg:s.gcAt (n + 1)=s.gcStep (s.gcAt n):=rfl
 generalize hgn:s.gcAt n=gn at *
 have hl2:=k.len2
 have ka:=k.a
 have kb:=k.b
 have hsz:=RS.sizes_le (s:=s) gn.copied s.small (List.nodup_append.1 k.nd).1 k.cp
 have i1:=v.u1
 have i2:=v.u2
 have i3:=v.h2
 have i4:=v.l2
 unfold f56L2
 have c2:cell h1 ((ad hb).add 2)=some (.pointer (some (ad G1.Ls.pb))):=(rp1.c 2).trans rfl
 have c5:cell h1 ((ad hb).add 5)=some (.slice G1.gs.a G1.gs.n G1.gs.c):=(rp1.c 5).trans rfl
 obtain ⟨wcs,fcs,fss,ra⟩:=rp1.spare
 have hu:Go.Ev.used m1.spare=1 + s.sizes gn.copied:=c1.used_spare
 refine PtrOk_mk ⟨_,c2,aused_ok ra ⟨_,rfl,?_⟩⟩
 refine Cond_dec (fun hlt=>?_) fun hge=>?_
 ·unfold f56K2
  refine Cond_t rfl (PtrOk_mk ⟨_,c2,aused_ok ra ⟨_,rfl,Cond_t (decide_eq_true hlt) (PtrOk_mk ⟨_,c2,?_⟩)⟩⟩)
  have hal:gn.a < gn.copied.length:=by
   rcases Nat.lt_or_ge gn.a gn.copied.length with hl | hl
   ·exact hl
   ·rw [List.take_of_length_le hl] at hlt; omega
  obtain ⟨id,hid⟩:∃ id,gn.copied[gn.a]?=some id:=⟨_,List.getElem?_eq_getElem hal⟩
  obtain ⟨d1,d2⟩:=RS.dnOf_small v k hid
  have hh:s.here id:=k.here (.inl (List.mem_of_getElem? hid))
  have lk:=RS.mLook_ok v c1 k (t:=.sp gn.a) hid hh d1
  obtain ⟨c3,k3,_⟩:=RS.mLook_rep v c1 k (t:=.sp gn.a) hid hh d1 _ (Nat.le_refl _)
  rw [List.take_length] at c3
  have hpa:=c1.posA gn.a
  refine look_ok rp1 lk (RS.enc_ok v hh) (by show some (G1.Ls.pb,((pos m1.spare gn.a:Nat):Int))=some (G1.Ls.pb,_); rw [hpa]) fun h2 role2 G2 rp2 hh2 x2=>⟨_,rfl,?_⟩
  have el:(s.enc id).refs.length=(s.obj id).refs.length:=List.length_map ..
  rw [el] at rp2
  have hst:(1 + s.sizes (gn.copied.take gn.a)) + s.size id=1 + s.sizes (gn.copied.take (gn.a + 1)):=by rw [RS.take_snoc hid,RS.sizes_snoc]; omega
  have hle:=s.sizes_take gn.copied (gn.a + 1)
  rw [RS.gcStep_small hid] at eg
  refine ⟨s.small.length + s.slots.length - (n + 1),by omega,n + 1,role2,G2,_,rfl,rfl,?_,rp2,x1.trans x2,?_,e1.trans (mLook_rest _ _ _),?_⟩
  ·rw [eg,s.enc_size id,wrap_ar (by omega) (by omega)]
   show _=((1 + s.sizes ((s.reachL gn (s.obj id).refs).copied.take (gn.a + 1)):Nat):Int)
   rw [RS.take_pre (s.reachL_pre _ _).1 (by omega)]
   omega
  ·rw [eg,d2]; exact c3.withA _
  ·rw [eg]
   show gn.a + 1 + (s.reachL gn (s.obj id).refs).b=n + 1
   rw [(s.reachL_ab _ _).2]; omega
 ·have hal:gn.a=gn.copied.length:=by
   rcases Nat.lt_or_ge gn.a gn.copied.length with hl | hl
   ·have h1:=RS.sizes_snoc s (gn.copied.take gn.a) gn.copied[gn.a]
    have h2:=s.sizes_take gn.copied (gn.a + 1)
    rw [RS.take_snoc (List.getElem?_eq_getElem hl),h1] at h2
    have:1 ≤ s.size gn.copied[gn.a]:=by unfold RS.size RObj.size; omega
    omega
   ·omega
  have hg:=c1.grey
  have hgn':=rp1.gs_n
  rw [hg,List.length_map,List.length_drop] at hgn'
  refine PtrOk_mk ⟨G1.gs,c5,?_⟩
  by_cases hz:(0:Int) < ((G1.gs.n:Nat):Int)
  ·rw [show decide (((G1.gs.n:Nat):Int) > (0:Int))=true from decide_eq_true hz]
   have hbl:gn.b < gn.line.length:=by omega
   have hid:gn.line[gn.b]?=some gn.line[gn.b]:=List.getElem?_eq_getElem hbl
   have hgr:m1.grey=(s.obj gn.line[gn.b]).pl :: (gn.line.drop (gn.b + 1)).map fun id=>(s.obj id).pl:=by rw [hg,List.drop_eq_getElem_cons hbl]; rfl
   generalize gn.line[gn.b]=id at hid hgr
   unfold f56K2
   refine Cond_t rfl (PtrOk_mk ⟨_,c2,aused_ok ra ⟨_,rfl,Cond_f (decide_eq_false hge) (PtrOk_mk ⟨G1.gs,c5,⟨by omega,hz⟩,?_⟩)⟩⟩)
   have gs:=rp1.gs
   rw [hgr] at gs
   obtain ⟨p,hp,hc⟩:=gs.at (i:=0) (v:=nv (s.obj id).pl) rfl
   refine PtrOk_of hp ⟨_,hc,PtrOk_mk ⟨G1.gs,c5,⟨by omega,by omega⟩,PtrOk_mk ?_⟩⟩
   refine rp1.popG hgr fun h2 G2 rp2 x2=>?_
   obtain ⟨d1,d2⟩:=RS.dnOf_big v k hid
   have hm:=List.mem_of_getElem? hid
   have hh:s.here id:=k.here (.inr hm)
   have c3:=c1.pop rfl
   have k3:=k.withB (n:=gn.b + 1) hbl
   have tg:RS.IsTgt s { gn with b:=gn.b + 1 } id (.sl (s.obj id).pl):=⟨hm,rfl⟩
   have lk:=RS.mLook_ok v c3 k3 tg hh d1
   obtain ⟨c4,k4,_⟩:=RS.mLook_rep v c3 k3 tg hh d1 _ (Nat.le_refl _)
   rw [List.take_length,RS.reachL_withB] at c4
   have hat:=tg.at v c3 k3
   obtain ⟨o,ho⟩:∃ o,m1.blocks[(s.obj id).pl]?=some (some o):=by
    have hat:(m1.blocks[(s.obj id).pl]?).bind (fun x=>x)=some _:=hat
    cases hx:m1.blocks[(s.obj id).pl]? with
    | none=>rw [hx] at hat; cases hat
    | some y=>rw [hx] at hat; exact ⟨_,congrArg some hat⟩
   obtain ⟨L,hL⟩:=rp2.loc_some (i:=(s.obj id).pl) ho
   have hbn:=rp2.bs_n
   have hbn:G2.bs.n=m1.blocks.length:=hbn
   have hpl:=(List.getElem?_eq_some_iff.1 ho).1
   obtain ⟨bb,hba,hbc⟩:=rp2.slot_at hL
   have c3':cell h2 ((ad hb).add 3)=some (.slice G2.bs.a G2.bs.n G2.bs.c):=(rp2.c 3).trans rfl
   refine PtrOk_mk ⟨G2.bs,c3',⟨by omega,by omega⟩,PtrOk_of hba ⟨some (ad L.pb),by rw [Int.toNat_natCast]; exact hbc,?_⟩⟩
   refine look_ok rp2 lk (RS.enc_ok v hh) (by show (match G2.locs[(s.obj id).pl]? with | some (some L)=>some (L.pb,(1:Int)) | _=>none)=some (L.pb,1); rw [hL]) fun h3 role3 G3 rp3 hh3 x3=>⟨_,rfl,?_⟩
   have el:(s.enc id).refs.length=(s.obj id).refs.length:=List.length_map ..
   rw [el] at rp3
   rw [RS.gcStep_big (by rw [hal]; exact List.getElem?_eq_none (Nat.le_refl _)) hid] at eg
   refine ⟨s.small.length + s.slots.length - (n + 1),by omega,n + 1,role3,G3,_,rfl,rfl,?_,rp3,(x1.trans x2).trans x3,?_,(e1.trans (Rest.grey m1 _)).trans (mLook_rest _ _ _),?_⟩
   ·rw [eg]
    show _=((1 + s.sizes ((s.reachL gn (s.obj id).refs).copied.take (s.reachL gn (s.obj id).refs).a):Nat):Int)
    rw [(s.reachL_ab _ _).1,RS.take_pre (s.reachL_pre _ _).1 ka]
   ·rw [eg,d2]; exact c4
   ·rw [eg]
    show (s.reachL gn (s.obj id).refs).a + (gn.b + 1)=n + 1
    rw [(s.reachL_ab _ _).1]; omega
  ·rw [show decide (((G1.gs.n:Nat):Int) > (0:Int))=false from decide_eq_false hz]
   have f:RS.Fin (s.gcAt n):=by rw [hgn]; exact ⟨hal,by omega⟩
   have ee:=RS.gcEnd_eq v f (by rw [hgn]; omega)
   rw [hgn] at ee
   exact hR h1 role1 G1 m1 rp1 x1 (by rw [ee]; exact c1) e1 _ _ _
end
end Go.Ev
set_option linter.all false
set_option maxRecDepth 100000
namespace Go.Ev
open Go.Proofs
namespace RS
section
variable {s:RS}
/-- A slot's block behind the walk, and what is left of it. -/
def f0 (s:RS) (id:Nat):Option AObj:=if id=0 then none else some (s.encD s.gcEnd (s.dnOf s.gcEnd id) id)
def f1 (s:RS) (id:Nat):Option AObj:=if id ∈ s.gcEnd.line then s.f0 id else none
def blocksAt (s:RS) (i:Nat):List (Option AObj):=(s.slots.take i).map s.f1 ++ (s.slots.drop i).map s.f0
def lw (s:RS) (id:Nat):Nat:=if id ∈ s.gcEnd.line then s.size id + 1 else 0
def largeAt (s:RS) (i:Nat):Nat:=((s.slots.take i).map s.lw).sum
theorem blocksAt_len (i:Nat):(s.blocksAt i).length=s.slots.length:=by unfold blocksAt; simp; omega
theorem blocksAt_get {i x:Nat} (h:s.slots[i]?=some x):(s.blocksAt i)[i]?=some (s.f0 x):=by
 have hi:=(List.getElem?_eq_some_iff.1 h).1
 unfold blocksAt
 rw [List.getElem?_append_right (by simp; omega),List.getElem?_map,List.getElem?_drop]
 have:i + (i - ((s.slots.take i).map s.f1).length)=i:=by simp; omega
 rw [this,h]; rfl
theorem blocksAt_succ {i x:Nat} (h:s.slots[i]?=some x):s.blocksAt (i + 1)=(s.blocksAt i).set i (s.f1 x):=by
 obtain ⟨hi,he⟩:=List.getElem?_eq_some_iff.1 h
 unfold blocksAt
 rw [List.drop_eq_getElem_cons hi,he,take_snoc h,List.map_append,List.set_append_right _ _ (by simp; omega)]
 have:i - ((s.slots.take i).map s.f1).length=0:=by simp; omega
 rw [this]
 simp
theorem largeAt_succ {i x:Nat} (h:s.slots[i]?=some x):s.largeAt (i + 1)=s.largeAt i + s.lw x:=by
 unfold largeAt
 rw [take_snoc h]
 simp
theorem largeAt_le (i:Nat):s.largeAt i ≤ s.collection.large:=by
 show _ ≤ (s.slots.map s.lw).sum
 unfold largeAt
 have:s.slots=s.slots.take i ++ s.slots.drop i:=(List.take_append_drop i _).symm
 conv=>rhs; rw [this]
 rw [List.map_append,List.sum_append]
 omega
theorem largeAt_len:s.largeAt s.slots.length=s.collection.large:=by
 unfold largeAt
 rw [List.take_length]
 rfl
theorem blocks_end (v:s.Inv):s.blocksAt s.slots.length=s.collection.slots.map fun id=>if id=0 then none else some (s.collection.enc id):=by
 have k:=GcOk.fin v
 unfold blocksAt
 rw [List.take_length,List.drop_length,collection_slots,List.map_map,List.map_nil,List.append_nil]
 refine List.map_congr_left fun x _=>?_
 show s.f1 x=if (if x ∈ s.gcEnd.line then x else 0)=0 then none else some (s.collection.enc (if x ∈ s.gcEnd.line then x else 0))
 unfold f1 f0
 by_cases h:x ∈ s.gcEnd.line
 ·simp only [if_pos h]
  rw [if_neg (k.ln x h).1,if_neg (k.ln x h).1,collection_enc v (.inr h),dnOf_fin (gcEnd_fin v) (.inr h)]
 ·simp only [if_neg h,if_true]
theorem half_end (v:s.Inv) {dn:Nat→Nat} (hd:dn=s.dnOf s.gcEnd):(s.gcEnd.copied.map fun id=>s.encD s.gcEnd (dn id) id)=s.collection.small.map s.collection.enc:=by
 subst hd
 refine List.map_congr_left fun x hx=>?_
 rw [collection_enc v (.inl hx),dnOf_fin (gcEnd_fin v) (.inl hx)]
theorem roots_end (v:s.Inv):s.rootsAt s.gc0 s.roots.length=s.collection.roots.map s.collection.rootW:=by
 unfold rootsAt
 rw [List.take_length,List.drop_length,List.map_nil,List.append_nil]
 refine List.map_congr_left fun x hx=>?_
 cases x with
 | none=>rfl
 | some id =>
  show (true,s.newRef s.gc0 id)=(true,s.collection.ref id)
  have hp:=s.gcAt_pre 0 s.objs.length
  rw [Nat.zero_add] at hp
  have h0:id=0 ∨ id ∈ s.gc0.copied ∨ id ∈ s.gc0.line:=by
   have:=gR_in (s:=s) (i:=s.roots.length) (id:=id) (by rw [List.take_length]; exact hx)
   rwa [gR_len] at this
  rw [collection_ref v (gcEnd_root hx)]
  exact congrArg _ (newRef_pre v (g':=s.gcEnd) hp.1 h0 (GcOk.zero v).ln).symm
end
end RS
section
variable {h:Hp} {hb:Nat} {role:Nat→Role} {m:MH} {G:Geo} {s:RS}
theorem add_hd (b i j:Nat):((ad b).add i).add j=⟨b,i + j,none⟩:=by rw [add_ad,add_mk]
/-- The words ahead of the slots' loop. -/
def RS.tailM (s:RS) (m:MH) (i:Nat):MH:={ m with half:=m.spare,hz:=m.sz,spare:=m.half,sz:=m.hz,blocks:=s.blocksAt i,large:=s.largeAt i }
theorem collect_tail (v:s.Inv) (rp:HRep h hb role m G) (c:RS.CRep s s.gcEnd (s.dnOf s.gcEnd) m) (e:Rest { s.words [] with roots:=s.rootsAt s.gc0 s.roots.length } m) {R:Value→Hp→Prop}
  (hR:∀ h' role' G' sp',HRep h' hb role' (s.collection.words sp') G'→ExtO h role h' role'→R (.tuple #[]) h'):∀ J2 n2 x3,f56K2 J2 n2 (some (ad hb)) x3 false h R:=by
 intro J2 n2 x3
 have k:=RS.GcOk.fin v
 have i1:=v.u1
 have i2:=v.u2
 have i3:=v.h2
 have i4:=v.l2
 have i5:=v.sll
 have hlg:=RS.collection_large v
 unfold f56K2
 refine Cond_f rfl ?_
 have c2:cell h ((ad hb).add 2)=some (.pointer (some (ad G.Ls.pb))):=(rp.c 2).trans rfl
 have c1:cell h ((ad hb).add 1)=some (.pointer (some (ad G.Lh.pb))):=(rp.c 1).trans rfl
 refine PtrOk_mk ⟨_,c2,PtrOk_mk ⟨_,c1,PtrOk_mk ?_⟩⟩
 obtain ⟨rs,xs⟩:=rp.swap
 rw [add_ad]
 refine ⟨rp.stOk (by omega),Let_mk fun h9 e9=>PtrOk_mk ?_⟩
 have hrow9:Row h9 hb ((hcells m G).set 1 (.pointer (some (ad G.Ls.pb)))):=by rw [e9]; exact row_setc rp.row 1 _
 rw [← e9] at rs xs
 rw [add_ad]
 refine ⟨stOk_row hrow9 (by show 2 < 19; omega),Let_mk fun h10 e10=>PtrOk_mk ?_⟩
 rw [← e10] at rs xs
 have hsz:m.sz=s.half:=c.sz
 have hhz:m.hz=s.half:=e.hz
 have hbl:m.blocks=s.blocksAt 0:=by
  rw [c.blocks]
  unfold RS.blocksAt
  rw [List.take_zero,List.drop_zero]
  rfl
 refine rs.num (i:=6) (m':=s.tailM m 0) (add_ad _ _) (by omega) rfl rfl rfl rfl rfl hbl.symm rfl rfl rfl fun h2 rp2 x2=>?_
 have x02:=xs.trans x2.o
 have hbn:=rp2.bs_n
 have hbn:G.bs.n=(s.blocksAt 0).length:=hbn
 rw [RS.blocksAt_len] at hbn
 have c3:cell h2 ((ad hb).add 3)=some (.slice G.bs.a G.bs.n G.bs.c):=(rp2.c 3).trans rfl
 refine PtrOk_mk ⟨G.bs,c3,?_⟩
 rw [hbn]
 generalize hg2:({ G with Lh:=G.Ls,Ls:=G.Lh }:Geo)=G2 at rp2
 have hl0:s.slots.length=s.slots.length - 0:=by omega
 refine f56L3_rule (fun q s0 s122 s123 h'=>∃ (i:Nat) (role':Nat→Role) (G':Geo),i ≤ s.slots.length∧q=s.slots.length - i∧s0=some (ad hb)∧s122=((s.slots.length:Nat):Int)∧s123=(i:Int)∧HRep h' hb role' (s.tailM m i) G'∧ExtO h role h' role') s.slots.length
  ⟨0,_,G2,Nat.zero_le _,rfl,rfl,rfl,rfl,rp2,x02⟩ ?_
 rintro q s0 s122 s123 g h1 ⟨i,role1,G1,hi,rfl,rfl,rfl,rfl,rp1,x1⟩
 unfold f56L3
 have hrn:=rp1.rs_n
 have hrn:G1.rs.n=m.reached.length:=hrn
 have hbn1:=rp1.bs_n
 have hbn1:G1.bs.n=(s.blocksAt i).length:=hbn1
 rw [RS.blocksAt_len] at hbn1
 have hrl:m.reached.length=s.slots.length:=by rw [c.reached,List.length_map]
 have c4:cell h1 ((ad hb).add 4)=some (.slice G1.rs.a G1.rs.n G1.rs.c):=(rp1.c 4).trans rfl
 have c3':cell h1 ((ad hb).add 3)=some (.slice G1.bs.a G1.bs.n G1.bs.c):=(rp1.c 3).trans rfl
 have c6:cell h1 ((ad hb).add 6)=some (.int .i64 ((s.largeAt i:Nat):Int)):=(rp1.c 6).trans rfl
 have hla:=s.largeAt_le i
 refine Cond_dec (fun hlt=>?_) fun hge=>?_
 ·have hlt:i < s.slots.length:=by omega
  obtain ⟨x,hx⟩:∃ x,s.slots[i]?=some x:=⟨_,List.getElem?_eq_getElem hlt⟩
  obtain ⟨b,ha,hc,hin⟩:=rp1.reach_at (i:=i) (by show i < m.reached.length; omega)
  have hfl:(s.tailM m i).reached.getD i false=decide (x ∈ s.gcEnd.line):=by
   show m.reached.getD i false=_
   rw [c.reached,List.getD_eq_getElem?_getD,List.getElem?_map,hx]; rfl
  rw [hfl] at hc
  have cb:(0:Int) ≤ (i:Int)∧(i:Int) < ((G1.rs.n:Nat):Int):=by omega
  have cb2:(0:Int) ≤ (i:Int)∧(i:Int) < ((G1.bs.n:Nat):Int):=by omega
  refine PtrOk_mk ⟨G1.rs,c4,cb,PtrOk_of ha ⟨_,by rw [Int.toNat_natCast]; exact hc,?_⟩⟩
  have hwr:IntKind.wrap .i64 ((i:Int) + 1)=((i + 1:Nat):Int):=by rw [wrap_i64' (by omega) (by omega)]; rfl
  by_cases hxl:x ∈ s.gcEnd.line
  ·refine Cond_f (by simp [hxl]) (PtrOk_mk ⟨_,c6,PtrOk_mk ⟨G1.bs,c3',cb2,?_⟩⟩)
   obtain ⟨hx0,_⟩:=k.ln x hxl
   have hblk:(s.tailM m i).blocks[i]?=some (some (s.encD s.gcEnd (s.dnOf s.gcEnd x) x)):=by
    show (s.blocksAt i)[i]?=_
    rw [RS.blocksAt_get hx]
    unfold RS.f0
    rw [if_neg hx0]
   obtain ⟨L,hL⟩:=rp1.loc_some hblk
   obtain ⟨bb,hba,hbc⟩:=rp1.slot_at hL
   obtain ⟨⟨wc,fc,fs,ra⟩,_⟩:=rp1.bl i _ _ hblk hL
   refine PtrOk_of hba ⟨some (ad L.pb),by rw [Int.toNat_natCast]; exact hbc,_,asize_ok ra ⟨rfl,rfl⟩,PtrOk_mk ?_⟩
   have hsum:=RS.largeAt_succ hx
   have hlw:s.lw x=s.size x + 1:=by unfold RS.lw; rw [if_pos hxl]
   have hla2:=s.largeAt_le (i + 1)
   have hbs:s.blocksAt (i + 1)=s.blocksAt i:=by
    rw [RS.blocksAt_succ hx]
    refine RS.set_same ?_
    rw [RS.blocksAt_get hx]
    unfold RS.f1
    rw [if_pos hxl]
   have hv:IntKind.wrap .i64 (((s.largeAt i:Nat):Int) + (((s.encD s.gcEnd (s.dnOf s.gcEnd x) x).size + 1:Nat):Int))=((s.largeAt (i + 1):Nat):Int):=by
    rw [s.encD_size,wrap_ar (by omega) (by omega)]; omega
   rw [hv]
   refine rp1.num (i:=6) (m':=s.tailM m (i + 1)) (add_ad _ _) (by omega) rfl rfl rfl rfl rfl hbs rfl rfl rfl fun h3 rp3 x3=>?_
   exact ⟨s.slots.length - (i + 1),by omega,i + 1,role1,G1,hlt,rfl,rfl,rfl,hwr,rp3,x1.trans x3.o⟩
  ·refine Cond_t (by simp [hxl]) (PtrOk_mk ⟨G1.bs,c3',cb2,?_⟩)
   obtain ⟨b2,ha2,st,rp3,x3⟩:=rp1.dropSlot (i:=i) (by show i < (s.blocksAt i).length; rw [RS.blocksAt_len]; exact hlt)
   refine PtrOk_of ha2 ?_
   rw [Int.toNat_natCast]
   refine ⟨st,?_⟩
   have hbs:s.blocksAt (i + 1)=(s.blocksAt i).set i none:=by
    rw [RS.blocksAt_succ hx]
    unfold RS.f1
    rw [if_neg hxl]
   have hlg1:s.largeAt (i + 1)=s.largeAt i:=by
    rw [RS.largeAt_succ hx]
    unfold RS.lw
    rw [if_neg hxl]; rfl
   have em:s.tailM m (i + 1)={ s.tailM m i with blocks:=(s.tailM m i).blocks.set i none }:=by
    unfold RS.tailM
    rw [hbs,hlg1]
   exact ⟨s.slots.length - (i + 1),by omega,i + 1,role1,_,hlt,rfl,rfl,rfl,hwr,by rw [em]; exact rp3,x1.trans x3.o⟩
 ·have:i=s.slots.length:=by omega
  subst this
  refine PtrOk_mk ⟨G1.rs,c4,?_⟩
  refine rp1.clrReached fun h2 rp2 x2=>PtrOk_mk ⟨_,(rp2.c 6).trans rfl,PtrOk_mk ?_⟩
  refine rp2.num (i:=7) (m':={ s.tailM m s.slots.length with reached:=m.reached.map fun _=>false,since:=0 }) (add_ad _ _) (by omega) rfl rfl rfl rfl rfl rfl rfl rfl rfl fun h3 rp3 x3=>PtrOk_mk ?_
  refine rp3.num (i:=8) (m':={ s.tailM m s.slots.length with reached:=m.reached.map fun _=>false,since:=0,kept:=s.largeAt s.slots.length }) (add_ad _ _) (by omega) rfl rfl rfl rfl rfl rfl rfl rfl rfl fun h4 rp4 x4=>PtrOk_mk ?_
  obtain ⟨rp5,x5⟩:=rp4.noGrey
  rw [add_ad]
  refine ⟨rp4.stOk (by omega),Let_mk fun h5 e5=>?_⟩
  rw [← e5] at rp5 x5
  have c16:cell h5 (((ad hb).add 10).add 6)=some (.int .i64 m.r6):=by rw [add_hd]; exact (cell_row rp5.row 16).trans rfl
  refine PtrOk_mk ⟨_,c16,PtrOk_mk ?_⟩
  refine rp5.num (i:=16) (m':={ s.tailM m s.slots.length with reached:=m.reached.map fun _=>false,since:=0,kept:=s.largeAt s.slots.length,grey:=[],r6:=IntKind.wrap .i64 (m.r6 + 1) }) (add_hd _ _ _) (by omega) rfl rfl rfl rfl rfl rfl rfl rfl rfl fun h6 rp6 x6=>PtrOk_mk ?_
  have c1':cell h6 ((ad hb).add 1)=some (.pointer (some (ad G1.Lh.pb))):=(rp6.c 1).trans rfl
  obtain ⟨wc,fc,fs,ra⟩:=rp6.half
  have hus:Go.Ev.used m.spare=1 + s.sizes s.gcEnd.copied:=c.used_spare
  refine ⟨_,c1',aused_ok ra ⟨_,rfl,PtrOk_mk ?_⟩⟩
  have hle:=RS.sizes_le (s:=s) s.gcEnd.copied s.small (List.nodup_append.1 k.nd).1 k.cp
  have hv:IntKind.wrap .i64 (((Go.Ev.used m.spare:Nat):Int) - (1:Int))=((s.sizes s.gcEnd.copied:Nat):Int):=by rw [hus,wrap_ar (by omega) (by omega)]; omega
  show Go.Ev.stOk h6 (((ad hb).add 10).add 8)∧Let (setc h6 (((ad hb).add 10).add 8) (.int .i64 (IntKind.wrap .i64 (((Go.Ev.used m.spare:Nat):Int) - (1:Int))))) fun h21=>R (.tuple #[]) h21
  rw [hv]
  refine rp6.num (i:=18) (m':={ s.tailM m s.slots.length with reached:=m.reached.map fun _=>false,since:=0,kept:=s.largeAt s.slots.length,grey:=[],r6:=IntKind.wrap .i64 (m.r6 + 1),r8:=s.sizes s.gcEnd.copied }) (add_hd _ _ _) (by omega) rfl rfl rfl rfl rfl rfl rfl rfl rfl fun h7 rp7 x7=>?_
  have em:({ s.tailM m s.slots.length with reached:=m.reached.map fun _=>false,since:=0,kept:=s.largeAt s.slots.length,grey:=[],r6:=IntKind.wrap .i64 (m.r6 + 1),r8:=s.sizes s.gcEnd.copied }:MH)=s.collection.words m.half:=by
   unfold RS.tailM RS.words
   simp only [MH.mk.injEq]
   refine ⟨e.limit,hsz,?_,hhz,trivial,RS.blocks_end v,?_,trivial,RS.largeAt_len,rfl,RS.largeAt_len,?_,e.r5,?_,e.r7,rfl⟩
   ·rw [c.spare]; exact RS.half_end v rfl
   ·rw [c.reached,RS.collection_slots,List.map_map,List.map_map]; rfl
   ·rw [e.roots]; exact RS.roots_end v
   ·rw [e.r6]; rfl
  rw [em] at rp7
  exact hR h7 role1 _ m.half rp7 (((((x1.trans x2.o).trans x3.o).trans x4.o).trans x5.o).trans (x6.trans x7).o)
theorem collect_ok (v:s.Inv) {sp:List AObj} (rp:HRep h hb role (s.words sp) G) {R:Value→Hp→Prop}
  (hR:∀ h' role' G' sp',HRep h' hb role' (s.collection.words sp') G'→ExtO h role h' role'→R (.tuple #[]) h'):CallTo Try.prog 56 #[.pointer (some (ad hb))] h R:=by
 refine f56F_ok ?_
 unfold f56F
 have c2:cell h ((ad hb).add 2)=some (.pointer (some (ad G.Ls.pb))):=(rp.c 2).trans rfl
 obtain ⟨wc,fc,fs,ra⟩:=rp.spare
 refine PtrOk_mk ⟨_,c2,aclear_ok ra fun h1 L1 ha hg=>⟨rfl,PtrOk_mk ?_⟩⟩
 have rp1:=rp.setSpare ha hg
 have x1:ExtO h role h1 (joinR role h.size L1.fp .spare):=ExtO.of (role:=role) hg.kept (fun b hb=>by rw [rp.sparer b hb]; nofun) fun b hb ho=>(joinR_old hb).trans ho
 have rp1:HRep h1 hb _ (s.words []) { G with Ls:=L1 }:=rp1
 have c9:cell h1 ((ad hb).add 9)=some (.slice G.ts.a G.ts.n G.ts.c):=(rp1.c 9).trans rfl
 have hn:=rp1.ts_n
 have hn:G.ts.n=(s.roots.map s.rootW).length:=hn
 rw [List.length_map] at hn
 refine ⟨G.ts,c9,?_⟩
 rw [hn]
 refine collect_roots v rp1 fun h2 role2 G2 m2 rp2 x2 c2 e2=>?_
 refine collect_scan v rp2 c2 fun h3 role3 G3 m3 rp3 x3 c3 e3=>?_
 exact collect_tail v rp3 c3 (e2.trans e3) fun h4 role4 G4 sp4 rp4 x4=>hR h4 role4 G4 sp4 rp4 (((x1.trans x2.o).trans x3.o).trans x4)
end
end Go.Ev
set_option linter.all false
set_option maxRecDepth 100000
namespace Go.Ev
open Go.Proofs
/-! ### want -/
def wantN (u n:Nat):Nat:=if 3 * n < 4 * u∧0 < n then wantN u (2 * n) else n
termination_by 4 * u - n
decreasing_by omega
def want (u:Nat):Nat:=wantN u 64
theorem wantN_up {u n:Nat} (h:3 * n < 4 * u) (h0:0 < n):wantN u n=wantN u (2 * n):=by rw [wantN]; rw [if_pos ⟨h,h0⟩]
theorem wantN_end {u n:Nat} (h:4 * u ≤ 3 * n):wantN u n=n:=by rw [wantN]; rw [if_neg (fun c=>by omega)]
theorem wantN_facts (u:Nat):∀ k n,0 < n→4 * u - n ≤ k→n ≤ wantN u n∧4 * u ≤ 3 * wantN u n∧(wantN u n=n ∨ 3 * wantN u n < 8 * u):=by
 intro k
 induction k with
 | zero=>intro n h0 h; rw [wantN_end (by omega)]; exact ⟨Nat.le_refl _,by omega,.inl rfl⟩
 | succ k ih =>
  intro n h0 h
  by_cases hc:3 * n < 4 * u
  ·rw [wantN_up hc h0]
   obtain ⟨h1,h2,h3⟩:=ih (2 * n) (by omega) (by omega)
   refine ⟨by omega,h2,.inr ?_⟩
   rcases h3 with h3 | h3
   ·rw [h3]; omega
   ·exact h3
  ·rw [wantN_end (by omega)]; exact ⟨Nat.le_refl _,by omega,.inl rfl⟩
theorem want_facts (u:Nat):64 ≤ want u∧4 * u ≤ 3 * want u∧(want u=64 ∨ 3 * want u < 8 * u):=wantN_facts u _ 64 (by omega) (Nat.le_refl _)
theorem want_ok {u:Nat} (hu:u < 100000000) {h:Hp} {R:Value→Hp→Prop} (hR:R (.int .i64 (want u:Nat)) h):CallTo Try.prog 75 #[.int .i64 (u:Nat)] h R:=by
 refine f75F_ok ?_
 unfold f75F
 refine f75L1_rule (fun q s0 s3 h'=>∃ n:Nat,q=4 * u - n∧s0=(u:Int)∧s3=(n:Int)∧0 < n∧n < 1000000000∧wantN u n=want u∧h'=h) (4 * u - 64) ⟨64,rfl,rfl,rfl,by omega,by omega,rfl,rfl⟩ ?_
 rintro q s0 s3 g h' ⟨n,rfl,rfl,rfl,h0,h1,h2,rfl⟩
 unfold f75L1
 rw [wrap_i64' (x:=(4:Int) * u) (by omega) (by omega),wrap_i64' (x:=(3:Int) * n) (by omega) (by omega)]
 refine Cond_dec (fun hlt=>?_) fun hge=>?_
 ·rw [wrap_i64' (by omega) (by omega)]
  exact ⟨4 * u - 2 * n,by omega,2 * n,rfl,rfl,by omega,by omega,by omega,by rw [← h2,wantN_up (by omega) h0],rfl⟩
 ·rw [← h2,wantN_end (by omega)] at hR
  exact hR
/-! ### become, fit -/
namespace RS
def become (s:RS) (n:Nat):RS:=if n=s.half then s else { s with half:=n,resz:=IntKind.wrap .i64 (s.resz + 1) }
def fit (s:RS) (k:Nat):RS :=
 if 3 * s.half < 4 * (s.used + k) then (if s.half < min (want (s.used + k)) ((s.limit - s.large) / 2) then s.become (min (want (s.used + k)) ((s.limit - s.large) / 2)) else s)
 else if 64 < s.half∧8 * (s.used + k) < s.half then s.become (want (s.used + k)) else s
def collect (s:RS):RS:=s.collection.fit 0
theorem Inv.renum {s t:RS} (v:s.Inv) (e1:t.objs=s.objs) (e2:t.small=s.small) (e3:t.slots=s.slots) (e4:t.roots=s.roots) (e5:t.limit=s.limit) (e6:t.used=s.used) (e7:t.large=s.large) (e8:t.since=s.since) (e9:t.kept=s.kept)
  (h1:64 ≤ t.half) (h2:2 * t.half + t.large ≤ t.limit) (h3:t.used ≤ t.half):t.Inv:=by
 have eo:∀ id,t.obj id=s.obj id:=fun id=>by unfold obj; rw [e1]
 have es:∀ id,t.size id=s.size id:=fun id=>by unfold size; rw [eo]
 have eh:∀ id,t.here id ↔ s.here id:=fun id=>by unfold here; rw [e2,e3]
 refine ⟨by rw [e5]; exact v.l1,by rw [e5]; exact v.l2,h1,h2,?_,h3,?_,by rw [e3]; exact v.sll,by rw [e4]; exact v.rl,by rw [e2]; exact v.nds,?_,?_,?_,?_,?_,by rw [e1]; exact v.ob,by rw [e9]; exact v.kp,by rw [e8]; exact v.sn⟩
 ·rw [e6,e2,sizes_congr fun x _=>es x]; exact v.u1
 ·rw [e7,e3,v.lg]
  congr 1
  exact List.map_congr_left fun x _=>by rw [es]
 ·intro id hid
  rw [e2] at hid
  rw [e1,eo,es,e2,placeIn_congr _ _ _ fun x _=>es x]
  exact v.sm id hid
 ·intro i id hi h0
  rw [e3] at hi
  rw [e1,eo,es]
  exact v.sl i id hi h0
 ·intro id hid r hr
  rw [eo] at hr
  rw [eh] at hid ⊢
  exact v.rf id hid r hr
 ·intro id hid
  rw [e4] at hid
  rw [eh]
  exact v.rt id hid
 ·intro id hid
  rw [eh] at hid
  rw [eo]
  exact v.shp id hid
theorem Inv.become {s:RS} (v:s.Inv) {n:Nat} (h1:64 ≤ n) (h2:2 * n + s.large ≤ s.limit) (h3:s.used ≤ n):(s.become n).Inv:=by
 unfold RS.become
 split
 ·exact v
 ·exact v.renum rfl rfl rfl rfl rfl rfl rfl rfl rfl h1 h2 h3
theorem Inv.fit {s:RS} (v:s.Inv) {k:Nat}:(s.fit k).Inv:=by
 have h1:=v.h1; have h2:=v.h2; have h3:=v.u2
 obtain ⟨w1,w2,w3⟩:=want_facts (s.used + k)
 unfold RS.fit
 split
 ·split
  ·exact v.become (by omega) (by omega) (by omega)
  ·exact v
 ·split
  ·exact v.become (by omega) (by omega) (by omega)
  ·exact v
theorem Inv.collect {s:RS} (v:s.Inv):s.collect.Inv:=v.collection.fit
end RS
section
variable {h:Hp} {hb:Nat} {role:Nat→Role} {m:MH} {G:Geo} {s:RS} {sp:List AObj}
theorem drop_modify_succ {α:Type} (l:List α) (i:Nat) (f:α→α):(l.modify i f).drop (i + 1)=l.drop (i + 1):=by
 apply List.ext_getElem?
 intro j
 rw [List.getElem?_drop,List.getElem?_drop,List.getElem?_modify]
 cases l[i + 1 + j]? with
 | none=>rfl
 | some x =>
  show some (if i=i + 1 + j then f x else x)=some x
  rw [if_neg (by omega)]
theorem sizes_modify {os:List AObj} {i:Nat} {f:AObj→AObj} (hf:∀ o,(f o).size=o.size):(os.modify i f).map AObj.size=os.map AObj.size:=by
 apply List.ext_getElem?
 intro j
 rw [List.getElem?_map,List.getElem?_map,List.getElem?_modify]
 cases os[j]? with
 | none=>rfl
 | some o=>by_cases h:i=j <;> simp [h,hf]
theorem pos_sizes {os:List AObj} (hm:os.map AObj.size=s.small.map s.size) (k:Nat):pos os k=1 + s.sizes (s.small.take k):=by
 unfold pos RS.sizes
 rw [used_eq,List.map_take,hm,← List.map_take]
theorem used_sizes {os:List AObj} (hm:os.map AObj.size=s.small.map s.size):Go.Ev.used os=1 + s.sizes s.small:=by
 unfold RS.sizes
 rw [used_eq,hm]
/-- The struct's cells while the halves are made anew. -/
def becells (m:MH) (G:Geo) (Ln:ArLoc):List Value:=((hcells m G).set 2 (.pointer none)).set 1 (.pointer (some (ad Ln.pb)))
theorem become_ok (v:s.Inv) (rp:HRep h hb role (s.words sp) G) {n:Nat} (hn1:1 ≤ n) (hn2:n ≤ 1048576) (hn3:s.used ≤ n) {R:Value→Hp→Prop}
  (hR:∀ h' role' G' sp',HRep h' hb role' ((s.become n).words sp') G'→ExtO h role h' role'→R (.tuple #[]) h'):CallTo Try.prog 58 #[.pointer (some (ad hb)),.int .i64 (n:Nat)] h R:=by
 have i1:=v.u1
 have i2:=v.u2
 have i3:=v.h2
 have i4:=v.l2
 refine f58F_ok ?_
 unfold f58F
 have c1:cell h ((ad hb).add 1)=some (.pointer (some (ad G.Lh.pb))):=(rp.c 1).trans rfl
 obtain ⟨wch,fch,fsh,ra⟩:=rp.half
 refine PtrOk_mk ⟨_,c1,asize_ok ra ⟨_,rfl,?_⟩⟩
 have hz:(s.words sp).hz=s.half:=rfl
 rw [hz]
 by_cases hne:n=s.half
 ·refine Cond_t (by rw [hne]; simp) ?_
  have e:s.become n=s:=by unfold RS.become; rw [if_pos hne]
  rw [e] at hR
  exact hR h role G sp rp (ExtO.refl h role)
 refine Cond_f (by simp; omega) (PtrOk_mk ⟨_,c1,PtrOk_mk ?_⟩)
 rw [add_ad]
 refine ⟨rp.stOk (by omega),Let_mk fun h2 e2=>?_⟩
 have k2:Kept (fun b=>b=hb) h h2:=e2 ▸ kept_setc h 2 _ rfl
 have row2:Row h2 hb ((hcells (s.words sp) G).set 2 (.pointer none)):=by rw [e2]; exact row_setc rp.row 2 _
 refine anew_ok (fun hbad=>absurd ⟨by omega,by omega⟩ hbad) fun Ln h3 _ hLn hfn k3=>⟨_,_,rfl,PtrOk_mk ?_⟩
 have row3:=kept_row k3 row2 id
 rw [add_ad]
 refine ⟨stOk_row row3 (by show 1 < 19; omega),Let_mk fun h4 e4=>?_⟩
 have k4:Kept (fun b=>b=hb) h3 h4:=e4 ▸ kept_setc h3 1 _ rfl
 have row4:Row h4 hb (becells (s.words sp) G Ln):=by rw [e4]; exact row_setc row3 1 _
 have k24:Kept (fun b=>b=hb) h h4:=(k2.trans (k3.mono fun _ _ e=>e.elim)).trans k4
 have hsz2:h.size ≤ h2.size:=k2.1
 have hhb:=rp.hlt
 have hLn4:Ar h4 Ln n []:=by
  rw [Int.toNat_natCast] at hLn
  exact hLn.keep k4 fun b hb' e=>by have:=hfn b hb'; omega
 have hLo4:Ar h4 G.Lh s.half (s.small.map s.enc):=rp.half.keep k24 fun b hb' e=>by have:=rp.halfr b hb'; rw [e,rp.rh] at this; cases this
 have hlt4:∀ b,Ln.fp b→b < h4.size:=hLn4.lt
 let role4:=joinR role h.size Ln.fp .spare
 have q4:HRest h4 hb role4 (s.words sp) G:=rp.rest.move k24 (fun b e=>.inr (.inr (.inl (e ▸ rp.rh)))) (fun b x hb' e _ _ _=>(joinR_old hb').trans e) fun b hb'=>joinR_out (rp.fresh b (Nat.le_trans k24.1 hb')) fun hf=>by have:=hlt4 b hf; omega
 have ho4:∀ b,G.Lh.fp b→role4 b=.half:=fun b hb'=>(joinR_old (rp.half.lt b hb')).trans (rp.halfr b hb')
 have hn4:∀ b,Ln.fp b→role4 b=.spare:=fun b hb'=>joinR_new (by have:=hfn b hb'; omega) hb'
 have x4:ExtO h role h4 role4:=ExtO.of (role:=role) k24 (fun b e=>by rw [e,rp.rh]; nofun) fun b hb' ho=>(joinR_old hb').trans ho
 refine f58L1_rule (fun q s0 s1 s4 s5 h'=>∃ (k:Nat) (role':Nat→Role) (Ln':ArLoc) (os:List AObj),k ≤ s.small.length∧q=s.small.length - k∧s0=some (ad hb)∧s1=(n:Int)∧s4=some (ad G.Lh.pb)∧s5=((1 + s.sizes (s.small.take k):Nat):Int) ∧
  Row h' hb (becells (s.words sp) G Ln')∧HRest h' hb role' (s.words sp) G∧Ar h' G.Lh s.half os∧(∀ b,G.Lh.fp b→role' b=.half)∧os.map AObj.size=s.small.map s.size∧os.drop k=(s.small.drop k).map s.enc ∧
  Ar h' Ln' n ((s.small.take k).map s.enc)∧(∀ b,Ln'.fp b→role' b=.spare∧h.size ≤ b)∧ExtO h role h' role') s.small.length
  ⟨0,role4,Ln,s.small.map s.enc,Nat.zero_le _,rfl,rfl,rfl,rfl,rfl,row4,q4,hLo4,ho4,by rw [List.map_map]; exact List.map_congr_left fun x _=>s.enc_size x,rfl,hLn4,fun b hb'=>⟨hn4 b hb',by have:=hfn b hb'; omega⟩,x4⟩ ?_
 rintro q s0 s1 s4 s5 g h5 ⟨k,role5,L5,os,hk,rfl,rfl,rfl,rfl,rfl,row5,q5,hLo5,ho5,hms,hdr,hLn5,hn5,x5⟩
 unfold f58L1
 obtain ⟨wco,fco,fso,rao⟩:=hLo5
 obtain ⟨wcn,fcn,fsn,ran⟩:=hLn5
 have hpk:=pos_sizes hms k
 have hus:=used_sizes hms
 refine aused_ok rao ⟨_,rfl,?_⟩
 rw [hus]
 refine Cond_dec (fun hlt=>?_) fun hge=>?_
 ·have hkl:k < s.small.length:=by
   rcases Nat.lt_or_ge k s.small.length with hl | hl
   ·exact hl
   ·rw [List.take_of_length_le hl] at hlt; omega
  obtain ⟨x,hx⟩:∃ x,s.small[k]?=some x:=⟨_,List.getElem?_eq_getElem hkl⟩
  have hosk:os[k]?=some (s.enc x):=by
   have:=congrArg (fun l=>l[0]?) hdr
   simpa [List.getElem?_drop,hx] using this
  have hxs:x ∈ s.small:=List.mem_of_getElem? hx
  have hh:s.here x:=.inl hxs
  have hobj:objV os ((pos os k:Nat):Int)=.tuple #[.int .i64 ((s.enc x).kind:Int),.int .i64 ((s.enc x).refs.length:Int),.int .i64 ((s.enc x).raws.length:Int),.int .i64 0]:=by
   unfold objV
   rw [idxI_nat,idx_pos (List.getElem?_eq_some_iff.1 hosk).1]
   simp only [Option.bind_some,hosk]
   rfl
  rw [← hpk]
  refine aobject_ok rao ?_
  rw [hobj]
  have c1':cell h5 ((ad hb).add 1)=some (.pointer (some (ad L5.pb))):=by rw [add_ad]; exact (cell_row row5 1).trans rfl
  refine ⟨_,_,_,_,rfl,PtrOk_mk ⟨_,c1',?_⟩⟩
  have hst:1 + s.sizes (s.small.take k) + s.size x=1 + s.sizes (s.small.take (k + 1)):=by rw [RS.take_snoc hx,RS.sizes_snoc]; omega
  have hle:=s.sizes_take s.small (k + 1)
  have hun:Go.Ev.used ((s.small.take k).map s.enc)=1 + s.sizes (s.small.take k):=RS.used_map (fun id=>s.enc_size id) _
  refine take_ok rao ran (fun b h1 h2=>by have:=ho5 b h1; rw [(hn5 b h2).1] at this; cases this) hosk rfl (by rw [hun,s.enc_size]; omega) fun h6 L6 hLo6 hLn6 g6=>⟨_,_,rfl,?_⟩
  obtain ⟨g1,g2,g3⟩:=g6
  have hlt6:∀ b,L6.fp b→b < h6.size:=hLn6.lt
  have hob:∀ b,G.Lh.fp b→b < h5.size:=rao.lt
  have nhd:¬ (G.Lh.fp hb ∨ L5.fp hb):=fun e=>by
   rcases e with e | e
   ·have:=ho5 hb e; rw [q5.rh] at this; cases this
   ·have:=(hn5 hb e).1; rw [q5.rh] at this; cases this
  refine ⟨s.small.length - (k + 1),by omega,k + 1,joinR role5 h5.size L6.fp .spare,L6,os.modify k fun o=>{ o with fwd:=some (Go.Ev.used ((s.small.take k).map s.enc)) },hkl,rfl,rfl,rfl,rfl,?_,?_,?_,hLo6,?_,?_,?_,?_,?_,?_⟩
  ·have e1:(s.enc x).refs.length=(s.obj x).refs.length:=List.length_map ..
   have e2:(s.enc x).raws.length=(s.obj x).raws.length:=rfl
   have e3:s.size x=1 + (s.obj x).refs.length + (s.obj x).raws.length:=rfl
   rw [e1,e2,wrap_ar (x:=(1:Int) + ((s.obj x).refs.length:Int)) (by omega) (by omega),wrap_ar (x:=(1:Int) + ((s.obj x).refs.length:Int) + ((s.obj x).raws.length:Int)) (by omega) (by omega),hpk,wrap_ar (by omega) (by omega)]
   omega
  ·have:=kept_row g3 row5 nhd
   unfold becells at this ⊢
   rw [g1]
   exact this
  ·exact q5.move g3 (fun b e=>e.elim (fun e=>.inl (ho5 b e)) fun e=>.inr (.inl (hn5 b e).1)) (fun b y hb' e _ _ _=>(joinR_old hb').trans e) fun b hb'=>joinR_out (q5.fresh b (Nat.le_trans g3.1 hb')) fun hf=>by have:=hlt6 b hf; omega
  ·exact fun b hb'=>(joinR_old (hob b hb')).trans (ho5 b hb')
  ·exact (sizes_modify (f:=fun o=>{ o with fwd:=some (Go.Ev.used ((s.small.take k).map s.enc)) }) fun _=>rfl).trans hms
  ·rw [drop_modify_succ]
   have:=congrArg (List.drop 1) hdr
   simpa [List.drop_drop] using this
  ·rw [RS.take_snoc hx,List.map_append]; exact hLn6
  ·intro b hb'
   rcases Nat.lt_or_ge b h5.size with hl | hl
   ·rw [joinR_old hl]
    rcases g2 b hb' with h | h
    ·exact hn5 b h
    ·omega
   ·exact ⟨joinR_new hl hb',Nat.le_trans x5.1 hl⟩
  ·refine x5.trans (ExtO.of (role:=role5) g3 (fun b e=>?_) fun b hb' ho=>(joinR_old hb').trans ho)
   rcases e with e | e
   ·rw [ho5 b e]; nofun
   ·rw [(hn5 b e).1]; nofun
 ·have:k=s.small.length:=by
   rcases Nat.lt_or_ge k s.small.length with hl | hl
   ·have h1:=RS.sizes_snoc s (s.small.take k) s.small[k]
    have h2:=s.sizes_take s.small (k + 1)
    rw [RS.take_snoc (List.getElem?_eq_getElem hl),h1] at h2
    have:1 ≤ s.size s.small[k]:=by unfold RS.size RObj.size; omega
    omega
   ·omega
  subst this
  rw [List.take_length] at ran
  refine anew_ok (fun hbad=>absurd ⟨by omega,by omega⟩ hbad) fun Lz h6 _ hLz hfz k6=>⟨_,_,rfl,PtrOk_mk ?_⟩
  rw [Int.toNat_natCast] at hLz
  have row6:=kept_row k6 row5 id
  rw [add_ad]
  refine ⟨stOk_row row6 (by show 2 < 19; omega),Let_mk fun h7 e7=>?_⟩
  have k7:Kept (fun b=>b=hb) h6 h7:=e7 ▸ kept_setc h6 2 _ rfl
  have row7:=row_setc row6 2 (.pointer (some (ad Lz.pb)))
  rw [← e7] at row7
  have c17:cell h7 (((ad hb).add 10).add 7)=some (.int .i64 s.resz):=by rw [add_hd]; exact (cell_row row7 17).trans rfl
  refine PtrOk_mk ⟨_,c17,PtrOk_mk ?_⟩
  rw [add_hd]
  refine ⟨stOk_row row7 (by show 17 < 19; omega),Let_mk fun h8 e8=>?_⟩
  have k8:Kept (fun b=>b=hb) h7 h8:=e8 ▸ kept_setc h7 17 _ rfl
  have row8:=row_setc row7 17 (.int .i64 (IntKind.wrap .i64 (s.resz + 1)))
  rw [← e8] at row8
  have k58:Kept (fun b=>b=hb) h5 h8:=((k6.mono fun _ _ e=>e.elim).trans k7).trans k8
  have hhb5:hb < h5.size:=row_lt row5
  have hzlt:∀ b,Lz.fp b→b < h8.size:=fun b hb'=>Nat.lt_of_lt_of_le (hLz.lt b hb') (Nat.le_trans k7.1 k8.1)
  have hnlt:∀ b,L5.fp b→b < h5.size:=ran.lt
  have hzn:∀ b,Lz.fp b→¬ L5.fp b:=fun b h1 h2=>by have:=hfz b h1; have:=hnlt b h2; omega
  let role8:Nat→Role:=fun b=>if L5.fp b then .half else if Lz.fp b then .spare else role5 b
  have r8n:∀ b,L5.fp b→role8 b=.half:=fun b hb'=>if_pos hb'
  have r8z:∀ b,Lz.fp b→role8 b=.spare:=fun b hb'=>(if_neg (hzn b hb')).trans (if_pos hb')
  have r8o:∀ b,¬ L5.fp b→¬ Lz.fp b→role8 b=role5 b:=fun b h1 h2=>(if_neg h1).trans (if_neg h2)
  have q8:HRest h8 hb role8 (s.words sp) G:=q5.move k58 (fun b e=>.inr (.inr (.inl (e ▸ q5.rh))))
   (fun b y hb' e h1 h2 h3=>(r8o b (fun hf=>h2 (e ▸ (hn5 b hf).1)) fun hf=>by have:=hfz b hf; omega).trans e)
   fun b hb'=>(r8o b (fun hf=>by have:=hnlt b hf; have:=k58.1; omega) fun hf=>by have:=hzlt b hf; omega).trans (q5.fresh b (Nat.le_trans k58.1 hb'))
  have eb:(s.become n)={ s with half:=n,resz:=IntKind.wrap .i64 (s.resz + 1) }:=by unfold RS.become; rw [if_neg hne]
  have q9:HRest h8 hb role8 ((s.become n).words []) { G with Lh:=L5,Ls:=Lz }:=by
   rw [eb]
   exact q8.cast rfl rfl rfl rfl rfl rfl rfl rfl rfl rfl rfl rfl rfl
  refine hR h8 role8 { G with Lh:=L5,Ls:=Lz } [] (q9.rep ?_ ?_ r8n ?_ r8z) (x5.trans (ExtO.of (role:=role5) k58 (fun b e=>by rw [e,q5.rh]; nofun) fun b hb' ho=>?_))
  ·rw [eb]; exact row8
  ·rw [eb]
   exact Ar.keep (⟨_,_,_,ran⟩:Ar h5 L5 n (s.small.map s.enc)) k58 fun b hb' e=>by have:=(hn5 b hb').1; rw [e,q5.rh] at this; cases this
  ·rw [eb]
   exact hLz.keep (k7.trans k8) fun b hb' e=>by have:=hfz b hb'; omega
  ·refine (r8o b (fun hf=>?_) fun hf=>by have:=hfz b hf; omega).trans ho
   have:=(hn5 b hf).1
   rw [ho] at this; cases this
end
end Go.Ev
set_option linter.all false
set_option maxRecDepth 100000
namespace Go.Ev
open Go.Proofs
namespace RS
theorem used_words {s:RS} (v:s.Inv) (sp:List AObj):Go.Ev.used (s.words sp).half=s.used:=(used_map (fun id=>s.enc_size id) _).trans v.u1.symm
end RS
section
variable {h:Hp} {hb:Nat} {role:Nat→Role} {m:MH} {G:Geo} {s:RS} {sp:List AObj}
theorem fit_ok (v:s.Inv) (rp:HRep h hb role (s.words sp) G) {k:Nat} (hk:k ≤ 1000000) {R:Value→Hp→Prop}
  (hR:∀ h' role' G' sp',HRep h' hb role' ((s.fit k).words sp') G'→ExtO h role h' role'→R (.tuple #[]) h'):CallTo Try.prog 57 #[.pointer (some (ad hb)),.int .i64 (k:Nat)] h R:=by
 have i1:=v.u1
 have i2:=v.u2
 have i3:=v.h2
 have i4:=v.l2
 have i5:=v.h1
 obtain ⟨w1,w2,w3⟩:=want_facts (s.used + k)
 refine f57F_ok ?_
 unfold f57F
 have c1:cell h ((ad hb).add 1)=some (.pointer (some (ad G.Lh.pb))):=(rp.c 1).trans rfl
 have c0:cell h (ad hb)=some (.int .i64 (s.limit:Nat)):=rp.c0
 have c6:cell h ((ad hb).add 6)=some (.int .i64 (s.large:Nat)):=(rp.c 6).trans rfl
 obtain ⟨wch,fch,fsh,ra⟩:=rp.half
 have hu:=RS.used_words v sp
 have hz:(s.words sp).hz=s.half:=rfl
 refine PtrOk_mk ⟨_,c1,_,aused_ok ra ⟨rfl,rfl⟩,PtrOk_mk ⟨_,c1,_,asize_ok ra ⟨rfl,rfl⟩,?_⟩⟩
 rw [hu,hz]
 have e0:IntKind.wrap .i64 (((s.used:Nat):Int) + ((k:Nat):Int))=((s.used + k:Nat):Int):=by rw [wrap_ar (by omega) (by omega)]; omega
 rw [e0,wrap_ar (x:=(4:Int) * _) (by omega) (by omega),wrap_ar (x:=(3:Int) * _) (by omega) (by omega),wrap_ar (x:=(8:Int) * _) (by omega) (by omega)]
 refine Cond_dec (fun hc=>?_) fun hc=>?_
 ·have hc:3 * s.half < 4 * (s.used + k):=by omega
  refine ⟨_,want_ok (by omega) ⟨rfl,rfl⟩,PtrOk_mk ⟨_,c0,PtrOk_mk ⟨_,c6,by omega,?_⟩⟩⟩
  have e1:IntKind.wrap .i64 (Int.tdiv (IntKind.wrap .i64 (((s.limit:Nat):Int) - ((s.large:Nat):Int))) (2:Int))=(((s.limit - s.large) / 2:Nat):Int):=by
   rw [wrap_ar (x:=((s.limit:Nat):Int) - ((s.large:Nat):Int)) (by omega) (by omega),tdiv_nn (by omega),wrap_ar (by omega) (by omega)]; omega
  have e2:(if (((s.limit - s.large) / 2:Nat):Int) < ((want (s.used + k):Nat):Int) then (((s.limit - s.large) / 2:Nat):Int) else ((want (s.used + k):Nat):Int))=((min (want (s.used + k)) ((s.limit - s.large) / 2):Nat):Int):=by
   split <;> omega
  rw [e1,e2]
  have ef:s.fit k=if s.half < min (want (s.used + k)) ((s.limit - s.large) / 2) then s.become (min (want (s.used + k)) ((s.limit - s.large) / 2)) else s:=by unfold RS.fit; rw [if_pos hc]
  refine Cond_dec (fun ht=>?_) fun ht=>?_
  ·rw [ef,if_pos (by omega)] at hR
   exact become_ok v rp (by omega) (by omega) (by omega) fun h' role' G' sp' rp' x'=>⟨rfl,hR h' role' G' sp' rp' x'⟩
  ·rw [ef,if_neg (by omega)] at hR
   exact hR h role G sp rp (ExtO.refl h role)
 ·have hc:¬ 3 * s.half < 4 * (s.used + k):=by omega
  have ef:s.fit k=if 64 < s.half∧8 * (s.used + k) < s.half then s.become (want (s.used + k)) else s:=by unfold RS.fit; rw [if_neg hc]
  refine Cond_dec (fun h1=>?_) fun h1=>?_
  ·unfold f57K1
   refine Cond_dec (fun h2=>?_) fun h2=>?_
   ·rw [ef,if_pos (by omega)] at hR
    refine want_ok (by omega) ⟨_,rfl,?_⟩
    exact become_ok v rp (by omega) (by omega) (by omega) fun h' role' G' sp' rp' x'=>⟨rfl,hR h' role' G' sp' rp' x'⟩
   ·rw [ef,if_neg (by omega)] at hR
    exact hR h role G sp rp (ExtO.refl h role)
  ·unfold f57K1
   rw [ef,if_neg (by omega)] at hR
   exact Cond_f rfl (hR h role G sp rp (ExtO.refl h role))
theorem hcollect_ok (v:s.Inv) (rp:HRep h hb role (s.words sp) G) {R:Value→Hp→Prop}
  (hR:∀ h' role' G' sp',HRep h' hb role' (s.collect.words sp') G'→ExtO h role h' role'→R (.tuple #[]) h'):CallTo Try.prog 31 #[.pointer (some (ad hb))] h R:=by
 refine f31F_ok ?_
 unfold f31F
 exact collect_ok v rp fun h1 role1 G1 sp1 rp1 x1=>⟨rfl,fit_ok v.collection rp1 (k:=0) (by omega) fun h2 role2 G2 sp2 rp2 x2=>⟨rfl,hR h2 role2 G2 sp2 rp2 (x1.trans x2)⟩⟩
end
end Go.Ev
