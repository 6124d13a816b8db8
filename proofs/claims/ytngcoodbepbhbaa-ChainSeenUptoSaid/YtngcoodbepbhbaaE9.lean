/- The collector's steps: moved, look / The collector's look: all refs of an object are moved / The document's heap as plain data: objects by number, the walk in which they are reached, a collection / A collection of the words is the walk of the document's heap: the relation, step by step. No condition but that these are ones. -/
import Derived.Test.YtngcoodbepbhbaaE7
import Derived.Test.YtngcoodbepbhbaaE8
set_option linter.all false
set_option maxRecDepth 100000
namespace Go.Ev
open Go.Proofs
abbrev top:Nat:=9223372036854775808
def Ext (h:Hp) (role:Nat→Role) (h':Hp) (role':Nat→Role):Prop:=h.size ≤ h'.size∧(∀ b,b < h.size→role' b=role b)∧∀ b,b < h.size→role b=.out→h'[b]?=h[b]?
theorem Ext.refl (h:Hp) (role:Nat→Role):Ext h role h role:=⟨Nat.le_refl _,fun _ _=>rfl,fun _ _ _=>rfl⟩
theorem Ext.trans {a b c:Hp} {ra rb rc:Nat→Role} (x:Ext a ra b rb) (y:Ext b rb c rc):Ext a ra c rc :=
 ⟨Nat.le_trans x.1 y.1,fun i hi=>(y.2.1 i (Nat.lt_of_lt_of_le hi x.1)).trans (x.2.1 i hi),fun i hi ho=>(y.2.2 i (Nat.lt_of_lt_of_le hi x.1) ((x.2.1 i hi).trans ho)).trans (x.2.2 i hi ho)⟩
theorem Ext.of {h h':Hp} {role:Nat→Role} {S:Nat→Prop} (k:Kept S h h') (hS:∀ b,S b→role b ≠ .out) {role':Nat→Role} (hr:∀ b,b < h.size→role' b=role b):Ext h role h' role' :=
 ⟨k.1,hr,fun b hb ho=>k.2 b hb fun s=>hS b s ho⟩
def mMoved (m:MH) (r:Nat):MH × Nat :=
 if r=0 then (m,0)
 else if top ≤ r then
  if m.reached.getD (r - top) false=true then (m,r) else ({ m with reached:=m.reached.set (r - top) true,grey:=m.grey ++ [r - top] },r)
 else match (idx m.half r).bind (m.half[·]?) with
  | some o=>match o.fwd with
   | some t=>(m,t)
   | none=>({ m with half:=m.half.modify ((idx m.half r).getD 0) fun o=>{ o with fwd:=some (used m.spare) },spare:=m.spare ++ [o] },used m.spare)
  | none=>(m,0)
/-- What stays as it was for those who hold a part. -/
def Held (G G':Geo):Prop:=G'.Lh.pb=G.Lh.pb∧G'.Ls.pb=G.Ls.pb∧G'.locs=G.locs∧G'.ts=G.ts∧G'.tb=G.tb∧G'.bs=G.bs∧G'.bb=G.bb∧G'.rs=G.rs∧G'.rb=G.rb
theorem Held.refl (G:Geo):Held G G:=⟨rfl,rfl,rfl,rfl,rfl,rfl,rfl,rfl,rfl⟩
theorem Held.trans {A B C:Geo} (x:Held A B) (y:Held B C):Held A C :=
 ⟨y.1.trans x.1,y.2.1.trans x.2.1,y.2.2.1.trans x.2.2.1,y.2.2.2.1.trans x.2.2.2.1,y.2.2.2.2.1.trans x.2.2.2.2.1,y.2.2.2.2.2.1.trans x.2.2.2.2.2.1,y.2.2.2.2.2.2.1.trans x.2.2.2.2.2.2.1,y.2.2.2.2.2.2.2.1.trans x.2.2.2.2.2.2.2.1,y.2.2.2.2.2.2.2.2.trans x.2.2.2.2.2.2.2.2⟩
section
variable {h:Hp} {hb:Nat} {role:Nat→Role} {m:MH} {G:Geo}
theorem ar_disj (r:HRep h hb role m G):∀ b,G.Lh.fp b→¬ G.Ls.fp b:=fun b h1 h2=>by
 have:=r.halfr b h1
 rw [r.sparer b h2] at this
 cases this
/-- Both halves are others. -/
theorem HRep.setBoth (r:HRep h hb role m G) {h':Hp} {L':ArLoc} {os os':List AObj} (ha:Ar h' G.Lh m.hz os) (hs:Ar h' L' m.sz os') (g:Grown2 h G.Lh G.Ls L' h') :
  HRep h' hb (joinR role h.size L'.fp .spare) { m with half:=os,spare:=os' } { G with Ls:=L' }∧Ext h role h' (joinR role h.size L'.fp .spare):=by
 obtain ⟨g1,g2,g3⟩:=g
 have no:∀ b y,role b=y→y ≠ .half→y ≠ .spare→¬ (G.Lh.fp b ∨ G.Ls.fp b):=fun b y e h1 h2 s=>by
  rcases s with s | s
  ·exact h1 (e ▸ r.halfr b s)
  ·exact h2 (e ▸ r.sparer b s)
 have hlt:∀ b,L'.fp b→b < h'.size:=hs.lt
 have tr:∀ b y,role b=y→y ≠ .out→joinR role h.size L'.fp .spare b=y:=fun b y e hy=>by
  rcases Nat.lt_or_ge b h.size with hl | hl
  ·exact (joinR_old hl).trans e
  ·exact absurd (e ▸ r.fresh b hl) hy
 refine ⟨⟨?_,tr _ _ r.rh nofun,fun b hb=>joinR_out (r.fresh b (Nat.le_trans g3.1 hb)) fun hf=>by have:=hlt b hf; omega,ha,fun b hb=>tr _ _ (r.halfr b hb) nofun,hs,fun b hb=>?_,
  slat_kept' r.bs g3 fun b hb=>no _ _ (r.bsr b hb) nofun nofun,fun b hb=>tr _ _ (r.bsr b hb) nofun,r.ll,fun i o L h1 h2=>?_,slat_kept' r.rs g3 fun b hb=>no _ _ (r.rsr b hb) nofun nofun,fun b hb=>tr _ _ (r.rsr b hb) nofun,
  r.gs.kept g3 fun b hb=>no _ _ (r.gsr b hb) nofun nofun,fun b hb=>tr _ _ (r.gsr b hb) nofun,slat_kept' r.ts g3 fun b hb=>no _ _ (r.tsr b hb) nofun nofun,fun b hb=>tr _ _ (r.tsr b hb) nofun⟩,?_⟩
 ·have:=kept_row g3 r.row (no _ _ r.rh nofun nofun)
  unfold hcells at this ⊢
  simp only [g1]
  exact this
 ·rcases Nat.lt_or_ge b h.size with hl | hl
  ·rw [joinR_old hl]
   rcases g2 b hb with h | h
   ·exact r.sparer b h
   ·omega
  ·exact joinR_new hl hb
 ·have x0:=(r.bl i o L h1 h2).keep g3 fun b hb=>no _ _ hb nofun nofun
  cases o <;> cases L <;> first | exact x0 | exact ⟨x0.1,fun b hb=>tr _ _ (x0.2 b hb) nofun⟩
 ·exact Ext.of (role:=role) g3 (fun b s e=>s.elim (fun s=>by rw [r.halfr b s] at e; cases e) fun s=>by rw [r.sparer b s] at e; cases e) fun b hb=>joinR_old hb
theorem hmoved_small (rp:HRep h hb role m G) {r:Nat} (h0:r ≠ 0) (hlt:r < top) {i:Nat} {o:AObj} (hi:idx m.half r=some i) (ho:m.half[i]?=some o) (hfit:o.fwd=none→used m.spare + o.size ≤ m.sz) {R:Value→Hp→Prop}
  (hR:∀ h' role' G',HRep h' hb role' (mMoved m r).1 G'→Held G G'→Ext h role h' role'→R (uv (mMoved m r).2) h'):CallTo Try.prog 73 #[.pointer (some (ad hb)),uv r] h R:=by
 have hlt':r < 9223372036854775808:=hlt
 refine f73F_ok ?_
 unfold f73F
 obtain ⟨hil,hpos⟩:=idx_some.1 hi
 refine Cond_f (by simp; omega) (Cond_f (by rw [gone_no hlt']; rfl) ?_)
 have c2:cell h ((ad hb).add 2)=some (.pointer (some (ad G.Ls.pb))):=(rp.c 2).trans rfl
 have c1:cell h ((ad hb).add 1)=some (.pointer (some (ad G.Lh.pb))):=(rp.c 1).trans rfl
 refine PtrOk_mk ⟨_,c2,PtrOk_mk ⟨_,c1,?_⟩⟩
 have hw:IntKind.wrap .i64 ((r:Nat):Int)=(pos m.half i:Int):=by rw [wrap_i64' (by omega) (by omega),hpos]
 rw [hw]
 have hm0:mMoved m r=match o.fwd with
   | some t=>(m,t)
   | none=>({ m with half:=m.half.modify i fun o=>{ o with fwd:=some (used m.spare) },spare:=m.spare ++ [o] },used m.spare):=by
  unfold mMoved
  rw [if_neg h0,if_neg (by omega),hi]
  simp only [Option.bind_some,ho,Option.getD_some]
 obtain ⟨wcs,fcs,fss,ra⟩:=rp.half
 obtain ⟨wcd,fcd,fsd,rd⟩:=rp.spare
 cases hf:o.fwd with
 | some t =>
  rw [hf] at hm0
  refine take_moved ra ho hf ⟨_,_,rfl,?_⟩
  have htl:=(ra.ok o (List.mem_of_getElem? ho)).fw t hf
  rw [wrap_u64' (by omega) (by omega)]
  rw [hm0] at hR
  exact hR h role G rp (Held.refl G) (Ext.refl h role)
 | none =>
  rw [hf] at hm0
  refine take_ok ra rd (ar_disj rp) ho hf (hfit hf) fun h' Ld' h1 h2 h3=>⟨_,_,rfl,?_⟩
  have:=rd.u
  have:=rd.s
  rw [wrap_u64' (by omega) (by omega)]
  rw [hm0] at hR
  obtain ⟨q1,q2⟩:=rp.setBoth h1 h2 h3
  exact hR h' _ { G with Ls:=Ld' } q1 ⟨rfl,h3.1,rfl,rfl,rfl,rfl,rfl,rfl,rfl⟩ q2

theorem own_some {sz:Nat} {a:Option Addr} {n c:Nat} {ob:Option Nat} {vs:List Value} (s:SlAt sz h a n c ob vs) (hn:n ≠ 0):∃ b,ob=some b∧a=some (ad b):=by
 cases ob with
 | none=>exact absurd (s.nil rfl).2.1 hn
 | some b=>exact ⟨b,rfl,(s.row b rfl).1⟩
/-- One flag of 'reached' is written. -/
theorem HRep.setReach (r:HRep h hb role m G) {i:Nat} (hi:i < m.reached.length) (v:Bool):∃ b,G.rs.a=some (ad b)∧Go.Ev.stOk h ⟨b,i,none⟩∧HRep (setc h ⟨b,i,none⟩ (.bool v)) hb role { m with reached:=m.reached.set i v } G ∧
  Ext h role (setc h ⟨b,i,none⟩ (.bool v)) role:=by
 have hl:=r.rs.len
 rw [List.length_map] at hl
 obtain ⟨b,hob,ha⟩:=own_some r.rs (by omega)
 have rs:=r.rs
 rw [hob] at rs
 obtain ⟨h1,h2⟩:=rs.set (o:=i) (by rw [List.length_map]; exact hi) (.bool v)
 have k:Kept (fun x=>x=b) h (setc h ⟨b,i,none⟩ (.bool v)):=kept_setc h i _ rfl
 have hrb:=r.rsr b hob
 have p:=r.part (x:=.rb) k (fun x e=>.inl (e ▸ hrb)) (role':=role) (fun _ _=>rfl) fun b hb=>r.fresh b (Nat.le_trans k.1 hb)
 refine ⟨b,ha,h1,⟨kept_row k r.row (fun e=>by have:=r.rh; rw [e,hrb] at this; cases this),p.rh,p.fresh,(p.half nofun).1,(p.half nofun).2,(p.spare nofun).1,(p.spare nofun).2,(p.bs nofun).1,(p.bs nofun).2,p.ll,fun i o L h1 h2=>p.bl i o L nofun h1 h2,?_,r.rsr,
  (p.gs nofun).1,(p.gs nofun).2,(p.ts nofun).1,(p.ts nofun).2⟩,Ext.of (role:=role) k (fun x e=>by rw [e,hrb]; nofun) fun _ _=>rfl⟩
 rw [hob]
 show SlAt 1 _ _ _ _ _ ((m.reached.set i v).map Value.bool)
 rw [List.map_set]
 exact h2
theorem HRep.reach_at (r:HRep h hb role m G) {i:Nat} (hi:i < m.reached.length):∃ b,G.rs.a=some (ad b)∧cell h ((ad b).add (i * 1))=some (.bool (m.reached.getD i false))∧i < G.rs.n:=by
 have hl:=r.rs.len
 rw [List.length_map] at hl
 obtain ⟨b,hob,ha⟩:=own_some r.rs (by omega)
 have rs:=r.rs
 rw [hob] at rs
 refine ⟨b,ha,?_,by omega⟩
 rw [add_ad,Nat.mul_one,rs.cell (by rw [List.length_map]; exact hi),List.getElem?_map,List.getD_eq_getElem?_getD,List.getElem?_eq_getElem hi]
 rfl
/-- The line grows by one slot. -/
theorem HRep.pushGrey (r:HRep h hb role m G) {x:Nat} (hlen:m.grey.length < 10000000) {K:Hp→Prop} (hK:∀ h' role' G',HRep h' hb role' { m with grey:=m.grey ++ [x] } G'→Held G G'→Ext h role h' role'→K h') :
  Let (h.push (.cells #[nv x] 3)) fun h2=>appSl 3 1 8 #[.int .i64 0] G.gs.a G.gs.n G.gs.c (some (nb h)) 1 h2 fun ra rn rc h3=>PtrOk (some (ad hb)) fun p=>Go.Ev.stOk h3 (p.add 5)∧Let (setc h3 (p.add 5) (.slice ra rn rc)) fun h4=>K h4:=by
 refine Let_mk fun h2 e2=>?_
 have k2:Kept N h h2:=e2 ▸ kept_push _ _ _
 have r2:=r.keep k2 fun _ e=>e.elim
 have row2:Row h2 h.size [nv x]:=e2 ▸ row_new h #[nv x] 3
 have hz2:h2.size=h.size + 1:=by rw [e2]; simp
 have hl:=r.gs.len
 rw [List.length_map] at hl
 refine ⟨[nv x],reads_row row2 (fun j v hj=>by rw [Nat.zero_add]; exact hj),rfl,?_⟩
 refine appO_ok r2.gs rfl rfl (by intro v hv; obtain rfl:=List.mem_singleton.1 hv; rfl) (by omega) (by omega) fun a' c' ob' h3 s3 hcase=>PtrOk_mk ?_
 have hlt2:=r2.hlt
 have key:∀ gb',ob'=some gb'→(role gb'=.gb ∨ h2.size ≤ gb')→Kept (fun b=>role b=.gb) h2 h3→Go.Ev.stOk h3 ((ad hb).add 5)∧Let (setc h3 ((ad hb).add 5) (.slice a' (G.gs.n + 1) c')) fun h4=>K h4:=by
  rintro gb' rfl hgb k3
  have e5:(ad hb).add 5=⟨hb,5,none⟩:=add_ad _ _
  rw [e5]
  have hrow3:Row h3 hb (hcells m G):=kept_row k3 r2.row fun e=>by rw [r2.rh] at e; cases e
  refine ⟨stOk_row hrow3 (by show 5 < 19; omega),Let_mk fun h4 e4=>?_⟩
  have k4:Kept (fun b=>b=hb) h3 h4:=e4 ▸ kept_setc h3 5 _ rfl
  have k24:Kept (fun b=>role b=.gb ∨ b=hb) h2 h4:=⟨Nat.le_trans k3.1 k4.1,fun b hb0 hn=>(k4.2 b (Nat.lt_of_lt_of_le hb0 k3.1) (fun e=>hn (.inr e))).trans (k3.2 b hb0 fun e=>hn (.inl e))⟩
  have hgl:gb' < h4.size:=Nat.lt_of_lt_of_le s3.lt k4.1
  have p:=r2.part (x:=.gb) k24 (fun b e=>e.elim .inl fun e=>.inr (.inl (e ▸ r2.rh))) (role':=joinR role h2.size (fun b=>b=gb') .gb) (fun b hb=>joinR_old hb) fun b hb=>joinR_out (r2.fresh b (Nat.le_trans k24.1 hb)) fun e=>by omega
  have hg4:joinR role h2.size (fun b=>b=gb') .gb gb'=.gb:=by
   rcases Nat.lt_or_ge gb' h2.size with hl | hl
   ·rw [joinR_old hl]; exact hgb.resolve_right (by omega)
   ·exact joinR_new hl rfl
  have hne:gb' ≠ hb:=fun e=>by
   rcases hgb with h | h
   ·rw [e,r2.rh] at h; cases h
   ·omega
  have hrow4:Row h4 hb (hcells { m with grey:=m.grey ++ [x] } { G with gs:=⟨a',G.gs.n + 1,c'⟩,gb:=some gb' }):=by
   rw [e4]
   exact row_setc hrow3 5 _
  refine hK h4 _ { G with gs:=⟨a',G.gs.n + 1,c'⟩,gb:=some gb' } ⟨hrow4,p.rh,p.fresh,(p.half nofun).1,(p.half nofun).2,(p.spare nofun).1,(p.spare nofun).2,(p.bs nofun).1,(p.bs nofun).2,p.ll,fun i o L h1 h2=>p.bl i o L nofun h1 h2,
   (p.rs nofun).1,(p.rs nofun).2,?_,fun b e=>by obtain rfl:=Option.some.inj e; exact hg4,(p.ts nofun).1,(p.ts nofun).2⟩ (Held.refl G) ?_
  ·show SlO 1 h4 a' (G.gs.n + 1) c' (some gb') ((m.grey ++ [x]).map nv)
   rw [List.map_append]
   exact s3.kept k4 fun b e=>by obtain rfl:=Option.some.inj e; exact hne
  ·refine ⟨Nat.le_trans k2.1 k24.1,fun b hb0=>joinR_old (by omega),fun b hb0 ho=>?_⟩
   rw [k24.2 b (by omega) fun e=>e.elim (fun e=>by rw [ho] at e; cases e) fun e=>by rw [e,r2.rh] at ho; cases ho]
   exact k2.2 b hb0 id
 rcases hcase with ⟨rfl,k3⟩ | ⟨rfl,k3⟩
 ·cases hgb:G.gb with
  | none =>
   rw [hgb] at s3
   exact absurd (s3.nil rfl).2.1 (by omega)
  | some gb' =>
   refine key gb' hgb (.inl (r2.gsr gb' hgb)) (k3.mono fun b _ e=>?_)
   rw [hgb] at e
   obtain rfl:=Option.some.inj e
   exact r2.gsr _ hgb
 ·exact key h2.size rfl (.inr (Nat.le_refl _)) (k3.mono fun _ _ e=>e.elim)

theorem mMoved_slot (m:MH) (s:Nat):mMoved m (top + s)=if m.reached.getD s false=true then (m,top + s) else ({ m with reached:=m.reached.set s true,grey:=m.grey ++ [s] },top + s):=by
 unfold mMoved
 have ht:top=9223372036854775808:=rfl
 rw [if_neg (show ¬ top + s=0 by omega),if_pos (Nat.le_add_right top s),Nat.add_sub_cancel_left]
theorem slot_num' {s:Nat} (h2:top + s < 18446744073709551616):IntKind.wrap .i64 (andNotI .u64 ((top + s:Nat):Int) (9223372036854775808:Int))=(s:Int):=by
 have ht:top=9223372036854775808:=rfl
 have h3:s < 9223372036854775808:=by omega
 rw [andNotI_gone (by omega) (by omega),wrap_i64' (by omega) (by omega)]
 omega
theorem hmoved_big (rp:HRep h hb role m G) {s:Nat} (hr:top + s < 18446744073709551616) (hslot:s < m.reached.length) (hg:m.grey.length < 10000000) {R:Value→Hp→Prop}
  (hR:∀ h' role' G',HRep h' hb role' (mMoved m (top + s)).1 G'→Held G G'→Ext h role h' role'→R (uv (mMoved m (top + s)).2) h'):CallTo Try.prog 73 #[.pointer (some (ad hb)),uv (top + s)] h R:=by
 rw [mMoved_slot] at hR
 have ht:top=9223372036854775808:=rfl
 generalize hrr:top + s=r at hr hR
 have hb1':9223372036854775808 ≤ r:=by omega
 have hsn:IntKind.wrap .i64 (andNotI .u64 (r:Int) (9223372036854775808:Int))=(s:Int):=by rw [← hrr]; exact slot_num' (by omega)
 refine f73F_ok ?_
 unfold f73F
 refine Cond_f (by simp; omega) (Cond_t (by rw [gone_yes hb1' hr]; rfl) ?_)
 simp only [hsn,Int.toNat_natCast]
 have c4:cell h ((ad hb).add 4)=some (.slice G.rs.a G.rs.n G.rs.c):=(rp.c 4).trans rfl
 obtain ⟨b,ha,hcell,hin⟩:=rp.reach_at hslot
 have cb:(0:Int) ≤ ((s:Nat):Int)∧((s:Nat):Int) < ((G.rs.n:Nat):Int):=by omega
 refine PtrOk_mk ⟨G.rs,c4,cb,PtrOk_of ha ⟨_,hcell,?_⟩⟩
 cases hfl:m.reached.getD s false with
 | true =>
  rw [hfl,if_pos rfl] at hR
  exact Cond_f rfl (hR h role G rp (Held.refl G) (Ext.refl h role))
 | false =>
  rw [hfl,if_neg nofun] at hR
  refine Cond_t rfl (PtrOk_mk ⟨G.rs,c4,cb,PtrOk_of ha ?_⟩)
  obtain ⟨b',ha',hst,rp1,x1⟩:=rp.setReach hslot true
  rw [ha] at ha'
  obtain rfl:b=b':=by simpa [ad] using ha'
  have ea:(ad b).add (s * 1)=⟨b,s,none⟩:=by rw [add_ad,Nat.mul_one]
  simp only [ea]
  refine ⟨hst,Let_mk fun h1 e1=>?_⟩
  rw [← e1] at rp1 x1
  have c5:cell h1 ((ad hb).add 5)=some (.slice G.gs.a G.gs.n G.gs.c):=(rp1.c 5).trans rfl
  refine PtrOk_mk ⟨G.gs,c5,?_⟩
  exact rp1.pushGrey (x:=s) hg fun h' role' G' rp' hh xx=>hR h' role' G' rp' hh (x1.trans xx)
theorem hmoved_nil (rp:HRep h hb role m G) {R:Value→Hp→Prop} (hR:R (uv 0) h):CallTo Try.prog 73 #[.pointer (some (ad hb)),uv 0] h R:=by
 refine f73F_ok ?_
 unfold f73F
 exact Cond_t rfl hR
end
end Go.Ev
set_option linter.all false
set_option maxRecDepth 100000
namespace Go.Ev
open Go.Proofs
/-- Where the object lies that is looked at: in the spare half, or in a slot's block. -/
inductive Tgt where
 | sp (k:Nat)
 | sl (i:Nat)
def MH.at (m:MH):Tgt→Option AObj
 | .sp k=>m.spare[k]?
 | .sl i=>(m.blocks[i]?).bind id
def MH.setF (m:MH) (t:Tgt) (j v:Nat):MH :=
 match t with
 | .sp k=>{ m with spare:=m.spare.modify k fun o=>o.setF j v }
 | .sl i=>{ m with blocks:=m.blocks.modify i fun o=>o.map fun o=>o.setF j v }
def mLook (m:MH) (t:Tgt):Nat→MH
 | 0=>m
 | n + 1 =>
  match (mLook m t n).at t with
  | some o=>((mMoved (mLook m t n) (o.flds.getD n 0)).1).setF t n (mMoved (mLook m t n) (o.flds.getD n 0)).2
  | none=>mLook m t n
/-- The pointer and the place by which it is asked. -/
def Tgt.loc (m:MH) (G:Geo):Tgt→Option (Nat × Int)
 | .sp k=>some (G.Ls.pb,(pos m.spare k:Int))
 | .sl i=>match G.locs[i]? with | some (some L)=>some (L.pb,1) | _=>none
section
variable {h:Hp} {hb:Nat} {role:Nat→Role} {m:MH} {G:Geo}
/-- Get and Set of a field of the object, whichever it is. -/
theorem tget_ok (r:HRep h hb role m G) {t:Tgt} {o:AObj} (ho:m.at t=some o) (hf:o.fwd=none) {pb:Nat} {at_:Int} (hl:t.loc m G=some (pb,at_)) {j:Nat} {v:Nat} (hv:o.flds[j]?=some v) {R:Value→Hp→Prop}
  (hR:R (.tuple #[uv v,.int .i64 0]) h):CallTo Try.prog 122 #[.pointer (some (ad pb)),.int .i64 at_,.int .i64 (j:Int)] h R:=by
 have fin:∀ (L:ArLoc) (sz:Nat) (os:List AObj) (i:Nat),Ar h L sz os→os[i]?=some o→L.pb=pb→at_=(pos os i:Int)→CallTo Try.prog 122 #[.pointer (some (ad pb)),.int .i64 at_,.int .i64 (j:Int)] h R:=by
  rintro L sz os i ⟨wc,fc,fs,ra⟩ hi rfl rfl
  refine aget_ok ra ?_
  have:getV os (pos os i:Int) (j:Int)=.tuple #[uv v,.int .i64 0]:=by
   unfold getV
   rw [idxI_nat,idx_pos (List.getElem?_eq_some_iff.1 hi).1]
   simp only [Option.bind_some,hi,hf]
   rw [if_pos (by omega),Int.toNat_natCast,hv]
  rw [this]
  exact hR
 cases t with
 | sp k =>
  simp only [Tgt.loc,Option.some.injEq,Prod.mk.injEq] at hl
  exact fin G.Ls m.sz m.spare k r.spare ho hl.1 hl.2.symm
 | sl i =>
  simp only [Tgt.loc] at hl
  cases hL:G.locs[i]? with
  | none=>rw [hL] at hl; simp at hl
  | some L =>
   cases L with
   | none=>rw [hL] at hl; simp at hl
   | some L =>
    rw [hL] at hl
    simp only [Option.some.injEq,Prod.mk.injEq] at hl
    have hm:m.blocks[i]?=some (some o):=by
     have ho:(m.blocks[i]?).bind id=some o:=ho
     cases hx:m.blocks[i]? with
     | none=>rw [hx] at ho; cases ho
     | some x=>rw [hx] at ho; exact congrArg some ho
    have hbk:=r.bl i _ _ hm hL
    exact fin L (o.size + 1) [o] 0 hbk.1 rfl hl.1 hl.2.symm

theorem modify_set {α:Type} {l:List α} {i:Nat} {x:α} (hx:l[i]?=some x) (f:α→α):l.modify i f=l.set i (f x):=by
 apply List.ext_getElem?
 intro j
 have hi:=(List.getElem?_eq_some_iff.1 hx).1
 rw [List.getElem?_modify]
 by_cases hij:i=j
 ·subst hij
  rw [hx,List.getElem?_set_self hi]
  show some _=some _
  simp
 ·rw [List.getElem?_set_ne hij]
  cases l[j]? with
  | none=>rfl
  | some y=>show some _=some _; simp [hij]
theorem tset_ok (r:HRep h hb role m G) {t:Tgt} {o:AObj} (ho:m.at t=some o) (hf:o.fwd=none) {pb:Nat} {at_:Int} (hl:t.loc m G=some (pb,at_)) {j:Nat} {v:Nat} (hj:j < o.flds.length) (hv:v < 18446744073709551616) {R:Value→Hp→Prop}
  (hR:∀ h' role' G',HRep h' hb role' (m.setF t j v) G'→Held G G'→Ext h role h' role'→R (.int .i64 0) h'):CallTo Try.prog 123 #[.pointer (some (ad pb)),.int .i64 at_,.int .i64 (j:Int),uv v] h R:=by
 have fin:∀ (L:ArLoc) (sz:Nat) (os:List AObj) (i:Nat),Ar h L sz os→os[i]?=some o→L.pb=pb→at_=(pos os i:Int) →
   (∀ h',Ar h' L sz (os.modify i fun o=>o.setF j v)→Kept L.fp h h'→R (.int .i64 0) h')→CallTo Try.prog 123 #[.pointer (some (ad pb)),.int .i64 at_,.int .i64 (j:Int),uv v] h R:=by
  rintro L sz os i ⟨wc,fc,fs,ra⟩ hi rfl rfl hk
  have hil:=(List.getElem?_eq_some_iff.1 hi).1
  have hE:setE os (pos os i:Int) (j:Int)=0:=by
   unfold setE
   rw [idxI_nat,idx_pos hil]
   simp only [Option.bind_some,hi,hf]
   rw [if_pos ⟨by omega,by omega⟩]
  refine aset_ok ra hv (fun he=>absurd hE he) fun i' o' k h' h1 h2 h3 h4 h5 h6 h7=>?_
  rw [idxI_nat,idx_pos hil] at h1
  obtain rfl:=Option.some.inj h1
  obtain rfl:j=k:=by omega
  exact hk h' ⟨_,_,_,h6⟩ h7
 cases t with
 | sp k =>
  simp only [Tgt.loc,Option.some.injEq,Prod.mk.injEq] at hl
  refine fin G.Ls m.sz m.spare k r.spare ho hl.1 hl.2.symm fun h' ha hk=>?_
  have g:Grown h G.Ls G.Ls h':=⟨rfl,fun _=>.inl,hk⟩
  exact hR h' _ G (r.setSpare ha g) (Held.refl G) (Ext.of (role:=role) hk (fun b hb=>by rw [r.sparer b hb]; nofun) fun b hb=>joinR_old hb)
 | sl i =>
  simp only [Tgt.loc] at hl
  cases hL:G.locs[i]? with
  | none=>rw [hL] at hl; simp at hl
  | some L =>
   cases L with
   | none=>rw [hL] at hl; simp at hl
   | some L =>
    rw [hL] at hl
    simp only [Option.some.injEq,Prod.mk.injEq] at hl
    have hm:m.blocks[i]?=some (some o):=by
     have ho:(m.blocks[i]?).bind id=some o:=ho
     cases hx:m.blocks[i]? with
     | none=>rw [hx] at ho; cases ho
     | some x=>rw [hx] at ho; exact congrArg some ho
    have hbk:=r.bl i _ _ hm hL
    refine fin L (o.size + 1) [o] 0 hbk.1 rfl hl.1 hl.2.symm fun h' ha hk=>?_
    have hs:=r.setSlot hm hL (o':=o.setF j v) (o.size_setF j v) ha hk
    have e:m.setF (.sl i) j v={ m with blocks:=m.blocks.set i (some (o.setF j v)) }:=by
     show ({ m with blocks:=_ }:MH)=_
     rw [modify_set hm]
     rfl
    rw [e] at hR
    exact hR h' role G hs (Held.refl G) (Ext.of (role:=role) hk (fun b hb=>by rw [hbk.2 b hb]; nofun) fun _ _=>rfl)
/-- Object of the target. -/
theorem tobj_ok (r:HRep h hb role m G) {t:Tgt} {o:AObj} (ho:m.at t=some o) (hf:o.fwd=none) {pb:Nat} {at_:Int} (hl:t.loc m G=some (pb,at_)) {R:Value→Hp→Prop}
  (hR:R (.tuple #[.int .i64 (o.kind:Int),.int .i64 (o.refs.length:Int),.int .i64 (o.raws.length:Int),.int .i64 0]) h):CallTo Try.prog 76 #[.pointer (some (ad pb)),.int .i64 at_] h R:=by
 have fin:∀ (L:ArLoc) (sz:Nat) (os:List AObj) (i:Nat),Ar h L sz os→os[i]?=some o→L.pb=pb→at_=(pos os i:Int)→CallTo Try.prog 76 #[.pointer (some (ad pb)),.int .i64 at_] h R:=by
  rintro L sz os i ⟨wc,fc,fs,ra⟩ hi rfl rfl
  refine aobject_ok ra ?_
  have:objV os (pos os i:Int)=.tuple #[.int .i64 (o.kind:Int),.int .i64 (o.refs.length:Int),.int .i64 (o.raws.length:Int),.int .i64 0]:=by
   unfold objV
   rw [idxI_nat,idx_pos (List.getElem?_eq_some_iff.1 hi).1]
   simp only [Option.bind_some,hi,hf]
  rw [this]
  exact hR
 cases t with
 | sp k =>
  simp only [Tgt.loc,Option.some.injEq,Prod.mk.injEq] at hl
  exact fin G.Ls m.sz m.spare k r.spare ho hl.1 hl.2.symm
 | sl i =>
  simp only [Tgt.loc] at hl
  cases hL:G.locs[i]? with
  | none=>rw [hL] at hl; simp at hl
  | some L =>
   cases L with
   | none=>rw [hL] at hl; simp at hl
   | some L =>
    rw [hL] at hl
    simp only [Option.some.injEq,Prod.mk.injEq] at hl
    have hm:m.blocks[i]?=some (some o):=by
     have ho:(m.blocks[i]?).bind id=some o:=ho
     cases hx:m.blocks[i]? with
     | none=>rw [hx] at ho; cases ho
     | some x=>rw [hx] at ho; exact congrArg some ho
    have hbk:=r.bl i _ _ hm hL
    exact fin L (o.size + 1) [o] 0 hbk.1 rfl hl.1 hl.2.symm

def MoveOk (m:MH) (r:Nat):Prop:=m.grey.length < 10000000∧(r=0 ∨ (∃ s,r=top + s∧s < m.reached.length∧top + s < 18446744073709551616) ∨
 (r ≠ 0∧r < top∧∃ i o,idx m.half r=some i∧m.half[i]?=some o∧(o.fwd=none→used m.spare + o.size ≤ m.sz)))
theorem mMoved_nil (m:MH):mMoved m 0=(m,0):=by unfold mMoved; rw [if_pos rfl]
theorem hmoved_all (rp:HRep h hb role m G) {r:Nat} (hm:MoveOk m r) {R:Value→Hp→Prop}
  (hR:∀ h' role' G',HRep h' hb role' (mMoved m r).1 G'→Held G G'→Ext h role h' role'→R (uv (mMoved m r).2) h'):CallTo Try.prog 73 #[.pointer (some (ad hb)),uv r] h R:=by
 obtain ⟨hg,rfl | ⟨s,rfl,h1,h2⟩ | ⟨h0,h1,i,o,h2,h3,h4⟩⟩:=hm
 ·rw [mMoved_nil] at hR
  exact hmoved_nil rp (hR h role G rp (Held.refl G) (Ext.refl h role))
 ·exact hmoved_big rp h2 h1 hg hR
 ·exact hmoved_small rp h0 h1 h2 h3 h4 hR
theorem mMoved_spare (m:MH) (r:Nat):∃ l,(mMoved m r).1.spare=m.spare ++ l:=by
 unfold mMoved
 split
 ·exact ⟨[],by simp⟩
 ·split
  ·split
   ·exact ⟨[],by simp⟩
   ·exact ⟨[],by simp⟩
  ·split
   ·split
    ·exact ⟨[],by simp⟩
    ·exact ⟨_,rfl⟩
   ·exact ⟨[],by simp⟩
theorem mMoved_blocks (m:MH) (r:Nat):(mMoved m r).1.blocks=m.blocks:=by
 unfold mMoved
 split
 ·rfl
 ·split
  ·split <;> rfl
  ·split
   ·split <;> rfl
   ·rfl
theorem mMoved_at (m:MH) (r:Nat) {t:Tgt} {o:AObj} (ho:m.at t=some o):(mMoved m r).1.at t=some o:=by
 cases t with
 | sp k =>
  obtain ⟨l,hl⟩:=mMoved_spare m r
  show (mMoved m r).1.spare[k]?=some o
  rw [hl,List.getElem?_append_left (List.getElem?_eq_some_iff.1 (show m.spare[k]?=some o from ho)).1]
  exact ho
 | sl i =>
  show ((mMoved m r).1.blocks[i]?).bind id=some o
  rw [mMoved_blocks]
  exact ho
theorem loc_moved (m:MH) (r:Nat) {t:Tgt} {o:AObj} (ho:m.at t=some o) {G':Geo} (hh:Held G G') {x:Nat × Int} (hl:t.loc m G=some x):t.loc (mMoved m r).1 G'=some x:=by
 cases t with
 | sp k =>
  obtain ⟨l,hl2⟩:=mMoved_spare m r
  have hk:=(List.getElem?_eq_some_iff.1 (show m.spare[k]?=some o from ho)).1
  have hp:pos (mMoved m r).1.spare k=pos m.spare k:=by
   unfold pos
   rw [hl2,List.take_append_of_le_length (by omega)]
  rw [← hl]
  simp only [Tgt.loc,hp,hh.2.1]
 | sl i =>
  rw [← hl]
  simp only [Tgt.loc,hh.2.2.1]
theorem loc_setF (m:MH) (j v:Nat) {t:Tgt} {G':Geo} (hh:Held G G') {x:Nat × Int} (hl:t.loc m G=some x):t.loc (m.setF t j v) G'=some x:=by
 cases t with
 | sp k =>
  have hp:pos (m.setF (.sp k) j v).spare k=pos m.spare k:=pos_modify fun o=>o.size_setF j v
  rw [← hl]
  simp only [Tgt.loc,hp,hh.2.1]
 | sl i =>
  rw [← hl]
  simp only [Tgt.loc,hh.2.2.1]
/-- What look asks for on its way: at each field the object stands, and its ref may be moved. -/
structure LookOk (m:MH) (t:Tgt) (o:AObj):Prop where
 at0:m.at t=some o
 fwd:o.fwd=none
 ok:∀ n,n < o.refs.length→∃ o',(mLook m t n).at t=some o'∧o'.fwd=none∧o'.refs.length=o.refs.length∧o'.raws.length=o.raws.length∧o'.flds.getD n 0 < 18446744073709551616 ∧
  MoveOk (mLook m t n) (o'.flds.getD n 0)∧(mMoved (mLook m t n) (o'.flds.getD n 0)).2 < 18446744073709551616

theorem mLook_succ (m:MH) (t:Tgt) (n:Nat) {o':AObj} (ho:(mLook m t n).at t=some o') :
  mLook m t (n + 1)=((mMoved (mLook m t n) (o'.flds.getD n 0)).1).setF t n (mMoved (mLook m t n) (o'.flds.getD n 0)).2:=by
 show (match (mLook m t n).at t with | some o=>_ | none=>_)=_
 rw [ho]
theorem look_ok (rp:HRep h hb role m G) {t:Tgt} {o:AObj} (hk:LookOk m t o) (ho:o.Ok) {pb:Nat} {at_:Int} (hl:t.loc m G=some (pb,at_)) {R:Value→Hp→Prop}
  (hR:∀ h' role' G',HRep h' hb role' (mLook m t o.refs.length) G'→Held G G'→Ext h role h' role'→R (.int .i64 (o.size:Nat)) h') :
  CallTo Try.prog 74 #[.pointer (some (ad hb)),.iface 98 (.pointer (some (ad pb))),.int .i64 at_] h R:=by
 refine f74F_ok ?_
 unfold f74F
 have hnr:=ho.nr
 have hnw:=ho.nw
 refine ⟨_,rfl,tobj_ok rp hk.at0 hk.fwd hl ⟨_,_,_,_,rfl,?_⟩⟩
 refine f74L1_rule (fun q s0 s1 s2 s8 s9 s11 h'=>∃ (k:Nat) (role':Nat→Role) (G':Geo),k ≤ o.refs.length∧q=o.refs.length - k∧s0=some (ad hb)∧s1=.iface 98 (.pointer (some (ad pb)))∧s2=at_∧s8=(o.refs.length:Int)∧s9=(o.raws.length:Int)∧s11=k ∧
  HRep h' hb role' (mLook m t k) G'∧Held G G'∧Ext h role h' role'∧t.loc (mLook m t k) G'=some (pb,at_)) o.refs.length
  ⟨0,role,G,by omega,rfl,rfl,rfl,rfl,rfl,rfl,rfl,rp,Held.refl G,Ext.refl h role,hl⟩ ?_
 rintro q s0 s1 s2 s8 s9 s11 g h1 ⟨k,role1,G1,hk1,rfl,rfl,rfl,rfl,rfl,rfl,rfl,rp1,hh1,x1,hl1⟩
 unfold f74L1
 refine Cond_dec (fun hlt=>?_) fun hge=>?_
 ·have hkr:k < o.refs.length:=by omega
  obtain ⟨o1,ho1,hf1,hr1,hw1,hv1,hmv,hv2⟩:=hk.ok k hkr
  have hfl:k < o1.flds.length:=by unfold AObj.flds; simp; omega
  have hget:o1.flds[k]?=some (o1.flds.getD k 0):=by rw [List.getD_eq_getElem?_getD,List.getElem?_eq_getElem hfl]; rfl
  refine ⟨_,rfl,tget_ok rp1 ho1 hf1 hl1 hget ⟨_,_,rfl,_,rfl,?_⟩⟩
  refine hmoved_all rp1 hmv fun h2 role2 G2 rp2 hh2 x2=>⟨_,rfl,_,rfl,?_⟩
  have hl2:=loc_moved _ (o1.flds.getD k 0) ho1 hh2 hl1
  have ho2:=mMoved_at _ (o1.flds.getD k 0) ho1
  refine tset_ok rp2 ho2 hf1 hl2 hfl hv2 fun h3 role3 G3 rp3 hh3 x3=>⟨_,rfl,o.refs.length - (k + 1),by omega,k + 1,role3,G3,by omega,rfl,rfl,rfl,rfl,rfl,rfl,?_,?_,(hh1.trans hh2).trans hh3,(x1.trans x2).trans x3,?_⟩
  ·rw [wrap_ar (by omega) (by omega)]; rfl
  ·rw [mLook_succ m t k ho1]; exact rp3
  ·rw [mLook_succ m t k ho1]; exact loc_setF _ _ _ hh3 hl2
 ·obtain rfl:k=o.refs.length:=by omega
  have e1:IntKind.wrap .i64 ((1:Int) + (o.refs.length:Int))=1 + (o.refs.length:Int):=wrap_ar (by omega) (by omega)
  have e2:IntKind.wrap .i64 (1 + (o.refs.length:Int) + (o.raws.length:Int))=((o.size:Nat):Int):=by rw [wrap_ar (by omega) (by omega),AObj.size_eq]; omega
  rw [e1,e2]
  exact hR h1 role1 G1 rp1 hh1 x1
end
end Go.Ev
set_option linter.all false
namespace Go.Ev
structure RObj where
 kind:Nat
 refs:List Nat
 raws:List Nat
 big:Bool
 pl:Nat
def RObj.no:RObj:=⟨0,[],[],false,0⟩
def RObj.size (o:RObj):Nat:=1 + o.refs.length + o.raws.length
structure RS where
 limit:Nat
 half:Nat
 used:Nat
 large:Nat
 since:Nat
 kept:Nat
 objs:List RObj
 small:List Nat
 slots:List Nat
 roots:List (Option Nat)
 coll:Int
 resz:Int
 moved:Nat

namespace RS
def obj (s:RS) (id:Nat):RObj:=s.objs.getD id RObj.no
def size (s:RS) (id:Nat):Nat:=(s.obj id).size
def ref (s:RS) (id:Nat):Nat:=if id=0 then 0 else if (s.obj id).big=true then top + (s.obj id).pl else (s.obj id).pl
def ident (s:RS) (r:Nat):Nat:=if top ≤ r then s.slots.getD (r - top) 0 else if r=0 then 0 else (s.small.find? fun i=>(s.obj i).pl == r).getD 0
/-- Where an object of a list begins, if the list's objects lie one behind the other from p on. -/
def placeIn (s:RS):List Nat→Nat→Nat→Nat
 | [],_,_=>0
 | x :: r,p,id=>if x=id then p else placeIn s r (p + s.size x) id
def sizes (s:RS) (l:List Nat):Nat:=(l.map s.size).sum
def here (s:RS) (id:Nat):Prop:=id ∈ s.small ∨ (id ≠ 0∧id ∈ s.slots)
instance (s:RS) (id:Nat):Decidable (s.here id):=inferInstanceAs (Decidable (_ ∨ _))
structure Inv (s:RS):Prop where
 l1:128 ≤ s.limit
 l2:s.limit ≤ 1048576
 h1:64 ≤ s.half
 h2:2 * s.half + s.large ≤ s.limit
 u1:s.used=1 + s.sizes s.small
 u2:s.used ≤ s.half
 lg:s.large=(s.slots.map fun id=>if id=0 then 0 else s.size id + 1).sum
 sll:s.slots.length ≤ 1048576
 rl:s.roots.length ≤ 100000000
 nds:s.small.Nodup
 sm:∀ id ∈ s.small,0 < id∧id < s.objs.length∧(s.obj id).big=false∧s.size id ≤ 64∧(s.obj id).pl=s.placeIn s.small 1 id
 sl:∀ i id,s.slots[i]?=some id→id ≠ 0→id < s.objs.length∧(s.obj id).big=true∧64 < s.size id∧(s.obj id).pl=i
 rf:∀ id,s.here id→∀ r ∈ (s.obj id).refs,r=0 ∨ s.here r
 rt:∀ id,some id ∈ s.roots→id=0 ∨ s.here id
 shp:∀ id,s.here id→1 ≤ (s.obj id).kind∧(s.obj id).kind ≤ 255∧(s.obj id).refs.length ≤ 1048576∧(s.obj id).raws.length ≤ 1048576∧∀ x ∈ (s.obj id).raws,x < 18446744073709551616
 ob:1 ≤ s.objs.length
 kp:s.kept ≤ 1048576
 sn:s.since ≤ 2097152

/-! ### The walk -/
structure Gc where
 copied:List Nat
 line:List Nat
 a:Nat
 b:Nat
def reach (s:RS) (g:Gc) (id:Nat):Gc :=
 if id=0 ∨ id ∈ g.copied ∨ id ∈ g.line then g
 else if (s.obj id).big=true then { g with line:=g.line ++ [id] } else { g with copied:=g.copied ++ [id] }
def reachL (s:RS) (g:Gc) (ids:List Nat):Gc:=ids.foldl s.reach g
def gcStep (s:RS) (g:Gc):Gc :=
 match g.copied[g.a]? with
 | some id=>{ s.reachL g (s.obj id).refs with a:=g.a + 1 }
 | none=>match g.line[g.b]? with
  | some id=>{ s.reachL g (s.obj id).refs with b:=g.b + 1 }
  | none=>g
def gc0 (s:RS):Gc:=s.reachL ⟨[],[],0,0⟩ (s.roots.filterMap id)
def gcAt (s:RS):Nat→Gc
 | 0=>s.gc0
 | n + 1=>s.gcStep (s.gcAt n)
def gcEnd (s:RS):Gc:=s.gcAt s.objs.length
def collection (s:RS):RS :=
 let g:=s.gcEnd
 let large:=(s.slots.map fun id=>if id ∈ g.line then s.size id + 1 else 0).sum
 {s with
  used:=1 + s.sizes g.copied
  objs:=s.objs.mapIdx fun id o=>if id ∈ g.copied then { o with pl:=s.placeIn g.copied 1 id } else if id ∈ g.line then o else if id=0 then o else RObj.no
  small:=g.copied
  slots:=s.slots.map fun id=>if id ∈ g.line then id else 0
  large:=large
  since:=0
  kept:=large
  coll:=IntKind.wrap .i64 (s.coll + 1)
  moved:=s.sizes g.copied }

/-! ### Facts of the walk -/
structure GcOk (s:RS) (g:Gc):Prop where
 nd:(g.copied ++ g.line).Nodup
 cp:∀ id ∈ g.copied,id ∈ s.small
 ln:∀ id ∈ g.line,id ≠ 0∧id ∈ s.slots
 a:g.a ≤ g.copied.length
 b:g.b ≤ g.line.length
theorem reach_ab (s:RS) (g:Gc) (id:Nat):(s.reach g id).a=g.a∧(s.reach g id).b=g.b:=by
 unfold reach
 split
 ·exact ⟨rfl,rfl⟩
 ·split <;> exact ⟨rfl,rfl⟩
theorem reach_pre (s:RS) (g:Gc) (id:Nat):g.copied <+: (s.reach g id).copied∧g.line <+: (s.reach g id).line:=by
 unfold reach
 split
 ·exact ⟨List.prefix_refl _,List.prefix_refl _⟩
 ·split
  ·exact ⟨List.prefix_refl _,List.prefix_append _ _⟩
  ·exact ⟨List.prefix_append _ _,List.prefix_refl _⟩
theorem reachL_ab (s:RS):∀ (ids:List Nat) (g:Gc),(s.reachL g ids).a=g.a∧(s.reachL g ids).b=g.b
 | [],_=>⟨rfl,rfl⟩
 | id :: ids,g=>by
  have h1:=reachL_ab s ids (s.reach g id)
  have h2:=reach_ab s g id
  exact ⟨h1.1.trans h2.1,h1.2.trans h2.2⟩
theorem reachL_pre (s:RS):∀ (ids:List Nat) (g:Gc),g.copied <+: (s.reachL g ids).copied∧g.line <+: (s.reachL g ids).line
 | [],_=>⟨List.prefix_refl _,List.prefix_refl _⟩
 | id :: ids,g=>by
  have h1:=reachL_pre s ids (s.reach g id)
  have h2:=reach_pre s g id
  exact ⟨h2.1.trans h1.1,h2.2.trans h1.2⟩
theorem Inv.big_of {s:RS} (i:s.Inv) {id:Nat} (h:s.here id):((s.obj id).big=true∧id ∈ s.slots∧id ≠ 0) ∨ ((s.obj id).big=false∧id ∈ s.small):=by
 rcases h with h | ⟨h0,h⟩
 ·exact .inr ⟨(i.sm id h).2.2.1,h⟩
 ·obtain ⟨k,hk⟩:=List.mem_iff_getElem?.1 h
  exact .inl ⟨(i.sl k id hk h0).2.1,h,h0⟩
theorem GcOk.reach {s:RS} (i:s.Inv) {g:Gc} (h:GcOk s g) {id:Nat} (hid:id=0 ∨ s.here id):GcOk s (s.reach g id):=by
 unfold RS.reach
 split
 ·exact h
 ·rename_i hn
  simp only [not_or] at hn
  obtain ⟨n0,n1,n2⟩:=hn
  have hh:=hid.resolve_left n0
  split
  ·rename_i hb
   rcases i.big_of hh with ⟨_,hs,_⟩ | ⟨hb',_⟩
   ·refine ⟨?_,h.cp,?_,h.a,?_⟩
    ·show (g.copied ++ (g.line ++ [id])).Nodup
     rw [← List.append_assoc,List.nodup_append]
     refine ⟨h.nd,by simp,?_⟩
     intro x hx y hy
     rw [List.mem_singleton.1 hy]
     rcases List.mem_append.1 hx with hx | hx
     ·intro e; subst e; exact n1 hx
     ·intro e; subst e; exact n2 hx
    ·intro x hx
     rcases List.mem_append.1 hx with hx | hx
     ·exact h.ln x hx
     ·rw [List.mem_singleton.1 hx]; exact ⟨n0,hs⟩
    ·have:=h.b; simp; omega
   ·rw [hb] at hb'; cases hb'
  ·rename_i hb
   rcases i.big_of hh with ⟨hb',_⟩ | ⟨_,hs⟩
   ·exact absurd hb' hb
   ·refine ⟨?_,?_,h.ln,?_,h.b⟩
    ·show ((g.copied ++ [id]) ++ g.line).Nodup
     have hp:((g.copied ++ [id]) ++ g.line).Perm ((g.copied ++ g.line) ++ [id]):=by
      rw [List.append_assoc,List.append_assoc]
      exact List.Perm.append_left _ List.perm_append_comm
     rw [hp.nodup_iff,List.nodup_append]
     refine ⟨h.nd,by simp,?_⟩
     intro x hx y hy
     rw [List.mem_singleton.1 hy]
     rcases List.mem_append.1 hx with hx | hx
     ·intro e; subst e; exact n1 hx
     ·intro e; subst e; exact n2 hx
    ·intro x hx
     rcases List.mem_append.1 hx with hx | hx
     ·exact h.cp x hx
     ·rw [List.mem_singleton.1 hx]; exact hs
    ·have:=h.a; simp; omega
theorem GcOk.reachL {s:RS} (i:s.Inv):∀ {ids:List Nat} {g:Gc},GcOk s g→(∀ id ∈ ids,id=0 ∨ s.here id)→GcOk s (s.reachL g ids)
 | [],_,h,_=>h
 | id :: ids,g,h,hids=>GcOk.reachL (ids:=ids) i (h.reach i (hids id (List.mem_cons_self ..))) fun x hx=>hids x (List.mem_cons_of_mem _ hx)
theorem GcOk.here {s:RS} {g:Gc} (h:GcOk s g) {id:Nat} (hid:id ∈ g.copied ∨ id ∈ g.line):s.here id:=by
 rcases hid with hid | hid
 ·exact .inl (h.cp id hid)
 ·exact .inr (h.ln id hid)
theorem GcOk.withA {s:RS} {g:Gc} (h:GcOk s g) {n:Nat} (hn:n ≤ g.copied.length):GcOk s { g with a:=n }:=⟨h.nd,h.cp,h.ln,hn,h.b⟩
theorem GcOk.withB {s:RS} {g:Gc} (h:GcOk s g) {n:Nat} (hn:n ≤ g.line.length):GcOk s { g with b:=n }:=⟨h.nd,h.cp,h.ln,h.a,hn⟩
theorem GcOk.step {s:RS} (i:s.Inv) {g:Gc} (h:GcOk s g):GcOk s (s.gcStep g):=by
 unfold gcStep
 split
 ·rename_i id hid
  have hr:=h.reachL i (ids:=(s.obj id).refs) fun r hr=>i.rf id (h.here (.inl (List.mem_of_getElem? hid))) r hr
  refine hr.withA ?_
  have h1:=(List.getElem?_eq_some_iff.1 hid).1
  have h2:=(s.reachL_pre (s.obj id).refs g).1.length_le
  omega
 ·split
  ·rename_i id hid
   have hr:=h.reachL i (ids:=(s.obj id).refs) fun r hr=>i.rf id (h.here (.inr (List.mem_of_getElem? hid))) r hr
   refine hr.withB ?_
   have h1:=(List.getElem?_eq_some_iff.1 hid).1
   have h2:=(s.reachL_pre (s.obj id).refs g).2.length_le
   omega
  ·exact h
theorem GcOk.zero {s:RS} (i:s.Inv):GcOk s s.gc0:=by
 refine GcOk.reachL i ⟨by simp,nofun,nofun,Nat.le_refl _,Nat.le_refl _⟩ fun id hid=>?_
 obtain ⟨o,ho,e⟩:=List.mem_filterMap.1 hid
 have e:o=some id:=e
 subst e
 exact i.rt id ho
theorem GcOk.at {s:RS} (i:s.Inv):∀ n,GcOk s (s.gcAt n)
 | 0=>GcOk.zero i
 | n + 1=>(GcOk.at i n).step i
end RS
end Go.Ev
set_option linter.all false
set_option maxRecDepth 100000
namespace Go.Ev
namespace RS
theorem placeIn_app_left {s:RS}:∀ (l r:List Nat) (p id:Nat),id ∈ l→s.placeIn (l ++ r) p id=s.placeIn l p id
 | [],_,_,_,h=>by cases h
 | x :: l,r,p,id,h=>by
  show (if x=id then p else s.placeIn (l ++ r) (p + s.size x) id)=if x=id then p else s.placeIn l (p + s.size x) id
  split
  ·rfl
  ·rename_i hx
   exact placeIn_app_left l r _ id ((List.mem_cons.1 h).resolve_left fun e=>hx e.symm)
theorem placeIn_snoc {s:RS}:∀ (l:List Nat) (p id:Nat),id ∉ l→s.placeIn (l ++ [id]) p id=p + s.sizes l
 | [],p,id,_=>by show (if id=id then p else _)=_; rw [if_pos rfl]; rfl
 | x :: l,p,id,h=>by
  show (if x=id then p else s.placeIn (l ++ [id]) (p + s.size x) id)=_
  rw [if_neg (fun e:x=id=>h (e ▸ List.mem_cons_self ..)),placeIn_snoc l _ id fun e=>h (List.mem_cons_of_mem _ e)]
  show _=p + (s.size x + s.sizes l)
  omega
/-- The place of a list's i-th. -/
theorem placeIn_at {s:RS}:∀ (l:List Nat) (p i id:Nat),l.Nodup→l[i]?=some id→s.placeIn l p id=p + s.sizes (l.take i)
 | [],_,_,_,_,h=>by simp at h
 | x :: l,p,0,id,_,h=>by
  obtain rfl:x=id:=by simpa using h
  show (if x=x then p else _)=_
  rw [if_pos rfl]; rfl
 | x :: l,p,i + 1,id,hn,h=>by
  have h:l[i]?=some id:=by simpa using h
  have hx:x ≠ id:=fun e=>(List.nodup_cons.1 hn).1 (e ▸ List.mem_of_getElem? h)
  show (if x=id then p else s.placeIn l (p + s.size x) id)=_
  rw [if_neg hx,placeIn_at l _ i id (List.nodup_cons.1 hn).2 h,List.take_succ_cons]
  show _=p + (s.size x + s.sizes (l.take i))
  omega
def newRef (s:RS) (g:Gc) (id:Nat):Nat:=if id=0 then 0 else if (s.obj id).big=true then top + (s.obj id).pl else s.placeIn g.copied 1 id
def encD (s:RS) (g:Gc) (d:Nat) (id:Nat):AObj:=⟨(s.obj id).kind,((s.obj id).refs.take d).map (s.newRef g) ++ ((s.obj id).refs.drop d).map s.ref,(s.obj id).raws,none⟩
def enc (s:RS) (id:Nat):AObj:=⟨(s.obj id).kind,(s.obj id).refs.map s.ref,(s.obj id).raws,none⟩
theorem encD_zero (s:RS) (g:Gc) (id:Nat):s.encD g 0 id=s.enc id:=by simp [encD,enc]
theorem encD_size (s:RS) (g:Gc) (d id:Nat):(s.encD g d id).size=s.size id:=by
 rw [AObj.size_eq]
 unfold encD RS.size RObj.size
 simp only [List.length_append,List.length_map,List.length_take,List.length_drop]
 omega
theorem enc_size (s:RS) (id:Nat):(s.enc id).size=s.size id:=by rw [AObj.size_eq]; unfold enc RS.size RObj.size; simp
/-- The words in the midst of a collection: g: the walk; dn: how many refs of an object have been moved. -/
structure CRep (s:RS) (g:Gc) (dn:Nat→Nat) (m:MH):Prop where
 half:m.half=s.small.map fun id=>{ s.enc id with fwd:=if id ∈ g.copied then some (s.placeIn g.copied 1 id) else none }
 spare:m.spare=g.copied.map fun id=>s.encD g (dn id) id
 blocks:m.blocks=s.slots.map fun id=>if id=0 then none else some (s.encD g (dn id) id)
 reached:m.reached=s.slots.map fun id=>decide (id ∈ g.line)
 grey:m.grey=(g.line.drop g.b).map fun id=>(s.obj id).pl
 dn0:∀ id,id ∉ g.copied→id ∉ g.line→dn id=0
 dnr:∀ id r,r ∈ ((s.obj id).refs.take (dn id))→r=0 ∨ r ∈ g.copied ∨ r ∈ g.line
 sz:m.sz=s.half

theorem used_map {s:RS} {f:Nat→AObj} (hf:∀ id,(f id).size=s.size id) (l:List Nat):Go.Ev.used (l.map f)=1 + s.sizes l:=by
 rw [used_eq,List.map_map]
 unfold RS.sizes
 congr 2
 exact List.map_congr_left fun id _=>hf id
theorem pos_map {s:RS} {f:Nat→AObj} (hf:∀ id,(f id).size=s.size id) (l:List Nat) (i:Nat):pos (l.map f) i=1 + s.sizes (l.take i):=by
 unfold pos
 rw [← List.map_take,used_map hf]
theorem Inv.small_at {s:RS} (v:s.Inv) {id:Nat} (h:id ∈ s.small):∃ i,s.small[i]?=some id∧(s.obj id).pl=1 + s.sizes (s.small.take i):=by
 obtain ⟨i,hi⟩:=List.mem_iff_getElem?.1 h
 exact ⟨i,hi,by rw [(v.sm id h).2.2.2.2,placeIn_at _ _ _ _ v.nds hi]⟩
/-- Where the words of the old half have the object. -/
theorem CRep.idx {s:RS} (v:s.Inv) {g:Gc} {dn:Nat→Nat} {m:MH} (c:CRep s g dn m) {id:Nat} (h:id ∈ s.small):∃ i,s.small[i]?=some id∧Go.Ev.idx m.half (s.obj id).pl=some i ∧
  m.half[i]?=some { s.enc id with fwd:=if id ∈ g.copied then some (s.placeIn g.copied 1 id) else none }:=by
 obtain ⟨i,hi,hp⟩:=v.small_at h
 have hsz:∀ x,(({ s.enc x with fwd:=if x ∈ g.copied then some (s.placeIn g.copied 1 x) else none }:AObj)).size=s.size x:=fun x=>s.enc_size x
 refine ⟨i,hi,?_,?_⟩
 ·rw [idx_some,c.half]
  exact ⟨by rw [List.length_map]; exact (List.getElem?_eq_some_iff.1 hi).1,by rw [pos_map hsz,hp]⟩
 ·rw [c.half,List.getElem?_map,hi]; rfl
theorem CRep.used_spare {s:RS} {g:Gc} {dn:Nat→Nat} {m:MH} (c:CRep s g dn m):Go.Ev.used m.spare=1 + s.sizes g.copied:=by
 rw [c.spare]
 exact used_map (fun id=>s.encD_size g (dn id) id) _
theorem ref_zero (s:RS):s.ref 0=0:=by unfold RS.ref; rw [if_pos rfl]
theorem ref_big {s:RS} {id:Nat} (h0:id ≠ 0) (hb:(s.obj id).big=true):s.ref id=top + (s.obj id).pl:=by unfold RS.ref; rw [if_neg h0,if_pos hb]
theorem ref_small {s:RS} {id:Nat} (h0:id ≠ 0) (hb:(s.obj id).big=false):s.ref id=(s.obj id).pl:=by unfold RS.ref; rw [if_neg h0,if_neg (by rw [hb]; nofun)]
theorem newRef_keep {s:RS} (v:s.Inv) {g:Gc} {id r:Nat} (hr:r=0 ∨ r ∈ g.copied ∨ r ∈ g.line) (hl:∀ x ∈ g.line,x ≠ 0∧x ∈ s.slots):s.newRef (s.reach g id) r=s.newRef g r:=by
 unfold newRef
 split
 ·rfl
 ·rename_i h0
  split
  ·rfl
  ·rename_i hb
   rcases hr with h | h | h
   ·exact absurd h h0
   ·obtain ⟨t,ht⟩:=(s.reach_pre g id).1
    rw [← ht]
    exact placeIn_app_left g.copied t 1 r h
   ·obtain ⟨h1,h2⟩:=hl r h
    obtain ⟨k,hk⟩:=List.mem_iff_getElem?.1 h2
    exact absurd (v.sl k r hk h1).2.1 hb
theorem encD_keep {s:RS} (v:s.Inv) {g:Gc} {id d x:Nat} (hr:∀ r ∈ (s.obj x).refs.take d,r=0 ∨ r ∈ g.copied ∨ r ∈ g.line) (hl:∀ x ∈ g.line,x ≠ 0∧x ∈ s.slots):s.encD (s.reach g id) d x=s.encD g d x:=by
 unfold encD
 have:((s.obj x).refs.take d).map (s.newRef (s.reach g id))=((s.obj x).refs.take d).map (s.newRef g):=List.map_congr_left fun r h=>newRef_keep v (hr r h) hl
 rw [this]

theorem reach_in {s:RS} {g:Gc} {id:Nat} (h:id=0 ∨ id ∈ g.copied ∨ id ∈ g.line):s.reach g id=g:=by unfold RS.reach; rw [if_pos h]
theorem reach_big {s:RS} {g:Gc} {id:Nat} (h:¬ (id=0 ∨ id ∈ g.copied ∨ id ∈ g.line)) (hb:(s.obj id).big=true):s.reach g id={ g with line:=g.line ++ [id] }:=by unfold RS.reach; rw [if_neg h,if_pos hb]
theorem reach_small {s:RS} {g:Gc} {id:Nat} (h:¬ (id=0 ∨ id ∈ g.copied ∨ id ∈ g.line)) (hb:(s.obj id).big=false):s.reach g id={ g with copied:=g.copied ++ [id] }:=by unfold RS.reach; rw [if_neg h,if_neg (by rw [hb]; nofun)]
theorem CRep.reachBig {s:RS} (v:s.Inv) {g:Gc} {dn:Nat→Nat} {m:MH} (c:CRep s g dn m) (k:GcOk s g) {id:Nat} (h0:id ≠ 0) (hb:(s.obj id).big=true) (hs:id ∈ s.slots) :
  (mMoved m (s.ref id)).2=s.newRef (s.reach g id) id∧CRep s (s.reach g id) dn (mMoved m (s.ref id)).1:=by
 obtain ⟨i,hi⟩:=List.mem_iff_getElem?.1 hs
 have hpl:(s.obj id).pl=i:=(v.sl i id hi h0).2.2.2
 have hfl:m.reached.getD (s.obj id).pl false=decide (id ∈ g.line):=by
  rw [hpl,c.reached,List.getD_eq_getElem?_getD,List.getElem?_map,hi]; rfl
 have hnr:∀ g',s.newRef g' id=top + (s.obj id).pl:=fun g'=>by unfold newRef; rw [if_neg h0,if_pos hb]
 rw [ref_big h0 hb,mMoved_slot,hfl,hnr]
 by_cases hl:id ∈ g.line
 ·rw [if_pos (by simpa using hl),reach_in (.inr (.inr hl))]
  exact ⟨rfl,c⟩
 ·have hc:id ∉ g.copied:=fun h=>by have:=(v.sm id (k.cp id h)).2.2.1; rw [hb] at this; cases this
  rw [if_neg (by simpa using hl),reach_big (by simp [h0,hc,hl]) hb]
  refine ⟨rfl,⟨c.half,c.spare,c.blocks,?_,?_,fun x h1 h2=>c.dn0 x h1 fun h=>h2 (List.mem_append_left _ h),fun x r hr=>(c.dnr x r hr).imp_right fun h=>h.imp_right fun h=>List.mem_append_left _ h,c.sz⟩⟩
  ·show m.reached.set (s.obj id).pl true=_
   rw [hpl,c.reached]
   apply List.ext_getElem?
   intro j
   rw [List.getElem?_map]
   by_cases hj:j=i
   ·subst hj
    rw [List.getElem?_set_self (by rw [List.length_map]; exact (List.getElem?_eq_some_iff.1 hi).1),hi]
    simp
   ·rw [List.getElem?_set_ne (Ne.symm hj),List.getElem?_map]
    cases hx:s.slots[j]? with
    | none=>rfl
    | some x =>
     have hne:x ≠ id:=fun e=>by
      subst e
      have:=(v.sl j x hx h0).2.2.2
      omega
     simp [hne]
  ·show m.grey ++ [(s.obj id).pl]=_
   rw [c.grey,List.drop_append_of_le_length k.b,List.map_append]
   rfl

theorem CRep.reachSmall {s:RS} (v:s.Inv) {g:Gc} {dn:Nat→Nat} {m:MH} (c:CRep s g dn m) (k:GcOk s g) {id:Nat} (hs:id ∈ s.small) :
  (mMoved m (s.ref id)).2=s.newRef (s.reach g id) id∧CRep s (s.reach g id) dn (mMoved m (s.ref id)).1:=by
 obtain ⟨h1,h2,hb,h3,h4⟩:=v.sm id hs
 have h0:id ≠ 0:=by omega
 obtain ⟨i,hi,hix,ho⟩:=c.idx v hs
 have hpp:1 ≤ (s.obj id).pl∧(s.obj id).pl < top:=by
  obtain ⟨j,hj,hp⟩:=v.small_at hs
  have hle:s.sizes (s.small.take j) ≤ s.sizes s.small:=by
   unfold RS.sizes
   have:s.small=s.small.take j ++ s.small.drop j:=(List.take_append_drop j _).symm
   conv=>rhs; rw [this]
   rw [List.map_append,List.sum_append]
   omega
  have:=v.u1; have:=v.u2; have:=v.h2; have:=v.l2
  have ht:top=9223372036854775808:=rfl
  omega
 have hnr:∀ g',s.newRef g' id=s.placeIn g'.copied 1 id:=fun g'=>by unfold newRef; rw [if_neg h0,if_neg (by rw [hb]; nofun)]
 have hm:mMoved m (s.obj id).pl=if id ∈ g.copied then (m,s.placeIn g.copied 1 id) else
   ({ m with half:=m.half.modify i fun o=>{ o with fwd:=some (Go.Ev.used m.spare) },spare:=m.spare ++ [s.enc id] },Go.Ev.used m.spare):=by
  unfold mMoved
  rw [if_neg (by omega),if_neg (by omega),hix]
  simp only [Option.bind_some,ho,Option.getD_some]
  by_cases hc:id ∈ g.copied
  ·simp only [if_pos hc]
  ·simp only [if_neg hc]
   rfl
 rw [ref_small h0 hb,hm,hnr]
 by_cases hc:id ∈ g.copied
 ·rw [if_pos hc,reach_in (.inr (.inl hc))]
  exact ⟨rfl,c⟩
 ·have hl:id ∉ g.line:=fun h=>by
   obtain ⟨_,h5⟩:=k.ln id h
   obtain ⟨j,hj⟩:=List.mem_iff_getElem?.1 h5
   have:=(v.sl j id hj h0).2.1
   rw [hb] at this; cases this
  have hn:¬ (id=0 ∨ id ∈ g.copied ∨ id ∈ g.line):=by simp [h0,hc,hl]
  have hr:=reach_small hn hb
  have hd:dn id=0:=c.dn0 id hc hl
  have hk2:∀ x,s.encD (s.reach g id) (dn x) x=s.encD g (dn x) x:=fun x=>encD_keep v (fun r h=>c.dnr x r h) k.ln
  rw [if_neg hc]
  rw [hr] at hk2 ⊢
  refine ⟨?_,⟨?_,?_,?_,c.reached,c.grey,fun x q1 q2=>c.dn0 x (fun h=>q1 (List.mem_append_left _ h)) q2,fun x r hr=>(c.dnr x r hr).imp_right fun h=>h.imp_left fun h=>List.mem_append_left _ h,c.sz⟩⟩
  ·show Go.Ev.used m.spare=s.placeIn (g.copied ++ [id]) 1 id
   rw [placeIn_snoc _ _ _ hc,c.used_spare]
  ·show m.half.modify i _=_
   rw [c.used_spare,c.half]
   apply List.ext_getElem?
   intro j
   rw [List.getElem?_modify,List.getElem?_map,List.getElem?_map]
   cases hxj:s.small[j]? with
   | none=>rfl
   | some x =>
    show some _=some _
    congr 1
    by_cases hj:i=j
    ·subst hj
     rw [hi] at hxj
     obtain rfl:=Option.some.inj hxj
     simp only [if_true]
     rw [if_pos (List.mem_append_right _ (List.mem_singleton.2 rfl)),placeIn_snoc _ _ _ hc]
    ·have hne:x ≠ id:=fun e=>by
      subst e
      exact hj ((List.getElem?_inj (List.getElem?_eq_some_iff.1 hi).1 v.nds).1 (hi.trans hxj.symm))
     have q:(if x ∈ g.copied ++ [id] then some (s.placeIn (g.copied ++ [id]) 1 x) else none)=if x ∈ g.copied then some (s.placeIn g.copied 1 x) else none:=by
      by_cases hxc:x ∈ g.copied
      ·rw [if_pos hxc,if_pos (List.mem_append_left _ hxc),placeIn_app_left _ _ _ _ hxc]
      ·rw [if_neg hxc,if_neg (by simp [hxc,hne])]
     simp only [if_neg hj,q]
  ·show m.spare ++ [s.enc id]=(g.copied ++ [id]).map _
   rw [c.spare,List.map_append]
   congr 1
   ·exact List.map_congr_left fun x _=>(hk2 x).symm
   ·show [s.enc id]=[s.encD _ (dn id) id]
    rw [hk2,hd,encD_zero]
  ·show m.blocks=_
   rw [c.blocks]
   exact List.map_congr_left fun x _=>by
    by_cases hx:x=0
    ·rw [if_pos hx,if_pos hx]
    ·rw [if_neg hx,if_neg hx,hk2]

theorem sizes_le {s:RS}:∀ (l m:List Nat),l.Nodup→(∀ x ∈ l,x ∈ m)→s.sizes l ≤ s.sizes m
 | [],_,_,_=>Nat.zero_le _
 | x :: l,m,hn,hs=>by
  obtain ⟨a,b,rfl⟩:=List.append_of_mem (hs x (List.mem_cons_self ..))
  have h1:=sizes_le (s:=s) l (a ++ b) (List.nodup_cons.1 hn).2 fun y hy=>by
   have:=hs y (List.mem_cons_of_mem _ hy)
   have hne:y ≠ x:=fun e=>(List.nodup_cons.1 hn).1 (e ▸ hy)
   simp only [List.mem_append,List.mem_cons] at this ⊢
   rcases this with h | h | h
   ·exact .inl h
   ·exact absurd h hne
   ·exact .inr h
  unfold RS.sizes at h1 ⊢
  simp only [List.map_append,List.map_cons,List.sum_append,List.sum_cons] at h1 ⊢
  omega
theorem len_le:∀ (l m:List Nat),l.Nodup→(∀ x ∈ l,x ∈ m)→l.length ≤ m.length
 | [],_,_,_=>Nat.zero_le _
 | x :: l,m,hn,hs=>by
  obtain ⟨a,b,rfl⟩:=List.append_of_mem (hs x (List.mem_cons_self ..))
  have h1:=len_le l (a ++ b) (List.nodup_cons.1 hn).2 fun y hy=>by
   have:=hs y (List.mem_cons_of_mem _ hy)
   have hne:y ≠ x:=fun e=>(List.nodup_cons.1 hn).1 (e ▸ hy)
   simp only [List.mem_append,List.mem_cons] at this ⊢
   rcases this with h | h | h
   ·exact .inl h
   ·exact absurd h hne
   ·exact .inr h
  simp only [List.length_append,List.length_cons] at h1 ⊢
  omega
theorem CRep.reachAny {s:RS} (v:s.Inv) {g:Gc} {dn:Nat→Nat} {m:MH} (c:CRep s g dn m) (k:GcOk s g) {id:Nat} (hid:id=0 ∨ s.here id) :
  (mMoved m (s.ref id)).2=s.newRef (s.reach g id) id∧CRep s (s.reach g id) dn (mMoved m (s.ref id)).1:=by
 by_cases h0:id=0
 ·subst h0
  rw [ref_zero,mMoved_nil,reach_in (.inl rfl)]
  exact ⟨by unfold newRef; rw [if_pos rfl],c⟩
 ·rcases v.big_of (hid.resolve_left h0) with ⟨hb,hs,_⟩ | ⟨_,hs⟩
  ·exact c.reachBig v k h0 hb hs
  ·exact c.reachSmall v k hs
theorem CRep.moveOk {s:RS} (v:s.Inv) {g:Gc} {dn:Nat→Nat} {m:MH} (c:CRep s g dn m) (k:GcOk s g) {id:Nat} (hid:id=0 ∨ s.here id):MoveOk m (s.ref id):=by
 have ht:top=9223372036854775808:=rfl
 have hsl:=v.sll
 have hnl:g.line.Nodup:=(List.nodup_append.1 k.nd).2.1
 have hll:=len_le g.line s.slots hnl fun x hx=>(k.ln x hx).2
 refine ⟨?_,?_⟩
 ·rw [c.grey,List.length_map,List.length_drop]; omega
 by_cases h0:id=0
 ·subst h0; exact .inl (ref_zero s)
 ·rcases v.big_of (hid.resolve_left h0) with ⟨hb,hs,_⟩ | ⟨hb,hs⟩
  ·obtain ⟨i,hi⟩:=List.mem_iff_getElem?.1 hs
   have hpl:(s.obj id).pl=i:=(v.sl i id hi h0).2.2.2
   have hil:=(List.getElem?_eq_some_iff.1 hi).1
   exact .inr (.inl ⟨(s.obj id).pl,ref_big h0 hb,by rw [c.reached,List.length_map]; omega,by omega⟩)
  ·obtain ⟨i,hi,hix,ho⟩:=c.idx v hs
   obtain ⟨j,hj,hp⟩:=v.small_at hs
   have hle:s.sizes (s.small.take j) ≤ s.sizes s.small:=sizes_le _ _ (v.nds.sublist (List.take_sublist j _)) fun x hx=>List.mem_of_mem_take hx
   have:=v.u1; have:=v.u2; have:=v.h2; have:=v.l2
   refine .inr (.inr ⟨by rw [ref_small h0 hb]; omega,by rw [ref_small h0 hb]; omega,i,_,by rw [ref_small h0 hb]; exact hix,ho,fun hf=>?_⟩)
   have hc:id ∉ g.copied:=fun h=>by simp [h] at hf
   have hsz:=sizes_le (s:=s) (g.copied ++ [id]) s.small (by
    rw [List.nodup_append]
    refine ⟨(List.nodup_append.1 k.nd).1,by simp,?_⟩
    intro x hx y hy e
    rw [List.mem_singleton.1 hy] at e
    exact hc (e ▸ hx)) fun x hx=>by
     rcases List.mem_append.1 hx with hx | hx
     ·exact k.cp x hx
     ·rw [List.mem_singleton.1 hx]; exact hs
   have he:s.sizes (g.copied ++ [id])=s.sizes g.copied + s.size id:=by unfold RS.sizes; simp
   rw [c.used_spare,c.sz]
   have hos:(({ s.enc id with fwd:=if id ∈ g.copied then some (s.placeIn g.copied 1 id) else none }:AObj)).size=s.size id:=s.enc_size id
   rw [hos]
   omega
end RS
end Go.Ev
