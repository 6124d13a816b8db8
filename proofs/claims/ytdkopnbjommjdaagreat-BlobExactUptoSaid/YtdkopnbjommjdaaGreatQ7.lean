/- The heap's struct and all that it owns, said of lists of objects; what may change without touching it. No condition but that these are ones. -/
import Derived.Test.YtdkopnbjommjdaaGreatQ6
set_option linter.all false
set_option maxRecDepth 100000
namespace Go.Ev
open Go.Proofs
inductive Role where
 | out
 | hd
 | half
 | spare
 | bb
 | rb
 | gb
 | tb
 | slot (i:Nat)
structure MH where
 limit:Nat
 hz:Nat
 half:List AObj
 sz:Nat
 spare:List AObj
 blocks:List (Option AObj)
 reached:List Bool
 grey:List Nat
 large:Nat
 since:Nat
 kept:Nat
 roots:List (Bool × Nat)
 r5:Nat
 r6:Int
 r7:Int
 r8:Nat
structure Geo where
 Lh:ArLoc
 Ls:ArLoc
 locs:List (Option ArLoc)
 bs:Sl
 bb:Option Nat
 rs:Sl
 rb:Option Nat
 gs:Sl
 gb:Option Nat
 ts:Sl
 tb:Option Nat
def slV (s:Sl):Value:=.slice s.a s.n s.c
def ptrV:Option ArLoc→Value
 | none=>.pointer none
 | some L=>.pointer (some (ad L.pb))
def rootV (r:Bool × Nat):List Value:=[.bool r.1,uv r.2]
def nv (n:Nat):Value:=.int .i64 (n:Int)
def hcells (m:MH) (G:Geo):List Value :=
 [nv m.limit,.pointer (some (ad G.Lh.pb)),.pointer (some (ad G.Ls.pb)),slV G.bs,slV G.rs,slV G.gs,nv m.large,nv m.since,nv m.kept,slV G.ts,
  .int .i64 0,.int .i64 0,.int .i64 0,.int .i64 0,.int .i64 0,nv m.r5,.int .i64 m.r6,.int .i64 m.r7,nv m.r8]
def BlockOk (h:Hp) (role:Nat→Role) (i:Nat):Option AObj→Option ArLoc→Prop
 | some o,some L=>Ar h L (o.size + 1) [o]∧∀ b,L.fp b→role b=.slot i
 | none,none=>True
 | _,_=>False
structure HRep (h:Hp) (hb:Nat) (role:Nat→Role) (m:MH) (G:Geo):Prop where
 row:Row h hb (hcells m G)
 rh:role hb=.hd
 fresh:∀ b,h.size ≤ b→role b=.out
 half:Ar h G.Lh m.hz m.half
 halfr:∀ b,G.Lh.fp b→role b=.half
 spare:Ar h G.Ls m.sz m.spare
 sparer:∀ b,G.Ls.fp b→role b=.spare
 bs:SlAt 1 h G.bs.a G.bs.n G.bs.c G.bb (G.locs.map ptrV)
 bsr:∀ b,G.bb=some b→role b=.bb
 ll:G.locs.length=m.blocks.length
 bl:∀ i o L,m.blocks[i]?=some o→G.locs[i]?=some L→BlockOk h role i o L
 rs:SlAt 1 h G.rs.a G.rs.n G.rs.c G.rb (m.reached.map Value.bool)
 rsr:∀ b,G.rb=some b→role b=.rb
 gs:SlO 1 h G.gs.a G.gs.n G.gs.c G.gb (m.grey.map nv)
 gsr:∀ b,G.gb=some b→role b=.gb
 ts:SlAt 2 h G.ts.a G.ts.n G.ts.c G.tb (m.roots.flatMap rootV)
 tsr:∀ b,G.tb=some b→role b=.tb
section
variable {h h':Hp} {hb:Nat} {role:Nat→Role} {m:MH} {G:Geo}
theorem BlockOk.keep {i:Nat} {o:Option AObj} {L:Option ArLoc} (x:BlockOk h role i o L) {S:Nat→Prop} (k:Kept S h h') (hS:∀ b,role b=.slot i→¬ S b):BlockOk h' role i o L:=by
 cases o <;> cases L <;> first | exact x | exact ⟨x.1.keep k fun b hb=>hS b (x.2 b hb),x.2⟩
/-- What bears no role may change, and new blocks may come. -/
theorem HRep.keep (r:HRep h hb role m G) {S:Nat→Prop} (k:Kept S h h') (hS:∀ b,S b→role b=.out):HRep h' hb role m G:=by
 have no:∀ b x,role b=x→x ≠ .out→¬ S b:=fun b x e hx s=>hx (e ▸ hS b s)
 exact ⟨kept_row k r.row (no _ _ r.rh nofun),r.rh,fun b hb=>r.fresh b (Nat.le_trans k.1 hb),r.half.keep k fun b hb=>no _ _ (r.halfr b hb) nofun,r.halfr,r.spare.keep k fun b hb=>no _ _ (r.sparer b hb) nofun,r.sparer,
  slat_kept' r.bs k fun b hb=>no _ _ (r.bsr b hb) nofun,r.bsr,r.ll,fun i o L h1 h2=>(r.bl i o L h1 h2).keep k fun b hb=>no _ _ hb nofun,
  slat_kept' r.rs k fun b hb=>no _ _ (r.rsr b hb) nofun,r.rsr,r.gs.kept k fun b hb=>no _ _ (r.gsr b hb) nofun,r.gsr,slat_kept' r.ts k fun b hb=>no _ _ (r.tsr b hb) nofun,r.tsr⟩
theorem HRep.c (r:HRep h hb role m G) (i:Nat):cell h ((ad hb).add i)=(hcells m G)[i]?:=by rw [add_ad]; exact cell_row r.row i
theorem HRep.c0 (r:HRep h hb role m G):cell h (ad hb)=some (nv m.limit):=cell_ad r.row
theorem HRep.hlt (r:HRep h hb role m G):hb < h.size:=row_lt r.row
/-- One cell of the struct is written over. -/
theorem HRep.setHd (r:HRep h hb role m G) {i:Nat} {v:Value} {m':MH} {G':Geo} (hc:(hcells m G).set i v=hcells m' G') :
  Row (setc h ⟨hb,i,none⟩ v) hb (hcells m' G')∧Kept (fun b=>b=hb) h (setc h ⟨hb,i,none⟩ v):=by
 refine ⟨?_,kept_setc h i v rfl⟩
 have:=row_setc r.row i v
 rwa [hc] at this
theorem HRep.stOk (r:HRep h hb role m G) {i:Nat} (hi:i < 19):Go.Ev.stOk h ⟨hb,i,none⟩:=stOk_row r.row hi
/-- The struct's numbers change, and nothing else. -/
theorem HRep.renum (r:HRep h hb role m G) {i:Nat} {v:Value} {m':MH} (hc:(hcells m G).set i v=hcells m' G) (h1:m'.hz=m.hz) (h2:m'.half=m.half) (h3:m'.sz=m.sz) (h4:m'.spare=m.spare) (h5:m'.blocks=m.blocks)
  (h6:m'.reached=m.reached) (h7:m'.grey=m.grey) (h8:m'.roots=m.roots):HRep (setc h ⟨hb,i,none⟩ v) hb role m' G:=by
 obtain ⟨h9,k⟩:=r.setHd hc
 have no:∀ b x,role b=x→x ≠ .hd→¬ b=hb:=fun b x e hx s=>hx (e ▸ s ▸ r.rh)
 exact ⟨h9,r.rh,fun b hb=>r.fresh b (Nat.le_trans k.1 hb),h1 ▸ h2 ▸ r.half.keep k fun b hb=>no _ _ (r.halfr b hb) nofun,r.halfr,h3 ▸ h4 ▸ r.spare.keep k fun b hb=>no _ _ (r.sparer b hb) nofun,r.sparer,
  slat_kept' r.bs k fun b hb=>no _ _ (r.bsr b hb) nofun,r.bsr,h5 ▸ r.ll,fun i o L e1 e2=>(r.bl i o L (h5 ▸ e1) e2).keep k fun b hb=>no _ _ hb nofun,
  h6 ▸ slat_kept' r.rs k fun b hb=>no _ _ (r.rsr b hb) nofun,r.rsr,h7 ▸ r.gs.kept k fun b hb=>no _ _ (r.gsr b hb) nofun,r.gsr,h8 ▸ slat_kept' r.ts k fun b hb=>no _ _ (r.tsr b hb) nofun,r.tsr⟩
/-- Blocks that have come join a role. -/
def joinR (role:Nat→Role) (n:Nat) (P:Nat→Prop) [DecidablePred P] (x:Role) (b:Nat):Role:=if n ≤ b∧P b then x else role b
instance (L:ArLoc):DecidablePred L.fp:=fun b=>inferInstanceAs (Decidable (_ ∨ _ ∨ _))

/-- All parts but that of the role x, and but the struct's own cells. -/
structure HPart (h:Hp) (hb:Nat) (role:Nat→Role) (m:MH) (G:Geo) (x:Role):Prop where
 rh:role hb=.hd
 fresh:∀ b,h.size ≤ b→role b=.out
 half:x ≠ .half→Ar h G.Lh m.hz m.half∧∀ b,G.Lh.fp b→role b=.half
 spare:x ≠ .spare→Ar h G.Ls m.sz m.spare∧∀ b,G.Ls.fp b→role b=.spare
 bs:x ≠ .bb→SlAt 1 h G.bs.a G.bs.n G.bs.c G.bb (G.locs.map ptrV)∧∀ b,G.bb=some b→role b=.bb
 ll:G.locs.length=m.blocks.length
 bl:∀ i o L,x ≠ .slot i→m.blocks[i]?=some o→G.locs[i]?=some L→BlockOk h role i o L
 rs:x ≠ .rb→SlAt 1 h G.rs.a G.rs.n G.rs.c G.rb (m.reached.map Value.bool)∧∀ b,G.rb=some b→role b=.rb
 gs:x ≠ .gb→SlO 1 h G.gs.a G.gs.n G.gs.c G.gb (m.grey.map nv)∧∀ b,G.gb=some b→role b=.gb
 ts:x ≠ .tb→SlAt 2 h G.ts.a G.ts.n G.ts.c G.tb (m.roots.flatMap rootV)∧∀ b,G.tb=some b→role b=.tb
theorem HRep.part (r:HRep h hb role m G) {x:Role} {S:Nat→Prop} (k:Kept S h h') (hS:∀ b,S b→role b=x ∨ role b=.hd ∨ role b=.out) {role':Nat→Role} (hr:∀ b,b < h.size→role' b=role b) (hf:∀ b,h'.size ≤ b→role' b=.out) :
  HPart h' hb role' m G x:=by
 have no:∀ b y,role b=y→y ≠ x→y ≠ .hd→y ≠ .out→¬ S b:=fun b y e h1 h2 h3 s=>by
  rcases hS b s with h | h | h
  ·exact h1 (e ▸ h)
  ·exact h2 (e ▸ h)
  ·exact h3 (e ▸ h)
 have lo:∀ b y,role b=y→y ≠ .out→b < h.size:=fun b y e hy=>by
  rcases Nat.lt_or_ge b h.size with hl | hl
  ·exact hl
  ·exact absurd (e ▸ r.fresh b hl) hy
 have tr:∀ b y,role b=y→y ≠ .out→role' b=y:=fun b y e hy=>(hr b (lo b y e hy)).trans e
 refine ⟨tr _ _ r.rh nofun,hf,fun hx=>⟨r.half.keep k fun b hb=>no _ _ (r.halfr b hb) (Ne.symm hx) nofun nofun,fun b hb=>tr _ _ (r.halfr b hb) nofun⟩,
  fun hx=>⟨r.spare.keep k fun b hb=>no _ _ (r.sparer b hb) (Ne.symm hx) nofun nofun,fun b hb=>tr _ _ (r.sparer b hb) nofun⟩,
  fun hx=>⟨slat_kept' r.bs k fun b hb=>no _ _ (r.bsr b hb) (Ne.symm hx) nofun nofun,fun b hb=>tr _ _ (r.bsr b hb) nofun⟩,r.ll,fun i o L hx h1 h2=>?_,
  fun hx=>⟨slat_kept' r.rs k fun b hb=>no _ _ (r.rsr b hb) (Ne.symm hx) nofun nofun,fun b hb=>tr _ _ (r.rsr b hb) nofun⟩,
  fun hx=>⟨r.gs.kept k fun b hb=>no _ _ (r.gsr b hb) (Ne.symm hx) nofun nofun,fun b hb=>tr _ _ (r.gsr b hb) nofun⟩,
  fun hx=>⟨slat_kept' r.ts k fun b hb=>no _ _ (r.tsr b hb) (Ne.symm hx) nofun nofun,fun b hb=>tr _ _ (r.tsr b hb) nofun⟩⟩
 have x0:=(r.bl i o L h1 h2).keep k fun b hb=>no _ _ hb (Ne.symm hx) nofun nofun
 cases o <;> cases L <;> first | exact x0 | exact ⟨x0.1,fun b hb=>tr _ _ (x0.2 b hb) nofun⟩
theorem joinR_old {role:Nat→Role} {n:Nat} {P:Nat→Prop} [DecidablePred P] {x:Role} {b:Nat} (h:b < n):joinR role n P x b=role b:=by unfold joinR; rw [if_neg (by omega)]
theorem joinR_new {role:Nat→Role} {n:Nat} {P:Nat→Prop} [DecidablePred P] {x:Role} {b:Nat} (h:n ≤ b) (hp:P b):joinR role n P x b=x:=by unfold joinR; rw [if_pos ⟨h,hp⟩]
theorem joinR_out {role:Nat→Role} {n:Nat} {P:Nat→Prop} [DecidablePred P] {x:Role} {b:Nat} (h:role b=.out) (hp:¬ P b):joinR role n P x b=.out:=by unfold joinR; rw [if_neg (fun c=>hp c.2)]; exact h
/-- The half's block is another list of objects. -/
theorem HRep.setHalf (r:HRep h hb role m G) {L':ArLoc} {os':List AObj} (ha:Ar h' L' m.hz os') (g:Grown h G.Lh L' h') :
  HRep h' hb (joinR role h.size L'.fp .half) { m with half:=os' } { G with Lh:=L' }:=by
 have hS:∀ b,G.Lh.fp b→role b=Role.half ∨ role b=.hd ∨ role b=.out:=fun b hb=>.inl (r.halfr b hb)
 have p:=r.part (x:=.half) g.kept hS (role':=joinR role h.size L'.fp .half) (fun b hb=>joinR_old hb) fun b hb=>joinR_out (r.fresh b (Nat.le_trans g.kept.1 hb)) fun hf=>by have:=ha.lt b hf; omega
 have hrow:Row h' hb (hcells { m with half:=os' } { G with Lh:=L' }):=by
  have:=kept_row g.kept r.row fun hf=>by have:=r.halfr _ hf; rw [r.rh] at this; cases this
  unfold hcells at this ⊢
  simp only [g.pb]
  exact this
 exact ⟨hrow,p.rh,p.fresh,ha,fun b hb=>by
   rcases Nat.lt_or_ge b h.size with hl | hl
   ·rw [joinR_old hl]
    rcases g.fp b hb with h | h
    ·exact r.halfr b h
    ·omega
   ·exact joinR_new hl hb,
  (p.spare nofun).1,(p.spare nofun).2,(p.bs nofun).1,(p.bs nofun).2,p.ll,fun i o L h1 h2=>p.bl i o L nofun h1 h2,(p.rs nofun).1,(p.rs nofun).2,(p.gs nofun).1,(p.gs nofun).2,(p.ts nofun).1,(p.ts nofun).2⟩
theorem HRep.setSpare (r:HRep h hb role m G) {L':ArLoc} {os':List AObj} (ha:Ar h' L' m.sz os') (g:Grown h G.Ls L' h') :
  HRep h' hb (joinR role h.size L'.fp .spare) { m with spare:=os' } { G with Ls:=L' }:=by
 have hS:∀ b,G.Ls.fp b→role b=Role.spare ∨ role b=.hd ∨ role b=.out:=fun b hb=>.inl (r.sparer b hb)
 have p:=r.part (x:=.spare) g.kept hS (role':=joinR role h.size L'.fp .spare) (fun b hb=>joinR_old hb) fun b hb=>joinR_out (r.fresh b (Nat.le_trans g.kept.1 hb)) fun hf=>by have:=ha.lt b hf; omega
 have hrow:Row h' hb (hcells { m with spare:=os' } { G with Ls:=L' }):=by
  have:=kept_row g.kept r.row fun hf=>by have:=r.sparer _ hf; rw [r.rh] at this; cases this
  unfold hcells at this ⊢
  simp only [g.pb]
  exact this
 exact ⟨hrow,p.rh,p.fresh,(p.half nofun).1,(p.half nofun).2,ha,fun b hb=>by
   rcases Nat.lt_or_ge b h.size with hl | hl
   ·rw [joinR_old hl]
    rcases g.fp b hb with h | h
    ·exact r.sparer b h
    ·omega
   ·exact joinR_new hl hb,
  (p.bs nofun).1,(p.bs nofun).2,p.ll,fun i o L h1 h2=>p.bl i o L nofun h1 h2,(p.rs nofun).1,(p.rs nofun).2,(p.gs nofun).1,(p.gs nofun).2,(p.ts nofun).1,(p.ts nofun).2⟩
/-- A large object's block is the same block with another object of that size. -/
theorem HRep.setSlot (r:HRep h hb role m G) {i:Nat} {o o':AObj} {L:ArLoc} (ho:m.blocks[i]?=some (some o)) (hL:G.locs[i]?=some (some L)) (hsz:o'.size=o.size) (ha:Ar h' L (o.size + 1) [o']) (k:Kept L.fp h h') :
  HRep h' hb role { m with blocks:=m.blocks.set i (some o') } G:=by
 have hx:=r.bl i _ _ ho hL
 have p:=r.part (x:=.slot i) k (fun b hb=>.inl (hx.2 b hb)) (role':=role) (fun _ _=>rfl) fun b hb=>r.fresh b (Nat.le_trans k.1 hb)
 have hrow:Row h' hb (hcells { m with blocks:=m.blocks.set i (some o') } G):=kept_row k r.row fun hf=>by have:=hx.2 _ hf; rw [r.rh] at this; cases this
 refine ⟨hrow,p.rh,p.fresh,(p.half nofun).1,(p.half nofun).2,(p.spare nofun).1,(p.spare nofun).2,(p.bs nofun).1,(p.bs nofun).2,by rw [List.length_set]; exact p.ll,fun j x Lx h1 h2=>?_,(p.rs nofun).1,(p.rs nofun).2,(p.gs nofun).1,(p.gs nofun).2,(p.ts nofun).1,(p.ts nofun).2⟩
 have hil:=(List.getElem?_eq_some_iff.1 ho).1
 by_cases hj:j=i
 ·subst hj
  rw [hL] at h2
  obtain rfl:=Option.some.inj h2
  have h1:(m.blocks.set j (some o'))[j]?=some x:=h1
  rw [List.getElem?_set_self hil] at h1
  obtain rfl:=Option.some.inj h1
  exact ⟨by rw [hsz]; exact ha,hx.2⟩
 ·have h1:(m.blocks.set i (some o'))[j]?=some x:=h1
  rw [List.getElem?_set_ne (Ne.symm hj)] at h1
  exact p.bl j x Lx (fun e=>hj (by cases e; rfl)) h1 h2
end
end Go.Ev
