/- look under the collection's relation: the refs of one object, one after the other / The heap's struct: further cells that are written; the words of the document's heap; facts of a whole walk / The whole walk: it ends, it is closed, a collection keeps the heap's own order / A collection of the document's heap: what its objects are behind it, and that the heap's own order is kept / (*Heap). No condition but that these are ones. -/
import Derived.Test.YtngcoodbepbhbaaE9
set_option linter.all false
set_option maxRecDepth 100000
namespace Go.Ev
namespace RS
def upd (dn:Nat→Nat) (id n:Nat) (x:Nat):Nat:=if x=id then n else dn x
theorem upd_self (dn:Nat→Nat) (id n:Nat):upd dn id n id=n:=by unfold upd; rw [if_pos rfl]
theorem upd_ne {dn:Nat→Nat} {id n x:Nat} (h:x ≠ id):upd dn id n x=dn x:=by unfold upd; rw [if_neg h]
theorem encD_refs_len (s:RS) (g:Gc) (d id:Nat):(s.encD g d id).refs.length=(s.obj id).refs.length:=by
 unfold encD
 simp only [List.length_append,List.length_map,List.length_take,List.length_drop]
 omega
theorem encD_get {s:RS} {g:Gc} {n id r:Nat} (h:(s.obj id).refs[n]?=some r):(s.encD g n id).flds.getD n 0=s.ref r:=by
 have hn:=(List.getElem?_eq_some_iff.1 h).1
 rw [List.getD_eq_getElem?_getD]
 unfold AObj.flds
 rw [List.getElem?_append_left (by rw [encD_refs_len]; exact hn)]
 unfold encD
 simp only
 rw [List.getElem?_append_right (by simp; omega)]
 simp only [List.length_map,List.length_take,List.getElem?_map,List.getElem?_drop]
 rw [Nat.min_eq_left (by omega),Nat.sub_self,Nat.add_zero,h]
 rfl
theorem encD_set {s:RS} {g:Gc} {n id r:Nat} (h:(s.obj id).refs[n]?=some r):(s.encD g n id).setF n (s.newRef g r)=s.encD g (n + 1) id:=by
 have hn:=(List.getElem?_eq_some_iff.1 h).1
 unfold AObj.setF
 rw [if_pos (by rw [encD_refs_len]; exact hn)]
 unfold encD
 simp only [AObj.mk.injEq,true_and,and_true]
 apply List.ext_getElem?
 intro j
 by_cases hj:j=n
 ·subst hj
  rw [List.getElem?_set_self (by simp; omega),List.getElem?_append_left (by simp; omega),List.getElem?_map,List.getElem?_take,if_pos (by omega),h]
  rfl
 ·rw [List.getElem?_set_ne (Ne.symm hj)]
  rcases Nat.lt_or_ge j n with hlt | hge
  ·rw [List.getElem?_append_left (by simp; omega),List.getElem?_append_left (by simp; omega),List.getElem?_map,List.getElem?_map,List.getElem?_take,List.getElem?_take,if_pos hlt,if_pos (by omega)]
  ·rw [List.getElem?_append_right (by simp; omega),List.getElem?_append_right (by simp; omega)]
   simp only [List.length_map,List.length_take,List.getElem?_map,List.getElem?_drop]
   congr 2
   omega

theorem big_ne_small {s:RS} (v:s.Inv) {id x i:Nat} (hs:id ∈ s.small) (hx:s.slots[i]?=some x) (h0:x ≠ 0):x ≠ id:=fun e=>by
 have h1:=(v.sl i x hx h0).2.1
 rw [e,(v.sm id hs).2.2.1] at h1
 cases h1
theorem dnr_upd {s:RS} {g:Gc} {dn:Nat→Nat} {m:MH} (c:CRep s g dn m) {id n r:Nat} (hd:dn id=n) (hr:(s.obj id).refs[n]?=some r) (hin:r=0 ∨ r ∈ g.copied ∨ r ∈ g.line) :
  ∀ x y,y ∈ (s.obj x).refs.take (upd dn id (n + 1) x)→y=0 ∨ y ∈ g.copied ∨ y ∈ g.line:=by
 intro x y hy
 by_cases hx:x=id
 ·subst hx
  rw [upd_self,List.take_add_one,hr] at hy
  rcases List.mem_append.1 hy with hy | hy
  ·exact c.dnr x y (by rw [hd]; exact hy)
  ·have:y=r:=by simpa using hy
   rw [this]; exact hin
 ·rw [upd_ne hx] at hy
  exact c.dnr x y hy
theorem CRep.setSp {s:RS} (v:s.Inv) {g:Gc} {dn:Nat→Nat} {m:MH} (c:CRep s g dn m) (k:GcOk s g) {a id n r:Nat} (ha:g.copied[a]?=some id) (hd:dn id=n) (hr:(s.obj id).refs[n]?=some r)
  (hin:r=0 ∨ r ∈ g.copied ∨ r ∈ g.line):CRep s g (upd dn id (n + 1)) (m.setF (.sp a) n (s.newRef g r)):=by
 have hic:=List.mem_of_getElem? ha
 have hnc:g.copied.Nodup:=(List.nodup_append.1 k.nd).1
 refine ⟨c.half,?_,?_,c.reached,c.grey,fun x h1 h2=>?_,dnr_upd c hd hr hin,c.sz⟩
 ·show m.spare.modify a _=_
  rw [c.spare]
  apply List.ext_getElem?
  intro j
  rw [List.getElem?_modify,List.getElem?_map,List.getElem?_map]
  cases hj:g.copied[j]? with
  | none=>rfl
  | some x =>
   show some _=some _
   congr 1
   by_cases haj:a=j
   ·subst haj
    rw [ha] at hj
    obtain rfl:=Option.some.inj hj
    simp only [if_true]
    rw [hd,upd_self,encD_set hr]
   ·have hne:x ≠ id:=fun e=>by
     subst e
     exact haj ((List.getElem?_inj (List.getElem?_eq_some_iff.1 ha).1 hnc).1 (ha.trans hj.symm))
    simp only [if_neg haj]
    rw [upd_ne hne]
 ·show m.blocks=_
  rw [c.blocks]
  refine List.map_congr_left fun x hx=>?_
  by_cases h0:x=0
  ·rw [if_pos h0,if_pos h0]
  ·obtain ⟨i,hi⟩:=List.mem_iff_getElem?.1 hx
   rw [if_neg h0,if_neg h0,upd_ne (big_ne_small v (k.cp id hic) hi h0)]
 ·rw [upd_ne (fun e:x=id=>h1 (by rw [e]; exact hic))]
  exact c.dn0 x h1 h2
theorem CRep.setSl {s:RS} (v:s.Inv) {g:Gc} {dn:Nat→Nat} {m:MH} (c:CRep s g dn m) (k:GcOk s g) {id n r:Nat} (hl:id ∈ g.line) (hd:dn id=n) (hr:(s.obj id).refs[n]?=some r)
  (hin:r=0 ∨ r ∈ g.copied ∨ r ∈ g.line):CRep s g (upd dn id (n + 1)) (m.setF (.sl (s.obj id).pl) n (s.newRef g r)):=by
 obtain ⟨h0,hs⟩:=k.ln id hl
 obtain ⟨i,hi⟩:=List.mem_iff_getElem?.1 hs
 have hpl:(s.obj id).pl=i:=(v.sl i id hi h0).2.2.2
 refine ⟨c.half,?_,?_,c.reached,c.grey,fun x h1 h2=>?_,dnr_upd c hd hr hin,c.sz⟩
 ·show m.spare=_
  rw [c.spare]
  exact List.map_congr_left fun x hx=>by rw [upd_ne (big_ne_small v (k.cp x hx) hi h0).symm]
 ·show m.blocks.modify _ _=_
  rw [hpl,c.blocks]
  apply List.ext_getElem?
  intro j
  rw [List.getElem?_modify,List.getElem?_map,List.getElem?_map]
  cases hj:s.slots[j]? with
  | none=>rfl
  | some x =>
   show some _=some _
   congr 1
   by_cases hij:i=j
   ·subst hij
    rw [hi] at hj
    obtain rfl:=Option.some.inj hj
    simp only [if_true,if_neg h0,Option.map_some]
    rw [hd,upd_self,encD_set hr]
   ·by_cases hx0:x=0
    ·simp [hij,hx0]
    ·have hne:x ≠ id:=fun e=>by
      subst e
      have:=(v.sl j x hj hx0).2.2.2
      omega
     simp only [if_neg hij,if_neg hx0]
     rw [upd_ne hne]
 ·rw [upd_ne (fun e:x=id=>h2 (by rw [e]; exact hl))]
  exact c.dn0 x h1 h2

theorem reachL_snoc (s:RS) (g:Gc) (l:List Nat) (r:Nat):s.reachL g (l ++ [r])=s.reach (s.reachL g l) r:=by unfold reachL; rw [List.foldl_append]; rfl
theorem reach_mem {s:RS} {g:Gc} {r:Nat}:r=0 ∨ r ∈ (s.reach g r).copied ∨ r ∈ (s.reach g r).line:=by
 by_cases h:r=0 ∨ r ∈ g.copied ∨ r ∈ g.line
 ·rw [reach_in h]; exact h
 ·cases hb:(s.obj r).big with
  | true=>rw [reach_big h hb]; exact .inr (.inr (List.mem_append_right _ (List.mem_singleton.2 rfl)))
  | false=>rw [reach_small h hb]; exact .inr (.inl (List.mem_append_right _ (List.mem_singleton.2 rfl)))
/-- The target of an object that has been reached. -/
def IsTgt (s:RS) (g:Gc) (id:Nat):Tgt→Prop
 | .sp a=>g.copied[a]?=some id
 | .sl i=>id ∈ g.line∧i=(s.obj id).pl
theorem IsTgt.grow {s:RS} {g:Gc} {id:Nat} {t:Tgt} (h:IsTgt s g id t) (r:Nat):IsTgt s (s.reach g r) id t:=by
 cases t with
 | sp a =>
  obtain ⟨l,hl⟩:=(s.reach_pre g r).1
  show (s.reach g r).copied[a]?=some id
  rw [← hl,List.getElem?_append_left (List.getElem?_eq_some_iff.1 (show g.copied[a]?=some id from h)).1]
  exact h
 | sl i=>exact ⟨(s.reach_pre g r).2.subset h.1,h.2⟩
theorem IsTgt.at {s:RS} (v:s.Inv) {g:Gc} {dn:Nat→Nat} {m:MH} (c:CRep s g dn m) (k:GcOk s g) {id:Nat} {t:Tgt} (h:IsTgt s g id t):m.at t=some (s.encD g (dn id) id):=by
 cases t with
 | sp a =>
  show m.spare[a]?=_
  rw [c.spare,List.getElem?_map,show g.copied[a]?=some id from h]
  rfl
 | sl i =>
  obtain ⟨h1,rfl⟩:=h
  obtain ⟨h0,hs⟩:=k.ln id h1
  obtain ⟨j,hj⟩:=List.mem_iff_getElem?.1 hs
  have hpl:(s.obj id).pl=j:=(v.sl j id hj h0).2.2.2
  show (m.blocks[(s.obj id).pl]?).bind _=_
  rw [hpl,c.blocks,List.getElem?_map,hj]
  simp [h0]

theorem upd_upd (dn:Nat→Nat) (id a b:Nat):upd (upd dn id a) id b=upd dn id b:=by
 funext x
 by_cases hx:x=id
 ·subst hx; rw [upd_self,upd_self]
 ·rw [upd_ne hx,upd_ne hx,upd_ne hx]
theorem mLook_rep {s:RS} (v:s.Inv) {g:Gc} {dn:Nat→Nat} {m:MH} (c:CRep s g dn m) (k:GcOk s g) {id:Nat} {t:Tgt} (ht:IsTgt s g id t) (hh:s.here id) (hd:dn id=0) :
  ∀ n,n ≤ (s.obj id).refs.length→CRep s (s.reachL g ((s.obj id).refs.take n)) (upd dn id n) (mLook m t n)∧GcOk s (s.reachL g ((s.obj id).refs.take n))∧IsTgt s (s.reachL g ((s.obj id).refs.take n)) id t
 | 0,_=>by
  have e:upd dn id 0=dn:=by
   funext x
   by_cases hx:x=id
   ·subst hx; rw [upd_self,hd]
   ·exact upd_ne hx
  rw [e]
  exact ⟨c,k,ht⟩
 | n + 1,hn=>by
  obtain ⟨c1,k1,t1⟩:=mLook_rep v c k ht hh hd n (by omega)
  obtain ⟨r,hr⟩:∃ r,(s.obj id).refs[n]?=some r:=⟨_,List.getElem?_eq_getElem (by omega)⟩
  have hrh:r=0 ∨ s.here r:=v.rf id hh r (List.mem_of_getElem? hr)
  have hat:=t1.at v c1 k1
  rw [upd_self] at hat
  have hg:=encD_get (g:=s.reachL g ((s.obj id).refs.take n)) hr
  obtain ⟨q1,q2⟩:=c1.reachAny v k1 hrh
  have k2:=k1.reach v hrh
  have t2:=t1.grow r
  have hs:(s.obj id).refs.take (n + 1)=(s.obj id).refs.take n ++ [r]:=by rw [List.take_add_one,hr]; rfl
  rw [mLook_succ m t n hat,hg,q1,hs,reachL_snoc]
  have hu:upd dn id n id=n:=upd_self dn id n
  refine ⟨?_,k2,t2⟩
  cases t with
  | sp a =>
   have:=q2.setSp v k2 (show (s.reach (s.reachL g ((s.obj id).refs.take n)) r).copied[a]?=some id from t2) hu hr reach_mem
   rw [upd_upd] at this
   exact this
  | sl i =>
   obtain ⟨h1,rfl⟩:=t2
   have:=q2.setSl v k2 h1 hu hr reach_mem
   rw [upd_upd] at this
   exact this

theorem pl_lt {s:RS} (v:s.Inv) {id:Nat} (h:s.here id):(s.obj id).pl < 1048577:=by
 rcases v.big_of h with ⟨hb,hs,h0⟩ | ⟨hb,hs⟩
 ·obtain ⟨i,hi⟩:=List.mem_iff_getElem?.1 hs
  have hpl:(s.obj id).pl=i:=(v.sl i id hi h0).2.2.2
  have:=(List.getElem?_eq_some_iff.1 hi).1
  have:=v.sll
  omega
 ·obtain ⟨j,hj,hp⟩:=v.small_at hs
  have hle:s.sizes (s.small.take j) ≤ s.sizes s.small:=sizes_le _ _ (v.nds.sublist (List.take_sublist j _)) fun x hx=>List.mem_of_mem_take hx
  have:=v.u1; have:=v.u2; have:=v.h2; have:=v.l2
  omega
theorem ref_lt {s:RS} (v:s.Inv) {id:Nat} (h:id=0 ∨ s.here id):s.ref id < 18446744073709551616:=by
 have ht:top=9223372036854775808:=rfl
 by_cases h0:id=0
 ·subst h0; rw [ref_zero]; omega
 ·have hh:=h.resolve_left h0
  have:=pl_lt v hh
  cases hb:(s.obj id).big with
  | true=>rw [ref_big h0 hb]; omega
  | false=>rw [ref_small h0 hb]; omega

theorem placeIn_le {s:RS}:∀ (l:List Nat) (p id:Nat),s.placeIn l p id ≤ p + s.sizes l
 | [],p,id=>Nat.zero_le _
 | x :: l,p,id=>by
  show (if x=id then p else s.placeIn l (p + s.size x) id) ≤ p + (s.size x + s.sizes l)
  split
  ·omega
  ·have:=placeIn_le (s:=s) l (p + s.size x) id
   omega
theorem newRef_lt {s:RS} (v:s.Inv) {g:Gc} (k:GcOk s g) {id:Nat} (h:id=0 ∨ s.here id):s.newRef g id < 18446744073709551616:=by
 have ht:top=9223372036854775808:=rfl
 unfold newRef
 split
 ·omega
 ·rename_i h0
  have:=pl_lt v (h.resolve_left h0)
  split
  ·omega
  ·have h1:=placeIn_le (s:=s) g.copied 1 id
   have h2:=sizes_le (s:=s) g.copied s.small (List.nodup_append.1 k.nd).1 k.cp
   have:=v.u1; have:=v.u2; have:=v.h2; have:=v.l2
   omega

theorem mLook_ok {s:RS} (v:s.Inv) {g:Gc} {dn:Nat→Nat} {m:MH} (c:CRep s g dn m) (k:GcOk s g) {id:Nat} {t:Tgt} (ht:IsTgt s g id t) (hh:s.here id) (hd:dn id=0):LookOk m t (s.enc id):=by
 have h0:=ht.at v c k
 rw [hd,encD_zero] at h0
 refine ⟨h0,rfl,fun n hn=>?_⟩
 have hn:n < (s.obj id).refs.length:=by simpa [enc] using hn
 obtain ⟨c1,k1,t1⟩:=mLook_rep v c k ht hh hd n (by omega)
 obtain ⟨r,hr⟩:∃ r,(s.obj id).refs[n]?=some r:=⟨_,List.getElem?_eq_getElem hn⟩
 have hrh:r=0 ∨ s.here r:=v.rf id hh r (List.mem_of_getElem? hr)
 have hat:=t1.at v c1 k1
 rw [upd_self] at hat
 refine ⟨_,hat,rfl,by rw [encD_refs_len]; simp [enc],rfl,?_,?_,?_⟩
 ·rw [encD_get hr]; exact ref_lt v hrh
 ·rw [encD_get hr]; exact c1.moveOk v k1 hrh
 ·rw [encD_get hr,(c1.reachAny v k1 hrh).1]
  exact newRef_lt v (k1.reach v hrh) hrh
end RS
end Go.Ev
set_option linter.all false
set_option maxRecDepth 100000
namespace Go.Ev
open Go.Proofs
/-- What a client knows of the blocks that are not the heap's. -/
def ExtO (h:Hp) (role:Nat→Role) (h':Hp) (role':Nat→Role):Prop:=h.size ≤ h'.size∧∀ b,b < h.size→role b=.out→role' b=.out∧h'[b]?=h[b]?
theorem Ext.o {h h':Hp} {role role':Nat→Role} (x:Ext h role h' role'):ExtO h role h' role':=⟨x.1,fun b hb ho=>⟨(x.2.1 b hb).trans ho,x.2.2 b hb ho⟩⟩
theorem ExtO.refl (h:Hp) (role:Nat→Role):ExtO h role h role:=(Ext.refl h role).o
theorem ExtO.trans {a b c:Hp} {ra rb rc:Nat→Role} (x:ExtO a ra b rb) (y:ExtO b rb c rc):ExtO a ra c rc :=
 ⟨Nat.le_trans x.1 y.1,fun i hi ho=>by
  obtain ⟨h1,h2⟩:=x.2 i hi ho
  obtain ⟨h3,h4⟩:=y.2 i (Nat.lt_of_lt_of_le hi x.1) h1
  exact ⟨h3,h4.trans h2⟩⟩
theorem ExtO.of {h h':Hp} {role role':Nat→Role} {S:Nat→Prop} (k:Kept S h h') (hS:∀ b,S b→role b ≠ .out) (hr:∀ b,b < h.size→role b=.out→role' b=.out):ExtO h role h' role' :=
 ⟨k.1,fun b hb ho=>⟨hr b hb ho,k.2 b hb fun s=>hS b s ho⟩⟩
/-- All parts but the halves and the struct's own cells. -/
structure HRest (h:Hp) (hb:Nat) (role:Nat→Role) (m:MH) (G:Geo):Prop where
 rh:role hb=.hd
 fresh:∀ b,h.size ≤ b→role b=.out
 bs:SlAt 1 h G.bs.a G.bs.n G.bs.c G.bb (G.locs.map ptrV)
 bsr:∀ b,G.bb=some b→role b=.bb
 ll:G.locs.length=m.blocks.length
 bl:∀ i o L,m.blocks[i]?=some o→G.locs[i]?=some L→BlockOk h role i o L
 rs:SlAt 1 h G.rs.a G.rs.n G.rs.c G.rb (m.reached.map Value.bool)
 rsr:∀ b,G.rb=some b→role b=.rb
 gs:SlO 1 h G.gs.a G.gs.n G.gs.c G.gb (m.grey.map nv)
 gsr:∀ b,G.gb=some b→role b=.gb
 ts:SlAt 2 h G.ts.a G.ts.n G.ts.c G.tb (m.roots.flatMap rootV)
 tsr:∀ b,G.tb=some b→role b=.tb
section
variable {h h':Hp} {hb:Nat} {role role':Nat→Role} {m m':MH} {G G':Geo}
theorem HRep.rest (r:HRep h hb role m G):HRest h hb role m G:=⟨r.rh,r.fresh,r.bs,r.bsr,r.ll,r.bl,r.rs,r.rsr,r.gs,r.gsr,r.ts,r.tsr⟩
theorem HRest.move (r:HRest h hb role m G) {S:Nat→Prop} (k:Kept S h h') (hS:∀ b,S b→role b=.half ∨ role b=.spare ∨ role b=.hd ∨ role b=.out)
  (hr:∀ b x,b < h.size→role b=x→x ≠ .half→x ≠ .spare→x ≠ .out→role' b=x) (hf:∀ b,h'.size ≤ b→role' b=.out):HRest h' hb role' m G:=by
 have no:∀ b y,role b=y→y ≠ .half→y ≠ .spare→y ≠ .hd→y ≠ .out→¬ S b:=fun b y e h1 h2 h3 h4 s=>by
  rcases hS b s with h | h | h | h
  ·exact h1 (e ▸ h)
  ·exact h2 (e ▸ h)
  ·exact h3 (e ▸ h)
  ·exact h4 (e ▸ h)
 have tr:∀ b y,role b=y→y ≠ .half→y ≠ .spare→y ≠ .out→role' b=y:=fun b y e h1 h2 h3=>by
  rcases Nat.lt_or_ge b h.size with hl | hl
  ·exact hr b y hl e h1 h2 h3
  ·exact absurd (e ▸ r.fresh b hl) h3
 refine ⟨tr _ _ r.rh nofun nofun nofun,hf,slat_kept' r.bs k fun b hb=>no _ _ (r.bsr b hb) nofun nofun nofun nofun,fun b hb=>tr _ _ (r.bsr b hb) nofun nofun nofun,r.ll,fun i o L h1 h2=>?_,
  slat_kept' r.rs k fun b hb=>no _ _ (r.rsr b hb) nofun nofun nofun nofun,fun b hb=>tr _ _ (r.rsr b hb) nofun nofun nofun,
  r.gs.kept k fun b hb=>no _ _ (r.gsr b hb) nofun nofun nofun nofun,fun b hb=>tr _ _ (r.gsr b hb) nofun nofun nofun,
  slat_kept' r.ts k fun b hb=>no _ _ (r.tsr b hb) nofun nofun nofun nofun,fun b hb=>tr _ _ (r.tsr b hb) nofun nofun nofun⟩
 have x0:=(r.bl i o L h1 h2).keep k fun b hb=>no _ _ hb nofun nofun nofun nofun
 cases o <;> cases L <;> first | exact x0 | exact ⟨x0.1,fun b hb=>tr _ _ (x0.2 b hb) nofun nofun nofun⟩
theorem HRest.cast (r:HRest h hb role m G) (h1:m'.blocks=m.blocks) (h2:m'.reached=m.reached) (h3:m'.grey=m.grey) (h4:m'.roots=m.roots) (g1:G'.locs=G.locs) (g2:G'.bs=G.bs) (g3:G'.bb=G.bb)
  (g4:G'.rs=G.rs) (g5:G'.rb=G.rb) (g6:G'.gs=G.gs) (g7:G'.gb=G.gb) (g8:G'.ts=G.ts) (g9:G'.tb=G.tb):HRest h hb role m' G':=by
 refine ⟨r.rh,r.fresh,?_,?_,?_,?_,?_,?_,?_,?_,?_,?_⟩
 ·rw [g1,g2,g3]; exact r.bs
 ·rw [g3]; exact r.bsr
 ·rw [g1,h1]; exact r.ll
 ·rw [g1,h1]; exact r.bl
 ·rw [g4,g5,h2]; exact r.rs
 ·rw [g5]; exact r.rsr
 ·rw [g6,g7,h3]; exact r.gs
 ·rw [g7]; exact r.gsr
 ·rw [g8,g9,h4]; exact r.ts
 ·rw [g9]; exact r.tsr
theorem HRest.rep (r:HRest h hb role m G) (row:Row h hb (hcells m G)) (half:Ar h G.Lh m.hz m.half) (halfr:∀ b,G.Lh.fp b→role b=.half) (spare:Ar h G.Ls m.sz m.spare) (sparer:∀ b,G.Ls.fp b→role b=.spare):HRep h hb role m G :=
 ⟨row,r.rh,r.fresh,half,halfr,spare,sparer,r.bs,r.bsr,r.ll,r.bl,r.rs,r.rsr,r.gs,r.gsr,r.ts,r.tsr⟩
/-- One cell of the handles is written. -/
theorem HRep.setTb (r:HRep h hb role m G) {o:Nat} {v:Value} {roots':List (Bool × Nat)} (ho:o < (m.roots.flatMap rootV).length) (hv:(m.roots.flatMap rootV).set o v=roots'.flatMap rootV) :
  ∃ b,G.ts.a=some (ad b)∧Go.Ev.stOk h ⟨b,o,none⟩∧HRep (setc h ⟨b,o,none⟩ v) hb role { m with roots:=roots' } G∧Ext h role (setc h ⟨b,o,none⟩ v) role:=by
 have hl:=r.ts.len
 obtain ⟨b,hob,ha⟩:=own_some r.ts (by omega)
 have ts:=r.ts
 rw [hob] at ts
 obtain ⟨h1,h2⟩:=ts.set (o:=o) ho v
 have k:Kept (fun x=>x=b) h (setc h ⟨b,o,none⟩ v):=kept_setc h o _ rfl
 have htb:=r.tsr b hob
 have p:=r.part (x:=.tb) k (fun x e=>.inl (e ▸ htb)) (role':=role) (fun _ _=>rfl) fun b hb=>r.fresh b (Nat.le_trans k.1 hb)
 refine ⟨b,ha,h1,⟨kept_row k r.row (fun e=>by have:=r.rh; rw [e,htb] at this; cases this),p.rh,p.fresh,(p.half nofun).1,(p.half nofun).2,(p.spare nofun).1,(p.spare nofun).2,(p.bs nofun).1,(p.bs nofun).2,p.ll,fun i o L h1 h2=>p.bl i o L nofun h1 h2,
  (p.rs nofun).1,(p.rs nofun).2,(p.gs nofun).1,(p.gs nofun).2,?_,r.tsr⟩,Ext.of (role:=role) k (fun x e=>by rw [e,htb]; nofun) fun _ _=>rfl⟩
 rw [hob]
 show SlAt 2 _ _ _ _ _ (roots'.flatMap rootV)
 rw [← hv]
 exact h2
theorem rootV_len:∀ l:List (Bool × Nat),(l.flatMap rootV).length=2 * l.length
 | []=>rfl
 | x :: l=>by rw [List.flatMap_cons,List.length_append,rootV_len l,List.length_cons]; show 2 + _=_; omega
theorem rootV_at:∀ (l:List (Bool × Nat)) (i:Nat) (x:Bool × Nat),l[i]?=some x→(l.flatMap rootV)[i * 2]?=some (.bool x.1)∧(l.flatMap rootV)[i * 2 + 1]?=some (uv x.2)
 | [],_,_,h=>by simp at h
 | y :: l,0,x,h=>by
  obtain rfl:y=x:=by simpa using h
  exact ⟨rfl,rfl⟩
 | y :: l,i + 1,x,h=>by
  have:=rootV_at l i x (by simpa using h)
  rw [List.flatMap_cons]
  show (Value.bool y.1 :: uv y.2 :: l.flatMap rootV)[(i + 1) * 2]?=_∧(Value.bool y.1 :: uv y.2 :: l.flatMap rootV)[(i + 1) * 2 + 1]?=_
  rw [show (i + 1) * 2=i * 2 + 2 by omega,show i * 2 + 2 + 1=(i * 2 + 1) + 2 by omega]
  exact this
theorem rootV_set2:∀ (l:List (Bool × Nat)) (i:Nat) (x:Bool × Nat) (n:Nat),l[i]?=some x→(l.flatMap rootV).set (i * 2 + 1) (uv n)=(l.set i (x.1,n)).flatMap rootV
 | [],_,_,_,h=>by simp at h
 | y :: l,0,x,n,h=>by
  obtain rfl:y=x:=by simpa using h
  rfl
 | y :: l,i + 1,x,n,h=>by
  have:=rootV_set2 l i x n (by simpa using h)
  rw [List.flatMap_cons,List.set_cons_succ,List.flatMap_cons,← this]
  show (Value.bool y.1 :: uv y.2 :: l.flatMap rootV).set ((i + 1) * 2 + 1) _=Value.bool y.1 :: uv y.2 :: _
  rw [show (i + 1) * 2 + 1=(i * 2 + 1) + 1 + 1 by omega,List.set_cons_succ,List.set_cons_succ]
  rfl
theorem rootV_set1:∀ (l:List (Bool × Nat)) (i:Nat) (x:Bool × Nat) (b:Bool),l[i]?=some x→(l.flatMap rootV).set (i * 2) (.bool b)=(l.set i (b,x.2)).flatMap rootV
 | [],_,_,_,h=>by simp at h
 | y :: l,0,x,n,h=>by
  obtain rfl:y=x:=by simpa using h
  rfl
 | y :: l,i + 1,x,n,h=>by
  have:=rootV_set1 l i x n (by simpa using h)
  rw [List.flatMap_cons,List.set_cons_succ,List.flatMap_cons,← this]
  show (Value.bool y.1 :: uv y.2 :: l.flatMap rootV).set ((i + 1) * 2) _=Value.bool y.1 :: uv y.2 :: _
  rw [show (i + 1) * 2=i * 2 + 1 + 1 by omega,List.set_cons_succ,List.set_cons_succ]
  rfl
/-- A handle's cells. -/
theorem HRep.root_at (r:HRep h hb role m G) {i:Nat} {x:Bool × Nat} (hx:m.roots[i]?=some x):∃ b,G.ts.a=some (ad b)∧cell h ((ad b).add (i * 2))=some (.bool x.1)∧cell h (((ad b).add (i * 2)).add 1)=some (uv x.2)∧i < G.ts.n∧G.ts.n=m.roots.length:=by
 have hl:=r.ts.len
 rw [rootV_len] at hl
 have hi:=(List.getElem?_eq_some_iff.1 hx).1
 obtain ⟨b,hob,ha⟩:=own_some r.ts (by omega)
 have ts:=r.ts
 rw [hob] at ts
 obtain ⟨e1,e2⟩:=rootV_at _ _ _ hx
 refine ⟨b,ha,?_,?_,by omega,by omega⟩
 ·rw [add_ad,ts.cell (by rw [rootV_len]; omega),e1]
 ·rw [add_ad,add_mk,ts.cell (by rw [rootV_len]; omega),e2]
theorem HRep.ts_n (r:HRep h hb role m G):G.ts.n=m.roots.length:=by
 have hl:=r.ts.len
 rw [rootV_len] at hl
 omega
theorem HRep.rs_n (r:HRep h hb role m G):G.rs.n=m.reached.length:=by
 have hl:=r.rs.len
 rw [List.length_map] at hl
 omega
theorem HRep.bs_n (r:HRep h hb role m G):G.bs.n=m.blocks.length:=by
 have hl:=r.bs.len
 rw [List.length_map,r.ll] at hl
 omega
theorem HRep.gs_n (r:HRep h hb role m G):G.gs.n=m.grey.length:=by
 have hl:=r.gs.len
 rw [List.length_map] at hl
 omega
/-- The ref of a handle is written. -/
theorem HRep.setRoot (r:HRep h hb role m G) {i:Nat} {x:Bool × Nat} (hx:m.roots[i]?=some x) (n:Nat) :
  ∃ b,G.ts.a=some (ad b)∧Go.Ev.stOk h (((ad b).add (i * 2)).add 1)∧HRep (setc h (((ad b).add (i * 2)).add 1) (uv n)) hb role { m with roots:=m.roots.set i (x.1,n) } G∧Ext h role (setc h (((ad b).add (i * 2)).add 1) (uv n)) role:=by
 have hi:=(List.getElem?_eq_some_iff.1 hx).1
 obtain ⟨b,h1,h2,h3,h4⟩:=r.setTb (by rw [rootV_len]; omega) (rootV_set2 _ _ _ n hx)
 refine ⟨b,h1,?_⟩
 rw [add_ad,add_mk]
 exact ⟨h2,h3,h4⟩
theorem HRep.setUsed (r:HRep h hb role m G) {i:Nat} {x:Bool × Nat} (hx:m.roots[i]?=some x) (u:Bool) :
  ∃ b,G.ts.a=some (ad b)∧Go.Ev.stOk h ((ad b).add (i * 2))∧HRep (setc h ((ad b).add (i * 2)) (.bool u)) hb role { m with roots:=m.roots.set i (u,x.2) } G∧Ext h role (setc h ((ad b).add (i * 2)) (.bool u)) role:=by
 have hi:=(List.getElem?_eq_some_iff.1 hx).1
 obtain ⟨b,h1,h2,h3,h4⟩:=r.setTb (by rw [rootV_len]; omega) (rootV_set1 _ _ _ u hx)
 refine ⟨b,h1,?_⟩
 rw [add_ad]
 exact ⟨h2,h3,h4⟩
/-- The line's head goes. -/
theorem HRep.popGrey (r:HRep h hb role m G) {x:Nat} {l:List Nat} (hg:m.grey=x :: l) :
  HRep (setc h ⟨hb,5,none⟩ (.slice (if G.gs.c=1 then G.gs.a else Option.map (fun x=>x.add (1 * 1)) G.gs.a) (G.gs.n - 1) (G.gs.c - 1))) hb role { m with grey:=l }
   {G with gs:=⟨if G.gs.c=1 then G.gs.a else Option.map (fun x=>x.add (1 * 1)) G.gs.a,G.gs.n - 1,G.gs.c - 1⟩ } ∧
  Ext h role (setc h ⟨hb,5,none⟩ (.slice (if G.gs.c=1 then G.gs.a else Option.map (fun x=>x.add (1 * 1)) G.gs.a) (G.gs.n - 1) (G.gs.c - 1))) role:=by
 have k:Kept (fun b=>b=hb) h (setc h ⟨hb,5,none⟩ (.slice (if G.gs.c=1 then G.gs.a else Option.map (fun x=>x.add (1 * 1)) G.gs.a) (G.gs.n - 1) (G.gs.c - 1))):=kept_setc h 5 _ rfl
 have p:=r.part (x:=.gb) k (fun b e=>.inr (.inl (e ▸ r.rh))) (role':=role) (fun _ _=>rfl) fun b hb=>r.fresh b (Nat.le_trans k.1 hb)
 have gs:=r.gs
 rw [hg] at gs
 have gt:=gs.tail
 refine ⟨⟨row_setc r.row 5 _,p.rh,p.fresh,(p.half nofun).1,(p.half nofun).2,(p.spare nofun).1,(p.spare nofun).2,(p.bs nofun).1,(p.bs nofun).2,p.ll,fun i o L h1 h2=>p.bl i o L nofun h1 h2,(p.rs nofun).1,(p.rs nofun).2,?_,r.gsr,(p.ts nofun).1,(p.ts nofun).2⟩,
  Ext.of (role:=role) k (fun x e=>by rw [e,r.rh]; nofun) fun _ _=>rfl⟩
 exact gt.kept k fun b e=>by intro e'; have:=r.gsr b e; rw [e',r.rh] at this; cases this
/-- The line is given up. -/
theorem HRep.noGrey (r:HRep h hb role m G):HRep (setc h ⟨hb,5,none⟩ (.slice none 0 0)) hb role { m with grey:=[] } { G with gs:=⟨none,0,0⟩,gb:=none }∧Ext h role (setc h ⟨hb,5,none⟩ (.slice none 0 0)) role:=by
 have k:Kept (fun b=>b=hb) h (setc h ⟨hb,5,none⟩ (.slice none 0 0)):=kept_setc h 5 _ rfl
 have p:=r.part (x:=.gb) k (fun b e=>.inr (.inl (e ▸ r.rh))) (role':=role) (fun _ _=>rfl) fun b hb=>r.fresh b (Nat.le_trans k.1 hb)
 exact ⟨⟨row_setc r.row 5 _,p.rh,p.fresh,(p.half nofun).1,(p.half nofun).2,(p.spare nofun).1,(p.spare nofun).2,(p.bs nofun).1,(p.bs nofun).2,p.ll,fun i o L h1 h2=>p.bl i o L nofun h1 h2,(p.rs nofun).1,(p.rs nofun).2,slO_nil 1 _,nofun,(p.ts nofun).1,(p.ts nofun).2⟩,
  Ext.of (role:=role) k (fun x e=>by rw [e,r.rh]; nofun) fun _ _=>rfl⟩
/-- A slot's pointer. -/
theorem HRep.slot_at (r:HRep h hb role m G) {i:Nat} {L:Option ArLoc} (hL:G.locs[i]?=some L):∃ b,G.bs.a=some (ad b)∧cell h ((ad b).add (i * 1))=some (ptrV L):=by
 have hl:=r.bs.len
 rw [List.length_map] at hl
 have hi:=(List.getElem?_eq_some_iff.1 hL).1
 obtain ⟨b,hob,ha⟩:=own_some r.bs (by omega)
 have bs:=r.bs
 rw [hob] at bs
 refine ⟨b,ha,?_⟩
 rw [add_ad,Nat.mul_one,bs.cell (by rw [List.length_map]; exact hi),List.getElem?_map,hL]
 rfl
/-- A slot becomes free. -/
theorem HRep.dropSlot (r:HRep h hb role m G) {i:Nat} (hi:i < m.blocks.length) :
  ∃ b,G.bs.a=some (ad b)∧Go.Ev.stOk h ((ad b).add (i * 1))∧HRep (setc h ((ad b).add (i * 1)) (.pointer none)) hb role { m with blocks:=m.blocks.set i none } { G with locs:=G.locs.set i none }∧Ext h role (setc h ((ad b).add (i * 1)) (.pointer none)) role:=by
 have hl:=r.bs.len
 have hll:=r.ll
 rw [List.length_map] at hl
 obtain ⟨b,hob,ha⟩:=own_some r.bs (by omega)
 have bs:=r.bs
 rw [hob] at bs
 obtain ⟨h1,h2⟩:=bs.set (o:=i) (by rw [List.length_map]; omega) (.pointer none)
 refine ⟨b,ha,?_⟩
 rw [add_ad,Nat.mul_one]
 have k:Kept (fun x=>x=b) h (setc h ⟨b,i,none⟩ (.pointer none)):=kept_setc h i _ rfl
 have hbb:=r.bsr b hob
 have p:=r.part (x:=.bb) k (fun x e=>.inl (e ▸ hbb)) (role':=role) (fun _ _=>rfl) fun b hb=>r.fresh b (Nat.le_trans k.1 hb)
 refine ⟨h1,⟨kept_row k r.row (fun e=>by have:=r.rh; rw [e,hbb] at this; cases this),p.rh,p.fresh,(p.half nofun).1,(p.half nofun).2,(p.spare nofun).1,(p.spare nofun).2,?_,r.bsr,by simp [hll],fun j o L h1 h2=>?_,(p.rs nofun).1,(p.rs nofun).2,
  (p.gs nofun).1,(p.gs nofun).2,(p.ts nofun).1,(p.ts nofun).2⟩,Ext.of (role:=role) k (fun x e=>by rw [e,hbb]; nofun) fun _ _=>rfl⟩
 ·rw [hob]
  show SlAt 1 _ _ _ _ _ ((G.locs.set i none).map ptrV)
  rw [List.map_set]
  exact h2
 ·have h1:(m.blocks.set i none)[j]?=some o:=h1
  have h2:(G.locs.set i none)[j]?=some L:=h2
  by_cases hj:j=i
  ·subst hj
   rw [List.getElem?_set_self hi] at h1
   rw [List.getElem?_set_self (by omega)] at h2
   obtain rfl:=Option.some.inj h1
   obtain rfl:=Option.some.inj h2
   trivial
  ·rw [List.getElem?_set_ne (Ne.symm hj)] at h1 h2
   exact p.bl j o L nofun h1 h2
/-- clear(h.reached) -/
theorem HRep.clrReached (r:HRep h hb role m G) {K:Hp→Prop} (hK:∀ h',HRep h' hb role { m with reached:=m.reached.map fun _=>false } G→Ext h role h' role→K h'):clrO #[.bool false] G.rs.a G.rs.n h K:=by
 have hl:=r.rs_n
 cases hob:G.rb with
 | none =>
  have rs:=r.rs
  rw [hob] at rs
  obtain ⟨e1,e2,_⟩:=rs.nil rfl
  rw [e1]
  refine hK h ?_ (Ext.refl h role)
  have:m.reached=[]:=List.length_eq_zero_iff.1 (by omega)
  have e:({ m with reached:=m.reached.map fun _=>false }:MH)=m:=by rw [this]; cases m; simp only at this; subst this; rfl
  rw [e]; exact r
 | some b =>
  have rs:=r.rs
  rw [hob] at rs
  obtain ⟨ha,hnc,j,hr,hc⟩:=rs.row b rfl
  rw [ha]
  show stsOk h (ad b) (zrow #[.bool false] (G.rs.n * 1)).toList 0∧K (setcs h (ad b) (zrow #[.bool false] (G.rs.n * 1)).toList 0)
  rw [zrow_one]
  rw [List.length_map] at hc
  have hfit:0 + 0 + (List.replicate G.rs.n (Value.bool false)).length ≤ (m.reached.map Value.bool ++ j).length:=by simp; omega
  have hcell:∀ v ∈ List.replicate G.rs.n (Value.bool false),isCell v=true:=fun v hv=>by rw [(List.mem_replicate.1 hv).2]; rfl
  refine ⟨stsOk_row _ h _ 0 0 hr hfit hcell,?_⟩
  have k:Kept (fun x=>x=b) h (setcs h (ad b) (List.replicate G.rs.n (Value.bool false)) 0):=kept_setcs h 0 0 _ rfl
  have hrb:=r.rsr b hob
  have p:=r.part (x:=.rb) k (fun x e=>.inl (e ▸ hrb)) (role':=role) (fun _ _=>rfl) fun b hb=>r.fresh b (Nat.le_trans k.1 hb)
  refine hK _ ⟨kept_row k r.row (fun e=>by have:=r.rh; rw [e,hrb] at this; cases this),p.rh,p.fresh,(p.half nofun).1,(p.half nofun).2,(p.spare nofun).1,(p.spare nofun).2,(p.bs nofun).1,(p.bs nofun).2,p.ll,fun i o L h1 h2=>p.bl i o L nofun h1 h2,?_,r.rsr,
   (p.gs nofun).1,(p.gs nofun).2,(p.ts nofun).1,(p.ts nofun).2⟩ (Ext.of (role:=role) k (fun x e=>by rw [e,hrb]; nofun) fun _ _=>rfl)
  rw [hob]
  have e1:(m.reached.map fun _=>false).map Value.bool=List.replicate G.rs.n (Value.bool false):=by
   rw [List.map_map,hl]
   apply List.ext_getElem?
   intro i
   rw [List.getElem?_map,List.getElem?_replicate]
   by_cases hi:i < m.reached.length
   ·rw [if_pos hi,List.getElem?_eq_getElem hi]; rfl
   ·rw [if_neg hi,List.getElem?_eq_none (by omega)]; rfl
  show SlAt 1 _ _ _ _ _ ((m.reached.map fun _=>false).map Value.bool)
  rw [e1]
  refine ⟨by simp,nofun,fun b' e=>?_⟩
  obtain rfl:=Option.some.inj e
  refine ⟨ha,hnc,j,?_,by simp; omega⟩
  have:=row_setcs (List.replicate G.rs.n (Value.bool false)) h _ 0 0 hr hfit
  have e2:ovw (m.reached.map Value.bool ++ j) (0 + 0) (List.replicate G.rs.n (Value.bool false))=List.replicate G.rs.n (Value.bool false) ++ j:=by
   unfold ovw
   simp only [Nat.add_zero,List.take_zero,List.nil_append,Nat.zero_add,List.length_replicate]
   rw [List.drop_append,List.drop_eq_nil_of_le (by simp; omega),List.length_map,List.nil_append,hl,Nat.sub_self,List.drop_zero]
  rw [e2] at this
  exact this
/-- The halves' roles are turned. -/
def swapR (role:Nat→Role) (b:Nat):Role:=match role b with | .half=>.spare | .spare=>.half | x=>x
theorem swapR_of {b:Nat} {x:Role} (e:role b=x) (h1:x ≠ .half) (h2:x ≠ .spare):swapR role b=x:=by
 unfold swapR
 rw [e]
 cases x <;> first | rfl | exact absurd rfl h1 | exact absurd rfl h2
theorem HRep.swap (r:HRep h hb role m G):HRep (setc (setc h ⟨hb,1,none⟩ (.pointer (some (ad G.Ls.pb)))) ⟨hb,2,none⟩ (.pointer (some (ad G.Lh.pb)))) hb (swapR role) { m with half:=m.spare,hz:=m.sz,spare:=m.half,sz:=m.hz } { G with Lh:=G.Ls,Ls:=G.Lh } ∧
  ExtO h role (setc (setc h ⟨hb,1,none⟩ (.pointer (some (ad G.Ls.pb)))) ⟨hb,2,none⟩ (.pointer (some (ad G.Lh.pb)))) (swapR role):=by
 have k1:Kept (fun b=>b=hb) h (setc h ⟨hb,1,none⟩ (.pointer (some (ad G.Ls.pb)))):=kept_setc h 1 _ rfl
 have k2:Kept (fun b=>b=hb) (setc h ⟨hb,1,none⟩ (.pointer (some (ad G.Ls.pb)))) (setc (setc h ⟨hb,1,none⟩ (.pointer (some (ad G.Ls.pb)))) ⟨hb,2,none⟩ (.pointer (some (ad G.Lh.pb)))):=kept_setc _ 2 _ rfl
 have k:=k1.trans k2
 have hrow:=row_setc (row_setc r.row 1 (.pointer (some (ad G.Ls.pb)))) 2 (.pointer (some (ad G.Lh.pb)))
 have nhd:∀ b x,role b=x→x ≠ .hd→¬ b=hb:=fun b x e hx s=>hx (e ▸ s ▸ r.rh)
 have q:HRest _ hb (swapR role) m G:=r.rest.move k (fun b e=>.inr (.inr (.inl (e ▸ r.rh)))) (role':=swapR role) (fun b x _ e h1 h2 _=>swapR_of e h1 h2) fun b hb=>swapR_of (r.fresh b (Nat.le_trans k.1 hb)) nofun nofun
 have q2:HRest _ hb (swapR role) { m with half:=m.spare,hz:=m.sz,spare:=m.half,sz:=m.hz } { G with Lh:=G.Ls,Ls:=G.Lh }:=q.cast rfl rfl rfl rfl rfl rfl rfl rfl rfl rfl rfl rfl rfl
 refine ⟨q2.rep hrow (r.spare.keep k fun b hb=>nhd _ _ (r.sparer b hb) nofun) (fun b hb=>?_) (r.half.keep k fun b hb=>nhd _ _ (r.halfr b hb) nofun) (fun b hb=>?_),
  ExtO.of (role:=role) k (fun b e=>by rw [e,r.rh]; nofun) fun b _ ho=>swapR_of ho nofun nofun⟩
 ·have:=r.sparer b hb; unfold swapR; rw [this]
 ·have:=r.halfr b hb; unfold swapR; rw [this]
end
/-! ### The words of the document's heap -/
namespace RS
def rootW (s:RS):Option Nat→Bool × Nat
 | some id=>(true,s.ref id)
 | none=>(false,0)
def words (s:RS) (sp:List AObj):MH :=
 {limit:=s.limit,hz:=s.half,half:=s.small.map s.enc,sz:=s.half,spare:=sp,blocks:=s.slots.map fun id=>if id=0 then none else some (s.enc id),reached:=s.slots.map fun _=>false,grey:=[],
  large:=s.large,since:=s.since,kept:=s.kept,roots:=s.roots.map s.rootW,r5:=(s.roots.filter Option.isSome).length,r6:=s.coll,r7:=s.resz,r8:=s.moved }
end RS
end Go.Ev
set_option linter.all false
set_option maxRecDepth 100000
namespace Go.Ev
namespace RS
theorem reach_with (s:RS) (g:Gc) (id a b:Nat):s.reach { g with a:=a,b:=b } id={ s.reach g id with a:=a,b:=b }:=by
 by_cases h:id=0 ∨ id ∈ g.copied ∨ id ∈ g.line
 ·rw [reach_in h,reach_in (g:={ g with a:=a,b:=b }) h]
 ·cases hb:(s.obj id).big with
  | true=>rw [reach_big h hb,reach_big (g:={ g with a:=a,b:=b }) h hb]
  | false=>rw [reach_small h hb,reach_small (g:={ g with a:=a,b:=b }) h hb]
theorem reachL_with (s:RS):∀ (ids:List Nat) (g:Gc) (a b:Nat),s.reachL { g with a:=a,b:=b } ids={ s.reachL g ids with a:=a,b:=b }
 | [],_,_,_=>rfl
 | id :: ids,g,a,b=>by
  show s.reachL (s.reach { g with a:=a,b:=b } id) ids={ s.reachL (s.reach g id) ids with a:=a,b:=b }
  rw [reach_with,reachL_with s ids]
theorem reachL_in {s:RS}:∀ (ids:List Nat) (g:Gc),∀ id ∈ ids,id=0 ∨ id ∈ (s.reachL g ids).copied ∨ id ∈ (s.reachL g ids).line
 | [],_,_,h=>by cases h
 | x :: ids,g,id,h=>by
  show id=0 ∨ id ∈ (s.reachL (s.reach g x) ids).copied ∨ id ∈ (s.reachL (s.reach g x) ids).line
  rcases List.mem_cons.1 h with rfl | h
  ·have hp:=s.reachL_pre ids (s.reach g id)
   exact (reach_mem (s:=s) (g:=g) (r:=id)).imp_right fun h=>h.imp (fun h=>hp.1.subset h) fun h=>hp.2.subset h
  ·exact reachL_in ids (s.reach g x) id h
theorem newRef_pre {s:RS} (v:s.Inv) {g g':Gc} (hp:g.copied <+: g'.copied) {r:Nat} (hr:r=0 ∨ r ∈ g.copied ∨ r ∈ g.line) (hl:∀ x ∈ g.line,x ≠ 0∧x ∈ s.slots):s.newRef g' r=s.newRef g r:=by
 unfold newRef
 split
 ·rfl
 ·rename_i h0
  split
  ·rfl
  ·rename_i hb
   rcases hr with h | h | h
   ·exact absurd h h0
   ·obtain ⟨t,ht⟩:=hp
    rw [← ht]
    exact placeIn_app_left g.copied t 1 r h
   ·obtain ⟨h1,h2⟩:=hl r h
    obtain ⟨k,hk⟩:=List.mem_iff_getElem?.1 h2
    exact absurd (v.sl k r hk h1).2.1 hb
theorem gcStep_pre (s:RS) (g:Gc):g.copied <+: (s.gcStep g).copied∧g.line <+: (s.gcStep g).line:=by
 unfold gcStep
 split
 ·exact s.reachL_pre _ g
 ·split
  ·exact s.reachL_pre _ g
  ·exact ⟨List.prefix_refl _,List.prefix_refl _⟩
theorem gcAt_pre (s:RS) (n:Nat):∀ k,(s.gcAt n).copied <+: (s.gcAt (n + k)).copied∧(s.gcAt n).line <+: (s.gcAt (n + k)).line
 | 0=>⟨List.prefix_refl _,List.prefix_refl _⟩
 | k + 1=>by
  have h1:=gcAt_pre s n k
  have h2:=s.gcStep_pre (s.gcAt (n + k))
  exact ⟨h1.1.trans h2.1,h1.2.trans h2.2⟩
def Fin (g:Gc):Prop:=g.a=g.copied.length∧g.b=g.line.length
theorem Fin.step {s:RS} {g:Gc} (h:Fin g):s.gcStep g=g:=by
 unfold gcStep
 rw [h.1,List.getElem?_eq_none (Nat.le_refl _),h.2,List.getElem?_eq_none (Nat.le_refl _)]
theorem gcAt_stop {s:RS} {n:Nat} (h:Fin (s.gcAt n)):∀ k,s.gcAt (n + k)=s.gcAt n
 | 0=>rfl
 | k + 1=>by
  show s.gcStep (s.gcAt (n + k))=_
  rw [gcAt_stop h k,h.step]
theorem GcOk.len {s:RS} (v:s.Inv) {g:Gc} (k:GcOk s g):g.copied.length + g.line.length ≤ s.objs.length:=by
 have:=len_le (g.copied ++ g.line) (List.range s.objs.length) k.nd fun x hx=>by
  rw [List.mem_range]
  rcases List.mem_append.1 hx with hx | hx
  ·exact (v.sm x (k.cp x hx)).2.1
  ·obtain ⟨h0,h1⟩:=k.ln x hx
   obtain ⟨i,hi⟩:=List.mem_iff_getElem?.1 h1
   exact (v.sl i x hi h0).1
 rwa [List.length_append,List.length_range] at this
theorem GcOk.len2 {s:RS} {g:Gc} (k:GcOk s g):g.copied.length ≤ s.small.length∧g.line.length ≤ s.slots.length :=
 ⟨len_le _ _ (List.nodup_append.1 k.nd).1 k.cp,len_le _ _ (List.nodup_append.1 k.nd).2.1 fun x hx=>(k.ln x hx).2⟩
theorem gcEnd_eq {s:RS} (v:s.Inv) {n:Nat} (h:Fin (s.gcAt n)) (hn:n=(s.gcAt n).a + (s.gcAt n).b):s.gcEnd=s.gcAt n:=by
 have h1:=GcOk.len v (GcOk.at v n)
 have h2:n ≤ s.objs.length:=by
  have:=h.1; have:=h.2; omega
 obtain ⟨k,hk⟩:=Nat.exists_eq_add_of_le h2
 unfold gcEnd
 rw [hk,gcAt_stop h]
theorem gc0_ab (s:RS):s.gc0.a=0∧s.gc0.b=0:=s.reachL_ab _ _
/-- Each step but the last ones counts one object. -/
theorem gcAt_ab {s:RS} (v:s.Inv):∀ n,Fin (s.gcAt n) ∨ (s.gcAt n).a + (s.gcAt n).b=n
 | 0=>.inr (by have:=s.gc0_ab; show s.gc0.a + s.gc0.b=0; omega)
 | n + 1=>by
  have k:=GcOk.at v n
  rcases gcAt_ab v n with h | h
  ·exact .inl (by show Fin (s.gcStep (s.gcAt n)); rw [h.step]; exact h)
  ·show Fin (s.gcStep (s.gcAt n)) ∨ (s.gcStep (s.gcAt n)).a + (s.gcStep (s.gcAt n)).b=n + 1
   unfold gcStep
   split
   ·refine .inr ?_
    have:=(s.reachL_ab (s.obj ‹Nat›).refs (s.gcAt n)).2
    simp only [this]
    omega
   ·rename_i h1
    split
    ·refine .inr ?_
     have:=(s.reachL_ab (s.obj ‹Nat›).refs (s.gcAt n)).1
     simp only [this]
     omega
    ·rename_i h2
     have h1:=List.getElem?_eq_none_iff.1 h1
     have h2:=List.getElem?_eq_none_iff.1 h2
     exact .inl ⟨by have:=k.a; omega,by have:=k.b; omega⟩
theorem gcEnd_fin {s:RS} (v:s.Inv):Fin s.gcEnd:=by
 rcases gcAt_ab v s.objs.length with h | h
 ·exact h
 ·have k:=GcOk.at v s.objs.length
  have:=GcOk.len v k
  have:=k.a
  have:=k.b
  exact ⟨by show (s.gcAt _).a=(s.gcAt _).copied.length; omega,by show (s.gcAt _).b=(s.gcAt _).line.length; omega⟩
theorem GcOk.fin {s:RS} (v:s.Inv):GcOk s s.gcEnd:=GcOk.at v _
/-- What has been looked at leads to what has been reached. -/
def Closed (s:RS) (g:Gc):Prop:=∀ id,id ∈ g.copied.take g.a ∨ id ∈ g.line.take g.b→∀ r ∈ (s.obj id).refs,r=0 ∨ r ∈ g.copied ∨ r ∈ g.line
theorem take_pre {α:Type} {l l':List α} (h:l <+: l') {n:Nat} (hn:n ≤ l.length):l'.take n=l.take n:=by
 obtain ⟨t,rfl⟩:=h
 rw [List.take_append_of_le_length hn]
theorem take_snoc {α:Type} {l:List α} {n:Nat} {x:α} (h:l[n]?=some x):l.take (n + 1)=l.take n ++ [x]:=by rw [List.take_add_one,h]; rfl
theorem Closed.step {s:RS} {g:Gc} (k:GcOk s g) (c:Closed s g):Closed s (s.gcStep g):=by
 have grow:∀ (ids:List Nat) (r:Nat),r=0 ∨ r ∈ g.copied ∨ r ∈ g.line→r=0 ∨ r ∈ (s.reachL g ids).copied ∨ r ∈ (s.reachL g ids).line:=fun ids r h=>by
  have hp:=s.reachL_pre ids g
  exact h.imp_right fun h=>h.imp (fun h=>hp.1.subset h) fun h=>hp.2.subset h
 have ka:=k.a
 have kb:=k.b
 unfold gcStep
 split
 ·rename_i id hid
  intro x hx r hr
  have hp:=s.reachL_pre (s.obj id).refs g
  have hab:=s.reachL_ab (s.obj id).refs g
  have hx:x ∈ (s.reachL g (s.obj id).refs).copied.take (g.a + 1) ∨ x ∈ (s.reachL g (s.obj id).refs).line.take (s.reachL g (s.obj id).refs).b:=hx
  show r=0 ∨ r ∈ (s.reachL g (s.obj id).refs).copied ∨ r ∈ (s.reachL g (s.obj id).refs).line
  have h1:=(List.getElem?_eq_some_iff.1 hid).1
  rw [take_pre hp.1 (by omega),take_snoc hid,hab.2,take_pre hp.2 kb] at hx
  rcases hx with hx | hx
  ·rcases List.mem_append.1 hx with hx | hx
   ·exact grow _ r (c x (.inl hx) r hr)
   ·rw [List.mem_singleton.1 hx] at hr
    exact reachL_in _ g r hr
  ·exact grow _ r (c x (.inr hx) r hr)
 ·split
  ·rename_i id hid
   intro x hx r hr
   have hp:=s.reachL_pre (s.obj id).refs g
   have hab:=s.reachL_ab (s.obj id).refs g
   have hx:x ∈ (s.reachL g (s.obj id).refs).copied.take (s.reachL g (s.obj id).refs).a ∨ x ∈ (s.reachL g (s.obj id).refs).line.take (g.b + 1):=hx
   show r=0 ∨ r ∈ (s.reachL g (s.obj id).refs).copied ∨ r ∈ (s.reachL g (s.obj id).refs).line
   have h1:=(List.getElem?_eq_some_iff.1 hid).1
   rw [take_pre hp.2 (by omega),take_snoc hid,hab.1,take_pre hp.1 ka] at hx
   rcases hx with hx | hx
   ·exact grow _ r (c x (.inl hx) r hr)
   ·rcases List.mem_append.1 hx with hx | hx
    ·exact grow _ r (c x (.inr hx) r hr)
    ·rw [List.mem_singleton.1 hx] at hr
     exact reachL_in _ g r hr
  ·exact c
theorem Closed.at {s:RS} (v:s.Inv):∀ n,Closed s (s.gcAt n)
 | 0=>by
  intro x hx
  have:=s.gc0_ab
  have hx:x ∈ s.gc0.copied.take s.gc0.a ∨ x ∈ s.gc0.line.take s.gc0.b:=hx
  rw [this.1,this.2] at hx
  simp at hx
 | n + 1=>(Closed.at v n).step (GcOk.at v n)
theorem gcEnd_closed {s:RS} (v:s.Inv) {id:Nat} (h:id ∈ s.gcEnd.copied ∨ id ∈ s.gcEnd.line):∀ r ∈ (s.obj id).refs,r=0 ∨ r ∈ s.gcEnd.copied ∨ r ∈ s.gcEnd.line:=by
 have f:=gcEnd_fin v
 refine Closed.at v s.objs.length id ?_
 show id ∈ s.gcEnd.copied.take s.gcEnd.a ∨ id ∈ s.gcEnd.line.take s.gcEnd.b
 rw [f.1,f.2,List.take_length,List.take_length]
 exact h
theorem gcEnd_root {s:RS} {id:Nat} (h:some id ∈ s.roots):id=0 ∨ id ∈ s.gcEnd.copied ∨ id ∈ s.gcEnd.line:=by
 have hp:=s.gcAt_pre 0 s.objs.length
 rw [Nat.zero_add] at hp
 have:=reachL_in (s:=s) (s.roots.filterMap (fun x=>x)) ⟨[],[],0,0⟩ id (List.mem_filterMap.2 ⟨_,h,rfl⟩)
 exact this.imp_right fun h=>h.imp (fun h=>hp.1.subset h) fun h=>hp.2.subset h
end RS
end Go.Ev
set_option linter.all false
set_option maxRecDepth 100000
namespace Go.Ev
namespace RS
section
variable {s:RS}
theorem collection_small (s:RS):s.collection.small=s.gcEnd.copied:=rfl
theorem collection_slots (s:RS):s.collection.slots=s.slots.map fun id=>if id ∈ s.gcEnd.line then id else 0:=rfl
theorem collection_objs (s:RS):s.collection.objs=s.objs.mapIdx fun id o=>if id ∈ s.gcEnd.copied then { o with pl:=s.placeIn s.gcEnd.copied 1 id } else if id ∈ s.gcEnd.line then o else if id=0 then o else RObj.no:=rfl
theorem collection_len (s:RS):s.collection.objs.length=s.objs.length:=by rw [collection_objs,List.length_mapIdx]
theorem Inv.here_lt (v:s.Inv) {id:Nat} (h:s.here id):id < s.objs.length:=by
 rcases h with h | ⟨h0,h⟩
 ·exact (v.sm id h).2.1
 ·obtain ⟨i,hi⟩:=List.mem_iff_getElem?.1 h
  exact (v.sl i id hi h0).1
theorem collection_obj (v:s.Inv) {id:Nat} (h:id ∈ s.gcEnd.copied ∨ id ∈ s.gcEnd.line):s.collection.obj id=if id ∈ s.gcEnd.copied then { s.obj id with pl:=s.placeIn s.gcEnd.copied 1 id } else if id ∈ s.gcEnd.line then s.obj id else RObj.no:=by
 have k:=GcOk.fin v
 have hl:id < s.objs.length:=v.here_lt (k.here h)
 unfold obj
 rw [collection_objs,List.getD_eq_getElem?_getD,List.getElem?_mapIdx,List.getD_eq_getElem?_getD,List.getElem?_eq_getElem hl]
 by_cases h1:id ∈ s.gcEnd.copied
 ·simp only [h1,if_true]; rfl
 ·have h2:=h.resolve_left h1
  simp only [h1,h2,if_true,if_false]; rfl
theorem not_both (v:s.Inv) {id:Nat} (h:id ∈ s.gcEnd.line):id ∉ s.gcEnd.copied:=fun h'=>by
 have k:=GcOk.fin v
 exact (List.nodup_append.1 k.nd).2.2 id h' id h rfl
theorem collection_copied (v:s.Inv) {id:Nat} (h:id ∈ s.gcEnd.copied):s.collection.obj id={ s.obj id with pl:=s.placeIn s.gcEnd.copied 1 id }:=by rw [collection_obj v (.inl h),if_pos h]
theorem collection_line (v:s.Inv) {id:Nat} (h:id ∈ s.gcEnd.line):s.collection.obj id=s.obj id:=by rw [collection_obj v (.inr h),if_neg (not_both v h),if_pos h]
theorem collection_size (v:s.Inv) {id:Nat} (h:id ∈ s.gcEnd.copied ∨ id ∈ s.gcEnd.line):s.collection.size id=s.size id:=by
 unfold size
 rcases h with h | h
 ·rw [collection_copied v h]; rfl
 ·rw [collection_line v h]
theorem collection_kind (v:s.Inv) {id:Nat} (h:id ∈ s.gcEnd.copied ∨ id ∈ s.gcEnd.line):(s.collection.obj id).kind=(s.obj id).kind∧(s.collection.obj id).refs=(s.obj id).refs∧(s.collection.obj id).raws=(s.obj id).raws∧(s.collection.obj id).big=(s.obj id).big:=by
 rcases h with h | h
 ·rw [collection_copied v h]; exact ⟨rfl,rfl,rfl,rfl⟩
 ·rw [collection_line v h]; exact ⟨rfl,rfl,rfl,rfl⟩
theorem collection_ref (v:s.Inv) {id:Nat} (h:id=0 ∨ id ∈ s.gcEnd.copied ∨ id ∈ s.gcEnd.line):s.collection.ref id=s.newRef s.gcEnd id:=by
 have k:=GcOk.fin v
 unfold ref newRef
 by_cases h0:id=0
 ·rw [if_pos h0,if_pos h0]
 ·rw [if_neg h0,if_neg h0]
  rcases h.resolve_left h0 with h | h
  ·have hb:=(v.sm id (k.cp id h)).2.2.1
   rw [collection_copied v h]
   simp only [hb,Bool.false_eq_true,if_false]
  ·obtain ⟨_,hs⟩:=k.ln id h
   obtain ⟨i,hi⟩:=List.mem_iff_getElem?.1 hs
   have hb:=(v.sl i id hi h0).2.1
   rw [collection_line v h]
   simp only [hb,if_true]
theorem collection_enc (v:s.Inv) {id:Nat} (h:id ∈ s.gcEnd.copied ∨ id ∈ s.gcEnd.line):s.collection.enc id=s.encD s.gcEnd (s.obj id).refs.length id:=by
 obtain ⟨h1,h2,h3,h4⟩:=collection_kind v h
 unfold enc encD
 rw [h1,h2,h3,List.take_length,List.drop_length,List.map_nil,List.append_nil]
 congr 1
 exact List.map_congr_left fun r hr=>collection_ref v (gcEnd_closed v h r hr)
theorem placeIn_congr {s t:RS}:∀ (l:List Nat) (p id:Nat),(∀ x ∈ l,t.size x=s.size x)→t.placeIn l p id=s.placeIn l p id
 | [],_,_,_=>rfl
 | x :: l,p,id,h=>by
  show (if x=id then p else t.placeIn l (p + t.size x) id)=if x=id then p else s.placeIn l (p + s.size x) id
  rw [h x (List.mem_cons_self ..),placeIn_congr l _ id fun y hy=>h y (List.mem_cons_of_mem _ hy)]
theorem sizes_congr {s t:RS} {l:List Nat} (h:∀ x ∈ l,t.size x=s.size x):t.sizes l=s.sizes l:=by
 unfold sizes
 rw [List.map_congr_left h]
theorem collection_slot (s:RS) {i id:Nat} (h:s.collection.slots[i]?=some id) (h0:id ≠ 0):s.slots[i]?=some id∧id ∈ s.gcEnd.line:=by
 rw [collection_slots,List.getElem?_map] at h
 cases hx:s.slots[i]? with
 | none=>rw [hx] at h; cases h
 | some x =>
  rw [hx] at h
  have h:(if x ∈ s.gcEnd.line then x else 0)=id:=Option.some.inj h
  by_cases hl:x ∈ s.gcEnd.line
  ·rw [if_pos hl] at h; subst h; exact ⟨rfl,hl⟩
  ·rw [if_neg hl] at h; exact absurd h.symm h0
theorem collection_here (v:s.Inv) {id:Nat}:s.collection.here id ↔ id ∈ s.gcEnd.copied ∨ id ∈ s.gcEnd.line:=by
 have k:=GcOk.fin v
 constructor
 ·rintro (h | ⟨h0,h⟩)
  ·exact .inl h
  ·obtain ⟨i,hi⟩:=List.mem_iff_getElem?.1 h
   exact .inr (s.collection_slot hi h0).2
 ·rintro (h | h)
  ·exact .inl h
  ·obtain ⟨h0,hs⟩:=k.ln id h
   refine .inr ⟨h0,?_⟩
   rw [collection_slots]
   exact List.mem_map.2 ⟨id,hs,by rw [if_pos h]⟩
theorem sum_le {α:Type} {f g:α→Nat}:∀ {l:List α},(∀ x ∈ l,f x ≤ g x)→(l.map f).sum ≤ (l.map g).sum
 | [],_=>Nat.le_refl _
 | x :: l,h=>by
  have h1:=h x (List.mem_cons_self ..)
  have h2:=sum_le (l:=l) fun y hy=>h y (List.mem_cons_of_mem _ hy)
  simp only [List.map_cons,List.sum_cons]
  omega
theorem collection_large (v:s.Inv):s.collection.large ≤ s.large:=by
 have k:=GcOk.fin v
 rw [v.lg]
 refine sum_le fun x hx=>?_
 by_cases h:x ∈ s.gcEnd.line
 ·rw [if_pos h,if_neg (k.ln x h).1]; exact Nat.le_refl _
 ·rw [if_neg h]; exact Nat.zero_le _
theorem collection_used (v:s.Inv):s.collection.used ≤ s.used:=by
 have k:=GcOk.fin v
 rw [v.u1]
 show 1 + s.sizes s.gcEnd.copied ≤ _
 have:=sizes_le (s:=s) s.gcEnd.copied s.small (List.nodup_append.1 k.nd).1 k.cp
 omega
theorem Inv.collection (v:s.Inv):s.collection.Inv:=by
 have k:=GcOk.fin v
 have hsz:∀ x ∈ s.gcEnd.copied,s.collection.size x=s.size x:=fun x hx=>collection_size v (.inl hx)
 have hu:=collection_used v
 have hlg:=collection_large v
 have hnd:=(List.nodup_append.1 k.nd).1
 have i1:=v.u2
 have i2:=v.h2
 refine ⟨v.l1,v.l2,v.h1,?_,?_,?_,?_,?_,v.rl,hnd,?_,?_,?_,?_,?_,by rw [collection_len]; exact v.ob,by have:=v.l2; show s.collection.large ≤ 1048576; omega,Nat.zero_le _⟩
 ·show 2 * s.half + s.collection.large ≤ s.limit; omega
 ·show 1 + s.sizes s.gcEnd.copied=1 + s.collection.sizes s.gcEnd.copied
  rw [sizes_congr hsz]
 ·show s.collection.used ≤ s.half; omega
 ·rw [collection_slots,List.map_map]
  show (s.slots.map _).sum=_
  congr 1
  refine List.map_congr_left fun x hx=>?_
  show _=if (if x ∈ s.gcEnd.line then x else 0)=0 then 0 else s.collection.size (if x ∈ s.gcEnd.line then x else 0) + 1
  by_cases h:x ∈ s.gcEnd.line
  ·simp only [if_pos h]
   rw [if_neg (k.ln x h).1,collection_size v (.inr h)]
  ·simp only [if_neg h,if_true]
 ·rw [collection_slots,List.length_map]; exact v.sll
 ·intro id hid
  obtain ⟨h1,h2,h3,h4,h5⟩:=v.sm id (k.cp id hid)
  refine ⟨h1,by rw [collection_len]; exact h2,by rw [(collection_kind v (.inl hid)).2.2.2]; exact h3,by rw [hsz id hid]; exact h4,?_⟩
  rw [collection_copied v hid,collection_small,placeIn_congr _ _ _ hsz]
 ·intro i id hi h0
  obtain ⟨h1,h2⟩:=s.collection_slot hi h0
  obtain ⟨h3,h4,h5,h6⟩:=v.sl i id h1 h0
  exact ⟨by rw [collection_len]; exact h3,by rw [collection_line v h2]; exact h4,by rw [collection_size v (.inr h2)]; exact h5,by rw [collection_line v h2]; exact h6⟩
 ·intro id hid r hr
  rw [collection_here v] at hid
  rw [(collection_kind v hid).2.1] at hr
  exact (gcEnd_closed v hid r hr).imp_right (collection_here v).2
 ·intro id hid
  exact (gcEnd_root (s:=s) hid).imp_right (collection_here v).2
 ·intro id hid
  rw [collection_here v] at hid
  obtain ⟨e1,e2,e3,_⟩:=collection_kind v hid
  rw [e1,e2,e3]
  exact v.shp id (k.here hid)
end
end RS
end Go.Ev
set_option linter.all false
set_option maxRecDepth 100000
namespace Go.Ev
open Go.Proofs
/-- What a collection's steps leave alone. -/
structure Rest (m m':MH):Prop where
 limit:m'.limit=m.limit
 hz:m'.hz=m.hz
 sz:m'.sz=m.sz
 large:m'.large=m.large
 since:m'.since=m.since
 kept:m'.kept=m.kept
 roots:m'.roots=m.roots
 r5:m'.r5=m.r5
 r6:m'.r6=m.r6
 r7:m'.r7=m.r7
 r8:m'.r8=m.r8
theorem Rest.refl (m:MH):Rest m m:=⟨rfl,rfl,rfl,rfl,rfl,rfl,rfl,rfl,rfl,rfl,rfl⟩
theorem Rest.trans {a b c:MH} (x:Rest a b) (y:Rest b c):Rest a c :=
 ⟨y.1.trans x.1,y.2.trans x.2,y.3.trans x.3,y.4.trans x.4,y.5.trans x.5,y.6.trans x.6,y.7.trans x.7,y.8.trans x.8,y.9.trans x.9,y.10.trans x.10,y.11.trans x.11⟩
theorem Rest.setRoots {m m':MH} (x:Rest m m') (l:List (Bool × Nat)):Rest { m with roots:=l } { m' with roots:=l }:=⟨x.1,x.2,x.3,x.4,x.5,x.6,rfl,x.8,x.9,x.10,x.11⟩
theorem mMoved_rest (m:MH) (r:Nat):Rest m (mMoved m r).1:=by
 unfold mMoved
 split
 ·exact Rest.refl m
 ·split
  ·split
   ·exact Rest.refl m
   ·exact ⟨rfl,rfl,rfl,rfl,rfl,rfl,rfl,rfl,rfl,rfl,rfl⟩
  ·split
   ·split
    ·exact Rest.refl m
    ·exact ⟨rfl,rfl,rfl,rfl,rfl,rfl,rfl,rfl,rfl,rfl,rfl⟩
   ·exact Rest.refl m
theorem setF_rest (m:MH) (t:Tgt) (j v:Nat):Rest m (m.setF t j v):=by
 cases t <;> exact ⟨rfl,rfl,rfl,rfl,rfl,rfl,rfl,rfl,rfl,rfl,rfl⟩
theorem mLook_rest (m:MH) (t:Tgt):∀ n,Rest m (mLook m t n)
 | 0=>Rest.refl m
 | n + 1=>by
  have h:=mLook_rest m t n
  show Rest m (match (mLook m t n).at t with | some o=>_ | none=>_)
  split
  ·exact (h.trans (mMoved_rest _ _)).trans (setF_rest _ _ _ _)
  ·exact h
theorem HRep.num {h:Hp} {hb:Nat} {role:Nat→Role} {m m':MH} {G:Geo} (r:HRep h hb role m G) {a:Addr} {i:Nat} {v:Value} (ha:a=⟨hb,i,none⟩) (hi:i < 19) (hc:(hcells m G).set i v=hcells m' G) (h1:m'.hz=m.hz) (h2:m'.half=m.half)
  (h3:m'.sz=m.sz) (h4:m'.spare=m.spare) (h5:m'.blocks=m.blocks) (h6:m'.reached=m.reached) (h7:m'.grey=m.grey) (h8:m'.roots=m.roots) {K:Hp→Prop} (hK:∀ h',HRep h' hb role m' G→Ext h role h' role→K h') :
  Go.Ev.stOk h a∧Let (setc h a v) fun h'=>K h':=by
 subst ha
 exact ⟨r.stOk hi,hK _ (r.renum hc h1 h2 h3 h4 h5 h6 h7 h8) (Ext.of (role:=role) (kept_setc h i v (S:=fun b=>b=hb) rfl) (fun b e=>by rw [e,r.rh]; nofun) fun _ _=>rfl)⟩
namespace RS
section
variable {s:RS}
theorem enc_ok (v:s.Inv) {id:Nat} (h:s.here id):(s.enc id).Ok:=by
 obtain ⟨h1,h2,h3,h4,h5⟩:=v.shp id h
 refine ⟨h1,h2,by simpa [enc] using h3,h4,fun x hx=>?_,nofun⟩
 rcases List.mem_append.1 hx with hx | hx
 ·obtain ⟨r,hr,rfl⟩:=List.mem_map.1 hx
  exact ref_lt v (v.rf id h r hr)
 ·exact h5 x hx
theorem CRep.begin (s:RS):CRep s ⟨[],[],0,0⟩ (fun _=>0) (s.words []):=by
 refine ⟨?_,rfl,?_,?_,rfl,fun _ _ _=>rfl,fun id r hr=>by simp at hr,rfl⟩
 ·exact List.map_congr_left fun id _=>by simp only [List.not_mem_nil,if_false]; rfl
 ·exact List.map_congr_left fun id _=>by simp only [encD_zero]
 ·exact List.map_congr_left fun id _=>by simp
theorem CRep.roots {g:Gc} {dn:Nat→Nat} {m:MH} (c:CRep s g dn m) (l:List (Bool × Nat)):CRep s g dn { m with roots:=l }:=⟨c.half,c.spare,c.blocks,c.reached,c.grey,c.dn0,c.dnr,c.sz⟩
/-- How far an object has been turned, by the walk's cursors. -/
def dnOf (s:RS) (g:Gc) (id:Nat):Nat:=if id ∈ g.copied.take g.a ∨ id ∈ g.line.take g.b then (s.obj id).refs.length else 0
def gR (s:RS) (i:Nat):Gc:=s.reachL ⟨[],[],0,0⟩ ((s.roots.take i).filterMap id)
theorem gR_len (s:RS):s.gR s.roots.length=s.gc0:=by unfold gR; rw [List.take_length]; rfl
theorem gR_some {i:Nat} {id:Nat} (h:s.roots[i]?=some (some id)):s.gR (i + 1)=s.reach (s.gR i) id:=by
 unfold gR
 rw [take_snoc h,List.filterMap_append]
 show s.reachL _ (_ ++ [id])=_
 rw [reachL_snoc]
theorem gR_none {i:Nat} (h:s.roots[i]?=some none):s.gR (i + 1)=s.gR i:=by
 unfold gR
 rw [take_snoc h,List.filterMap_append]
 show s.reachL _ (_ ++ [])=_
 rw [List.append_nil]
theorem gR_ok (v:s.Inv) (i:Nat):GcOk s (s.gR i):=by
 refine GcOk.reachL v ⟨by simp,nofun,nofun,Nat.le_refl _,Nat.le_refl _⟩ fun id hid=>?_
 obtain ⟨o,ho,e⟩:=List.mem_filterMap.1 hid
 have e:o=some id:=e
 subst e
 exact v.rt id (List.mem_of_mem_take ho)
def rootN (s:RS) (g:Gc):Option Nat→Bool × Nat
 | some id=>(true,s.newRef g id)
 | none=>(false,0)
def rootsAt (s:RS) (g:Gc) (i:Nat):List (Bool × Nat):=(s.roots.take i).map (s.rootN g) ++ (s.roots.drop i).map s.rootW
theorem rootsAt_get {g:Gc} {i:Nat} {x:Option Nat} (h:s.roots[i]?=some x):(s.rootsAt g i)[i]?=some (s.rootW x):=by
 have hi:=(List.getElem?_eq_some_iff.1 h).1
 unfold rootsAt
 rw [List.getElem?_append_right (by simp; omega),List.getElem?_map,List.getElem?_drop]
 have:i + (i - ((s.roots.take i).map (s.rootN g)).length)=i:=by simp; omega
 rw [this,h]; rfl
theorem rootsAt_succ {g:Gc} {i:Nat} {x:Option Nat} (h:s.roots[i]?=some x):s.rootsAt g (i + 1)=(s.rootsAt g i).set i (s.rootN g x):=by
 obtain ⟨hi,he⟩:=List.getElem?_eq_some_iff.1 h
 unfold rootsAt
 rw [List.drop_eq_getElem_cons hi,he,take_snoc h,List.map_append,List.set_append_right _ _ (by simp; omega)]
 have:i - ((s.roots.take i).map (s.rootN g)).length=0:=by simp; omega
 rw [this]
 simp
theorem rootsAt_congr {g g':Gc} {i:Nat} (h:∀ id,some id ∈ s.roots.take i→s.newRef g' id=s.newRef g id):s.rootsAt g' i=s.rootsAt g i:=by
 unfold rootsAt
 congr 1
 refine List.map_congr_left fun x hx=>?_
 cases x with
 | none=>rfl
 | some id=>show (true,_)=(true,_); rw [h id hx]
theorem set_same {α:Type} {l:List α} {i:Nat} {x:α} (h:l[i]?=some x):l.set i x=l:=by
 apply List.ext_getElem?
 intro j
 by_cases hj:i=j
 ·subst hj; rw [List.getElem?_set_self (List.getElem?_eq_some_iff.1 h).1,h]
 ·rw [List.getElem?_set_ne hj]
theorem gR_in {i:Nat} {id:Nat} (h:some id ∈ s.roots.take i):id=0 ∨ id ∈ (s.gR i).copied ∨ id ∈ (s.gR i).line :=
 reachL_in _ _ id (List.mem_filterMap.2 ⟨some id,h,rfl⟩)
theorem CRep.withA {g:Gc} {dn:Nat→Nat} {m:MH} (c:CRep s g dn m) (n:Nat):CRep s { g with a:=n } dn m:=⟨c.half,c.spare,c.blocks,c.reached,c.grey,c.dn0,c.dnr,c.sz⟩
theorem CRep.pop {g:Gc} {dn:Nat→Nat} {m:MH} (c:CRep s g dn m) {l:List Nat} (h:l=(g.line.drop (g.b + 1)).map fun id=>(s.obj id).pl):CRep s { g with b:=g.b + 1 } dn { m with grey:=l } :=
 ⟨c.half,c.spare,c.blocks,c.reached,h,c.dn0,c.dnr,c.sz⟩
theorem CRep.posA {g:Gc} {dn:Nat→Nat} {m:MH} (c:CRep s g dn m) (i:Nat):pos m.spare i=1 + s.sizes (g.copied.take i):=by
 rw [c.spare]; exact pos_map (fun id=>s.encD_size g (dn id) id) _ _
theorem dnOf_small (v:s.Inv) {g:Gc} (k:GcOk s g) {id:Nat} (h:g.copied[g.a]?=some id):s.dnOf g id=0∧s.dnOf { s.reachL g (s.obj id).refs with a:=g.a + 1 }=upd (s.dnOf g) id (s.obj id).refs.length:=by
 have hp:=s.reachL_pre (s.obj id).refs g
 have hab:=s.reachL_ab (s.obj id).refs g
 have hic:=List.mem_of_getElem? h
 have hl:=(List.getElem?_eq_some_iff.1 h).1
 have hn:id ∉ g.copied.take g.a:=fun hm=>by
  obtain ⟨j,hj⟩:=List.mem_iff_getElem?.1 hm
  rw [List.getElem?_take] at hj
  split at hj
  ·have:=(List.getElem?_inj (List.getElem?_eq_some_iff.1 hj).1 (List.nodup_append.1 k.nd).1).1 (hj.trans h.symm)
   omega
  ·cases hj
 have hn2:id ∉ g.line.take g.b:=fun hm=>(List.nodup_append.1 k.nd).2.2 id hic id (List.mem_of_mem_take hm) rfl
 refine ⟨by unfold dnOf; rw [if_neg (by simp [hn,hn2])],?_⟩
 funext x
 show (if x ∈ (s.reachL g (s.obj id).refs).copied.take (g.a + 1) ∨ x ∈ (s.reachL g (s.obj id).refs).line.take (s.reachL g (s.obj id).refs).b then (s.obj x).refs.length else 0)=_
 rw [take_pre hp.1 (by omega),take_snoc h,hab.2,take_pre hp.2 k.b]
 by_cases hx:x=id
 ·subst hx
  rw [upd_self,if_pos (.inl (List.mem_append_right _ (List.mem_singleton.2 rfl)))]
 ·rw [upd_ne hx]
  unfold dnOf
  simp only [List.mem_append,List.mem_singleton,hx,or_false]
theorem dnOf_big (v:s.Inv) {g:Gc} (k:GcOk s g) {id:Nat} (h:g.line[g.b]?=some id):s.dnOf g id=0∧s.dnOf { s.reachL g (s.obj id).refs with b:=g.b + 1 }=upd (s.dnOf g) id (s.obj id).refs.length:=by
 have hp:=s.reachL_pre (s.obj id).refs g
 have hab:=s.reachL_ab (s.obj id).refs g
 have hic:=List.mem_of_getElem? h
 have hl:=(List.getElem?_eq_some_iff.1 h).1
 have hn:id ∉ g.line.take g.b:=fun hm=>by
  obtain ⟨j,hj⟩:=List.mem_iff_getElem?.1 hm
  rw [List.getElem?_take] at hj
  split at hj
  ·have:=(List.getElem?_inj (List.getElem?_eq_some_iff.1 hj).1 (List.nodup_append.1 k.nd).2.1).1 (hj.trans h.symm)
   omega
  ·cases hj
 have hn2:id ∉ g.copied.take g.a:=fun hm=>(List.nodup_append.1 k.nd).2.2 id (List.mem_of_mem_take hm) id hic rfl
 refine ⟨by unfold dnOf; rw [if_neg (by simp [hn,hn2])],?_⟩
 funext x
 show (if x ∈ (s.reachL g (s.obj id).refs).copied.take (s.reachL g (s.obj id).refs).a ∨ x ∈ (s.reachL g (s.obj id).refs).line.take (g.b + 1) then (s.obj x).refs.length else 0)=_
 rw [take_pre hp.2 (by omega),take_snoc h,hab.1,take_pre hp.1 k.a]
 by_cases hx:x=id
 ·subst hx
  rw [upd_self,if_pos (.inr (List.mem_append_right _ (List.mem_singleton.2 rfl)))]
 ·rw [upd_ne hx]
  unfold dnOf
  simp only [List.mem_append,List.mem_singleton,hx,or_false]
theorem dnOf_fin {g:Gc} (f:Fin g) {id:Nat} (h:id ∈ g.copied ∨ id ∈ g.line):s.dnOf g id=(s.obj id).refs.length:=by
 unfold dnOf
 rw [f.1,f.2,List.take_length,List.take_length,if_pos h]
theorem gcStep_small {g:Gc} {id:Nat} (h:g.copied[g.a]?=some id):s.gcStep g={ s.reachL g (s.obj id).refs with a:=g.a + 1 }:=by unfold gcStep; rw [h]
theorem gcStep_big {g:Gc} {id:Nat} (h1:g.copied[g.a]?=none) (h:g.line[g.b]?=some id):s.gcStep g={ s.reachL g (s.obj id).refs with b:=g.b + 1 }:=by unfold gcStep; rw [h1,h]
theorem sizes_take (s:RS) (l:List Nat) (n:Nat):s.sizes (l.take n) ≤ s.sizes l:=by
 unfold sizes
 have:l=l.take n ++ l.drop n:=(List.take_append_drop n l).symm
 conv=>rhs; rw [this]
 rw [List.map_append,List.sum_append]
 omega
theorem sizes_snoc (s:RS) (l:List Nat) (x:Nat):s.sizes (l ++ [x])=s.sizes l + s.size x:=by unfold sizes; simp
end
end RS
end Go.Ev
