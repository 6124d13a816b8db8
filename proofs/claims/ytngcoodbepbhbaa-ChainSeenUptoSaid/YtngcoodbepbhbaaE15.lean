/- A blob on the heap, as plain data: laying one, writing in place / Room for a blob, by what the handles hold / The heap's graph and what its handles lead to: what stays, what each change leaves, live words / Printed by a program (own work) out of the loaded functions: what each says of the heap, and that the evaluator says the same / Memory by parts: blocks by number, what lies in them, slices over them / Lists of rows, slices' cells, what is read stays read / The blob package over the plain data: words, lay, Len, Slice, Read. No condition but that these are ones. -/
import Derived.Test.YtngcoodbepbhbaaE14
import Derived.Test.YtngcoodbepbhbaaE4
set_option linter.all false
set_option maxRecDepth 100000
namespace Go.Ev
open Go.Proofs
/-- The node of a blob. -/
def blobN (b:List Nat):NodeD:=⟨1,[],blobRaws b⟩
structure Okb (b:List Nat):Prop where
 b8:Bytes8 b
 len:b.length ≤ 4096
theorem Okb.is {b:List Nat} (h:Okb b):IsRaws (blobRaws b) b:=blobRaws_is h.b8 (by have:=h.len; omega)
namespace RS
section
variable {s t:RS} {nd:List NodeD} {b:List Nat} {id:Nat}
def layF (s:RS) (b:List Nat):RS × Nat × Int :=
 if (s.alloc 1 0 ((1 + wordsN b.length:Nat):Int)).2.2=0 then
  ((((s.alloc 1 0 ((1 + wordsN b.length:Nat):Int)).1.setF (s.alloc 1 0 ((1 + wordsN b.length:Nat):Int)).2.1 0 b.length).1.setBytesF (s.alloc 1 0 ((1 + wordsN b.length:Nat):Int)).2.1 8 b).1,
   (s.alloc 1 0 ((1 + wordsN b.length:Nat):Int)).2.1,0)
 else ((s.alloc 1 0 ((1 + wordsN b.length:Nat):Int)).1,0,(s.alloc 1 0 ((1 + wordsN b.length:Nat):Int)).2.2)
/-- An object of the graph that is a blob. -/
structure IsB (s:RS) (id:Nat) (b:List Nat):Prop where
 here:s.here id
 nz:id ≠ 0
 kind:(s.obj id).kind=1
 refs:(s.obj id).refs=[]
 raws:(s.obj id).raws=blobRaws b
theorem IsB.of (v:s.Inv) (sh:s.Shd nd) (hh:s.here id) (hn:nd[id]?=some (blobN b)):IsB s id b:=by
 have h0:id ≠ 0:=by
  rcases hh with h | h
  ·have:=(v.sm id h).1; omega
  ·exact h.1
 have e:=sh.at_ id hh
 rw [hn] at e
 have e:=Option.some.inj e
 unfold blobN at e
 injection e with e1 e2 e3
 exact ⟨hh,h0,e1.symm,e2.symm,e3.symm⟩
theorem raws_len (x:IsB s id b) (ok:Okb b):(s.obj id).raws.length=1 + wordsN b.length:=by rw [x.raws]; exact ok.is.len
/-- Its raws are others, as many. -/
def inPl (s:RS) (id:Nat) (raws:List Nat):RS:=s.setObj id { s.obj id with raws:=raws }
theorem shape_raws {raws:List Nat} (hl:raws.length=(s.obj id).raws.length):SameShape (s.obj id) { s.obj id with raws:=raws }:=⟨rfl,rfl,hl,rfl,rfl⟩
theorem Inv.inPl (v:s.Inv) (hh:s.here id) {raws:List Nat} (hl:raws.length=(s.obj id).raws.length) (hw:∀ x ∈ raws,x < 18446744073709551616):(s.inPl id raws).Inv :=
 v.setObj hh (shape_raws hl) (fun r hr=>v.rf id hh r hr) hw
theorem inPl_ref (v:s.Inv) (hh:s.here id) {raws:List Nat} (hl:raws.length=(s.obj id).raws.length) (x:Nat):(s.inPl id raws).ref x=s.ref x:=setObj_ref (v.here_lt hh) (shape_raws hl) x
theorem inPl_obj (v:s.Inv) (hh:s.here id) (raws:List Nat):(s.inPl id raws).obj id={ s.obj id with raws:=raws }:=by
 unfold RS.inPl
 rw [setObj_obj _ _ (v.here_lt hh),if_pos rfl]
theorem inPl_inPl (v:s.Inv) (hh:s.here id) (r1 r2:List Nat):(s.inPl id r1).inPl id r2=s.inPl id r2:=by
 show (s.inPl id r1).setObj id { (s.inPl id r1).obj id with raws:=r2 }=s.setObj id _
 rw [inPl_obj v hh]
 unfold RS.inPl RS.setObj
 simp
theorem Shd.inPl (v:s.Inv) (sh:s.Shd nd) (hh:s.here id) {raws:List Nat} (x:IsB s id b):Shd (s.inPl id raws) (nd.set id ⟨1,[],raws⟩):=by
 have:=sh.setObj v hh (o:={ s.obj id with raws:=raws }) rfl
 have e:(⟨1,[],raws⟩:NodeD)=⟨(s.obj id).kind,(s.obj id).refs,raws⟩:=by rw [x.kind,x.refs]
 rw [e]
 exact this
/-- What laying comes to. -/
theorem lay_cases (v:s.Inv) (sh:s.Shd nd) (ok:Okb b):∃ t,Sub t s∧t.Inv∧(s.layF b=(t,0,31) ∨
  ∃ s',s.layF b=(s',s'.ref nd.length,0)∧s'.Inv∧s'.Shd (nd ++ [blobN b])∧s'.roots=s.roots∧(∀ id,s'.here id ↔ id=nd.length ∨ t.here id)):=by
 have hw:wordsN b.length ≤ 513:=by have:=ok.len; unfold wordsN; omega
 have hsp:Shape 1 0 ((1 + wordsN b.length:Nat):Int):=⟨⟨by omega,by omega⟩,⟨by omega,by omega⟩,by omega,by omega⟩
 rcases alloc_cases v 1 0 ((1 + wordsN b.length:Nat):Int) with ⟨h,_⟩ | ⟨_,t,st,vt,h⟩
 ·exact absurd hsp h
 refine ⟨t,st,vt,?_⟩
 rcases h with e | ⟨t',ref,e,n⟩
 ·refine .inl ?_
  unfold layF
  rw [e,if_neg (by show ¬ ((31:Int)=0); omega)]
 ·refine .inr ?_
  have v':t'.Inv:=by have:=v.alloc 1 0 ((1 + wordsN b.length:Nat):Int); rw [e] at this; exact this
  have e0:(0:Int).toNat=0:=rfl
  have e1:(1:Int).toNat=1:=rfl
  rw [e0,e1,Int.toNat_natCast] at n
  have ln:nd.length=t.objs.length:=sh.len.trans st.len.symm
  have sht:=sh.sub st
  have sh':=n.shd vt sht
  have hh:t'.here nd.length:=(n.here _).2 (.inl ln)
  have href:t'.ref nd.length=ref:=by rw [ln]; exact n.ref
  have h0:nd.length ≠ 0:=by have:=vt.ob; omega
  have eat:=sh'.at_ nd.length hh
  rw [List.getElem?_append_right (Nat.le_refl _),Nat.sub_self] at eat
  have eat:(⟨1,List.replicate 0 0,List.replicate (1 + wordsN b.length) 0⟩:NodeD)=_:=Option.some.inj eat
  injection eat with k1 k2 k3
  have hl:(t'.obj nd.length).raws.length=1 + wordsN b.length:=by rw [← k3,List.length_replicate]
  -- set the length
  have s1:=setF_raw v' (x:=b.length) (k:=0) hh h0 (by omega)
  rw [← k2] at s1
  have s1:t'.setF (t'.ref nd.length) 0 b.length=(t'.inPl nd.length ((t'.obj nd.length).raws.set 0 b.length),0):=s1
  have hl1:((t'.obj nd.length).raws.set 0 b.length).length=(t'.obj nd.length).raws.length:=by rw [List.length_set]
  have hw1:∀ y ∈ (t'.obj nd.length).raws.set 0 b.length,y < 18446744073709551616:=fun y hy=>by
   rcases List.mem_or_eq_of_mem_set hy with q | q
   ·rw [← k3] at q
    rw [(List.mem_replicate.1 q).2]; omega
   ·have:=ok.len; omega
  have v1:=v'.inPl hh hl1 hw1
  have hh1:(t'.inPl nd.length ((t'.obj nd.length).raws.set 0 b.length)).here nd.length:=hh
  have hid:(t'.inPl nd.length ((t'.obj nd.length).raws.set 0 b.length)).ident (t'.ref nd.length)=nd.length:=by
   rw [← inPl_ref v' hh hl1 nd.length]
   exact ident_ref v1 (.inr hh1)
  have eo:=inPl_obj v' hh ((t'.obj nd.length).raws.set 0 b.length)
  have hspn:(t'.inPl nd.length ((t'.obj nd.length).raws.set 0 b.length)).spanOk (t'.ref nd.length) 8 (b.length:Nat):=by
   unfold spanOk
   rw [hid,eo]
   refine ⟨h0,by omega,by omega,?_⟩
   show (8:Int) + ((b.length:Nat):Int) ≤ 8 * ((((t'.obj nd.length).raws.set 0 b.length).length:Nat):Int)
   rw [hl1,hl]
   unfold wordsN
   omega
  have er:(t'.obj nd.length).raws.set 0 b.length=b.length :: List.replicate (wordsN b.length) 0:=by
   rw [← k3,Nat.add_comm,List.replicate_succ]; rfl
  have s2:(t'.inPl nd.length ((t'.obj nd.length).raws.set 0 b.length)).setBytesF (t'.ref nd.length) 8 b=(t'.inPl nd.length (blobRaws b),0):=by
   unfold setBytesF
   rw [if_pos hspn,hid,eo]
   have q:=inPl_inPl v' hh ((t'.obj nd.length).raws.set 0 b.length) (blobRaws b)
   rw [← q]
   conv=>rhs; unfold RS.inPl
   rw [show ((t'.setObj nd.length { t'.obj nd.length with raws:=(t'.obj nd.length).raws.set 0 b.length }).obj nd.length)={ t'.obj nd.length with raws:=(t'.obj nd.length).raws.set 0 b.length } from eo]
   show (RS.setObj _ _ { t'.obj nd.length with raws:=putBytes ((t'.obj nd.length).raws.set 0 b.length) 8 b },(0:Int))=_
   rw [er]
   rfl
  have hl2:(blobRaws b).length=(t'.obj nd.length).raws.length:=by rw [hl]; exact ok.is.len
  refine ⟨t'.inPl nd.length (blobRaws b),?_,v'.inPl hh hl2 ok.is.lt,?_,n.roots.trans st.roots,fun id=>by rw [ln]; exact n.here id⟩
  ·unfold layF
   rw [e]
   simp only [if_true]
   rw [← href,s1]
   simp only
   rw [s2,inPl_ref v' hh hl2]
  ·have q:=sh'.setObj v' hh (o:={ t'.obj nd.length with raws:=blobRaws b }) rfl
   have e2:(nd ++ [(⟨1,List.replicate 0 0,List.replicate (1 + wordsN b.length) 0⟩:NodeD)]).set nd.length ⟨(t'.obj nd.length).kind,(t'.obj nd.length).refs,blobRaws b⟩=nd ++ [blobN b]:=by
    rw [List.set_append_right _ _ (Nat.le_refl _),Nat.sub_self,← k1,← k2]
    rfl
   rw [e2] at q
   exact q
end
end RS
end Go.Ev
set_option linter.all false
set_option maxRecDepth 100000
namespace Go.Ev
open Go.Proofs
namespace RS
section
variable {s:RS} {nd:List NodeD} {b:List Nat}
theorem reachL_sub (s:RS):∀ (ids:List Nat) (g:Gc) (x:Nat),x ∈ (s.reachL g ids).copied ∨ x ∈ (s.reachL g ids).line→x ∈ g.copied ∨ x ∈ g.line ∨ x ∈ ids
 | [],g,x,h=>h.imp_right .inl
 | r :: ids,g,x,h=>by
  have h:x ∈ (s.reachL (s.reach g r) ids).copied ∨ x ∈ (s.reachL (s.reach g r) ids).line:=h
  rcases reachL_sub s ids _ x h with h | h | h
  ·unfold reach at h
   split at h
   ·exact .inl h
   ·split at h
    ·exact .inl h
    ·rcases List.mem_append.1 h with h | h
     ·exact .inl h
     ·exact .inr (.inr (by rw [List.mem_singleton.1 h]; exact List.mem_cons_self ..))
  ·unfold reach at h
   split at h
   ·exact .inr (.inl h)
   ·split at h
    ·rcases List.mem_append.1 h with h | h
     ·exact .inr (.inl h)
     ·exact .inr (.inr (by rw [List.mem_singleton.1 h]; exact List.mem_cons_self ..))
    ·exact .inr (.inl h)
  ·exact .inr (.inr (List.mem_cons_of_mem _ h))
end
end RS
end Go.Ev
set_option linter.all false
set_option maxRecDepth 100000
namespace Go.Ev
open Go.Proofs
/-- What handles lead to. -/
inductive Rch (nd:List NodeD) (roots:List (Option Nat)):Nat→Prop
 | root {id:Nat}:some id ∈ roots→id ≠ 0→Rch nd roots id
 | next {a id:Nat} {n:NodeD}:Rch nd roots a→nd[a]?=some n→id ∈ n.refs→id ≠ 0→Rch nd roots id
def NodeD.sz (n:NodeD):Nat:=1 + n.refs.length + n.raws.length
/-- A handle's place and the list with it. -/
def rootL (l:List (Option Nat)) (id:Nat):List (Option Nat):=if RS.freeAt l < l.length then l.set (RS.freeAt l) (some id) else l ++ [some id]
theorem freeAt_none3:∀ l:List (Option Nat),l.getD (RS.freeAt l) none=none
 | []=>rfl
 | none :: l=>rfl
 | some x :: l=>freeAt_none3 l
theorem rootL_get (l:List (Option Nat)) (id j:Nat):(rootL l id).getD j none=if j=RS.freeAt l then some id else l.getD j none:=by
 have hle:=RS.freeAt_le l
 unfold rootL
 simp only [List.getD_eq_getElem?_getD]
 split
 ·rename_i h
  by_cases e:j=RS.freeAt l
  ·subst e; rw [if_pos rfl,List.getElem?_set_self h]; rfl
  ·rw [if_neg e,List.getElem?_set_ne (Ne.symm e)]
 ·have hf:RS.freeAt l=l.length:=by omega
  by_cases e:j=RS.freeAt l
  ·rw [if_pos e,e,hf,List.getElem?_append_right (Nat.le_refl _),Nat.sub_self]; rfl
  ·rw [if_neg e]
   by_cases h:j < l.length
   ·rw [List.getElem?_append_left h]
   ·rw [List.getElem?_eq_none (by simp; omega),List.getElem?_eq_none (by omega)]
theorem rootL_len3 (l:List (Option Nat)) (id:Nat):(rootL l id).length ≤ max l.length (RS.freeAt l + 1):=by
 have:=RS.freeAt_le l
 unfold rootL
 split
 ·rw [List.length_set]; omega
 ·rw [List.length_append]; simp; omega
theorem dropL_get (l:List (Option Nat)) (k j:Nat):(l.set k none).getD j none=if j=k then none else l.getD j none:=by
 simp only [List.getD_eq_getElem?_getD]
 by_cases e:j=k
 ·subst e
  rw [if_pos rfl]
  by_cases h:j < l.length
  ·rw [List.getElem?_set_self h]; rfl
  ·rw [List.getElem?_eq_none (by simp; omega)]; rfl
 ·rw [if_neg e,List.getElem?_set_ne (Ne.symm e)]
theorem mem_roots {l:List (Option Nat)} {id:Nat}:some id ∈ l ↔ ∃ j,l.getD j none=some id:=by
 constructor
 ·intro h
  obtain ⟨j,hj⟩:=List.mem_iff_getElem?.1 h
  exact ⟨j,by rw [List.getD_eq_getElem?_getD,hj]; rfl⟩
 ·rintro ⟨j,hj⟩
  rw [List.getD_eq_getElem?_getD] at hj
  cases h:l[j]? with
  | none=>rw [h] at hj; cases hj
  | some o=>rw [h] at hj; obtain rfl:o=some id:=hj; exact List.mem_of_getElem? h
namespace RS
section
variable {s t:RS} {nd:List NodeD} {n:NodeD} {id:Nat}
theorem here_nz (v:s.Inv) (h:s.here id):id ≠ 0:=by
 rcases h with h | h
 ·have:=(v.sm id h).1; omega
 ·exact h.1
theorem shd_obj (sh:s.Shd nd) (hh:s.here id) (hn:nd[id]?=some n):(s.obj id).kind=n.kind∧(s.obj id).refs=n.refs∧(s.obj id).raws=n.raws:=by
 have e:=sh.at_ id hh
 rw [hn] at e
 obtain rfl:=Option.some.inj e
 exact ⟨rfl,rfl,rfl⟩
theorem _root_.Go.Ev.Rch.here (v:s.Inv) (sh:s.Shd nd) (r:Rch nd s.roots id):s.here id:=by
 induction r with
 | root h h0=>exact (v.rt _ h).resolve_left h0
 | next ha hn hi h0 ih=>exact (v.rf _ ih _ (by rw [(shd_obj sh ih hn).2.1]; exact hi)).resolve_left h0
/-- The handles' words and places are the same. -/
structure Alk (t s:RS):Prop where
 lim:t.limit=s.limit
 ref:∀ x,t.ref x=s.ref x
 here:∀ x,t.here x ↔ s.here x
theorem Alk.refl (s:RS):Alk s s:=⟨rfl,fun _=>rfl,fun _=>Iff.rfl⟩
theorem Alk.trans {u:RS} (a:Alk u t) (b:Alk t s):Alk u s:=⟨a.lim.trans b.lim,fun x=>(a.ref x).trans (b.ref x),fun x=>(a.here x).trans (b.here x)⟩
theorem setObj_alk (v:s.Inv) (hh:s.here id) {o:RObj} (e:SameShape (s.obj id) o):Alk (s.setObj id o) s:=⟨rfl,setObj_ref (v.here_lt hh) e,fun _=>Iff.rfl⟩
theorem g_setref (v:s.Inv) (sh:s.Shd nd) (hn:nd[id]?=some n) (hh:s.here id) {k x:Nat} (hx:x=0 ∨ s.here x) (hk:k < n.refs.length) :
  ∃ s',s.setF (s.ref id) (k:Int) (s.ref x)=(s',0)∧s'.Shd (nd.set id ⟨n.kind,n.refs.set k x,n.raws⟩)∧Alk s' s∧s'.roots=s.roots:=by
 obtain ⟨e1,e2,e3⟩:=shd_obj sh hh hn
 refine ⟨_,setF_ref v hh (here_nz v hh) hx (by rw [e2]; exact hk),?_,setObj_alk v hh ⟨rfl,by simp,rfl,rfl,rfl⟩,rfl⟩
 have:=sh.setObj v hh (o:={ s.obj id with refs:=(s.obj id).refs.set k x }) rfl
 rw [← e1,← e2,← e3]
 exact this
theorem g_setraw (v:s.Inv) (sh:s.Shd nd) (hn:nd[id]?=some n) (hh:s.here id) {k x:Nat} (hk:k < n.raws.length) :
  ∃ s',s.setF (s.ref id) ((n.refs.length + k:Nat):Int) x=(s',0)∧s'.Shd (nd.set id ⟨n.kind,n.refs,n.raws.set k x⟩)∧Alk s' s∧s'.roots=s.roots:=by
 obtain ⟨e1,e2,e3⟩:=shd_obj sh hh hn
 have q:=setF_raw v (x:=x) (k:=k) hh (here_nz v hh) (by rw [e3]; exact hk)
 rw [e2] at q
 refine ⟨_,q,?_,setObj_alk v hh ⟨rfl,rfl,by simp,rfl,rfl⟩,rfl⟩
 have:=sh.setObj v hh (o:={ s.obj id with raws:=(s.obj id).raws.set k x }) rfl
 rw [← e1,← e2,← e3]
 exact this
theorem g_getref (v:s.Inv) (sh:s.Shd nd) (hn:nd[id]?=some n) (hh:s.here id) {k r:Nat} (hk:n.refs[k]?=some r):s.getF (s.ref id) (k:Int)=(s.ref r,0) :=
 getF_ref v hh (here_nz v hh) (by rw [(shd_obj sh hh hn).2.1]; exact hk)
theorem g_getraw (v:s.Inv) (sh:s.Shd nd) (hn:nd[id]?=some n) (hh:s.here id) {k r:Nat} (hk:n.raws[k]?=some r):s.getF (s.ref id) ((n.refs.length + k:Nat):Int)=(r,0):=by
 obtain ⟨e1,e2,e3⟩:=shd_obj sh hh hn
 have:=getF_raw v (k:=k) (r:=r) hh (here_nz v hh) (by rw [e3]; exact hk)
 rw [e2] at this
 exact this
theorem g_refs_here (v:s.Inv) (sh:s.Shd nd) (hn:nd[id]?=some n) (hh:s.here id) {r:Nat} (hr:r ∈ n.refs):r=0 ∨ s.here r :=
 v.rf id hh r (by rw [(shd_obj sh hh hn).2.1]; exact hr)
theorem withRoots_alk (s:RS) (l:List (Option Nat)):Alk (s.withRoots l) s:=⟨rfl,fun _=>rfl,fun _=>Iff.rfl⟩
theorem g_root (v:s.Inv) (sh:s.Shd nd) (hh:id=0 ∨ s.here id):s.rootF (s.ref id)=(s.withRoots (rootL s.roots id),freeAt s.roots + 1,0):=by
 unfold rootF rootL
 rw [if_pos (good_ref v hh),ident_ref v hh]
theorem hand_get (s:RS) (m:Nat) (hm:1 ≤ m):s.hand (m:Int)=s.roots.getD (m - 1) none:=by
 unfold hand
 have e:((m:Int) - 1).toNat=m - 1:=by omega
 split
 ·rw [e]
 ·rw [List.getD_eq_getElem?_getD,List.getElem?_eq_none (by omega)]; rfl
theorem g_at (s:RS) {m:Nat} (hm:1 ≤ m) (hd:s.roots.getD (m - 1) none=some id):s.atF (m:Int)=(s.ref id,0):=by
 unfold atF; rw [hand_get s m hm,hd]
theorem g_drop (s:RS) {m:Nat} (hm:1 ≤ m) (hd:s.roots.getD (m - 1) none=some id):s.dropF (m:Int)=(s.withRoots (s.roots.set (m - 1) none),0):=by
 unfold dropF; rw [hand_get s m hm,hd]
 have e:((m:Int) - 1).toNat=m - 1:=by omega
 rw [e]
/-- Alloc, by the live words. -/
theorem g_alloc (v:s.Inv) (sh:s.Shd nd) {k r w:Nat} (hs:Shape (k:Int) (r:Int) (w:Int)) :
  (¬ s.Room r w∧∃ t,s.alloc k r w=(t,0,31)∧t.Shd nd∧t.roots=s.roots∧t.limit=s.limit) ∨
  (s.Room r w∧∃ t,s.alloc k r w=(t,t.ref nd.length,0)∧t.Shd (nd ++ [⟨k,List.replicate r 0,List.replicate w 0⟩])∧t.roots=s.roots∧t.limit=s.limit∧t.here nd.length):=by
 have ar:=alloc_room v hs
 have al:=alloc_lim (s:=s) k r w
 have arr:=(alloc_len (s:=s) k r w).2
 rw [Int.toNat_natCast,Int.toNat_natCast] at ar
 rcases alloc_cases v k r w with ⟨h,_⟩ | ⟨_,t,st,vt,h⟩
 ·exact absurd hs h
 rcases h with e | ⟨t',ref,e,n⟩
 ·left
  rw [e] at ar al arr
  exact ⟨fun hr=>absurd (ar.2 hr) (by show ¬ ((31:Int)=0); omega),t,e,sh.sub st,arr,al⟩
 ·right
  rw [e] at ar al arr
  rw [Int.toNat_natCast,Int.toNat_natCast,Int.toNat_natCast] at n
  have ln:nd.length=t.objs.length:=sh.len.trans st.len.symm
  refine ⟨ar.1 rfl,t',?_,n.shd vt (sh.sub st),arr,al,?_⟩
  ·rw [e,ln,n.ref]
  ·rw [ln]; exact (n.here _).2 (.inl rfl)
/-! ### Live words -/
theorem walk_rch (v:s.Inv) (sh:s.Shd nd):∀ (n x:Nat),x ∈ (s.gcAt n).copied ∨ x ∈ (s.gcAt n).line→Rch nd s.roots x:=by
 have nz:∀ n x,x ∈ (s.gcAt n).copied ∨ x ∈ (s.gcAt n).line→x ≠ 0:=fun n x hx=>here_nz v ((GcOk.at v n).here hx)
 intro n
 induction n with
 | zero =>
  intro x h
  have h0:=nz 0 x h
  rcases reachL_sub s _ _ x h with h | h | h
  ·simp at h
  ·simp at h
  ·obtain ⟨o,ho,e⟩:=List.mem_filterMap.1 h
   have e:o=some x:=e
   exact .root (e ▸ ho) h0
 | succ n ih =>
  intro x h
  have h0:=nz (n + 1) x h
  have h:x ∈ (s.gcStep (s.gcAt n)).copied ∨ x ∈ (s.gcStep (s.gcAt n)).line:=h
  have step:∀ y,(y ∈ (s.gcAt n).copied ∨ y ∈ (s.gcAt n).line)→x ∈ (s.reachL (s.gcAt n) (s.obj y).refs).copied ∨ x ∈ (s.reachL (s.gcAt n) (s.obj y).refs).line→Rch nd s.roots x:=fun y hy hx=>by
   rcases reachL_sub s _ _ x hx with h | h | h
   ·exact ih x (.inl h)
   ·exact ih x (.inr h)
   ·exact .next (ih y hy) (sh.at_ y ((GcOk.at v n).here hy)) h h0
  unfold gcStep at h
  cases e:(s.gcAt n).copied[(s.gcAt n).a]? with
  | some y=>rw [e] at h; exact step y (.inl (List.mem_of_getElem? e)) h
  | none =>
   rw [e] at h
   cases e2:(s.gcAt n).line[(s.gcAt n).b]? with
   | some y=>rw [e2] at h; exact step y (.inr (List.mem_of_getElem? e2)) h
   | none=>rw [e2] at h; exact ih x h
theorem gcEnd_rch (v:s.Inv) (sh:s.Shd nd) (x:Nat):(x ∈ s.gcEnd.copied ∨ x ∈ s.gcEnd.line) ↔ Rch nd s.roots x:=by
 refine ⟨walk_rch v sh _ x,fun r=>?_⟩
 induction r with
 | root h h0=>exact (gcEnd_root h).resolve_left h0
 | next ha hn hi h0 ih =>
  have hh:=(GcOk.fin v).here ih
  exact (gcEnd_closed v ih _ (by rw [(shd_obj sh hh hn).2.1]; exact hi)).resolve_left h0
def szAt (nd:List NodeD) (id:Nat):Nat:=((nd[id]?).getD ⟨0,[],[]⟩).sz
def liveS (nd:List NodeD) (ids:List Nat):Nat:=(ids.map fun id=>if szAt nd id ≤ 64 then szAt nd id else 0).sum
def liveB (nd:List NodeD) (ids:List Nat):Nat:=(ids.map fun id=>if szAt nd id ≤ 64 then 0 else szAt nd id + 1).sum
theorem size_at (v:s.Inv) (sh:s.Shd nd) (hh:s.here id):s.size id=szAt nd id:=by
 unfold szAt
 rw [sh.at_ id hh]
 rfl
theorem live_of (v:s.Inv) (sh:s.Shd nd) {ids:List Nat} (hnd:ids.Nodup) (hr:∀ x,x ∈ ids ↔ Rch nd s.roots x):s.collection.used=1 + liveS nd ids∧s.collection.large=liveB nd ids:=by
 have gk:=GcOk.fin v
 have n1:=List.nodup_append.1 gk.nd
 have small64:∀ x ∈ s.gcEnd.copied,s.size x ≤ 64:=fun x hx=>(v.sm x (gk.cp x hx)).2.2.2.1
 have big64:∀ x ∈ s.gcEnd.line,64 < s.size x:=fun x hx=>by
  obtain ⟨h0,h1⟩:=gk.ln x hx
  obtain ⟨i,hi⟩:=List.mem_iff_getElem?.1 h1
  exact (v.sl i x hi h0).2.2.1
 have cnt:∀ x ∈ ids,ids.count x=1:=fun x hx=>List.Nodup.count hnd |>.trans (if_pos hx)
 have mem:∀ x,(x ∈ s.gcEnd.copied ∨ x ∈ s.gcEnd.line) ↔ x ∈ ids:=fun x=>(gcEnd_rch v sh x).trans (hr x).symm
 constructor
 ·show 1 + s.sizes s.gcEnd.copied=_
  have p:=sum_pick (f:=s.size) ids s.gcEnd.copied n1.1 (fun x hx=>(mem x).1 (.inl hx)) fun x hx=>cnt x ((mem x).1 (.inl hx))
  show 1 + (s.gcEnd.copied.map s.size).sum=_
  rw [← p]
  unfold liveS
  congr 2
  refine List.map_congr_left fun x hx=>?_
  have hg:=(mem x).2 hx
  rw [← size_at v sh (gk.here hg)]
  by_cases hc:x ∈ s.gcEnd.copied
  ·rw [if_pos hc,if_pos (small64 x hc)]
  ·have:=big64 x (hg.resolve_left hc)
   rw [if_neg hc,if_neg (by omega)]
 ·rw [collection_lsum v]
  have p:=sum_pick (f:=fun x=>s.size x + 1) ids s.gcEnd.line n1.2.1 (fun x hx=>(mem x).1 (.inr hx)) fun x hx=>cnt x ((mem x).1 (.inr hx))
  show (s.gcEnd.line.map fun x=>s.size x + 1).sum=_
  rw [← p]
  unfold liveB
  congr 1
  refine List.map_congr_left fun x hx=>?_
  have hg:=(mem x).2 hx
  rw [← size_at v sh (gk.here hg)]
  by_cases hc:x ∈ s.gcEnd.line
  ·have:=big64 x hc
   rw [if_pos hc,if_neg (by omega)]
  ·have:=small64 x (hg.resolve_right hc)
   rw [if_neg hc,if_pos (by omega)]
end
end RS
end Go.Ev
set_option linter.all false
set_option maxRecDepth 100000
namespace Go.Ev
open Go.Proofs
/- larder/blob.New -/
noncomputable def body53:Code:=(Try.f53.body).getD .skip
def lv53 (m:Nat):List Nat:=if m=3 then [0,1,6,13,14,15] else if m=12 then [0,9,10,28,29,30] else []
def f53I1 (J:Nat→Option Addr→Sl→Int→Sl→Int→Int→Hp→Prop) (n:Nat) (env:List Value) (h:Hp):Prop:=lenIs env 47 (DecP env 0 fun s0=>DecL env 1 fun s1=>DecI .i64 env 6 fun s6=>DecL env 13 fun s13=>DecI .i64 env 14 fun s14=>DecI .i64 env 15 fun s15=>J n s0 s1 s6 s13 s14 s15 h)
def f53I2 (J:Nat→Option Addr→Sl→Int→Sl→Int→Int→Hp→Prop) (n:Nat) (env:List Value) (h:Hp):Prop:=lenIs env 47 (DecP env 0 fun s0=>DecL env 9 fun s9=>DecI .i64 env 10 fun s10=>DecL env 28 fun s28=>DecI .i64 env 29 fun s29=>DecI .i64 env 30 fun s30=>J n s0 s9 s10 s28 s29 s30 h)
def f53L1 (J1:Nat→Option Addr→Sl→Int→Sl→Int→Int→Hp→Prop) (n1:Nat) (s0:Option Addr) (s1:Sl) (s6:Int) (s13:Sl) (s14:Int) (s15:Int) (g:Nat→Value) (h:Hp) (R:Value→Hp→Prop):Prop :=
 Cond (decide (s15 < s14)) ((0 ≤ s15∧s15 < ((s13.n:Nat):Int))∧PtrOk s13.a fun p17=>∃ t18:Sl,cell h (p17.add (s15.toNat * 1))=some (.slice t18.a t18.n t18.c)∧Cond (decide ((IntKind.wrap .i64 (s6 + (((t18.n:Nat):Int)))) > (4096:Int))) (R (.tuple #[.int .u64 0,.int .i64 41]:Value) h) (∃ m,m < n1∧J1 m s0 s1 (IntKind.wrap .i64 (s6 + (((t18.n:Nat):Int)))) s13 s14 (IntKind.wrap .i64 (s15 + (1:Int))) h)) ((0 ≤ s6∧s6 ≤ s6)∧s6 < 2 ^ 62∧(1:Nat) * s6 ≤ 2 ^ 48∧Let (h.push (.cells (zrow #[.int .u8 0] (s6.toNat * 1)) 5)) fun h1=>LoopEv (evC Try.prog tab lv53 (sub [1,1,1,1,1,0,1,0,0] body53)) (contAt Try.prog tab lv53 [1,1,1,1,1,0,1,0] body53 [] (bodyK Try.prog Try.f53 [] R)) [(0,.pointer s0),(9,.slice (some (nb h)) s6.toNat s6.toNat),(10,.int .i64 0),(28,.slice s1.a s1.n s1.c),(29,.int .i64 (((s1.n:Nat):Int))),(30,.int .i64 0)] 47 h1)
theorem f53L1_eq (J1:Nat→Option Addr→Sl→Int→Sl→Int→Int→Hp→Prop) (n1:Nat) (s0:Option Addr) (s1:Sl) (s6:Int) (s13:Sl) (s14:Int) (s15:Int) (g:Nat→Value) (h:Hp) (R:Value→Hp→Prop):(evC Try.prog tab lv53 (sub [1,1,0,1,0,0] body53)) (loopK (f53I1 J1) n1 (contAt Try.prog tab lv53 [1,1,0,1,0] body53 [] (bodyK Try.prog Try.f53 [] R))) (mkEnv 47 [(0,.pointer s0),(1,.slice s1.a s1.n s1.c),(6,.int .i64 s6),(13,.slice s13.a s13.n s13.c),(14,.int .i64 s14),(15,.int .i64 s15)] g) h=f53L1 J1 n1 s0 s1 s6 s13 s14 s15 g h R:=by kernel_rfl
theorem f53I1_at (J:Nat→Option Addr→Sl→Int→Sl→Int→Int→Hp→Prop) (n:Nat) (s0:Option Addr) (s1:Sl) (s6:Int) (s13:Sl) (s14:Int) (s15:Int) (g:Nat→Value) (h:Hp):f53I1 J n (mkEnv 47 [(0,.pointer s0),(1,.slice s1.a s1.n s1.c),(6,.int .i64 s6),(13,.slice s13.a s13.n s13.c),(14,.int .i64 s14),(15,.int .i64 s15)] g) h=J n s0 s1 s6 s13 s14 s15 h:=by kernel_rfl
theorem f53L1_rule  {R:Value→Hp→Prop} {s0:Option Addr} {s1:Sl} {s6:Int} {s13:Sl} {s14:Int} {s15:Int} {h0:Hp} (J:Nat→Option Addr→Sl→Int→Sl→Int→Int→Hp→Prop) (n0:Nat) (hi:J n0 s0 s1 s6 s13 s14 s15 h0)
  (hr:∀ n s0 s1 s6 s13 s14 s15 g h,J n s0 s1 s6 s13 s14 s15 h→f53L1  J n s0 s1 s6 s13 s14 s15 g h R):LoopEv (evC Try.prog tab lv53 (sub [1,1,0,1,0,0] body53)) (contAt Try.prog tab lv53 [1,1,0,1,0] body53 [] (bodyK Try.prog Try.f53 [] R)) [(0,.pointer s0),(1,.slice s1.a s1.n s1.c),(6,.int .i64 s6),(13,.slice s13.a s13.n s13.c),(14,.int .i64 s14),(15,.int .i64 s15)] 47 h0:=by
 refine ⟨f53I1 J,n0,fun g=>by rw [f53I1_at]; exact hi,fun n env h hI=>?_⟩
 clear hi
 clear s0 s1 s6 s13 s14 s15
 obtain ⟨hlen,hI⟩:=Cond_true' hI
 have hlen:env.length=47:=by simpa using hlen
 obtain ⟨s0,es0,hI⟩:=DecP.out hI
 obtain ⟨s1,es1,hI⟩:=DecL.out hI
 obtain ⟨s6,es6,hI⟩:=DecI.out hI
 obtain ⟨s13,es13,hI⟩:=DecL.out hI
 obtain ⟨s14,es14,hI⟩:=DecI.out hI
 obtain ⟨s15,es15,hI⟩:=DecI.out hI
 rw [mkEnv_of (l:=[(0,.pointer s0),(1,.slice s1.a s1.n s1.c),(6,.int .i64 s6),(13,.slice s13.a s13.n s13.c),(14,.int .i64 s14),(15,.int .i64 s15)]) hlen (by simp only [List.mem_cons,List.not_mem_nil,or_false,forall_eq_or_imp,forall_eq]; exact ⟨es0,es1,es6,es13,es14,es15⟩)]
 rw [f53L1_eq]
 exact hr n s0 s1 s6 s13 s14 s15 _ h hI
def f53L2 (J2:Nat→Option Addr→Sl→Int→Sl→Int→Int→Hp→Prop) (n2:Nat) (s0:Option Addr) (s9:Sl) (s10:Int) (s28:Sl) (s29:Int) (s30:Int) (g:Nat→Value) (h:Hp) (R:Value→Hp→Prop):Prop :=
 Cond (decide (s30 < s29)) ((0 ≤ s30∧s30 < ((s28.n:Nat):Int))∧PtrOk s28.a fun p32=>∃ t33:Sl,cell h (p32.add (s30.toNat * 1))=some (.slice t33.a t33.n t33.c)∧(0 ≤ s10∧s10 ≤ ((s9.n:Nat):Int))∧cpySl 1 (if s9.c=s10.toNat then s9.a else Option.map (fun x=>x.add (s10.toNat * 1)) s9.a) (s9.n - s10.toNat) t33.a t33.n h fun rk h2=>∃ m,m < n2∧J2 m s0 s9 (IntKind.wrap .i64 (s10 + rk)) s28 s29 (IntKind.wrap .i64 (s30 + (1:Int))) h2) (CallTo Try.prog 70 #[.pointer s0,.slice s9.a s9.n s9.c] h fun r h3=>∃ t44_0:Int,∃ t44_1:Int,r=.tuple #[.int .u64 t44_0,.int .i64 t44_1]∧R (.tuple #[.int .u64 t44_0,.int .i64 t44_1]:Value) h3)
theorem f53L2_eq (J2:Nat→Option Addr→Sl→Int→Sl→Int→Int→Hp→Prop) (n2:Nat) (s0:Option Addr) (s9:Sl) (s10:Int) (s28:Sl) (s29:Int) (s30:Int) (g:Nat→Value) (h:Hp) (R:Value→Hp→Prop):(evC Try.prog tab lv53 (sub [1,1,1,1,1,0,1,0,0] body53)) (loopK (f53I2 J2) n2 (contAt Try.prog tab lv53 [1,1,1,1,1,0,1,0] body53 [] (bodyK Try.prog Try.f53 [] R))) (mkEnv 47 [(0,.pointer s0),(9,.slice s9.a s9.n s9.c),(10,.int .i64 s10),(28,.slice s28.a s28.n s28.c),(29,.int .i64 s29),(30,.int .i64 s30)] g) h=f53L2 J2 n2 s0 s9 s10 s28 s29 s30 g h R:=by kernel_rfl
theorem f53I2_at (J:Nat→Option Addr→Sl→Int→Sl→Int→Int→Hp→Prop) (n:Nat) (s0:Option Addr) (s9:Sl) (s10:Int) (s28:Sl) (s29:Int) (s30:Int) (g:Nat→Value) (h:Hp):f53I2 J n (mkEnv 47 [(0,.pointer s0),(9,.slice s9.a s9.n s9.c),(10,.int .i64 s10),(28,.slice s28.a s28.n s28.c),(29,.int .i64 s29),(30,.int .i64 s30)] g) h=J n s0 s9 s10 s28 s29 s30 h:=by kernel_rfl
theorem f53L2_rule  {R:Value→Hp→Prop} {s0:Option Addr} {s9:Sl} {s10:Int} {s28:Sl} {s29:Int} {s30:Int} {h0:Hp} (J:Nat→Option Addr→Sl→Int→Sl→Int→Int→Hp→Prop) (n0:Nat) (hi:J n0 s0 s9 s10 s28 s29 s30 h0)
  (hr:∀ n s0 s9 s10 s28 s29 s30 g h,J n s0 s9 s10 s28 s29 s30 h→f53L2  J n s0 s9 s10 s28 s29 s30 g h R):LoopEv (evC Try.prog tab lv53 (sub [1,1,1,1,1,0,1,0,0] body53)) (contAt Try.prog tab lv53 [1,1,1,1,1,0,1,0] body53 [] (bodyK Try.prog Try.f53 [] R)) [(0,.pointer s0),(9,.slice s9.a s9.n s9.c),(10,.int .i64 s10),(28,.slice s28.a s28.n s28.c),(29,.int .i64 s29),(30,.int .i64 s30)] 47 h0:=by
 refine ⟨f53I2 J,n0,fun g=>by rw [f53I2_at]; exact hi,fun n env h hI=>?_⟩
 clear hi
 clear s0 s9 s10 s28 s29 s30
 obtain ⟨hlen,hI⟩:=Cond_true' hI
 have hlen:env.length=47:=by simpa using hlen
 obtain ⟨s0,es0,hI⟩:=DecP.out hI
 obtain ⟨s9,es9,hI⟩:=DecL.out hI
 obtain ⟨s10,es10,hI⟩:=DecI.out hI
 obtain ⟨s28,es28,hI⟩:=DecL.out hI
 obtain ⟨s29,es29,hI⟩:=DecI.out hI
 obtain ⟨s30,es30,hI⟩:=DecI.out hI
 rw [mkEnv_of (l:=[(0,.pointer s0),(9,.slice s9.a s9.n s9.c),(10,.int .i64 s10),(28,.slice s28.a s28.n s28.c),(29,.int .i64 s29),(30,.int .i64 s30)]) hlen (by simp only [List.mem_cons,List.not_mem_nil,or_false,forall_eq_or_imp,forall_eq]; exact ⟨es0,es9,es10,es28,es29,es30⟩)]
 rw [f53L2_eq]
 exact hr n s0 s9 s10 s28 s29 s30 _ h hI
def f53F (a0:Option Addr) (a1:Sl) (h:Hp) (R:Value→Hp→Prop):Prop :=
 LoopEv (evC Try.prog tab lv53 (sub [1,1,0,1,0,0] body53)) (contAt Try.prog tab lv53 [1,1,0,1,0] body53 [] (bodyK Try.prog Try.f53 [] R)) [(0,.pointer a0),(1,.slice a1.a a1.n a1.c),(6,.int .i64 0),(13,.slice a1.a a1.n a1.c),(14,.int .i64 (((a1.n:Nat):Int))),(15,.int .i64 0)] 47 h
theorem f53F_eq (a0:Option Addr) (a1:Sl) (h:Hp) (R:Value→Hp→Prop):evF Try.prog tab lv53 Try.f53 body53 [] [.pointer a0,.slice a1.a a1.n a1.c] h R=f53F a0 a1 h R:=by kernel_rfl
theorem f53F_ok {a0:Option Addr} {a1:Sl} {h:Hp} {R:Value→Hp→Prop} (hF:f53F a0 a1 h R):CallTo Try.prog 53 #[.pointer a0,.slice a1.a a1.n a1.c] h R :=
 callTo_of_ev (lv:=lv53) (hints:=[]) (c:=body53) (args:=[.pointer a0,.slice a1.a a1.n a1.c]) mixed tab_ok Try.func53 (by kernel_rfl) (by kernel_rfl) (by rw [f53F_eq]; exact hF)
/- larder/blob.Read -/
noncomputable def body68:Code:=(Try.f68.body).getD .skip
def lv68 (m:Nat):List Nat:=[]
def f68F (a0:Option Addr) (a1:Int) (h:Hp) (R:Value→Hp→Prop):Prop :=
 CallTo Try.prog 82 #[.pointer a0,.int .u64 a1] h fun r h1=>∃ t11_0:Int,∃ t11_1:Int,r=.tuple #[.int .i64 t11_0,.int .i64 t11_1]∧Cond (t11_1 != (0:Int)) (R (.tuple #[.slice none 0 0,.int .i64 t11_1]:Value) h1) (CallTo Try.prog 83 #[.pointer a0,.int .u64 a1,.int .i64 0,.int .i64 t11_0] h1 fun r h2=>∃ t20_0:Sl,∃ t20_1:Int,r=.tuple #[.slice t20_0.a t20_0.n t20_0.c,.int .i64 t20_1]∧R (.tuple #[.slice t20_0.a t20_0.n t20_0.c,.int .i64 t20_1]:Value) h2)
theorem f68F_eq (a0:Option Addr) (a1:Int) (h:Hp) (R:Value→Hp→Prop):evF Try.prog tab lv68 Try.f68 body68 [] [.pointer a0,.int .u64 a1] h R=f68F a0 a1 h R:=by kernel_rfl
theorem f68F_ok {a0:Option Addr} {a1:Int} {h:Hp} {R:Value→Hp→Prop} (hF:f68F a0 a1 h R):CallTo Try.prog 68 #[.pointer a0,.int .u64 a1] h R :=
 callTo_of_ev (lv:=lv68) (hints:=[]) (c:=body68) (args:=[.pointer a0,.int .u64 a1]) mixed tab_ok Try.func68 (by kernel_rfl) (by kernel_rfl) (by rw [f68F_eq]; exact hF)
/- larder/blob.lay -/
noncomputable def body70:Code:=(Try.f70.body).getD .skip
def lv70 (m:Nat):List Nat:=[]
def f70F (a0:Option Addr) (a1:Sl) (h:Hp) (R:Value→Hp→Prop):Prop :=
 CallTo Try.prog 85 #[.int .i64 (((a1.n:Nat):Int))] h fun r h1=>∃ t12:Int,r=.int .i64 t12∧CallTo Try.prog 40 #[.pointer a0,.int .i64 1,.int .i64 0,.int .i64 (IntKind.wrap .i64 ((1:Int) + t12))] h1 fun r h2=>∃ t14_0:Int,∃ t14_1:Int,r=.tuple #[.int .u64 t14_0,.int .i64 t14_1]∧Cond (t14_1 != (0:Int)) (R (.tuple #[.int .u64 0,.int .i64 t14_1]:Value) h2) (CallTo Try.prog 71 #[.pointer a0,.int .u64 t14_0,.int .i64 0,.int .u64 (IntKind.wrap .u64 (((a1.n:Nat):Int)))] h2 fun r h3=>∃ t25:Int,r=.int .i64 t25∧CallTo Try.prog 86 #[.pointer a0,.int .u64 t14_0,.int .i64 8,.slice a1.a a1.n a1.c] h3 fun r h4=>∃ t29:Int,r=.int .i64 t29∧R (.tuple #[.int .u64 t14_0,.int .i64 0]:Value) h4)
theorem f70F_eq (a0:Option Addr) (a1:Sl) (h:Hp) (R:Value→Hp→Prop):evF Try.prog tab lv70 Try.f70 body70 [] [.pointer a0,.slice a1.a a1.n a1.c] h R=f70F a0 a1 h R:=by kernel_rfl
theorem f70F_ok {a0:Option Addr} {a1:Sl} {h:Hp} {R:Value→Hp→Prop} (hF:f70F a0 a1 h R):CallTo Try.prog 70 #[.pointer a0,.slice a1.a a1.n a1.c] h R :=
 callTo_of_ev (lv:=lv70) (hints:=[]) (c:=body70) (args:=[.pointer a0,.slice a1.a a1.n a1.c]) mixed tab_ok Try.func70 (by kernel_rfl) (by kernel_rfl) (by rw [f70F_eq]; exact hF)
/- larder/blob.Len -/
noncomputable def body82:Code:=(Try.f82.body).getD .skip
def lv82 (m:Nat):List Nat:=[]
def f82K1  (x0:Option Addr) (x1:Int) (x25:Bool) (h:Hp) (R:Value→Hp→Prop):Prop :=
 Cond x25 (R (.tuple #[.int .i64 0,.int .i64 40]:Value) h) (CallTo Try.prog 69 #[.pointer x0,.int .u64 x1,.int .i64 0] h fun r h2=>∃ t29_0:Int,∃ t29_1:Int,r=.tuple #[.int .u64 t29_0,.int .i64 t29_1]∧R ((.tuple #[.int .i64 (IntKind.wrap .i64 t29_0),.int .i64 0]:Value)) h2)
def f82F (a0:Option Addr) (a1:Int) (h:Hp) (R:Value→Hp→Prop):Prop :=
 CallTo Try.prog 91 #[.pointer a0,.int .u64 a1] h fun r h1=>∃ t15_0:Int,∃ t15_1:Int,∃ t15_2:Int,∃ t15_3:Int,r=.tuple #[.int .i64 t15_0,.int .i64 t15_1,.int .i64 t15_2,.int .i64 t15_3]∧Cond (t15_3 != (0:Int)) (f82K1  a0 a1 true h1 R) (f82K1  a0 a1 (t15_0 != (1:Int)) h1 R)
theorem f82F_eq (a0:Option Addr) (a1:Int) (h:Hp) (R:Value→Hp→Prop):evF Try.prog tab lv82 Try.f82 body82 [] [.pointer a0,.int .u64 a1] h R=f82F a0 a1 h R:=by kernel_rfl
theorem f82F_ok {a0:Option Addr} {a1:Int} {h:Hp} {R:Value→Hp→Prop} (hF:f82F a0 a1 h R):CallTo Try.prog 82 #[.pointer a0,.int .u64 a1] h R :=
 callTo_of_ev (lv:=lv82) (hints:=[]) (c:=body82) (args:=[.pointer a0,.int .u64 a1]) mixed tab_ok Try.func82 (by kernel_rfl) (by kernel_rfl) (by rw [f82F_eq]; exact hF)
/- larder/blob.Slice -/
noncomputable def body83:Code:=(Try.f83.body).getD .skip
def lv83 (m:Nat):List Nat:=[]
def f83K1  (x0:Option Addr) (x1:Int) (x2:Int) (x3:Int) (x40:Bool) (h:Hp) (R:Value→Hp→Prop):Prop :=
 Cond x40 (R (.tuple #[.slice none 0 0,.int .i64 42]:Value) h) (CallTo Try.prog 92 #[.pointer x0,.int .u64 x1,.int .i64 (IntKind.wrap .i64 ((8:Int) + x2)),.int .i64 x3] h fun r h2=>∃ t47_0:Sl,∃ t47_1:Int,r=.tuple #[.slice t47_0.a t47_0.n t47_0.c,.int .i64 t47_1]∧R (.tuple #[.slice t47_0.a t47_0.n t47_0.c,.int .i64 0]:Value) h2)
def f83F (a0:Option Addr) (a1:Int) (a2:Int) (a3:Int) (h:Hp) (R:Value→Hp→Prop):Prop :=
 CallTo Try.prog 82 #[.pointer a0,.int .u64 a1] h fun r h1=>∃ t17_0:Int,∃ t17_1:Int,r=.tuple #[.int .i64 t17_0,.int .i64 t17_1]∧Cond (t17_1 != (0:Int)) (R (.tuple #[.slice none 0 0,.int .i64 t17_1]:Value) h1) (Cond (decide (a2 < (0:Int))) (f83K1  a0 a1 a2 a3 true h1 R) (Cond (decide (a3 < (0:Int))) (f83K1  a0 a1 a2 a3 true h1 R) (Cond (decide (a2 > t17_0)) (f83K1  a0 a1 a2 a3 true h1 R) (f83K1  a0 a1 a2 a3 (decide (a3 > (IntKind.wrap .i64 (t17_0 - a2)))) h1 R))))
theorem f83F_eq (a0:Option Addr) (a1:Int) (a2:Int) (a3:Int) (h:Hp) (R:Value→Hp→Prop):evF Try.prog tab lv83 Try.f83 body83 [] [.pointer a0,.int .u64 a1,.int .i64 a2,.int .i64 a3] h R=f83F a0 a1 a2 a3 h R:=by kernel_rfl
theorem f83F_ok {a0:Option Addr} {a1:Int} {a2:Int} {a3:Int} {h:Hp} {R:Value→Hp→Prop} (hF:f83F a0 a1 a2 a3 h R):CallTo Try.prog 83 #[.pointer a0,.int .u64 a1,.int .i64 a2,.int .i64 a3] h R :=
 callTo_of_ev (lv:=lv83) (hints:=[]) (c:=body83) (args:=[.pointer a0,.int .u64 a1,.int .i64 a2,.int .i64 a3]) mixed tab_ok Try.func83 (by kernel_rfl) (by kernel_rfl) (by rw [f83F_eq]; exact hF)
end Go.Ev
set_option linter.all false
set_option maxRecDepth 100000
namespace Go.Ev
structure Mem where
 loc:Nat→Option Nat
 cont:Nat→List Value
structure Sep (h:Hp) (M:Mem):Prop where
 row:∀ x b,M.loc x=some b→Row h b (M.cont x)
 inj:∀ x y b,M.loc x=some b→M.loc y=some b→x=y
def Mem.own (M:Mem) (b:Nat):Prop:=∃ x,M.loc x=some b
def Mem.upd (M:Mem) (x:Nat) (b:Option Nat) (c:List Value):Mem:=⟨fun y=>if y=x then b else M.loc y,fun y=>if y=x then c else M.cont y⟩
theorem Mem.loc_self (M:Mem) (x:Nat) (b:Option Nat) (c:List Value):(M.upd x b c).loc x=b:=if_pos rfl
theorem Mem.cont_self (M:Mem) (x:Nat) (b:Option Nat) (c:List Value):(M.upd x b c).cont x=c:=if_pos rfl
theorem Mem.loc_ne (M:Mem) {x y:Nat} (b:Option Nat) (c:List Value) (h:y ≠ x):(M.upd x b c).loc y=M.loc y:=if_neg h
theorem Mem.cont_ne (M:Mem) {x y:Nat} (b:Option Nat) (c:List Value) (h:y ≠ x):(M.upd x b c).cont y=M.cont y:=if_neg h
/-- What a call that works on the parts may change. -/
def Chg (h:Hp) (M:Mem) (h':Hp) (M':Mem):Prop:=Kept M.own h h'∧∀ b,M'.own b→M.own b ∨ h.size ≤ b
section
variable {h h' h2:Hp} {M M' M2:Mem}
theorem Chg.refl (h:Hp) (M:Mem):Chg h M h M:=⟨Kept.refl _ _,fun _=>.inl⟩
theorem Chg.trans (a:Chg h M h' M') (b:Chg h' M' h2 M2):Chg h M h2 M2 :=
 ⟨⟨Nat.le_trans a.1.1 b.1.1,fun i hi hn=>(b.1.2 i (Nat.lt_of_lt_of_le hi a.1.1) fun o=>(a.2 i o).elim hn fun h=>by omega).trans (a.1.2 i hi hn)⟩,
  fun i o=>(b.2 i o).elim (a.2 i) fun h=>.inr (Nat.le_trans a.1.1 h)⟩
theorem Chg.of_kept (k:Kept (fun _=>False) h h'):Chg h M h' M:=⟨k.mono fun _ _ e=>e.elim,fun _=>.inl⟩
theorem Sep.lt (s:Sep h M) {x b:Nat} (hx:M.loc x=some b):b < h.size:=row_lt (s.row x b hx)
theorem Sep.own_lt (s:Sep h M) {b:Nat} (hb:M.own b):b < h.size:=by obtain ⟨x,hx⟩:=hb; exact s.lt hx
theorem Sep.keep (s:Sep h M) {S:Nat→Prop} (k:Kept S h h') (hS:∀ b,M.own b→¬ S b):Sep h' M:=⟨fun x b hx=>kept_row k (s.row x b hx) (hS b ⟨x,hx⟩),s.inj⟩
theorem Sep.keepN (s:Sep h M) (k:Kept (fun _=>False) h h'):Sep h' M:=s.keep k fun _ _ e=>e
theorem Sep.cell (s:Sep h M) {x b:Nat} (hx:M.loc x=some b) (o:Nat):Go.Ev.cell h ⟨b,o,none⟩=(M.cont x)[o]?:=cell_row (s.row x b hx) o
/-- One cell of a part is written. -/
theorem Sep.st (s:Sep h M) {x b o:Nat} (hx:M.loc x=some b) {a:Addr} {v:Value} (ha:a=⟨b,o,none⟩) (ho:o < (M.cont x).length) {K:Hp→Prop}
  (hK:∀ h',Sep h' (M.upd x (some b) ((M.cont x).set o v))→Chg h M h' (M.upd x (some b) ((M.cont x).set o v))→K h'):stOk h a∧Let (setc h a v) fun h'=>K h':=by
 subst ha
 refine ⟨stOk_row (s.row x b hx) ho,hK _ ⟨fun y c hy=>?_,fun y z c hy hz=>?_⟩ ⟨?_,fun c hc=>?_⟩⟩
 ·by_cases e:y=x
  ·subst e
   rw [Mem.loc_self] at hy
   obtain rfl:=Option.some.inj hy
   rw [Mem.cont_self]
   exact row_setc (s.row y b hx) o v
  ·rw [Mem.loc_ne _ _ _ e] at hy
   rw [Mem.cont_ne _ _ _ e]
   exact row_setc_ne (s.row y c hy) v fun (e':c=b)=>e (s.inj y x b (e' ▸ hy) hx)
 ·have loc:∀ w,(M.upd x (some b) ((M.cont x).set o v)).loc w=some c→M.loc w=some c:=fun w hw=>by
   by_cases e:w=x
   ·subst e; rw [Mem.loc_self] at hw; rw [hx]; exact hw
   ·rwa [Mem.loc_ne _ _ _ e] at hw
  exact s.inj y z c (loc y hy) (loc z hz)
 ·exact kept_setc h o v ⟨x,hx⟩
 ·obtain ⟨y,hy⟩:=hc
  by_cases e:y=x
  ·subst e; rw [Mem.loc_self] at hy; obtain rfl:=Option.some.inj hy; exact .inl ⟨y,hx⟩
  ·rw [Mem.loc_ne _ _ _ e] at hy; exact .inl ⟨y,hy⟩
/-- A part's block is another, new one (or none). -/
theorem Sep.renew (s:Sep h M) {x:Nat} {ob:Option Nat} {c:List Value} (k:Kept (fun b=>M.loc x=some b) h h') (hr:∀ b,ob=some b→Row h' b c) (hn:∀ b,ob=some b→M.loc x=some b ∨ h.size ≤ b) :
  Sep h' (M.upd x ob c)∧Chg h M h' (M.upd x ob c):=by
 have lo:∀ y c',y ≠ x→M.loc y=some c'→c' < h.size:=fun y c' _ hy=>s.lt hy
 refine ⟨⟨fun y c' hy=>?_,fun y z c' hy hz=>?_⟩,⟨k.mono fun b _ e=>⟨x,e⟩,fun b hb=>?_⟩⟩
 ·by_cases e:y=x
  ·subst e
   rw [Mem.loc_self] at hy
   rw [Mem.cont_self]
   exact hr c' hy
  ·rw [Mem.loc_ne _ _ _ e] at hy
   rw [Mem.cont_ne _ _ _ e]
   exact kept_row k (s.row y c' hy) fun e'=>e (s.inj y x c' hy e')
 ·by_cases e:y=x <;> by_cases e2:z=x
  ·rw [e,e2]
  ·subst e
   rw [Mem.loc_self] at hy
   rw [Mem.loc_ne _ _ _ e2] at hz
   rcases hn c' hy with h1 | h1
   ·exact absurd (s.inj z y c' hz h1) e2
   ·have:=s.lt hz; omega
  ·subst e2
   rw [Mem.loc_self] at hz
   rw [Mem.loc_ne _ _ _ e] at hy
   rcases hn c' hz with h1 | h1
   ·exact absurd (s.inj y z c' hy h1) e
   ·have:=s.lt hy; omega
  ·rw [Mem.loc_ne _ _ _ e] at hy
   rw [Mem.loc_ne _ _ _ e2] at hz
   exact s.inj y z c' hy hz
 ·obtain ⟨y,hy⟩:=hb
  by_cases e:y=x
  ·subst e
   rw [Mem.loc_self] at hy
   exact (hn b hy).imp_left fun h=>⟨y,h⟩
  ·rw [Mem.loc_ne _ _ _ e] at hy; exact .inl ⟨y,hy⟩
theorem Sep.push (s:Sep h M) (x:Nat) (arr:Array Value) (t:TypeId):Sep (h.push (.cells arr t)) (M.upd x (some h.size) arr.toList)∧Chg h M (h.push (.cells arr t)) (M.upd x (some h.size) arr.toList) :=
 s.renew (kept_push _ _ _) (fun b e=>by obtain rfl:=Option.some.inj e; exact row_new h arr t) fun b e=>.inr (by obtain rfl:=Option.some.inj e; exact Nat.le_refl _)
theorem Sep.drop (s:Sep h M) (x:Nat) (c:List Value):Sep h (M.upd x none c)∧Chg h M h (M.upd x none c):=s.renew (Kept.refl _ _) (fun b e=>by cases e) fun b e=>by cases e
end
/-- A slice over a part. -/
structure IsSl (sz:Nat) (M:Mem) (x:Nat) (s:Sl) (vs:List Value):Prop where
 len:vs.length=s.n * sz
 nil:M.loc x=none→s.a=none∧s.n=0∧s.c=0
 row:∀ b,M.loc x=some b→s.a=some (ad b)∧s.n ≤ s.c∧∃ junk,M.cont x=vs ++ junk∧vs.length + junk.length=s.c * sz
section
variable {h h':Hp} {M M':Mem} {sz x y:Nat} {s:Sl} {vs:List Value}
theorem IsSl.slAt (i:IsSl sz M x s vs) (p:Sep h M):SlAt sz h s.a s.n s.c (M.loc x) vs :=
 ⟨i.len,i.nil,fun b hb=>by obtain ⟨h1,h2,j,h3,h4⟩:=i.row b hb; exact ⟨h1,h2,j,by rw [← h3]; exact p.row x b hb,h4⟩⟩
theorem IsSl.other (i:IsSl sz M y s vs) {b:Option Nat} {c:List Value} (h:y ≠ x):IsSl sz (M.upd x b c) y s vs :=
 ⟨i.len,fun e=>i.nil (by rwa [Mem.loc_ne _ _ _ h] at e),fun b' e=>by
  rw [Mem.loc_ne _ _ _ h] at e
  rw [Mem.cont_ne _ _ _ h]
  exact i.row b' e⟩
theorem IsSl.some_of (i:IsSl sz M x s vs) (hn:vs ≠ []):∃ b,M.loc x=some b∧s.a=some (ad b):=by
 cases hl:M.loc x with
 | none =>
  have:=(i.nil hl).2.1
  have:=i.len
  exact absurd (List.length_eq_zero_iff.1 (by rw [i.len,‹s.n=0›]; omega)) hn
 | some b=>exact ⟨b,rfl,(i.row b hl).1⟩
/-- A cell of a slice. -/
theorem IsSl.at (i:IsSl sz M x s vs) (p:Sep h M) {o:Nat} {v:Value} (hv:vs[o]?=some v):∃ b,M.loc x=some b∧s.a=some (ad b)∧cell h ⟨b,o,none⟩=some v:=by
 have ho:=(List.getElem?_eq_some_iff.1 hv).1
 obtain ⟨b,hb,ha⟩:=i.some_of (fun e=>by rw [e] at ho; simp at ho)
 obtain ⟨_,_,j,h3,_⟩:=i.row b hb
 exact ⟨b,hb,ha,by rw [p.cell hb,h3,List.getElem?_append_left ho]; exact hv⟩
/-- A cell of a slice is written. -/
theorem IsSl.set (i:IsSl sz M x s vs) {b o:Nat} (hb:M.loc x=some b) (v:Value) (ho:o < vs.length):o < (M.cont x).length∧IsSl sz (M.upd x (some b) ((M.cont x).set o v)) x s (vs.set o v):=by
 obtain ⟨h1,h2,j,h3,h4⟩:=i.row b hb
 refine ⟨by rw [h3,List.length_append]; omega,⟨by rw [List.length_set]; exact i.len,(fun e=>by rw [Mem.loc_self] at e; cases e),fun b' e=>?_⟩⟩
 rw [Mem.loc_self] at e
 obtain rfl:=Option.some.inj e
 rw [Mem.cont_self]
 exact ⟨h1,h2,j,by rw [h3,List.set_append_left _ _ ho],by rw [List.length_set]; exact h4⟩
/-- append -/
theorem IsSl.app {e bys:Nat} {z:Array Value} {m:Nat} {news:List Value} {K:Option Addr→Nat→Nat→Hp→Prop} (i:IsSl sz M x s vs) (p:Sep h M) (hz:z.size=sz) (hl:news.length=m * sz) (hcell:∀ v ∈ news,isCell v=true)
  (hby:(2 * (s.n + m) + 768) * bys ≤ 2 ^ 48) (hlt:s.n + m < 2 ^ 62)
  (hK:∀ a' c' h' ob c,Sep h' (M.upd x ob c)→IsSl sz (M.upd x ob c) x ⟨a',s.n + m,c'⟩ (vs ++ news)→Chg h M h' (M.upd x ob c)→K a' (s.n + m) c' h'):appT e sz bys z s.a s.n s.c (s.n + m) news h K:=by
 refine appT_ok2 (i.slAt p) hz hl hcell hby hlt fun a' c' ob' h' s' hcase=>?_
 have fin:∀ c,(∀ b,ob'=some b→Row h' b c)→(∀ b,ob'=some b→a'=some (ad b)∧s.n + m ≤ c'∧∃ junk,c=(vs ++ news) ++ junk∧(vs ++ news).length + junk.length=c' * sz)→K a' (s.n + m) c' h':=fun c hr hs=>by
  have k:Kept (fun b=>M.loc x=some b) h h':=by
   rcases hcase with ⟨_,k⟩ | ⟨_,k⟩
   ·exact k
   ·exact k.mono fun _ _ e=>e.elim
  have hn:∀ b,ob'=some b→M.loc x=some b ∨ h.size ≤ b:=fun b e=>by
   rcases hcase with ⟨q,_⟩ | ⟨q,_⟩
   ·exact .inl (q ▸ e)
   ·rw [q] at e; obtain rfl:=Option.some.inj e; exact .inr (Nat.le_refl _)
  obtain ⟨q1,q2⟩:=p.renew (x:=x) k hr hn
  refine hK a' c' h' ob' c q1 ⟨s'.len,fun e=>?_,fun b e=>?_⟩ q2
  ·rw [Mem.loc_self] at e; exact s'.nil e
  ·rw [Mem.loc_self] at e
   rw [Mem.cont_self]
   exact hs b e
 cases ho:ob' with
 | none=>exact fin [] (fun b e=>by rw [ho] at e; cases e) fun b e=>by rw [ho] at e; cases e
 | some b =>
  obtain ⟨q1,q2,j,q3,q4⟩:=s'.row b ho
  refine fin ((vs ++ news) ++ j) (fun b' e=>?_) fun b' e=>?_
  ·rw [ho] at e; obtain rfl:=Option.some.inj e; exact q3
  ·rw [ho] at e; obtain rfl:=Option.some.inj e; exact ⟨q1,q2,j,rfl,q4⟩
/-- append of one element that lies in a new block -/
theorem IsSl.app1 {e bys:Nat} {z:Array Value} {arr:Array Value} {t:TypeId} {K:Option Addr→Nat→Nat→Hp→Prop} (i:IsSl sz M x s vs) (p:Sep h M) (hz:z.size=sz) (hl:arr.toList.length=1 * sz) (hcell:∀ v ∈ arr.toList,isCell v=true)
  (hby:(2 * (s.n + 1) + 768) * bys ≤ 2 ^ 48) (hlt:s.n + 1 < 2 ^ 62)
  (hK:∀ a' c' h' ob c,Sep h' (M.upd x ob c)→IsSl sz (M.upd x ob c) x ⟨a',s.n + 1,c'⟩ (vs ++ arr.toList)→Chg h M h' (M.upd x ob c)→K a' (s.n + 1) c' h') :
  Let (h.push (.cells arr t)) fun h2=>appSl e sz bys z s.a s.n s.c (some (nb h)) 1 h2 K:=by
 show (fun h2=>appSl e sz bys z s.a s.n s.c (some (nb h)) 1 h2 K) (h.push (.cells arr t))
 generalize e2:h.push (.cells arr t)=h2
 have e2:=e2.symm
 have k2:Kept (fun _=>False) h h2:=e2 ▸ kept_push _ _ _
 have row2:Row h2 h.size arr.toList:=e2 ▸ row_new h arr t
 exact ⟨arr.toList,reads_row row2 (fun j v hj=>by rw [Nat.zero_add]; exact hj),hl,i.app (p.keepN k2) hz hl hcell hby hlt fun a' c' h' ob c q1 q2 q3=>hK a' c' h' ob c q1 q2 ((Chg.of_kept k2).trans q3)⟩
end
end Go.Ev
set_option linter.all false
set_option maxRecDepth 100000
namespace Go.Ev
open Go.Proofs
section
variable {h h':Hp}
theorem sl_at {M:Mem} {x:Nat} {sl:Sl} {α:Type} {l:List α} {f:α→Value} (i:IsSl 1 M x sl (l.map f)) (p:Sep h M) {k:Nat} {a:α} (hk:l[k]?=some a):∃ b,M.loc x=some b∧sl.a=some (ad b)∧cell h ((ad b).add (k * 1))=some (f a)∧((0:Int) ≤ (k:Int)∧(k:Int) < ((sl.n:Nat):Int)):=by
 obtain ⟨b,hb,ha,hc⟩:=i.at p (o:=k) (v:=f a) (by rw [List.getElem?_map,hk]; rfl)
 have hl:=i.len
 rw [List.length_map] at hl
 have:=(List.getElem?_eq_some_iff.1 hk).1
 exact ⟨b,hb,ha,by rw [add_ad,Nat.mul_one]; exact hc,by omega,by omega⟩
theorem reads_kept {h h':Hp} {S:Nat→Prop} (k:Kept S h h') {a:Option Addr} {vs:List Value} (r:ReadsO h a vs) (hS:∀ p,a=some p→p.block < h.size∧¬ S p.block):ReadsO h' a vs:=by
 cases a with
 | none=>exact r
 | some p =>
  obtain ⟨h1,h2⟩:=hS p rfl
  have e:=k.2 _ h1 h2
  intro j v hv
  have:=r j v hv
  unfold cell at this ⊢
  have eb:(p.add j).block=p.block:=by unfold Addr.add; split <;> rfl
  rw [eb] at this ⊢
  rw [e]
  exact this
theorem reads_kept2 {h h':Hp} {S:Nat→Prop} (k:Kept S h h') {a:Option Addr} {vs:List Value} (r:ReadsO h a vs) (hS:∀ p,a=some p→vs ≠ []→p.block < h.size∧¬ S p.block):ReadsO h' a vs:=by
 by_cases hv:vs=[]
 ·subst hv
  cases a with
  | none=>rfl
  | some p=>intro j v hv; simp at hv
 ·exact reads_kept k r fun p hp=>hS p hp hv
theorem reads_keptN {h h':Hp} (k:Kept (fun _=>False) h h') {a:Option Addr} {vs:List Value} (r:ReadsO h a vs):ReadsO h' a vs:=by
 refine reads_kept2 k r fun p hp hv=>⟨?_,id⟩
 subst hp
 cases vs with
 | nil=>exact absurd rfl hv
 | cons v vs =>
  have h0:cell h (p.add 0)=some v:=r 0 v rfl
  unfold cell at h0
  have eb:(p.add 0).block=p.block:=by unfold Addr.add; rfl
  rw [eb] at h0
  by_cases hl:p.block < h.size
  ·exact hl
  ·rw [Array.getElem?_eq_none (by omega)] at h0
   cases h0
theorem PtrOk_mk' {o:Option Addr} {a:Addr} {K:Addr→Prop} (e:o=some a) (h:K a):PtrOk o K:=e ▸ h
theorem readsO_get {h:Hp} {a:Option Addr} {vs:List Value} (r:ReadsO h a vs) {i:Nat} {v:Value} (hv:vs[i]?=some v):∃ p,a=some p∧cell h (p.add i)=some v:=by
 cases a with
 | none =>
  have e:vs=[]:=r
  rw [e] at hv
  cases hv
 | some p=>exact ⟨p,rfl,r i v hv⟩
theorem slAt_reads {h:Hp} {a:Option Addr} {n c:Nat} {ob:Option Nat} {vs:List Value} (s:SlAt 1 h a n c ob vs):ReadsO h a vs:=by
 cases ob with
 | none =>
  have h1:=s.nil rfl
  have h2:=s.len
  rw [h1.1]
  have:vs.length=0:=by rw [h2,h1.2.1]
  exact List.length_eq_zero_iff.1 this
 | some b =>
  obtain ⟨h1,_,j,h3,_⟩:=s.row b rfl
  rw [h1]
  exact reads_row h3 fun k v hv=>by rw [Nat.zero_add,List.getElem?_append_left (List.getElem?_eq_some_iff.1 hv).1]; exact hv
theorem row_reads {h:Hp} {b:Nat} {vs:List Value} (r:Row h b vs):ReadsO h (some (ad b)) vs:=reads_row r fun j v hv=>by rw [Nat.zero_add]; exact hv
end
end Go.Ev
set_option linter.all false
set_option maxRecDepth 1000000
namespace Go.Ev
open Go.Proofs
/-- Where a heap lies. -/
structure HQ where
 hb:Nat
 role:Nat→Role
 G:Geo
 sp:List AObj
structure HSt (h:Hp) (q:HQ) (s:RS):Prop where
 rp:HRep h q.hb q.role (s.words q.sp) q.G
 v:s.Inv
def Ex (h:Hp) (q:HQ) (h':Hp) (q':HQ):Prop:=q'.hb=q.hb∧ExtO h q.role h' q'.role
/-- A call on a heap: its outcome and the change. -/
def Does (h:Hp) (q:HQ) (s':RS) (r:Value) (R:Value→Hp→Prop):Prop:=∀ h' q',HSt h' q' s'→Ex h q h' q'→R r h'
section
variable {h h' h2:Hp} {q q' q2:HQ} {s s':RS} {nd:List NodeD} {b t:List Nat} {id:Nat} {R:Value→Hp→Prop}
theorem Ex.refl (h:Hp) (q:HQ):Ex h q h q:=⟨rfl,ExtO.refl _ _⟩
theorem Ex.trans (a:Ex h q h' q') (b:Ex h' q' h2 q2):Ex h q h2 q2:=⟨b.1.trans a.1,a.2.trans b.2⟩
theorem Ex.of_kept (k:Kept N h h') (fr:∀ b,h.size ≤ b→q.role b=.out):Ex h q h' q:=⟨rfl,k.1,fun b hb ho=>⟨ho,k.2 b hb id⟩⟩
theorem Ex.kept (e:Ex h q h' q'):Kept (fun b=>q.role b ≠ .out) h h':=⟨e.2.1,fun b hb hn=>(e.2.2 b hb (Classical.byContradiction hn)).2⟩
theorem HSt.keepN (x:HSt h q s) (k:Kept N h h'):HSt h' q s:=⟨x.rp.keep k fun _ e=>e.elim,x.v⟩
theorem HSt.fr (x:HSt h q s) {b:Nat} (hb:h.size ≤ b):q.role b=.out:=x.rp.fresh b hb
theorem Ex.out (e:Ex h q h' q') {b:Nat} (hb:b < h.size) (ho:q.role b=.out):q'.role b=.out:=(e.2.2 b hb ho).1
/-! ### The heap's own calls -/
theorem c_set (x:HSt h q s) {r:Nat} (hr:r < 18446744073709551616) {i:Int} {w:Nat} (hw:w < 18446744073709551616) (hR:Does h q (s.setF r i w).1 (.int .i64 (s.setF r i w).2) R) :
  CallTo Try.prog 71 #[.pointer (some (ad q.hb)),uv r,.int .i64 i,uv w] h R :=
 hset_ok x.v x.rp hr hw fun h' role' G' rp' ex=>hR h' ⟨q.hb,role',G',q.sp⟩ ⟨rp',x.v.set _ _ hw⟩ ⟨rfl,ex⟩
theorem c_setbytes (x:HSt h q s) {r:Nat} (hr:r < 18446744073709551616) {f:Int} (hf0:-9223372036854775808 ≤ f) (hf1:f < 9223372036854775808) {a:Sl} {cs:List Nat} (hs:ReadsO h a.a (cs.map bv)) (hsn:a.n=cs.length) (hcs:Bytes8 cs)
  (hsb:∀ p,a.a=some p→cs ≠ []→q.role p.block=.out) (hn:(cs.length:Int) < 9223372036854775808) (hR:Does h q (s.setBytesF r f cs).1 (.int .i64 (s.setBytesF r f cs).2) R) :
  CallTo Try.prog 86 #[.pointer (some (ad q.hb)),uv r,.int .i64 f,.slice a.a a.n a.c] h R :=
 hsetbytes_ok x.v x.rp hr hf0 hf1 hs hsn hcs hsb hn fun h' role' G' rp' ex=>hR h' ⟨q.hb,role',G',q.sp⟩ ⟨rp',x.v.setBytes _ _ hcs⟩ ⟨rfl,ex⟩
theorem c_alloc (x:HSt h q s) {k r w:Int} (hR:Does h q (s.alloc k r w).1 (.tuple #[uv (s.alloc k r w).2.1,.int .i64 (s.alloc k r w).2.2]) R) :
  CallTo Try.prog 40 #[.pointer (some (ad q.hb)),.int .i64 k,.int .i64 r,.int .i64 w] h R :=
 halloc_ok x.v x.rp fun h' role' G' sp' rp' ex=>hR h' ⟨q.hb,role',G',sp'⟩ ⟨rp',x.v.alloc _ _ _⟩ ⟨rfl,ex⟩
theorem c_root (x:HSt h q s) (hl:s.roots.length < 100000000) {r:Nat} (hr:r < 18446744073709551616) (hR:Does h q (s.rootF r).1 (.tuple #[.int .i64 ((s.rootF r).2.1:Nat),.int .i64 (s.rootF r).2.2]) R) :
  CallTo Try.prog 66 #[.pointer (some (ad q.hb)),uv r] h R :=
 hroot_ok x.v x.rp hl hr fun h' role' G' rp' ex=>hR h' ⟨q.hb,role',G',q.sp⟩ ⟨rp',x.v.root hl⟩ ⟨rfl,ex⟩
theorem c_drop (x:HSt h q s) {n:Int} (hR:Does h q (s.dropF n).1 (.int .i64 (s.dropF n).2) R):CallTo Try.prog 63 #[.pointer (some (ad q.hb)),.int .i64 n] h R :=
 hdrop_ok x.v x.rp fun h' role' G' rp' ex=>hR h' ⟨q.hb,role',G',q.sp⟩ ⟨rp',x.v.drop _⟩ ⟨rfl,ex⟩
theorem c_collect (x:HSt h q s) (hR:Does h q s.collect (.tuple #[]) R):CallTo Try.prog 31 #[.pointer (some (ad q.hb))] h R :=
 hcollect_ok x.v x.rp fun h' role' G' sp' rp' ex=>hR h' ⟨q.hb,role',G',sp'⟩ ⟨rp',x.v.collect⟩ ⟨rfl,ex⟩
theorem c_at (x:HSt h q s) {n:Int} (hR:R (.tuple #[uv (s.atF n).1,.int .i64 (s.atF n).2]) h):CallTo Try.prog 67 #[.pointer (some (ad q.hb)),.int .i64 n] h R:=hat_ok x.v x.rp hR
/-! ### Small ones -/
theorem words_ok {n:Nat} (hn:n < 100000000) (hR:R (.int .i64 (wordsN n:Nat)) h):CallTo Try.prog 85 #[.int .i64 (n:Nat)] h R:=by
 refine f85F_ok ?_
 unfold f85F
 refine Cond_dec (fun hlt=>?_) fun hge=>⟨by omega,?_⟩
 ·have:wordsN n=0:=by unfold wordsN; omega
  rw [this] at hR
  exact hR
 ·have e:IntKind.wrap .i64 (IntKind.wrap .i64 (Int.tdiv (IntKind.wrap .i64 ((n:Int) - 1)) 8) + 1)=((wordsN n:Nat):Int):=by
   rw [wrap_i64' (x:=(n:Int) - 1) (by omega) (by omega),Int.tdiv_eq_ediv_of_nonneg (by omega),wrap_i64' (x:=((n:Int) - 1) / 8) (by omega) (by omega),wrap_i64' (by omega) (by omega)]
   unfold wordsN
   omega
  rw [e]
  exact hR
/-- Bytes to be laid: where they lie, none of the heap's own memory. -/
structure Src (h:Hp) (q:HQ) (a:Sl) (b:List Nat):Prop where
 rd:ReadsO h a.a (b.map bv)
 n:a.n=b.length
 b8:Bytes8 b
 out:∀ p,a.a=some p→b ≠ []→q.role p.block=.out∧p.block < h.size
theorem Src.ex {a:Sl} (e:Src h q a b) (x:Ex h q h' q'):Src h' q' a b :=
 ⟨reads_kept2 x.kept e.rd fun p hp hn=>(have hn':b ≠ []:=fun z=>hn (by rw [z]; rfl); ⟨(e.out p hp hn').2,fun hx=>hx (e.out p hp hn').1⟩),e.n,e.b8,fun p hp hn=>⟨x.out (e.out p hp hn).2 (e.out p hp hn).1,Nat.lt_of_lt_of_le (e.out p hp hn).2 x.2.1⟩⟩
theorem alloc_lt (s:RS) (v:s.Inv) (sh:s.Shd nd) (k r w:Int):(s.alloc k r w).2.1 < 18446744073709551616:=by
 rcases RS.alloc_cases v k r w with ⟨_,e⟩ | ⟨_,t,st,vt,e | ⟨t',ref,e,n⟩⟩
 ·rw [e]; show (0:Nat) < _; omega
 ·rw [e]; show (0:Nat) < _; omega
 ·have v':t'.Inv:=by have:=v.alloc k r w; rw [e] at this; exact this
  rw [e]
  show ref < _
  rw [← n.ref]
  exact RS.ref_lt v' (.inr ((n.here _).2 (.inl rfl)))
theorem lay_ok (x:HSt h q s) (sh:s.Shd nd) (ok:Okb b) {a:Sl} (sr:Src h q a b) (hR:Does h q (s.layF b).1 (.tuple #[uv (s.layF b).2.1,.int .i64 (s.layF b).2.2]) R) :
  CallTo Try.prog 70 #[.pointer (some (ad q.hb)),.slice a.a a.n a.c] h R:=by
 have hl:=ok.len
 have hw:wordsN b.length ≤ 513:=by unfold wordsN; omega
 refine f70F_ok ?_
 unfold f70F
 rw [sr.n]
 refine words_ok (by omega) ⟨_,rfl,?_⟩
 have e1:IntKind.wrap .i64 ((1:Int) + ((wordsN b.length:Nat):Int))=((1 + wordsN b.length:Nat):Int):=by rw [wrap_i64' (by omega) (by omega)]; omega
 rw [e1]
 have hrl:=alloc_lt s x.v sh 1 0 ((1 + wordsN b.length:Nat):Int)
 refine c_alloc x fun h1 q1 x1 ex1=>⟨_,_,rfl,?_⟩
 unfold RS.layF at hR
 by_cases h0:(s.alloc 1 0 ((1 + wordsN b.length:Nat):Int)).2.2=0
 ·rw [if_pos h0] at hR
  refine Cond_f (by rw [h0]; rfl) ?_
  have ew:IntKind.wrap .u64 ((b.length:Nat):Int)=((b.length:Nat):Int):=wrap_u64' (by omega) (by omega)
  rw [ew,← ex1.1]
  refine c_set x1 hrl (by omega) fun h2 q2 x2 ex2=>⟨_,rfl,?_⟩
  have ex12:=ex1.trans ex2
  have sr2:Src h2 q2 ⟨a.a,b.length,a.c⟩ b:=by have:=sr.ex ex12; exact ⟨this.rd,rfl,this.b8,this.out⟩
  rw [← ex2.1]
  exact c_setbytes (f:=8) (a:=⟨a.a,b.length,a.c⟩) x2 hrl (by omega) (by omega) sr2.rd sr2.n sr2.b8 (fun p hp hn=>(sr2.out p hp hn).1) (by omega) fun h3 q3 x3 ex3=>⟨_,rfl,hR h3 q3 x3 (ex12.trans ex3)⟩
 ·rw [if_neg h0] at hR
  refine Cond_t (by simpa using h0) (hR h1 q1 x1 ex1)
/-! ### Len, Slice, Read -/
theorem IsB.obj (v:s.Inv) (x:s.IsB id b) (ok:Okb b):s.objF (s.ref id)=((1,0,1 + wordsN b.length),0):=by
 unfold RS.objF
 rw [RS.ident_ref v (.inr x.here),if_neg x.nz,x.kind,x.refs,RS.raws_len x ok]
 rfl
theorem IsB.len (v:s.Inv) (x:s.IsB id b) (ok:Okb b):s.getF (s.ref id) 0=(b.length,0):=by
 have h0:(s.obj id).raws[0]?=some b.length:=by
  have hl:=RS.raws_len x ok
  have:=ok.is.h0
  rw [← x.raws,List.getD_eq_getElem?_getD,List.getElem?_eq_getElem (by omega)] at this
  rw [List.getElem?_eq_getElem (by omega)]
  exact congrArg some this
 have:=RS.getF_raw v (k:=0) x.here x.nz h0
 rw [x.refs] at this
 exact this
theorem len_ok (x:HSt h q s) (B:s.IsB id b) (ok:Okb b) (hR:R (.tuple #[.int .i64 (b.length:Nat),.int .i64 0]) h):CallTo Try.prog 82 #[.pointer (some (ad q.hb)),uv (s.ref id)] h R:=by
 have hl:=ok.len
 have hrl:=RS.ref_lt x.v (.inr B.here)
 refine f82F_ok ?_
 unfold f82F
 refine hobject_ok x.v x.rp hrl ⟨_,_,_,_,rfl,?_⟩
 rw [IsB.obj x.v B ok]
 refine Cond_f rfl ?_
 show f82K1 (some (ad q.hb)) ((s.ref id:Nat):Int) false h R
 unfold f82K1
 refine Cond_f rfl (hget_ok x.v x.rp hrl ⟨_,_,rfl,?_⟩)
 rw [IsB.len x.v B ok]
 have e:IntKind.wrap .i64 ((b.length:Nat):Int)=((b.length:Nat):Int):=wrap_i64' (by omega) (by omega)
 show R (.tuple #[.int .i64 (IntKind.wrap .i64 ((b.length:Nat):Int)),.int .i64 0]) h
 rw [e]
 exact hR
def InSp (b:List Nat) (f n:Int):Prop:=0 ≤ f∧0 ≤ n∧f ≤ (b.length:Int)∧n ≤ (b.length:Int) - f
theorem slice_ok (x:HSt h q s) (B:s.IsB id b) (ok:Okb b) {f n:Int} (hf:-9223372036854775808 ≤ f∧f < 9223372036854775808) (hn:-9223372036854775808 ≤ n∧n < 9223372036854775808)
  (hbad:¬ InSp b f n→R (.tuple #[.slice none 0 0,.int .i64 42]) h)
  (hgood:∀ c h',InSp b f n→Row h' c (((b.drop f.toNat).take n.toNat).map bv)→h.size ≤ c→Kept N h h'→R (.tuple #[.slice (some (ad c)) n.toNat n.toNat,.int .i64 0]) h') :
  CallTo Try.prog 83 #[.pointer (some (ad q.hb)),uv (s.ref id),.int .i64 f,.int .i64 n] h R:=by
 have hl:=ok.len
 have hrl:=RS.ref_lt x.v (.inr B.here)
 refine f83F_ok ?_
 unfold f83F
 refine len_ok x B ok ⟨_,_,rfl,Cond_f rfl ?_⟩
 have bad:¬ InSp b f n→f83K1 (some (ad q.hb)) ((s.ref id:Nat):Int) f n true h R:=fun hn=>by unfold f83K1; exact Cond_t rfl (hbad hn)
 refine Cond_dec (fun hc=>bad fun hi=>by have:=hi.1; omega) fun c1=>Cond_dec (fun hc=>bad fun hi=>by have:=hi.2.1; omega) fun c2=>Cond_dec (fun hc=>bad fun hi=>by have:=hi.2.2.1; omega) fun c3=>?_
 rw [wrap_i64' (x:=((b.length:Nat):Int) - f) (by omega) (by omega)]
 by_cases c4:n > ((b.length:Nat):Int) - f
 ·rw [decide_eq_true c4]
  exact bad fun hi=>by have:=hi.2.2.2; omega
 ·rw [decide_eq_false c4]
  have hin:InSp b f n:=⟨by omega,by omega,by omega,by omega⟩
  unfold f83K1
  have e8:IntKind.wrap .i64 ((8:Int) + f)=8 + f:=wrap_i64' (by omega) (by omega)
  rw [e8]
  refine Cond_f rfl (hbytes_ok x.v x.rp hrl hn.1 (by omega) hn.2 (by omega) (fun hno=>absurd ?_ hno) fun c h' hs row hc k=>⟨⟨_,_,_⟩,_,rfl,?_⟩)
  ·unfold RS.spanOk
   rw [RS.ident_ref x.v (.inr B.here),RS.raws_len B ok]
   refine ⟨B.nz,by omega,by omega,?_⟩
   unfold wordsN
   omega
  ·refine hgood c h' hin ?_ hc k
   rw [RS.ident_ref x.v (.inr B.here),B.raws] at row
   have e:((List.range n.toNat).map fun j=>bv (byteAt (blobRaws b) ((8 + f).toNat + j)))=((b.drop f.toNat).take n.toNat).map bv:=by
    apply List.ext_getElem?
    intro j
    rw [List.getElem?_map,List.getElem?_map]
    by_cases hj:j < n.toNat
    ·rw [List.getElem?_range hj,List.getElem?_take_of_lt hj,List.getElem?_drop,List.getElem?_eq_getElem (by omega)]
     show some (bv (byteAt (blobRaws b) ((8 + f).toNat + j)))=some (bv _)
     rw [show (8 + f).toNat + j=8 + (f.toNat + j) by omega,ok.is.at_ _ (by unfold wordsN; omega),List.getD_eq_getElem?_getD,List.getElem?_eq_getElem (by omega)]
     rfl
    ·rw [List.getElem?_eq_none (by simp; omega),List.getElem?_eq_none (by simp; omega)]; rfl
   rw [e] at row
   exact row
theorem read_ok (x:HSt h q s) (B:s.IsB id b) (ok:Okb b) (hR:∀ c h',Row h' c (b.map bv)→h.size ≤ c→Kept N h h'→R (.tuple #[.slice (some (ad c)) b.length b.length,.int .i64 0]) h') :
  CallTo Try.prog 68 #[.pointer (some (ad q.hb)),uv (s.ref id)] h R:=by
 have hl:=ok.len
 refine f68F_ok ?_
 unfold f68F
 refine len_ok x B ok ⟨_,_,rfl,Cond_f rfl ?_⟩
 refine slice_ok x B ok ⟨by omega,by omega⟩ ⟨by omega,by omega⟩ (fun hn=>absurd ⟨by omega,by omega,by omega,by omega⟩ hn) fun c h' _ row hc k=>⟨⟨_,_,_⟩,_,rfl,?_⟩
 rw [Int.toNat_natCast] at row
 have e:(b.drop (0:Int).toNat).take b.length=b:=by
  show (b.drop 0).take b.length=b
  rw [List.drop_zero,List.take_length]
 rw [e] at row
 exact hR c h' row hc k
end
end Go.Ev
