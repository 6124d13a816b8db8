/- The program's list: link, unlink, over the heap's graph / The program's list: lay, Insert, Push, over the heap's graph / Strings of bytes and lists of bytes / The program's list: Push, Pop, Get, Set, Cut, Slice, over the heap's graph / Printed by a program (own work) out of the loaded functions: what each says of the heap, and that the evaluator says the same. No condition but that these are ones. -/
import Derived.Test.YtngcoodbepbhbaaE17
import Derived.Test.YtngcoodbepbhbaaE4
import Derived.Test.YtngcoodbepbhbaaE15
import Derived.Test.YtngcoodbepbhbaaE14
import Derived.Laws.Strings
set_option linter.all false
set_option maxRecDepth 1000000
namespace Go.Ev
open Go.Proofs
section
variable {h h' h2:Hp} {q q':HQ} {s s':RS} {nd nd':List NodeD} {n:NodeD} {id lb hn:Nat} {L:LD} {R:Value→Hp→Prop} {b:List Nat}
theorem lsetE (x:Gs h q s nd) (l:Lst h q lb hn) (hm:nd[id]?=some n) (hh:s.here id) {k t:Nat} (ht:t=0 ∨ s.here t) (hk:k < n.refs.length) {i:Int} (hi:i=(k:Int)) {r1 r2:Nat} (e1:r1=s.ref id) (e2:r2=s.ref t)
  (hR:∀ h' q' s',Gs h' q' s' (nd.set id ⟨n.kind,n.refs.set k t,n.raws⟩)→s'.Alk s→s'.roots=s.roots→Ex h q h' q'→R (.tuple #[]) h') :
  CallTo Try.prog 54 #[.pointer (some (ad lb)),uv r1,.int .i64 i,uv r2] h R:=by
 subst e1 e2; exact lset x l hm hh ht hk hi hR
theorem lsetwE (x:Gs h q s nd) (l:Lst h q lb hn) (hm:nd[id]?=some n) (hh:s.here id) {k w:Nat} (hw:w < 18446744073709551616) (hk:k < n.raws.length) {i:Int} (hi:i=((n.refs.length + k:Nat):Int)) {r1:Nat} (e1:r1=s.ref id)
  (hR:∀ h' q' s',Gs h' q' s' (nd.set id ⟨n.kind,n.refs,n.raws.set k w⟩)→s'.Alk s→s'.roots=s.roots→Ex h q h' q'→R (.tuple #[]) h') :
  CallTo Try.prog 54 #[.pointer (some (ad lb)),uv r1,.int .i64 i,uv w] h R:=by
 subst e1; exact lsetw x l hm hh hw hk hi hR
theorem lgetwE (x:Gs h q s nd) (l:Lst h q lb hn) (hm:nd[id]?=some n) (hh:s.here id) {k w:Nat} (hk:n.raws[k]?=some w) {i:Int} (hi:i=((n.refs.length + k:Nat):Int)) {r1:Nat} (e1:r1=s.ref id) (hR:R (uv w) h) :
  CallTo Try.prog 47 #[.pointer (some (ad lb)),uv r1,.int .i64 i] h R:=by
 subst e1; exact lgetw x l hm hh hk hi hR
/-- What a change of fields leaves. -/
structure Fld (h:Hp) (q:HQ) (s:RS) (nd:List NodeD) (h':Hp) (q':HQ) (s':RS) (nd':List NodeD):Prop where
 g:Gs h' q' s' nd'
 al:s'.Alk s
 rt:s'.roots=s.roots
 ex:Ex h q h' q'
 len:nd'.length=nd.length
theorem Fld.trans {h3:Hp} {q3:HQ} {s3:RS} {nd3:List NodeD} (a:Fld h q s nd h' q' s' nd') (b:Fld h' q' s' nd' h3 q3 s3 nd3):Fld h q s nd h3 q3 s3 nd3 :=
 ⟨b.g,b.al.trans a.al,b.rt.trans a.rt,a.ex.trans b.ex,b.len.trans a.len⟩
theorem Fld.refl (g:Gs h q s nd):Fld h q s nd h q s nd:=⟨g,RS.Alk.refl _,rfl,Ex.refl _ _,rfl⟩
theorem Fld.here (f:Fld h q s nd h' q' s' nd') {x:Nat} (hx:s.here x):s'.here x:=(f.al.here x).2 hx
theorem Fld.here0 (f:Fld h q s nd h' q' s' nd') {x:Nat} (hx:x=0 ∨ s.here x):x=0 ∨ s'.here x:=hx.imp_right f.here
theorem Fld.ref (f:Fld h q s nd h' q' s' nd') (x:Nat):s.ref x=s'.ref x:=(f.al.ref x).symm
/-- One field more. -/
theorem fset (f:Fld h q s nd h' q' s' nd') (l:Lst h q lb hn) (hm:nd'[id]?=some n) (hh:s.here id) {k t:Nat} (ht:t=0 ∨ s.here t) (hk:k < n.refs.length) {i:Int} (hi:i=(k:Int))
  (hR:∀ h2 q2 s2 nd2,Fld h q s nd h2 q2 s2 nd2→(∀ x,nd2[x]?=if x=id then some ⟨n.kind,n.refs.set k t,n.raws⟩ else nd'[x]?)→R (.tuple #[]) h2) :
  CallTo Try.prog 54 #[.pointer (some (ad lb)),uv (s.ref id),.int .i64 i,uv (s.ref t)] h' R :=
 lsetE f.g (l.ex f.ex) hm (f.here hh) (f.here0 ht) hk hi (f.ref _) (f.ref _) fun h2 q2 s2 g2 al er ex=>hR h2 q2 s2 _ (f.trans ⟨g2,al,er,ex,List.length_set ..⟩) fun x=>set_at hm _ x
theorem fsetw (f:Fld h q s nd h' q' s' nd') (l:Lst h q lb hn) (hm:nd'[id]?=some n) (hh:s.here id) {k w:Nat} (hw:w < 18446744073709551616) (hk:k < n.raws.length) {i:Int} (hi:i=((n.refs.length + k:Nat):Int))
  (hR:∀ h2 q2 s2 nd2,Fld h q s nd h2 q2 s2 nd2→(∀ x,nd2[x]?=if x=id then some ⟨n.kind,n.refs,n.raws.set k w⟩ else nd'[x]?)→R (.tuple #[]) h2) :
  CallTo Try.prog 54 #[.pointer (some (ad lb)),uv (s.ref id),.int .i64 i,uv w] h' R :=
 lsetwE f.g (l.ex f.ex) hm (f.here hh) hw hk hi (f.ref _) fun h2 q2 s2 g2 al er ex=>hR h2 q2 s2 _ (f.trans ⟨g2,al,er,ex,List.length_set ..⟩) fun x=>set_at hm _ x
theorem fgetw (f:Fld h q s nd h' q' s' nd') (l:Lst h q lb hn) (hm:nd'[id]?=some n) (hh:s.here id) {k w:Nat} (hk:n.raws[k]?=some w) {i:Int} (hi:i=((n.refs.length + k:Nat):Int)) (hR:R (uv w) h') :
  CallTo Try.prog 47 #[.pointer (some (ad lb)),uv (s.ref id),.int .i64 i] h' R :=
 lgetwE f.g (l.ex f.ex) hm (f.here hh) hk hi (f.ref _) hR
theorem llink (o:Opn h q s nd lb hn L) {i v b:Nat} (hi:i ≤ L.rows.length) (hv:nd[v]?=some ⟨3,[0,0,b],[]⟩) (hhv:s.here v) (nv:v ∉ L.all)
  (hR:∀ h' q' s' nd',Fld h q s nd h' q' s' nd'→(∀ x,nd'[x]?=if x=v then some ⟨3,[pv L.ns i,nx L.ns i,b],[]⟩
   else if x=L.hd then some ⟨2,[if i=0 then v else nx L.ns 0,if i=L.rows.length then v else pv L.ns L.rows.length],[L.rows.length + 1]⟩
   else if x=nx L.ns i∧i < L.rows.length then some ⟨3,[v,nx L.ns (i + 1),nx L.bs i],[]⟩ else if x=pv L.ns i∧0 < i then some ⟨3,[pv L.ns (i - 1),v,nx L.bs (i - 1)],[]⟩ else nd[x]?)→R (.tuple #[]) h') :
  CallTo Try.prog 44 #[.pointer (some (ad lb)),uv (s.ref v),uv (s.ref (nx L.ns i))] h R:=by
 have c:=o.c
 have hl:=o.len
 have hln:=c.ln
 have vh:v ≠ L.hd:=fun e=>nv (e ▸ List.mem_cons_self ..)
 have v_ns:∀ j,j < L.rows.length→nx L.ns j ≠ v:=fun j hj e=>nv (e ▸ List.mem_cons_of_mem _ (List.mem_append_left _ (nx_mem (by omega))))
 have hp:=o.pv0 i
 have hx:=o.nx0 i
 refine f44F_ok ?_
 unfold f44F
 refine lref o ⟨_,rfl,lget o.g o.l c.hn o.hh (k:=1) rfl rfl ⟨_,rfl,?_⟩⟩
 -- the last part
 have k2:∀ h1 q1 s1 nd1,Fld h q s nd h1 q1 s1 nd1→(∀ x,nd1[x]?=if x=L.hd then some ⟨2,[if i=0 then v else nx L.ns 0,if i=L.rows.length then v else pv L.ns L.rows.length],[L.rows.length]⟩
   else if x=nx L.ns i∧i < L.rows.length then some ⟨3,[v,nx L.ns (i + 1),nx L.bs i],[]⟩ else if x=pv L.ns i∧0 < i then some ⟨3,[pv L.ns (i - 1),v,nx L.bs (i - 1)],[]⟩ else nd[x]?) →
   f44K2 (some (ad lb)) ((s.ref v:Nat):Int) ((s.ref (nx L.ns i):Nat):Int) ((s.ref L.hd:Nat):Int) ((s.ref (pv L.ns i):Nat):Int) h1 R:=fun h1 q1 s1 nd1 f1 v1=>by
  unfold f44K2
  have hv1:nd1[v]?=some ⟨3,[0,0,b],[]⟩:=by
   rw [v1,if_neg vh,if_neg fun z=>v_ns i z.2 z.1.symm,if_neg fun z=>v_ns (i - 1) (by omega) (by rw [← pv_eq i (by omega)]; exact z.1.symm)]; exact hv
  refine fset f1 o.l hv1 hhv hp (k:=0) (show 0 < [0,0,b].length by simp) rfl fun h2 q2 s2 nd2 f2 v2=>⟨rfl,?_⟩
  have hv2:nd2[v]?=some ⟨3,[pv L.ns i,0,b],[]⟩:=by rw [v2,if_pos rfl]; rfl
  refine fset f2 o.l hv2 hhv hx (k:=1) (show 1 < [pv L.ns i,0,b].length by simp) rfl fun h3 q3 s3 nd3 f3 v3=>⟨rfl,?_⟩
  have hd3:nd3[L.hd]?=some ⟨2,[if i=0 then v else nx L.ns 0,if i=L.rows.length then v else pv L.ns L.rows.length],[L.rows.length]⟩:=by
   rw [v3,if_neg (Ne.symm vh),v2,if_neg (Ne.symm vh),v1,if_pos rfl]
  refine fgetw f3 o.l hd3 o.hh (k:=0) rfl rfl ⟨_,rfl,?_⟩
  have ew:IntKind.wrap .u64 (((L.rows.length:Nat):Int) + 1)=((L.rows.length + 1:Nat):Int):=by rw [wrap_u64' (by omega) (by omega)]; omega
  rw [ew]
  refine fsetw f3 o.l hd3 o.hh (k:=0) (by omega) (show 0 < [L.rows.length].length by simp) rfl fun h4 q4 s4 nd4 f4 v4=>⟨rfl,hR h4 q4 s4 nd4 f4 fun x=>?_⟩
  rw [v4,v3,v2,v1]
  by_cases e1:x=v
  ·subst e1
   rw [if_neg vh,if_pos rfl,if_pos rfl]
   rfl
  ·by_cases e2:x=L.hd
   ·rw [if_pos e2,if_neg e1,if_pos e2]
    rfl
   ·rw [if_neg e2,if_neg e1,if_neg e1,if_neg e2,if_neg e1,if_neg e2]
 -- the part ahead of it
 have k1:∀ h1 q1 s1 nd1,Fld h q s nd h1 q1 s1 nd1→(∀ x,nd1[x]?=if x=L.hd then some ⟨2,[nx L.ns 0,if i=L.rows.length then v else pv L.ns L.rows.length],[L.rows.length]⟩
   else if x=nx L.ns i∧i < L.rows.length then some ⟨3,[v,nx L.ns (i + 1),nx L.bs i],[]⟩ else nd[x]?) →
   f44K1 (some (ad lb)) ((s.ref v:Nat):Int) ((s.ref (nx L.ns i):Nat):Int) ((s.ref L.hd:Nat):Int) ((s.ref (pv L.ns i):Nat):Int) h1 R:=fun h1 q1 s1 nd1 f1 v1=>by
  unfold f44K1
  by_cases h0:i=0
  ·refine Cond_f (by rw [h0,pv_zero,RS.ref_zero]; rfl) ?_
   have hd1:nd1[L.hd]?=some ⟨2,[nx L.ns 0,if i=L.rows.length then v else pv L.ns L.rows.length],[L.rows.length]⟩:=by rw [v1,if_pos rfl]
   refine fset f1 o.l hd1 o.hh (.inr hhv) (k:=0) (show 0 < [nx L.ns 0,_].length by simp) rfl fun h2 q2 s2 nd2 f2 v2=>⟨rfl,k2 h2 q2 s2 nd2 f2 fun x=>?_⟩
   rw [v2,v1]
   by_cases e2:x=L.hd
   ·rw [if_pos e2,if_pos e2,if_pos h0]; rfl
   ·rw [if_neg e2,if_neg e2,if_neg e2,if_neg (c:=x=pv L.ns i∧0 < i) fun z=>by omega]
  ·have hpi:pv L.ns i=nx L.ns (i - 1):=pv_eq i h0
   have hph:s.here (pv L.ns i):=by rw [hpi]; exact o.hn' (by omega)
   refine Cond_t (by rw [bne_iff_ne]; have:=RS.ref_nz o.g.v hph; omega) ?_
   have hp1:nd1[pv L.ns i]?=some ⟨3,[pv L.ns (i - 1),nx L.ns i,nx L.bs (i - 1)],[]⟩:=by
    rw [v1,if_neg (by rw [hpi]; exact c.n_h (by omega)),if_neg fun z=>by rw [hpi] at z; have:=nx_inj c.ids.2.2.1 (by omega) (by omega) z.1; omega,hpi]
    have:=c.nn (i - 1) (by omega)
    rw [show i - 1 + 1=i by omega] at this
    exact this
   refine fset f1 o.l hp1 hph (.inr hhv) (k:=1) (show 1 < [pv L.ns (i - 1),nx L.ns i,nx L.bs (i - 1)].length by simp) rfl fun h2 q2 s2 nd2 f2 v2=>⟨rfl,k2 h2 q2 s2 nd2 f2 fun x=>?_⟩
   rw [v2,v1]
   have hpd:pv L.ns i ≠ L.hd:=by rw [hpi]; exact c.n_h (by omega)
   by_cases e1:x=pv L.ns i
   ·rw [if_pos e1,if_neg (by rw [e1]; exact hpd),if_neg fun z=>by rw [e1,hpi] at z; have:=nx_inj c.ids.2.2.1 (by omega) (by omega) z.1; omega,if_pos ⟨e1,by omega⟩]
    rfl
   ·rw [if_neg e1]
    by_cases e2:x=L.hd
    ·rw [if_pos e2,if_pos e2,if_neg h0]
    ·rw [if_neg e2,if_neg e2,if_neg (c:=x=pv L.ns i∧0 < i) fun z=>e1 z.1]
 by_cases hlt:i < L.rows.length
 ·have hxh:=o.hn' hlt
  refine Cond_t (by rw [bne_iff_ne]; have:=RS.ref_nz o.g.v hxh; omega) (lget o.g o.l (c.nn i hlt) hxh (k:=0) rfl rfl ⟨_,rfl,?_⟩)
  refine fset (Fld.refl o.g) o.l (c.nn i hlt) hxh (.inr hhv) (k:=0) (show 0 < [pv L.ns i,nx L.ns (i + 1),nx L.bs i].length by simp) rfl fun h1 q1 s1 nd1 f1 v1=>⟨rfl,k1 h1 q1 s1 nd1 f1 fun x=>?_⟩
  rw [v1]
  by_cases e1:x=nx L.ns i
  ·rw [if_pos e1,if_neg (by rw [e1]; exact c.n_h hlt),if_pos ⟨e1,hlt⟩]; rfl
  ·rw [if_neg e1,if_neg (c:=x=nx L.ns i∧i < L.rows.length) fun z=>e1 z.1]
   by_cases e2:x=L.hd
   ·rw [if_pos e2,e2,c.hn,if_neg (by omega)]
   ·rw [if_neg e2]
 ·have hil:i=L.rows.length:=by omega
  have hx0:nx L.ns i=0:=nx_out (by omega)
  refine Cond_f (by rw [hx0,RS.ref_zero]; rfl) ?_
  refine fset (Fld.refl o.g) o.l c.hn o.hh (.inr hhv) (k:=1) (show 1 < [nx L.ns 0,pv L.ns L.rows.length].length by simp) rfl fun h1 q1 s1 nd1 f1 v1=>⟨rfl,?_⟩
  have:=k1 h1 q1 s1 nd1 f1 fun x=>by
   rw [v1]
   by_cases e2:x=L.hd
   ·rw [if_pos e2,if_pos e2,if_pos hil]; rfl
   ·rw [if_neg e2,if_neg e2,if_neg fun z=>by omega]
  rw [hil] at this ⊢
  exact this
theorem lunlink (o:Opn h q s nd lb hn L) {i:Nat} (hi:i < L.rows.length)
  (hR:∀ h' q' s' nd',Fld h q s nd h' q' s' nd'→(∀ x,nd'[x]?=if x=L.hd then some ⟨2,[if i=0 then nx L.ns 1 else nx L.ns 0,if i + 1=L.rows.length then pv L.ns i else pv L.ns L.rows.length],[L.rows.length - 1]⟩
   else if x=nx L.ns (i + 1)∧i + 1 < L.rows.length then some ⟨3,[pv L.ns i,nx L.ns (i + 2),nx L.bs (i + 1)],[]⟩ else if x=pv L.ns i∧0 < i then some ⟨3,[pv L.ns (i - 1),nx L.ns (i + 1),nx L.bs (i - 1)],[]⟩ else nd[x]?) →
   R (uv (s.ref (nx L.ns (i + 1)))) h') :
  CallTo Try.prog 52 #[.pointer (some (ad lb)),uv (s.ref (nx L.ns i))] h R:=by
 have c:=o.c
 have hl:=o.len
 have hln:=c.ln
 have hp:=o.pv0 i
 have hx:=o.nx0 (i + 1)
 refine f52F_ok ?_
 unfold f52F
 refine lref o ⟨_,rfl,lget o.g o.l (c.nn i hi) (o.hn' hi) (k:=0) rfl rfl ⟨_,rfl,lget o.g o.l (c.nn i hi) (o.hn' hi) (k:=1) rfl rfl ⟨_,rfl,?_⟩⟩⟩
 have k2:∀ h1 q1 s1 nd1,Fld h q s nd h1 q1 s1 nd1→(∀ x,nd1[x]?=if x=L.hd then some ⟨2,[if i=0 then nx L.ns 1 else nx L.ns 0,if i + 1=L.rows.length then pv L.ns i else pv L.ns L.rows.length],[L.rows.length]⟩
   else if x=nx L.ns (i + 1)∧i + 1 < L.rows.length then some ⟨3,[pv L.ns i,nx L.ns (i + 2),nx L.bs (i + 1)],[]⟩ else if x=pv L.ns i∧0 < i then some ⟨3,[pv L.ns (i - 1),nx L.ns (i + 1),nx L.bs (i - 1)],[]⟩ else nd[x]?) →
   f52K2 (some (ad lb)) ((s.ref L.hd:Nat):Int) ((s.ref (nx L.ns (i + 1)):Nat):Int) h1 R:=fun h1 q1 s1 nd1 f1 v1=>by
  unfold f52K2
  have hd1:nd1[L.hd]?=some ⟨2,[if i=0 then nx L.ns 1 else nx L.ns 0,if i + 1=L.rows.length then pv L.ns i else pv L.ns L.rows.length],[L.rows.length]⟩:=by rw [v1,if_pos rfl]
  refine fgetw f1 o.l hd1 o.hh (k:=0) rfl rfl ⟨_,rfl,?_⟩
  have ew:IntKind.wrap .u64 (((L.rows.length:Nat):Int) - 1)=((L.rows.length - 1:Nat):Int):=by rw [wrap_u64' (by omega) (by omega)]; omega
  rw [ew]
  refine fsetw f1 o.l hd1 o.hh (k:=0) (by omega) (show 0 < [L.rows.length].length by simp) rfl fun h4 q4 s4 nd4 f4 v4=>⟨rfl,hR h4 q4 s4 nd4 f4 fun x=>?_⟩
  rw [v4,v1]
  by_cases e2:x=L.hd
  ·rw [if_pos e2,if_pos e2]; rfl
  ·rw [if_neg e2,if_neg e2,if_neg e2]
 have k1:∀ h1 q1 s1 nd1,Fld h q s nd h1 q1 s1 nd1→(∀ x,nd1[x]?=if x=L.hd then some ⟨2,[if i=0 then nx L.ns 1 else nx L.ns 0,pv L.ns L.rows.length],[L.rows.length]⟩
   else if x=pv L.ns i∧0 < i then some ⟨3,[pv L.ns (i - 1),nx L.ns (i + 1),nx L.bs (i - 1)],[]⟩ else nd[x]?) →
   f52K1 (some (ad lb)) ((s.ref L.hd:Nat):Int) ((s.ref (pv L.ns i):Nat):Int) ((s.ref (nx L.ns (i + 1)):Nat):Int) h1 R:=fun h1 q1 s1 nd1 f1 v1=>by
  unfold f52K1
  by_cases hlast:i + 1 < L.rows.length
  ·have hxh:=o.hn' hlast
   refine Cond_t (by rw [bne_iff_ne]; have:=RS.ref_nz o.g.v hxh; omega) ?_
   have hx1:nd1[nx L.ns (i + 1)]?=some ⟨3,[nx L.ns i,nx L.ns (i + 2),nx L.bs (i + 1)],[]⟩:=by
    rw [v1,if_neg (c.n_h hlast),if_neg fun z=>by rw [pv_eq i (by omega)] at z; have:=nx_inj c.ids.2.2.1 (by omega) (by omega) z.1; omega]
    exact c.nn (i + 1) hlast
   refine fset f1 o.l hx1 hxh hp (k:=0) (show 0 < [nx L.ns i,nx L.ns (i + 2),nx L.bs (i + 1)].length by simp) rfl fun h2 q2 s2 nd2 f2 v2=>⟨rfl,k2 h2 q2 s2 nd2 f2 fun x=>?_⟩
   rw [v2,v1]
   by_cases e1:x=nx L.ns (i + 1)
   ·rw [if_pos e1,if_neg (by rw [e1]; exact c.n_h hlast),if_pos ⟨e1,hlast⟩]; rfl
   ·rw [if_neg e1,if_neg (c:=x=nx L.ns (i + 1)∧i + 1 < L.rows.length) fun z=>e1 z.1]
    by_cases e2:x=L.hd
    ·rw [if_pos e2,if_pos e2,if_neg (c:=i + 1=L.rows.length) (by omega)]
    ·rw [if_neg e2,if_neg e2]
  ·have hil:i + 1=L.rows.length:=by omega
   have hx0:nx L.ns (i + 1)=0:=nx_out (by omega)
   refine Cond_f (by rw [hx0,RS.ref_zero]; rfl) ?_
   have hd1:nd1[L.hd]?=some ⟨2,[if i=0 then nx L.ns 1 else nx L.ns 0,pv L.ns L.rows.length],[L.rows.length]⟩:=by rw [v1,if_pos rfl]
   refine fset f1 o.l hd1 o.hh hp (k:=1) (show 1 < [_,pv L.ns L.rows.length].length by simp) rfl fun h2 q2 s2 nd2 f2 v2=>⟨rfl,k2 h2 q2 s2 nd2 f2 fun x=>?_⟩
   rw [v2,v1]
   by_cases e2:x=L.hd
   ·rw [if_pos e2,if_pos e2,if_pos hil]; rfl
   ·rw [if_neg e2,if_neg e2,if_neg e2,if_neg (c:=x=nx L.ns (i + 1)∧i + 1 < L.rows.length) fun z=>by omega]
 by_cases h0:i=0
 ·refine Cond_f (by rw [h0,pv_zero,RS.ref_zero]; rfl) ?_
  refine fset (Fld.refl o.g) o.l c.hn o.hh hx (k:=0) (show 0 < [nx L.ns 0,pv L.ns L.rows.length].length by simp) rfl fun h1 q1 s1 nd1 f1 v1=>⟨rfl,k1 h1 q1 s1 nd1 f1 fun x=>?_⟩
  rw [v1]
  by_cases e2:x=L.hd
  ·rw [if_pos e2,if_pos e2,if_pos h0,h0]; rfl
  ·rw [if_neg e2,if_neg e2,if_neg (c:=x=pv L.ns i∧0 < i) fun z=>by omega]
 ·have hpi:pv L.ns i=nx L.ns (i - 1):=pv_eq i h0
  have hph:s.here (pv L.ns i):=by rw [hpi]; exact o.hn' (by omega)
  refine Cond_t (by rw [bne_iff_ne]; have:=RS.ref_nz o.g.v hph; omega) ?_
  have hpn:nd[pv L.ns i]?=some ⟨3,[pv L.ns (i - 1),nx L.ns i,nx L.bs (i - 1)],[]⟩:=by
   rw [hpi]
   have:=c.nn (i - 1) (by omega)
   rw [show i - 1 + 1=i by omega] at this
   exact this
  refine fset (Fld.refl o.g) o.l hpn hph hx (k:=1) (show 1 < [pv L.ns (i - 1),nx L.ns i,nx L.bs (i - 1)].length by simp) rfl fun h1 q1 s1 nd1 f1 v1=>⟨rfl,k1 h1 q1 s1 nd1 f1 fun x=>?_⟩
  rw [v1]
  have hpd:pv L.ns i ≠ L.hd:=by rw [hpi]; exact c.n_h (by omega)
  by_cases e1:x=pv L.ns i
  ·rw [if_pos e1,if_neg (by rw [e1]; exact hpd),if_pos ⟨e1,by omega⟩]; rfl
  ·rw [if_neg e1,if_neg (c:=x=pv L.ns i∧0 < i) fun z=>e1 z.1]
   by_cases e2:x=L.hd
   ·rw [if_pos e2,e2,c.hn,if_neg h0]
   ·rw [if_neg e2]
end
end Go.Ev
set_option linter.all false
set_option maxRecDepth 1000000
namespace Go.Ev
open Go.Proofs
section
variable {h h' h2:Hp} {q q' q2:HQ} {s s' s2:RS} {nd nd' nd2:List NodeD} {n:NodeD} {id lb hn:Nat} {L L':LD} {R:Value→Hp→Prop} {b:List Nat} {ids:List Nat}
theorem Gs.lt (x:Gs h q s nd) (hh:s.here id):id < nd.length:=by rw [x.sh.len]; exact x.v.here_lt hh
theorem Gs.pos (x:Gs h q s nd):1 ≤ nd.length:=by rw [x.sh.len]; exact x.v.ob
theorem Gs.room (x:Gs h q s nd) (lv:Lv nd s.roots ids) (r w:Nat):s.Room r w ↔ roomK s.limit (1 + RS.liveS nd ids) (RS.liveB nd ids) (1 + r + w):=RS.room_live x.v x.sh lv r w
theorem Gs.lvlt (x:Gs h q s nd) (lv:Lv nd s.roots ids):∀ y ∈ ids,y < nd.length:=fun y hy=>x.lt (x.here ((lv.iff y).1 hy))
theorem Gs.leaf (x:Gs h q s nd) (lv:Lv nd s.roots ids) {m:NodeD} (hm:∀ r ∈ m.refs,r=0):Lv (nd ++ [m]) (rootL s.roots nd.length) (ids ++ [nd.length]):=by
 refine lv.leaf (x.lvlt lv) hm (by have:=x.pos; omega) (fun y hy=>?_) fun y hy m hm z hz=>?_
 ·rcases x.v.rt y hy with e | h
  ·have:=x.pos; omega
  ·exact x.lt h
 ·rcases RS.g_refs_here x.v x.sh hm (x.here ((lv.iff y).1 hy)) hz with e | h
  ·have:=x.pos; omega
  ·exact x.lt h
theorem q_dropD (x:Gs h q s nd) {m:Nat} (hm:1 ≤ m) (hd:s.roots.getD (m - 1) none=some id)
  (hR:∀ h' q' s',Gs h' q' s' nd→s'.Alk s→s'.roots=s.roots.set (m - 1) none→Ex h q h' q'→R (.int .i64 0) h') :
  DCallTo Try.prog 63 #[.pointer (some (ad q.hb)),.int .i64 (m:Int)] h R:=by
 refine f63F_okD (hdrop_F x.v x.st.rp fun h' role' G' rp' ex=>?_)
 have e:=RS.g_drop s hm hd
 have v':=x.v.drop (m:Int)
 rw [e] at rp' v' ⊢
 exact hR h' ⟨q.hb,role',G',q.sp⟩ _ ⟨⟨rp',v'⟩,x.sh.roots _⟩ (RS.withRoots_alk _ _) rfl ⟨rfl,ex⟩
/-- One list of bytes, in a list of its own. -/
theorem one_src {a:Sl} (sr:Src h q a b) (hb:b.length < 140737488355328) {t:TypeId} (e:h'=h.push (.cells #[.slice a.a a.n a.c] t)) (hlt:∀ p,a.a=some p→b ≠ []→p.block < h.size) :
  Srcs h' q ⟨some (nb h),1,1⟩ [a] [b]:=by
 have k:Kept N h h':=e ▸ kept_push _ _ _
 have row:Row h' h.size [.slice a.a a.n a.c]:=e ▸ row_new h #[.slice a.a a.n a.c] t
 refine ⟨row_reads row,rfl,rfl,fun i c p hc hp=>?_⟩
 cases i with
 | zero =>
  obtain rfl:=Option.some.inj hc
  obtain rfl:=Option.some.inj hp
  exact ⟨reads_keptN k sr.rd,sr.n,sr.b8,hb,fun p hp hn=>Nat.lt_of_lt_of_le (hlt p hp hn) k.1⟩
 | succ i=>cases hc
theorem llay (x:Gs h q s nd) (l:Lst h q lb hn) {a:Sl} (sr:Src h q a b) (hbl:b.length < 140737488355328) (hrl:s.roots.length < 99999999)
  (hlong:4096 < b.length→∀ h' q',Gs h' q' s nd→Ex h q h' q'→R (.tuple #[uv 0,.int .i64 41]) h')
  (hfull:b.length ≤ 4096→∀ h' q' s' nd',Gs h' q' s' nd'→(∃ m,nd'=nd ++ m)→REq s'.roots s.roots→s'.roots.length ≤ max s.roots.length (RS.freeAt s.roots + 1)→s'.limit=s.limit→Ex h q h' q' →
   (∀ ids,Lv nd s.roots ids→¬ (roomK s.limit (1 + RS.liveS nd ids) (RS.liveB nd ids) (2 + wordsN b.length)∧roomK s.limit (1 + RS.liveS nd ids + cntS (2 + wordsN b.length)) (RS.liveB nd ids + cntB (2 + wordsN b.length)) 4))→R (.tuple #[uv 0,.int .i64 31]) h')
  (hok:∀ h' q' s',Okb b→Gs h' q' s' (nd ++ [blobN b,⟨3,[0,0,nd.length],[]⟩])→REq s'.roots s.roots→s'.roots.length ≤ max s.roots.length (RS.freeAt s.roots + 1)→s'.limit=s.limit→s'.here nd.length→s'.here (nd.length + 1)→Ex h q h' q' →
   (∀ ids,Lv nd s.roots ids→(roomK s.limit (1 + RS.liveS nd ids) (RS.liveB nd ids) (2 + wordsN b.length)∧roomK s.limit (1 + RS.liveS nd ids + cntS (2 + wordsN b.length)) (RS.liveB nd ids + cntB (2 + wordsN b.length)) 4))→R (.tuple #[uv (s'.ref (nd.length + 1)),.int .i64 0]) h') :
  CallTo Try.prog 43 #[.pointer (some (ad lb)),.slice a.a a.n a.c] h R:=by
 refine f43F_ok ?_
 unfold f43F
 refine PtrOk_mk ⟨_,l.c0,Let_mk fun h1 e1=>?_⟩
 have k1:Kept N h h1:=e1 ▸ kept_push _ _ _
 have ex1:Ex h q h1 q:=Ex.of_kept k1 fun b hb=>x.st.fr hb
 have srs:=one_src sr hbl e1 fun p hp hn=>(sr.out p hp hn).2
 have ef:[b].flatten=b:=by simp
 have er1:1 + 0 + (1 + wordsN b.length)=2 + wordsN b.length:=by omega
 refine q_new (x.keepN k1) srs (by simp) (by rw [ef]; exact sr.b8) ?_ ?_ ?_
 ·rw [ef]
  exact fun hl h' q' g' ex=>⟨_,_,rfl,Cond_t rfl (hlong hl h' q' g' (ex1.trans ex))⟩
 ·rw [ef]
  exact fun hl h' q' s' g' er el ex hr=>⟨_,_,rfl,Cond_t rfl (hfull hl h' q' s' nd g' ⟨[],by simp⟩ (er ▸ REq.refl _) (by rw [er]; omega) el (ex1.trans ex) fun ids lv z=>hr ((x.room lv 0 _).2 (er1 ▸ z.1)))⟩
 ·rw [ef]
  intro h2 q2 s2 ok g2 er2 el2 hh2 ex2 hr
  have ex02:=ex1.trans ex2
  have l2:=l.ex ex02
  refine ⟨_,_,rfl,Cond_f rfl (PtrOk_mk ⟨_,l2.c0,?_⟩)⟩
  refine q_root g2 (.inr hh2) (by rw [er2]; omega) fun h3 q3 s3 g3 al3 er3 ex3=>⟨_,_,rfl,Cond_f rfl ?_⟩
  have ex03:=ex02.trans ex3
  have l3:=l.ex ex03
  have hrl3:s3.roots=rootL s.roots nd.length:=by rw [er3,er2]
  have hm:1 ≤ RS.freeAt s2.roots + 1:=by omega
  have hget3:∀ j,s3.roots.getD j none=if j=RS.freeAt s2.roots then some nd.length else s2.roots.getD j none:=fun j=>by rw [er3]; exact rootL_get _ _ _
  have lim3:s3.limit=s.limit:=al3.lim.trans el2
  have rooms:∀ ids,Lv nd s.roots ids→(s3.Room 3 0 ↔ roomK s.limit (1 + RS.liveS nd ids + cntS (2 + wordsN b.length)) (RS.liveB nd ids + cntB (2 + wordsN b.length)) 4):=fun ids lv=>by
   have lv3:Lv (nd ++ [blobN b]) s3.roots (ids ++ [nd.length]):=by rw [hrl3]; exact x.leaf lv (by intro r hr; cases hr)
   have:=g3.room lv3 3 0
   obtain ⟨q1,q2⟩:=live_app (x.lvlt lv) (blobN b)
   have ez:(blobN b).sz=2 + wordsN b.length:=by
    show 1 + 0 + (blobRaws b).length=_
    rw [ok.is.len]; omega
   rw [q1,q2,ez,lim3,← Nat.add_assoc] at this
   exact this
  refine PtrOk_mk ⟨_,l3.c0,PtrOk_mk ⟨_,l3.c0,q_alloc g3 (⟨⟨by omega,by omega⟩,⟨by omega,by omega⟩,by omega,by omega⟩:Shape ((3:Nat):Int) ((3:Nat):Int) ((0:Nat):Int)) rfl rfl rfl (fun h4 q4 s4 g4 er4 el4 ex4 hr4=>?_) fun h4 q4 s4 g4 er4 el4 hh4 ex4 hr4=>?_⟩⟩
  ·refine ⟨_,_,rfl,Cond_t rfl ?_⟩
   rw [← ex4.1]
   refine q_dropD g4 hm (by rw [er4,hget3]; exact if_pos rfl) fun h5 q5 s5 g5 al5 er5 ex5=>?_
   refine hfull (by have:=ok.len; omega) h5 q5 s5 _ g5 ⟨[blobN b],rfl⟩ ?_ ?_ (al5.lim.trans (el4.trans lim3)) ((ex03.trans ex4).trans ex5) fun ids lv z=>hr4 ((rooms ids lv).2 z.2)
   ·rw [er5,er4,← er2,Nat.add_sub_cancel]; exact REq.back hget3
   ·rw [er5,List.length_set,er4,er3,← er2]; exact rootL_len3 _ _
  ·have l4:=l.ex (ex03.trans ex4)
   refine ⟨_,_,rfl,Cond_f rfl (PtrOk_mk ⟨_,l4.c0,?_⟩)⟩
   have hd4:s4.roots.getD (RS.freeAt s2.roots + 1 - 1) none=some nd.length:=by rw [er4,hget3]; exact if_pos rfl
   have hhb:s4.here nd.length:=g4.here (.root (mem_roots.2 ⟨_,hd4⟩) (by have:=x.pos; omega))
   have hlen:(nd ++ [blobN b]).length=nd.length + 1:=by simp
   rw [hlen] at hh4
   have hn4:(nd ++ [blobN b] ++ [⟨3,List.replicate 3 0,List.replicate 0 0⟩]:List NodeD)[nd.length + 1]?=some ⟨3,[0,0,0],[]⟩:=by
    rw [List.getElem?_append_right (by rw [hlen]; exact Nat.le_refl _),hlen,Nat.sub_self]; rfl
   rw [hlen]
   refine q_at g4 hm hd4 ⟨_,_,rfl,?_⟩
   refine lset g4 l4 hn4 hh4 (.inr hhb) (k:=2) (by simp) rfl fun h5 q5 s5 g5 al5 er5 ex5=>⟨rfl,?_⟩
   rw [← (ex4.trans ex5).1]
   refine q_dropD g5 hm (by rw [er5]; exact hd4) fun h6 q6 s6 g6 al6 er6 ex6=>?_
   have hset:(nd ++ [blobN b] ++ [⟨3,List.replicate 3 0,List.replicate 0 0⟩]:List NodeD).set (nd.length + 1) ⟨3,[0,0,nd.length],[]⟩=nd ++ [blobN b,⟨3,[0,0,nd.length],[]⟩]:=by
    rw [List.set_append_right _ _ (by rw [hlen]; exact Nat.le_refl _),hlen,Nat.sub_self,List.append_assoc]; rfl
   have g6:Gs h6 q6 s6 (nd ++ [blobN b,⟨3,[0,0,nd.length],[]⟩]):=by rw [← hset]; exact g6
   have al:=al6.trans al5
   rw [show s4.ref (nd.length + 1)=s6.ref (nd.length + 1) from (al.ref _).symm]
   refine hok h6 q6 s6 ok g6 ?_ ?_ (al.lim.trans (el4.trans lim3)) ((al.here _).2 hhb) ((al.here _).2 hh4) (((ex03.trans ex4).trans ex5).trans ex6) fun ids lv=>⟨er1 ▸ (x.room lv 0 _).1 hr,(rooms ids lv).1 hr4⟩
   ·rw [er6,er5,er4,← er2,Nat.add_sub_cancel]; exact REq.back hget3
   ·rw [er6,List.length_set,er5,er4,er3,← er2]; exact rootL_len3 _ _
/-- What a call on a list leaves. -/
structure Aft (h:Hp) (q:HQ) (s:RS) (nd:List NodeD) (L:LD) (h':Hp) (q':HQ) (s':RS) (nd':List NodeD) (L':LD):Prop where
 g:Gs h' q' s' nd'
 ex:Ex h q h' q'
 req:REq s'.roots s.roots
 rlen:s'.roots.length ≤ max s.roots.length (RS.freeAt s.roots + 1)
 lim:s'.limit=s.limit
 len:nd.length ≤ nd'.length
 fr:∀ x,x < nd.length→x ∉ L.all→nd'[x]?=nd[x]?
 new:∀ x ∈ L'.all,x ∈ L.all ∨ nd.length ≤ x
 hd:L'.hd=L.hd
 c:L'.ok nd'
theorem Aft.opn (a:Aft h q s nd L h' q' s' nd' L') (o:Opn h q s nd lb hn L):Opn h' q' s' nd' lb hn L' :=
 ⟨a.g,o.l.ex a.ex,o.pos,o.lt,by rw [a.req,a.hd]; exact o.held,a.c⟩
/-- Another list. -/
theorem Aft.other (a:Aft h q s nd L h' q' s' nd' L') {lb2 hn2:Nat} {L2:LD} (o:Opn h q s nd lb2 hn2 L2) (hd:∀ x ∈ L2.all,x ∉ L.all):Opn h' q' s' nd' lb2 hn2 L2 :=
 ⟨a.g,o.l.ex a.ex,o.pos,o.lt,by rw [a.req]; exact o.held,o.c.keep fun x hx=>a.fr x (o.g.lt (o.here hx)) (hd x hx)⟩
theorem Aft.refl (o:Opn h q s nd lb hn L) (g:Gs h' q' s nd) (ex:Ex h q h' q'):Aft h q s nd L h' q' s nd L :=
 ⟨g,ex,REq.refl _,by omega,rfl,Nat.le_refl _,fun _ _ _=>rfl,fun x hx=>.inl hx,rfl,o.c⟩
theorem Aft.keepN (a:Aft h q s nd L h' q' s' nd' L') (k:Kept N h' h2):Aft h q s nd L h2 q' s' nd' L' :=
 ⟨a.g.keepN k,a.ex.trans (Ex.of_kept k fun b hb=>a.g.st.fr hb),a.req,a.rlen,a.lim,a.len,a.fr,a.new,a.hd,a.c⟩
/-- Room for an element and its node. -/
def room2 (lim S B z:Nat):Prop:=roomK lim S B z∧roomK lim (S + cntS z) (B + cntB z) 4
theorem linsert (o:Opn h q s nd lb hn L) {a:Sl} (sr:Src h q a b) (hbl:b.length < 140737488355328) (hrl:s.roots.length < 99999999) {i:Int} (hi64:-9223372036854775808 ≤ i∧i < 9223372036854775808)
  (hbad:¬ InL L.rows.length i 0→R (.int .i64 52) h)
  (hlong:InL L.rows.length i 0→4096 < b.length→∀ h' q',Aft h q s nd L h' q' s nd L→R (.int .i64 41) h')
  (hfull:InL L.rows.length i 0→b.length ≤ 4096→∀ h' q' s' nd',Aft h q s nd L h' q' s' nd' L→(∀ ids,Lv nd s.roots ids→¬ room2 s.limit (1 + RS.liveS nd ids) (RS.liveB nd ids) (2 + wordsN b.length))→R (.int .i64 31) h')
  (hok:∀ h' q' s' nd' L',InL L.rows.length i 0→Okb b→Aft h q s nd L h' q' s' nd' L'→L'.rows=ins L.rows i.toNat b→(∀ ids,Lv nd s.roots ids→room2 s.limit (1 + RS.liveS nd ids) (RS.liveB nd ids) (2 + wordsN b.length))→R (.int .i64 0) h') :
  CallTo Try.prog 14 #[.pointer (some (ad lb)),.int .i64 i,.slice a.a a.n a.c] h R:=by
 refine f14F_ok ?_
 unfold f14F
 refine lspan o hi64 ⟨_,rfl,?_⟩
 by_cases hin:InL L.rows.length i 0
 ·rw [if_pos hin]
  refine Cond_f rfl ?_
  obtain ⟨i,rfl⟩:=Int.eq_ofNat_of_zero_le hin.1
  have hil:i ≤ L.rows.length:=by have:=hin.2.2.1; omega
  refine llay o.g o.l sr hbl hrl (fun hl h' q' g' ex=>⟨_,_,rfl,Cond_t rfl (hlong hin hl h' q' (Aft.refl o g' ex))⟩)
   (fun hl h' q' s' nd' g' ⟨m,hm⟩ req rl lim ex hr=>⟨_,_,rfl,Cond_t rfl (hfull hin hl h' q' s' nd' ⟨g',ex,req,rl,lim,by rw [hm,List.length_append]; omega,fun x hx _=>by rw [hm,List.getElem?_append_left hx],fun x hx=>.inl hx,rfl,o.c.keep fun x hx=>by rw [hm,List.getElem?_append_left (o.g.lt (o.here hx))]⟩ hr)⟩) fun h1 q1 s1 ok g1 req rl lim hb hv ex hr=>?_
  refine ⟨_,_,rfl,Cond_f rfl ?_⟩
  have app:∀ x,x < nd.length→(nd ++ [blobN b,⟨3,[0,0,nd.length],[]⟩]:List NodeD)[x]?=nd[x]?:=fun x hx=>List.getElem?_append_left hx
  have alt:∀ x ∈ L.all,x < nd.length:=fun x hx=>o.g.lt (o.here hx)
  have o1:Opn h1 q1 s1 (nd ++ [blobN b,⟨3,[0,0,nd.length],[]⟩]) lb hn L:=⟨g1,o.l.ex ex,o.pos,o.lt,by rw [req]; exact o.held,o.c.keep fun x hx=>app x (alt x hx)⟩
  have hb1:(nd ++ [blobN b,⟨3,[0,0,nd.length],[]⟩]:List NodeD)[nd.length]?=some (blobN b):=by rw [List.getElem?_append_right (Nat.le_refl _),Nat.sub_self]; rfl
  have hv1:(nd ++ [blobN b,⟨3,[0,0,nd.length],[]⟩]:List NodeD)[nd.length + 1]?=some ⟨3,[0,0,nd.length],[]⟩:=by
   rw [List.getElem?_append_right (by omega),Nat.add_sub_cancel_left]; rfl
  have nb:nd.length ∉ L.all:=fun hx=>by have:=alt _ hx; omega
  have nv:nd.length + 1 ∉ L.all:=fun hx=>by have:=alt _ hx; omega
  refine lnode o1 hil ⟨_,rfl,llink o1 hil hv1 hv nv fun h2 q2 s2 nd2 f2 v2=>⟨rfl,?_⟩⟩
  have c2:(⟨L.hd,ins L.ns i (nd.length + 1),ins L.bs i nd.length,ins L.rows i b⟩:LD).ok nd2 :=
   o1.c.link hil ok nv nb (by omega) (by omega) (by have:=o.g.pos; omega) hb1 v2
  refine hok h2 q2 s2 nd2 ⟨L.hd,ins L.ns i (nd.length + 1),ins L.bs i nd.length,ins L.rows i b⟩ hin ok ⟨f2.g,ex.trans f2.ex,by rw [f2.rt]; exact req,by rw [f2.rt]; exact rl,f2.al.lim.trans lim,by rw [f2.len,List.length_append]; omega,fun x hx hn=>?_,fun x hx=>?_,rfl,c2⟩ rfl hr
  ·have hnm:x ∉ L.hd :: (L.ns ++ L.bs):=hn
   have e2:x ≠ L.hd:=fun e=>hnm (by rw [e]; exact List.mem_cons_self ..)
   have e3:¬ (x=nx L.ns i∧i < L.rows.length):=fun z=>hnm (by rw [z.1]; exact List.mem_cons_of_mem _ (List.mem_append_left _ (nx_mem (by rw [o.c.ln]; exact z.2))))
   have e4:¬ (x=pv L.ns i∧0 < i):=fun z=>hnm (by rw [z.1,pv_eq i (by omega)]; exact List.mem_cons_of_mem _ (List.mem_append_left _ (nx_mem (by have:=o.c.ln; omega))))
   rw [v2,if_neg (by omega),if_neg e2,if_neg e3,if_neg e4,app x hx]
  ·rcases List.mem_cons.1 hx with e | hx
   ·exact .inl (e ▸ List.mem_cons_self ..)
   ·rcases List.mem_append.1 hx with hx | hx
    ·rcases List.mem_cons.1 ((ins_perm L.ns i _).mem_iff.1 hx) with e | hx
     ·exact .inr (by omega)
     ·exact .inl (List.mem_cons_of_mem _ (List.mem_append_left _ hx))
    ·rcases List.mem_cons.1 ((ins_perm L.bs i _).mem_iff.1 hx) with e | hx
     ·exact .inr (by omega)
     ·exact .inl (List.mem_cons_of_mem _ (List.mem_append_right _ hx))
 ·rw [if_neg hin]
  exact Cond_t rfl (hbad hin)
end
end Go.Ev
set_option linter.all false
set_option maxRecDepth 1000000
namespace Go.Ev
open Go.Proofs
def ofL (l:List Nat):ByteArray:=⟨(l.map UInt8.ofNat).toArray⟩
theorem ofL_size (l:List Nat):(ofL l).size=l.length:=by unfold ofL; simp [ByteArray.size]
theorem ofL_toNat {c:Nat} (h:c < 256):(UInt8.ofNat c).toNat=c:=by simp [UInt8.toNat_ofNat']; omega
theorem ofL_bytes {l:List Nat} (b8:Bytes8 l):((ofL l).data.toList.map fun b=>Value.int .u8 b.toNat)=l.map bv:=by
 unfold ofL
 rw [List.map_map]
 apply List.map_congr_left
 intro c hc
 show Value.int .u8 (((UInt8.ofNat c).toNat:Nat):Int)=bv c
 rw [ofL_toNat (b8 c hc)]
 rfl
theorem spells_of {h:Hp} {a:Option Addr} {n:Nat} {l:List Nat} (rd:ReadsO h a (l.map bv)) (hn:n=l.length) (b8:Bytes8 l):Spells h a n (ofL l) :=
 ⟨by rw [ofL_size,hn],by rw [ofL_bytes b8]; exact rd⟩
theorem ofL_inj {l m:List Nat} (bl:Bytes8 l) (bm:Bytes8 m) (h:(ofL l).toList=(ofL m).toList):l=m:=by
 rw [Go.ByteArray.toList_eq,Go.ByteArray.toList_eq] at h
 have:=congrArg (List.map fun b:UInt8=>Value.int .u8 b.toNat) h
 rw [ofL_bytes bl,ofL_bytes bm] at this
 exact List.map_inj_right (fun x y hxy=>by
  unfold bv at hxy
  injection hxy with _ e
  omega) |>.1 this
theorem ofL_eq {l m:List Nat} (bl:Bytes8 l) (bm:Bytes8 m):(ByteArray.toList (ofL l) == ByteArray.toList (ofL m))=decide (l=m):=by
 by_cases h:l=m
 ·subst h; rw [decide_eq_true rfl]; exact beq_self_eq_true _
 ·rw [decide_eq_false h,beq_eq_false_iff_ne]
  exact fun e=>h (ofL_inj bl bm e)
end Go.Ev
set_option linter.all false
set_option maxRecDepth 1000000
namespace Go.Ev
open Go.Proofs
section
variable {h h' h2:Hp} {q q' q2:HQ} {s s' s2:RS} {nd nd' nd2:List NodeD} {n:NodeD} {id lb hn:Nat} {L L' L2:LD} {R:Value→Hp→Prop} {b:List Nat} {ids:List Nat}
theorem Aft.step (a:Aft h q s nd L h' q' s' nd' L') (c:Aft h' q' s' nd' L' h2 q2 s2 nd2 L2) (e:s2.roots.length ≤ max s.roots.length (RS.freeAt s.roots + 1)):Aft h q s nd L h2 q2 s2 nd2 L2 :=
 ⟨c.g,a.ex.trans c.ex,c.req.trans a.req,e,c.lim.trans a.lim,Nat.le_trans a.len c.len,fun x hx hn=>(c.fr x (Nat.lt_of_lt_of_le hx a.len) fun hm=>(a.new x hm).elim hn fun z=>by omega).trans (a.fr x hx hn),
  fun x hx=>(c.new x hx).elim (fun z=>a.new x z) fun z=>.inr (Nat.le_trans a.len z),c.hd.trans a.hd,c.c⟩
theorem unlink_aft (o:Opn h q s nd lb hn L) {i:Nat} (hi:i < L.rows.length) (f:Fld h q s nd h' q' s' nd')
  (v:∀ x,nd'[x]?=if x=L.hd then some ⟨2,[if i=0 then nx L.ns 1 else nx L.ns 0,if i + 1=L.rows.length then pv L.ns i else pv L.ns L.rows.length],[L.rows.length - 1]⟩
   else if x=nx L.ns (i + 1)∧i + 1 < L.rows.length then some ⟨3,[pv L.ns i,nx L.ns (i + 2),nx L.bs (i + 1)],[]⟩ else if x=pv L.ns i∧0 < i then some ⟨3,[pv L.ns (i - 1),nx L.ns (i + 1),nx L.bs (i - 1)],[]⟩ else nd[x]?) :
  Aft h q s nd L h' q' s' nd' ⟨L.hd,del L.ns i,del L.bs i,del L.rows i⟩:=by
 refine ⟨f.g,f.ex,f.rt ▸ REq.refl _,by rw [f.rt]; omega,f.al.lim,by rw [f.len]; exact Nat.le_refl _,fun x hx hnm=>?_,fun x hx=>.inl ?_,rfl,o.c.unlink hi fun x hx=>v x⟩
 ·have hnm:x ∉ L.hd :: (L.ns ++ L.bs):=hnm
  have hln:=o.c.ln
  have e2:x ≠ L.hd:=fun e=>hnm (by rw [e]; exact List.mem_cons_self ..)
  have e3:¬ (x=nx L.ns (i + 1)∧i + 1 < L.rows.length):=fun z=>hnm (by rw [z.1]; exact List.mem_cons_of_mem _ (List.mem_append_left _ (nx_mem (by rw [o.c.ln]; exact z.2))))
  have e4:¬ (x=pv L.ns i∧0 < i):=fun z=>hnm (by rw [z.1,pv_eq i (by omega)]; exact List.mem_cons_of_mem _ (List.mem_append_left _ (nx_mem (by omega))))
  rw [v,if_neg e2,if_neg e3,if_neg e4]
 ·have hln:=o.c.ln
  have hlb:=o.c.lb
  have p1:=del_perm (nx_some (l:=L.ns) (j:=i) (by omega))
  have p2:=del_perm (nx_some (l:=L.bs) (j:=i) (by omega))
  rcases List.mem_cons.1 hx with e | hx
  ·rw [e]; exact List.mem_cons_self ..
  ·rcases List.mem_append.1 hx with hx | hx
   ·exact List.mem_cons_of_mem _ (List.mem_append_left _ (p1.mem_iff.1 (List.mem_cons_of_mem _ hx)))
   ·exact List.mem_cons_of_mem _ (List.mem_append_right _ (p2.mem_iff.1 (List.mem_cons_of_mem _ hx)))
/-! ### Get, Pop -/
theorem lgetr (o:Opn h q s nd lb hn L) {i:Int} (hi64:-9223372036854775808 ≤ i∧i < 9223372036854775808)
  (hbad:¬ InL L.rows.length i 1→R (.tuple #[.slice none 0 0,.int .i64 52]) h)
  (hok:∀ r c h',InL L.rows.length i 1→L.rows[i.toNat]?=some r→Row h' c (r.map bv)→h.size ≤ c→Kept N h h'→R (.tuple #[.slice (some (ad c)) r.length r.length,.int .i64 0]) h') :
  CallTo Try.prog 23 #[.pointer (some (ad lb)),.int .i64 i] h R:=by
 refine f23F_ok ?_
 unfold f23F
 refine lspan o hi64 ⟨_,rfl,?_⟩
 by_cases hin:InL L.rows.length i 1
 ·rw [if_pos hin]
  obtain ⟨i,rfl⟩:=Int.eq_ofNat_of_zero_le hin.1
  have hil:i < L.rows.length:=by have:=hin.2.2.2; omega
  exact Cond_f rfl (lnode o (Nat.le_of_lt hil) ⟨_,rfl,lread o (List.getElem?_eq_getElem hil) fun c h' row hc k=>⟨⟨_,_,_⟩,rfl,hok _ c h' hin (List.getElem?_eq_getElem hil) row hc k⟩⟩)
 ·rw [if_neg hin]
  exact Cond_t rfl (hbad hin)
theorem lpop (o:Opn h q s nd lb hn L) {fr:Bool} (hemp:L.rows=[]→R (.tuple #[.slice none 0 0,.int .i64 53]) h)
  (hok:∀ r c h' q' s' nd' L',L.rows[if fr=true then 0 else L.rows.length - 1]?=some r→Aft h q s nd L h' q' s' nd' L'→s'.roots=s.roots→L'.rows=del L.rows (if fr=true then 0 else L.rows.length - 1)→Row h' c (r.map bv)→h.size ≤ c→q'.role c=.out →
   R (.tuple #[.slice (some (ad c)) r.length r.length,.int .i64 0]) h'):CallTo Try.prog 22 #[.pointer (some (ad lb)),.bool fr] h R:=by
 refine f22F_ok ?_
 unfold f22F
 have:=o.pos
 refine PtrOk_mk ⟨_,o.l.c1,Cond_f (by rw [beq_eq_false_iff_ne]; omega) ?_⟩
 have key:∀ (k i:Nat),k < 2→[nx L.ns 0,pv L.ns L.rows.length][k]?=some (nx L.ns i)→i=(if fr=true then 0 else L.rows.length - 1)→f22K1 (some (ad lb)) (k:Int) h R:=fun k i hk he hi=>by
  unfold f22K1
  refine lref o ⟨_,rfl,lget o.g o.l o.c.hn o.hh (k:=k) he rfl ⟨_,rfl,?_⟩⟩
  by_cases h0:L.rows.length=0
  ·have hz:nx L.ns i=0:=nx_out (by have:=o.c.ln; omega)
   rw [hz,RS.ref_zero]
   exact Cond_t rfl (hemp (List.eq_nil_of_length_eq_zero h0))
  ·have hil:i < L.rows.length:=by rw [hi]; split <;> omega
   refine Cond_f (by rw [beq_eq_false_iff_ne]; have:=RS.ref_nz o.g.v (o.hn' hil); omega) ?_
   refine lread o (List.getElem?_eq_getElem hil) fun c h1 row hc k1=>⟨⟨_,_,_⟩,rfl,?_⟩
   have o1:=o.keepN k1
   have ex1:Ex h q h1 q:=Ex.of_kept k1 fun b hb=>o.g.st.fr hb
   refine lunlink o1 hil fun h2 q2 s2 nd2 f2 v2=>⟨_,rfl,?_⟩
   have a2:=unlink_aft o1 hil f2 v2
   have hout:q.role c=.out:=o.g.st.fr hc
   subst hi
   exact hok _ c h2 q2 s2 nd2 _ (List.getElem?_eq_getElem hil) ⟨a2.g,ex1.trans a2.ex,a2.req,a2.rlen,a2.lim,a2.len,a2.fr,a2.new,a2.hd,a2.c⟩ f2.rt rfl (kept_row f2.ex.kept row fun e=>e hout) hc (f2.ex.out (row_lt row) hout)
 cases fr with
 | true=>exact Cond_t rfl (key 0 0 (by omega) rfl rfl)
 | false =>
  refine Cond_f rfl (key 1 (L.rows.length - 1) (by omega) ?_ rfl)
  by_cases h0:L.rows.length=0
  ·show some (pv L.ns L.rows.length)=_
   rw [h0]
   have hz:nx L.ns (0 - 1)=0:=nx_out (by have:=o.c.ln; omega)
   rw [hz]; rfl
  ·show some (pv L.ns L.rows.length)=_
   rw [pv_eq _ h0]
/-! ### Set, Cut -/
theorem lsetr (o:Opn h q s nd lb hn L) {a:Sl} (sr:Src h q a b) (hbl:b.length < 140737488355328) {i:Int} (hi64:-9223372036854775808 ≤ i∧i < 9223372036854775808)
  (hbad:¬ InL L.rows.length i 1→R (.int .i64 52) h)
  (hlong:InL L.rows.length i 1→4096 < b.length→∀ h' q',Aft h q s nd L h' q' s nd L→R (.int .i64 41) h')
  (hfull:InL L.rows.length i 1→b.length ≤ 4096→∀ h' q' s',Aft h q s nd L h' q' s' nd L→(∀ ids,Lv nd s.roots ids→¬ roomK s.limit (1 + RS.liveS nd ids) (RS.liveB nd ids) (2 + wordsN b.length))→R (.int .i64 31) h')
  (hok:∀ h' q' s' nd' L',InL L.rows.length i 1→Okb b→Aft h q s nd L h' q' s' nd' L'→s'.roots=s.roots→L'.rows=L.rows.set i.toNat b→(∀ ids,Lv nd s.roots ids→roomK s.limit (1 + RS.liveS nd ids) (RS.liveB nd ids) (2 + wordsN b.length))→R (.int .i64 0) h') :
  CallTo Try.prog 24 #[.pointer (some (ad lb)),.int .i64 i,.slice a.a a.n a.c] h R:=by
 refine f24F_ok ?_
 unfold f24F
 refine lspan o hi64 ⟨_,rfl,?_⟩
 by_cases hin:InL L.rows.length i 1
 ·rw [if_pos hin]
  obtain ⟨i,rfl⟩:=Int.eq_ofNat_of_zero_le hin.1
  have hil:i < L.rows.length:=by have:=hin.2.2.2; omega
  refine Cond_f rfl (PtrOk_mk ⟨_,o.l.c0,Let_mk fun h1 e1=>?_⟩)
  have k1:Kept N h h1:=e1 ▸ kept_push _ _ _
  have ex1:Ex h q h1 q:=Ex.of_kept k1 fun b hb=>o.g.st.fr hb
  have srs:=one_src sr hbl e1 fun p hp hn=>(sr.out p hp hn).2
  have ef:[b].flatten=b:=by simp
  have er1:1 + 0 + (1 + wordsN b.length)=2 + wordsN b.length:=by omega
  refine q_new (o.g.keepN k1) srs (by simp) (by rw [ef]; exact sr.b8) ?_ ?_ ?_
  ·rw [ef]
   exact fun hl h' q' g' ex=>⟨_,_,rfl,Cond_t rfl (hlong hin hl h' q' (Aft.refl o g' (ex1.trans ex)))⟩
  ·rw [ef]
   exact fun hl h' q' s' g' er el ex hr=>⟨_,_,rfl,Cond_t rfl (hfull hin hl h' q' s' ⟨g',ex1.trans ex,er ▸ REq.refl _,by rw [er]; omega,el,Nat.le_refl _,fun _ _ _=>rfl,fun x hx=>.inl hx,rfl,o.c⟩ fun ids lv z=>hr ((o.g.room lv 0 _).2 (er1 ▸ z)))⟩
  ·rw [ef]
   intro h2 q2 s2 ok g2 er2 el2 hh2 ex2 hr
   have ex02:=ex1.trans ex2
   have app:∀ x,x < nd.length→(nd ++ [blobN b])[x]?=nd[x]?:=fun x hx=>List.getElem?_append_left hx
   have alt:∀ x ∈ L.all,x < nd.length:=fun x hx=>o.g.lt (o.here hx)
   have o2:Opn h2 q2 s2 (nd ++ [blobN b]) lb hn L:=⟨g2,o.l.ex ex02,o.pos,o.lt,by rw [er2]; exact o.held,o.c.keep fun x hx=>app x (alt x hx)⟩
   have hb2:(nd ++ [blobN b])[nd.length]?=some (blobN b):=by rw [List.getElem?_append_right (Nat.le_refl _),Nat.sub_self]; rfl
   have nb:nd.length ∉ L.all:=fun hx=>by have:=alt _ hx; omega
   refine ⟨_,_,rfl,Cond_f rfl (lnode o2 (Nat.le_of_lt hil) ⟨_,rfl,lset o2.g o2.l (o2.c.nn i hil) (o2.hn' hil) (.inr hh2) (k:=2) (by simp) rfl fun h3 q3 s3 g3 al3 er3 ex3=>⟨rfl,?_⟩⟩)⟩
   have hln:=o.c.ln
   have v3:∀ x,((nd ++ [blobN b]).set (nx L.ns i) ⟨3,[pv L.ns i,nx L.ns (i + 1),nd.length],[]⟩)[x]?=if x=nx L.ns i then some ⟨3,[pv L.ns i,nx L.ns (i + 1),nd.length],[]⟩ else (nd ++ [blobN b])[x]?:=fun x=>set_at (o2.c.nn i hil) _ x
   have c3:(⟨L.hd,L.ns,L.bs.set i nd.length,L.rows.set i b⟩:LD).ok _:=o2.c.setb hil ok nb (by have:=o.g.pos; omega) hb2 v3
   refine hok h3 q3 s3 _ ⟨L.hd,L.ns,L.bs.set i nd.length,L.rows.set i b⟩ hin ok ⟨g3,ex02.trans ex3,by rw [er3,er2]; exact REq.refl _,by rw [er3,er2]; omega,al3.lim.trans el2,by simp,fun x hx hnm=>?_,fun x hx=>?_,rfl,c3⟩ (er3.trans er2) rfl fun ids lv=>er1 ▸ (o.g.room lv 0 _).1 hr
   ·have e3:x ≠ nx L.ns i:=fun e=>hnm (by rw [e]; exact List.mem_cons_of_mem _ (List.mem_append_left _ (nx_mem (by omega))))
    exact (v3 x).trans (by rw [if_neg e3,app x hx])
   ·rcases List.mem_cons.1 hx with e | hx
    ·exact .inl (e ▸ List.mem_cons_self ..)
    ·rcases List.mem_append.1 hx with hx | hx
     ·exact .inl (List.mem_cons_of_mem _ (List.mem_append_left _ hx))
     ·rcases List.mem_or_eq_of_mem_set hx with h | e
      ·exact .inl (List.mem_cons_of_mem _ (List.mem_append_right _ h))
      ·exact .inr (by omega)
 ·rw [if_neg hin]
  exact Cond_t rfl (hbad hin)
theorem del_drop {α:Type} (l:List α) (i k:Nat) (hi:i ≤ l.length):del (l.take i ++ l.drop (i + k)) i=l.take i ++ l.drop (i + (k + 1)):=by
 have ht:(l.take i).length=i:=by rw [List.length_take]; omega
 unfold del
 rw [List.take_append_of_le_length (by omega),List.take_take,Nat.min_self,List.drop_append,ht,List.drop_eq_nil_of_le (by omega),List.nil_append,show i + 1 - i=1 by omega,List.drop_drop]
 congr 2
theorem lcut (o:Opn h q s nd lb hn L) {i m:Int} (hi64:-9223372036854775808 ≤ i∧i < 9223372036854775808)
  (hbad:¬ InL L.rows.length i m→R (.int .i64 52) h)
  (hok:∀ h' q' s' nd' L',InL L.rows.length i m→Aft h q s nd L h' q' s' nd' L'→s'.roots=s.roots→L'.rows=L.rows.take i.toNat ++ L.rows.drop (i.toNat + m.toNat)→R (.int .i64 0) h') :
  CallTo Try.prog 19 #[.pointer (some (ad lb)),.int .i64 i,.int .i64 m] h R:=by
 refine f19F_ok ?_
 unfold f19F
 refine lspan o hi64 ⟨_,rfl,?_⟩
 by_cases hin:InL L.rows.length i m
 ·rw [if_pos hin]
  obtain ⟨i,rfl⟩:=Int.eq_ofNat_of_zero_le hin.1
  obtain ⟨m,rfl⟩:=Int.eq_ofNat_of_zero_le hin.2.1
  have hl:=o.len
  have him:i + m ≤ L.rows.length:=by have:=hin.2.2.2; omega
  refine Cond_f rfl (lnode o (by omega) ⟨_,rfl,?_⟩)
  refine f19L1_rule (fun p s0 s8 s19 s20 h1=>∃ (k:Nat) (q1:HQ) (s1:RS) (nd1:List NodeD) (L1:LD),k ≤ m∧p=m - k∧some (ad lb)=s0∧s19=(m:Int)∧s20=(k:Int)∧Aft h q s nd L h1 q1 s1 nd1 L1∧s1.roots=s.roots∧L1.rows=L.rows.take i ++ L.rows.drop (i + k)∧s8=((s1.ref (nx L1.ns i):Nat):Int)) m
   ⟨0,q,s,nd,L,Nat.zero_le _,rfl,rfl,rfl,rfl,Aft.refl o o.g (Ex.refl _ _),rfl,by simp,rfl⟩ ?_
  rintro p s0 s8 s19 s20 g h1 ⟨k,q1,s1,nd1,L1,hk,rfl,rfl,rfl,rfl,a1,er1,hr1,rfl⟩
  unfold f19L1
  have o1:=a1.opn o
  refine Cond_dec (fun hlt=>?_) fun hge=>?_
  ·have hlt:k < m:=by omega
   have hlen:L1.rows.length=L.rows.length - k:=by rw [hr1]; simp; omega
   have hi1:i < L1.rows.length:=by omega
   refine lunlink o1 hi1 fun h2 q2 s2 nd2 f2 v2=>⟨_,rfl,m - (k + 1),by omega,k + 1,q2,s2,nd2,⟨L1.hd,del L1.ns i,del L1.bs i,del L1.rows i⟩,by omega,rfl,rfl,rfl,by rw [wrap_i64' (by omega) (by omega)]; rfl,a1.step (unlink_aft o1 hi1 f2 v2) (by rw [f2.rt,er1]; omega),f2.rt.trans er1,?_,?_⟩
   ·show del L1.rows i=_
    rw [hr1]; exact del_drop _ _ _ (by omega)
   ·show _=((s2.ref (nx (del L1.ns i) i):Nat):Int)
    rw [nx_del,if_neg (by omega),f2.al.ref]
  ·have:k=m:=by omega
   subst this
   exact hok h1 q1 s1 nd1 L1 hin a1 er1 hr1
 ·rw [if_neg hin]
  exact Cond_t rfl (hbad hin)
end
end Go.Ev
set_option linter.all false
set_option maxRecDepth 100000
namespace Go.Ev
open Go.Proofs
/- bytes.Equal -/
noncomputable def body55:Code:=(Try.f55.body).getD .skip
def lv55 (m:Nat):List Nat:=[]
def f55F (a0:Sl) (a1:Sl) (h:Hp) (R:Value→Hp→Prop):Prop :=
 ∃ t6:ByteArray,Spells h a0.a a0.n t6∧∃ t8:ByteArray,Spells h a1.a a1.n t8∧R ((.bool ((ByteArray.toList t6) == (ByteArray.toList t8)):Value)) h
theorem f55F_eq (a0:Sl) (a1:Sl) (h:Hp) (R:Value→Hp→Prop):evF Try.prog tab lv55 Try.f55 body55 [] [.slice a0.a a0.n a0.c,.slice a1.a a1.n a1.c] h R=f55F a0 a1 h R:=by kernel_rfl
theorem f55F_ok {a0:Sl} {a1:Sl} {h:Hp} {R:Value→Hp→Prop} (hF:f55F a0 a1 h R):CallTo Try.prog 55 #[.slice a0.a a0.n a0.c,.slice a1.a a1.n a1.c] h R :=
 callTo_of_ev (lv:=lv55) (hints:=[]) (c:=body55) (args:=[.slice a0.a a0.n a0.c,.slice a1.a a1.n a1.c]) mixed tab_ok Try.func55 (by kernel_rfl) (by kernel_rfl) (by rw [f55F_eq]; exact hF)
/- larder/larderref5.New -/
noncomputable def body61:Code:=(Try.f61.body).getD .skip
def lv61 (m:Nat):List Nat:=[]
def f61F (a0:Int) (h:Hp) (R:Value→Hp→Prop):Prop :=
 Let (h.push (.cells #[.int .i64 a0,.slice none 0 0,.int .i64 (-1),.int .i64 (-1),.int .i64 (-1),.int .i64 (-1),.bool false,.bool false,.bool false,.bool false] 150)) fun h1=>R ((.pointer (some (nb h)):Value)) h1
theorem f61F_eq (a0:Int) (h:Hp) (R:Value→Hp→Prop):evF Try.prog tab lv61 Try.f61 body61 [] [.int .i64 a0] h R=f61F a0 h R:=by kernel_rfl
theorem f61F_ok {a0:Int} {h:Hp} {R:Value→Hp→Prop} (hF:f61F a0 h R):CallTo Try.prog 61 #[.int .i64 a0] h R :=
 callTo_of_ev (lv:=lv61) (hints:=[]) (c:=body61) (args:=[.int .i64 a0]) mixed tab_ok Try.func61 (by kernel_rfl) (by kernel_rfl) (by rw [f61F_eq]; exact hF)
end Go.Ev
