/- find and what goes through it: Object, Get, Set, Bytes, SetBytes: as the document's heap / The heap's struct: its slices grow, a slot is taken / Object, Get, Set, Bytes, SetBytes, and the handles: as the document's heap. No condition but that these are ones. -/
import Derived.Test.YtngcoodbepbhbaaE11
set_option linter.all false
set_option maxRecDepth 100000
namespace Go.Ev
open Go.Proofs
namespace RS
section
variable {s:RS}
theorem ident_top (s:RS) (k:Nat):s.ident (top + k)=s.slots.getD k 0:=by
 unfold ident
 rw [if_pos (Nat.le_add_right top k),Nat.add_sub_cancel_left]
theorem ident_zero (s:RS):s.ident 0=0:=by
 unfold ident
 rw [if_neg (by show ¬ 9223372036854775808 ≤ 0; omega),if_pos rfl]
theorem ident_low {r:Nat} (h0:r ≠ 0) (h:r < top):s.ident r=(s.small.find? fun i=>(s.obj i).pl == r).getD 0:=by
 unfold ident
 rw [if_neg (by omega),if_neg h0]
theorem pl_inj (v:s.Inv) {a b:Nat} (ha:a ∈ s.small) (hb:b ∈ s.small) (h:(s.obj a).pl=(s.obj b).pl):a=b:=by
 obtain ⟨i,hi,hp⟩:=v.small_at ha
 obtain ⟨j,hj,hq⟩:=v.small_at hb
 rw [hp,hq] at h
 have e1:pos (s.small.map s.enc) i=1 + s.sizes (s.small.take i):=pos_map (fun id=>s.enc_size id) _ _
 have e2:pos (s.small.map s.enc) j=1 + s.sizes (s.small.take j):=pos_map (fun id=>s.enc_size id) _ _
 have hij:i=j:=pos_inj (os:=s.small.map s.enc) (by rw [List.length_map]; exact (List.getElem?_eq_some_iff.1 hi).1) (by rw [List.length_map]; exact (List.getElem?_eq_some_iff.1 hj).1) (by rw [e1,e2,h])
 subst hij
 rw [hi] at hj
 exact Option.some.inj hj
theorem ident_small (v:s.Inv) {id:Nat} (h:id ∈ s.small):s.ident (s.obj id).pl=id:=by
 have hp:=pl_lt v (.inl h)
 obtain ⟨j,hj,hq⟩:=v.small_at h
 rw [ident_low (by omega) (by show _ < 9223372036854775808; omega)]
 cases hf:s.small.find? fun i=>(s.obj i).pl == (s.obj id).pl with
 | none =>
  have:=List.find?_eq_none.1 hf id h
  simp at this
 | some x =>
  have h1:=List.find?_some hf
  have h2:=List.mem_of_find?_eq_some hf
  exact pl_inj v h2 h (by simpa using h1)
theorem ident_slot (v:s.Inv) {id:Nat} (h0:id ≠ 0) (h:id ∈ s.slots):s.slots[(s.obj id).pl]?=some id∧s.ident (top + (s.obj id).pl)=id:=by
 obtain ⟨i,hi⟩:=List.mem_iff_getElem?.1 h
 have hpl:(s.obj id).pl=i:=(v.sl i id hi h0).2.2.2
 rw [hpl]
 exact ⟨hi,by rw [ident_top,List.getD_eq_getElem?_getD,hi]; rfl⟩
theorem ident_ref (v:s.Inv) {id:Nat} (h:id=0 ∨ s.here id):s.ident (s.ref id)=id:=by
 by_cases h0:id=0
 ·subst h0; rw [ref_zero,ident_zero]
 ·rcases v.big_of (h.resolve_left h0) with ⟨hb,hs,_⟩ | ⟨hb,hs⟩
  ·rw [ref_big h0 hb]; exact (ident_slot v h0 hs).2
  ·rw [ref_small h0 hb]; exact ident_small v hs
/-- What is found is there, and its ref leads to it. -/
theorem ident_here (v:s.Inv) {r:Nat} (h:s.ident r ≠ 0):s.here (s.ident r)∧s.ref (s.ident r)=r:=by
 rcases Nat.lt_or_ge r top with hl | hg
 ·by_cases h0:r=0
  ·subst h0; exact absurd s.ident_zero h
  ·rw [ident_low h0 hl] at h ⊢
   cases hf:s.small.find? fun i=>(s.obj i).pl == r with
   | none=>rw [hf] at h; exact absurd rfl h
   | some x =>
    have h1:=List.find?_some hf
    have h2:=List.mem_of_find?_eq_some hf
    obtain ⟨q0,_,q1,_⟩:=v.sm x h2
    exact ⟨.inl h2,by show s.ref x=r; rw [ref_small (by omega) q1]; simpa using h1⟩
 ·obtain ⟨k,rfl⟩:=Nat.exists_eq_add_of_le hg
  rw [ident_top,List.getD_eq_getElem?_getD] at h ⊢
  cases hx:s.slots[k]? with
  | none=>rw [hx] at h; exact absurd rfl h
  | some x =>
   rw [hx] at h
   have h:x ≠ 0:=h
   obtain ⟨_,q1,_,q2⟩:=v.sl k x hx h
   exact ⟨.inr ⟨h,List.mem_of_getElem? hx⟩,by show s.ref x=_; rw [ref_big h q1,q2]⟩
theorem ident_in (v:s.Inv) (r:Nat):s.ident r=0 ∨ s.here (s.ident r):=by
 by_cases h:s.ident r=0
 ·exact .inl h
 ·exact .inr (ident_here v h).1
def setObj (s:RS) (id:Nat) (o:RObj):RS:={ s with objs:=s.objs.set id o }
theorem setObj_obj (s:RS) {id:Nat} (o:RObj) (h:id < s.objs.length) (x:Nat):(s.setObj id o).obj x=if x=id then o else s.obj x:=by
 unfold setObj obj
 simp only
 rw [List.getD_eq_getElem?_getD,List.getD_eq_getElem?_getD]
 by_cases hx:x=id
 ·subst hx; rw [List.getElem?_set_self h,if_pos rfl]; rfl
 ·rw [List.getElem?_set_ne (Ne.symm hx),if_neg hx]
/-- Another object in the same place, of the same shape. -/
structure SameShape (a b:RObj):Prop where
 kind:b.kind=a.kind
 refs:b.refs.length=a.refs.length
 raws:b.raws.length=a.raws.length
 big:b.big=a.big
 pl:b.pl=a.pl
section
variable {id:Nat} {o:RObj}
theorem setObj_shape (h:id < s.objs.length) (e:SameShape (s.obj id) o) (x:Nat):SameShape (s.obj x) ((s.setObj id o).obj x):=by
 rw [setObj_obj s o h]
 by_cases hx:x=id
 ·subst hx; rw [if_pos rfl]; exact e
 ·rw [if_neg hx]; exact ⟨rfl,rfl,rfl,rfl,rfl⟩
theorem setObj_ref (h:id < s.objs.length) (e:SameShape (s.obj id) o) (x:Nat):(s.setObj id o).ref x=s.ref x:=by
 have q:=setObj_shape h e x
 unfold ref
 rw [q.big,q.pl]
theorem setObj_size (h:id < s.objs.length) (e:SameShape (s.obj id) o) (x:Nat):(s.setObj id o).size x=s.size x:=by
 have q:=setObj_shape h e x
 unfold size RObj.size
 rw [q.refs,q.raws]
theorem setObj_enc (h:id < s.objs.length) (e:SameShape (s.obj id) o) (x:Nat):(s.setObj id o).enc x=if x=id then ⟨o.kind,o.refs.map s.ref,o.raws,none⟩ else s.enc x:=by
 have hr:((s.setObj id o).obj x).refs.map (s.setObj id o).ref=((s.setObj id o).obj x).refs.map s.ref:=List.map_congr_left fun y _=>setObj_ref h e y
 unfold enc
 rw [hr,setObj_obj s o h]
 by_cases hx:x=id
 ·rw [if_pos hx,if_pos hx]
 ·rw [if_neg hx,if_neg hx]
theorem Inv.setObj (v:s.Inv) (h:s.here id) (e:SameShape (s.obj id) o) (hr:∀ r ∈ o.refs,r=0 ∨ s.here r) (hw:∀ x ∈ o.raws,x < 18446744073709551616):(s.setObj id o).Inv:=by
 have hl:=v.here_lt h
 have esz:=setObj_size (o:=o) hl e
 have esh:=setObj_shape (o:=o) hl e
 have eo:=setObj_obj s o hl
 refine ⟨v.l1,v.l2,v.h1,v.h2,?_,v.u2,?_,v.sll,v.rl,v.nds,?_,?_,?_,v.rt,?_,by show 1 ≤ (s.objs.set id o).length; rw [List.length_set]; exact v.ob,v.kp,v.sn⟩
 ·show s.used=1 + (s.setObj id o).sizes s.small
  rw [sizes_congr fun x _=>esz x]; exact v.u1
 ·show s.large=(s.slots.map _).sum
  rw [v.lg]
  congr 1
  exact List.map_congr_left fun x _=>by rw [esz]
 ·intro x hx
  show 0 < x∧x < (s.objs.set id o).length∧_∧_∧_=(s.setObj id o).placeIn s.small 1 x
  rw [List.length_set,(esh x).big,esz,(esh x).pl,placeIn_congr _ _ _ fun y _=>esz y]
  exact v.sm x hx
 ·intro i x hi h0
  show x < (s.objs.set id o).length∧_
  rw [List.length_set,(esh x).big,esz,(esh x).pl]
  exact v.sl i x hi h0
 ·intro x hx r hr'
  rw [eo] at hr'
  by_cases hxi:x=id
  ·rw [if_pos hxi] at hr'; exact hr r hr'
  ·rw [if_neg hxi] at hr'; exact v.rf x hx r hr'
 ·intro x hx
  obtain ⟨h1,h2,h3,h4,h5⟩:=v.shp x hx
  rw [(esh x).kind,(esh x).refs,(esh x).raws]
  refine ⟨h1,h2,h3,h4,fun y hy=>?_⟩
  rw [eo] at hy
  by_cases hxi:x=id
  ·rw [if_pos hxi] at hy; exact hw y hy
  ·rw [if_neg hxi] at hy; exact h5 y hy
end
end
end RS
section
variable {h h':Hp} {hb:Nat} {role:Nat→Role} {m:MH} {G:Geo} {s:RS} {sp:List AObj} {id:Nat} {L:ArLoc} {sz:Nat} {os:List AObj} {i:Nat}
/-- Where an object's words lie. -/
def Plc (s:RS) (G:Geo) (id:Nat) (L:ArLoc) (sz:Nat) (os:List AObj) (i:Nat):Prop :=
 (L=G.Lh∧sz=s.half∧os=s.small.map s.enc∧s.small[i]?=some id) ∨ (id ≠ 0∧G.locs[(s.obj id).pl]?=some (some L)∧sz=s.size id + 1∧os=[s.enc id]∧i=0∧s.slots[(s.obj id).pl]?=some id)
theorem Plc.get (p:Plc s G id L sz os i):os[i]?=some (s.enc id):=by
 rcases p with ⟨_,_,rfl,h⟩ | ⟨_,_,_,rfl,rfl,_⟩
 ·rw [List.getElem?_map,h]; rfl
 ·rfl
theorem Plc.ar (p:Plc s G id L sz os i) (rp:HRep h hb role (s.words sp) G):Ar h L sz os:=by
 rcases p with ⟨rfl,rfl,rfl,_⟩ | ⟨h0,hL,rfl,rfl,rfl,hs⟩
 ·exact rp.half
 ·have hm:(s.words sp).blocks[(s.obj id).pl]?=some (some (s.enc id)):=by
   show (s.slots.map _)[(s.obj id).pl]?=_
   rw [List.getElem?_map,hs]; simp [h0]
  have:=(rp.bl _ _ _ hm hL).1
  rwa [s.enc_size] at this
theorem Plc.apart (p:Plc s G id L sz os i) (rp:HRep h hb role (s.words sp) G) {b:Nat} (hb:role b=.out):¬ L.fp b:=by
 rcases p with ⟨rfl,rfl,rfl,_⟩ | ⟨h0,hL,rfl,rfl,rfl,hs⟩
 ·intro hf; have:=rp.halfr b hf; rw [hb] at this; cases this
 ·have hm:(s.words sp).blocks[(s.obj id).pl]?=some (some (s.enc id)):=by
   show (s.slots.map _)[(s.obj id).pl]?=_
   rw [List.getElem?_map,hs]; simp [h0]
  intro hf
  have:=(rp.bl _ _ _ hm hL).2 b hf
  rw [hb] at this; cases this
/-- The object is another one of the same shape. -/
theorem Plc.put (p:Plc s G id L sz os i) (v:s.Inv) (rp:HRep h hb role (s.words sp) G) {o:RObj} (hh:s.here id) (e:RS.SameShape (s.obj id) o) (ha:Ar h' L sz (os.modify i fun _=>(s.setObj id o).enc id)) (k:Kept L.fp h h') :
  ∃ role' G',HRep h' hb role' ((s.setObj id o).words sp) G'∧ExtO h role h' role':=by
 have hl:=v.here_lt hh
 have hen:=RS.setObj_enc (o:=o) hl e
 have ert:∀ x,(s.setObj id o).rootW x=s.rootW x:=fun x=>by
  cases x with
  | none=>rfl
  | some y=>show (true,_)=(true,_); rw [RS.setObj_ref hl e]
 have er:s.roots.map (s.setObj id o).rootW=s.roots.map s.rootW:=List.map_congr_left fun x _=>ert x
 rcases p with ⟨rfl,rfl,rfl,hi⟩ | ⟨h0,hL,rfl,rfl,rfl,hs⟩
 ·have g:Grown h G.Lh G.Lh h':=⟨rfl,fun _=>.inl,k⟩
  have hs:id ∈ s.small:=List.mem_of_getElem? hi
  have r1:=rp.setHalf ha g
  refine ⟨joinR role h.size G.Lh.fp .half,G,?_,ExtO.of (role:=role) k (fun b hb=>by rw [rp.halfr b hb]; nofun) fun b hb ho=>(joinR_old hb).trans ho⟩
  have em:({ s.words sp with half:=(s.small.map s.enc).modify i fun _=>(s.setObj id o).enc id }:MH)=(s.setObj id o).words sp:=by
   unfold RS.words
   simp only [MH.mk.injEq]
   refine ⟨rfl,rfl,?_,rfl,trivial,?_,rfl,trivial,rfl,rfl,rfl,er.symm,rfl,rfl,rfl,rfl⟩
   ·apply List.ext_getElem?
    intro j
    rw [List.getElem?_modify,List.getElem?_map]
    show _=(s.small.map (s.setObj id o).enc)[j]?
    rw [List.getElem?_map]
    cases hj:s.small[j]? with
    | none=>rfl
    | some x =>
     show some (if i=j then _ else _)=some _
     by_cases hij:i=j
     ·subst hij
      rw [hi] at hj
      obtain rfl:=Option.some.inj hj
      rw [if_pos rfl]
     ·have hne:x ≠ id:=fun e=>by
       subst e
       exact hij ((List.getElem?_inj (List.getElem?_eq_some_iff.1 hi).1 v.nds).1 (hi.trans hj.symm))
      rw [if_neg hij,hen,if_neg hne]
   ·show _=s.slots.map _
    refine List.map_congr_left fun x hx=>?_
    by_cases hx0:x=0
    ·rw [if_pos hx0,if_pos hx0]
    ·obtain ⟨j,hj⟩:=List.mem_iff_getElem?.1 hx
     rw [if_neg hx0,if_neg hx0,hen,if_neg (RS.big_ne_small v hs hj hx0)]
  rw [em] at r1
  exact r1
 ·have hm:(s.words sp).blocks[(s.obj id).pl]?=some (some (s.enc id)):=by
   show (s.slots.map _)[(s.obj id).pl]?=_
   rw [List.getElem?_map,hs]; simp [h0]
  have hsz:((s.setObj id o).enc id).size=(s.enc id).size:=by rw [RS.enc_size,RS.enc_size]; exact RS.setObj_size hl e id
  have ha:Ar h' L ((s.enc id).size + 1) [(s.setObj id o).enc id]:=by rw [s.enc_size]; exact ha
  have r1:=rp.setSlot hm hL hsz ha k
  refine ⟨role,G,?_,ExtO.of (role:=role) k (fun b hb=>by rw [(rp.bl _ _ _ hm hL).2 b hb]; nofun) fun _ _ ho=>ho⟩
  have em:({ s.words sp with blocks:=(s.words sp).blocks.set (s.obj id).pl (some ((s.setObj id o).enc id)) }:MH)=(s.setObj id o).words sp:=by
   unfold RS.words
   simp only [MH.mk.injEq]
   have hb:(s.obj id).big=true:=(v.sl _ id hs h0).2.1
   refine ⟨rfl,rfl,?_,rfl,trivial,?_,rfl,trivial,rfl,rfl,rfl,er.symm,rfl,rfl,rfl,rfl⟩
   ·show _=s.small.map _
    refine List.map_congr_left fun x hx=>?_
    rw [hen,if_neg fun e=>by
     subst e
     have:=(v.sm x hx).2.2.1
     rw [hb] at this; cases this]
   ·apply List.ext_getElem?
    intro j
    show _=(s.slots.map _)[j]?
    rw [List.getElem?_map]
    by_cases hj:j=(s.obj id).pl
    ·subst hj
     rw [List.getElem?_set_self (by rw [List.length_map]; exact (List.getElem?_eq_some_iff.1 hs).1),hs]
     simp [h0]
    ·rw [List.getElem?_set_ne (Ne.symm hj),List.getElem?_map]
     cases hx:s.slots[j]? with
     | none=>rfl
     | some x =>
      show some _=some _
      congr 1
      show (if x=0 then none else some (s.enc x))=(if x=0 then none else some ((s.setObj id o).enc x))
      by_cases hx0:x=0
      ·rw [if_pos hx0,if_pos hx0]
      ·rw [if_neg hx0,if_neg hx0,hen,if_neg fun e=>by
        subst e
        exact hj (v.sl j x hx h0).2.2.2.symm]
  rw [em] at r1
  exact r1
/-- find: nothing, or where the object lies. -/
theorem find_ok (v:s.Inv) (rp:HRep h hb role (s.words sp) G) {r:Nat} (hr:r < 18446744073709551616) {R:Value→Hp→Prop} (h0:s.ident r=0→R (.tuple #[.nilIface,.int .i64 0,.bool false]) h)
  (h1:∀ L sz os i,s.ident r ≠ 0→Plc s G (s.ident r) L sz os i→R (.tuple #[.iface 98 (.pointer (some (ad L.pb))),.int .i64 (pos os i:Nat),.bool true]) h):CallTo Try.prog 84 #[.pointer (some (ad hb)),uv r] h R:=by
 have ht:top=9223372036854775808:=rfl
 have i5:=v.sll
 refine f84F_ok ?_
 unfold f84F
 rcases Nat.lt_or_ge r top with hl | hg
 ·have hl:r < 9223372036854775808:=hl
  refine Cond_f (by rw [gone_no hl]; rfl) ?_
  by_cases hz:r=0
  ·subst hz
   refine Cond_t rfl ?_
   unfold f84K2
   exact Cond_t rfl (h0 s.ident_zero)
  refine Cond_f (by simp; omega) ?_
  have c1:cell h ((ad hb).add 1)=some (.pointer (some (ad G.Lh.pb))):=(rp.c 1).trans rfl
  obtain ⟨wc,fc,fs,ra⟩:=rp.half
  have hu:=RS.used_words v sp
  have i2:=v.u2; have i3:=v.h2; have i4:=v.l2
  refine PtrOk_mk ⟨_,c1,aused_ok ra ⟨_,rfl,?_⟩⟩
  rw [hu,wrap_u64' (x:=((s.used:Nat):Int)) (by omega) (by omega)]
  have none_of:idx (s.words sp).half r=none→s.ident r=0:=fun hn=>by
   by_cases hi:s.ident r=0
   ·exact hi
   ·exfalso
    obtain ⟨q1,q2⟩:=RS.ident_here v hi
    rcases v.big_of q1 with ⟨hb',_,hne⟩ | ⟨hb',hs⟩
    ·rw [RS.ref_big hne hb'] at q2; omega
    ·obtain ⟨j,hj,hp⟩:=v.small_at hs
     rw [RS.ref_small hi hb'] at q2
     have e1:pos (s.small.map s.enc) j=1 + s.sizes (s.small.take j):=RS.pos_map (fun id=>s.enc_size id) _ _
     have:idx (s.small.map s.enc) r=some j:=idx_some.2 ⟨by rw [List.length_map]; exact (List.getElem?_eq_some_iff.1 hj).1,by rw [e1]; omega⟩
     have hn:idx (s.small.map s.enc) r=none:=hn
     rw [hn] at this; cases this
  by_cases hge:s.used ≤ r
  ·rw [show decide (((r:Nat):Int) ≥ ((s.used:Nat):Int))=true from decide_eq_true (by omega)]
   unfold f84K2
   exact Cond_t rfl (h0 (none_of (idx_none_of_ge (by rw [hu]; exact hge))))
  ·rw [show decide (((r:Nat):Int) ≥ ((s.used:Nat):Int))=false from decide_eq_false (by omega)]
   unfold f84K2
   rw [wrap_i64' (x:=((r:Nat):Int)) (by omega) (by omega)]
   refine Cond_f rfl (PtrOk_mk ⟨_,c1,aobject_ok ra ?_⟩)
   cases hi:idx (s.words sp).half r with
   | none =>
    have:objV (s.words sp).half ((r:Nat):Int)=.tuple #[.int .i64 0,.int .i64 0,.int .i64 0,.int .i64 23]:=by
     unfold objV; rw [idxI_nat,hi]; rfl
    rw [this]
    exact ⟨_,_,_,_,rfl,Cond_t rfl (h0 (none_of hi))⟩
   | some j =>
    obtain ⟨q1,q2⟩:=idx_some.1 hi
    have q1:j < s.small.length:=by have:j < (s.small.map s.enc).length:=q1; rwa [List.length_map] at this
    obtain ⟨x,hx⟩:∃ x,s.small[j]?=some x:=⟨_,List.getElem?_eq_getElem q1⟩
    have hxs:=List.mem_of_getElem? hx
    have hget:(s.words sp).half[j]?=some (s.enc x):=by show (s.small.map s.enc)[j]?=_; rw [List.getElem?_map,hx]; rfl
    have:objV (s.words sp).half ((r:Nat):Int)=.tuple #[.int .i64 ((s.enc x).kind:Int),.int .i64 ((s.enc x).refs.length:Int),.int .i64 ((s.enc x).raws.length:Int),.int .i64 0]:=by
     unfold objV; rw [idxI_nat,hi]; simp only [Option.bind_some,hget]; rfl
    rw [this]
    refine ⟨_,_,_,_,rfl,Cond_f rfl (PtrOk_mk ⟨_,c1,?_⟩)⟩
    have e1:pos (s.small.map s.enc) j=1 + s.sizes (s.small.take j):=RS.pos_map (fun id=>s.enc_size id) _ _
    have hpl:(s.obj x).pl=r:=by
     have q2:pos (s.small.map s.enc) j=r:=q2
     rw [(v.sm x hxs).2.2.2.2,RS.placeIn_at _ _ _ _ v.nds hx,← e1,q2]
    have hid:s.ident r=x:=by rw [← hpl]; exact RS.ident_small v hxs
    have hx0:x ≠ 0:=by have:=(v.sm x hxs).1; omega
    have:=h1 G.Lh s.half (s.small.map s.enc) j (by rw [hid]; exact hx0) (.inl ⟨rfl,rfl,rfl,by rw [hid]; exact hx⟩)
    have q2:pos (s.small.map s.enc) j=r:=q2
    rw [q2] at this
    exact this
 ·obtain ⟨k,rfl⟩:=Nat.exists_eq_add_of_le hg
  rw [RS.ident_top] at h0 h1
  have hk:k < 9223372036854775808:=by omega
  have hn:andNotI .u64 ((top + k:Nat):Int) (9223372036854775808:Int)=(k:Int):=by rw [andNotI_gone (by omega) (by omega)]; omega
  refine Cond_t (by rw [gone_yes (by omega) hr]; rfl) ?_
  rw [hn]
  have c3:cell h ((ad hb).add 3)=some (.slice G.bs.a G.bs.n G.bs.c):=(rp.c 3).trans rfl
  have hbn:=rp.bs_n
  have hbn:G.bs.n=(s.slots.map fun id=>if id=0 then none else some (s.enc id)).length:=hbn
  rw [List.length_map] at hbn
  refine PtrOk_mk ⟨G.bs,c3,?_⟩
  rw [wrap_u64' (x:=((G.bs.n:Nat):Int)) (by omega) (by omega)]
  refine Cond_dec (fun hge=>?_) fun hlt=>?_
  ·unfold f84K1
   exact Cond_t rfl (h0 (by rw [List.getD_eq_getElem?_getD,List.getElem?_eq_none (by omega)]; rfl))
  ·have hkl:k < s.slots.length:=by omega
   obtain ⟨x,hx⟩:∃ x,s.slots[k]?=some x:=⟨_,List.getElem?_eq_getElem hkl⟩
   have hgd:s.slots.getD k 0=x:=by rw [List.getD_eq_getElem?_getD,hx]; rfl
   rw [hgd] at h0 h1
   have cb:(0:Int) ≤ (k:Int)∧(k:Int) < ((G.bs.n:Nat):Int):=by omega
   have hll:=rp.ll
   have hll:G.locs.length=(s.slots.map fun id=>if id=0 then none else some (s.enc id)).length:=hll
   rw [List.length_map] at hll
   have hL:G.locs[k]?=some G.locs[k]:=List.getElem?_eq_getElem (by omega)
   obtain ⟨bb,hba,hbc⟩:=rp.slot_at hL
   have hm:(s.words sp).blocks[k]?=some (if x=0 then none else some (s.enc x)):=by
    show (s.slots.map _)[k]?=_
    rw [List.getElem?_map,hx]; rfl
   have hbk:=rp.bl k _ _ hm hL
   generalize hLk:G.locs[k]=Lk at hL hbc hbk
   by_cases hx0:x=0
   ·subst hx0
    rw [if_pos rfl] at hbk
    cases Lk with
    | some L=>exact hbk.elim
    | none =>
     refine PtrOk_mk ⟨G.bs,c3,cb,PtrOk_of hba ⟨none,by rw [Int.toNat_natCast]; exact hbc,?_⟩⟩
     unfold f84K1
     exact Cond_t rfl (h0 rfl)
   ·rw [if_neg hx0] at hbk
    cases Lk with
    | none=>exact hbk.elim
    | some L =>
     refine PtrOk_mk ⟨G.bs,c3,cb,PtrOk_of hba ⟨some (ad L.pb),by rw [Int.toNat_natCast]; exact hbc,?_⟩⟩
     unfold f84K1
     refine Cond_f rfl (PtrOk_mk ⟨G.bs,c3,cb,PtrOk_of hba ⟨some (ad L.pb),by rw [Int.toNat_natCast]; exact hbc,?_⟩⟩)
     have hpl:(s.obj x).pl=k:=(v.sl k x hx hx0).2.2.2
     exact h1 L (s.size x + 1) [s.enc x] 0 hx0 (.inr ⟨hx0,by rw [hpl]; exact hL,rfl,rfl,rfl,by rw [hpl]; exact hx⟩)
end
end Go.Ev
set_option linter.all false
set_option maxRecDepth 100000
namespace Go.Ev
open Go.Proofs
section
variable {h h':Hp} {hb:Nat} {role:Nat→Role} {m:MH} {G:Geo}
/-- One element joins a slice of the struct, and the slice is written back. -/
theorem HRep.app (r:HRep h hb role m G) {x:Role} (hx1:x ≠ .hd) (hx2:x ≠ .out) {e sz bys:Nat} {z:Array Value} {s:Sl} {ob:Option Nat} {vs:List Value} (sl:SlAt sz h s.a s.n s.c ob vs) (sr:∀ b,ob=some b→role b=x)
  {arr:Array Value} {t:TypeId} (hz:z.size=sz) (hl:arr.toList.length=1 * sz) (hcell:∀ v ∈ arr.toList,isCell v=true) (hby:(2 * (s.n + 1) + 768) * bys ≤ 2 ^ 48) (hlt:s.n + 1 < 2 ^ 62) {no:Nat} (hno:no < 19) {K:Hp→Prop}
  (hK:∀ h' role' a' c' gb',Row h' hb ((hcells m G).set no (.slice a' (s.n + 1) c'))→HPart h' hb role' m G x→SlAt sz h' a' (s.n + 1) c' (some gb') (vs ++ arr.toList)→role' gb'=x→Ext h role h' role'→Kept (fun b=>role b=x ∨ b=hb) h h'→K h') :
  Let (h.push (.cells arr t)) fun h2=>appSl e sz bys z s.a s.n s.c (some (nb h)) 1 h2 fun ra rn rc h3=>PtrOk (some (ad hb)) fun p=>Go.Ev.stOk h3 (p.add no)∧Let (setc h3 (p.add no) (.slice ra rn rc)) fun h4=>K h4:=by
 refine Let_mk fun h2 e2=>?_
 have k2:Kept N h h2:=e2 ▸ kept_push _ _ _
 have r2:=r.keep k2 fun _ e=>e.elim
 have row2:Row h2 h.size arr.toList:=e2 ▸ row_new h arr t
 have hz2:h2.size=h.size + 1:=by rw [e2]; simp
 have sl2:SlAt sz h2 s.a s.n s.c ob vs:=slat_kept' sl k2 fun _ _ e=>e
 refine ⟨arr.toList,reads_row row2 (fun j v hj=>by rw [Nat.zero_add]; exact hj),hl,?_⟩
 refine appT_ok2 sl2 hz hl hcell hby hlt fun a' c' ob' h3 s3 hcase=>PtrOk_mk ?_
 have hlt2:=r2.hlt
 have key:∀ gb',ob'=some gb'→(role gb'=x ∨ h2.size ≤ gb')→Kept (fun b=>role b=x) h2 h3→Go.Ev.stOk h3 ((ad hb).add no)∧Let (setc h3 ((ad hb).add no) (.slice a' (s.n + 1) c')) fun h4=>K h4:=by
  rintro gb' rfl hgb k3
  have e5:(ad hb).add no=⟨hb,no,none⟩:=add_ad _ _
  rw [e5]
  have hrow3:Row h3 hb (hcells m G):=kept_row k3 r2.row fun e=>by rw [r2.rh] at e; exact hx1 e.symm
  refine ⟨stOk_row hrow3 hno,Let_mk fun h4 e4=>?_⟩
  have k4:Kept (fun b=>b=hb) h3 h4:=e4 ▸ kept_setc h3 no _ rfl
  have k24:Kept (fun b=>role b=x ∨ b=hb) h2 h4:=⟨Nat.le_trans k3.1 k4.1,fun b hb0 hn=>(k4.2 b (Nat.lt_of_lt_of_le hb0 k3.1) (fun e=>hn (.inr e))).trans (k3.2 b hb0 fun e=>hn (.inl e))⟩
  have hgl:gb' < h4.size:=Nat.lt_of_lt_of_le s3.lt k4.1
  have p:=r2.part (x:=x) k24 (fun b e=>e.elim .inl fun e=>.inr (.inl (e ▸ r2.rh))) (role':=joinR role h2.size (fun b=>b=gb') x) (fun b hb=>joinR_old hb) fun b hb=>joinR_out (r2.fresh b (Nat.le_trans k24.1 hb)) fun e=>by omega
  have hg4:joinR role h2.size (fun b=>b=gb') x gb'=x:=by
   rcases Nat.lt_or_ge gb' h2.size with hl | hl
   ·rw [joinR_old hl]; exact hgb.resolve_right (by omega)
   ·exact joinR_new hl rfl
  have hne:gb' ≠ hb:=fun e=>by
   rcases hgb with h | h
   ·rw [e,r2.rh] at h; exact hx1 h.symm
   ·omega
  have hrow4:Row h4 hb ((hcells m G).set no (.slice a' (s.n + 1) c')):=by rw [e4]; exact row_setc hrow3 no _
  refine hK h4 _ a' c' gb' hrow4 p (slat_kept s3 k4 hne) hg4 ?_ ((k2.mono fun _ _ e=>e.elim).trans k24)
  refine ⟨Nat.le_trans k2.1 k24.1,fun b hb0=>joinR_old (by omega),fun b hb0 ho=>?_⟩
  rw [k24.2 b (by omega) fun e=>e.elim (fun e=>by rw [ho] at e; exact hx2 e.symm) fun e=>by rw [e,r2.rh] at ho; cases ho]
  exact k2.2 b hb0 id
 rcases hcase with ⟨rfl,k3⟩ | ⟨rfl,k3⟩
 ·cases hgb:ob' with
  | none =>
   rw [hgb] at s3
   exact absurd (s3.nil rfl).2.1 (by omega)
  | some gb' =>
   refine key gb' hgb (.inl (sr gb' hgb)) (k3.mono fun b _ e=>?_)
   rw [hgb] at e
   obtain rfl:=Option.some.inj e
   exact sr _ hgb
 ·exact key h2.size rfl (.inr (Nat.le_refl _)) (k3.mono fun _ _ e=>e.elim)
/-- Blocks that nobody has bear another role. -/
def reR (role:Nat→Role) (P:Nat→Prop) [DecidablePred P] (x:Role) (b:Nat):Role:=if P b then x else role b
theorem reR_in {P:Nat→Prop} [DecidablePred P] {x:Role} {b:Nat} (h:P b):reR role P x b=x:=if_pos h
theorem reR_out {P:Nat→Prop} [DecidablePred P] {x:Role} {b:Nat} (h:¬ P b):reR role P x b=role b:=if_neg h
theorem HRep.rerole (r:HRep h hb role m G) {P:Nat→Prop} [DecidablePred P] (x:Role) (hP:∀ b,P b→role b=.out∧b < h.size):HRep h hb (reR role P x) m G:=by
 have tr:∀ b y,role b=y→y ≠ .out→reR role P x b=y:=fun b y e hy=>(reR_out fun hp=>hy (e ▸ (hP b hp).1)).trans e
 exact ⟨r.row,tr _ _ r.rh nofun,fun b hb=>(reR_out fun hp=>by have:=(hP b hp).2; omega).trans (r.fresh b hb),r.half,fun b hb=>tr _ _ (r.halfr b hb) nofun,r.spare,fun b hb=>tr _ _ (r.sparer b hb) nofun,
  r.bs,fun b hb=>tr _ _ (r.bsr b hb) nofun,r.ll,fun i o L h1 h2=>by
   have x0:=r.bl i o L h1 h2
   cases o <;> cases L <;> first | exact x0 | exact ⟨x0.1,fun b hb=>tr _ _ (x0.2 b hb) nofun⟩,
  r.rs,fun b hb=>tr _ _ (r.rsr b hb) nofun,r.gs,fun b hb=>tr _ _ (r.gsr b hb) nofun,r.ts,fun b hb=>tr _ _ (r.tsr b hb) nofun⟩
theorem ExtO.rerole {h0:Hp} {role0:Nat→Role} (x:ExtO h0 role0 h role) {P:Nat→Prop} [DecidablePred P] (y:Role) (hP:∀ b,P b→h0.size ≤ b):ExtO h0 role0 h (reR role P y) :=
 ⟨x.1,fun b hb ho=>⟨(reR_out fun hp=>by have:=hP b hp; omega).trans (x.2 b hb ho).1,(x.2 b hb ho).2⟩⟩
/-- A free slot is taken. -/
theorem HRep.putSlot (r:HRep h hb role m G) {i:Nat} {o:AObj} {L:ArLoc} (hi:i < m.blocks.length) (ha:Ar h L (o.size + 1) [o]) (hr:∀ b,L.fp b→role b=.slot i) :
  ∃ b,G.bs.a=some (ad b)∧Go.Ev.stOk h ((ad b).add (i * 1))∧HRep (setc h ((ad b).add (i * 1)) (.pointer (some (ad L.pb)))) hb role { m with blocks:=m.blocks.set i (some o) } { G with locs:=G.locs.set i (some L) }∧Ext h role (setc h ((ad b).add (i * 1)) (.pointer (some (ad L.pb)))) role:=by
 have hl:=r.bs.len
 have hll:=r.ll
 rw [List.length_map] at hl
 obtain ⟨b,hob,hba⟩:=own_some r.bs (by omega)
 have bs:=r.bs
 rw [hob] at bs
 obtain ⟨h1,h2⟩:=bs.set (o:=i) (by rw [List.length_map]; omega) (.pointer (some (ad L.pb)))
 refine ⟨b,hba,?_⟩
 rw [add_ad,Nat.mul_one]
 have k:Kept (fun x=>x=b) h (setc h ⟨b,i,none⟩ (.pointer (some (ad L.pb)))):=kept_setc h i _ rfl
 have hbb:=r.bsr b hob
 have p:=r.part (x:=.bb) k (fun x e=>.inl (e ▸ hbb)) (role':=role) (fun _ _=>rfl) fun b hb=>r.fresh b (Nat.le_trans k.1 hb)
 refine ⟨h1,⟨kept_row k r.row (fun e=>by have:=r.rh; rw [e,hbb] at this; cases this),p.rh,p.fresh,(p.half nofun).1,(p.half nofun).2,(p.spare nofun).1,(p.spare nofun).2,?_,r.bsr,by simp [hll],fun j o' L' h1 h2=>?_,(p.rs nofun).1,(p.rs nofun).2,
  (p.gs nofun).1,(p.gs nofun).2,(p.ts nofun).1,(p.ts nofun).2⟩,Ext.of (role:=role) k (fun x e=>by rw [e,hbb]; nofun) fun _ _=>rfl⟩
 ·rw [hob]
  show SlAt 1 _ _ _ _ _ ((G.locs.set i (some L)).map ptrV)
  rw [List.map_set]
  exact h2
 ·have h1:(m.blocks.set i (some o))[j]?=some o':=h1
  have h2:(G.locs.set i (some L))[j]?=some L':=h2
  by_cases hj:j=i
  ·subst hj
   rw [List.getElem?_set_self hi] at h1
   rw [List.getElem?_set_self (by omega)] at h2
   obtain rfl:=Option.some.inj h1
   obtain rfl:=Option.some.inj h2
   exact ⟨ha.keep k fun b' hf e=>(by have:=hr b' hf; rw [e,hbb] at this; cases this),hr⟩
  ·rw [List.getElem?_set_ne (Ne.symm hj)] at h1 h2
   exact p.bl j o' L' nofun h1 h2
/-- A slot more. -/
theorem HRep.addSlot (r:HRep h hb role m G) {o:AObj} {L:ArLoc} {e:Nat} {t:TypeId} (ha:Ar h L (o.size + 1) [o]) (hr:∀ b,L.fp b→role b=.slot m.blocks.length) (hn:m.blocks.length ≤ 2000000) {K:Hp→Prop}
  (hK:∀ h' role' G',HRep h' hb role' { m with blocks:=m.blocks ++ [some o] } G'→Ext h role h' role'→K h') :
  Let (h.push (.cells #[.pointer (some (ad L.pb))] t)) fun h2=>appSl e 1 8 #[.pointer none] G.bs.a G.bs.n G.bs.c (some (nb h)) 1 h2 fun ra rn rc h3=>PtrOk (some (ad hb)) fun p=>Go.Ev.stOk h3 (p.add 3)∧Let (setc h3 (p.add 3) (.slice ra rn rc)) fun h4=>K h4:=by
 have hbn:=r.bs_n
 have hll:=r.ll
 refine r.app (x:=.bb) nofun nofun (s:=G.bs) r.bs r.bsr rfl rfl (fun v hv=>by obtain rfl:=List.mem_singleton.1 hv; rfl) (by omega) (by omega) (by omega) fun h' role' a' c' gb' hrow p sl hg x kk=>?_
 have hL:∀ b,L.fp b→role' b=.slot m.blocks.length:=fun b hb'=>(x.2.1 b (ha.lt b hb')).trans (hr b hb')
 have haL:Ar h' L (o.size + 1) [o]:=ha.keep kk fun b hb' e=>by
  rcases e with e | e
  ·rw [hr b hb'] at e; cases e
  ·have:=hr b hb'; rw [e,r.rh] at this; cases this
 refine hK h' role' { G with bs:=⟨a',G.bs.n + 1,c'⟩,bb:=some gb',locs:=G.locs ++ [some L] } ⟨hrow,p.rh,p.fresh,(p.half nofun).1,(p.half nofun).2,(p.spare nofun).1,(p.spare nofun).2,?_,fun b e=>by obtain rfl:=Option.some.inj e; exact hg,by simp [hll],fun j o' L' h1 h2=>?_,
   (p.rs nofun).1,(p.rs nofun).2,(p.gs nofun).1,(p.gs nofun).2,(p.ts nofun).1,(p.ts nofun).2⟩ x
 ·show SlAt 1 h' a' (G.bs.n + 1) c' (some gb') ((G.locs ++ [some L]).map ptrV)
  rw [List.map_append]
  exact sl
 ·have h1:(m.blocks ++ [some o])[j]?=some o':=h1
  have h2:(G.locs ++ [some L])[j]?=some L':=h2
  rcases Nat.lt_trichotomy j m.blocks.length with hj | hj | hj
  ·rw [List.getElem?_append_left hj] at h1
   rw [List.getElem?_append_left (by omega)] at h2
   exact p.bl j o' L' nofun h1 h2
  ·subst hj
   rw [List.getElem?_append_right (Nat.le_refl _),Nat.sub_self] at h1
   rw [List.getElem?_append_right (by omega),hll,Nat.sub_self] at h2
   obtain rfl:=Option.some.inj h1
   obtain rfl:=Option.some.inj h2
   exact ⟨haL,hL⟩
  ·rw [List.getElem?_eq_none (by simp; omega)] at h1; cases h1
/-- A flag more. -/
theorem HRep.addReach (r:HRep h hb role m G) {e:Nat} {t:TypeId} (hn:m.reached.length ≤ 2000000) {K:Hp→Prop} (hK:∀ h' role' G',HRep h' hb role' { m with reached:=m.reached ++ [false] } G'→G'.bs=G.bs→Ext h role h' role'→K h') :
  Let (h.push (.cells #[.bool false] t)) fun h2=>appSl e 1 1 #[.bool false] G.rs.a G.rs.n G.rs.c (some (nb h)) 1 h2 fun ra rn rc h3=>PtrOk (some (ad hb)) fun p=>Go.Ev.stOk h3 (p.add 4)∧Let (setc h3 (p.add 4) (.slice ra rn rc)) fun h4=>K h4:=by
 have hrn:=r.rs_n
 refine r.app (x:=.rb) nofun nofun (s:=G.rs) r.rs r.rsr rfl rfl (fun v hv=>by obtain rfl:=List.mem_singleton.1 hv; rfl) (by omega) (by omega) (by omega) fun h' role' a' c' gb' hrow p sl hg x kk=>?_
 refine hK h' role' { G with rs:=⟨a',G.rs.n + 1,c'⟩,rb:=some gb' } ⟨hrow,p.rh,p.fresh,(p.half nofun).1,(p.half nofun).2,(p.spare nofun).1,(p.spare nofun).2,(p.bs nofun).1,(p.bs nofun).2,p.ll,fun i o L h1 h2=>p.bl i o L nofun h1 h2,?_,fun b e=>by obtain rfl:=Option.some.inj e; exact hg,
  (p.gs nofun).1,(p.gs nofun).2,(p.ts nofun).1,(p.ts nofun).2⟩ rfl x
 show SlAt 1 h' a' (G.rs.n + 1) c' (some gb') ((m.reached ++ [false]).map Value.bool)
 rw [List.map_append]
 exact sl
/-- A handle more. -/
theorem HRep.addRoot (r:HRep h hb role m G) {e:Nat} {t:TypeId} {ref:Nat} (hn:m.roots.length ≤ 100000000) {K:Hp→Prop} (hK:∀ h' role' G',HRep h' hb role' { m with roots:=m.roots ++ [(true,ref)] } G'→Ext h role h' role'→K h') :
  Let (h.push (.cells #[.bool true,uv ref] t)) fun h2=>appSl e 2 16 #[.bool false,.int .u64 0] G.ts.a G.ts.n G.ts.c (some (nb h)) 1 h2 fun ra rn rc h3=>PtrOk (some (ad hb)) fun p=>Go.Ev.stOk h3 (p.add 9)∧Let (setc h3 (p.add 9) (.slice ra rn rc)) fun h4=>K h4:=by
 have htn:=r.ts_n
 refine r.app (x:=.tb) nofun nofun (s:=G.ts) r.ts r.tsr rfl rfl (fun v hv=>?_) (by omega) (by omega) (by omega) fun h' role' a' c' gb' hrow p sl hg x kk=>?_
 ·have hv:v ∈ [Value.bool true,uv ref]:=hv
  rcases List.mem_cons.1 hv with rfl | hv
  ·rfl
  ·obtain rfl:=List.mem_singleton.1 hv; rfl
 refine hK h' role' { G with ts:=⟨a',G.ts.n + 1,c'⟩,tb:=some gb' } ⟨hrow,p.rh,p.fresh,(p.half nofun).1,(p.half nofun).2,(p.spare nofun).1,(p.spare nofun).2,(p.bs nofun).1,(p.bs nofun).2,p.ll,fun i o L h1 h2=>p.bl i o L nofun h1 h2,(p.rs nofun).1,(p.rs nofun).2,
  (p.gs nofun).1,(p.gs nofun).2,?_,fun b e=>by obtain rfl:=Option.some.inj e; exact hg⟩ x
 show SlAt 2 h' a' (G.ts.n + 1) c' (some gb') ((m.roots ++ [(true,ref)]).flatMap rootV)
 rw [List.flatMap_append]
 exact sl
end
end Go.Ev
set_option linter.all false
set_option maxRecDepth 100000
namespace Go.Ev
open Go.Proofs
namespace RS
def objF (s:RS) (r:Nat):(Nat × Nat × Nat) × Int:=if s.ident r=0 then ((0,0,0),32) else (((s.obj (s.ident r)).kind,(s.obj (s.ident r)).refs.length,(s.obj (s.ident r)).raws.length),0)
def getF (s:RS) (r:Nat) (i:Int):Nat × Int :=
 if s.ident r=0 then (0,32) else if 0 ≤ i∧i < ((s.enc (s.ident r)).flds.length:Nat) then ((s.enc (s.ident r)).flds.getD i.toNat 0,0) else (0,33)
def setF (s:RS) (r:Nat) (i:Int) (x:Nat):RS × Int :=
 if s.ident r=0 then (s,32)
 else if ¬ (0 ≤ i∧i < (((s.obj (s.ident r)).refs.length + (s.obj (s.ident r)).raws.length:Nat):Int)) then (s,33)
 else if i < ((s.obj (s.ident r)).refs.length:Nat) then
  (if x ≠ 0∧s.ident x=0 then (s,32) else (s.setObj (s.ident r) { s.obj (s.ident r) with refs:=(s.obj (s.ident r)).refs.set i.toNat (s.ident x) },0))
 else (s.setObj (s.ident r) { s.obj (s.ident r) with raws:=(s.obj (s.ident r)).raws.set (i.toNat - (s.obj (s.ident r)).refs.length) x },0)
def spanOk (s:RS) (r:Nat) (f n:Int):Prop:=s.ident r ≠ 0∧0 ≤ f∧0 ≤ n∧f + n ≤ 8 * (((s.obj (s.ident r)).raws.length:Nat):Int)
instance (s:RS) (r:Nat) (f n:Int):Decidable (s.spanOk r f n):=inferInstanceAs (Decidable (_∧_∧_∧_))
def spanE (s:RS) (r:Nat) (f n:Int):Int:=if s.ident r=0 then 32 else if s.spanOk r f n then 0 else 33
def setBytesF (s:RS) (r:Nat) (f:Int) (cs:List Nat):RS × Int :=
 if s.spanOk r f cs.length then (s.setObj (s.ident r) { s.obj (s.ident r) with raws:=putBytes (s.obj (s.ident r)).raws f.toNat cs },0) else (s,s.spanE r f cs.length)
def goodR (s:RS) (r:Nat):Bool:=decide (r=0 ∨ s.ident r ≠ 0)
def hand (s:RS) (n:Int):Option Nat:=if 1 ≤ n∧n ≤ (s.roots.length:Nat) then s.roots.getD (n - 1).toNat none else none
def atF (s:RS) (n:Int):Nat × Int:=match s.hand n with | some id=>(s.ref id,0) | none=>(0,35)
def withRoots (s:RS) (l:List (Option Nat)):RS:={ s with roots:=l }
def putF (s:RS) (n:Int) (r:Nat):RS × Int :=
 match s.hand n with
 | none=>(s,35)
 | some _=>if s.goodR r=true then (s.withRoots (s.roots.set (n - 1).toNat (some (s.ident r))),0) else (s,32)
def dropF (s:RS) (n:Int):RS × Int:=match s.hand n with | none=>(s,35) | some _=>(s.withRoots (s.roots.set (n - 1).toNat none),0)
def freeAt:List (Option Nat)→Nat
 | []=>0
 | none :: _=>0
 | some _ :: l=>freeAt l + 1
theorem freeAt_eq:∀ (l:List (Option Nat)) (i:Nat),(∀ j,j < i→∃ x,l[j]?=some (some x))→(l[i]?=some none ∨ i=l.length)→freeAt l=i
 | [],i,h,e=>by
  rcases e with e | e
  ·simp at e
  ·rw [e]; rfl
 | none :: l,0,_,_=>rfl
 | none :: l,i + 1,h,_=>by obtain ⟨x,hx⟩:=h 0 (by omega); simp at hx
 | some y :: l,0,_,e=>by
  rcases e with e | e
  ·simp at e
  ·simp at e
 | some y :: l,i + 1,h,e=>by
  show freeAt l + 1=i + 1
  rw [freeAt_eq l i (fun j hj=>by have:=h (j + 1) (by omega); simpa using this) (by simpa using e)]
theorem freeAt_le:∀ l:List (Option Nat),freeAt l ≤ l.length
 | []=>Nat.le_refl _
 | none :: l=>Nat.zero_le _
 | some _ :: l=>Nat.succ_le_succ (freeAt_le l)
theorem count_some:∀ (l:List (Option Nat)) (i x:Nat),l[i]?=some none→((l.set i (some x)).filter Option.isSome).length=(l.filter Option.isSome).length + 1
 | [],i,x,h=>by simp at h
 | y :: l,0,x,h=>by
  obtain rfl:y=none:=by simpa using h
  simp
 | y :: l,i + 1,x,h=>by
  have:=count_some l i x (by simpa using h)
  rw [List.set_cons_succ]
  cases y <;> simp [this]
theorem count_none:∀ (l:List (Option Nat)) (i x:Nat),l[i]?=some (some x)→((l.set i none).filter Option.isSome).length + 1=(l.filter Option.isSome).length
 | [],i,x,h=>by simp at h
 | y :: l,0,x,h=>by
  obtain rfl:y=some x:=by simpa using h
  simp
 | y :: l,i + 1,x,h=>by
  have:=count_none l i x (by simpa using h)
  rw [List.set_cons_succ]
  cases y <;> simp <;> omega
def rootF (s:RS) (r:Nat):RS × Nat × Int :=
 if s.goodR r=true then
  (s.withRoots (if freeAt s.roots < s.roots.length then s.roots.set (freeAt s.roots) (some (s.ident r)) else s.roots ++ [some (s.ident r)]),freeAt s.roots + 1,0)
 else (s,0,32)
section
variable {s:RS}
theorem enc_flds_len (id:Nat):(s.enc id).flds.length=(s.obj id).refs.length + (s.obj id).raws.length:=by unfold AObj.flds enc; simp
theorem Inv.withRoots (v:s.Inv) {l:List (Option Nat)} (h1:∀ id,some id ∈ l→id=0 ∨ s.here id) (h2:l.length ≤ 100000000):(s.withRoots l).Inv :=
 ⟨v.l1,v.l2,v.h1,v.h2,v.u1,v.u2,v.lg,v.sll,h2,v.nds,fun id hid=>by
  obtain ⟨a,b,c,d,e⟩:=v.sm id hid
  exact ⟨a,b,c,d,e.trans (placeIn_congr (s:=s.withRoots l) (t:=s) _ _ _ fun _ _=>rfl)⟩,v.sl,v.rf,h1,v.shp,v.ob,v.kp,v.sn⟩
theorem goodR_ref (v:s.Inv) {r:Nat} (h:s.goodR r=true):s.ref (s.ident r)=r:=by
 have h:r=0 ∨ s.ident r ≠ 0:=by simpa [goodR] using h
 rcases h with rfl | h
 ·rw [ident_zero,ref_zero]
 ·exact (ident_here v h).2
theorem Inv.set (v:s.Inv) (r:Nat) (i:Int) {x:Nat} (hx:x < 18446744073709551616):(s.setF r i x).1.Inv:=by
 unfold setF
 split
 ·exact v
 ·rename_i h0
  have hh:=(ident_here v h0).1
  obtain ⟨_,_,_,_,hw⟩:=v.shp _ hh
  split
  ·exact v
  ·split
   ·split
    ·exact v
    ·refine v.setObj hh ⟨rfl,by simp,rfl,rfl,rfl⟩ (fun y hy=>?_) hw
     rcases List.mem_or_eq_of_mem_set hy with hy | hy
     ·exact v.rf _ hh y hy
     ·rw [hy]; exact ident_in v x
   ·refine v.setObj hh ⟨rfl,rfl,by simp,rfl,rfl⟩ (v.rf _ hh) fun y hy=>?_
    rcases List.mem_or_eq_of_mem_set hy with hy | hy
    ·exact hw y hy
    ·rw [hy]; exact hx
theorem Inv.setBytes (v:s.Inv) (r:Nat) (f:Int) {cs:List Nat} (hc:∀ c ∈ cs,c < 256):(s.setBytesF r f cs).1.Inv:=by
 unfold setBytesF
 split
 ·rename_i h
  have hh:=(ident_here v h.1).1
  obtain ⟨_,_,_,_,hw⟩:=v.shp _ hh
  exact v.setObj hh ⟨rfl,rfl,putBytes_len _ _ _,rfl,rfl⟩ (v.rf _ hh) (putBytes_lt hw hc)
 ·exact v
theorem hand_some {n:Int} {id:Nat} (h:s.hand n=some id):1 ≤ n∧n ≤ (s.roots.length:Nat)∧s.roots[(n - 1).toNat]?=some (some id):=by
 unfold hand at h
 split at h
 ·rename_i hn
  refine ⟨hn.1,hn.2,?_⟩
  rw [List.getD_eq_getElem?_getD] at h
  cases hx:s.roots[(n - 1).toNat]? with
  | none=>rw [hx] at h; cases h
  | some x=>rw [hx] at h; exact congrArg some h
 ·cases h
theorem roots_set_in (v:s.Inv) {k:Nat} {x:Option Nat} (hx:∀ id,x=some id→id=0 ∨ s.here id):∀ id,some id ∈ s.roots.set k x→id=0 ∨ s.here id:=fun id hid=>by
 rcases List.mem_or_eq_of_mem_set hid with h | h
 ·exact v.rt id h
 ·exact hx id h.symm
theorem Inv.put (v:s.Inv) (n:Int) (r:Nat):(s.putF n r).1.Inv:=by
 unfold putF
 split
 ·exact v
 ·split
  ·exact v.withRoots (roots_set_in v fun id e=>by obtain rfl:=Option.some.inj e; exact ident_in v r) (by rw [List.length_set]; exact v.rl)
  ·exact v
theorem Inv.drop (v:s.Inv) (n:Int):(s.dropF n).1.Inv:=by
 unfold dropF
 split
 ·exact v
 ·exact v.withRoots (roots_set_in v fun id e=>by cases e) (by rw [List.length_set]; exact v.rl)
theorem Inv.root (v:s.Inv) {r:Nat} (hl:s.roots.length < 100000000):(s.rootF r).1.Inv:=by
 unfold rootF
 split
 ·refine v.withRoots ?_ ?_
  ·split
   ·exact roots_set_in v fun id e=>by obtain rfl:=Option.some.inj e; exact ident_in v r
   ·intro id hid
    rcases List.mem_append.1 hid with h | h
    ·exact v.rt id h
    ·have:=List.mem_singleton.1 h
     obtain rfl:=Option.some.inj this
     exact ident_in v r
  ·split
   ·rw [List.length_set]; exact v.rl
   ·rw [List.length_append]; show s.roots.length + 1 ≤ _; omega
 ·exact v
end
end RS
theorem objV_at {os:List AObj} {i:Nat} {o:AObj} (h:os[i]?=some o) (hf:o.fwd=none):objV os ((pos os i:Nat):Int)=.tuple #[.int .i64 (o.kind:Int),.int .i64 (o.refs.length:Int),.int .i64 (o.raws.length:Int),.int .i64 0]:=by
 unfold objV
 rw [idxI_nat,idx_pos (List.getElem?_eq_some_iff.1 h).1]
 simp only [Option.bind_some,h,hf]
section
variable {h:Hp} {hb:Nat} {role:Nat→Role} {m:MH} {G:Geo} {s:RS} {sp:List AObj}
theorem hobject_ok (v:s.Inv) (rp:HRep h hb role (s.words sp) G) {r:Nat} (hr:r < 18446744073709551616) {R:Value→Hp→Prop}
  (hR:R (.tuple #[.int .i64 ((s.objF r).1.1:Nat),.int .i64 ((s.objF r).1.2.1:Nat),.int .i64 ((s.objF r).1.2.2:Nat),.int .i64 (s.objF r).2]) h):CallTo Try.prog 91 #[.pointer (some (ad hb)),uv r] h R:=by
 refine f91F_ok ?_
 unfold f91F
 refine find_ok v rp hr (fun h0=>?_) fun L sz os i h0 p=>?_
 ·unfold RS.objF at hR
  rw [if_pos h0] at hR
  exact ⟨_,_,_,rfl,Cond_t rfl hR⟩
 ·obtain ⟨wc,fc,fs,ra⟩:=p.ar rp
  refine ⟨_,_,_,rfl,Cond_f rfl ⟨_,rfl,aobject_ok ra ?_⟩⟩
  rw [objV_at p.get rfl]
  unfold RS.objF at hR
  rw [if_neg h0] at hR
  have e:(s.enc (s.ident r)).refs.length=(s.obj (s.ident r)).refs.length:=List.length_map ..
  rw [e]
  exact ⟨_,_,_,_,rfl,hR⟩
theorem hget_ok (v:s.Inv) (rp:HRep h hb role (s.words sp) G) {r:Nat} (hr:r < 18446744073709551616) {i:Int} {R:Value→Hp→Prop}
  (hR:R (.tuple #[uv (s.getF r i).1,.int .i64 (s.getF r i).2]) h):CallTo Try.prog 69 #[.pointer (some (ad hb)),uv r,.int .i64 i] h R:=by
 refine f69F_ok ?_
 unfold f69F
 refine find_ok v rp hr (fun h0=>?_) fun L sz os j h0 p=>?_
 ·unfold RS.getF at hR
  rw [if_pos h0] at hR
  exact ⟨_,_,_,rfl,Cond_t rfl hR⟩
 ·obtain ⟨wc,fc,fs,ra⟩:=p.ar rp
  refine ⟨_,_,_,rfl,Cond_f rfl ⟨_,rfl,aget_ok ra ?_⟩⟩
  unfold RS.getF at hR
  rw [if_neg h0] at hR
  have hg:getV os ((pos os j:Nat):Int) i=if 0 ≤ i∧i < ((s.enc (s.ident r)).flds.length:Nat) then .tuple #[uv ((s.enc (s.ident r)).flds.getD i.toNat 0),.int .i64 0] else .tuple #[.int .u64 0,.int .i64 24]:=by
   have hget:=p.get
   unfold getV
   rw [idxI_nat,idx_pos (List.getElem?_eq_some_iff.1 hget).1]
   simp only [Option.bind_some,hget]
   show (if 0 ≤ i then (match (s.enc (s.ident r)).flds[i.toNat]? with | some v=>Value.tuple #[uv v,.int .i64 0] | none=>Value.tuple #[.int .u64 0,.int .i64 24]) else Value.tuple #[.int .u64 0,.int .i64 24])=_
   by_cases h1:0 ≤ i
   ·rw [if_pos h1]
    by_cases h2:i < ((s.enc (s.ident r)).flds.length:Nat)
    ·rw [if_pos ⟨h1,h2⟩,List.getD_eq_getElem?_getD,List.getElem?_eq_getElem (by omega)]; rfl
    ·rw [if_neg (fun c=>h2 c.2),List.getElem?_eq_none (by omega)]
   ·rw [if_neg h1,if_neg (fun c=>h1 c.1)]
  rw [hg]
  split
  ·rename_i hc
   rw [if_pos hc] at hR
   exact ⟨_,_,rfl,Cond_f rfl hR⟩
  ·rename_i hc
   rw [if_neg hc] at hR
   exact ⟨_,_,rfl,Cond_t rfl hR⟩
theorem hgood_ok (v:s.Inv) (rp:HRep h hb role (s.words sp) G) {r:Nat} (hr:r < 18446744073709551616) {R:Value→Hp→Prop} (hR:R (.bool (s.goodR r)) h):CallTo Try.prog 81 #[.pointer (some (ad hb)),uv r] h R:=by
 refine f81F_ok ?_
 unfold f81F
 unfold RS.goodR at hR
 by_cases hz:r=0
 ·subst hz
  rw [decide_eq_true (.inl rfl)] at hR
  exact Cond_t rfl hR
 refine Cond_f (by simp; omega) (find_ok v rp hr (fun h0=>?_) fun L sz os j h0 p=>?_)
 ·rw [decide_eq_false (by simp [hz,h0])] at hR
  exact ⟨_,_,_,rfl,hR⟩
 ·rw [decide_eq_true (.inr h0)] at hR
  exact ⟨_,_,_,rfl,hR⟩
theorem hset_ok (v:s.Inv) (rp:HRep h hb role (s.words sp) G) {r:Nat} (hr:r < 18446744073709551616) {i:Int} {x:Nat} (hx:x < 18446744073709551616) {R:Value→Hp→Prop}
  (hR:∀ h' role' G',HRep h' hb role' ((s.setF r i x).1.words sp) G'→ExtO h role h' role'→R (.int .i64 (s.setF r i x).2) h'):CallTo Try.prog 71 #[.pointer (some (ad hb)),uv r,.int .i64 i,uv x] h R:=by
 refine f71F_ok ?_
 unfold f71F
 refine find_ok v rp hr (fun h0=>?_) fun L sz os j h0 p=>?_
 ·have e:s.setF r i x=(s,32):=by unfold RS.setF; rw [if_pos h0]
  rw [e] at hR
  exact ⟨_,_,_,rfl,Cond_t rfl (hR h role G rp (ExtO.refl h role))⟩
 ·obtain ⟨wc,fc,fs,ra⟩:=p.ar rp
  have hh:=(RS.ident_here v h0).1
  obtain ⟨_,_,hnr,hnw,_⟩:=v.shp _ hh
  have hget:=p.get
  have efl:=s.enc_flds_len (s.ident r)
  refine ⟨_,_,_,rfl,Cond_f rfl ⟨_,rfl,aobject_ok ra ?_⟩⟩
  rw [objV_at hget rfl]
  have er:(s.enc (s.ident r)).refs.length=(s.obj (s.ident r)).refs.length:=List.length_map ..
  have ew:(s.enc (s.ident r)).raws.length=(s.obj (s.ident r)).raws.length:=rfl
  rw [er,ew]
  refine ⟨_,_,_,_,rfl,?_⟩
  have bad:¬ (0 ≤ i∧i < (((s.obj (s.ident r)).refs.length + (s.obj (s.ident r)).raws.length:Nat):Int))→R (.int .i64 33) h:=fun hb'=>by
   have e:s.setF r i x=(s,33):=by unfold RS.setF; rw [if_neg h0,if_pos hb']
   rw [e] at hR
   exact hR h role G rp (ExtO.refl h role)
  refine Cond_dec (fun c=>?_) fun c=>?_
  ·unfold f71K1
   exact Cond_t rfl (bad fun q=>by omega)
  rw [wrap_ar (x:=(((s.obj (s.ident r)).refs.length:Nat):Int) + (((s.obj (s.ident r)).raws.length:Nat):Int)) (by omega) (by omega)]
  by_cases c2:i ≥ (((s.obj (s.ident r)).refs.length:Nat):Int) + (((s.obj (s.ident r)).raws.length:Nat):Int)
  ·rw [decide_eq_true c2]
   unfold f71K1
   exact Cond_t rfl (bad fun q=>by omega)
  rw [decide_eq_false c2]
  unfold f71K1
  refine Cond_f rfl ?_
  obtain ⟨k,rfl⟩:=Int.eq_ofNat_of_zero_le (show 0 ≤ i by omega)
  have hkl:k < (s.enc (s.ident r)).flds.length:=by omega
  have hE:setE os ((pos os j:Nat):Int) (k:Int)=0:=by
   unfold setE
   rw [idxI_nat,idx_pos (List.getElem?_eq_some_iff.1 hget).1]
   simp only [Option.bind_some,hget]
   show (if 0 ≤ (k:Int)∧(k:Int) < ((s.enc (s.ident r)).flds.length:Int) then (0:Int) else 24)=0
   rw [if_pos (by omega)]
  have fin:∀ o,RS.SameShape (s.obj (s.ident r)) o→(s.enc (s.ident r)).setF k x=⟨o.kind,o.refs.map s.ref,o.raws,none⟩→s.setF r (k:Int) x=(s.setObj (s.ident r) o,0) →
    CallTo Try.prog 123 #[.pointer (some (ad L.pb)),.int .i64 ((pos os j:Nat):Int),.int .i64 (k:Int),uv x] h fun v h'=>∃ t55:Int,v=.int .i64 t55∧R (.int .i64 t55) h':=by
   intro o he ho hs
   refine aset_ok ra hx (fun hne=>absurd hE hne) fun i' o' k' h' q1 q2 q3 q4 q5 q6 q7=>?_
   obtain rfl:k=k':=by omega
   have ha:Ar h' L sz (os.modify j fun _=>(s.setObj (s.ident r) o).enc (s.ident r)):=by
    have hil:=(List.getElem?_eq_some_iff.1 hget).1
    rw [idxI_nat,idx_pos hil] at q1
    obtain rfl:=Option.some.inj q1
    rw [← modify_congr (f:=fun o=>o.setF k x) hget (by rw [RS.setObj_enc (v.here_lt hh) he,if_pos rfl,ho])]
    exact ⟨_,_,_,q6⟩
   obtain ⟨role',G',rp',x'⟩:=p.put v rp hh he ha q7
   rw [hs] at hR
   exact ⟨_,rfl,hR h' role' G' rp' x'⟩
  have e0:s.setF r (k:Int) x=if (k:Int) < ((s.obj (s.ident r)).refs.length:Nat) then
    (if x ≠ 0∧s.ident x=0 then (s,32) else (s.setObj (s.ident r) { s.obj (s.ident r) with refs:=(s.obj (s.ident r)).refs.set k (s.ident x) },0))
    else (s.setObj (s.ident r) { s.obj (s.ident r) with raws:=(s.obj (s.ident r)).raws.set (k - (s.obj (s.ident r)).refs.length) x },0):=by
   unfold RS.setF
   rw [if_neg h0,if_neg (by omega)]
   rfl
  refine Cond_dec (fun c3=>?_) fun c3=>?_
  ·refine hgood_ok v rp hx ⟨_,rfl,?_⟩
   have hkr:k < (s.obj (s.ident r)).refs.length:=by omega
   by_cases hg:s.goodR x=true
   ·rw [hg]
    have hg':x=0 ∨ s.ident x ≠ 0:=by simpa [RS.goodR] using hg
    refine Cond_f rfl ⟨_,rfl,fin { s.obj (s.ident r) with refs:=(s.obj (s.ident r)).refs.set k (s.ident x) } ⟨rfl,by simp,rfl,rfl,rfl⟩ ?_ ?_⟩
    ·unfold AObj.setF
     rw [if_pos (by rw [er]; exact hkr)]
     show (⟨_,((s.obj (s.ident r)).refs.map s.ref).set k x,_,_⟩:AObj)=⟨_,((s.obj (s.ident r)).refs.set k (s.ident x)).map s.ref,_,_⟩
     rw [List.map_set,RS.goodR_ref v hg]
     rfl
    ·rw [e0,if_pos (by omega),if_neg (fun c=>by exact hg'.elim c.1 fun h=>h c.2)]
   ·have hg1:s.goodR x=false:=by simpa using hg
    have hg':¬ (x=0 ∨ s.ident x ≠ 0):=by simpa [RS.goodR] using hg
    rw [hg1]
    rw [e0,if_pos (by omega),if_pos ⟨fun c=>hg' (.inl c),by
     by_cases hq:s.ident x=0
     ·exact hq
     ·exact absurd (.inr hq) hg'⟩] at hR
    exact Cond_t rfl (hR h role G rp (ExtO.refl h role))
  ·have hkr:¬ k < (s.obj (s.ident r)).refs.length:=by omega
   refine ⟨_,rfl,fin { s.obj (s.ident r) with raws:=(s.obj (s.ident r)).raws.set (k - (s.obj (s.ident r)).refs.length) x } ⟨rfl,rfl,by simp,rfl,rfl⟩ ?_ ?_⟩
   ·unfold AObj.setF
    rw [if_neg (by rw [er]; exact hkr)]
    rw [er]
    rfl
   ·rw [e0,if_neg (by omega)]
theorem hbytes_ok (v:s.Inv) (rp:HRep h hb role (s.words sp) G) {r:Nat} (hr:r < 18446744073709551616) {f n:Int} (hn0:-9223372036854775808 ≤ n) (hf0:-9223372036854775808 ≤ f) (hn1:n < 9223372036854775808) (hf1:f < 9223372036854775808) {R:Value→Hp→Prop}
  (hbad:¬ s.spanOk r f n→R (.tuple #[.slice none 0 0,.int .i64 (s.spanE r f n)]) h)
  (hgood:∀ b h',s.spanOk r f n→Row h' b ((List.range n.toNat).map fun j=>bv (byteAt (s.obj (s.ident r)).raws (f.toNat + j)))→h.size ≤ b→Kept N h h'→R (.tuple #[.slice (some (ad b)) n.toNat n.toNat,.int .i64 0]) h') :
  CallTo Try.prog 92 #[.pointer (some (ad hb)),uv r,.int .i64 f,.int .i64 n] h R:=by
 refine f92F_ok ?_
 unfold f92F
 refine find_ok v rp hr (fun h0=>?_) fun L sz os j h0 p=>?_
 ·have hs:¬ s.spanOk r f n:=fun c=>c.1 h0
  have:=hbad hs
  unfold RS.spanE at this
  rw [if_pos h0] at this
  exact ⟨_,_,_,rfl,Cond_t rfl this⟩
 ·obtain ⟨wc,fc,fs,ra⟩:=p.ar rp
  have hget:=p.get
  have hil:=(List.getElem?_eq_some_iff.1 hget).1
  have hsp:Go.Ev.spanE os ((pos os j:Nat):Int) f n=if 0 ≤ f∧0 ≤ n∧f + n ≤ 8 * (((s.obj (s.ident r)).raws.length:Nat):Int) then 0 else 25:=by
   unfold Go.Ev.spanE
   rw [idxI_nat,idx_pos hil]
   simp only [Option.bind_some,hget]
   rfl
  refine ⟨_,_,_,rfl,Cond_f rfl ⟨_,rfl,abytes_ok ra hn0 hf0 hn1 hf1 (fun he=>?_) fun i o f' n' b h' q1 q2 q3 q4 q5 q6 q7 q8 q9=>?_⟩⟩
  ·have hs:¬ s.spanOk r f n:=fun c=>he (by rw [hsp,if_pos c.2])
   have:=hbad hs
   unfold RS.spanE at this
   rw [if_neg h0,if_neg hs] at this
   exact ⟨⟨none,0,0⟩,_,rfl,Cond_t (by simpa using he) this⟩
  ·subst q4 q5
   rw [idxI_nat,idx_pos hil] at q1
   obtain rfl:=Option.some.inj q1
   rw [hget] at q2
   obtain rfl:=Option.some.inj q2
   have hs:s.spanOk r (f':Int) (n':Int):=⟨h0,by omega,by omega,by have:(s.enc (s.ident r)).raws.length=(s.obj (s.ident r)).raws.length:=rfl; omega⟩
   have:=hgood b h' hs (by rw [Int.toNat_natCast,Int.toNat_natCast]; exact q7) q8 q9
   rw [Int.toNat_natCast] at this
   exact ⟨⟨some (ad b),n',n'⟩,_,rfl,Cond_f rfl this⟩
theorem hsetbytes_ok (v:s.Inv) (rp:HRep h hb role (s.words sp) G) {r:Nat} (hr:r < 18446744073709551616) {f:Int} (hf0:-9223372036854775808 ≤ f) (hf1:f < 9223372036854775808) {a:Sl} {cs:List Nat} (hs:ReadsO h a.a (cs.map bv)) (hsn:a.n=cs.length)
  (hcs:∀ c ∈ cs,c < 256) (hsb:∀ p,a.a=some p→cs ≠ []→role p.block=.out) (hn:(cs.length:Int) < 9223372036854775808) {R:Value→Hp→Prop}
  (hR:∀ h' role' G',HRep h' hb role' ((s.setBytesF r f cs).1.words sp) G'→ExtO h role h' role'→R (.int .i64 (s.setBytesF r f cs).2) h'):CallTo Try.prog 86 #[.pointer (some (ad hb)),uv r,.int .i64 f,.slice a.a a.n a.c] h R:=by
 refine f86F_ok ?_
 unfold f86F
 refine find_ok v rp hr (fun h0=>?_) fun L sz os j h0 p=>?_
 ·have hs':¬ s.spanOk r f cs.length:=fun c=>c.1 h0
  unfold RS.setBytesF at hR
  rw [if_neg hs'] at hR
  unfold RS.spanE at hR
  rw [if_pos h0] at hR
  exact ⟨_,_,_,rfl,Cond_t rfl (hR h role G rp (ExtO.refl h role))⟩
 ·obtain ⟨wc,fc,fs,ra⟩:=p.ar rp
  have hget:=p.get
  have hil:=(List.getElem?_eq_some_iff.1 hget).1
  have hh:=(RS.ident_here v h0).1
  have hsp:Go.Ev.spanE os ((pos os j:Nat):Int) f cs.length=if 0 ≤ f∧0 ≤ (cs.length:Int)∧f + (cs.length:Int) ≤ 8 * (((s.obj (s.ident r)).raws.length:Nat):Int) then 0 else 25:=by
   unfold Go.Ev.spanE
   rw [idxI_nat,idx_pos hil]
   simp only [Option.bind_some,hget]
   rfl
  refine ⟨_,_,_,rfl,Cond_f rfl ⟨_,rfl,asetbytes_ok ra hs hsn hcs (fun q hq hne=>p.apart rp (hsb q hq hne)) hn hf0 hf1 (fun he=>?_) fun i o f' h' q1 q2 q3 q4 q5 q6 q7=>?_⟩⟩
  ·have hs':¬ s.spanOk r f cs.length:=fun c=>he (by rw [hsp,if_pos c.2])
   unfold RS.setBytesF at hR
   rw [if_neg hs'] at hR
   unfold RS.spanE at hR
   rw [if_neg h0,if_neg hs'] at hR
   exact ⟨_,rfl,Cond_t (by simpa using he) (hR h role G rp (ExtO.refl h role))⟩
  ·subst q4
   rw [idxI_nat,idx_pos hil] at q1
   obtain rfl:=Option.some.inj q1
   rw [hget] at q2
   obtain rfl:=Option.some.inj q2
   have hs':s.spanOk r (f':Int) cs.length:=⟨h0,by omega,by omega,by have:(s.enc (s.ident r)).raws.length=(s.obj (s.ident r)).raws.length:=rfl; omega⟩
   have he:RS.SameShape (s.obj (s.ident r)) { s.obj (s.ident r) with raws:=putBytes (s.obj (s.ident r)).raws f' cs }:=⟨rfl,rfl,putBytes_len _ _ _,rfl,rfl⟩
   have ha:Ar h' L sz (os.modify j fun _=>(s.setObj (s.ident r) { s.obj (s.ident r) with raws:=putBytes (s.obj (s.ident r)).raws f' cs }).enc (s.ident r)):=by
    rw [← modify_congr (f:=fun o=>o.withRaws (putBytes o.raws f' cs)) hget (by rw [RS.setObj_enc (v.here_lt hh) he,if_pos rfl]; rfl)]
    exact ⟨_,_,_,q6⟩
   obtain ⟨role',G',rp',x'⟩:=p.put v rp hh he ha q7
   unfold RS.setBytesF at hR
   rw [if_pos hs',Int.toNat_natCast] at hR
   exact ⟨_,rfl,Cond_f rfl (hR h' role' G' rp' x')⟩
end
end Go.Ev
