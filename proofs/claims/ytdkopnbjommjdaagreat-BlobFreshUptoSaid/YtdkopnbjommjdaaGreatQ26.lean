/- The statements' stage for blobs: the calls that only tell / The statements' stage for blobs: a step / The statements' stage for blobs: its beginning / The statements' stage for blobs: the whole script; BlobExact's and BlobFresh's own calls / The blob scripts' argument, out of the datum that is read: limits and a list of steps, of bounded bulk. No condition but that these are ones. -/
import Derived.Test.YtdkopnbjommjdaaGreatQ25
import Derived.Test.YtdkopnbjommjdaaGreatQ18
import Derived.Test.YtdkopnbjommjdaaGreatRows
import Derived.JoinedCond
import Derived.Deep.CondSized
set_option linter.all false
set_option maxRecDepth 1000000
namespace Go.Ev
open Go.Proofs
section
variable {hB h h' h2:Hp} {sb:Nat} {P P':Nat→HM} {hh hh':Nat→List Nat} {nds nds':Nat→List NodeD} {idss idss':Nat→List Nat} {d d':BkD} {L L':LtD} {mark:Bool} {F F' F2:Nat→Prop} {R:Value→Hp→Prop} {o:Opn}
theorem some_ad {a b:Nat} (e:some (ad a)=some (ad b)):a=b:=congrArg Addr.block (Option.some.inj e)
theorem none_ad {P:Prop} {b:Nat} (e:none=some (ad b)):P:=by cases e
theorem WD.bs_at {W:WD} {m:Nat} {b:List Nat} (h:W.bs[m]?=some b):∃ e,W.objs[m]?=some e∧e.2=b:=by
 unfold WD.bs at h
 rw [List.getElem?_map] at h
 exact Option.map_eq_some_iff.1 h
/-- Two answers of the program's, held to one of the document's. -/
theorem take2r (x:StM h sb P hh d L mark) {c1 c2 c3:Nat} {hS:Hp} (kS:Kept N hS h) (nS:∀ b,SF sb P d L b→b < hS.size) {w:List Nat} (r1:Row h c1 (w.map bv)) (r2:Row h c2 (w.map bv)) (r3:Row h c3 (w.map bv)) (n1:hS.size ≤ c1) (n2:hS.size ≤ c2) (n3:hS.size ≤ c3) (n12:c1 ≠ c2) (n13:c3 ≠ c1)
  (b8:Bytes8 w) (hw:w.length ≤ 10000000) (ht:d.turn + L.gs.length < 99980)
  (hR:∀ h' d' L',StM h' sb P hh d' L' mark→TS hS (SF sb P d L) h' (SF sb P d' L')→d'.turn + L'.gs.length ≤ d.turn + L.gs.length + 2→R (.bool true) h') :
  CallTo Tryz.prog 53 #[.pointer (some (ad sb)),.slice (some (ad c1)) w.length w.length,.slice (some (ad c3)) w.length w.length] h fun r h12=>∃ t106:Bool,r=.bool t106∧Cond t106 (CallTo Tryz.prog 53 #[.pointer (some (ad sb)),.slice (some (ad c2)) w.length w.length,.slice (some (ad c3)) w.length w.length] h12 fun r h13=>∃ t112:Bool,r=.bool t112∧R (.bool t112:Value) h13) (R (.bool false:Value) h12) :=
 take2 (s1:=⟨some (ad c1),w.length,w.length⟩) (s2:=⟨some (ad c2),w.length,w.length⟩) (a:=⟨some (ad c3),w.length,w.length⟩) x kS nS (ownL_row r1) (ownL_row r2) (fun b e=>by rw [← some_ad e]; exact n1) (fun b e=>by rw [← some_ad e]; exact n2) (fun b e e2=>n12 ((some_ad e).trans (some_ad e2).symm))
  (row_reads r3) rfl (fun p hp _=>by cases hp; exact ⟨n3,row_lt r3,fun b e=>by rw [← some_ad e]; exact n13⟩) b8 hw ht hR
theorem s_asks (x:Stg h sb P hh nds idss d L mark) (B:Base hB h (SF sb P d L)) (ok:OpnOk hB o) {k i:Nat} (hk:k < 2) (hi:i < 8) (tt:d.turn + L.gs.length < 99980) (hR:Goes h sb P d L mark 2 (.bool true) R) :
  CallTo Tryz.prog 19 #[.pointer (some (ad sb)),.agg #[.int .i64 o.k,.int .i64 o.w,.int .i64 o.slot,.int .i64 o.to_,.int .i64 o.at_,.int .i64 o.n,.slice o.pa.a o.pa.n o.pa.c,.slice o.ta.a o.ta.n o.ta.c],.int .i64 (k:Nat),.int .i64 (i:Nat)] h R:=by
 have x0:=x
 obtain ⟨m,ks,nz⟩:=x
 have kk:=ks k hk
 have v:=kk.v
 have otl:=ok.tl
 obtain ⟨n,mm,hn,hm,hz⟩:=x0.slot hk hi
 have idle:∀ h',Kept N h h'→R (.bool true) h':=fun h' k'=>hR h' P hh nds idss d L (x0.keepN k') (fun _=>rfl) ((Grw.refl P d L).mono (by omega)) (TS.keepN k')
 have fl:∀ b,SF sb P d L b→b < h.size:=fun b hb=>m.foot_lt hb
 have book:∀ h' d' L',StM h' sb P hh d' L' mark→TS h (SF sb P d L) h' (SF sb P d' L')→d'.turn + L'.gs.length ≤ d.turn + L.gs.length + 2→R (.bool true) h':=fun h' d' L' x' t' e'=>hR h' P hh nds idss d' L' ⟨x',ks,nz⟩ (fun _=>rfl) ⟨fun _ _=>by omega,fun _ _=>by omega,by omega⟩ t'
 refine f19F_ok ?_
 unfold f19F
 simp only [Int.toNat_natCast]
 refine Let_mk fun ha ea=>?_
 have row:Row ha h.size o.cells:=ea ▸ row_new h o.cells.toArray 35
 have ka:Kept N h ha:=ea ▸ kept_push _ _ _
 have ma:=m.keepN ka
 have enb:nb h=ad h.size:=rfl
 rw [enb]
 have wk:=(ma.m k hk).wk
 have st:=(ma.m k hk).st
 refine PtrOk_mk ⟨bnd2 hk,_,ma.cH hk,sref_ok ma hk hn ⟨_,rfl,PtrOk_mk ⟨bnd2 hk,_,ma.cW hk,there_ok wk hm ⟨_,rfl,?_⟩⟩⟩⟩
 cases mm with
 | zero =>
  have n0:n=0:=hz.2 rfl
  subst n0
  rw [if_pos rfl]
  exact Cond_t rfl (none_ok st (by omega) (noBlob_zero _) fun h' k'=>⟨true,rfl,idle h' (ka.trans k')⟩)
 | succ mm =>
  obtain ⟨id,b,hh1,hid,hbs,hnd,hhere,isb,okb,eat,n0⟩:=kk.here hn hm
  rw [if_neg n0,eat]
  obtain ⟨e,he,eb⟩:=WD.bs_at hbs
  subst eb
  have bl:=okb.len
  refine Cond_f (by simp) (PtrOk_mk ⟨bnd2 hk,_,ma.cW hk,wbytes_ok wk hm he fun c h1 rowb hc k1=>⟨⟨some (ad c),e.2.length,e.2.length⟩,rfl,?_⟩⟩)
  have st1:=st.keepN k1
  have row1:=kept_row k1 row _root_.id
  have hc':h.size ≤ c:=Nat.le_trans ka.1 hc
  have hcl:h.size ≠ c:=by have:=row_lt row; omega
  have kk1:=ka.trans k1
  obtain ⟨⟨r0,r2,r3⟩,r4,r5,r6,r7⟩:=op_row row1
  refine ⟨_,r0,Cond_b (fun _=>?_) fun _=>Cond_b (fun _=>?_) fun _=>Cond_b (fun _=>?_) fun _=>Cond_b (fun _=>?_) fun _=>?_⟩
  ·-- Read
   refine read_ok st1 isb okb fun c2 h2 row2 hc2 k2=>⟨⟨_,_,_⟩,_,rfl,read_ok (st1.keepN k2) isb okb fun c3 h3 row3 hc3 k3=>⟨⟨_,_,_⟩,_,rfl,?_⟩⟩
   have rb:=kept_row (k2.trans k3) rowb _root_.id
   have rc2:=kept_row k3 row2 _root_.id
   refine num_ok ⟨_,rfl,Cond_t rfl (num_ok ⟨_,rfl,Cond_t rfl (eq_ok (row_reads rb) (row_reads rc2) rfl rfl (by omega) ⟨_,rfl,Cond_t rfl (eq_ok (row_reads rb) (row_reads row3) rfl rfl (by omega) ⟨_,rfl,?_⟩)⟩)⟩)⟩
   unfold f19K1
   have:=row_lt row2
   have:=row_lt rowb
   exact Cond_t rfl (take2r (ma.keepN ((k1.trans k2).trans k3)) ((kk1.trans k2).trans k3) fl rc2 row3 rb (by have:=kk1.1; omega) (by have:=kk1.1; omega) hc' (by omega) (by omega) okb.b8 (by omega) tt book)
  ·exact len_ok st1 isb okb ⟨_,_,rfl,num_ok ⟨_,rfl,Cond_t rfl (by rw [beq_self_eq_true]; exact idle h1 kk1)⟩⟩
  ·-- Slice
   refine ⟨_,r4,_,r5,slice_ok st1 isb okb ok.iat ok.inn (fun hb=>⟨⟨none,0,0⟩,_,rfl,_,r4,_,r5,wslice_ok rowb (by omega) ok.iat ok.inn (fun _=>⟨⟨none,0,0⟩,_,rfl,_,r4,_,r5,slice_ok st1 isb okb ok.iat ok.inn (fun _=>⟨⟨none,0,0⟩,_,rfl,?_⟩) fun _ _ hg=>absurd hg hb⟩) fun hg=>absurd hg hb⟩) fun c2 h2 hg row2 hc2 k2=>⟨⟨some (ad c2),o.n.toNat,o.n.toNat⟩,_,rfl,?_⟩⟩
   ·have rn:ReadsO h1 none (([]:List Nat).map bv):=reads_nil _ _
    refine num_ok ⟨_,rfl,Cond_t rfl (num_ok ⟨_,rfl,Cond_t rfl (eq_ok (a:=⟨none,0,0⟩) (c:=⟨none,0,0⟩) rn rn rfl rfl (by show 0 < _; omega) ⟨_,rfl,Cond_t rfl (eq_ok (a:=⟨none,0,0⟩) (c:=⟨none,0,0⟩) rn rn rfl rfl (by show 0 < _; omega) ⟨_,rfl,?_⟩)⟩)⟩)⟩
    unfold f19K2
    exact Cond_t rfl (take2 (s1:=⟨none,0,0⟩) (s2:=⟨none,0,0⟩) (a:=⟨none,0,0⟩) (w:=[]) (ma.keepN k1) kk1 fl (ownL_nil h1) (ownL_nil h1) (fun b e=>none_ad e) (fun b e=>none_ad e) (fun b e=>none_ad e) rn rfl (fun p hp _=>by cases hp) (fun y hy=>by simp at hy) (by show 0 ≤ _; omega) tt book)
   ·have k12:=kk1.trans k2
    have rowo2:=kept_row k2 row1 _root_.id
    have rb2:=kept_row k2 rowb _root_.id
    obtain ⟨⟨_,_,_⟩,r42,r52,_,_⟩:=op_row rowo2
    have ll:((e.2.drop o.at_.toNat).take o.n.toNat).length=o.n.toNat:=by obtain ⟨_,_,_,_⟩:=hg; simp; omega
    refine ⟨_,r42,_,r52,wslice_ok rb2 (by omega) ok.iat ok.inn (fun hb=>absurd hg hb) fun _ c3 h3 row3 hc3 k3=>⟨⟨_,_,_⟩,_,rfl,?_⟩⟩
    have rowo3:=kept_row k3 rowo2 _root_.id
    obtain ⟨⟨_,_,_⟩,r43,r53,_,_⟩:=op_row rowo3
    refine ⟨_,r43,_,r53,slice_ok ((st1.keepN k2).keepN k3) isb okb ok.iat ok.inn (fun hb=>absurd hg hb) fun c4 h4 _ row4 hc4 k4=>⟨⟨some (ad c4),o.n.toNat,o.n.toNat⟩,_,rfl,?_⟩⟩
    generalize hl:(e.2.drop o.at_.toNat).take o.n.toNat=l at row2 row3 row4 ll
    have l8:Bytes8 l:=fun y hy=>by rw [← hl] at hy; exact okb.b8 y (List.mem_of_mem_drop (List.mem_of_mem_take hy))
    have lle:l.length ≤ e.2.length:=by rw [← hl,List.length_take,List.length_drop]; omega
    rw [← ll]
    have q2:=kept_row (k3.trans k4) row2 _root_.id
    have q3:=kept_row k4 row3 _root_.id
    refine num_ok ⟨_,rfl,Cond_t rfl (num_ok ⟨_,rfl,Cond_t rfl (eq_ok (row_reads q2) (row_reads q3) rfl rfl (by omega) ⟨_,rfl,Cond_t rfl (eq_ok (row_reads row4) (row_reads q3) rfl rfl (by omega) ⟨_,rfl,?_⟩)⟩)⟩)⟩
    unfold f19K2
    have:=row_lt row2
    have:=row_lt row3
    have:=kk1.1
    have:=k2.1
    have:=k3.1
    exact Cond_t rfl (take2r (ma.keepN (((k1.trans k2).trans k3).trans k4)) ((k12.trans k3).trans k4) fl q2 row4 q3 (by omega) (by omega) (by omega) (by omega) (by omega) l8 (by omega) tt book)
  ·-- Compare
   have rdT:∀ {h'},Kept N h h'→ReadsO h' o.ta.a (o.t.map bv):=fun k'=>reads_keptN (B.k.trans k') ok.rd
   refine ⟨o.ta,r7,lend_ok (rdT kk1) ok.tn ok.t8 otl fun c2 cap h2 ln hc2 k2=>⟨⟨_,_,_⟩,rfl,?_⟩⟩
   refine compare_ok (c:=⟨some (ad c2),o.t.length,cap⟩) (st1.keepN k2) isb okb ln.reads rfl ok.t8 fun h3 k3=>⟨_,_,rfl,num_ok ⟨_,rfl,Cond_t rfl ?_⟩⟩
   have k13:=(kk1.trans k2).trans k3
   have ln3:=ln.keep k3 _root_.id
   have rb3:=kept_row (k2.trans k3) rowb _root_.id
   have rowo3:=kept_row (k2.trans k3) row1 _root_.id
   obtain ⟨⟨_,_,_⟩,_,_,_,r73⟩:=op_row rowo3
   refine ⟨o.ta,r73,cmp2_ok (row_reads rb3) (rdT k13) rfl ok.tn (by omega) ⟨_,rfl,Cond_t (beq_self_eq_true _) ⟨o.ta,r73,intact_ok ln3 ok.t8 otl (rdT k13) ok.tn ⟨_,rfl,?_⟩⟩⟩⟩
   unfold f19K3
   refine ⟨o.ta,r73,other_ok (rdT k13) ok.tn ok.t8 otl fun s m' h4 rd4 n4 l4 b4 fr4 k4=>⟨s,rfl,?_⟩⟩
   have hc2h:h.size ≤ c2:=by have:=kk1.1; omega
   have c2l:=ln.lt
   have:=k3.1
   refine put_ok (ln3.keep k4 _root_.id) otl rd4 n4 l4 (fun p hp hne=>⟨fun ec=>by have:=(fr4 p hp).1; omega,(fr4 p hp).2⟩) fun h5 ln5 k5=>⟨rfl,?_⟩
   have nS:∀ b,SF sb P d L b→¬ b=c2:=fun b hb e=>by have:=fl b hb; omega
   have x5:StM h5 sb P hh d L mark:=(ma.keepN (((k1.trans k2).trans k3).trans k4)).keep k5 nS
   have k05:Kept N h h5:=⟨Nat.le_trans (k13.trans k4).1 k5.1,fun j hj _=>(k5.2 j (Nat.lt_of_lt_of_le hj (k13.trans k4).1) fun e=>by omega).trans ((k13.trans k4).2 j hj _root_.id)⟩
   have hrd5:ReadsO h5 s.a (m'.map bv):=reads_kept2 k5 rd4 fun p hp _=>⟨(fr4 p hp).2,fun ec=>by have:=(fr4 p hp).1; omega⟩
   have rdl:=ln5.reads
   have rb5:Row h5 c (e.2.map bv):=kept_row k5 (kept_row k4 rb3 _root_.id) (fun ec=>by have:=row_lt rowb; omega)
   rw [← l4]
   refine compare_ok (c:=⟨some (ad c2),m'.length,cap⟩) ((x5.m k hk).st) isb okb rdl rfl b4 fun h6 k6=>⟨_,_,rfl,Cond_t rfl (num_ok ⟨_,rfl,Cond_t rfl (cmp2_ok (row_reads (kept_row k6 rb5 _root_.id)) (reads_keptN k6 hrd5) rfl n4 (by omega) ⟨_,rfl,?_⟩)⟩)⟩
   rw [beq_self_eq_true]
   exact idle h6 (k05.trans k6)
  ·-- Count
   refine ⟨_,r4,_,r5,count_ok st1 isb okb ok.iat ok.inn (fun hb=>⟨_,_,rfl,_,r4,_,r5,wcount_ok rowb okb.b8 (by omega) ok.iat ok.inn (fun _=>⟨_,_,rfl,Cond_t rfl (num_ok ⟨_,rfl,idle h1 kk1⟩)⟩) fun hg=>absurd hg hb⟩) fun h2 hg k2=>⟨_,_,rfl,?_⟩⟩
   have rowo2:=kept_row k2 row1 _root_.id
   obtain ⟨⟨_,_,_⟩,r42,r52,_,_⟩:=op_row rowo2
   exact ⟨_,r42,_,r52,wcount_ok (kept_row k2 rowb _root_.id) okb.b8 (by omega) ok.iat ok.inn (fun hb=>absurd hg hb) fun _ h3 k3=>⟨_,_,rfl,Cond_t (beq_self_eq_true _) (num_ok ⟨_,rfl,idle h3 ((kk1.trans k2).trans k3)⟩)⟩⟩
end
end Go.Ev
set_option linter.all false
set_option maxRecDepth 1000000
namespace Go.Ev
open Go.Proofs
theorem set_at_same {α:Type} {l:List α} {i:Nat} {a:α} (h:l[i]?=some a):l.set i a=l:=by
 apply List.ext_getElem?
 intro j
 rw [List.getElem?_set]
 split
 ·rename_i e; subst e
  split
  ·exact h.symm
  ·rename_i hl; have:=(List.getElem?_eq_some_iff.1 h).1; omega
 ·rfl
theorem New.noBlob {t s:RS} {k r w ref:Nat} (n:RS.New t s k r w ref) (v:s.Inv) (vt:t.Inv) (h:k ≠ 1):NoBlob t ref:=by
 obtain ⟨b,pl,e⟩:=n.objs
 have h1:=v.ob
 have eo:t.obj s.objs.length=RS.mkO k r w b pl:=by unfold RS.obj; rw [e]; simp
 rw [← n.ref]
 refine .inr ?_
 unfold RS.objF
 rw [RS.ident_ref vt (.inr ((n.here _).2 (.inl rfl))),if_neg (by omega),eo]
 exact h
theorem KS.sub2 {s t:RS} {nd:List NodeD} {hd slots ids:List Nat} {lim lim':Nat} {bs:List (List Nat)} (k:KS s nd hd lim bs slots ids) (st:RS.Sub t s) (vt:t.Inv) (lt:t.limit=lim'):KS t nd hd lim' bs slots ids:=by
 refine ⟨vt,k.sh.sub st,lt,k.h8,k.s8,k.il,k.idn,k.idl,k.zr,fun i n m hn hm=>?_,fun q x hq=>k.only q x (st.roots ▸ hq),k.dis,k.ok⟩
 obtain ⟨x,b,h1,h2,h3,h4⟩:=k.at_ i n m hn hm
 exact ⟨x,b,by rw [RS.hand_nat2] at h1 ⊢; rw [st.roots]; exact h1,h2,h3,h4⟩
theorem KS.grow2 {s s':RS} {nd:List NodeD} {hd slots ids:List Nat} {lim lim':Nat} {bs:List (List Nat)} (k:KS s nd hd lim bs slots ids) {n0:NodeD} (v':s'.Inv) (sh':s'.Shd (nd ++ [n0])) (er:s'.roots=s.roots) (lt:s'.limit=lim'):KS s' (nd ++ [n0]) hd lim' bs slots ids:=by
 refine ⟨v',sh',lt,k.h8,k.s8,k.il,k.idn,fun x hx=>⟨(k.idl x hx).1,by rw [List.length_append]; have:=(k.idl x hx).2; omega⟩,k.zr,fun i n m hn hm=>?_,fun q x hq=>k.only q x (er ▸ hq),k.dis,k.ok⟩
 obtain ⟨x,b,h1,h2,h3,h4⟩:=k.at_ i n m hn hm
 exact ⟨x,b,by rw [RS.hand_nat2] at h1 ⊢; rw [er]; exact h1,h2,h3,by rw [List.getElem?_append_left (List.getElem?_eq_some_iff.1 h4).1]; exact h4⟩
section
variable {hB h h' h2:Hp} {sb:Nat} {P P':Nat→HM} {hh hh':Nat→List Nat} {nds nds':Nat→List NodeD} {idss idss':Nat→List Nat} {d d':BkD} {L L':LtD} {mark:Bool} {F F' F2:Nat→Prop} {R:Value→Hp→Prop} {o:Opn}
theorem updL_id (hh:Nat→List Nat) (k:Nat):updL hh k (hh k)=hh:=by
 funext i
 by_cases e:i=k
 ·subst e; rw [updL_self]
 ·rw [updL_ne _ _ e]
theorem updD_id (hh:Nat→List NodeD) (k:Nat):updD hh k (hh k)=hh:=by
 funext i
 by_cases e:i=k
 ·subst e; rw [updD_self]
 ·rw [updD_ne _ _ e]
theorem Stg.upd (x:Stg h sb P hh nds idss d L mark) {k:Nat} (hk:k < 2) {y:HM} {hd':List Nat} {nd':List NodeD} {id':List Nat} (m:StM h' sb (updP P k y) (updL hh k hd') d L mark) (z:KS y.s nd' hd' y.W.lim y.W.bs y.W.slots id') (nz':nd'.length ≠ 0) :
  Stg h' sb (updP P k y) (updL hh k hd') (updD nds k nd') (updL idss k id') d L mark:=by
 refine ⟨m,fun i hi=>?_,fun i hi=>?_⟩
 ·by_cases e:i=k
  ·subst e; rw [updP_self,updL_self,updL_self,updD_self]; exact z
  ·rw [updP_ne _ _ e,updL_ne _ _ e,updL_ne _ _ e,updD_ne _ _ e]; exact x.ks i hi
 ·by_cases e:i=k
  ·subst e; rw [updD_self]; exact nz'
  ·rw [updD_ne _ _ e]; exact x.nz i hi
theorem lim_upd {k:Nat} {y:HM} (z:y.W.lim=(P k).W.lim):∀ i,(updP P k y i).W.lim=(P i).W.lim:=fun i=>by
 by_cases e:i=k
 ·subst e; rw [updP_self]; exact z
 ·rw [updP_ne _ _ e]
theorem grw_upd {k n:Nat} {y:HM} (z1:y.s.roots.length ≤ (P k).s.roots.length + n) (z2:y.W.bs.length ≤ (P k).W.bs.length + n):Grw P d L (updP P k y) d L n:=⟨fun i hi=>by
 by_cases e:i=k
 ·subst e; rw [updP_self]; exact z1
 ·rw [updP_ne _ _ e]; omega,fun i hi=>by
 by_cases e:i=k
 ·subst e; rw [updP_self]; exact z2
 ·rw [updP_ne _ _ e]; omega,by omega⟩
/-- The heap goes on by itself. -/
theorem s_idle (x:Stg h sb P hh nds idss d L mark) {k:Nat} (hk:k < 2) {q':HQ} {s':RS} (st:HSt h' q' s') (e:Ex h (P k).q h' q') {nd':List NodeD} (z:KS s' nd' (hh k) (P k).W.lim (P k).W.bs (P k).W.slots (idss k)) (nz':nd'.length ≠ 0) (rt:s'.roots=(P k).s.roots)
  {n:Nat} (hR:Goes h sb P d L mark n (.bool true) R):∀ h2,Kept N h' h2→R (.bool true) h2:=fun h2 k2=>by
 obtain ⟨y,t⟩:=x.m.heap hk st e
 have y':=y.keepN k2
 rw [← updL_id hh k] at y'
 exact hR h2 _ _ _ _ _ _ (x.upd hk y' z nz') (lim_upd rfl) ((grw_upd (n:=0) (by show s'.roots.length ≤ _; rw [rt]; omega) (by show (P k).W.bs.length ≤ _; omega)).mono (Nat.zero_le _)) (t.trans (TS.keepN k2))
/-- A slot holds nothing any more. -/
theorem s_zero (y:StM h sb P hh d L mark) {k i:Nat} (hk:k < 2) (hi:i < 8)
  (hR:∀ h' W',StM h' sb (updP P k ⟨(P k).q,(P k).s,W'⟩) (updL hh k ((hh k).set i 0)) d L mark→W'.lim=(P k).W.lim→W'.objs=(P k).W.objs→W'.slots=(P k).W.slots.set i 0→TS h (SF sb P d L) h' (SF sb (updP P k ⟨(P k).q,(P k).s,W'⟩) d L)→R (.bool true) h'):f8K3 (some (ad sb)) (k:Nat) (i:Nat) h R:=by
 unfold f8K3
 simp only [Int.toNat_natCast]
 refine PtrOk_mk ⟨bnd2 hk,bnd8 hi,y.setN hk hi 0 fun h1 y1 t1=>PtrOk_mk ⟨bnd2 hk,_,y1.cW hk,PtrOk_mk ⟨bnd8 hi,(y1.m k hk).wk.setS hi (Nat.zero_le _) fun h2 W' w1 w2 w3 w4 w5 w6 _=>?_⟩⟩⟩
 obtain ⟨y2,t2⟩:=y1.doc hk w1 w2 w6
 exact hR h2 W' y2 w3 w4 w5 (t1.trans t2)
theorem s_plays (x:Stg h sb P hh nds idss d L mark) (B:Base hB h (SF sb P d L)) (ok:OpnOk hB o) (rl:∀ i,i < 2→(P i).s.roots.length < 99999900) (few:∀ i,i < 2→(P i).W.bs.length < 99990) (tt:d.turn + L.gs.length < 99980) (hR:Goes h sb P d L mark 2 (.bool true) R) :
  CallTo Tryz.prog 8 #[.pointer (some (ad sb)),.agg #[.int .i64 o.k,.int .i64 o.w,.int .i64 o.slot,.int .i64 o.to_,.int .i64 o.at_,.int .i64 o.n,.slice o.pa.a o.pa.n o.pa.c,.slice o.ta.a o.ta.n o.ta.c]] h R:=by
 obtain ⟨k,ek,hk⟩:∃ k:Nat,o.w % ((2:Nat):Int)=(k:Int)∧k < 2:=⟨(o.w % ((2:Nat):Int)).toNat,by omega,by omega⟩
 obtain ⟨i,ei,hi⟩:∃ k:Nat,o.slot % ((8:Nat):Int)=(k:Int)∧k < 8:=⟨(o.slot % ((8:Nat):Int)).toNat,by omega,by omega⟩
 refine f8F_ok ?_
 unfold f8F
 refine Let_mk fun ha ea=>?_
 have row:Row ha h.size o.cells:=ea ▸ row_new h o.cells.toArray 35
 have ka:Kept N h ha:=ea ▸ kept_push _ _ _
 have xa:=x.keepN ka
 have Ba:=B.keepN ka
 have hRa:Goes ha sb P d L mark 2 (.bool true) R:=hR.of (TS.keepN ka) (fun _=>rfl) (Grw.refl P d L) (by omega)
 clear hR ea
 have enb:nb h=ad h.size:=rfl
 rw [enb]
 obtain ⟨⟨r0,r2,r3⟩,r4,r5,r6,r7⟩:=op_row row
 have rw_:=op_w row
 have kk:=xa.ks k hk
 have v:=kk.v
 have nz:=xa.nz k hk
 have st:=(xa.m.m k hk).st
 refine ⟨_,rw_,into_ok (n:=2) (by omega) (by omega) ok.iw ⟨_,rfl,_,r2,into_ok (n:=8) (by omega) (by omega) ok.islot ⟨_,rfl,?_⟩⟩⟩
 rw [ek,ei]
 simp only [Int.toNat_natCast]
 have wrapG:Goes ha sb P d L mark 2 (.bool true) fun r h'=>∃ t:Bool,r=.bool t∧R (.bool t) h':=fun h1 P1 hh1 nds1 idss1 d1 L1 x1 lm1 g1 t1=>⟨true,rfl,hRa h1 P1 hh1 nds1 idss1 d1 L1 x1 lm1 g1 t1⟩
 have chg:f8K1 (some (ad sb)) (ad h.size) (k:Nat) (i:Nat) (some (ad (P k).q.hb)) o.k true ha R:=by
  unfold f8K1
  refine Cond_t rfl ⟨_,r0,_,rw_,_,r2,_,r3,_,r4,_,r5,o.pa,r6,o.ta,r7,?_⟩
  by_cases h1:o.k=1
  ·exact s_new xa Ba ok hk hi h1 rl few wrapG
  ·exact s_write xa Ba ok hk hi h1 rl few wrapG
 have other:∀ b:Bool,f8K2 (some (ad sb)) (ad h.size) (k:Nat) (i:Nat) (some (ad (P k).q.hb)) o.k b ha R:=fun b=>by
  unfold f8K2
  simp only [Int.toNat_natCast]
  refine Cond_b (fun _=>⟨_,r0,_,rw_,_,r2,_,r3,_,r4,_,r5,o.pa,r6,o.ta,r7,s_asks xa Ba ok hk hi tt wrapG⟩) fun _=>Cond_b (fun _=>?_) fun _=>Cond_b (fun _=>?_) fun _=>Cond_b (fun _=>?_) fun _=>Cond_b (fun _=>?_) fun _=>Cond_b (fun _=>?_) fun _=>hRa ha P hh nds idss d L xa (fun _=>rfl) ((Grw.refl P d L).mono (by omega)) (TS.refl _ _)
  ·-- Drop
   obtain ⟨n,mm,hn,hm,hz⟩:=xa.slot hk hi
   refine PtrOk_mk ⟨bnd2 hk,bnd8 hi,_,xa.m.cN hk hn,Cond_b (fun h0=>?_) fun h0=>?_⟩
   ·have hn0:n ≠ 0:=fun e=>by rw [e] at h0; simp at h0
    obtain ⟨R1,eD,lD,kD⟩:=kk.drop hn hn0
    refine PtrOk_mk ⟨bnd2 hk,bnd8 hi,_,xa.m.cN hk hn,c_drop st fun h1 q1 x1 ex1=>⟨_,rfl,?_⟩⟩
    rw [eD] at x1
    obtain ⟨y,t⟩:=xa.m.heap hk x1 ex1
    refine s_zero y hk hi fun h2 W' y2 w3 w4 w5 t2=>?_
    rw [updP_self,updP_updP] at y2 t2
    rw [updP_self] at w3 w4 w5
    have wb:W'.bs=(P k).W.bs:=by unfold WD.bs; rw [w4]
    exact hRa h2 _ _ _ _ _ _ (xa.upd hk y2 (nd':=nds k) (id':=idss k) (by show KS _ _ _ W'.lim W'.bs W'.slots _; rw [w3,wb,w5]; exact kD) nz) (lim_upd w3) ((grw_upd (n:=0) (by show R1.length ≤ _; omega) (by show W'.bs.length ≤ _; rw [wb]; omega)).mono (by omega)) (t.trans t2)
   ·have hn0:n=0:=by simpa using h0
    have hm0:mm=0:=hz.1 hn0
    subst hn0 hm0
    refine s_zero xa.m hk hi fun h2 W' y2 w3 w4 w5 t2=>?_
    have wb:W'.bs=(P k).W.bs:=by unfold WD.bs; rw [w4]
    exact hRa h2 _ _ _ _ _ _ (xa.upd hk y2 (nd':=nds k) (id':=idss k) (by show KS _ _ _ W'.lim W'.bs W'.slots _; rw [w3,wb,w5,set_at_same hn,set_at_same hm]; exact kk) nz) (lim_upd w3) ((grw_upd (n:=0) (by show (P k).s.roots.length ≤ _; omega) (by show W'.bs.length ≤ _; rw [wb]; omega)).mono (by omega)) t2
  ·exact c_collect st fun h1 q1 x1 ex1=>⟨rfl,s_idle xa hk x1 ex1 (kk.sub (RS.Sub.collect v) v.collect (RS.collect_lim.trans kk.lm)) nz (RS.Sub.collect v).roots hRa h1 (Kept.refl _ _)⟩
  ·exact ⟨_,r5,c_resize st fun h1 q1 x1 ex1=>⟨_,rfl,s_idle xa hk x1 ex1 (kk.sub (RS.Sub.resize v _) (v.resize _) ((RS.resize_lim _).trans kk.lm)) nz (RS.Sub.resize v _).roots hRa h1 (Kept.refl _ _)⟩⟩
  ·-- Alien
   refine ⟨_,r5,_,into_ok (n:=254) (by omega) (by omega) ok.inn ⟨rfl,rfl⟩,_,r4,_,into_ok (n:=3) (by omega) (by omega) ok.iat ⟨rfl,rfl⟩,_,r3,_,into_ok (n:=4) (by omega) (by omega) ok.ito ⟨rfl,rfl⟩,?_⟩
   have ew:IntKind.wrap .i64 ((2:Int) + o.n % ((254:Nat):Int))=(2:Int) + o.n % ((254:Nat):Int):=wrap_i64' (by omega) (by omega)
   rw [ew]
   have hk2:((2:Int) + o.n % ((254:Nat):Int)).toNat ≠ 1:=by omega
   generalize (2:Int) + o.n % ((254:Nat):Int)=K at hk2
   generalize o.at_ % ((3:Nat):Int)=Rr
   generalize o.to_ % ((4:Nat):Int)=Ww
   refine c_alloc st fun h1 q1 x1 ex1=>⟨_,_,rfl,num_ok ⟨_,rfl,?_⟩⟩
   have lm:=(RS.alloc_lim (s:=(P k).s) K Rr Ww).trans kk.lm
   have al:=alloc_lt (P k).s v kk.sh K Rr Ww
   rcases RS.alloc_cases v K Rr Ww with ⟨_,e⟩ | ⟨_,t,su,vt,e | ⟨t',ref,e,n⟩⟩
   ·rw [e] at x1 lm ⊢
    exact Cond_t rfl (s_idle xa hk x1 ex1 kk nz rfl hRa h1 (Kept.refl _ _))
   ·rw [e] at x1 lm ⊢
    exact Cond_t rfl (s_idle xa hk x1 ex1 (kk.sub su vt lm) nz su.roots hRa h1 (Kept.refl _ _))
   ·rw [e] at x1 lm al ⊢
    have vt':=x1.v
    have kt:=kk.sub2 su vt rfl
    rw [← ex1.1]
    exact Cond_f rfl (none_ok (r:=ref) x1 al (New.noBlob n vt vt' hk2) fun h2 k2=>⟨true,rfl,s_idle xa hk x1 ex1 (kt.grow2 vt' (n.shd vt kt.sh) n.roots lm) (by rw [List.length_append]; simp) (n.roots.trans su.roots) hRa h2 k2⟩)
  ·-- None
   have one:∀ h1,Kept N ha h1→R (.bool true) h1:=fun h1 k1=>hRa h1 P hh nds idss d L (xa.keepN k1) (fun _=>rfl) ((Grw.refl P d L).mono (by omega)) (TS.keepN k1)
   have em:IntKind.wrap .u64 ((4611686018427387904:Int) + IntKind.wrap .u64 (o.n % ((1000:Nat):Int)))=((4611686018427387904 + (o.n % ((1000:Nat):Int)).toNat:Nat):Int):=by
    have:IntKind.wrap .u64 (o.n % ((1000:Nat):Int))=o.n % ((1000:Nat):Int):=wrap_u64' (by omega) (by omega)
    rw [this,wrap_u64' (by omega) (by omega)]
    omega
   have e1:(o.n % ((1000:Nat):Int)).toNat < 1000:=by omega
   refine none_ok (r:=0) st (by omega) (noBlob_zero _) fun h1 k1=>⟨true,rfl,Cond_t rfl ⟨_,by rw [add_ad]; exact (cell_row (kept_row k1 row _root_.id) 5).trans rfl,into_ok (n:=1000) (by omega) (by omega) ok.inn ⟨_,rfl,?_⟩⟩⟩
   rw [em]
   refine none_ok (st.keepN k1) (by omega) (noBlob_mid v e1) fun h2 k2=>⟨true,rfl,Cond_t rfl ?_⟩
   exact none_ok (r:=top + 1099511627776) ((st.keepN k1).keepN k2) (by show _ < _; decide) (noBlob_top v) fun h3 k3=>⟨true,rfl,one h3 ((k1.trans k2).trans k3)⟩
 refine PtrOk_mk ⟨bnd2 hk,_,xa.m.cH hk,_,r0,?_⟩
 have k1f:∀ b:Bool,f8K1 (some (ad sb)) (ad h.size) (k:Nat) (i:Nat) (some (ad (P k).q.hb)) o.k b ha R:=fun b=>by
  cases b with
  | true=>exact chg
  | false =>
   unfold f8K1
   exact Cond_f rfl (Cond_b (fun _=>other _) fun _=>Cond_b (fun _=>other _) fun _=>Cond_b (fun _=>other _) fun _=>Cond_b (fun _=>other _) fun _=>other _)
 exact Cond_b (fun _=>k1f _) fun _=>k1f _
end
end Go.Ev
set_option linter.all false
set_option maxRecDepth 1000000
namespace Go.Ev
open Go.Proofs
def geo0:Geo:=⟨⟨0,0,0⟩,⟨0,0,0⟩,[],⟨none,0,0⟩,none,⟨none,0,0⟩,none,⟨none,0,0⟩,none,⟨none,0,0⟩,none⟩
theorem nilM (sz x:Nat):IsSl sz M00 x ⟨none,0,0⟩ []:=⟨by simp,fun _=>⟨rfl,rfl,rfl⟩,fun b hb=>by cases hb⟩
def bkC:List Value:=[zS,zS,nv 0,zS,zS,zI,zS,zS,zI,zS,zS,zI,zS,zS,zI,zS,zS,zI,zS,zS,zI,zS,zS,zI,zS,zS,zI,zS,zS,zI,nv 0,nv 0,nv 0]
def bkN (b:Nat):BkD:=⟨b,M00.upd 0 (some b) bkC,fun _=>none,[],⟨none,0,0⟩,⟨none,0,0⟩,0,0,0,0⟩
def ltN (b:Nat):LtD:=⟨b,M00.upd 0 (some b) [zS,zS],[],⟨none,0,0⟩,⟨none,0,0⟩⟩
def wdC (n:Nat):List Value:=[nv n,zS] ++ (List.replicate 8 0).map nv
def wdN (b n:Nat):WD:=⟨b,M00.upd 0 (some b) (wdC n),n,[],List.replicate 8 0,⟨none,0,0⟩⟩
theorem own_one {b:Nat} {c:List Value} {d:Nat}:(M00.upd 0 (some b) c).own d ↔ d=b:=by
 constructor
 ·rintro ⟨x,hx⟩
  by_cases e:x=0
  ·subst e; rw [Mem.loc_self] at hx; exact (Option.some.inj hx).symm
  ·rw [Mem.loc_ne _ _ _ e] at hx; cases hx
 ·rintro rfl; exact ⟨0,Mem.loc_self _ _ _ _⟩
theorem sep_one {h:Hp} {b:Nat} {c:List Value} (r:Row h b c):Sep h (M00.upd 0 (some b) c):=by
 have key:∀ x d,(M00.upd 0 (some b) c).loc x=some d→x=0∧d=b:=fun x d hx=>by
  by_cases e:x=0
  ·subst e; rw [Mem.loc_self] at hx; exact ⟨rfl,(Option.some.inj hx).symm⟩
  ·rw [Mem.loc_ne _ _ _ e] at hx; cases hx
 refine ⟨fun x d hx=>?_,fun x y d hx hy=>((key x d hx).1).trans (key y d hy).1.symm⟩
 obtain ⟨rfl,rfl⟩:=key x d hx
 rw [Mem.cont_self]
 exact r
theorem bk_new {h:Hp} {b:Nat} (r:Row h b bkC):Bk h (bkN b) :=
 ⟨sep_one r,Mem.loc_self _ _ _ _,Mem.cont_self _ _ _ _,(nilM 1 1).other (by omega),(nilM 1 2).other (by omega),(fun _ _ e=>by cases e),nofun,⟨Nat.le_refl _,Nat.le_refl _,by show 0 ≤ _; omega,nofun,nofun⟩⟩
theorem lt_new {h:Hp} {b:Nat} (r:Row h b [zS,zS]):Lt h (ltN b) :=
 ⟨sep_one r,Mem.loc_self _ _ _ _,Mem.cont_self _ _ _ _,(nilM 1 1).other (by omega),(nilM 1 2).other (by omega),nofun,nofun,fun i j e e' hi=>by cases hi⟩
theorem wk_new {h:Hp} {b n:Nat} (hn:n ≤ 1048576) (r:Row h b (wdC n)):Wk h (wdN b n) :=
 ⟨sep_one r,Mem.loc_self _ _ _ _,Mem.cont_self _ _ _ _,(nilM 1 1).other (by omega),nofun,rfl,fun m hm=>by rw [List.eq_of_mem_replicate hm]; exact Nat.zero_le _,hn,by show 0 ≤ _; omega⟩
theorem foot_bk {b x:Nat}:(bkN b).foot x ↔ x=b:=⟨(fun h=>h.elim own_one.1 fun ⟨_,e⟩=>by cases e),fun h=>.inl (own_one.2 h)⟩
theorem foot_lt {b x:Nat}:(ltN b).foot x ↔ x=b:=⟨(fun h=>h.elim own_one.1 fun ⟨_,e,_⟩=>by cases e),fun h=>.inl (own_one.2 h)⟩
theorem foot_wd {b n x:Nat}:(wdN b n).foot x ↔ x=b:=⟨(fun h=>h.elim own_one.1 fun ⟨_,e,_⟩=>by cases e),fun h=>.inl (own_one.2 h)⟩
theorem bl_new {h:Hp} {b c:Nat} (hne:b ≠ c) (r:Row h b bkC) (r2:Row h c [zS,zS]):BL h (bkN b) (ltN c) :=
 ⟨bk_new r,⟨Nat.zero_le _,fun i e _ hi=>by cases hi⟩,lt_new r2,fun x hx hf=>hne ((foot_bk.1 hf).symm.trans (foot_lt.1 hx))⟩
theorem ks_new {n:Nat} (h1:128 ≤ n) (h2:n ≤ 1048576):KS (RS.new n) [⟨0,[],[]⟩] (List.replicate 8 0) n [] (List.replicate 8 0) []:=by
 refine ⟨RS.new_inv h1 h2,⟨rfl,fun id hid=>by unfold RS.here RS.new at hid; simp at hid⟩,rfl,rfl,rfl,rfl,List.nodup_nil,nofun,fun i n m hn hm=>?_,fun i n m hn hm=>?_,fun k x hx=>?_,fun i j n hi hj h0=>?_,nofun⟩
 ·rw [List.eq_of_mem_replicate (List.mem_of_getElem? hn),List.eq_of_mem_replicate (List.mem_of_getElem? hm)]
 ·have:=List.eq_of_mem_replicate (List.mem_of_getElem? hm); omega
 ·unfold RS.new at hx; simp at hx
 ·exact absurd (List.eq_of_mem_replicate (List.mem_of_getElem? hi)) h0
def bgC (P:Nat→HM) (i b c:Nat):List Value:=[if 0 < i then pv (P 0).q.hb else .pointer none,if 1 < i then pv (P 1).q.hb else .pointer none,if 0 < i then pv (P 0).W.wb else .pointer none,if 1 < i then pv (P 1).W.wb else .pointer none] ++ (List.replicate 8 0).map nv ++ (List.replicate 8 0).map nv ++ [pv b,pv c,.bool false]
structure Bg (h0 h:Hp) (sb b c:Nat) (P:Nat→HM) (i:Nat):Prop where
 k:Kept (fun x=>x=sb) h0 h
 row:Row h sb (bgC P i b c)
 m:∀ j,j < i→HMk h (P j)
 f:∀ j,j < i→∀ x,(P j).foot x→h0.size ≤ x
 dis:∀ j j',j < i→j' < i→j ≠ j'→∀ x,(P j).foot x→¬ (P j').foot x
 is:∀ j,j < i→∃ n w,128 ≤ n∧n ≤ 1048576∧(P j).s=RS.new n∧(P j).W=wdN w n
section
variable {h0 h h' h2:Hp} {sb b c:Nat} {P P':Nat→HM} {R:Value→Hp→Prop}
theorem Bg.two (x:Bg h0 h sb b c P 2) (hs:sb < h0.size) (bl:BL h0 (bkN b) (ltN c)) (hb:b ≠ sb) (hc:c ≠ sb):Stg h sb P (fun _=>List.replicate 8 0) (fun _=>[⟨0,[],[]⟩]) (fun _=>[]) (bkN b) (ltN c) false:=by
 have fl:∀ {y},BLfoot (bkN b) (ltN c) y→y=b ∨ y=c:=fun hy=>hy.imp foot_bk.1 foot_lt.1
 have lb:=bl.bk.foot_lt (foot_bk.2 rfl)
 have lc:=bl.lt.foot_lt (foot_lt.2 rfl)
 refine ⟨⟨x.row,x.m,fun i j hi hj hij=>x.dis i j hi hj hij,bl.keep x.k fun y hy e=>?_,fun k hk y hy hf=>?_,fun k hk hf=>?_,fun hf=>?_,fun _ _=>rfl⟩,fun k hk=>?_,fun k hk=>by simp⟩
 ·rcases fl hy with e' | e' <;> omega
 ·have:=x.f k hk y hy
  rcases fl hf with e' | e' <;> omega
 ·have:=x.f k hk _ hf; omega
 ·rcases fl hf with e' | e' <;> omega
 ·obtain ⟨n,w,h1,h2,e1,e2⟩:=x.is k hk
  rw [e1,e2]
  exact ks_new h1 h2
theorem bgC_len (P:Nat→HM) (i b c:Nat):(bgC P i b c).length=23:=by unfold bgC; simp
theorem bgC_set {i:Nat} (hi:i < 2) (y:HM) (hP:∀ j,j < i→P' j=P j) (hy:P' i=y):((bgC P i b c).set i (pv y.q.hb)).set (2 + i) (pv y.W.wb)=bgC P' (i + 1) b c:=by
 match i,hi with
 | 0,_=>unfold bgC; rw [hy]; rfl
 | 1,_=>unfold bgC; rw [hy,hP 0 (by omega)]; rfl
theorem sbegin_ok {l0 l1:Int} (i0:I64 l0) (i1:I64 l1) (hR:∀ h' sb P nds idss d L,Stg h' sb P (fun _=>List.replicate 8 0) nds idss d L false→Base h h' (SF sb P d L)→(∀ i,i < 2→(P i).s.roots.length=0∧(P i).W.bs.length=0)→d.turn + L.gs.length=0→R (.tuple #[.pointer (some (ad sb)),.bool true]) h') :
  CallTo Tryz.prog 7 #[.agg #[.int .i64 l0,.int .i64 l1]] h R:=by
 refine f7F_ok ?_
 unfold f7F
 refine Let_mk fun h1 e1=>Let_mk fun h2 e2=>Let_mk fun h3 e3=>Let_mk fun h4 e4=>?_
 have k1:Kept N h h1:=e1 ▸ kept_push _ _ _
 have k2:Kept N h1 h2:=e2 ▸ kept_push _ _ _
 have k3:Kept N h2 h3:=e3 ▸ kept_push _ _ _
 have k4:Kept N h3 h4:=e4 ▸ kept_push _ _ _
 have row1:Row h1 h.size [.int .i64 l0,.int .i64 l1]:=e1 ▸ row_new h _ 22
 have row2:Row h2 h1.size bkC:=e2 ▸ row_new h1 _ 65
 have row3:Row h3 h2.size [zS,zS]:=e3 ▸ row_new h2 _ 67
 have row4:Row h4 h3.size (bgC (fun _=>⟨⟨0,fun _=>.out,geo0,[]⟩,RS.new 0,wdN 0 0⟩) 0 h1.size h2.size):=e4 ▸ row_new h3 _ 45
 have z1:=row_lt row1
 have z2:=row_lt row2
 have z3:=row_lt row3
 have z4:=row_lt row4
 have y1:=k1.1
 have y2:=k2.1
 have y3:=k3.1
 have enb:nb h=ad h.size:=rfl
 have enb1:nb h1=ad h1.size:=rfl
 have enb2:nb h2=ad h2.size:=rfl
 have enb3:nb h3=ad h3.size:=rfl
 rw [enb,enb3]
 have bl:BL h4 (bkN h1.size) (ltN h2.size):=bl_new (by omega) (kept_row (k3.trans k4) row2 _root_.id) (kept_row k4 row3 _root_.id)
 have k04:=((k1.trans k2).trans k3).trans k4
 have rowL:=kept_row ((k2.trans k3).trans k4) row1 _root_.id
 clear e1 e2 e3 e4
 refine f7L1_rule (fun m s1 s4 s5 h'=>∃ (i:Nat) (P:Nat→HM),i ≤ 2∧m=2 - i∧s1=ad h.size∧s4=ad h3.size∧s5=(i:Int)∧Bg h4 h' h3.size h1.size h2.size P i) 2
  ⟨0,_,by omega,rfl,rfl,rfl,rfl,Kept.refl _ _,row4,nofun,nofun,nofun,nofun⟩ ?_
 rintro m s1 s4 s5 g h5 ⟨i,P,hi,rfl,rfl,rfl,rfl,x⟩
 unfold f7L1
 have row5:=kept_row x.k rowL (by omega)
 refine Cond_dec (fun hlt=>?_) fun hge=>?_
 ·have hi2:i < 2:=by omega
  simp only [Int.toNat_natCast]
  obtain ⟨l,hl,il⟩:∃ l,cell h5 ((ad h.size).add (i * 1))=some (.int .i64 l)∧I64 l:=by
   rw [add_ad]
   match i,hi2 with
   | 0,_=>exact ⟨l0,(cell_row row5 0).trans rfl,i0⟩
   | 1,_=>exact ⟨l1,(cell_row row5 1).trans rfl,i1⟩
  refine ⟨bnd2 hi2,l,hl,into_ok (n:=65536) (by omega) (by omega) il ⟨_,rfl,?_⟩⟩
  obtain ⟨n,hn⟩:∃ n:Nat,IntKind.wrap .i64 ((128:Int) + l % ((65536:Nat):Int))=(n:Int):=⟨(128 + l % ((65536:Nat):Int)).toNat,by rw [wrap_i64' (by omega) (by omega)]; omega⟩
  have hnb:128 ≤ n∧n ≤ 65663:=by rw [wrap_i64' (by omega) (by omega)] at hn; omega
  rw [hn]
  refine hnew_ok (fun hb=>absurd ⟨by omega,by omega⟩ hb) fun h6 hb role G hb2 rp fr k6=>⟨_,_,rfl,num_ok ⟨_,rfl,Cond_f rfl ?_⟩⟩
  rw [Int.toNat_natCast] at rp
  have v0:=RS.new_inv (n:=n) (by omega) (by omega)
  have row6:=kept_row k6 x.row _root_.id
  have sl:=row_lt x.row
  unfold f7K1
  simp only [Int.toNat_natCast]
  refine Cond_f rfl ⟨bnd2 hi2,row_st row6 (i:=i) (by rw [add_ad,Nat.mul_one]) (by rw [bgC_len]; omega) fun h8 row8 k8=>Let_mk fun h9 e9=>?_⟩
  have k9:Kept N h8 h9:=e9 ▸ kept_push _ _ _
  have roww:Row h9 h8.size (wdC n):=e9 ▸ row_new h8 _ 74
  have enb8:nb h8=ad h8.size:=rfl
  rw [enb8]
  have row9:=kept_row k9 row8 _root_.id
  refine ⟨bnd2 hi2,row_st row9 (i:=2 + i) (by rw [add_add,add_ad,Nat.mul_one]) (by rw [List.length_set,bgC_len]; omega) fun h10 row10 k10=>?_⟩
  have q6:=k6.1
  have q8:=k8.1
  have q9:=k9.1
  have q10:=k10.1
  have rpA:=rp.keep k8 fun z (e:z=h3.size)=>Classical.byContradiction fun hn=>by have:=fr z hn; omega
  have rpB:=rpA.keep k9 fun _ e=>e.elim
  have fo:∀ z,role z ≠ .out→z < h8.size:=fun z hz=>Nat.lt_of_not_le fun hl=>hz (rpA.fresh z hl)
  have rpC:=rpB.keep k10 fun z (e:z=h3.size)=>Classical.byContradiction fun hn=>by have:=fr z hn; omega
  have k58:Kept (fun z=>z=h3.size) h5 h10:=(((k6.mono fun _ _ e=>e.elim).trans k8).trans (k9.mono fun _ _ e=>e.elim)).trans k10
  have new:HMk h10 ⟨⟨hb,role,G,[]⟩,RS.new n,wdN h8.size n⟩:=⟨⟨rpC,v0⟩,wk_new (by omega) (kept_row k10 roww fun e=>by omega),fun z hz=>Classical.byContradiction fun hn=>by
   have:=foot_wd.1 hz
   have:=fo z hn
   omega⟩
  have fn:∀ z,HM.foot ⟨⟨hb,role,G,[]⟩,RS.new n,wdN h8.size n⟩ z→h5.size ≤ z:=fun z hz=>by
   rcases hz with hz | hz
   ·exact fr z hz
   ·have:=foot_wd.1 hz; omega
  have fold:∀ j,j < i→∀ z,(P j).foot z→z < h5.size:=fun j hj z hz=>HM.foot_lt (x.m j hj) hz
  refine ⟨2 - (i + 1),by omega,i + 1,updP P i ⟨⟨hb,role,G,[]⟩,RS.new n,wdN h8.size n⟩,by omega,rfl,trivial,trivial,by rw [wrap_i64' (by omega) (by omega)]; rfl,x.k.trans k58,?_,fun j hj=>?_,fun j hj z hz=>?_,fun j j' hj hj' hne z h1 h2=>?_,fun j hj=>?_⟩
  ·rw [← bgC_set hi2 ⟨⟨hb,role,G,[]⟩,RS.new n,wdN h8.size n⟩ (P':=updP P i ⟨⟨hb,role,G,[]⟩,RS.new n,wdN h8.size n⟩) (fun j hj=>updP_ne P _ (by omega)) (updP_self P i _)]
   exact row10
  ·by_cases e:j=i
   ·subst e; rw [updP_self]; exact new
   ·rw [updP_ne _ _ e]
    exact (x.m j (by omega)).keep k58 fun z hz ez=>by have:=x.f j (by omega) z hz; omega
  ·by_cases e:j=i
   ·subst e; rw [updP_self] at hz; have:=fn z hz; have:=x.k.1; omega
   ·rw [updP_ne _ _ e] at hz; exact x.f j (by omega) z hz
  ·by_cases e:j=i <;> by_cases e':j'=i
   ·omega
   ·subst e; rw [updP_self] at h1; rw [updP_ne _ _ e'] at h2
    have:=fn z h1; have:=fold j' (by omega) z h2; omega
   ·subst e'; rw [updP_self] at h2; rw [updP_ne _ _ e] at h1
    have:=fn z h2; have:=fold j (by omega) z h1; omega
   ·rw [updP_ne _ _ e] at h1; rw [updP_ne _ _ e'] at h2
    exact x.dis j j' (by omega) (by omega) hne z h1 h2
  ·by_cases e:j=i
   ·subst e; rw [updP_self]; exact ⟨n,h8.size,by omega,by omega,rfl,rfl⟩
   ·rw [updP_ne _ _ e]; exact x.is j (by omega)
 ·have e2:i=2:=by omega
  subst e2
  have stg:=x.two (by omega) bl (by omega) (by omega)
  refine hR h5 _ _ _ _ _ _ stg ⟨⟨Nat.le_trans k04.1 x.k.1,fun j hj _=>(x.k.2 j (Nat.lt_of_lt_of_le hj k04.1) fun e=>by omega).trans (k04.2 j hj _root_.id)⟩,fun y hy=>?_⟩ (fun j hj=>?_) rfl
  ·rcases hy.cases with e | ⟨j,hj,e⟩ | e
   ·omega
   ·have:=x.f j hj y e; have:=k04.1; omega
   ·rcases e with e | e
    ·have:=foot_bk.1 e; omega
    ·have:=foot_lt.1 e; omega
  ·obtain ⟨n,w,_,_,a1,a2⟩:=x.is j hj
   rw [a1,a2]
   exact ⟨rfl,rfl⟩
end
end Go.Ev
set_option linter.all false
set_option maxRecDepth 1000000
namespace Go.Ev
open Go.Proofs
theorem opn_len (o:Opn):o.cells.length=8:=rfl
theorem OpnOk.keepN {h h':Hp} {o:Opn} (k:OpnOk h o) (e:Kept N h h'):OpnOk h' o :=
 ⟨k.iw,k.islot,k.ito,k.iat,k.inn,k.ls.keepN e,k.few,k.sum,reads_keptN e k.rd,k.tn,k.t8,k.tl,fun p hp hn=>Nat.lt_of_lt_of_le (k.old p hp hn) e.1⟩
section
variable {i:Nat} {hB h h' h2:Hp} {sb:Nat} {P P':Nat→HM} {hh hh':Nat→List Nat} {nds nds':Nat→List NodeD} {idss idss':Nat→List Nat} {d d':BkD} {L L':LtD} {mark:Bool} {F F' F2:Nat→Prop} {R:Value→Hp→Prop} {o:Opn} {sl:Sl} {ops:List Opn}
theorem opn_read (hs:ReadsO h sl.a (ops.flatMap Opn.cells)) {i:Nat} {o:Opn} (eo:ops[i]?=some o):∃ p,sl.a=some p∧cell h (p.add (i * 8))=some (.int .i64 o.k)∧∀ j v,o.cells[j]?=some v→cell h ((p.add (i * 8)).add j)=some v:=by
 have rd:∀ j v,o.cells[j]?=some v→∃ p,sl.a=some p∧cell h ((p.add (i * 8)).add j)=some v:=fun j v hj=>by
  have hjl:j < 8:=by have:=(List.getElem?_eq_some_iff.1 hj).1; rw [opn_len] at this; exact this
  obtain ⟨p,hp,cp⟩:=readsO_get hs ((flat_at opn_len ops i j o eo hjl).trans hj)
  exact ⟨p,hp,by rw [add_add]; exact cp⟩
 obtain ⟨p,hp,_⟩:=rd 0 _ rfl
 have rd':∀ j v,o.cells[j]?=some v→cell h ((p.add (i * 8)).add j)=some v:=fun j v hj=>by
  obtain ⟨p',hp',c⟩:=rd j v hj
  rw [hp] at hp'
  obtain rfl:=Option.some.inj hp'
  exact c
 exact ⟨p,hp,rd' 0 _ rfl,rd'⟩
theorem stC_mark (P:Nat→HM) (hh:Nat→List Nat) (d:BkD) (L:LtD) (mark b:Bool) (h8:∀ k,k < 2→(hh k).length=8):(stC P hh d L mark).set 22 (.bool b)=stC P hh d L b:=by
 unfold stC
 rw [List.set_append_right _ _ (by simp [h8 0 (by omega),h8 1 (by omega)])]
 congr 1
 simp [h8 0 (by omega),h8 1 (by omega)]
theorem StM.setM (x:StM h sb P hh d L mark) (b:Bool) {K:Hp→Prop} (hK:∀ h',StM h' sb P hh d L b→TS h (SF sb P d L) h' (SF sb P d L)→K h') :
  stOk h ((ad sb).add 22)∧Let (setc h ((ad sb).add 22) (.bool b)) fun h'=>K h':=by
 refine row_st x.row (i:=22) (add_ad _ _) (by rw [x.len]; omega) fun h' row kk=>?_
 rw [stC_mark P hh d L mark b x.h8] at row
 exact hK h' ⟨row,fun j hj=>(x.m j hj).keep kk fun b hb (e:b=sb)=>x.out j hj (e ▸ hb),x.d01,x.bl.keep kk fun b hb (e:b=sb)=>x.outB (e ▸ hb),x.sp,x.out,x.outB,x.h8⟩ ⟨kk.mono fun b _ e=>.inl e,fun b hb=>.inl hb⟩
/-- What is known after i steps. -/
structure Run (hB h:Hp) (sb:Nat) (P:Nat→HM) (hh:Nat→List Nat) (nds:Nat→List NodeD) (idss:Nat→List Nat) (d:BkD) (L:LtD) (mark:Bool) (i:Nat):Prop where
 s:Stg h sb P hh nds idss d L mark
 B:Base hB h (SF sb P d L)
 rl:∀ j,j < 2→(P j).s.roots.length ≤ 2 * i
 bl:∀ j,j < 2→(P j).W.bs.length ≤ 2 * i
 tt:d.turn + L.gs.length ≤ 2 * i
theorem run_step (x:Run hB h sb P hh nds idss d L mark i) (hi:i < 1000) (ok:OpnOk hB o) (hR:∀ h' P' hh' nds' idss' d' L',Run hB h' sb P' hh' nds' idss' d' L' mark (i + 1)→R (.bool true) h') :
  CallTo Tryz.prog 8 #[.pointer (some (ad sb)),.agg #[.int .i64 o.k,.int .i64 o.w,.int .i64 o.slot,.int .i64 o.to_,.int .i64 o.at_,.int .i64 o.n,.slice o.pa.a o.pa.n o.pa.c,.slice o.ta.a o.ta.n o.ta.c]] h R :=
 s_plays x.s x.B ok (fun j hj=>by have:=x.rl j hj; omega) (fun j hj=>by have:=x.bl j hj; omega) (by have:=x.tt; omega) fun h' P' hh' nds' idss' d' L' s' _ g' t' =>
  hR h' P' hh' nds' idss' d' L' ⟨s',x.B.step t',fun j hj=>by have:=g'.r j hj; have:=x.rl j hj; omega,fun j hj=>by have:=g'.b j hj; have:=x.bl j hj; omega,by have:=g'.t; have:=x.tt; omega⟩
theorem run_begin {l0 l1:Int} (i0:I64 l0) (i1:I64 l1) (hR:∀ h' sb P hh nds idss d L,Run h h' sb P hh nds idss d L false 0→R (.tuple #[.pointer (some (ad sb)),.bool true]) h'):CallTo Tryz.prog 7 #[.agg #[.int .i64 l0,.int .i64 l1]] h R :=
 sbegin_ok i0 i1 fun h' sb P nds idss d L s B e t=>hR h' sb P _ nds idss d L ⟨s,B,fun j hj=>by rw [(e j hj).1]; omega,fun j hj=>by rw [(e j hj).2]; omega,by omega⟩
theorem whole_ok {l0 l1:Int} (i0:I64 l0) (i1:I64 l1) (hs:ReadsO h sl.a (ops.flatMap Opn.cells)) (hsn:sl.n=ops.length) (ok:∀ o ∈ ops,OpnOk h o) (hR:∀ h',Kept N h h'→R (.bool true) h') :
  CallTo Tryz.prog 6 #[.agg #[.int .i64 l0,.int .i64 l1,.slice sl.a sl.n sl.c],.bool mark] h R:=by
 refine f6F_ok ?_
 unfold f6F
 refine Let_mk fun h1 e1=>?_
 have enb:nb h=ad h.size:=rfl
 have k1:Kept N h h1:=e1 ▸ kept_push _ _ _
 have row1:Row h1 h.size [.int .i64 l0,.int .i64 l1,.slice sl.a sl.n sl.c]:=e1 ▸ row_new h _ 25
 rw [enb]
 clear e1
 refine ⟨_,(cell_row row1 0).trans rfl,_,by rw [add_ad]; exact (cell_row row1 1).trans rfl,run_begin i0 i1 fun h2 sb P hh nds idss d L r=>⟨_,_,rfl,Cond_f rfl (PtrOk_mk (r.s.m.setM mark fun h3 m3 t3=>?_))⟩⟩
 have r3:Run h1 h3 sb P hh nds idss d L mark 0:=⟨⟨m3,r.s.ks,r.s.nz⟩,r.B.step t3,r.rl,r.bl,r.tt⟩
 clear r m3 t3
 refine f6L1_rule (fun m s2 s5 s7 h'=>∃ (i:Nat) (P:Nat→HM) (hh:Nat→List Nat) (nds:Nat→List NodeD) (idss:Nat→List Nat) (d:BkD) (L:LtD),i ≤ 1000∧i ≤ ops.length∧m=ops.length - i∧s2=ad h.size∧s5=some (ad sb)∧s7=(i:Int)∧Run h1 h' sb P hh nds idss d L mark i) ops.length
  ⟨0,P,hh,nds,idss,d,L,by omega,by omega,rfl,rfl,rfl,rfl,r3⟩ ?_
 clear r3
 clear P hh nds idss d L
 rintro m s2 s5 s7 g h4 ⟨i,P,hh,nds,idss,d,L,hi,hil,rfl,rfl,rfl,rfl,r⟩
 unfold f6L1
 have row4:=kept_row r.B.k row1 _root_.id
 have cS:cell h4 ((ad h.size).add 2)=some (.slice sl.a sl.n sl.c):=by rw [add_ad]; exact (cell_row row4 2).trans rfl
 have tt:=r.tt
 have fin:f6K1 (fun m s2 s5 s7 h'=>∃ (i:Nat) (P:Nat→HM) (hh:Nat→List Nat) (nds:Nat→List NodeD) (idss:Nat→List Nat) (d:BkD) (L:LtD),i ≤ 1000∧i ≤ ops.length∧m=ops.length - i∧s2=ad h.size∧s5=some (ad sb)∧s7=(i:Int)∧Run h1 h' sb P hh nds idss d L mark i) (ops.length - i) (ad h.size) (some (ad sb)) (i:Int) false h4 R:=by
  unfold f6K1
  refine Cond_f rfl (PtrOk_mk ⟨_,r.s.m.cL,PtrOk_mk ⟨_,r.s.m.cB,settle_ok (n:=0) r.s.m.bl (by omega) (by omega) (by omega) fun h5 d5 L5 b5 t5 e5=>⟨true,rfl,?_⟩⟩⟩)
  obtain ⟨m5,s5⟩:=r.s.m.book b5 t5
  exact hR h5 (k1.trans (r.B.step s5).k)
 refine ⟨sl,cS,Cond_dec (fun hlt=>?_) fun _=>fin⟩
 by_cases h1000:((i:Nat):Int) < 1000
 ·rw [decide_eq_true h1000]
  have hio:i < ops.length:=by omega
  obtain ⟨o,eo⟩:∃ o,ops[i]?=some o:=⟨_,List.getElem?_eq_getElem hio⟩
  obtain ⟨p,hp,c0,cj⟩:=opn_read (reads_keptN (k1.trans r.B.k) hs) eo
  unfold f6K1
  refine Cond_t rfl ⟨sl,cS,⟨by omega,hlt⟩,PtrOk_of hp ?_⟩
  rw [Int.toNat_natCast]
  refine ⟨_,c0,_,cj 1 _ rfl,_,cj 2 _ rfl,_,cj 3 _ rfl,_,cj 4 _ rfl,_,cj 5 _ rfl,o.pa,cj 6 _ rfl,o.ta,cj 7 _ rfl,?_⟩
  refine run_step r (by omega) ((ok o (List.mem_of_getElem? eo)).keepN k1) fun h5 P' hh' nds' idss' d' L' r5=>⟨_,rfl,Cond_f rfl (PtrOk_mk ⟨_,r5.s.m.cB,?_⟩)⟩
  have tt5:=r5.tt
  refine look2_ok r5.s.m.bl (by omega) fun h6 d6 b6 t6 e6=>⟨true,rfl,?_⟩
  obtain ⟨m6,s6⟩:=r5.s.m.book b6 t6
  unfold f6K2
  exact Cond_f rfl ⟨ops.length - (i + 1),by omega,i + 1,P',hh',nds',idss',d6,L',by omega,by omega,rfl,rfl,rfl,by rw [wrap_i64' (by omega) (by omega)]; rfl,⟨⟨m6,r5.s.ks,r5.s.nz⟩,r5.B.step s6,r5.rl,r5.bl,by omega⟩⟩
 ·rw [decide_eq_false h1000]
  exact fin
theorem exact_ok {l0 l1:Int} (i0:I64 l0) (i1:I64 l1) (hs:ReadsO h sl.a (ops.flatMap Opn.cells)) (hsn:sl.n=ops.length) (ok:∀ o ∈ ops,OpnOk h o) (hR:∀ h',Kept N h h'→R (.bool true) h') :
  CallTo Tryz.prog 3 #[.agg #[.int .i64 l0,.int .i64 l1,.slice sl.a sl.n sl.c]] h R:=by
 refine f3F_ok ?_
 unfold f3F
 refine Let_mk fun h1 e1=>?_
 have enb:nb h=ad h.size:=rfl
 have k1:Kept N h h1:=e1 ▸ kept_push _ _ _
 have row1:Row h1 h.size [.int .i64 l0,.int .i64 l1,.slice sl.a sl.n sl.c]:=e1 ▸ row_new h _ 25
 rw [enb]
 exact ⟨_,(cell_row row1 0).trans rfl,_,by rw [add_ad]; exact (cell_row row1 1).trans rfl,sl,by rw [add_ad]; exact (cell_row row1 2).trans rfl,whole_ok i0 i1 (reads_keptN k1 hs) hsn (fun o ho=>(ok o ho).keepN k1) fun h' k'=>⟨true,rfl,hR h' (k1.trans k')⟩⟩
theorem fresh_ok {l0 l1:Int} (i0:I64 l0) (i1:I64 l1) (hs:ReadsO h sl.a (ops.flatMap Opn.cells)) (hsn:sl.n=ops.length) (ok:∀ o ∈ ops,OpnOk h o) (hR:∀ h',Kept N h h'→R (.bool true) h') :
  CallTo Tryz.prog 4 #[.agg #[.int .i64 l0,.int .i64 l1,.slice sl.a sl.n sl.c]] h R:=by
 refine f4F_ok ?_
 unfold f4F
 refine Let_mk fun h1 e1=>?_
 have enb:nb h=ad h.size:=rfl
 have k1:Kept N h h1:=e1 ▸ kept_push _ _ _
 have row1:Row h1 h.size [.int .i64 l0,.int .i64 l1,.slice sl.a sl.n sl.c]:=e1 ▸ row_new h _ 25
 rw [enb]
 exact ⟨_,(cell_row row1 0).trans rfl,_,by rw [add_ad]; exact (cell_row row1 1).trans rfl,sl,by rw [add_ad]; exact (cell_row row1 2).trans rfl,whole_ok i0 i1 (reads_keptN k1 hs) hsn (fun o ho=>(ok o ho).keepN k1) fun h' k'=>⟨true,rfl,hR h' (k1.trans k')⟩⟩
end
end Go.Ev
set_option linter.all false
set_option maxRecDepth 100000
namespace Go.Proofs.YtdkopnbjommjdaaGreat
open Go.ChangeShapes Go.WideShapes Go.ChangeAt Go.RowKit
open Go.Ev (Reads ReadsO uv bv iv slV I64 Sl Opn OpnOk Lists)
theorem c22:Tryz.prog.cellsOf 22=2:=by kernel_rfl
theorem c23:Tryz.prog.cellsOf 23=1:=by kernel_rfl
theorem c25:Tryz.prog.cellsOf 25=3:=by kernel_rfl
theorem c32:Tryz.prog.cellsOf 32=1:=by kernel_rfl
theorem c35:Tryz.prog.cellsOf 35=8:=by kernel_rfl
section
variable {H:Type} {enc:TypeId × Value→H} {W:World}
theorem bulk_pos (d:DataW H):1 ≤ Rows.uptoBulk d:=by
 cases d with
 | lit l=>cases l <;> simp [Rows.uptoBulk]
 | _=>simp [Rows.uptoBulk]
theorem bulk_len:∀ ds:List (DataW H),ds.length ≤ Rows.uptoBulkAll ds
 | []=>Nat.zero_le _
 | d :: ds=>by
  have:=bulk_pos d
  have:=bulk_len ds
  simp only [Rows.uptoBulkAll,List.length_cons]
  omega
theorem bulk_mem:∀ {ds:List (DataW H)} {d:DataW H},d ∈ ds→Rows.uptoBulk d ≤ Rows.uptoBulkAll ds
 | d0 :: ds,d,h=>by
  simp only [Rows.uptoBulkAll]
  rcases List.mem_cons.1 h with rfl | h
  ·omega
  ·have:=bulk_mem h
   omega
theorem bulk_flat:∀ (parts:List (List Nat)) (ds:List (DataW H)),parts.length=ds.length→(∀ (i:Nat) (p:List Nat) (d:DataW H),parts[i]?=some p→ds[i]?=some d→p.length ≤ Rows.uptoBulk d)→parts.flatten.length ≤ Rows.uptoBulkAll ds
 | [],ds,_,_=>Nat.zero_le _
 | p :: parts,[],h,_=>by cases h
 | p :: parts,d :: ds,h,hp=>by
  have h0:=hp 0 p d rfl rfl
  have h1:=bulk_flat parts ds (by simpa using h) fun i p d a b=>hp (i + 1) p d a b
  simp only [Rows.uptoBulkAll,List.flatten_cons,List.length_append]
  omega
theorem bytes_bulk {n:Nat} {d:Sl} {x:DataW H × List MemPlace} (h:DataW.trod enc Tryz.prog W 0 (fun _=>true) true n 33 [slV d]=some x):d.n ≤ Rows.uptoBulk x.1:=by
 rcases DataW.trod_slice Tryz.underlying33 h with ⟨hc,_⟩ | ⟨a,len,cap,elems,rest,k,_,hc,rfl,_,_,_,hlen,_⟩
 ·have hc:slV d=.slice none 0 0:=(List.cons.inj hc).1
  unfold slV at hc
  injection hc with _ e _
  omega
 ·have hc:slV d=.slice (some a) len cap:=(List.cons.inj hc).1
  unfold slV at hc
  injection hc with _ e _
  have:=bulk_len (elems.map (·.1))
  simp only [Rows.uptoBulk]
  rw [List.length_map] at this
  omega
theorem lists_of {n:Nat} {v:Value} {x:DataW H × List MemPlace} (h:DataW.trod enc Tryz.prog W 0 (fun _=>true) true n 32 [v]=some x) (hw:∀ m ∈ x.1.weights Tryz.prog 32,m ≤ reachBytes) :
  ∃ (pa:Sl) (sls:List Sl) (parts:List (List Nat)),v=slV pa∧Lists W.heap pa sls parts∧sls.length ≤ Rows.uptoBulk x.1∧parts.flatten.length ≤ Rows.uptoBulk x.1:=by
 rcases DataW.trod_slice Tryz.underlying32 h with ⟨hc,rfl⟩ | ⟨a,len,cap,elems,rest,k,_,hc,rfl,_,_,_,hlen,hel3,_,_⟩
 ·refine ⟨⟨none,0,0⟩,[],[],(List.cons.inj hc).1,⟨rfl,rfl,rfl,fun i c p hc=>by cases hc⟩,Nat.zero_le _,Nat.zero_le _⟩
 ·rw [c33] at hel3
  have each:∀ i,i < len→∃ y:Sl × List Nat,Go.Ev.cell W.heap (a.add (i * 1))=some (slV y.1)∧BytesP W.heap y.1 y.2∧∀ d,(elems.map (·.1))[i]?=some d→y.2.length ≤ Rows.uptoBulk d:=fun i hi=>by
   have h1:=hel3 i hi
   have hi2:i < elems.length:=by omega
   rw [List.getElem?_eq_getElem hi2] at h1
   obtain ⟨cs1,hc1,hd⟩:=Option.bind_eq_some_iff.1 h1
   obtain ⟨_,hcl,hcc⟩:=World.cells?_some hc1
   match cs1,hcl with
   | [v1],_ =>
    obtain ⟨d1,l1,e1,b1⟩:=bytes_of hd (fun m hm=>hw m (by
     simp only [DataW.weights,Tryz.underlying32,List.mem_cons,List.mem_append]
     exact .inr (.inl (weightsAll_mem (List.mem_map.2 ⟨_,List.getElem_mem hi2,rfl⟩) m hm))))
    have h3:Go.Ev.cell W.heap ((a.add (i * 1)).add 0)=[v1][0]?:=hcc 0 (by omega)
    refine ⟨⟨d1,l1⟩,?_,b1,fun d hd'=>?_⟩
    ·rw [Go.Ev.add_add,Nat.add_zero] at h3
     rw [h3,e1]
     rfl
    ·rw [List.getElem?_map,List.getElem?_eq_getElem hi2] at hd'
     obtain rfl:=Option.some.inj hd'
     rw [e1] at hd
     have:=bytes_bulk hd
     have:=b1.2.1
     show l1.length ≤ Rows.uptoBulk (elems[i]).1
     omega
  obtain ⟨f,hf⟩:∃ f:Nat→Sl × List Nat,∀ i,i < len→Go.Ev.cell W.heap (a.add (i * 1))=some (slV (f i).1)∧BytesP W.heap (f i).1 (f i).2∧∀ d,(elems.map (·.1))[i]?=some d→(f i).2.length ≤ Rows.uptoBulk d :=
   ⟨fun i=>if hi:i < len then (each i hi).choose else ⟨⟨none,0,0⟩,[]⟩,fun i hi=>by dsimp only; rw [dif_pos hi]; exact (each i hi).choose_spec⟩
  have b0:=bulk_len (elems.map (·.1))
  have bf:=bulk_flat ((List.range len).map fun i=>(f i).2) (elems.map (·.1)) (by simp [hlen]) fun i p d hp hd=>by
   have hi:i < len:=by have:=(List.getElem?_eq_some_iff.1 hp).1; simpa using this
   rw [List.getElem?_map,List.getElem?_range hi] at hp
   obtain rfl:=Option.some.inj hp
   exact (hf i hi).2.2 d hd
  refine ⟨⟨some a,len,cap⟩,(List.range len).map fun i=>(f i).1,(List.range len).map fun i=>(f i).2,(List.cons.inj hc).1,⟨fun j v hj=>?_,by simp,by simp,fun i c p hc' hp=>?_⟩,?_,?_⟩
  ·rw [List.map_map,List.getElem?_map] at hj
   obtain ⟨i,hi,rfl⟩:=Option.map_eq_some_iff.1 hj
   have hjl:j < len:=by have:=(List.getElem?_eq_some_iff.1 hi).1; simpa using this
   rw [List.getElem?_range hjl] at hi
   obtain rfl:=Option.some.inj hi
   have:=(hf j hjl).1
   rw [Nat.mul_one] at this
   exact this
  ·have hi:i < len:=by have:=(List.getElem?_eq_some_iff.1 hp).1; simpa using this
   rw [List.getElem?_map,List.getElem?_range hi] at hc' hp
   obtain rfl:=Option.some.inj hc'
   obtain rfl:=Option.some.inj hp
   obtain ⟨_,b,_⟩:=hf i hi
   exact ⟨b.1,b.2.1,b.2.2.1,b.2.2.2.1,b.2.2.2.2.1⟩
  ·rw [List.length_map] at b0
   simp only [Rows.uptoBulk,List.length_map,List.length_range]
   omega
  ·simp only [Rows.uptoBulk]
   omega
theorem opn_of {n:Nat} {cs:List Value} {x:DataW H × List MemPlace} (h:DataW.trod enc Tryz.prog W 0 (fun _=>true) true n 35 cs=some x) (hw:∀ m ∈ x.1.weights Tryz.prog 35,m ≤ reachBytes) (hb:Rows.uptoBulk x.1 ≤ 1048576):∃ o:Opn,cs=o.cells∧OpnOk W.heap o:=by
 obtain ⟨xs,n,_,rfl,hl,hn,hel⟩:=DataW.trod_struct Tryz.underlying35 h
 rw [c35] at hl
 have e0:DataW.trod enc Tryz.prog W 0 (fun _=>true) true n 3 ((cs.drop 0).take (Tryz.prog.cellsOf 3))=xs[0]?:=hel 0 _ rfl
 have e1:DataW.trod enc Tryz.prog W 0 (fun _=>true) true n 3 ((cs.drop 1).take (Tryz.prog.cellsOf 3))=xs[1]?:=hel 1 _ rfl
 have e2:DataW.trod enc Tryz.prog W 0 (fun _=>true) true n 3 ((cs.drop 2).take (Tryz.prog.cellsOf 3))=xs[2]?:=hel 2 _ rfl
 have e3:DataW.trod enc Tryz.prog W 0 (fun _=>true) true n 3 ((cs.drop 3).take (Tryz.prog.cellsOf 3))=xs[3]?:=hel 3 _ rfl
 have e4:DataW.trod enc Tryz.prog W 0 (fun _=>true) true n 3 ((cs.drop 4).take (Tryz.prog.cellsOf 3))=xs[4]?:=hel 4 _ rfl
 have e5:DataW.trod enc Tryz.prog W 0 (fun _=>true) true n 3 ((cs.drop 5).take (Tryz.prog.cellsOf 3))=xs[5]?:=hel 5 _ rfl
 have e6:DataW.trod enc Tryz.prog W 0 (fun _=>true) true n 32 ((cs.drop 6).take (Tryz.prog.cellsOf 32))=xs[6]?:=hel 6 _ rfl
 have e7:DataW.trod enc Tryz.prog W 0 (fun _=>true) true n 33 ((cs.drop 7).take (Tryz.prog.cellsOf 33))=xs[7]?:=hel 7 _ rfl
 rw [c3] at e0 e1 e2 e3 e4 e5
 rw [c32] at e6
 rw [c33] at e7
 match xs,hn with
 | [x0,x1,x2,x3,x4,x5,x6,x7],_ =>
  match cs,hl with
  | [v0,v1,v2,v3,v4,v5,v6,v7],_ =>
   obtain ⟨n0,a0,_,w0⟩:=DataW.trod_int Tryz.underlying3 (show DataW.trod enc Tryz.prog W 0 (fun _=>true) true n 3 [v0]=some x0 from e0)
   obtain ⟨n1,a1,_,w1⟩:=DataW.trod_int Tryz.underlying3 (show DataW.trod enc Tryz.prog W 0 (fun _=>true) true n 3 [v1]=some x1 from e1)
   obtain ⟨n2,a2,_,w2⟩:=DataW.trod_int Tryz.underlying3 (show DataW.trod enc Tryz.prog W 0 (fun _=>true) true n 3 [v2]=some x2 from e2)
   obtain ⟨n3,a3,_,w3⟩:=DataW.trod_int Tryz.underlying3 (show DataW.trod enc Tryz.prog W 0 (fun _=>true) true n 3 [v3]=some x3 from e3)
   obtain ⟨n4,a4,_,w4⟩:=DataW.trod_int Tryz.underlying3 (show DataW.trod enc Tryz.prog W 0 (fun _=>true) true n 3 [v4]=some x4 from e4)
   obtain ⟨n5,a5,_,w5⟩:=DataW.trod_int Tryz.underlying3 (show DataW.trod enc Tryz.prog W 0 (fun _=>true) true n 3 [v5]=some x5 from e5)
   obtain ⟨pa,sls,parts,q6,ls,g1,g2⟩:=lists_of (show DataW.trod enc Tryz.prog W 0 (fun _=>true) true n 32 [v6]=some x6 from e6) (fun m hm=>hw m (by
    simp only [DataW.weights,Tryz.underlying35]
    exact DataW.weights_mem_each (j:=6) (t:=32) rfl rfl m hm))
   obtain ⟨d,l,d1,d2,d3,d4,d5,d6,_⟩:=bytes_of (show DataW.trod enc Tryz.prog W 0 (fun _=>true) true n 33 [v7]=some x7 from e7) (fun m hm=>hw m (by
    simp only [DataW.weights,Tryz.underlying35]
    exact DataW.weights_mem_each (j:=7) (t:=33) rfl rfl m hm))
   simp only [List.cons.injEq,and_true] at a0 a1 a2 a3 a4 a5
   have b6:Rows.uptoBulk x6.1 ≤ 1048576:=by
    simp only [Rows.uptoBulk] at hb
    have:=bulk_mem (ds:=[x0,x1,x2,x3,x4,x5,x6,x7].map (·.1)) (d:=x6.1) (by simp)
    omega
   have b7:Rows.uptoBulk x7.1 ≤ 1048576:=by
    simp only [Rows.uptoBulk] at hb
    have:=bulk_mem (ds:=[x0,x1,x2,x3,x4,x5,x6,x7].map (·.1)) (d:=x7.1) (by simp)
    omega
   have tl:l.length < 10000000:=by
    have:=bytes_bulk (d:=d) (x:=x7) (n:=n) (d1 ▸ show DataW.trod enc Tryz.prog W 0 (fun _=>true) true n 33 [v7]=some x7 from e7)
    have d3':=d3
    omega
   refine ⟨⟨n0,n1,n2,n3,n4,n5,pa,d,sls,parts,l⟩,?_,⟨i64_of w1,i64_of w2,i64_of w3,i64_of w4,i64_of w5,ls,by show sls.length < _; omega,by show parts.flatten.length < _; omega,d2,d3,d4,tl,d6⟩⟩
   show [v0,v1,v2,v3,v4,v5,v6,v7]=[iv n0,iv n1,iv n2,iv n3,iv n4,iv n5,slV pa,slV d]
   rw [a0,a1,a2,a3,a4,a5,q6,d1]
   rfl
theorem bscript_of {n:Nat} {cs:List Value} {x:DataW H × List MemPlace} (h:DataW.trod enc Tryz.prog W 0 (fun _=>true) true n 25 cs=some x) (hw:∀ m ∈ x.1.weights Tryz.prog 25,m ≤ reachBytes) (hb:Rows.uptoBulk x.1 ≤ 1048576) :
  ∃ (l0 l1:Int) (sl:Sl) (ops:List Opn),cs=[.int .i64 l0,.int .i64 l1,.slice sl.a sl.n sl.c]∧I64 l0∧I64 l1∧ReadsO W.heap sl.a (ops.flatMap Opn.cells)∧sl.n=ops.length∧∀ o ∈ ops,OpnOk W.heap o:=by
 obtain ⟨xs,n,_,rfl,hl,hn,hel⟩:=DataW.trod_struct Tryz.underlying25 h
 rw [c25] at hl
 have e0:DataW.trod enc Tryz.prog W 0 (fun _=>true) true n 22 ((cs.drop 0).take (Tryz.prog.cellsOf 22))=xs[0]?:=hel 0 _ rfl
 have e1:DataW.trod enc Tryz.prog W 0 (fun _=>true) true n 23 ((cs.drop 2).take (Tryz.prog.cellsOf 23))=xs[1]?:=hel 1 _ rfl
 rw [c22] at e0
 rw [c23] at e1
 match xs,hn with
 | [x0,x1],_ =>
  match cs,hl with
  | [v0,v1,v2],_ =>
   obtain ⟨ys,m,_,rfl,_,hy,hel2⟩:=DataW.trod_array Tryz.underlying22 (show DataW.trod enc Tryz.prog W 0 (fun _=>true) true n 22 [v0,v1]=some x0 from e0)
   rw [c3] at hel2
   match ys,hy with
   | [y0,y1],_ =>
    obtain ⟨l0,a0,_,w0⟩:=DataW.trod_int Tryz.underlying3 (show DataW.trod enc Tryz.prog W 0 (fun _=>true) true m 3 [v0]=some y0 from hel2 0 (by omega))
    obtain ⟨l1,a1,_,w1⟩:=DataW.trod_int Tryz.underlying3 (show DataW.trod enc Tryz.prog W 0 (fun _=>true) true m 3 [v1]=some y1 from hel2 1 (by omega))
    simp only [List.cons.injEq,and_true] at a0 a1
    subst a0 a1
    rcases DataW.trod_slice Tryz.underlying23 (show DataW.trod enc Tryz.prog W 0 (fun _=>true) true n 23 [v2]=some x1 from e1) with ⟨hc,_⟩ | ⟨a,len,cap,elems,rest,k,_,hc,rfl,_,_,_,hlen,hel3,_,_⟩
    ·simp only [List.cons.injEq,and_true] at hc
     subst hc
     exact ⟨l0,l1,⟨none,0,0⟩,[],rfl,i64_of w0,i64_of w1,rfl,rfl,by simp⟩
    ·simp only [List.cons.injEq,and_true] at hc
     subst hc
     rw [c35] at hel3
     have each:∀ i,i < len→∃ o:Opn,OpnOk W.heap o∧∀ j v,o.cells[j]?=some v→Go.Ev.cell W.heap (a.add (i * 8 + j))=some v:=fun i hi=>by
      have h1:=hel3 i hi
      have hi2:i < elems.length:=by omega
      rw [List.getElem?_eq_getElem hi2] at h1
      obtain ⟨cs1,hc1,hd⟩:=Option.bind_eq_some_iff.1 h1
      obtain ⟨_,hcl,hcc⟩:=World.cells?_some hc1
      obtain ⟨o,ho,hok⟩:=opn_of hd (fun m hm=>hw m (by
       simp only [DataW.weights,Tryz.underlying25]
       refine DataW.weights_mem_each (j:=1) (t:=23) rfl rfl m ?_
       simp only [DataW.weights,Tryz.underlying23,List.mem_cons,List.mem_append]
       exact .inr (.inl (weightsAll_mem (List.mem_map.2 ⟨_,List.getElem_mem hi2,rfl⟩) m hm)))) (by
       have b1:=bulk_mem (ds:=elems.map (·.1)) (d:=(elems[i]).1) (List.mem_map.2 ⟨_,List.getElem_mem hi2,rfl⟩)
       simp only [Rows.uptoBulk,Rows.uptoBulkAll,List.map_cons,List.map_nil] at hb
       omega)
      refine ⟨o,hok,fun j v hj=>?_⟩
      have hjl:j < 8:=(List.getElem?_eq_some_iff.1 hj).1
      have h3:Go.Ev.cell W.heap ((a.add (i * 8)).add j)=cs1[j]?:=hcc j hjl
      rw [← Go.Ev.add_add,h3,ho,hj]
     obtain ⟨f,hf⟩:∃ f:Nat→Opn,∀ i,i < len→OpnOk W.heap (f i)∧∀ j v,(f i).cells[j]?=some v→Go.Ev.cell W.heap (a.add (i * 8 + j))=some v :=
      ⟨fun i=>if hi:i < len then (each i hi).choose else ⟨0,0,0,0,0,0,⟨none,0,0⟩,⟨none,0,0⟩,[],[],[]⟩,fun i hi=>by dsimp only; rw [dif_pos hi]; exact (each i hi).choose_spec⟩
     refine ⟨l0,l1,⟨some a,len,cap⟩,(List.range len).map f,rfl,i64_of w0,i64_of w1,?_,by simp,fun o ho=>?_⟩
     ·intro j v hj
      have hjl:j < len * 8:=by
       have:=(List.getElem?_eq_some_iff.1 hj).1
       rw [Go.Ev.flat_len (sz:=8) (fun _=>rfl)] at this
       simpa using this
      have hd:j=j / 8 * 8 + j % 8:=by omega
      have hi:j / 8 < len:=by omega
      have h4:=Go.Ev.flat_at (sz:=8) (f:=Opn.cells) (fun _=>rfl) ((List.range len).map f) (j / 8) (j % 8) (f (j / 8)) (by rw [List.getElem?_map,List.getElem?_range hi]; rfl) (by omega)
      rw [← hd,hj] at h4
      have:=(hf (j / 8) hi).2 (j % 8) v h4.symm
      rwa [← hd] at this
     ·obtain ⟨i,hi,rfl⟩:=List.mem_map.1 ho
      exact (hf i (List.mem_range.1 hi)).1
end
end Go.Proofs.YtdkopnbjommjdaaGreat
