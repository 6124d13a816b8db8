/- The statements' stage for blobs: New / Blobs in slots: a Write that makes a new blob / The statements' stage for blobs: Write / BlobSplices: the law's own call / BlobCounts: the law's own call / The statements' stage for blobs: answers taken; the calls that only tell. No condition but that these are ones. -/
import Derived.Test.YtdkopnbjommjdaaGreatQ24
import Derived.Test.YtdkopnbjommjdaaGreatQ18
import Derived.Test.YtdkopnbjommjdaaGreatQ23
set_option linter.all false
set_option maxRecDepth 1000000
namespace Go.Ev
open Go.Proofs
/-- One of the script's steps. -/
structure Opn where
 k:Int
 w:Int
 slot:Int
 to_:Int
 at_:Int
 n:Int
 pa:Sl
 ta:Sl
 sls:List Sl
 parts:List (List Nat)
 t:List Nat
def Opn.cells (o:Opn):List Value:=[.int .i64 o.k,.int .i64 o.w,.int .i64 o.slot,.int .i64 o.to_,.int .i64 o.at_,.int .i64 o.n,slV o.pa,slV o.ta]
structure OpnOk (hB:Hp) (o:Opn):Prop where
 iw:I64 o.w
 islot:I64 o.slot
 ito:I64 o.to_
 iat:I64 o.at_
 inn:I64 o.n
 ls:Lists hB o.pa o.sls o.parts
 few:o.sls.length < 9999990
 sum:o.parts.flatten.length < 10000000
 rd:ReadsO hB o.ta.a (o.t.map bv)
 tn:o.ta.n=o.t.length
 t8:Bytes8 o.t
 tl:o.t.length < 10000000
 old:∀ p,o.ta.a=some p→o.t ≠ []→p.block < hB.size
/-- What was there before is as it was, and no part of the stage. -/
structure Base (hB h:Hp) (F:Nat→Prop):Prop where
 k:Kept N hB h
 f:∀ b,F b→hB.size ≤ b
structure Grw (P:Nat→HM) (d:BkD) (L:LtD) (P':Nat→HM) (d':BkD) (L':LtD) (n:Nat):Prop where
 r:∀ i,i < 2→(P' i).s.roots.length ≤ (P i).s.roots.length + n
 b:∀ i,i < 2→(P' i).W.bs.length ≤ (P i).W.bs.length + n
 t:d'.turn + L'.gs.length ≤ d.turn + L.gs.length + n
/-- A step's outcome: true, and all is well again. -/
def Goes (h:Hp) (sb:Nat) (P:Nat→HM) (d:BkD) (L:LtD) (mark:Bool) (n:Nat) (v:Value) (R:Value→Hp→Prop):Prop :=
 ∀ h' P' hh' nds' idss' d' L',Stg h' sb P' hh' nds' idss' d' L' mark→(∀ i,(P' i).W.lim=(P i).W.lim)→Grw P d L P' d' L' n→TS h (SF sb P d L) h' (SF sb P' d' L')→R v h'
section
variable {hB h h' h2:Hp} {sb:Nat} {P P':Nat→HM} {hh hh':Nat→List Nat} {nds nds':Nat→List NodeD} {idss idss':Nat→List Nat} {d d':BkD} {L L':LtD} {mark:Bool} {F F' F2:Nat→Prop} {R:Value→Hp→Prop} {o:Opn}
def updD (f:Nat→List NodeD) (k:Nat) (x:List NodeD):Nat→List NodeD:=fun i=>if i=k then x else f i
theorem updD_self (P:Nat→List NodeD) (k:Nat) (x:List NodeD):updD P k x k=x:=if_pos rfl
theorem updD_ne (P:Nat→List NodeD) {k i:Nat} (x:List NodeD) (h:i ≠ k):updD P k x i=P i:=if_neg h
theorem Base.step (b:Base hB h F) (t:TS h F h' F'):Base hB h' F':=⟨⟨Nat.le_trans b.k.1 t.1.1,fun i hi _=>(t.1.2 i (Nat.lt_of_lt_of_le hi b.k.1) fun hf=>by have:=b.f i hf; omega).trans (b.k.2 i hi _root_.id)⟩,
 fun i hi=>(t.2 i hi).elim (b.f i) fun e=>Nat.le_trans b.k.1 e⟩
theorem Base.keepN (b:Base hB h F) (k:Kept N h h'):Base hB h' F:=b.step (TS.keepN k)
theorem Grw.refl (P:Nat→HM) (d:BkD) (L:LtD):Grw P d L P d L 0:=⟨fun _ _=>Nat.le_refl _,fun _ _=>Nat.le_refl _,Nat.le_refl _⟩
theorem Grw.mono {n m:Nat} (g:Grw P d L P' d' L' n) (h:n ≤ m):Grw P d L P' d' L' m:=⟨fun i hi=>by have:=g.r i hi; omega,fun i hi=>by have:=g.b i hi; omega,by have:=g.t; omega⟩
theorem Grw.trans {P2:Nat→HM} {d2:BkD} {L2:LtD} {n m:Nat} (g:Grw P d L P' d' L' n) (g2:Grw P' d' L' P2 d2 L2 m):Grw P d L P2 d2 L2 (n + m):=⟨fun i hi=>by have:=g.r i hi; have:=g2.r i hi; omega,fun i hi=>by have:=g.b i hi; have:=g2.b i hi; omega,by have:=g.t; have:=g2.t; omega⟩
theorem Goes.of {n m j:Nat} {v:Value} (hR:Goes h sb P d L mark n v R) (t:TS h (SF sb P d L) h' (SF sb P' d' L')) (lm:∀ i,(P' i).W.lim=(P i).W.lim) (g:Grw P d L P' d' L' m) (hk:m + j ≤ n):Goes h' sb P' d' L' mark j v R :=
 fun h2 P2 hh2 nds2 idss2 d2 L2 x2 lm2 g2 t2=>hR h2 P2 hh2 nds2 idss2 d2 L2 x2 (fun i=>(lm2 i).trans (lm i)) ((g.trans g2).mono hk) (t.trans t2)
theorem op_w {c:Nat} (row:Row h c o.cells):cell h ((ad c).add 1)=some (.int .i64 o.w):=by rw [add_ad]; exact (cell_row row 1).trans rfl
theorem op_row {c:Nat} (row:Row h c o.cells):(cell h (ad c)=some (.int .i64 o.k)∧cell h ((ad c).add 2)=some (.int .i64 o.slot)∧cell h ((ad c).add 3)=some (.int .i64 o.to_))∧cell h ((ad c).add 4)=some (.int .i64 o.at_)∧cell h ((ad c).add 5)=some (.int .i64 o.n)∧cell h ((ad c).add 6)=some (.slice o.pa.a o.pa.n o.pa.c)∧cell h ((ad c).add 7)=some (.slice o.ta.a o.ta.n o.ta.c) :=
 ⟨⟨(cell_row row 0).trans rfl,by rw [add_ad]; exact (cell_row row 2).trans rfl,by rw [add_ad]; exact (cell_row row 3).trans rfl⟩,by rw [add_ad]; exact (cell_row row 4).trans rfl,by rw [add_ad]; exact (cell_row row 5).trans rfl,by rw [add_ad]; exact (cell_row row 6).trans rfl,by rw [add_ad]; exact (cell_row row 7).trans rfl⟩
theorem OpnOk.b8 (ok:OpnOk hB o):(∀ p ∈ o.parts,Bytes8 p)∧Bytes8 o.parts.flatten∧∀ p ∈ o.parts,p.length < 10000000:=by
 have hsl:=ok.ls.len
 have key:∀ p ∈ o.parts,Bytes8 p:=fun p hp=>by
  obtain ⟨ii,hii⟩:=List.mem_iff_getElem?.1 hp
  have hl:=(List.getElem?_eq_some_iff.1 hii).1
  obtain ⟨_,_,b8,_⟩:=ok.ls.each ii _ p (List.getElem?_eq_getElem (by omega)) hii
  exact b8
 refine ⟨key,fun y hy=>?_,fun p hp=>?_⟩
 ·obtain ⟨p,hp,hyp⟩:=List.mem_flatten.1 hy
  exact key p hp y hyp
 ·have:=flat_mem hp; have:=ok.sum; omega
theorem fresh_sf (x:StM h sb P hh d L mark) {c:Nat} (hc:h.size ≤ c):¬ SF sb P d L c:=fun hf=>by have:=x.foot_lt hf; omega
/-- What is put beside the stage in new memory is no part of it, whatever it does. -/
theorem apart {c:Nat} (x:StM h sb P hh d L mark) (hc:h.size ≤ c) (hl:c < h'.size) (t:TS h' (SF sb P d L) h2 F2):¬ F2 c:=fun hf=>(t.2 c hf).elim (fresh_sf x hc) fun hs=>by omega
/-- changes, of New. -/
theorem s_new (x:Stg h sb P hh nds idss d L mark) (B:Base hB h (SF sb P d L)) (ok:OpnOk hB o) {k i:Nat} (hk:k < 2) (hi:i < 8) (h1:o.k=1) (rl:∀ i,i < 2→(P i).s.roots.length < 99999900) (few:∀ i,i < 2→(P i).W.bs.length < 99990) (hR:Goes h sb P d L mark 2 (.bool true) R) :
  CallTo Tryz.prog 18 #[.pointer (some (ad sb)),.agg #[.int .i64 o.k,.int .i64 o.w,.int .i64 o.slot,.int .i64 o.to_,.int .i64 o.at_,.int .i64 o.n,.slice o.pa.a o.pa.n o.pa.c,.slice o.ta.a o.ta.n o.ta.c],.int .i64 (k:Nat),.int .i64 (i:Nat)] h R:=by
 have x0:=x
 obtain ⟨m,ks,nz⟩:=x
 have kk:=ks k hk
 have v:=kk.v
 have hsl:=ok.ls.len
 obtain ⟨pb8,fb8,pl⟩:=ok.b8
 have okFew:=ok.few
 have okSum:=ok.sum
 refine f18F_ok ?_
 unfold f18F
 simp only [Int.toNat_natCast]
 refine Let_mk fun ha ea=>?_
 have row:Row ha h.size o.cells:=ea ▸ row_new h o.cells.toArray 35
 have ka:Kept N h ha:=ea ▸ kept_push _ _ _
 have ma:=m.keepN ka
 have enb:nb h=ad h.size:=rfl
 rw [enb]
 obtain ⟨⟨r0,r2,r3⟩,r4,r5,r6,r7⟩:=op_row row
 refine PtrOk_mk ⟨bnd2 hk,_,ma.cH hk,_,r0,Cond_t (by rw [h1]; rfl) ⟨o.pa,r6,?_⟩⟩
 refine lendAll_ok (ok.ls.keepN (B.k.trans ka)) okSum okFew fun hb pb M ls ws sa sf sw mk ln kb=>⟨_,rfl,PtrOk_mk ⟨⟨sa.a,o.parts.length,sa.c⟩,ln.cell 0,?_⟩⟩
 have mb:=ma.keepN kb
 have lnlt:∀ b,ha.size ≤ b→b < hb.size→¬ SF sb P d L b:=fun b h1 _ hf=>by have:=ma.foot_lt hf; omega
 have many:o.parts.length < 10000000:=by omega
 refine new_ok (mb.m k hk).st kk.sh (ln.srcs (P k).q pb8 pl) (by have:=ln.ll; omega) fun hc q' xc exc=>⟨_,_,rfl,?_⟩
 obtain ⟨mc,tc⟩:=mb.heap hk xc exc
 have lnc:LnA hc ha pb M o.parts ls ws sa sf sw mk:=ln.keep tc.1 lnlt
 obtain ⟨rowc,nfc⟩:=tc.row (kept_row kb row _root_.id) (fresh_sf m (Nat.le_refl _))
 obtain ⟨⟨_,_,_⟩,_,_,r6c,_⟩:=op_row rowc
 have Bc:=((B.keepN ka).keepN kb).step tc
 have eW:(updP P k ⟨q',((P k).s.newF o.parts).1,(P k).W⟩ k).W=(P k).W:=by rw [updP_self]
 have cW:=mc.cW hk
 rw [eW] at cW
 refine PtrOk_mk ⟨bnd2 hk,_,cW,o.pa,r6c,?_⟩
 have wkc:Wk hc (P k).W:=by have:=(mc.m k hk).wk; rw [eW] at this; exact this
 have bl:=wkc.bsl
 have fewk:=few k hk
 have lc:=ok.ls.keepN Bc.k
 -- behind both calls
 have fin:∀ (hd:Hp) (P':Nat→HM) (r:Nat) (e:Int),StM hd sb P' hh d L mark→TS hc (SF sb (updP P k ⟨q',((P k).s.newF o.parts).1,(P k).W⟩) d L) hd (SF sb P' d L) →
   (e ≠ 0→r=0∧∀ h',StM h' sb P' hh d L mark→TS h (SF sb P d L) h' (SF sb P' d L)→R (.bool true) h') →
   (e=0→∀ h',StM h' sb P' hh d L mark→TS h (SF sb P d L) h' (SF sb P' d L)→CallTo Tryz.prog 45 #[.pointer (some (ad sb)),.int .i64 (k:Nat),.int .i64 (i:Nat),uv r] h' fun v h2=>v=.bool true∧R (.bool true) h2) →
   CallTo Tryz.prog 17 #[.int .i64 e] hd fun r5 h5=>∃ t53:Int,r5=.int .i64 t53∧Cond (t53 != e) (f18K1 (some (ad sb)) (k:Nat) (i:Nat) (some (ad pb)) (r:Nat) e true h5 R) (CallTo Tryz.prog 43 #[.pointer (some (ad pb))] h5 fun r9 h9=>∃ t58:Bool,r9=.bool t58∧f18K1 (some (ad sb)) (k:Nat) (i:Nat) (some (ad pb)) (r:Nat) e (!t58) h9 R):=fun hd P' r e md td he h0=>by
  have tbd:=tc.trans td
  have lnd:LnA hd ha pb M o.parts ls ws sa sf sw mk:=ln.keep tbd.1 lnlt
  refine num_ok ⟨_,rfl,Cond_f (bne_self_eq_false _) (lintact_ok lnd pb8 pl many ⟨_,rfl,?_⟩)⟩
  unfold f18K1
  refine Cond_f rfl (lover_ok lnd pl many fun he' ke=>⟨rfl,?_⟩)
  have nM:∀ b,SF sb P' d L b→¬ M.own b:=fun b hf ho=>(tbd.2 b hf).elim (fun z=>lnlt b (lnd.own b ho) (ln.sep.own_lt ho) z) fun z=>by have:=ln.sep.own_lt ho; omega
  have me:=md.keep ke nM
  have te:TS h (SF sb P d L) he' (SF sb P' d L):=by
   have t1:TS h (SF sb P d L) hd (SF sb P' d L):=((TS.keepN ka).trans (TS.keepN kb)).trans tbd
   refine ⟨⟨Nat.le_trans t1.1.1 ke.1,fun j hj hn=>(ke.2 j (Nat.lt_of_lt_of_le hj t1.1.1) fun ho=>?_).trans (t1.1.2 j hj hn)⟩,t1.2⟩
   have:=lnd.own j ho
   have:=ka.1
   omega
  by_cases h00:e=0
  ·have e1:(e != (0:Int))=false:=by rw [h00]; rfl
   have e2:(e == (0:Int))=true:=by rw [h00]; rfl
   rw [e1,e2]
   exact Cond_f rfl (Cond_t rfl ((h0 h00 he' me te).mono fun v' h' ⟨z1,z2⟩=>⟨true,z1,z2⟩))
  ·have e1:(e != (0:Int))=true:=by rw [bne_iff_ne]; exact h00
   rw [e1]
   obtain ⟨rz,z⟩:=he h00
   subst rz
   exact Cond_t rfl (Cond_t rfl (z he' me te))
 have lim1:∀ {y:HM},y.W.lim=(P k).W.lim→∀ i,(updP P k y i).W.lim=(P i).W.lim:=fun {y} z i=>by
  by_cases e:i=k
  ·subst e; rw [updP_self]; exact z
  ·rw [updP_ne _ _ e]
 have grw1:∀ {y:HM} {n:Nat},y.s.roots.length ≤ (P k).s.roots.length + n→y.W.bs.length ≤ (P k).W.bs.length + n→Grw P d L (updP P k y) d L n:=fun {y n} z1 z2=>⟨fun i hi=>by
   by_cases e:i=k
   ·subst e; rw [updP_self]; exact z1
   ·rw [updP_ne _ _ e]; omega,fun i hi=>by
   by_cases e:i=k
   ·subst e; rw [updP_self]; exact z2
   ·rw [updP_ne _ _ e]; omega,by omega⟩
 have stg1:∀ {h':Hp} {y:HM},StM h' sb (updP P k y) hh d L mark→y.W=(P k).W→KS y.s (nds k) (hh k) (P k).W.lim (P k).W.bs (P k).W.slots (idss k)→Stg h' sb (updP P k y) hh nds idss d L mark:=fun {h' y} z1 z2 z3=>⟨z1,fun i hi=>by
   by_cases e:i=k
   ·subst e; rw [updP_self,z2]; exact z3
   ·rw [updP_ne _ _ e]; exact ks i hi,nz⟩
 by_cases hbig:o.parts.flatten.length > 4096
 ·have en:(P k).s.newF o.parts=((P k).s,0,41):=by unfold RS.newF; rw [if_pos hbig]
  rw [en] at mc tc fin ⊢
  refine wnew_ok wkc hi lc (by omega) okSum (by omega) (fun _ hd kd=>⟨_,rfl,?_⟩) (fun z=>absurd z (by omega)) fun z=>absurd z (by omega)
  refine fin hd _ 0 41 (mc.keepN kd) (TS.keepN kd) (fun _=>⟨rfl,fun h' me te=>hR h' _ hh nds idss d L (stg1 me rfl kk) (lim1 rfl) ((grw1 (n:=0) (by show (P k).s.roots.length ≤ _; omega) (by show (P k).W.bs.length ≤ _; omega)).mono (by omega)) te⟩) fun z=>absurd z (by decide)
 ·have en:(P k).s.newF o.parts=(P k).s.layF o.parts.flatten:=by unfold RS.newF; rw [if_neg hbig]
  have okb:Okb o.parts.flatten:=⟨fb8,by omega⟩
  rcases lay_room v kk.sh okb kk.live kk.lm with ⟨hf,t,e,st,vt,lt⟩ | ⟨hf,s',t,e,st,v',sh',er,hhr,lt⟩
  ·rw [en,e] at mc tc fin ⊢
   refine wnew_ok wkc hi lc (by omega) okSum (by omega) (fun z=>absurd z (by omega)) (fun _ _ hd kd=>⟨_,rfl,?_⟩) fun _ z=>by rw [WD.full_eq,hf] at z; cases z
   have rt:t.roots=(P k).s.roots:=st.roots
   refine fin hd _ 0 31 (mc.keepN kd) (TS.keepN kd) (fun _=>⟨rfl,fun h' me te=>hR h' _ hh nds idss d L (stg1 me rfl (kk.sub st vt lt)) (lim1 rfl) ((grw1 (n:=0) (by show t.roots.length ≤ _; rw [rt]; omega) (by show (P k).W.bs.length ≤ _; omega)).mono (by omega)) te⟩) fun z=>absurd z (by decide)
  ·rw [en,e] at mc tc fin ⊢
   refine wnew_ok wkc hi lc (by omega) okSum (by omega) (fun z=>absurd z (by omega)) (fun _ z=>by rw [WD.full_eq,hf] at z; cases z) fun _ _ hd W' wd w1 w2 w3 w4 w5=>⟨_,rfl,?_⟩
   obtain ⟨md,td⟩:=mc.doc hk wd (by rw [updP_self]; exact w1) (by rw [updP_self]; exact w5)
   have eP:updP (updP P k ⟨q',s',(P k).W⟩) k ⟨(updP P k ⟨q',s',(P k).W⟩ k).q,(updP P k ⟨q',s',(P k).W⟩ k).s,W'⟩=updP P k ⟨q',s',W'⟩:=by
    funext j
    by_cases ej:j=k
    ·subst ej; rw [updP_self,updP_self,updP_self]
    ·rw [updP_ne _ _ ej,updP_ne _ _ ej,updP_ne _ _ ej]
   rw [eP] at md td
   have kn:=kk.new v' sh' er lt (nz k hk) okb
   have hbl:(idss k ++ [(nds k).length])[(P k).W.bs.length]?=some (nds k).length:=by rw [List.getElem?_append_right (by rw [kk.il]; omega),kk.il,Nat.sub_self]; rfl
   have lim':∀ i,(updP P k ⟨q',s',W'⟩ i).W.lim=(P i).W.lim:=lim1 w2
   have g1:Grw P d L (updP P k ⟨q',s',W'⟩) d L 1:=grw1 (by show s'.roots.length ≤ _; rw [er]; omega) (by show W'.bs.length ≤ _; rw [w3,List.length_append]; simp)
   refine fin hd _ _ 0 md td (fun z=>absurd rfl z) fun _ h' me te=>?_
   have hold:=shold_ok (R:=fun v h2=>v=.bool true∧R (.bool true) h2) (nds:=updD nds k (nds k ++ [blobN o.parts.flatten])) (idss:=updL idss k (idss k ++ [(nds k).length])) (slots0:=(P k).W.slots) (m:=(P k).W.bs.length) (id:=(nds k).length) (b:=o.parts.flatten) me hk hi (fun j hj hne=>by
     rw [updP_ne _ _ hne,updD_ne _ _ hne,updL_ne _ _ hne]; exact ks j hj) (fun j hj=>by
     by_cases ej:j=k
     ·subst ej; rw [updD_self,List.length_append]; simp
     ·rw [updD_ne _ _ ej]; exact nz j hj) (by
     rw [updP_self,updD_self,updL_self]
     show KS s' _ _ W'.lim W'.bs _ _
     rw [w2,w3]
     exact kn) (by rw [updP_self]; exact w4) (by rw [updL_self]; exact hbl) (by rw [updP_self]; show W'.bs[_]?=_; rw [w3,List.getElem?_append_right (Nat.le_refl _),Nat.sub_self]; rfl) (by rw [updD_self,List.getElem?_append_right (Nat.le_refl _),Nat.sub_self]; rfl) (by rw [updP_self]; exact hhr) (by rw [updP_self]; show s'.roots.length < _; rw [er]; have:=rl k hk; omega)
    fun h2 P2 hh2 x2 e2 r2 t2=>⟨rfl,hR h2 P2 hh2 _ _ d L x2 (fun i=>by rw [e2 i]; exact lim' i) ((g1.trans ⟨r2,fun i hi=>by rw [e2 i]; omega,by omega⟩:Grw P d L P2 d L (1 + 1)).mono (by omega)) (te.trans t2)⟩
   rw [updP_self] at hold
   exact hold
end
end Go.Ev
set_option linter.all false
set_option maxRecDepth 1000000
namespace Go.Ev
open Go.Proofs
section
variable {s s' t:RS} {nd nd':List NodeD} {ids slots hd:List Nat} {bs:List (List Nat)} {lim:Nat} {b:List Nat}
theorem Sub.withRoots (st:RS.Sub t s) (l:List (Option Nat)):RS.Sub (t.withRoots l) (s.withRoots l):=by
 obtain ⟨a1,a2,a3⟩:=st
 exact ⟨a1,rfl,a3⟩
theorem KS.roots2 (k:KS s nd hd lim bs slots ids) {R2:List (Option Nat)} (v2:(s.withRoots R2).Inv) (e:∀ n y:Nat,s.roots[n]?=some (some y) ↔ R2[n]?=some (some y)):KS (s.withRoots R2) nd hd lim bs slots ids:=by
 refine ⟨v2,k.sh.roots _,k.lm,k.h8,k.s8,k.il,k.idn,k.idl,k.zr,fun i n m hn hm=>?_,fun q x hq=>k.only q x ((e q x).2 hq),k.dis,k.ok⟩
 obtain ⟨x,c,h1,h2⟩:=k.at_ i n m hn hm
 have h3:=RS.hand_nat2.1 h1
 exact ⟨x,c,RS.hand_nat2.2 ⟨h3.1,(e _ _).1 h3.2⟩,h2⟩
/-- The old blob is held for a while, once more. -/
structure Temp (s:RS) (x:Nat) (R1 R2:List (Option Nat)) (q:Nat):Prop where
 root:s.rootF (s.ref x)=(s.withRoots R1,q + 1,0)
 v1:(s.withRoots R1).Inv
 v2:(s.withRoots R2).Inv
 mem:∀ y,some y ∈ R1 ↔ some y ∈ s.roots ∨ y=x
 e:∀ n y:Nat,s.roots[n]?=some (some y) ↔ R2[n]?=some (some y)
 drop:∀ t:RS,t.roots=R1→t.dropF ((q + 1:Nat):Int)=(t.withRoots R2,0)
 l2:R2.length ≤ s.roots.length + 1
theorem temp_root (v:s.Inv) {x:Nat} (hh:s.here x) (rl:s.roots.length < 99999999):∃ R1 R2 q,Temp s x R1 R2 q:=by
 have er:=rootF_good v (id:=x) (.inr hh)
 generalize hk:RS.freeAt s.roots=q at er
 have hkl:q ≤ s.roots.length:=by rw [← hk]; exact RS.freeAt_le _
 generalize hR1:(if q < s.roots.length then s.roots.set q (some x) else s.roots ++ [some x])=R1 at er
 have qn:∀ y:Nat,s.roots[q]? ≠ some (some y):=fun y h=>by
  by_cases hlt':q < s.roots.length
  ·have:=RS.freeAt_none2 s.roots (by rw [hk]; exact hlt')
   rw [hk,h] at this; cases this
  ·rw [List.getElem?_eq_none (by omega)] at h; cases h
 have r1:∀ n:Nat,n ≠ q→∀ y:Nat,R1[n]?=some (some y) ↔ s.roots[n]?=some (some y):=fun n hn y=>by
  rw [← hR1]
  split
  ·rw [List.getElem?_set_ne (Ne.symm hn)]
  ·by_cases hlt:n < s.roots.length
   ·rw [List.getElem?_append_left hlt]
   ·rw [List.getElem?_eq_none (l:=s.roots) (by omega),List.getElem?_eq_none (by simp; omega)]
 have rk:R1[q]?=some (some x):=by
  rw [← hR1]
  split
  ·rename_i hl; rw [List.getElem?_set_self hl]
  ·rename_i hl; rw [List.getElem?_append_right (by omega),show q - s.roots.length=0 by omega]; rfl
 have ql:=(List.getElem?_eq_some_iff.1 rk).1
 have rlen:R1.length ≤ s.roots.length + 1:=by
  rw [← hR1]
  split
  ·rw [List.length_set]; omega
  ·simp
 have v1:(s.withRoots R1).Inv:=by have:=v.root (r:=s.ref x) (by omega); rw [er] at this; exact this
 have hq:∀ t:RS,t.roots=R1→t.dropF ((q + 1:Nat):Int)=(t.withRoots (R1.set q none),0):=fun t et=>by
  have hh:t.hand ((q + 1:Nat):Int)=some x:=RS.hand_nat2.2 ⟨by omega,by rw [et]; exact rk⟩
  unfold RS.dropF
  rw [hh]
  have e1:(((q + 1:Nat):Int) - 1).toNat=q:=by omega
  simp only [e1,et]
 have v2:(s.withRoots (R1.set q none)).Inv:=by
  have:=v1.drop ((q + 1:Nat):Int)
  rw [hq _ rfl] at this
  exact this
 refine ⟨R1,R1.set q none,q,er,v1,v2,fun y=>⟨fun hy=>?_,fun hy=>?_⟩,fun n y=>?_,hq,by rw [List.length_set]; exact rlen⟩
 ·obtain ⟨n,hn⟩:=List.mem_iff_getElem?.1 hy
  by_cases e:n=q
  ·subst e; rw [rk] at hn; exact .inr (Option.some.inj (Option.some.inj hn)).symm
  ·exact .inl (List.mem_of_getElem? ((r1 n e y).1 hn))
 ·rcases hy with hy | rfl
  ·obtain ⟨n,hn⟩:=List.mem_iff_getElem?.1 hy
   have e:n ≠ q:=fun z=>qn y (z ▸ hn)
   exact List.mem_of_getElem? ((r1 n e y).2 hn)
  ·exact List.mem_of_getElem? rk
 ·by_cases e:n=q
  ·subst e
   rw [List.getElem?_set_self ql]
   exact ⟨fun z=>absurd z (qn y),fun z=>by cases z⟩
  ·rw [List.getElem?_set_ne (Ne.symm e)]
   exact (r1 n e y).symm
theorem Temp.live {x:Nat} {R1 R2:List (Option Nat)} {q:Nat} (tp:Temp s x R1 R2 q) (k:LiveK s ids slots bs) {m:Nat} (hx:ids[m]?=some x) (hh:heldW slots m=true):LiveK (s.withRoots R1) ids slots bs:=by
 refine ⟨k.il,k.nd,fun y=>?_,k.here⟩
 rw [← k.held y,heldL_mem,heldL_mem]
 show some y ∈ R1 ↔ _
 rw [tp.mem y]
 exact ⟨fun z=>z.elim _root_.id fun e=>by subst e; exact heldL_mem.1 ((k.held y).2 ⟨m,hx,hh⟩),.inl⟩
/-- What such a Write does. -/
theorem KS.moved (k:KS s nd hd lim bs slots ids) {m x:Nat} {b':List Nat} (hx:ids[m]?=some x) (hm:heldW slots m=true) (hh:s.here x) (ok':Okb b') (rl:s.roots.length < 99999999) (nz:nd.length ≠ 0) :
  (fullK lim slots bs (sizeB b'.length)=true∧∃ f,((((s.rootF (s.ref x)).1.layF b').1.dropF ((s.rootF (s.ref x)).2.1:Nat)).1,((s.rootF (s.ref x)).1.layF b').2.1,((s.rootF (s.ref x)).1.layF b').2.2)=(f,0,31)∧KS f nd hd lim bs slots ids∧f.roots.length ≤ s.roots.length + 1) ∨
  (fullK lim slots bs (sizeB b'.length)=false∧∃ f,((((s.rootF (s.ref x)).1.layF b').1.dropF ((s.rootF (s.ref x)).2.1:Nat)).1,((s.rootF (s.ref x)).1.layF b').2.1,((s.rootF (s.ref x)).1.layF b').2.2)=(f,f.ref nd.length,0)∧KS f (nd ++ [blobN b']) hd lim (bs ++ [b']) slots (ids ++ [nd.length])∧f.here nd.length∧f.roots.length ≤ s.roots.length + 1):=by
 obtain ⟨R1,R2,q,tp⟩:=temp_root k.v hh rl
 have k2:=k.roots2 tp.v2 tp.e
 rw [tp.root]
 rcases lay_room tp.v1 (k.sh.roots R1) ok' (tp.live k.live hx hm) (lim:=lim) k.lm with ⟨hf,t,e,st,vt,lt⟩ | ⟨hf,s1,t,e,st,v1,sh1,er,hhr,lt⟩
 ·left
  have rt:t.roots=R1:=st.roots
  refine ⟨hf,t.withRoots R2,?_,?_,tp.l2⟩
  ·show ((((s.withRoots R1).layF b').1.dropF ((q + 1:Nat):Int)).1,((s.withRoots R1).layF b').2.1,((s.withRoots R1).layF b').2.2)=_
   rw [e,tp.drop t rt]
  ·have vd:(t.withRoots R2).Inv:=by have:=vt.drop ((q + 1:Nat):Int); rw [tp.drop t rt] at this; exact this
   exact k2.sub (Sub.withRoots st R2) vd lt
 ·right
  have rt:s1.roots=R1:=er
  refine ⟨hf,s1.withRoots R2,?_,?_,hhr,tp.l2⟩
  ·show ((((s.withRoots R1).layF b').1.dropF ((q + 1:Nat):Int)).1,((s.withRoots R1).layF b').2.1,((s.withRoots R1).layF b').2.2)=_
   rw [e,tp.drop s1 rt]
   rfl
  ·have vd:(s1.withRoots R2).Inv:=by have:=v1.drop ((q + 1:Nat):Int); rw [tp.drop s1 rt] at this; exact this
   exact k2.new vd (sh1.roots R2) rfl lt nz ok'
end
end Go.Ev
set_option linter.all false
set_option maxRecDepth 1000000
namespace Go.Ev
open Go.Proofs
section
variable {hB h h' h2:Hp} {sb:Nat} {P P':Nat→HM} {hh hh':Nat→List Nat} {nds nds':Nat→List NodeD} {idss idss':Nat→List Nat} {d d':BkD} {L L':LtD} {mark:Bool} {F F' F2:Nat→Prop} {R:Value→Hp→Prop} {o:Opn}
theorem one_mem {c:Nat} {cs:List Value} (row:Row h c cs):∃ M:Mem,M.loc 0=some c∧M.cont 0=cs∧Sep h M∧∀ d,M.own d→d=c:=by
 have key:∀ y d,(if y=0 then some c else none:Option Nat)=some d→y=0∧d=c:=fun y d hy=>by
  split at hy
  ·rename_i e; exact ⟨e,(Option.some.inj hy).symm⟩
  ·cases hy
 exact ⟨⟨fun y=>if y=0 then some c else none,fun _=>cs⟩,rfl,rfl,⟨fun y d hy=>by rw [(key y d hy).2]; exact row,fun y z d hy hz=>by rw [(key y d hy).1,(key z d hz).1]⟩,fun d ⟨y,hy⟩=>(key y d hy).2⟩
theorem updP_updP (P:Nat→HM) (k:Nat) (x y:HM):updP (updP P k x) k y=updP P k y:=by
 funext j
 by_cases e:j=k
 ·subst e; rw [updP_self,updP_self]
 ·rw [updP_ne _ _ e,updP_ne _ _ e,updP_ne _ _ e]
theorem ref_ne {s:RS} (v:s.Inv) {a b:Nat} (ha:s.here a) (hb:s.here b) (h:a ≠ b):s.ref a ≠ s.ref b:=fun e=>h (by
 rw [← RS.ident_ref v (.inr ha),e,RS.ident_ref v (.inr hb)])
/-- changes, of Write. -/
theorem s_write (x:Stg h sb P hh nds idss d L mark) (B:Base hB h (SF sb P d L)) (ok:OpnOk hB o) {k i:Nat} (hk:k < 2) (hi:i < 8) (h1:o.k ≠ 1) (rl:∀ i,i < 2→(P i).s.roots.length < 99999900) (few:∀ i,i < 2→(P i).W.bs.length < 99990) (hR:Goes h sb P d L mark 2 (.bool true) R) :
  CallTo Tryz.prog 18 #[.pointer (some (ad sb)),.agg #[.int .i64 o.k,.int .i64 o.w,.int .i64 o.slot,.int .i64 o.to_,.int .i64 o.at_,.int .i64 o.n,.slice o.pa.a o.pa.n o.pa.c,.slice o.ta.a o.ta.n o.ta.c],.int .i64 (k:Nat),.int .i64 (i:Nat)] h R:=by
 have x0:=x
 obtain ⟨m,ks,nz⟩:=x
 have kk:=ks k hk
 have v:=kk.v
 have otl:=ok.tl
 obtain ⟨n,mm,hn,hm,hz⟩:=x0.slot hk hi
 refine f18F_ok ?_
 unfold f18F
 simp only [Int.toNat_natCast]
 refine Let_mk fun ha ea=>?_
 have row:Row ha h.size o.cells:=ea ▸ row_new h o.cells.toArray 35
 have ka:Kept N h ha:=ea ▸ kept_push _ _ _
 have ma:=m.keepN ka
 have enb:nb h=ad h.size:=rfl
 rw [enb]
 obtain ⟨⟨r0,r2,r3⟩,r4,r5,r6,r7⟩:=op_row row
 have hk1:(o.k == (1:Int))=false:=by rw [beq_eq_false_iff_ne]; exact h1
 refine PtrOk_mk ⟨bnd2 hk,_,ma.cH hk,_,r0,Cond_f hk1 ?_⟩
 refine sref_ok ma hk hn ⟨_,rfl,o.ta,r7,?_⟩
 refine lend_ok (reads_keptN (B.k.trans ka) ok.rd) ok.tn ok.t8 ok.tl fun cb cap hl le hcb kl=>⟨⟨some (ad cb),o.t.length,cap⟩,rfl,?_⟩
 have ml:=ma.keepN kl
 have rowl:=kept_row kl row _root_.id
 obtain ⟨⟨_,_,r3l⟩,r4l,_,_,r7l⟩:=op_row rowl
 have nfl:¬ SF sb P d L h.size:=fresh_sf m (Nat.le_refl _)
 have nfc:¬ SF sb P d L cb:=fresh_sf ma hcb
 have hcbl:=le.lt
 have Bl:=(B.keepN ka).keepN kl
 obtain ⟨jj,hjj⟩:∃ jj:Nat,o.to_ % ((8:Nat):Int)=(jj:Int):=⟨(o.to_ % ((8:Nat):Int)).toNat,by omega⟩
 have hj8:jj < 8:=by omega
 refine ⟨_,r3l,into_ok (n:=8) (by omega) (by omega) ok.ito ⟨_,rfl,_,r4l,?_⟩⟩
 rw [hjj]
 have lim1:∀ {y:HM},y.W.lim=(P k).W.lim→∀ i,(updP P k y i).W.lim=(P i).W.lim:=fun {y} z i=>by
  by_cases e:i=k
  ·subst e; rw [updP_self]; exact z
  ·rw [updP_ne _ _ e]
 have grw1:∀ {y:HM} {n:Nat},y.s.roots.length ≤ (P k).s.roots.length + n→y.W.bs.length ≤ (P k).W.bs.length + n→Grw P d L (updP P k y) d L n:=fun {y n} z1 z2=>⟨fun i hi=>by
   by_cases e:i=k
   ·subst e; rw [updP_self]; exact z1
   ·rw [updP_ne _ _ e]; omega,fun i hi=>by
   by_cases e:i=k
   ·subst e; rw [updP_self]; exact z2
   ·rw [updP_ne _ _ e]; omega,by omega⟩
 have stg1:∀ {h':Hp} {y:HM},StM h' sb (updP P k y) hh d L mark→y.W=(P k).W→KS y.s (nds k) (hh k) (P k).W.lim (P k).W.bs (P k).W.slots (idss k)→Stg h' sb (updP P k y) hh nds idss d L mark:=fun {h' y} z1 z2 z3=>⟨z1,fun i hi=>by
   by_cases e:i=k
   ·subst e; rw [updP_self,z2]; exact z3
   ·rw [updP_ne _ _ e]; exact ks i hi,nz⟩
 -- behind both Writes
 have fin:∀ (hd:Hp) (P':Nat→HM) (r:Nat) (e:Int) (mv:Bool),StM hd sb P' hh d L mark→TS hl (SF sb P d L) hd (SF sb P' d L) →
   (e ≠ 0→r=0∧∀ h',StM h' sb P' hh d L mark→TS h (SF sb P d L) h' (SF sb P' d L)→R (.bool true) h') →
   (e=0→mv=!((((r:Nat):Int)) == (((if n=0 then 0 else ((P' k).s.atF (n:Nat)).1:Nat):Int)))∧∀ h',StM h' sb P' hh d L mark→TS h (SF sb P d L) h' (SF sb P' d L)→CallTo Tryz.prog 45 #[.pointer (some (ad sb)),.int .i64 (k:Nat),.int .i64 (jj:Nat),uv r] h' fun v h2=>v=.bool true∧R (.bool true) h2) →
   CallTo Tryz.prog 17 #[.int .i64 e] hd fun r15 h15=>∃ t116:Int,r15=.int .i64 t116∧Cond (t116 != e) (f18K2 (some (ad sb)) (k:Nat) (i:Nat) ⟨some (ad cb),o.t.length,cap⟩ (jj:Nat) (r:Nat) mv e true h15 R) (∃ t122:Sl,cell h15 ((ad h.size).add 7)=some (.slice t122.a t122.n t122.c)∧CallTo Tryz.prog 49 #[.slice (some (ad cb)) o.t.length cap,.slice t122.a t122.n t122.c] h15 fun r19 h19=>∃ t123:Bool,r19=.bool t123∧f18K2 (some (ad sb)) (k:Nat) (i:Nat) ⟨some (ad cb),o.t.length,cap⟩ (jj:Nat) (r:Nat) mv e (!t123) h19 R):=fun hd P' r e mv md td he h0=>by
  have led:LendAt hd cb cap o.t:=le.keep td.1 nfc
  obtain ⟨rowd,_⟩:=td.row rowl nfl
  obtain ⟨_,_,_,_,r7d⟩:=op_row rowd
  have Bd:=Bl.step td
  refine num_ok ⟨_,rfl,Cond_f (bne_self_eq_false _) ⟨o.ta,r7d,intact_ok led ok.t8 otl (reads_keptN Bd.k ok.rd) ok.tn ⟨_,rfl,?_⟩⟩⟩
  unfold f18K2
  obtain ⟨junk,rowL,ecap⟩:=led.row
  obtain ⟨M,lM,cM,sM,oM⟩:=one_mem rowL
  refine Cond_f rfl (over_ok sM lM (n:=o.t.length) (cap:=cap) (by rw [cM,List.length_append,List.length_append,List.length_map]; omega) otl fun he' cs' sM' _ _ chM=>⟨rfl,?_⟩)
  have ke:Kept (fun b=>b=cb) hd he':=chM.1.mono fun b _ hb=>oM b hb
  have nfd:¬ SF sb P' d L cb:=fun hf=>(td.2 cb hf).elim nfc fun z=>by omega
  have me:=md.keep ke fun b hf e=>nfd (e ▸ hf)
  have te:TS h (SF sb P d L) he' (SF sb P' d L):=by
   have t1:TS h (SF sb P d L) hd (SF sb P' d L):=((TS.keepN ka).trans (TS.keepN kl)).trans td
   have hz:=ka.1
   exact ⟨⟨Nat.le_trans t1.1.1 ke.1,fun j hj hn=>(ke.2 j (Nat.lt_of_lt_of_le hj t1.1.1) fun (z:j=cb)=>by omega).trans (t1.1.2 j hj hn)⟩,t1.2⟩
  by_cases h00:e=0
  ·have e1:(e != (0:Int))=false:=by rw [h00]; rfl
   rw [e1]
   obtain ⟨hmv,hold⟩:=h0 h00
   refine Cond_f rfl (sref_ok me hk hn ⟨_,rfl,Cond_f ?_ ((hold he' me te).mono fun v' h' ⟨z1,z2⟩=>⟨true,z1,z2⟩)⟩)
   rw [hmv]
   show ((!((((r:Nat):Int)) == (((if n=0 then 0 else ((P' k).s.atF (n:Nat)).1:Nat):Int)))) == ((((r:Nat):Int)) == (((if n=0 then 0 else ((P' k).s.atF (n:Nat)).1:Nat):Int))))=false
   cases ((((r:Nat):Int)) == (((if n=0 then 0 else ((P' k).s.atF (n:Nat)).1:Nat):Int))) <;> rfl
  ·have e1:(e != (0:Int))=true:=by rw [bne_iff_ne]; exact h00
   rw [e1]
   obtain ⟨rz,z⟩:=he h00
   subst rz
   exact Cond_t rfl (z he' me te)
 by_cases hn0:n=0
 ·-- nothing is held there
  have hm0:=hz.1 hn0
  rw [if_pos hn0]
  refine nwrite_ok (a:=⟨some (ad cb),o.t.length,cap⟩) (ml.m k hk).st (by omega) (noBlob_zero _) ⟨0,40,rfl,PtrOk_mk ⟨bnd2 hk,_,ml.cW hk,_,r4l,o.ta,r7l,?_⟩⟩
  refine wwrite_ok (ml.m k hk).wk hm hj8 ok.iat (reads_keptN Bl.k ok.rd) ok.tn ok.t8 (by omega) (by have:=(ml.m k hk).wk.bsl; have:=few k hk; omega) (fun _=>⟨false,40,rfl,?_⟩) (fun z=>absurd hm0 z) (fun z=>absurd hm0 z) fun m' e pn z=>absurd (hm0.symm.trans z) (by omega)
  refine fin hl P 0 40 false ml (TS.refl _ _) (fun _=>⟨rfl,fun h' me te=>hR h' P hh nds idss d L ⟨me,ks,nz⟩ (fun _=>rfl) ((Grw.refl P d L).mono (by omega)) te⟩) fun z=>absurd z (by decide)
 ·-- a blob is held there
  obtain ⟨m1,rfl⟩:∃ q,mm=q + 1:=⟨mm - 1,by omega⟩
  obtain ⟨id,b,g1,g2,g3,g4,g5,IB,okb,g6,_⟩:=kk.here hn hm
  have hheld:heldW (P k).W.slots m1=true:=decide_eq_true (List.mem_of_getElem? hm)
  rw [if_neg hn0,g6]
  have hl4:=okb.len
  have bl:=(ml.m k hk).wk.bsl
  have fewk:=few k hk
  have rlk:=rl k hk
  have srcL:Src hl (P k).q ⟨some (ad cb),o.t.length,cap⟩ o.t:=⟨le.reads,rfl,ok.t8,fun p hp _=>by
   obtain rfl:=Option.some.inj hp
   exact ⟨Classical.byContradiction fun z=>nfc (.of_k hk (.inl z)),hcbl⟩⟩
  refine write_ok (ml.m k hk).st kk.sh IB okb ok.iat srcL (by omega) (by omega) fun hc q' xc exc=>⟨_,_,rfl,?_⟩
  generalize hWf:(P k).s.writeF id b o.at_ o.t=Wf at xc
  obtain ⟨s',r,e⟩:=Wf
  obtain ⟨mc,tc⟩:=ml.heap hk xc exc
  obtain ⟨rowc,nfc'⟩:=tc.row rowl nfl
  obtain ⟨⟨_,_,_⟩,r4c,_,_,r7c⟩:=op_row rowc
  have Bc:=Bl.step tc
  have eW:(updP P k ⟨q',s',(P k).W⟩ k).W=(P k).W:=by rw [updP_self]
  have cW:=mc.cW hk
  rw [eW] at cW
  have wkc:Wk hc (P k).W:=by have:=(mc.m k hk).wk; rw [eW] at this; exact this
  refine PtrOk_mk ⟨bnd2 hk,_,cW,_,r4c,o.ta,r7c,?_⟩
  have same:s'=(P k).s→Stg hc sb (updP P k ⟨q',s',(P k).W⟩) hh nds idss d L mark:=fun z=>stg1 mc rfl (by rw [z]; exact kk)
  have bad:∀ c:Int,c ≠ 0→r=0→e=c→∀ {hd:Hp},Kept N hc hd→KS s' (nds k) (hh k) (P k).W.lim (P k).W.bs (P k).W.slots (idss k)→s'.roots.length ≤ (P k).s.roots.length + 1 →
    CallTo Tryz.prog 17 #[.int .i64 c] hd fun r15 h15=>∃ t116:Int,r15=.int .i64 t116∧Cond (t116 != c) (f18K2 (some (ad sb)) (k:Nat) (i:Nat) ⟨some (ad cb),o.t.length,cap⟩ (jj:Nat) ((0:Nat):Int) false c true h15 R) (∃ t122:Sl,cell h15 ((ad h.size).add 7)=some (.slice t122.a t122.n t122.c)∧CallTo Tryz.prog 49 #[.slice (some (ad cb)) o.t.length cap,.slice t122.a t122.n t122.c] h15 fun r19 h19=>∃ t123:Bool,r19=.bool t123∧f18K2 (some (ad sb)) (k:Nat) (i:Nat) ⟨some (ad cb),o.t.length,cap⟩ (jj:Nat) ((0:Nat):Int) false c (!t123) h19 R):=fun c hc0 hr he {hd} kd kS hrl =>
   fin hd _ 0 c false (mc.keepN kd) (tc.trans (TS.keepN kd)) (fun _=>⟨rfl,fun h' me te=>hR h' _ hh nds idss d L (stg1 me rfl kS) (lim1 rfl) ((grw1 (n:=1) hrl (by show (P k).W.bs.length ≤ _; omega)).mono (by omega)) te⟩) fun z=>absurd z hc0
  refine wwrite_ok wkc hm hj8 ok.iat (reads_keptN Bc.k ok.rd) ok.tn ok.t8 (by omega) (by omega) (fun z=>absurd z (by omega)) (fun _ hb=>⟨false,42,rfl,?_⟩) (fun _ hb hp hs=>⟨false,41,rfl,?_⟩) fun m' e' pn hme he' hpn hb hsum okS=>?_
  ·have:(P k).s.writeF id b o.at_ o.t=((P k).s,0,42):=by unfold RS.writeF; rw [if_pos hb]
   rw [this] at hWf
   obtain ⟨rfl,rfl,rfl⟩:(P k).s=s'∧(0:Nat)=r∧(42:Int)=e:=by injection hWf with q1 q2; injection q2 with q2 q3; exact ⟨q1,q2,q3⟩
   exact bad 42 (by decide) rfl rfl (Kept.refl _ _) kk (by omega)
  ·have:(P k).s.writeF id b o.at_ o.t=((P k).s,0,41):=by unfold RS.writeF; rw [if_neg hb,if_neg (by omega),if_pos (by omega)]
   rw [this] at hWf
   obtain ⟨rfl,rfl,rfl⟩:(P k).s=s'∧(0:Nat)=r∧(41:Int)=e:=by injection hWf with q1 q2; injection q2 with q2 q3; exact ⟨q1,q2,q3⟩
   exact bad 41 (by decide) rfl rfl (Kept.refl _ _) kk (by omega)
  ·obtain rfl:m1=m':=by omega
   have eb:e'.2=b:=by
    have:(P k).W.bs[m1]?=some e'.2:=by unfold WD.bs; rw [List.getElem?_map,he']; rfl
    rw [g3] at this
    exact (Option.some.inj this).symm
   rw [eb] at okS ⊢
   -- what the heap did
   have keep:o.t.length=0→(P k).s.writeF id b o.at_ o.t=((P k).s,(P k).s.ref id,0):=fun z=>by unfold RS.writeF; rw [if_neg hb,if_pos z]
   have inp:o.t.length ≠ 0→wordsN (splice b pn o.t).length=wordsN b.length→(P k).s.writeF id b o.at_ o.t=((P k).s.inPl id (blobRaws (splice b pn o.t)),(P k).s.ref id,0):=fun z1 z2=>by
    unfold RS.writeF
    rw [if_neg hb,if_neg z1,if_neg (by have:=hsum.resolve_left z1; omega),hpn,Int.toNat_natCast,if_pos (by rw [← splice_len]; exact z2)]
   have mov:o.t.length ≠ 0→wordsN (splice b pn o.t).length ≠ wordsN b.length→(P k).s.writeF id b o.at_ o.t=(((((P k).s.rootF ((P k).s.ref id)).1.layF (splice b pn o.t)).1.dropF (((P k).s.rootF ((P k).s.ref id)).2.1:Nat)).1,(((P k).s.rootF ((P k).s.ref id)).1.layF (splice b pn o.t)).2.1,(((P k).s.rootF ((P k).s.ref id)).1.layF (splice b pn o.t)).2.2):=fun z1 z2=>by
    unfold RS.writeF
    rw [if_neg hb,if_neg z1,if_neg (by have:=hsum.resolve_left z1; omega),hpn,Int.toNat_natCast,if_neg (by rw [← splice_len]; exact z2)]
   have szw:∀ {a c:Nat},sizeB a=sizeB c ↔ wordsN a=wordsN c:=fun {a c}=>by unfold sizeB; omega
   have bset:(P k).W.bs.set m1 b=(P k).W.bs:=by
    apply List.ext_getElem?
    intro q
    by_cases hq:q=m1
    ·subst hq; rw [List.getElem?_set_self (List.getElem?_eq_some_iff.1 g3).1,g3]
    ·rw [List.getElem?_set_ne (Ne.symm hq)]
   refine ⟨fun hs hd W' wd w1 w2 w3 w4 w5=>⟨false,0,rfl,?_⟩,fun hs hf hd kd=>⟨false,31,rfl,?_⟩,fun hs hf hd W' wd w1 w2 w3 w4 w5=>⟨true,0,rfl,?_⟩⟩
   ·-- in place
    have key:e=0∧r=(P k).s.ref id∧(∀ y,s'.ref y=(P k).s.ref y)∧s'.roots=(P k).s.roots∧∃ nd',KS s' nd' (hh k) (P k).W.lim W'.bs (P k).W.slots (idss k)∧nd'.length=(nds k).length∧∃ b',W'.bs[m1]?=some b'∧nd'[id]?=some (blobN b')∧s'.here id:=by
     by_cases ht:o.t.length=0
     ·rw [if_pos ht] at w3
      rw [keep ht] at hWf
      obtain ⟨rfl,rfl,rfl⟩:(P k).s=s'∧(P k).s.ref id=r∧(0:Int)=e:=by injection hWf with q1 q2; injection q2 with q2 q3; exact ⟨q1,q2,q3⟩
      rw [bset] at w3
      exact ⟨rfl,rfl,fun _=>rfl,rfl,nds k,by rw [w3]; exact kk,rfl,b,by rw [w3]; exact g3,g4,g5⟩
     ·rw [if_neg ht] at w3 hs okS
      have hw:=szw.1 hs
      rw [inp ht hw] at hWf
      obtain ⟨rfl,rfl,rfl⟩:(P k).s.inPl id (blobRaws (splice b pn o.t))=s'∧(P k).s.ref id=r∧(0:Int)=e:=by injection hWf with q1 q2; injection q2 with q2 q3; exact ⟨q1,q2,q3⟩
      have hlr:(blobRaws (splice b pn o.t)).length=((P k).s.obj id).raws.length:=by rw [okS.is.len,hw,RS.raws_len IB okb]
      have hml:=(List.getElem?_eq_some_iff.1 g3).1
      have hxl:=(List.getElem?_eq_some_iff.1 g4).1
      exact ⟨rfl,rfl,fun y=>RS.inPl_ref v g5 hlr y,rfl,(nds k).set id (blobN (splice b pn o.t)),by rw [w3]; exact kk.over g2 g3 g4 g5 okS hw,by rw [List.length_set],splice b pn o.t,by rw [w3,List.getElem?_set_self hml],by rw [List.getElem?_set_self hxl],g5⟩
    obtain ⟨rfl,rfl,hrefs,hroots,nd',kS,hndl,b',hb',hn',hh'⟩:=key
    obtain ⟨md,td⟩:=mc.doc hk wd (by rw [updP_self]; exact w1) (by rw [updP_self]; exact w5)
    have eP:updP (updP P k ⟨q',s',(P k).W⟩) k ⟨(updP P k ⟨q',s',(P k).W⟩ k).q,(updP P k ⟨q',s',(P k).W⟩ k).s,W'⟩=updP P k ⟨q',s',W'⟩:=by rw [updP_updP,updP_self]
    rw [eP] at md td
    have hat:((updP P k ⟨q',s',W'⟩ k).s.atF (n:Nat)).1=(P k).s.ref id:=by
     rw [updP_self]
     show (s'.atF (n:Nat)).1=_
     have:s'.hand (n:Nat)=some id:=by rw [RS.hand_nat2] at g1 ⊢; rw [hroots]; exact g1
     unfold RS.atF
     rw [this]
     exact hrefs id
    refine fin hd _ _ 0 false md (tc.trans td) (fun z=>absurd rfl z) fun _=>⟨?_,fun h' me te=>?_⟩
    ·rw [if_neg hn0,hat,beq_self_eq_true]; rfl
    ·have hold:=shold_ok (R:=fun v h2=>v=.bool true∧R (.bool true) h2) (nds:=updD nds k nd') (idss:=idss) (slots0:=(P k).W.slots) (m:=m1) (id:=id) (b:=b') me hk hj8 (fun j hj hne=>by
       rw [updP_ne _ _ hne,updD_ne _ _ hne]; exact ks j hj) (fun j hj=>by
       by_cases ej:j=k
       ·subst ej; rw [updD_self,hndl]; exact nz j hj
       ·rw [updD_ne _ _ ej]; exact nz j hj) (by
       rw [updP_self,updD_self]
       show KS s' _ _ W'.lim W'.bs _ _
       rw [w2]
       exact kS) (by rw [updP_self]; exact w4) g2 (by rw [updP_self]; exact hb') (by rw [updD_self]; exact hn') (by rw [updP_self]; exact hh') (by rw [updP_self]; show s'.roots.length < _; rw [hroots]; omega)
      fun h2 P2 hh2 x2 e2 r2 t2=>⟨rfl,hR h2 P2 hh2 _ _ d L x2 (fun i=>by rw [e2 i]; exact lim1 (y:=⟨q',s',W'⟩) w2 i) (((grw1 (y:=⟨q',s',W'⟩) (n:=1) (by show s'.roots.length ≤ _; rw [hroots]; omega) (by show W'.bs.length ≤ _; rw [w3,List.length_set]; omega)).trans ⟨r2,fun i hi=>by rw [e2 i]; omega,by omega⟩:Grw P d L P2 d L (1 + 1)).mono (by omega)) (te.trans t2)⟩
     rw [updP_self] at hold
     have er:(⟨q',s',W'⟩:HM).s.ref id=(P k).s.ref id:=hrefs id
     rw [er] at hold
     exact hold
   ·-- no room
    by_cases ht:o.t.length=0
    ·rw [if_pos ht] at hs; exact absurd rfl hs
    rw [if_neg ht] at hs hf okS
    have hw:wordsN (splice b pn o.t).length ≠ wordsN b.length:=fun z=>hs (szw.2 z)
    rw [mov ht hw] at hWf
    rcases kk.moved g2 hheld g5 okS (by omega) (nz k hk) with ⟨_,f,e1,kS,rlf⟩ | ⟨z,_⟩
    ·rw [e1] at hWf
     obtain ⟨rfl,rfl,rfl⟩:f=s'∧(0:Nat)=r∧(31:Int)=e:=by injection hWf with q1 q2; injection q2 with q2 q3; exact ⟨q1,q2,q3⟩
     exact bad 31 (by decide) rfl rfl kd kS rlf
    ·rw [WD.full_eq,z] at hf; cases hf
   ·-- a new one
    by_cases ht:o.t.length=0
    ·rw [if_pos ht] at hs; exact absurd rfl hs
    rw [if_neg ht] at hs hf okS w3
    have hw:wordsN (splice b pn o.t).length ≠ wordsN b.length:=fun z=>hs (szw.2 z)
    rw [mov ht hw] at hWf
    rcases kk.moved g2 hheld g5 okS (by omega) (nz k hk) with ⟨z,_⟩ | ⟨_,f,e1,kS,hhr,rlf⟩
    ·rw [WD.full_eq,z] at hf; cases hf
    rw [e1] at hWf
    obtain ⟨rfl,rfl,rfl⟩:f=s'∧f.ref (nds k).length=r∧(0:Int)=e:=by injection hWf with q1 q2; injection q2 with q2 q3; exact ⟨q1,q2,q3⟩
    obtain ⟨md,td⟩:=mc.doc hk wd (by rw [updP_self]; exact w1) (by rw [updP_self]; exact w5)
    have eP:updP (updP P k ⟨q',f,(P k).W⟩) k ⟨(updP P k ⟨q',f,(P k).W⟩ k).q,(updP P k ⟨q',f,(P k).W⟩ k).s,W'⟩=updP P k ⟨q',f,W'⟩:=by rw [updP_updP,updP_self]
    rw [eP] at md td
    obtain ⟨id2,b2,y1,y2,_,_,y5,_,_,y6,_⟩:=kS.here hn hm
    have hidne:id2 ≠ (nds k).length:=fun z=>by
     have h2:(idss k)[m1]?=some id2:=by
      rw [List.getElem?_append_left (List.getElem?_eq_some_iff.1 g2).1] at y2; exact y2
     have:=(kk.idl id2 (List.mem_of_getElem? h2)).2
     omega
    have hrne:=ref_ne kS.v hhr y5 (Ne.symm hidne)
    have hat:((updP P k ⟨q',f,W'⟩ k).s.atF (n:Nat)).1=f.ref id2:=by rw [updP_self]; show (f.atF (n:Nat)).1=_; rw [y6]
    have hbl:(idss k ++ [(nds k).length])[(P k).W.bs.length]?=some (nds k).length:=by rw [List.getElem?_append_right (by rw [kk.il]; omega),kk.il,Nat.sub_self]; rfl
    refine fin hd _ _ 0 true md (tc.trans td) (fun z=>absurd rfl z) fun _=>⟨?_,fun h' me te=>?_⟩
    ·rw [if_neg hn0,hat]
     have:(((f.ref (nds k).length:Nat):Int) == ((f.ref id2:Nat):Int))=false:=by rw [beq_eq_false_iff_ne]; omega
     rw [this]; rfl
    ·have hold:=shold_ok (R:=fun v h2=>v=.bool true∧R (.bool true) h2) (nds:=updD nds k (nds k ++ [blobN (splice b pn o.t)])) (idss:=updL idss k (idss k ++ [(nds k).length])) (slots0:=(P k).W.slots) (m:=(P k).W.bs.length) (id:=(nds k).length) (b:=splice b pn o.t) me hk hj8 (fun j hj hne=>by
       rw [updP_ne _ _ hne,updD_ne _ _ hne,updL_ne _ _ hne]; exact ks j hj) (fun j hj=>by
       by_cases ej:j=k
       ·subst ej; rw [updD_self,List.length_append]; simp
       ·rw [updD_ne _ _ ej]; exact nz j hj) (by
       rw [updP_self,updD_self,updL_self]
       show KS f _ _ W'.lim W'.bs _ _
       rw [w2,w3]
       exact kS) (by rw [updP_self]; exact w4) (by rw [updL_self]; exact hbl) (by rw [updP_self]; show W'.bs[_]?=_; rw [w3,List.getElem?_append_right (Nat.le_refl _),Nat.sub_self]; rfl) (by rw [updD_self,List.getElem?_append_right (Nat.le_refl _),Nat.sub_self]; rfl) (by rw [updP_self]; exact hhr) (by rw [updP_self]; show f.roots.length < _; omega)
      fun h2 P2 hh2 x2 e2 r2 t2=>⟨rfl,hR h2 P2 hh2 _ _ d L x2 (fun i=>by rw [e2 i]; exact lim1 (y:=⟨q',f,W'⟩) w2 i) (((grw1 (y:=⟨q',f,W'⟩) (n:=1) rlf (by show W'.bs.length ≤ _; rw [w3,List.length_append]; simp)).trans ⟨r2,fun i hi=>by rw [e2 i]; omega,by omega⟩:Grw P d L P2 d L (1 + 1)).mono (by omega)) (te.trans t2)⟩
     rw [updP_self] at hold
     exact hold
end
end Go.Ev
set_option linter.all false
set_option maxRecDepth 1000000
namespace Go.Ev
open Go.Proofs
section
variable {h h' h2:Hp} {q q' q2:HQ} {s s':RS} {nd:List NodeD} {b t:List Nat} {id:Nat} {R:Value→Hp→Prop}
theorem Ex.row {c:Nat} {cs:List Value} (e:Ex h q h' q') (r:Row h c cs) (ho:q.role c=.out):Row h' c cs:=kept_row e.kept r fun hn=>hn ho
end
end Go.Ev
set_option linter.all false
set_option maxRecDepth 1000000
namespace Go.Ev
open Go.Proofs
section
variable {h h' h2:Hp} {q q' q2:HQ} {s s':RS} {nd:List NodeD} {b t:List Nat} {id:Nat} {R:Value→Hp→Prop}
theorem cmp2_ok {a c:Sl} {l m:List Nat} (ha:ReadsO h a.a (l.map bv)) (hb:ReadsO h c.a (m.map bv)) (na:a.n=l.length) (nb:c.n=m.length) (hn:l.length < 9223372036854775807) (hR:R (.int .i64 (cmpL l m)) h) :
  CallTo Tryz.prog 58 #[.slice a.a a.n a.c,.slice c.a c.n c.c] h R:=by
 refine f58F_ok ?_
 unfold f58F
 refine f58L1_rule (s0:=a) (s1:=c) (fun q s0 s1 s5 h'=>∃ i:Nat,i ≤ l.length∧i ≤ m.length∧(∀ k,k < i→l.getD k 0=m.getD k 0)∧q=l.length - i∧a=s0∧c=s1∧s5=(i:Int)∧h=h') l.length ⟨0,Nat.zero_le _,Nat.zero_le _,nofun,rfl,rfl,rfl,rfl,rfl⟩ ?_
 rintro q s0 s1 s5 g0 h2 ⟨i,hi,hi2,hpre,rfl,rfl,rfl,rfl,rfl⟩
 have hend:∀ J,(l.length ≤ i ∨ m.length ≤ i)→f58K1 J (l.length - i) a c (i:Int) false h R:=fun J he=>by
  have e:=cmpL_end (a:=l) (b:=m) fun k hk=>hpre k (by omega)
  rw [e] at hR
  unfold f58K1
  refine Cond_f rfl (Cond_dec (fun h1=>?_) fun h1=>Cond_dec (fun h2=>?_) fun h2=>?_)
  ·rw [if_pos (by omega)] at hR; exact hR
  ·rw [if_neg (by omega),if_pos (by omega)] at hR; exact hR
  ·rw [if_neg (by omega),if_neg (by omega)] at hR; exact hR
 unfold f58L1
 refine Cond_dec (fun hlt=>?_) (fun hlt=>hend _ (by omega))
 have hil:i < l.length:=by omega
 by_cases him:i < m.length
 ·rw [decide_eq_true (show (i:Int) < ((c.n:Nat):Int) by omega)]
  have e0:(l.map bv)[i]?=some (bv (l.getD i 0)):=by rw [List.getElem?_map,List.getD_eq_getElem?_getD,List.getElem?_eq_getElem hil]; rfl
  have e1:(m.map bv)[i]?=some (bv (m.getD i 0)):=by rw [List.getElem?_map,List.getD_eq_getElem?_getD,List.getElem?_eq_getElem him]; rfl
  obtain ⟨p,hp,cp⟩:=readsO_get ha e0
  obtain ⟨p',hp',cp'⟩:=readsO_get hb e1
  unfold f58K1
  have rp:cell h (p.add ((i:Int).toNat * 1))=some (.int .u8 ((l.getD i 0:Nat):Int)):=by rw [Int.toNat_natCast,Nat.mul_one]; exact cp
  have rp':cell h (p'.add ((i:Int).toNat * 1))=some (.int .u8 ((m.getD i 0:Nat):Int)):=by rw [Int.toNat_natCast,Nat.mul_one]; exact cp'
  refine Cond_t rfl ⟨⟨by omega,hlt⟩,PtrOk_mk' hp ⟨_,rp,⟨by omega,by omega⟩,PtrOk_mk' hp' ⟨_,rp',Cond_dec (fun hl=>?_) fun hl=>⟨⟨by omega,hlt⟩,PtrOk_mk' hp ⟨_,rp,⟨by omega,by omega⟩,PtrOk_mk' hp' ⟨_,rp',Cond_dec (fun hg=>?_) fun hg=>?_⟩⟩⟩⟩⟩⟩
  ·rw [cmpL_at hil him hpre (by omega),if_pos (by omega)] at hR; exact hR
  ·rw [cmpL_at hil him hpre (by omega),if_neg (by omega)] at hR; exact hR
  ·refine ⟨l.length - (i + 1),by omega,i + 1,hil,him,fun k hk=>?_,rfl,rfl,rfl,?_,rfl⟩
   ·by_cases hki:k=i
    ·subst hki; omega
    ·exact hpre k (by omega)
   ·rw [wrap_i64' (by omega) (by omega)]; rfl
 ·rw [decide_eq_false (show ¬ (i:Int) < ((c.n:Nat):Int) by omega)]
  exact hend _ (.inr (by omega))
theorem reads_nil (h:Hp) (a:Option Addr):ReadsO h a []:=by
 cases a with
 | none=>rfl
 | some p=>intro j v hj; cases hj
end
end Go.Ev
set_option linter.all false
set_option maxRecDepth 1000000
namespace Go.Ev
open Go.Proofs
section
variable {hB h h' h2:Hp} {sb:Nat} {P P':Nat→HM} {hh hh':Nat→List Nat} {nds nds':Nat→List NodeD} {idss idss':Nat→List Nat} {d d':BkD} {L L':LtD} {mark:Bool} {F F' F2:Nat→Prop} {R:Value→Hp→Prop} {o:Opn}
/-- The book and the late answers take something in. -/
theorem StM.book2 (x:StM h sb P hh d L mark) {E:Nat→Prop} (hE:∀ b,E b→¬ SF sb P d L b∧b < h.size) (b:BL h' d' L') (bb:d'.bb=d.bb) (lb:L'.lb=L.lb) (k:Kept (BLfoot d L) h h') (f:∀ b,BLfoot d' L' b→BLfoot d L b ∨ E b ∨ h.size ≤ b) :
  StM h' sb P hh d' L' mark∧Kept (SF sb P d L) h h'∧∀ b,SF sb P d' L' b→SF sb P d L b ∨ E b ∨ h.size ≤ b:=by
 have ec:stC P hh d' L' mark=stC P hh d L mark:=by unfold stC; rw [bb,lb]
 refine ⟨⟨by rw [ec]; exact kept_row k x.row x.outB,fun i hi=>(x.m i hi).keep k fun b hb=>x.sp i hi b hb,x.d01,b,fun i hi b hb hf=>?_,x.out,fun hf=>?_,x.h8⟩,k.mono fun b _ hb=>.inr (.inr (.inr hb)),fun b hb=>?_⟩
 ·rcases f b hf with z | z | z
  ·exact x.sp i hi b hb z
  ·exact (hE b z).1 (.of_k hi hb)
  ·have:=HM.foot_lt (x.m i hi) hb; omega
 ·rcases f sb hf with z | z | z
  ·exact x.outB z
  ·exact (hE sb z).1 (.inl rfl)
  ·have:=row_lt x.row; omega
 ·rcases hb with e | e | e | e
  ·exact .inl (.inl e)
  ·exact .inl (.inr (.inl e))
  ·exact .inl (.inr (.inr (.inl e)))
  ·exact (f b e).imp_left fun z=>.inr (.inr (.inr z))
def TakeT (sb:Nat) (P:Nat→HM) (h:Hp) (d:BkD) (L:LtD) (sl:Sl) (h':Hp) (d':BkD) (L':LtD):Prop :=
 Kept (fun b=>SF sb P d L b ∨ sl.a=some (ad b)) h h'∧∀ b,SF sb P d' L' b→(SF sb P d L b ∨ sl.a=some (ad b)) ∨ h.size ≤ b
/-- An answer is taken. -/
theorem stake_ok (x:StM h sb P hh d L mark) {sl a2:Sl} {gb:Nat} {w:List Nat} (ow:OwnL h sl gb w) (nf:∀ b,sl.a=some (ad b)→¬ SF sb P d L b) (rd:ReadsO h a2.a (w.map bv)) (na:a2.n=w.length) (old:∀ p,a2.a=some p→w ≠ []→¬ SF sb P d L p.block∧p.block < h.size)
  (b8:Bytes8 w) (hw:w.length ≤ 10000000) (ht:d.turn + L.gs.length < 99990) (hR:∀ h' d' L',StM h' sb P hh d' L' mark→TakeT sb P h d L sl h' d' L'→d'.turn + L'.gs.length ≤ d.turn + L.gs.length + 1→R (.bool true) h') :
  CallTo Tryz.prog 53 #[.pointer (some (ad sb)),.slice sl.a sl.n sl.c,.slice a2.a a2.n a2.c] h R:=by
 refine f53F_ok ?_
 unfold f53F
 have fin:∀ {h1:Hp} {L1:LtD},StM h1 sb P hh d L1 mark→Kept (SF sb P d L) h h1→(∀ b,SF sb P d L1 b→SF sb P d L b ∨ sl.a=some (ad b) ∨ h.size ≤ b)→L1.gs.length ≤ L.gs.length + 1→f53K1 (some (ad sb)) h1 R:=fun {h1 L1} x1 k1 f1 l1=>by
  unfold f53K1
  refine PtrOk_mk ⟨_,x1.cL,PtrOk_mk ⟨_,x1.cB,settle_ok (n:=5) x1.bl (by omega) (by omega) (by omega) fun h2 d2 L2 b2 t2 e2=>⟨true,rfl,?_⟩⟩⟩
  obtain ⟨x2,s2⟩:=x1.book b2 t2
  refine hR h2 d2 L2 x2 ⟨⟨Nat.le_trans k1.1 s2.1.1,fun j hj hn=>(s2.1.2 j (Nat.lt_of_lt_of_le hj k1.1) fun hf=>(f1 j hf).elim (fun z=>hn (.inl z)) fun z=>z.elim (fun z=>hn (.inr z)) fun z=>by omega).trans (k1.2 j hj fun hf=>hn (.inl hf))⟩,fun b hb=>?_⟩ (by omega)
  rcases s2.2 b hb with z | z
  ·rcases f1 b z with y | y | y
   ·exact .inl (.inl y)
   ·exact .inl (.inr y)
   ·exact .inr y
  ·exact .inr (Nat.le_trans k1.1 z)
 refine PtrOk_mk ⟨mark,x.cM,Cond_b (fun _=>?_) fun _=>fin x (Kept.refl _ _) (fun b hb=>.inl hb) (by omega)⟩
 have bl:=x.bl
 have inL:∀ {b},L.foot b→SF sb P d L b:=fun {b} hb=>.inr (.inr (.inr (.inr hb)))
 refine PtrOk_mk ⟨_,x.cL,ladd_ok bl.lt ow (fun b hb hf=>nf b hb (inL hf)) rd na (fun p hp hn=>⟨fun hf=>(old p hp hn).1 (inL hf),(old p hp hn).2⟩) b8 hw (by omega) fun h1 L1 l1 lb1 ln1 k1 f1=>⟨rfl,?_⟩⟩
 have b1:BL h1 d L1:=⟨bl.bk.keep k1 fun b hb hf=>bl.sep b hf hb,bl.tp,l1,fun b hb hf=>by
  rcases f1 b hb with z | z | z
  ·exact bl.sep b z hf
  ·exact nf b z (.inr (.inr (.inr (.inl hf))))
  ·have:=bl.bk.foot_lt hf; omega⟩
 obtain ⟨x1,q1,q2⟩:=x.book2 (E:=fun b=>sl.a=some (ad b)) (fun b hb=>⟨nf b hb,ow.lt hb⟩) b1 rfl lb1 (k1.mono fun b _ hb=>.inr hb) fun b hb=>by
  rcases hb with hb | hb
  ·exact .inl (.inl hb)
  ·rcases f1 b hb with z | z | z
   ·exact .inl (.inr z)
   ·exact .inr (.inl z)
   ·exact .inr (.inr z)
 exact fin x1 q1 q2 (by omega)
theorem ownL_row {c:Nat} {w:List Nat} (row:Row h c (w.map bv)):OwnL h ⟨some (ad c),w.length,w.length⟩ c w:=.inr ⟨rfl,rfl,_,row,by rw [List.length_map],Nat.le_refl _,fun _ _=>rfl⟩
theorem ownL_nil (h:Hp):OwnL h ⟨none,0,0⟩ 0 []:=.inl ⟨rfl,rfl,rfl,rfl⟩
/-- Two answers taken, one behind the other, held to one list. -/
theorem take2 {hS:Hp} (x:StM h sb P hh d L mark) (kS:Kept N hS h) (nS:∀ b,SF sb P d L b→b < hS.size) {s1 s2 a:Sl} {g1 g2:Nat} {w:List Nat} (o1:OwnL h s1 g1 w) (o2:OwnL h s2 g2 w) (n1:∀ b,s1.a=some (ad b)→hS.size ≤ b) (n2:∀ b,s2.a=some (ad b)→hS.size ≤ b) (n12:∀ b,s1.a=some (ad b)→s2.a ≠ some (ad b))
  (rd:ReadsO h a.a (w.map bv)) (na:a.n=w.length) (old:∀ p,a.a=some p→w ≠ []→hS.size ≤ p.block∧p.block < h.size∧∀ b,s1.a=some (ad b)→p.block ≠ b) (b8:Bytes8 w) (hw:w.length ≤ 10000000) (ht:d.turn + L.gs.length < 99980)
  (hR:∀ h' d' L',StM h' sb P hh d' L' mark→TS hS (SF sb P d L) h' (SF sb P d' L')→d'.turn + L'.gs.length ≤ d.turn + L.gs.length + 2→R (.bool true) h') :
  CallTo Tryz.prog 53 #[.pointer (some (ad sb)),.slice s1.a s1.n s1.c,.slice a.a a.n a.c] h fun r h12=>∃ t106:Bool,r=.bool t106∧Cond t106 (CallTo Tryz.prog 53 #[.pointer (some (ad sb)),.slice s2.a s2.n s2.c,.slice a.a a.n a.c] h12 fun r h13=>∃ t112:Bool,r=.bool t112∧R (.bool t112:Value) h13) (R (.bool false:Value) h12):=by
 have out:∀ {b},hS.size ≤ b→¬ SF sb P d L b:=fun {b} hb hf=>by have:=nS b hf; omega
 refine stake_ok x o1 (fun b hb=>out (n1 b hb)) rd na (fun p hp hn=>⟨out (old p hp hn).1,(old p hp hn).2.1⟩) b8 hw (by omega) fun h1 d1 L1 x1 t1 e1=>⟨true,rfl,Cond_t rfl ?_⟩
 have ch:∀ {b},hS.size ≤ b→s1.a ≠ some (ad b)→¬ (SF sb P d L b ∨ s1.a=some (ad b)):=fun {b} h1 h2=>by rintro (z | z); exact out h1 z; exact h2 z
 have o2':OwnL h1 s2 g2 w:=o2.keep t1.1 fun b hb=>ch (n2 b hb) fun z=>n12 b z hb
 have out1:∀ {b},hS.size ≤ b→b < h.size→s1.a ≠ some (ad b)→¬ SF sb P d1 L1 b:=fun {b} h1 h2 h3 hf=>(t1.2 b hf).elim (ch h1 h3) fun z=>by omega
 have rd1:ReadsO h1 a.a (w.map bv):=reads_kept2 t1.1 rd fun p hp hn=>(have z:=old p hp (fun e=>hn (by rw [e]; rfl)); ⟨z.2.1,ch z.1 fun e=>z.2.2 p.block e rfl⟩)
 refine stake_ok x1 o2' (fun b hb=>out1 (n2 b hb) (o2.lt hb) fun z=>n12 b z hb) rd1 na (fun p hp hn=>(have z:=old p hp hn; ⟨out1 z.1 z.2.1 fun e=>z.2.2 p.block e rfl,Nat.lt_of_lt_of_le z.2.1 t1.1.1⟩)) b8 hw (by omega) fun h2 d2 L2 x2 t2 e2=>⟨true,rfl,hR h2 d2 L2 x2 ⟨⟨Nat.le_trans kS.1 (Nat.le_trans t1.1.1 t2.1.1),fun j hj hn=>?_⟩,fun b hb=>?_⟩ (by omega)⟩
 ·have a1:¬ (SF sb P d L j ∨ s1.a=some (ad j)):=by
   rintro (z | z)
   ·exact hn z
   ·have:=n1 j z; omega
  have a2:¬ (SF sb P d1 L1 j ∨ s2.a=some (ad j)):=by
   rintro (z | z)
   ·exact (t1.2 j z).elim a1 fun y=>by have:=kS.1; omega
   ·have:=n2 j z; omega
  have hj1:j < h.size:=Nat.lt_of_lt_of_le hj kS.1
  exact (t2.1.2 j (Nat.lt_of_lt_of_le hj1 t1.1.1) a2).trans ((t1.1.2 j hj1 a1).trans (kS.2 j hj _root_.id))
 ·have hz:=kS.1
  have hz1:=t1.1.1
  rcases t2.2 b hb with (z | z) | z
  ·rcases t1.2 b z with (y | y) | y
   ·exact .inl y
   ·exact .inr (n1 b y)
   ·exact .inr (by omega)
  ·exact .inr (n2 b z)
  ·exact .inr (by omega)
end
end Go.Ev
