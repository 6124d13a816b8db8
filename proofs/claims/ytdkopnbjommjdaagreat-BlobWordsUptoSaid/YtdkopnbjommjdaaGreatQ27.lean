/- BlobWords: behind a collection the heap holds just the blobs that are held, and each lies as it should. No condition but that these are ones. -/
import Derived.Test.YtdkopnbjommjdaaGreatQ26
set_option linter.all false
set_option maxRecDepth 1000000
namespace Go.Ev
open Go.Proofs
section
variable {i:Nat} {hB h h' h2:Hp} {sb:Nat} {P P':Nat→HM} {hh hh':Nat→List Nat} {nds nds':Nat→List NodeD} {idss idss':Nat→List Nat} {d d':BkD} {L L':LtD} {mark:Bool} {F F' F2:Nat→Prop} {R:Value→Hp→Prop} {o:Opn} {sl:Sl} {ops:List Opn}
theorem laid_ok (x:Stg h sb P hh nds idss d L mark) {k:Nat} (hk:k < 2) (hR:∀ h',Kept N h h'→R (.bool true) h'):CallTo Tryz.prog 12 #[.pointer (some (ad sb)),.int .i64 (k:Nat)] h R:=by
 refine f12F_ok ?_
 unfold f12F
 refine f12L1_rule (fun m s0 s1 s5 h'=>∃ i:Nat,i ≤ 8∧m=8 - i∧s0=some (ad sb)∧s1=(k:Int)∧s5=(i:Int)∧Kept N h h') 8 ⟨0,by omega,rfl,rfl,rfl,rfl,Kept.refl _ _⟩ ?_
 rintro m s0 s1 s5 g h1 ⟨i,hi,rfl,rfl,rfl,rfl,k1⟩
 unfold f12L1
 refine Cond_dec (fun hlt=>?_) fun _=>hR h1 k1
 have hi8:i < 8:=by omega
 have x1:=x.keepN k1
 have m1:=x1.m
 have kk:=x1.ks k hk
 obtain ⟨n,mm,hn,hm,hz⟩:=x1.slot hk hi8
 have nxt:IntKind.wrap .i64 ((i:Int) + 1)=((i + 1:Nat):Int):=by rw [wrap_i64' (by omega) (by omega)]; rfl
 simp only [Int.toNat_natCast]
 refine PtrOk_mk ⟨bnd2 hk,_,m1.cW hk,there_ok (m1.m k hk).wk hm ⟨_,rfl,?_⟩⟩
 cases mm with
 | zero=>exact Cond_t rfl ⟨8 - (i + 1),by omega,i + 1,by omega,(by first | rfl | trivial),(by first | rfl | trivial),(by first | rfl | trivial),nxt,k1⟩
 | succ mm =>
  obtain ⟨id,b,hh1,hid,hbs,hnd,hhere,isb,okb,eat,n0⟩:=kk.here hn hm
  obtain ⟨e,he,eb⟩:=WD.bs_at hbs
  subst eb
  have bl:=okb.len
  refine Cond_f (by simp) (PtrOk_mk ⟨bnd2 hk,_,m1.cW hk,wbytes_ok (m1.m k hk).wk hm he fun c h2 rowb hc k2=>⟨⟨some (ad c),e.2.length,e.2.length⟩,rfl,?_⟩⟩)
  have m2:=m1.keepN k2
  refine sref_ok m2 hk hn ⟨_,rfl,?_⟩
  rw [if_neg n0,eat]
  have st:=(m2.m k hk).st
  have hrl:=RS.ref_lt st.v (.inr isb.here)
  refine PtrOk_mk ⟨bnd2 hk,_,m2.cH hk,hget_ok st.v st.rp hrl ⟨_,_,rfl,PtrOk_mk ⟨bnd2 hk,_,m2.cH hk,_,words2_ok (n:=e.2.length) (by omega) ⟨rfl,rfl⟩,?_⟩⟩⟩
  have gl:=IsB.len st.v isb okb
  rw [show RS.getF _ _ (0:Int)=_ from gl]
  have hw:wordsN e.2.length ≤ 600:=by unfold wordsN; omega
  have hw2:e.2.length ≤ 8 * wordsN e.2.length:=by unfold wordsN; omega
  have e8:IntKind.wrap .i64 ((8:Int) * ((wordsN e.2.length:Nat):Int))=((8 * wordsN e.2.length:Nat):Int):=by rw [wrap_i64' (by omega) (by omega)]; omega
  rw [e8]
  refine hbytes_ok st.v st.rp hrl (by omega) (by omega) (by omega) (by omega) (fun hno=>absurd ?_ hno) fun c2 h3 hs row hc2 k3=>⟨⟨some (ad c2),8 * wordsN e.2.length,8 * wordsN e.2.length⟩,_,rfl,?_⟩
  ·unfold RS.spanOk
   rw [RS.ident_ref st.v (.inr isb.here),RS.raws_len isb okb]
   exact ⟨isb.nz,by omega,by omega,by omega⟩
  ·rw [RS.ident_ref st.v (.inr isb.here),isb.raws,Int.toNat_natCast] at row
   have byt:∀ j,j < 8 * wordsN e.2.length→cell h3 ((ad c2).add j)=some (bv (e.2.getD j 0)):=fun j hj=>by
    rw [add_ad]
    refine (cell_row row j).trans ?_
    rw [List.getElem?_map,List.getElem?_range hj]
    show some (bv (byteAt (blobRaws e.2) ((8:Int).toNat + j)))=_
    rw [show (8:Int).toNat=8 from rfl,okb.is.at_ j hj]
   have rowb3:=kept_row k3 rowb _root_.id
   refine num_ok ⟨_,rfl,Cond_f rfl (num_ok ⟨_,rfl,Cond_f rfl (Cond_f ?_ (words2_ok (n:=e.2.length) (by omega) ⟨_,rfl,?_⟩))⟩)⟩
   ·rw [show IntKind.wrap .u64 ((((⟨some (ad c),e.2.length,e.2.length⟩:Sl).n:Nat):Int))=((e.2.length:Nat):Int) from wrap_u64' (by show (0:Int) ≤ ((e.2.length:Nat):Int); omega) (by show ((e.2.length:Nat):Int) < _; omega)]
    exact bne_self_eq_false _
   ·rw [e8,show ((((⟨some (ad c2),8 * wordsN e.2.length,8 * wordsN e.2.length⟩:Sl).n:Nat):Int) != ((8 * wordsN e.2.length:Nat):Int))=false from bne_self_eq_false _]
    unfold f12K1
    refine Cond_f rfl ?_
    refine f12L2_rule (s6:=⟨some (ad c),e.2.length,e.2.length⟩) (s10:=⟨some (ad c2),8 * wordsN e.2.length,8 * wordsN e.2.length⟩) (fun m t0 t1 t5 t6 t10 t12 h'=>∃ j:Nat,j ≤ 8 * wordsN e.2.length∧m=8 * wordsN e.2.length - j∧t0=some (ad sb)∧t1=(k:Int)∧t5=(i:Int)∧⟨some (ad c),e.2.length,e.2.length⟩=t6∧⟨some (ad c2),8 * wordsN e.2.length,8 * wordsN e.2.length⟩=t10∧t12=(j:Int)∧h3=h') (8 * wordsN e.2.length) ⟨0,by omega,rfl,rfl,rfl,rfl,rfl,rfl,rfl,rfl⟩ ?_
    rintro m t0 t1 t5 t6 t10 t12 g h4 ⟨j,hj,rfl,rfl,rfl,rfl,rfl,rfl,rfl,rfl⟩
    unfold f12L2
    simp only [Int.toNat_natCast]
    refine Cond_dec (fun h8=>?_) fun _=>⟨8 - (i + 1),by omega,i + 1,by omega,(by first | rfl | trivial),(by first | rfl | trivial),(by first | rfl | trivial),nxt,(k1.trans k2).trans k3⟩
    have h8:j < 8 * wordsN e.2.length:=by have h8:((j:Nat):Int) < ((8 * wordsN e.2.length:Nat):Int):=h8; omega
    have nj:IntKind.wrap .i64 ((j:Int) + 1)=((j + 1:Nat):Int):=by rw [wrap_i64' (by omega) (by omega)]; rfl
    have c2j:=byt j h8
    have bd:(0:Int) ≤ ((j:Nat):Int)∧((j:Nat):Int) < ((8 * wordsN e.2.length:Nat):Int):=⟨by omega,by omega⟩
    refine Cond_dec (fun hb=>?_) fun hb=>?_
    ·have hb:j < e.2.length:=by have hb:((j:Nat):Int) < ((e.2.length:Nat):Int):=hb; omega
     have cbj:cell h3 ((ad c).add (j * 1))=some (bv (e.2.getD j 0)):=by
      rw [Nat.mul_one,add_ad]
      refine (cell_row rowb3 j).trans ?_
      rw [List.getElem?_map,List.getD_eq_getElem?_getD,List.getElem?_eq_getElem hb]
      rfl
     refine ⟨bd,PtrOk_mk ⟨_,by rw [Nat.mul_one]; exact c2j,⟨by omega,by show ((j:Nat):Int) < ((e.2.length:Nat):Int); omega⟩,PtrOk_mk ⟨_,cbj,Cond_f (bne_self_eq_false _) ?_⟩⟩⟩
     refine Cond_dec (fun hge=>?_) fun _=>⟨_,Nat.sub_lt_sub_left h8 (Nat.lt_succ_self j),j + 1,by omega,(by first | rfl | trivial),(by first | rfl | trivial),(by first | rfl | trivial),(by first | rfl | trivial),(by first | rfl | trivial),(by first | rfl | trivial),nj,(by first | rfl | trivial)⟩
     have hge:((e.2.length:Nat):Int) ≤ ((j:Nat):Int):=hge
     omega
    ·have hb:e.2.length ≤ j:=by have hb:¬ ((j:Nat):Int) < ((e.2.length:Nat):Int):=hb; omega
     have ez:e.2.getD j 0=0:=by rw [List.getD_eq_getElem?_getD,List.getElem?_eq_none hb]; rfl
     rw [ez] at c2j
     refine Cond_dec (fun _=>⟨bd,PtrOk_mk ⟨_,by rw [Nat.mul_one]; exact c2j,Cond_f rfl ⟨_,Nat.sub_lt_sub_left h8 (Nat.lt_succ_self j),j + 1,by omega,(by first | rfl | trivial),(by first | rfl | trivial),(by first | rfl | trivial),(by first | rfl | trivial),(by first | rfl | trivial),(by first | rfl | trivial),nj,(by first | rfl | trivial)⟩⟩⟩) fun hn=>absurd ?_ hn
     show ((e.2.length:Nat):Int) ≤ ((j:Nat):Int)
     omega
theorem fin_ok (x:Stg h sb P hh nds idss d L mark) (B:Base hB h (SF sb P d L)) (hR:∀ h',Kept N hB h'→R (.bool true) h') :
  LoopEv (evC Tryz.prog tab lv5 (sub [1,1,1,1,0,1,0,0] body5)) (contAt Tryz.prog tab lv5 [1,1,1,1,0,1,0] body5 [] (bodyK Tryz.prog Tryz.f5 [] R)) [(3,.pointer (some (ad sb))),(6,.int .i64 0)] 81 h:=by
 refine f5L2_rule (fun m s3 s6 h'=>∃ (k:Nat) (P:Nat→HM),k ≤ 2∧m=2 - k∧s3=some (ad sb)∧s6=(k:Int)∧Stg h' sb P hh nds idss d L mark∧Base hB h' (SF sb P d L)) 2 ⟨0,P,by omega,rfl,rfl,rfl,x,B⟩ ?_
 clear x B
 rintro m s3 s6 g h1 ⟨k,P,hk2,rfl,rfl,rfl,x,B⟩
 unfold f5L2
 refine Cond_dec (fun hlt=>?_) fun _=>hR h1 B.k
 have hk:k < 2:=by omega
 have kk:=x.ks k hk
 have v:=kk.v
 simp only [Int.toNat_natCast]
 refine PtrOk_mk ⟨bnd2 hk,_,x.m.cH hk,c_collect (x.m.m k hk).st fun h2 q1 x1 ex1=>⟨rfl,?_⟩⟩
 obtain ⟨y,t⟩:=x.m.heap hk x1 ex1
 have x2:Stg h2 sb (updP P k ⟨q1,(P k).s.collect,(P k).W⟩) hh nds idss d L mark:=by
  have y':=y
  rw [← updL_id hh k] at y'
  have z:=x.upd hk y' (nd':=nds k) (id':=idss k) (kk.sub (RS.Sub.collect v) v.collect (RS.collect_lim.trans kk.lm)) (x.nz k hk)
  rw [updL_id,updD_id,updL_id] at z
  exact z
 have B2:=B.step t
 have cW:=x2.m.cW hk
 rw [updP_self] at cW
 have wk2:=(x2.m.m k hk).wk
 rw [updP_self] at wk2
 refine PtrOk_mk ⟨bnd2 hk,_,cW,live_ok wk2 ⟨_,_,rfl,?_⟩⟩
 have cH:=x2.m.cH hk
 rw [updP_self] at cH
 have st2:=(x2.m.m k hk).st
 rw [updP_self] at st2
 obtain ⟨e1,e2⟩:=live_eq v kk.live
 have eu:(P k).s.collect.used=(P k).W.small:=((RS.fit_same (s:=(P k).s.collection) 0).1).trans e1
 have el:(P k).s.collect.large=(P k).W.large:=((RS.fit_same (s:=(P k).s.collection) 0).2.1).trans e2
 refine PtrOk_mk ⟨bnd2 hk,_,cH,hstats_ok st2.v st2.rp fun h3 k3=>⟨_,_,_,_,_,_,_,_,_,rfl,Let_mk fun h4 e4=>?_⟩⟩
 have k4:Kept N h3 h4:=e4 ▸ kept_push _ _ _
 have row4:Row h4 h3.size _:=e4 ▸ row_new h3 _ 49
 have enb:nb h3=ad h3.size:=rfl
 rw [enb]
 refine row_st row4 (i:=0) rfl (by show 0 < 9; omega) fun g1 w1 q1=>row_st w1 (i:=1) (add_ad _ _) (by show 1 < 9; omega) fun g2 w2 q2=>row_st w2 (i:=2) (add_ad _ _) (by show 2 < 9; omega) fun g3 w3 q3=>row_st w3 (i:=3) (add_ad _ _) (by show 3 < 9; omega) fun g4 w4 q4=>row_st w4 (i:=4) (add_ad _ _) (by show 4 < 9; omega) fun g5 w5 q5=>row_st w5 (i:=5) (add_ad _ _) (by show 5 < 9; omega) fun g6 w6 q6=>row_st w6 (i:=6) (add_ad _ _) (by show 6 < 9; omega) fun g7 w7 q7=>row_st w7 (i:=7) (add_ad _ _) (by show 7 < 9; omega) fun g8 w8 q8=>row_st w8 (i:=8) (add_ad _ _) (by show 8 < 9; omega) fun g9 w9 q9=>?_
 refine ⟨_,(by rw [add_ad]; exact (cell_row w9 2).trans rfl),Cond_f ?_ ⟨_,(by rw [add_ad]; exact (cell_row w9 3).trans rfl),Cond_f ?_ ?_⟩⟩
 ·show (((P k).s.collect.used:Int) != (((P k).W.small:Nat):Int))=false
  rw [eu]; exact bne_self_eq_false _
 ·show (((P k).s.collect.large:Int) != (((P k).W.large:Nat):Int))=false
  rw [el]; exact bne_self_eq_false _
 ·have k9:Kept N h3 g9:=kept_news k4 ((((((((q1.trans q2).trans q3).trans q4).trans q5).trans q6).trans q7).trans q8).trans q9) (Nat.le_refl _)
  have x9:=x2.keepN (k3.trans k9)
  refine laid_ok x9 hk fun h5 k5=>⟨true,rfl,?_⟩
  unfold f5K2
  exact Cond_f rfl ⟨2 - (k + 1),by omega,k + 1,_,by omega,(by first | rfl | trivial),(by first | rfl | trivial),by rw [wrap_i64' (by omega) (by omega)]; rfl,x9.keepN k5,B2.keepN ((k3.trans k9).trans k5)⟩
theorem bwords_ok {l0 l1:Int} (i0:I64 l0) (i1:I64 l1) (hs:ReadsO h sl.a (ops.flatMap Opn.cells)) (hsn:sl.n=ops.length) (ok:∀ o ∈ ops,OpnOk h o) (hR:∀ h',Kept N h h'→R (.bool true) h') :
  CallTo Tryz.prog 5 #[.agg #[.int .i64 l0,.int .i64 l1,.slice sl.a sl.n sl.c]] h R:=by
 refine f5F_ok ?_
 unfold f5F
 refine Let_mk fun h1 e1=>?_
 have enb:nb h=ad h.size:=rfl
 have k1:Kept N h h1:=e1 ▸ kept_push _ _ _
 have row1:Row h1 h.size [.int .i64 l0,.int .i64 l1,.slice sl.a sl.n sl.c]:=e1 ▸ row_new h _ 25
 rw [enb]
 clear e1
 refine ⟨_,(cell_row row1 0).trans rfl,_,by rw [add_ad]; exact (cell_row row1 1).trans rfl,run_begin i0 i1 fun h2 sb P hh nds idss d L r=>⟨_,_,rfl,Cond_f rfl ?_⟩⟩
 refine f5L1_rule (fun m s2 s5 s7 h'=>∃ (i:Nat) (P:Nat→HM) (hh:Nat→List Nat) (nds:Nat→List NodeD) (idss:Nat→List Nat) (d:BkD) (L:LtD),i ≤ 1000∧i ≤ ops.length∧m=ops.length - i∧s2=ad h.size∧s5=some (ad sb)∧s7=(i:Int)∧Run h1 h' sb P hh nds idss d L false i) ops.length
  ⟨0,P,hh,nds,idss,d,L,by omega,by omega,rfl,rfl,rfl,rfl,r⟩ ?_
 clear r
 clear P hh nds idss d L
 rintro m s2 s5 s7 g h4 ⟨i,P,hh,nds,idss,d,L,hi,hil,rfl,rfl,rfl,rfl,r⟩
 unfold f5L1
 have row4:=kept_row r.B.k row1 _root_.id
 have cS:cell h4 ((ad h.size).add 2)=some (.slice sl.a sl.n sl.c):=by rw [add_ad]; exact (cell_row row4 2).trans rfl
 have tt:=r.tt
 refine ⟨sl,cS,Cond_dec (fun hlt=>?_) fun _=>by unfold f5K1; exact Cond_f rfl (fin_ok r.s r.B fun h' k'=>hR h' (k1.trans k'))⟩
 by_cases h1000:((i:Nat):Int) < 1000
 ·rw [decide_eq_true h1000]
  have hio:i < ops.length:=by omega
  obtain ⟨o,eo⟩:∃ o,ops[i]?=some o:=⟨_,List.getElem?_eq_getElem hio⟩
  obtain ⟨p,hp,c0,cj⟩:=opn_read (reads_keptN (k1.trans r.B.k) hs) eo
  unfold f5K1
  refine Cond_t rfl ⟨sl,cS,⟨by omega,hlt⟩,PtrOk_of hp ?_⟩
  rw [Int.toNat_natCast]
  refine ⟨_,c0,_,cj 1 _ rfl,_,cj 2 _ rfl,_,cj 3 _ rfl,_,cj 4 _ rfl,_,cj 5 _ rfl,o.pa,cj 6 _ rfl,o.ta,cj 7 _ rfl,?_⟩
  refine run_step r (by omega) ((ok o (List.mem_of_getElem? eo)).keepN k1) fun h5 P' hh' nds' idss' d' L' r5=>⟨_,rfl,Cond_f rfl ?_⟩
  exact ⟨ops.length - (i + 1),by omega,i + 1,P',hh',nds',idss',d',L',by omega,by omega,rfl,rfl,rfl,by rw [wrap_i64' (by omega) (by omega)]; rfl,r5⟩
 ·rw [decide_eq_false h1000]
  unfold f5K1
  exact Cond_f rfl (fin_ok r.s r.B fun h' k'=>hR h' (k1.trans k'))
end
end Go.Ev
