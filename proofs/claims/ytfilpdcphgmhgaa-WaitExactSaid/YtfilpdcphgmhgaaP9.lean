/- The program's Wait: Release / Printed by a program (own work) out of the loaded functions: what each says of the heap, and that the evaluator says the same. No condition but that these are ones. -/
import Derived.Test.YtfilpdcphgmhgaaP8
import Derived.Test.YtfilpdcphgmhgaaP4
set_option linter.all false
set_option maxRecDepth 1000000
namespace Go.Ev
open Go.Proofs
section
variable {h h' h2:Hp} {W W' W2:WP} {R:Value→Hp→Prop}
theorem WMem.who_del (x:WMem h W) (j:Nat) :
  WMem (h.setIfInBounds W.r2 (.map ((W.ws.eraseIdx j).map PW.ent).toArray W.c2)) { W with ws:=W.ws.eraseIdx j }:=by
 have k:=kept_seti h W.r2 (.map ((W.ws.eraseIdx j).map PW.ent).toArray W.c2)
 have ob:=seti_self (o:=.map ((W.ws.eraseIdx j).map PW.ent).toArray W.c2) x.m2
 generalize h.setIfInBounds W.r2 (.map ((W.ws.eraseIdx j).map PW.ent).toArray W.c2)=h1 at k ob
 have nr:∀ {b:Nat} {cs:List Value},Row h b cs→¬ b=W.r2:=fun r e=>row_map (e ▸ r) x.m2
 have sub:=List.eraseIdx_sublist W.ws j
 have mm:∀ z ∈ W.ws.eraseIdx j,z ∈ W.ws:=fun z hz=>sub.subset hz
 exact ⟨kept_row k x.row (nr x.row),kept_ob k x.m1 x.r12,ob,fun z hz=>(x.pw z (mm z hz)).keep k (by obtain ⟨_,r⟩:=(x.pw z (mm z hz)).row; exact nr r),fun z hz=>(x.ln z hz).keep k (by obtain ⟨_,r,_⟩:=(x.ln z hz).row; exact nr r),x.r12,x.lb,x.lw,fun z hz w hw=>x.lp z hz w (mm w hw),fun z hz=>x.pwb z (mm z hz),x.bn1,(sub.map _).nodup x.bn2,x.lt1,fun z hz=>x.lt2 z (mm z hz),(sub.map _).nodup x.cn,x.kn,x.tn.sublist sub,fun z hz=>x.tu z (mm z hz),x.tl⟩
theorem wrelease_ok (x:WRep h W) {c:Int} (hno:W.find c=none→∀ h',Kept N h h'→R (.bool false) h')
  (hyes:∀ y j,W.find c=some y→W.ws[j]?=some y→∀ h' W',WRep h' W'→W'.wb=W.wb→W'.ws=W.ws.eraseIdx j→W'.turns=W.turns→WTr h W h' W'→R (.bool true) h') :
  CallTo Try.prog 16 #[.pointer (some (ad W.wb)),.int .i64 c] h R:=by
 refine f16F_ok ?_
 unfold f16F
 refine PtrOk_mk ⟨_,x.m.c1,_,(PWz (W.find c)).2.1,_,_,_,x.m.get c,own4 fun h5 r5 k5=>?_⟩
 cases e:W.find c with
 | none=>exact Cond_t rfl (hno e h5 k5)
 | some y =>
  rw [e] at r5
  obtain ⟨hy,hyc⟩:=WP.find_some e
  have hyes:=fun j=>hyes y j e
  have m5:=x.m.keep k5 fun _ _=>_root_.id
  refine Cond_f rfl (PtrOk_mk ⟨_,m5.c1,IntK,W.r2,_,W.c2,klaw_who,⟨_,rfl⟩,rfl,m5.who,fun hl=>absurd rfl (hl y.ent (List.mem_map.2 ⟨y,hy,rfl⟩) |> fun f=>by rw [show y.ent.key=Value.int .i64 c by show Value.int .i64 y.w.conn=_; rw [hyc]] at f; exact f),fun j e' hj he'=>?_⟩)
  rw [List.getElem?_map] at hj
  obtain ⟨y',hj2,rfl⟩:=Option.map_eq_some_iff.1 hj
  obtain rfl:y'=y:=mem_inj x.m.cn (List.mem_of_getElem? hj2) hy ((Value.int.inj (show Value.int .i64 y'.w.conn=Value.int .i64 c from he')).2.trans hyc.symm)
  have em:(W.ws.map PW.ent).eraseIdx j=(W.ws.eraseIdx j).map PW.ent:=by rw [List.eraseIdx_eq_take_drop_succ,List.eraseIdx_eq_take_drop_succ,List.map_append,List.map_take,List.map_drop]
  rw [em]
  have m6:=m5.who_del j
  have k6:=kept_seti h5 W.r2 (.map ((W.ws.eraseIdx j).map PW.ent).toArray W.c2)
  generalize h5.setIfInBounds W.r2 (.map ((W.ws.eraseIdx j).map PW.ent).toArray W.c2)=h6 at m6 k6
  have ok:=x.m.pw y' hy
  obtain ⟨junk,rowp⟩:=ok.row
  have r2l:=ob_lt x.m.m2
  have r6:=kept_row k6 r5 (show ¬ h.size=W.r2 by omega)
  have k06:Kept (fun b=>b=W.r2) h h6:=(k5.mono fun _ _ z=>z.elim).trans k6
  have bl5:=row_lt r5
  have hsz6:h.size < h6.size:=Nat.lt_of_lt_of_le bl5 k6.1
  have rd6:ReadsO h6 y'.sl.a (y'.w.pls.flatMap plC):=by rw [ok.a]; exact reads_head (kept_row k06 rowp fun e=>row_map (e ▸ rowp) x.m.m2)
  refine ⟨y'.sl,by show cell h6 ((ad h.size).add 1)=_; rw [add_ad]; exact (cell_row r6 1).trans rfl,?_⟩
  have okn:=ok.n
  have okp:=ok.p1
  have okc:=ok.cap
  have pbl:=row_lt rowp
  have xl:=x.l
  have nwb:W.wb ≠ y'.pb:=fun e=>x.m.pwb y' hy e.symm
  have nr1:W.r1 ≠ y'.pb:=fun e=>row_map (e ▸ rowp) x.m.m1
  have r1l:=ob_lt x.m.m1
  have r1f:W.foot W.r1:=.inr (.inl rfl)
  have r2f:W.foot W.r2:=.inr (.inr (.inl rfl))
  have wl8:=wlen8 x.m
  refine f16L1_rule (s5:=ad h.size) (s29:=y'.sl) (fun m s0 s1 s5 s29 s30 s31 h'=>∃ (i:Nat) (W':WP),i ≤ y'.w.pls.length∧m=y'.w.pls.length - i∧s0=some (ad W.wb)∧c=s1∧s5=ad h.size∧y'.sl=s29∧s30=((y'.w.pls.length:Nat):Int)∧s31=(i:Int)∧WMem h' W'∧(W'.wb=W.wb∧W'.r1=W.r1∧W'.ws=W.ws.eraseIdx j∧W'.turns=W.turns)∧(∀ q l,lineOf W'.ls q l=if l=y'.w.kind∧inT y'.w.pls i q=true then cut c (connsOf W.ws q l) else connsOf W.ws q l)∧Row h' h.size [.int .i64 y'.w.kind,.slice y'.sl.a y'.sl.n y'.sl.c,.int .u64 y'.w.til,.int .i64 (y'.turn:Nat)]∧ReadsO h' y'.sl.a (y'.w.pls.flatMap plC)∧(∀ z ∈ W'.ls,z.b ≠ y'.pb∧z.b ≠ h.size)∧WTr h W h' W') y'.w.pls.length
   ⟨0,{ W with ws:=W.ws.eraseIdx j },Nat.zero_le _,rfl,rfl,rfl,rfl,rfl,by rw [okn],rfl,m6,⟨rfl,rfl,rfl,rfl⟩,fun q l=>by rw [if_neg (by rintro ⟨_,z⟩; cases z)]; exact xl q l,r6,rd6,fun z hz=>⟨fun e=>x.m.lp z hz y' hy e.symm,fun e=>by have:=(x.m.ln z hz).lt; omega⟩,k06.mono fun _ _ e=>e ▸ r2f,fun b hb=>by
    rcases hb with e | e | e | ⟨z,hz,e⟩ | e
    ·exact .inl (.inl e)
    ·exact .inl (.inr (.inl e))
    ·exact .inl (.inr (.inr (.inl e)))
    ·exact .inl (.inr (.inr (.inr (.inl ⟨z,(List.eraseIdx_sublist W.ws j).subset hz,e⟩))))
    ·exact .inl (.inr (.inr (.inr (.inr e))))⟩ ?_
  rintro m s0 s1 s5 s29 s30 s31 g h7 ⟨i,W7,hi,rfl,rfl,rfl,rfl,rfl,rfl,rfl,m7,⟨w1,w2,w3,w4⟩,ll7,r7,rd7,far7,tr7⟩
  unfold f16L1
  refine Cond_dec (fun hlt=>?_) fun hge=>?_
  ·have hil:i < y'.w.pls.length:=by omega
   obtain ⟨p,hp⟩:∃ p,y'.w.pls[i]?=some p:=⟨_,List.getElem?_eq_getElem hil⟩
   obtain ⟨pa,ea,c0,c1⟩:=pl_read rd7 hp
   have nxt:IntKind.wrap .i64 ((i:Int) + 1)=((i + 1:Nat):Int):=by rw [wr (by omega) (by omega)]; rfl
   simp only [Int.toNat_natCast]
   refine ⟨⟨by omega,by omega⟩,PtrOk_of ea ⟨_,c0,_,c1,own2 fun h8 r8 k8=>?_⟩⟩
   have r78:=kept_row k8 r7 _root_.id
   refine ⟨y'.sl,by rw [add_ad]; exact (cell_row r78 1).trans rfl,first_ok (reads_keptN k8 rd7) okn okc (by omega) hp fun h9 k9=>⟨_,rfl,?_⟩⟩
   have r9:=kept_row k9 r8 _root_.id
   have r79:=kept_row k9 r78 _root_.id
   have rd9:=reads_keptN (k8.trans k9) rd7
   have m9:=(m7.keep k8 fun _ _=>_root_.id).keep k9 fun _ _=>_root_.id
   have tr9:=tr7.trans (WTr.keepN (k8.trans k9))
   cases hf:firstB y'.w.pls i p with
   | false =>
    have hin:inT y'.w.pls i p=true:=by unfold firstB at hf; unfold inT; simpa using hf
    refine Cond_t rfl ?_
    unfold f16K1
    refine ⟨y'.w.pls.length - (i + 1),by omega,i + 1,W7,by omega,rfl,(by first | rfl | trivial),(by first | rfl | trivial),(by first | rfl | trivial),(by first | rfl | trivial),(by first | rfl | trivial),nxt,m9,⟨w1,w2,w3,w4⟩,fun q l=>?_,r79,rd9,far7,tr9⟩
    rw [ll7,inT_succ hp]
    by_cases e:p=q
    ·subst e; rw [hin]; simp
    ·simp [e]
   | true =>
    have hin:inT y'.w.pls i p=false:=by unfold firstB at hf; unfold inT; simpa using hf
    refine Cond_f rfl ⟨_,(cell_row r9 0).trans rfl,_,by show cell h9 ((ad h7.size).add 1)=_; rw [add_ad]; exact (cell_row r9 1).trans rfl,_,(cell_row r79 0).trans rfl,own3 fun h10 r10 k10=>?_⟩
    have m10:=m9.keep k10 fun _ _=>_root_.id
    have r710:=kept_row k10 r79 _root_.id
    have rd10:=reads_keptN k10 rd9
    have c010:=m10.c0
    have enb9:nb h9=ad h9.size:=rfl
    rw [w1,w2] at c010
    rw [enb9]
    refine PtrOk_mk ⟨_,c010,_,(cell_row r10 0).trans rfl,_,by rw [add_ad]; exact (cell_row r10 1).trans rfl,_,by rw [add_ad]; exact (cell_row r10 2).trans rfl,?_⟩
    have hs9:h.size < h9.size:=row_lt r79
    have wy:wants y'.w p y'.w.kind=true:=by
     unfold wants
     rw [decide_eq_true rfl,Bool.true_and,List.any_eq_true]
     exact ⟨p,List.mem_of_getElem? hp,by simp⟩
    have line:lineOf W7.ls p y'.w.kind=connsOf W.ws p y'.w.kind:=by rw [ll7,if_neg (by rw [hin]; rintro ⟨_,z⟩; cases z)]
    have cmem:c ∈ connsOf W.ws p y'.w.kind:=by unfold connsOf; exact List.mem_map.2 ⟨y',List.mem_filter.2 ⟨hy,wy⟩,hyc⟩
    obtain ⟨jj,hjj⟩:=List.mem_iff_getElem?.1 cmem
    have nd:=conns_nodup x.m.cn p y'.w.kind
    have ndi:((connsOf W.ws p y'.w.kind).map _root_.id).Nodup:=by rw [List.map_id]; exact nd
    have hb:∀ i,i < jj→(connsOf W.ws p y'.w.kind)[i]? ≠ some c:=fun i hi e=>by
     have:=map_inj_at ndi e hjj rfl
     omega
    have ec:(connsOf W.ws p y'.w.kind).eraseIdx jj=cut c (connsOf W.ws p y'.w.kind):=erase_filter (f:=_root_.id) ndi hjj
    have cl:=connsOf_len W.ws p y'.w.kind
    have wc:=wcut_ok m10 (p:=p) (k:=y'.w.kind) (c:=c) (kb:=h9.size) r10 (fun z hz e=>by have:=(m9.ln z hz).lt; omega) (by rw [line]; exact hjj) (by rw [line]; exact hb) (by rw [line]; omega) (K:=fun h16=>f16K1 (fun m s0 s1 s5 s29 s30 s31 h'=>∃ (i:Nat) (W':WP),i ≤ y'.w.pls.length∧m=y'.w.pls.length - i∧s0=some (ad W.wb)∧c=s1∧s5=ad h.size∧y'.sl=s29∧s30=((y'.w.pls.length:Nat):Int)∧s31=(i:Int)∧WMem h' W'∧(W'.wb=W.wb∧W'.r1=W.r1∧W'.ws=W.ws.eraseIdx j∧W'.turns=W.turns)∧(∀ q l,lineOf W'.ls q l=if l=y'.w.kind∧inT y'.w.pls i q=true then cut c (connsOf W.ws q l) else connsOf W.ws q l)∧Row h' h.size [.int .i64 y'.w.kind,.slice y'.sl.a y'.sl.n y'.sl.c,.int .u64 y'.w.til,.int .i64 (y'.turn:Nat)]∧ReadsO h' y'.sl.a (y'.w.pls.flatMap plC)∧(∀ z ∈ W'.ls,z.b ≠ y'.pb∧z.b ≠ h.size)∧WTr h W h' W') (y'.w.pls.length - i) (some (ad W.wb)) c (ad h.size) y'.sl ((y'.w.pls.length:Nat):Int) (i:Int) h16 R) fun h11 ls' m11 l11 sub11 k11=>by
     unfold f16K1
     have far11:∀ b:Nat,(b=y'.pb ∨ b=h.size)→¬ (b=W7.r1 ∨ ∃ z ∈ W7.ls,z.b=b):=fun b hb hx=>by
      rcases hx with e | ⟨z,hz,e⟩
      ·rw [w2] at e
       rcases hb with e2 | e2
       ·exact nr1 (e.symm.trans e2)
       ·omega
      ·rcases hb with e2 | e2
       ·exact (far7 z hz).1 (e.trans e2)
       ·exact (far7 z hz).2 (e.trans e2)
     refine ⟨y'.w.pls.length - (i + 1),by omega,i + 1,_,by omega,rfl,rfl,rfl,rfl,rfl,rfl,nxt,m11,⟨w1,w2,w3,w4⟩,fun q l=>?_,kept_row k11 r710 (far11 _ (.inr rfl)),?_,fun z hz=>?_,(tr9.trans (WTr.keepN k10)).trans ⟨k11.mono fun b _ e=>?_,fun b hb=>?_⟩⟩
     ·show lineOf ls' q l=_
      rw [l11,inT_succ hp]
      by_cases e:q=p∧l=y'.w.kind
      ·obtain ⟨rfl,rfl⟩:=e
       rw [if_pos ⟨rfl,rfl⟩,line,ec]
       simp
      ·rw [if_neg e,ll7]
       by_cases e2:l=y'.w.kind
       ·have e3:¬ p=q:=fun z=>e ⟨z.symm,e2⟩
        simp [e2,e3]
       ·simp [e2]
     ·rw [ok.a] at rd10 ⊢
      exact reads_kept2 k11 rd10 fun q hq _=>by
       obtain rfl:=Option.some.inj hq
       exact ⟨Nat.lt_of_lt_of_le pbl (by have:=(k8.trans (k9.trans k10)).1; have:=tr7.1.1; omega),far11 _ (.inl rfl)⟩
     ·obtain ⟨z',hz',e⟩:=sub11 z hz
      rw [← e]; exact far7 z' hz'
     ·rcases e with e | ⟨z,hz,e⟩
      ·exact .inr (.inl e)
      ·exact .inr (.inr (.inr (.inr ⟨z,hz,e⟩)))
     ·rcases foot_ls hb with e | ⟨z,hz,e⟩
      ·exact .inl e
      ·obtain ⟨z',hz',e'⟩:=sub11 z hz
       exact .inl (.inr (.inr (.inr (.inr ⟨z',hz',e'.trans e⟩))))
    rw [w2,w1] at wc
    exact wc
  ·have e:i=y'.w.pls.length:=by omega
   subst e
   refine hyes j hj2 h7 W7 ⟨m7,fun q l=>?_⟩ w1 w3 w4 tr7
   rw [ll7,w3,conns_erase x.m.cn hj2,hyc]
   by_cases e1:l=y'.w.kind∧inT y'.w.pls y'.w.pls.length q=true
   ·rw [if_pos e1]
   ·rw [if_neg e1,← hyc]
    refine (conns_cut x.m.cn hy ?_).symm
    unfold wants
    unfold inT at e1
    rw [List.take_length] at e1
    by_cases e2:y'.w.kind=l
    ·have e3:¬ (y'.w.pls.any fun r=>decide (r=q))=true:=fun z=>e1 ⟨e2.symm,z⟩
     rw [decide_eq_true e2,Bool.true_and]
     exact Bool.eq_false_iff.2 e3
    ·rw [decide_eq_false e2,Bool.false_and]
end
end Go.Ev
set_option linter.all false
set_option maxRecDepth 100000
namespace Go.Ev
open Go.Proofs
/- (*larder/larderref18.Wait).Block -/
noncomputable def body43:Code:=(Try.f43.body).getD .skip
def lv43 (m:Nat):List Nat:=[]
def f43K1  (x0:Option Addr) (x1:Int) (x2:Int) (x3:Sl) (x4:Int) (x11:Bool) (h:Hp) (R:Value→Hp→Prop):Prop :=
 Cond x11 (R (.int .i64 180:Value) h) (CallTo Try.prog 63 #[.pointer x0,.int .i64 x1] h fun r h1=>∃ t21:Int,r=.int .i64 t21∧Cond (decide (t21 ≥ (0:Int))) (R (.int .i64 181:Value) h1) (Cond (x2 != (2:Int)) (Cond (x2 != (5:Int)) (R (.int .i64 184:Value) h1) (CallTo Try.prog 64 #[.slice x3.a x3.n x3.c] h1 fun r h2=>∃ t32:Bool,r=.bool t32∧Cond t32 (R (.int .i64 182:Value) h2) (Cond (decide (x4 > (4503599627370496:Int))) (R (.int .i64 183:Value) h2) (PtrOk x0 fun p38=>∃ t40:Sl,cell h2 p38=some (.slice t40.a t40.n t40.c)∧CallTo Try.prog 65 #[.slice x3.a x3.n x3.c] h2 fun r h3=>∃ t44:Sl,r=.slice t44.a t44.n t44.c∧(∃ y0:Sl,cell h3 p38=some (.slice y0.a y0.n y0.c)∧Next.value (.slice y0.a y0.n y0.c)=Next.value (.slice t40.a t40.n t40.c))∧Let (h3.push (.cells #[.int .i64 x1,.int .i64 x2,.slice t44.a t44.n t44.c,.int .u64 x4] 107)) fun h4=>(∃ y0:Sl,cell h4 p38=some (.slice y0.a y0.n y0.c)∧Next.value (.slice y0.a y0.n y0.c)=Next.value (.slice t40.a t40.n t40.c))∧appSl 107 4 48 #[.int .i64 0,.int .i64 0,.slice none 0 0,.int .u64 0] t40.a t40.n t40.c (some (nb h3)) 1 h4 fun ra5 rn5 rc5 h5=>PtrOk x0 fun p49=>stOk h5 p49∧Let (setc h5 p49 (.slice ra5 rn5 rc5)) fun h6=>R (.int .i64 0:Value) h6)))) (CallTo Try.prog 64 #[.slice x3.a x3.n x3.c] h1 fun r h7=>∃ t32:Bool,r=.bool t32∧Cond t32 (R (.int .i64 182:Value) h7) (Cond (decide (x4 > (4503599627370496:Int))) (R (.int .i64 183:Value) h7) (PtrOk x0 fun p38=>∃ t40:Sl,cell h7 p38=some (.slice t40.a t40.n t40.c)∧CallTo Try.prog 65 #[.slice x3.a x3.n x3.c] h7 fun r h8=>∃ t44:Sl,r=.slice t44.a t44.n t44.c∧(∃ y0:Sl,cell h8 p38=some (.slice y0.a y0.n y0.c)∧Next.value (.slice y0.a y0.n y0.c)=Next.value (.slice t40.a t40.n t40.c))∧Let (h8.push (.cells #[.int .i64 x1,.int .i64 x2,.slice t44.a t44.n t44.c,.int .u64 x4] 107)) fun h9=>(∃ y0:Sl,cell h9 p38=some (.slice y0.a y0.n y0.c)∧Next.value (.slice y0.a y0.n y0.c)=Next.value (.slice t40.a t40.n t40.c))∧appSl 107 4 48 #[.int .i64 0,.int .i64 0,.slice none 0 0,.int .u64 0] t40.a t40.n t40.c (some (nb h8)) 1 h9 fun ra10 rn10 rc10 h10=>PtrOk x0 fun p49=>stOk h10 p49∧Let (setc h10 p49 (.slice ra10 rn10 rc10)) fun h11=>R (.int .i64 0:Value) h11)))))
def f43F (a0:Option Addr) (a1:Int) (a2:Int) (a3:Sl) (a4:Int) (h:Hp) (R:Value→Hp→Prop):Prop :=
 Cond (decide (a1 < (0:Int))) (f43K1  a0 a1 a2 a3 a4 true h R) (f43K1  a0 a1 a2 a3 a4 (decide (a1 ≥ (8:Int))) h R)
theorem f43F_eq (a0:Option Addr) (a1:Int) (a2:Int) (a3:Sl) (a4:Int) (h:Hp) (R:Value→Hp→Prop):evF Try.prog tab lv43 Try.f43 body43 [] [.pointer a0,.int .i64 a1,.int .i64 a2,.slice a3.a a3.n a3.c,.int .u64 a4] h R=f43F a0 a1 a2 a3 a4 h R:=by kernel_rfl
theorem f43F_ok {a0:Option Addr} {a1:Int} {a2:Int} {a3:Sl} {a4:Int} {h:Hp} {R:Value→Hp→Prop} (hF:f43F a0 a1 a2 a3 a4 h R):CallTo Try.prog 43 #[.pointer a0,.int .i64 a1,.int .i64 a2,.slice a3.a a3.n a3.c,.int .u64 a4] h R :=
 callTo_of_ev (lv:=lv43) (hints:=[]) (c:=body43) (args:=[.pointer a0,.int .i64 a1,.int .i64 a2,.slice a3.a a3.n a3.c,.int .u64 a4]) mixed tab_ok Try.func43 (by kernel_rfl) (by kernel_rfl) (by rw [f43F_eq]; exact hF)
/- (*larder/larderref18.Wait).Places -/
noncomputable def body44:Code:=(Try.f44.body).getD .skip
def lv44 (m:Nat):List Nat:=[]
def f44F (a0:Option Addr) (a1:Int) (h:Hp) (R:Value→Hp→Prop):Prop :=
 CallTo Try.prog 63 #[.pointer a0,.int .i64 a1] h fun r h1=>∃ t8:Int,r=.int .i64 t8∧Cond (decide (t8 < (0:Int))) (R (.slice none 0 0:Value) h1) (PtrOk a0 fun p12=>∃ t14:Sl,cell h1 p12=some (.slice t14.a t14.n t14.c)∧(0 ≤ t8∧t8 < ((t14.n:Nat):Int))∧PtrOk t14.a fun p16=>∃ t18:Sl,cell h1 ((p16.add (t8.toNat * 4)).add 2)=some (.slice t18.a t18.n t18.c)∧CallTo Try.prog 65 #[.slice t18.a t18.n t18.c] h1 fun r h2=>∃ t19:Sl,r=.slice t19.a t19.n t19.c∧R (.slice t19.a t19.n t19.c:Value) h2)
theorem f44F_eq (a0:Option Addr) (a1:Int) (h:Hp) (R:Value→Hp→Prop):evF Try.prog tab lv44 Try.f44 body44 [] [.pointer a0,.int .i64 a1] h R=f44F a0 a1 h R:=by kernel_rfl
theorem f44F_ok {a0:Option Addr} {a1:Int} {h:Hp} {R:Value→Hp→Prop} (hF:f44F a0 a1 h R):CallTo Try.prog 44 #[.pointer a0,.int .i64 a1] h R :=
 callTo_of_ev (lv:=lv44) (hints:=[]) (c:=body44) (args:=[.pointer a0,.int .i64 a1]) mixed tab_ok Try.func44 (by kernel_rfl) (by kernel_rfl) (by rw [f44F_eq]; exact hF)
/- (*larder/larderref18.Wait).Due -/
noncomputable def body45:Code:=(Try.f45.body).getD .skip
def lv45 (m:Nat):List Nat:=if m=3 then [0,1,5,6] else if m=5 then [0,1,5,6,7,8] else []
def f45I1 (J:Nat→Option Addr→Int→Sl→Sl→Hp→Prop) (n:Nat) (env:List Value) (h:Hp):Prop:=lenIs env 81 (DecP env 0 fun s0=>DecI .u64 env 1 fun s1=>DecL env 5 fun s5=>DecL env 6 fun s6=>J n s0 s1 s5 s6 h)
def f45I2 (J:Nat→Option Addr→Int→Sl→Sl→Int→Int→Hp→Prop) (n:Nat) (env:List Value) (h:Hp):Prop:=lenIs env 81 (DecP env 0 fun s0=>DecI .u64 env 1 fun s1=>DecL env 5 fun s5=>DecL env 6 fun s6=>DecI .i64 env 7 fun s7=>DecI .i64 env 8 fun s8=>J n s0 s1 s5 s6 s7 s8 h)
def f45K1 (J1:Nat→Option Addr→Int→Sl→Sl→Hp→Prop) (n1:Nat) (J2:Nat→Option Addr→Int→Sl→Sl→Int→Int→Hp→Prop) (n2:Nat) (x0:Option Addr) (x1:Int) (x5:Sl) (x6:Sl) (x7:Int) (x8:Int) (x62:Bool) (h:Hp) (R:Value→Hp→Prop):Prop :=
 Cond x62 (∃ m,m < n2∧J2 m x0 x1 x5 x6 x8 (IntKind.wrap .i64 (x8 + (1:Int))) h) (∃ m,m < n2∧J2 m x0 x1 x5 x6 x7 (IntKind.wrap .i64 (x8 + (1:Int))) h)
def f45L1 (J1:Nat→Option Addr→Int→Sl→Sl→Hp→Prop) (n1:Nat) (s0:Option Addr) (s1:Int) (s5:Sl) (s6:Sl) (g:Nat→Value) (h:Hp) (R:Value→Hp→Prop):Prop :=
 LoopEv (evC Try.prog tab lv45 (sub [1,1,1,0,0,0,1,0,1,0,0] body45)) (contAt Try.prog tab lv45 [1,1,1,0,0,0,1,0,1,0] body45 [loopK (f45I1 J1) n1] (bodyK Try.prog Try.f45 [] R)) [(0,.pointer s0),(1,.int .u64 s1),(5,.slice s5.a s5.n s5.c),(6,.slice s6.a s6.n s6.c),(7,.int .i64 (-1)),(8,.int .i64 0)] 81 h
theorem f45L1_eq (J1:Nat→Option Addr→Int→Sl→Sl→Hp→Prop) (n1:Nat) (s0:Option Addr) (s1:Int) (s5:Sl) (s6:Sl) (g:Nat→Value) (h:Hp) (R:Value→Hp→Prop):(evC Try.prog tab lv45 (sub [1,1,1,0,0] body45)) (loopK (f45I1 J1) n1 (contAt Try.prog tab lv45 [1,1,1,0] body45 [] (bodyK Try.prog Try.f45 [] R))) (mkEnv 81 [(0,.pointer s0),(1,.int .u64 s1),(5,.slice s5.a s5.n s5.c),(6,.slice s6.a s6.n s6.c)] g) h=f45L1 J1 n1 s0 s1 s5 s6 g h R:=by kernel_rfl
theorem f45I1_at (J:Nat→Option Addr→Int→Sl→Sl→Hp→Prop) (n:Nat) (s0:Option Addr) (s1:Int) (s5:Sl) (s6:Sl) (g:Nat→Value) (h:Hp):f45I1 J n (mkEnv 81 [(0,.pointer s0),(1,.int .u64 s1),(5,.slice s5.a s5.n s5.c),(6,.slice s6.a s6.n s6.c)] g) h=J n s0 s1 s5 s6 h:=by kernel_rfl
theorem f45L1_rule  {R:Value→Hp→Prop} {s0:Option Addr} {s1:Int} {s5:Sl} {s6:Sl} {h0:Hp} (J:Nat→Option Addr→Int→Sl→Sl→Hp→Prop) (n0:Nat) (hi:J n0 s0 s1 s5 s6 h0)
  (hr:∀ n s0 s1 s5 s6 g h,J n s0 s1 s5 s6 h→f45L1  J n s0 s1 s5 s6 g h R):LoopEv (evC Try.prog tab lv45 (sub [1,1,1,0,0] body45)) (contAt Try.prog tab lv45 [1,1,1,0] body45 [] (bodyK Try.prog Try.f45 [] R)) [(0,.pointer s0),(1,.int .u64 s1),(5,.slice s5.a s5.n s5.c),(6,.slice s6.a s6.n s6.c)] 81 h0:=by
 refine ⟨f45I1 J,n0,fun g=>by rw [f45I1_at]; exact hi,fun n env h hI=>?_⟩
 clear hi
 clear s0 s1 s5 s6
 obtain ⟨hlen,hI⟩:=Cond_true' hI
 have hlen:env.length=81:=by simpa using hlen
 obtain ⟨s0,es0,hI⟩:=DecP.out hI
 obtain ⟨s1,es1,hI⟩:=DecI.out hI
 obtain ⟨s5,es5,hI⟩:=DecL.out hI
 obtain ⟨s6,es6,hI⟩:=DecL.out hI
 rw [mkEnv_of (l:=[(0,.pointer s0),(1,.int .u64 s1),(5,.slice s5.a s5.n s5.c),(6,.slice s6.a s6.n s6.c)]) hlen (by simp only [List.mem_cons,List.not_mem_nil,or_false,forall_eq_or_imp,forall_eq]; exact ⟨es0,es1,es5,es6⟩)]
 rw [f45L1_eq]
 exact hr n s0 s1 s5 s6 _ h hI
def f45L2 (J1:Nat→Option Addr→Int→Sl→Sl→Hp→Prop) (n1:Nat) (J2:Nat→Option Addr→Int→Sl→Sl→Int→Int→Hp→Prop) (n2:Nat) (s0:Option Addr) (s1:Int) (s5:Sl) (s6:Sl) (s7:Int) (s8:Int) (g:Nat→Value) (h:Hp) (R:Value→Hp→Prop):Prop :=
 PtrOk s0 fun p18=>∃ t20:Sl,cell h p18=some (.slice t20.a t20.n t20.c)∧Cond (decide (s8 < (((t20.n:Nat):Int)))) (PtrOk s0 fun p26=>∃ t28:Sl,cell h p26=some (.slice t28.a t28.n t28.c)∧(0 ≤ s8∧s8 < ((t28.n:Nat):Int))∧PtrOk t28.a fun p30=>∃ t32:Int,cell h ((p30.add (s8.toNat * 4)).add 3)=some (.int .u64 t32)∧(0 ≤ s8∧s8 < ((s6.n:Nat):Int))∧PtrOk s6.a fun p35=>∃ t36:Bool,cell h (p35.add (s8.toNat * 1))=some (.bool t36)∧Cond (!t36) (Cond (t32 != (0:Int)) (Cond (decide (t32 ≤ s1)) (Cond (decide (s7 < (0:Int))) (f45K1 J1 n1 J2 n2 s0 s1 s5 s6 s7 s8 true h R) (PtrOk s0 fun p53=>∃ t55:Sl,cell h p53=some (.slice t55.a t55.n t55.c)∧(0 ≤ s7∧s7 < ((t55.n:Nat):Int))∧PtrOk t55.a fun p57=>∃ t59:Int,cell h ((p57.add (s7.toNat * 4)).add 3)=some (.int .u64 t59)∧f45K1 J1 n1 J2 n2 s0 s1 s5 s6 s7 s8 (decide (t32 < t59)) h R)) (f45K1 J1 n1 J2 n2 s0 s1 s5 s6 s7 s8 false h R)) (f45K1 J1 n1 J2 n2 s0 s1 s5 s6 s7 s8 false h R)) (f45K1 J1 n1 J2 n2 s0 s1 s5 s6 s7 s8 false h R)) (Cond (decide (s7 < (0:Int))) (R (.slice s5.a s5.n s5.c:Value) h) ((0 ≤ s7∧s7 < ((s6.n:Nat):Int))∧PtrOk s6.a fun p69=>stOk h (p69.add (s7.toNat * 1))∧Let (setc h (p69.add (s7.toNat * 1)) (.bool true)) fun h2=>PtrOk s0 fun p72=>∃ t74:Sl,cell h2 p72=some (.slice t74.a t74.n t74.c)∧(0 ≤ s7∧s7 < ((t74.n:Nat):Int))∧PtrOk t74.a fun p76=>∃ t78:Int,cell h2 (p76.add (s7.toNat * 4))=some (.int .i64 t78)∧Let (h2.push (.cells #[.int .i64 t78] 3)) fun h3=>appSl 3 1 8 #[.int .i64 0] s5.a s5.n s5.c (some (nb h2)) 1 h3 fun ra4 rn4 rc4 h4=>∃ m,m < n1∧J1 m s0 s1 ⟨ra4,rn4,rc4⟩ s6 h4))
theorem f45L2_eq (J1:Nat→Option Addr→Int→Sl→Sl→Hp→Prop) (n1:Nat) (J2:Nat→Option Addr→Int→Sl→Sl→Int→Int→Hp→Prop) (n2:Nat) (s0:Option Addr) (s1:Int) (s5:Sl) (s6:Sl) (s7:Int) (s8:Int) (g:Nat→Value) (h:Hp) (R:Value→Hp→Prop):(evC Try.prog tab lv45 (sub [1,1,1,0,0,0,1,0,1,0,0] body45)) (loopK (f45I2 J2) n2 (contAt Try.prog tab lv45 [1,1,1,0,0,0,1,0,1,0] body45 [loopK (f45I1 J1) n1] (bodyK Try.prog Try.f45 [] R))) (mkEnv 81 [(0,.pointer s0),(1,.int .u64 s1),(5,.slice s5.a s5.n s5.c),(6,.slice s6.a s6.n s6.c),(7,.int .i64 s7),(8,.int .i64 s8)] g) h=f45L2 J1 n1 J2 n2 s0 s1 s5 s6 s7 s8 g h R:=by kernel_rfl
theorem f45I2_at (J:Nat→Option Addr→Int→Sl→Sl→Int→Int→Hp→Prop) (n:Nat) (s0:Option Addr) (s1:Int) (s5:Sl) (s6:Sl) (s7:Int) (s8:Int) (g:Nat→Value) (h:Hp):f45I2 J n (mkEnv 81 [(0,.pointer s0),(1,.int .u64 s1),(5,.slice s5.a s5.n s5.c),(6,.slice s6.a s6.n s6.c),(7,.int .i64 s7),(8,.int .i64 s8)] g) h=J n s0 s1 s5 s6 s7 s8 h:=by kernel_rfl
theorem f45L2_rule {J1:Nat→Option Addr→Int→Sl→Sl→Hp→Prop} {n1:Nat} {R:Value→Hp→Prop} {s0:Option Addr} {s1:Int} {s5:Sl} {s6:Sl} {s7:Int} {s8:Int} {h0:Hp} (J:Nat→Option Addr→Int→Sl→Sl→Int→Int→Hp→Prop) (n0:Nat) (hi:J n0 s0 s1 s5 s6 s7 s8 h0)
  (hr:∀ n s0 s1 s5 s6 s7 s8 g h,J n s0 s1 s5 s6 s7 s8 h→f45L2 J1 n1 J n s0 s1 s5 s6 s7 s8 g h R):LoopEv (evC Try.prog tab lv45 (sub [1,1,1,0,0,0,1,0,1,0,0] body45)) (contAt Try.prog tab lv45 [1,1,1,0,0,0,1,0,1,0] body45 [loopK (f45I1 J1) n1] (bodyK Try.prog Try.f45 [] R)) [(0,.pointer s0),(1,.int .u64 s1),(5,.slice s5.a s5.n s5.c),(6,.slice s6.a s6.n s6.c),(7,.int .i64 s7),(8,.int .i64 s8)] 81 h0:=by
 refine ⟨f45I2 J,n0,fun g=>by rw [f45I2_at]; exact hi,fun n env h hI=>?_⟩
 clear hi
 clear s0 s1 s5 s6 s7 s8
 obtain ⟨hlen,hI⟩:=Cond_true' hI
 have hlen:env.length=81:=by simpa using hlen
 obtain ⟨s0,es0,hI⟩:=DecP.out hI
 obtain ⟨s1,es1,hI⟩:=DecI.out hI
 obtain ⟨s5,es5,hI⟩:=DecL.out hI
 obtain ⟨s6,es6,hI⟩:=DecL.out hI
 obtain ⟨s7,es7,hI⟩:=DecI.out hI
 obtain ⟨s8,es8,hI⟩:=DecI.out hI
 rw [mkEnv_of (l:=[(0,.pointer s0),(1,.int .u64 s1),(5,.slice s5.a s5.n s5.c),(6,.slice s6.a s6.n s6.c),(7,.int .i64 s7),(8,.int .i64 s8)]) hlen (by simp only [List.mem_cons,List.not_mem_nil,or_false,forall_eq_or_imp,forall_eq]; exact ⟨es0,es1,es5,es6,es7,es8⟩)]
 rw [f45L2_eq]
 exact hr n s0 s1 s5 s6 s7 s8 _ h hI
def f45F (a0:Option Addr) (a1:Int) (h:Hp) (R:Value→Hp→Prop):Prop :=
 PtrOk a0 fun p11=>∃ t13:Sl,cell h p11=some (.slice t13.a t13.n t13.c)∧(0 ≤ (((t13.n:Nat):Int))∧(((t13.n:Nat):Int)) ≤ (((t13.n:Nat):Int)))∧(((t13.n:Nat):Int)) < 2 ^ 62∧(1:Nat) * (((t13.n:Nat):Int)) ≤ 2 ^ 48∧Let (h.push (.cells (zrow #[.bool false] ((((t13.n:Nat):Int)).toNat * 1)) 4)) fun h1=>LoopEv (evC Try.prog tab lv45 (sub [1,1,1,0,0] body45)) (contAt Try.prog tab lv45 [1,1,1,0] body45 [] (bodyK Try.prog Try.f45 [] R)) [(0,.pointer a0),(1,.int .u64 a1),(5,.slice none 0 0),(6,.slice (some (nb h)) ((((t13.n:Nat):Int)).toNat) ((((t13.n:Nat):Int)).toNat))] 81 h1
theorem f45F_eq (a0:Option Addr) (a1:Int) (h:Hp) (R:Value→Hp→Prop):evF Try.prog tab lv45 Try.f45 body45 [] [.pointer a0,.int .u64 a1] h R=f45F a0 a1 h R:=by kernel_rfl
theorem f45F_ok {a0:Option Addr} {a1:Int} {h:Hp} {R:Value→Hp→Prop} (hF:f45F a0 a1 h R):CallTo Try.prog 45 #[.pointer a0,.int .u64 a1] h R :=
 callTo_of_ev (lv:=lv45) (hints:=[]) (c:=body45) (args:=[.pointer a0,.int .u64 a1]) mixed tab_ok Try.func45 (by kernel_rfl) (by kernel_rfl) (by rw [f45F_eq]; exact hF)
/- (*larder/larderref18.Wait).Waiting -/
noncomputable def body46:Code:=(Try.f46.body).getD .skip
def lv46 (m:Nat):List Nat:=if m=3 then [0,3,4] else []
def f46I1 (J:Nat→Option Addr→Sl→Int→Hp→Prop) (n:Nat) (env:List Value) (h:Hp):Prop:=lenIs env 26 (DecP env 0 fun s0=>DecL env 3 fun s3=>DecI .i64 env 4 fun s4=>J n s0 s3 s4 h)
def f46L1 (J1:Nat→Option Addr→Sl→Int→Hp→Prop) (n1:Nat) (s0:Option Addr) (s3:Sl) (s4:Int) (g:Nat→Value) (h:Hp) (R:Value→Hp→Prop):Prop :=
 PtrOk s0 fun p7=>∃ t9:Sl,cell h p7=some (.slice t9.a t9.n t9.c)∧Cond (decide (s4 < (((t9.n:Nat):Int)))) (PtrOk s0 fun p16=>∃ t18:Sl,cell h p16=some (.slice t18.a t18.n t18.c)∧(0 ≤ s4∧s4 < ((t18.n:Nat):Int))∧PtrOk t18.a fun p20=>∃ t22:Int,cell h (p20.add (s4.toNat * 4))=some (.int .i64 t22)∧Let (h.push (.cells #[.int .i64 t22] 3)) fun h1=>appSl 3 1 8 #[.int .i64 0] s3.a s3.n s3.c (some (nb h)) 1 h1 fun ra2 rn2 rc2 h2=>∃ m,m < n1∧J1 m s0 ⟨ra2,rn2,rc2⟩ (IntKind.wrap .i64 (s4 + (1:Int))) h2) (R (.slice s3.a s3.n s3.c:Value) h)
theorem f46L1_eq (J1:Nat→Option Addr→Sl→Int→Hp→Prop) (n1:Nat) (s0:Option Addr) (s3:Sl) (s4:Int) (g:Nat→Value) (h:Hp) (R:Value→Hp→Prop):(evC Try.prog tab lv46 (sub [1,1,0,1,0,0] body46)) (loopK (f46I1 J1) n1 (contAt Try.prog tab lv46 [1,1,0,1,0] body46 [] (bodyK Try.prog Try.f46 [] R))) (mkEnv 26 [(0,.pointer s0),(3,.slice s3.a s3.n s3.c),(4,.int .i64 s4)] g) h=f46L1 J1 n1 s0 s3 s4 g h R:=by kernel_rfl
theorem f46I1_at (J:Nat→Option Addr→Sl→Int→Hp→Prop) (n:Nat) (s0:Option Addr) (s3:Sl) (s4:Int) (g:Nat→Value) (h:Hp):f46I1 J n (mkEnv 26 [(0,.pointer s0),(3,.slice s3.a s3.n s3.c),(4,.int .i64 s4)] g) h=J n s0 s3 s4 h:=by kernel_rfl
theorem f46L1_rule  {R:Value→Hp→Prop} {s0:Option Addr} {s3:Sl} {s4:Int} {h0:Hp} (J:Nat→Option Addr→Sl→Int→Hp→Prop) (n0:Nat) (hi:J n0 s0 s3 s4 h0)
  (hr:∀ n s0 s3 s4 g h,J n s0 s3 s4 h→f46L1  J n s0 s3 s4 g h R):LoopEv (evC Try.prog tab lv46 (sub [1,1,0,1,0,0] body46)) (contAt Try.prog tab lv46 [1,1,0,1,0] body46 [] (bodyK Try.prog Try.f46 [] R)) [(0,.pointer s0),(3,.slice s3.a s3.n s3.c),(4,.int .i64 s4)] 26 h0:=by
 refine ⟨f46I1 J,n0,fun g=>by rw [f46I1_at]; exact hi,fun n env h hI=>?_⟩
 clear hi
 clear s0 s3 s4
 obtain ⟨hlen,hI⟩:=Cond_true' hI
 have hlen:env.length=26:=by simpa using hlen
 obtain ⟨s0,es0,hI⟩:=DecP.out hI
 obtain ⟨s3,es3,hI⟩:=DecL.out hI
 obtain ⟨s4,es4,hI⟩:=DecI.out hI
 rw [mkEnv_of (l:=[(0,.pointer s0),(3,.slice s3.a s3.n s3.c),(4,.int .i64 s4)]) hlen (by simp only [List.mem_cons,List.not_mem_nil,or_false,forall_eq_or_imp,forall_eq]; exact ⟨es0,es3,es4⟩)]
 rw [f46L1_eq]
 exact hr n s0 s3 s4 _ h hI
def f46F (a0:Option Addr) (h:Hp) (R:Value→Hp→Prop):Prop :=
 LoopEv (evC Try.prog tab lv46 (sub [1,1,0,1,0,0] body46)) (contAt Try.prog tab lv46 [1,1,0,1,0] body46 [] (bodyK Try.prog Try.f46 [] R)) [(0,.pointer a0),(3,.slice none 0 0),(4,.int .i64 0)] 26 h
theorem f46F_eq (a0:Option Addr) (h:Hp) (R:Value→Hp→Prop):evF Try.prog tab lv46 Try.f46 body46 [] [.pointer a0] h R=f46F a0 h R:=by kernel_rfl
theorem f46F_ok {a0:Option Addr} {h:Hp} {R:Value→Hp→Prop} (hF:f46F a0 h R):CallTo Try.prog 46 #[.pointer a0] h R :=
 callTo_of_ev (lv:=lv46) (hints:=[]) (c:=body46) (args:=[.pointer a0]) mixed tab_ok Try.func46 (by kernel_rfl) (by kernel_rfl) (by rw [f46F_eq]; exact hF)
/- (*larder/larderref18.Wait).Release -/
noncomputable def body59:Code:=(Try.f59.body).getD .skip
def lv59 (m:Nat):List Nat:=if m=6 then [0,5,6,7] else []
def f59I1 (J:Nat→Option Addr→Int→Sl→Int→Hp→Prop) (n:Nat) (env:List Value) (h:Hp):Prop:=lenIs env 39 (DecP env 0 fun s0=>DecI .i64 env 5 fun s5=>DecL env 6 fun s6=>DecI .i64 env 7 fun s7=>J n s0 s5 s6 s7 h)
def f59K1 (J1:Nat→Option Addr→Int→Sl→Int→Hp→Prop) (n1:Nat) (x0:Option Addr) (x5:Int) (x6:Sl) (x7:Int) (h:Hp) (R:Value→Hp→Prop):Prop :=
 ∃ m,m < n1∧J1 m x0 x5 x6 (IntKind.wrap .i64 (x7 + (1:Int))) h
def f59L1 (J1:Nat→Option Addr→Int→Sl→Int→Hp→Prop) (n1:Nat) (s0:Option Addr) (s5:Int) (s6:Sl) (s7:Int) (g:Nat→Value) (h:Hp) (R:Value→Hp→Prop):Prop :=
 PtrOk s0 fun p15=>∃ t17:Sl,cell h p15=some (.slice t17.a t17.n t17.c)∧Cond (decide (s7 < (((t17.n:Nat):Int)))) (Cond (s7 != s5) (PtrOk s0 fun p27=>∃ t29:Sl,cell h p27=some (.slice t29.a t29.n t29.c)∧(0 ≤ s7∧s7 < ((t29.n:Nat):Int))∧PtrOk t29.a fun p31=>∃ t32_0:Int,cell h (p31.add (s7.toNat * 4))=some (.int .i64 t32_0)∧∃ t32_1:Int,cell h ((p31.add (s7.toNat * 4)).add 1)=some (.int .i64 t32_1)∧∃ t32_2:Sl,cell h ((p31.add (s7.toNat * 4)).add 2)=some (.slice t32_2.a t32_2.n t32_2.c)∧∃ t32_3:Int,cell h ((p31.add (s7.toNat * 4)).add 3)=some (.int .u64 t32_3)∧Let (h.push (.cells #[.int .i64 t32_0,.int .i64 t32_1,.slice t32_2.a t32_2.n t32_2.c,.int .u64 t32_3] 107)) fun h2=>appSl 107 4 48 #[.int .i64 0,.int .i64 0,.slice none 0 0,.int .u64 0] s6.a s6.n s6.c (some (nb h)) 1 h2 fun ra3 rn3 rc3 h3=>f59K1 J1 n1 s0 s5 ⟨ra3,rn3,rc3⟩ s7 h3 R) (f59K1 J1 n1 s0 s5 s6 s7 h R)) (PtrOk s0 fun p37=>stOk h p37∧Let (setc h p37 (.slice s6.a s6.n s6.c)) fun h4=>R (.bool true:Value) h4)
theorem f59L1_eq (J1:Nat→Option Addr→Int→Sl→Int→Hp→Prop) (n1:Nat) (s0:Option Addr) (s5:Int) (s6:Sl) (s7:Int) (g:Nat→Value) (h:Hp) (R:Value→Hp→Prop):(evC Try.prog tab lv59 (sub [1,1,1,1,0,1,0,0] body59)) (loopK (f59I1 J1) n1 (contAt Try.prog tab lv59 [1,1,1,1,0,1,0] body59 [] (bodyK Try.prog Try.f59 [] R))) (mkEnv 39 [(0,.pointer s0),(5,.int .i64 s5),(6,.slice s6.a s6.n s6.c),(7,.int .i64 s7)] g) h=f59L1 J1 n1 s0 s5 s6 s7 g h R:=by kernel_rfl
theorem f59I1_at (J:Nat→Option Addr→Int→Sl→Int→Hp→Prop) (n:Nat) (s0:Option Addr) (s5:Int) (s6:Sl) (s7:Int) (g:Nat→Value) (h:Hp):f59I1 J n (mkEnv 39 [(0,.pointer s0),(5,.int .i64 s5),(6,.slice s6.a s6.n s6.c),(7,.int .i64 s7)] g) h=J n s0 s5 s6 s7 h:=by kernel_rfl
theorem f59L1_rule  {R:Value→Hp→Prop} {s0:Option Addr} {s5:Int} {s6:Sl} {s7:Int} {h0:Hp} (J:Nat→Option Addr→Int→Sl→Int→Hp→Prop) (n0:Nat) (hi:J n0 s0 s5 s6 s7 h0)
  (hr:∀ n s0 s5 s6 s7 g h,J n s0 s5 s6 s7 h→f59L1  J n s0 s5 s6 s7 g h R):LoopEv (evC Try.prog tab lv59 (sub [1,1,1,1,0,1,0,0] body59)) (contAt Try.prog tab lv59 [1,1,1,1,0,1,0] body59 [] (bodyK Try.prog Try.f59 [] R)) [(0,.pointer s0),(5,.int .i64 s5),(6,.slice s6.a s6.n s6.c),(7,.int .i64 s7)] 39 h0:=by
 refine ⟨f59I1 J,n0,fun g=>by rw [f59I1_at]; exact hi,fun n env h hI=>?_⟩
 clear hi
 clear s0 s5 s6 s7
 obtain ⟨hlen,hI⟩:=Cond_true' hI
 have hlen:env.length=39:=by simpa using hlen
 obtain ⟨s0,es0,hI⟩:=DecP.out hI
 obtain ⟨s5,es5,hI⟩:=DecI.out hI
 obtain ⟨s6,es6,hI⟩:=DecL.out hI
 obtain ⟨s7,es7,hI⟩:=DecI.out hI
 rw [mkEnv_of (l:=[(0,.pointer s0),(5,.int .i64 s5),(6,.slice s6.a s6.n s6.c),(7,.int .i64 s7)]) hlen (by simp only [List.mem_cons,List.not_mem_nil,or_false,forall_eq_or_imp,forall_eq]; exact ⟨es0,es5,es6,es7⟩)]
 rw [f59L1_eq]
 exact hr n s0 s5 s6 s7 _ h hI
def f59F (a0:Option Addr) (a1:Int) (h:Hp) (R:Value→Hp→Prop):Prop :=
 CallTo Try.prog 63 #[.pointer a0,.int .i64 a1] h fun r h1=>∃ t10:Int,r=.int .i64 t10∧Cond (decide (t10 < (0:Int))) (R (.bool false:Value) h1) (LoopEv (evC Try.prog tab lv59 (sub [1,1,1,1,0,1,0,0] body59)) (contAt Try.prog tab lv59 [1,1,1,1,0,1,0] body59 [] (bodyK Try.prog Try.f59 [] R)) [(0,.pointer a0),(5,.int .i64 t10),(6,.slice none 0 0),(7,.int .i64 0)] 39 h1)
theorem f59F_eq (a0:Option Addr) (a1:Int) (h:Hp) (R:Value→Hp→Prop):evF Try.prog tab lv59 Try.f59 body59 [] [.pointer a0,.int .i64 a1] h R=f59F a0 a1 h R:=by kernel_rfl
theorem f59F_ok {a0:Option Addr} {a1:Int} {h:Hp} {R:Value→Hp→Prop} (hF:f59F a0 a1 h R):CallTo Try.prog 59 #[.pointer a0,.int .i64 a1] h R :=
 callTo_of_ev (lv:=lv59) (hints:=[]) (c:=body59) (args:=[.pointer a0,.int .i64 a1]) mixed tab_ok Try.func59 (by kernel_rfl) (by kernel_rfl) (by rw [f59F_eq]; exact hF)
/- (*larder/larderref18.Wait).Next -/
noncomputable def body61:Code:=(Try.f61.body).getD .skip
def lv61 (m:Nat):List Nat:=if m=2 then [0,2,4,8] else []
def f61I1 (J:Nat→Option Addr→Int→Addr→Int→Hp→Prop) (n:Nat) (env:List Value) (h:Hp):Prop:=lenIs env 47 (DecP env 0 fun s0=>DecI .i64 env 2 fun s2=>DecA env 4 fun s4=>DecI .i64 env 8 fun s8=>J n s0 s2 s4 s8 h)
def f61K1 (J1:Nat→Option Addr→Int→Addr→Int→Hp→Prop) (n1:Nat) (x0:Option Addr) (x2:Int) (x4:Addr) (x8:Int) (x38:Bool) (h:Hp) (R:Value→Hp→Prop):Prop :=
 Cond x38 (PtrOk x0 fun p40=>∃ t42:Sl,cell h p40=some (.slice t42.a t42.n t42.c)∧(0 ≤ x8∧x8 < ((t42.n:Nat):Int))∧PtrOk t42.a fun p44=>∃ t46:Int,cell h (p44.add (x8.toNat * 4))=some (.int .i64 t46)∧R (.tuple #[.int .i64 t46,.bool true]:Value) h) (∃ m,m < n1∧J1 m x0 x2 x4 (IntKind.wrap .i64 (x8 + (1:Int))) h)
def f61L1 (J1:Nat→Option Addr→Int→Addr→Int→Hp→Prop) (n1:Nat) (s0:Option Addr) (s2:Int) (s4:Addr) (s8:Int) (g:Nat→Value) (h:Hp) (R:Value→Hp→Prop):Prop :=
 PtrOk s0 fun p11=>∃ t13:Sl,cell h p11=some (.slice t13.a t13.n t13.c)∧Cond (decide (s8 < (((t13.n:Nat):Int)))) (PtrOk s0 fun p19=>∃ t21:Sl,cell h p19=some (.slice t21.a t21.n t21.c)∧(0 ≤ s8∧s8 < ((t21.n:Nat):Int))∧PtrOk t21.a fun p23=>∃ t25:Int,cell h ((p23.add (s8.toNat * 4)).add 1)=some (.int .i64 t25)∧Cond (t25 == s2) (PtrOk s0 fun p30=>∃ t32:Sl,cell h p30=some (.slice t32.a t32.n t32.c)∧(0 ≤ s8∧s8 < ((t32.n:Nat):Int))∧PtrOk t32.a fun p34=>∃ t35_0:Int,cell h (p34.add (s8.toNat * 4))=some (.int .i64 t35_0)∧∃ t35_1:Int,cell h ((p34.add (s8.toNat * 4)).add 1)=some (.int .i64 t35_1)∧∃ t35_2:Sl,cell h ((p34.add (s8.toNat * 4)).add 2)=some (.slice t35_2.a t35_2.n t35_2.c)∧∃ t35_3:Int,cell h ((p34.add (s8.toNat * 4)).add 3)=some (.int .u64 t35_3)∧∃ t36_0:Int,cell h s4=some (.int .i64 t36_0)∧∃ t36_1:ByteArray,cell h (s4.add 1)=some (.string t36_1)∧CallTo Try.prog 76 #[.agg #[.int .i64 t35_0,.int .i64 t35_1,.slice t35_2.a t35_2.n t35_2.c,.int .u64 t35_3],.agg #[.int .i64 t36_0,.string t36_1]] h fun r h2=>∃ t37:Bool,r=.bool t37∧f61K1 J1 n1 s0 s2 s4 s8 t37 h2 R) (f61K1 J1 n1 s0 s2 s4 s8 false h R)) (R (.tuple #[.int .i64 0,.bool false]:Value) h)
theorem f61L1_eq (J1:Nat→Option Addr→Int→Addr→Int→Hp→Prop) (n1:Nat) (s0:Option Addr) (s2:Int) (s4:Addr) (s8:Int) (g:Nat→Value) (h:Hp) (R:Value→Hp→Prop):(evC Try.prog tab lv61 (sub [1,0,1,0,0] body61)) (loopK (f61I1 J1) n1 (contAt Try.prog tab lv61 [1,0,1,0] body61 [] (bodyK Try.prog Try.f61 [] R))) (mkEnv 47 [(0,.pointer s0),(2,.int .i64 s2),(4,.pointer (some s4)),(8,.int .i64 s8)] g) h=f61L1 J1 n1 s0 s2 s4 s8 g h R:=by kernel_rfl
theorem f61I1_at (J:Nat→Option Addr→Int→Addr→Int→Hp→Prop) (n:Nat) (s0:Option Addr) (s2:Int) (s4:Addr) (s8:Int) (g:Nat→Value) (h:Hp):f61I1 J n (mkEnv 47 [(0,.pointer s0),(2,.int .i64 s2),(4,.pointer (some s4)),(8,.int .i64 s8)] g) h=J n s0 s2 s4 s8 h:=by kernel_rfl
theorem f61L1_rule  {R:Value→Hp→Prop} {s0:Option Addr} {s2:Int} {s4:Addr} {s8:Int} {h0:Hp} (J:Nat→Option Addr→Int→Addr→Int→Hp→Prop) (n0:Nat) (hi:J n0 s0 s2 s4 s8 h0)
  (hr:∀ n s0 s2 s4 s8 g h,J n s0 s2 s4 s8 h→f61L1  J n s0 s2 s4 s8 g h R):LoopEv (evC Try.prog tab lv61 (sub [1,0,1,0,0] body61)) (contAt Try.prog tab lv61 [1,0,1,0] body61 [] (bodyK Try.prog Try.f61 [] R)) [(0,.pointer s0),(2,.int .i64 s2),(4,.pointer (some s4)),(8,.int .i64 s8)] 47 h0:=by
 refine ⟨f61I1 J,n0,fun g=>by rw [f61I1_at]; exact hi,fun n env h hI=>?_⟩
 clear hi
 clear s0 s2 s4 s8
 obtain ⟨hlen,hI⟩:=Cond_true' hI
 have hlen:env.length=47:=by simpa using hlen
 obtain ⟨s0,es0,hI⟩:=DecP.out hI
 obtain ⟨s2,es2,hI⟩:=DecI.out hI
 obtain ⟨s4,es4,hI⟩:=DecA.out hI
 obtain ⟨s8,es8,hI⟩:=DecI.out hI
 rw [mkEnv_of (l:=[(0,.pointer s0),(2,.int .i64 s2),(4,.pointer (some s4)),(8,.int .i64 s8)]) hlen (by simp only [List.mem_cons,List.not_mem_nil,or_false,forall_eq_or_imp,forall_eq]; exact ⟨es0,es2,es4,es8⟩)]
 rw [f61L1_eq]
 exact hr n s0 s2 s4 s8 _ h hI
def f61F (a0:Option Addr) (a1_0:Int) (a1_1:ByteArray) (a2:Int) (h:Hp) (R:Value→Hp→Prop):Prop :=
 Let (h.push (.cells #[.int .i64 a1_0,.string a1_1] 40)) fun h1=>LoopEv (evC Try.prog tab lv61 (sub [1,0,1,0,0] body61)) (contAt Try.prog tab lv61 [1,0,1,0] body61 [] (bodyK Try.prog Try.f61 [] R)) [(0,.pointer a0),(2,.int .i64 a2),(4,.pointer (some (nb h))),(8,.int .i64 0)] 47 h1
theorem f61F_eq (a0:Option Addr) (a1_0:Int) (a1_1:ByteArray) (a2:Int) (h:Hp) (R:Value→Hp→Prop):evF Try.prog tab lv61 Try.f61 body61 [] [.pointer a0,.agg #[.int .i64 a1_0,.string a1_1],.int .i64 a2] h R=f61F a0 a1_0 a1_1 a2 h R:=by kernel_rfl
theorem f61F_ok {a0:Option Addr} {a1_0:Int} {a1_1:ByteArray} {a2:Int} {h:Hp} {R:Value→Hp→Prop} (hF:f61F a0 a1_0 a1_1 a2 h R):CallTo Try.prog 61 #[.pointer a0,.agg #[.int .i64 a1_0,.string a1_1],.int .i64 a2] h R :=
 callTo_of_ev (lv:=lv61) (hints:=[]) (c:=body61) (args:=[.pointer a0,.agg #[.int .i64 a1_0,.string a1_1],.int .i64 a2]) mixed tab_ok Try.func61 (by kernel_rfl) (by kernel_rfl) (by rw [f61F_eq]; exact hF)
/- (*larder/larderref18.Wait).Until -/
noncomputable def body62:Code:=(Try.f62.body).getD .skip
def lv62 (m:Nat):List Nat:=[]
def f62F (a0:Option Addr) (a1:Int) (h:Hp) (R:Value→Hp→Prop):Prop :=
 CallTo Try.prog 63 #[.pointer a0,.int .i64 a1] h fun r h1=>∃ t9:Int,r=.int .i64 t9∧Cond (decide (t9 < (0:Int))) (R (.tuple #[.int .u64 0,.bool false]:Value) h1) (PtrOk a0 fun p13=>∃ t15:Sl,cell h1 p13=some (.slice t15.a t15.n t15.c)∧(0 ≤ t9∧t9 < ((t15.n:Nat):Int))∧PtrOk t15.a fun p17=>∃ t19:Int,cell h1 ((p17.add (t9.toNat * 4)).add 3)=some (.int .u64 t19)∧R (.tuple #[.int .u64 t19,.bool true]:Value) h1)
theorem f62F_eq (a0:Option Addr) (a1:Int) (h:Hp) (R:Value→Hp→Prop):evF Try.prog tab lv62 Try.f62 body62 [] [.pointer a0,.int .i64 a1] h R=f62F a0 a1 h R:=by kernel_rfl
theorem f62F_ok {a0:Option Addr} {a1:Int} {h:Hp} {R:Value→Hp→Prop} (hF:f62F a0 a1 h R):CallTo Try.prog 62 #[.pointer a0,.int .i64 a1] h R :=
 callTo_of_ev (lv:=lv62) (hints:=[]) (c:=body62) (args:=[.pointer a0,.int .i64 a1]) mixed tab_ok Try.func62 (by kernel_rfl) (by kernel_rfl) (by rw [f62F_eq]; exact hF)
/- (*larder/larderref18.Wait).Find -/
noncomputable def body63:Code:=(Try.f63.body).getD .skip
def lv63 (m:Nat):List Nat:=if m=2 then [0,1,5] else []
def f63I1 (J:Nat→Option Addr→Int→Int→Hp→Prop) (n:Nat) (env:List Value) (h:Hp):Prop:=lenIs env 26 (DecP env 0 fun s0=>DecI .i64 env 1 fun s1=>DecI .i64 env 5 fun s5=>J n s0 s1 s5 h)
def f63L1 (J1:Nat→Option Addr→Int→Int→Hp→Prop) (n1:Nat) (s0:Option Addr) (s1:Int) (s5:Int) (g:Nat→Value) (h:Hp) (R:Value→Hp→Prop):Prop :=
 PtrOk s0 fun p8=>∃ t10:Sl,cell h p8=some (.slice t10.a t10.n t10.c)∧Cond (decide (s5 < (((t10.n:Nat):Int)))) (PtrOk s0 fun p16=>∃ t18:Sl,cell h p16=some (.slice t18.a t18.n t18.c)∧(0 ≤ s5∧s5 < ((t18.n:Nat):Int))∧PtrOk t18.a fun p20=>∃ t22:Int,cell h (p20.add (s5.toNat * 4))=some (.int .i64 t22)∧Cond (t22 == s1) (R (.int .i64 s5:Value) h) (∃ m,m < n1∧J1 m s0 s1 (IntKind.wrap .i64 (s5 + (1:Int))) h)) (R ((.int .i64 (-1):Value)) h)
theorem f63L1_eq (J1:Nat→Option Addr→Int→Int→Hp→Prop) (n1:Nat) (s0:Option Addr) (s1:Int) (s5:Int) (g:Nat→Value) (h:Hp) (R:Value→Hp→Prop):(evC Try.prog tab lv63 (sub [1,0,1,0,0] body63)) (loopK (f63I1 J1) n1 (contAt Try.prog tab lv63 [1,0,1,0] body63 [] (bodyK Try.prog Try.f63 [] R))) (mkEnv 26 [(0,.pointer s0),(1,.int .i64 s1),(5,.int .i64 s5)] g) h=f63L1 J1 n1 s0 s1 s5 g h R:=by kernel_rfl
theorem f63I1_at (J:Nat→Option Addr→Int→Int→Hp→Prop) (n:Nat) (s0:Option Addr) (s1:Int) (s5:Int) (g:Nat→Value) (h:Hp):f63I1 J n (mkEnv 26 [(0,.pointer s0),(1,.int .i64 s1),(5,.int .i64 s5)] g) h=J n s0 s1 s5 h:=by kernel_rfl
theorem f63L1_rule  {R:Value→Hp→Prop} {s0:Option Addr} {s1:Int} {s5:Int} {h0:Hp} (J:Nat→Option Addr→Int→Int→Hp→Prop) (n0:Nat) (hi:J n0 s0 s1 s5 h0)
  (hr:∀ n s0 s1 s5 g h,J n s0 s1 s5 h→f63L1  J n s0 s1 s5 g h R):LoopEv (evC Try.prog tab lv63 (sub [1,0,1,0,0] body63)) (contAt Try.prog tab lv63 [1,0,1,0] body63 [] (bodyK Try.prog Try.f63 [] R)) [(0,.pointer s0),(1,.int .i64 s1),(5,.int .i64 s5)] 26 h0:=by
 refine ⟨f63I1 J,n0,fun g=>by rw [f63I1_at]; exact hi,fun n env h hI=>?_⟩
 clear hi
 clear s0 s1 s5
 obtain ⟨hlen,hI⟩:=Cond_true' hI
 have hlen:env.length=26:=by simpa using hlen
 obtain ⟨s0,es0,hI⟩:=DecP.out hI
 obtain ⟨s1,es1,hI⟩:=DecI.out hI
 obtain ⟨s5,es5,hI⟩:=DecI.out hI
 rw [mkEnv_of (l:=[(0,.pointer s0),(1,.int .i64 s1),(5,.int .i64 s5)]) hlen (by simp only [List.mem_cons,List.not_mem_nil,or_false,forall_eq_or_imp,forall_eq]; exact ⟨es0,es1,es5⟩)]
 rw [f63L1_eq]
 exact hr n s0 s1 s5 _ h hI
def f63F (a0:Option Addr) (a1:Int) (h:Hp) (R:Value→Hp→Prop):Prop :=
 LoopEv (evC Try.prog tab lv63 (sub [1,0,1,0,0] body63)) (contAt Try.prog tab lv63 [1,0,1,0] body63 [] (bodyK Try.prog Try.f63 [] R)) [(0,.pointer a0),(1,.int .i64 a1),(5,.int .i64 0)] 26 h
theorem f63F_eq (a0:Option Addr) (a1:Int) (h:Hp) (R:Value→Hp→Prop):evF Try.prog tab lv63 Try.f63 body63 [] [.pointer a0,.int .i64 a1] h R=f63F a0 a1 h R:=by kernel_rfl
theorem f63F_ok {a0:Option Addr} {a1:Int} {h:Hp} {R:Value→Hp→Prop} (hF:f63F a0 a1 h R):CallTo Try.prog 63 #[.pointer a0,.int .i64 a1] h R :=
 callTo_of_ev (lv:=lv63) (hints:=[]) (c:=body63) (args:=[.pointer a0,.int .i64 a1]) mixed tab_ok Try.func63 (by kernel_rfl) (by kernel_rfl) (by rw [f63F_eq]; exact hF)
/- larder/larderref18.bad -/
noncomputable def body64:Code:=(Try.f64.body).getD .skip
def lv64 (m:Nat):List Nat:=if m=4 then [0,3] else []
def f64I1 (J:Nat→Sl→Int→Hp→Prop) (n:Nat) (env:List Value) (h:Hp):Prop:=lenIs env 41 (DecL env 0 fun s0=>DecI .i64 env 3 fun s3=>J n s0 s3 h)
def f64K1  (x0:Sl) (x11:Bool) (h:Hp) (R:Value→Hp→Prop):Prop :=
 Cond x11 (R (.bool true:Value) h) (LoopEv (evC Try.prog tab lv64 (sub [1,1,0,1,0,0] body64)) (contAt Try.prog tab lv64 [1,1,0,1,0] body64 [] (bodyK Try.prog Try.f64 [] R)) [(0,.slice x0.a x0.n x0.c),(3,.int .i64 0)] 41 h)
def f64L1 (J1:Nat→Sl→Int→Hp→Prop) (n1:Nat) (s0:Sl) (s3:Int) (g:Nat→Value) (h:Hp) (R:Value→Hp→Prop):Prop :=
 Cond (decide (s3 < (((s0.n:Nat):Int)))) ((0 ≤ s3∧s3 < ((s0.n:Nat):Int))∧PtrOk s0.a fun p20=>∃ t22:Int,cell h (p20.add (s3.toNat * 2))=some (.int .i64 t22)∧Cond (decide (t22 < (0:Int))) (R (.bool true:Value) h) ((0 ≤ s3∧s3 < ((s0.n:Nat):Int))∧PtrOk s0.a fun p27=>∃ t29:Int,cell h (p27.add (s3.toNat * 2))=some (.int .i64 t29)∧Cond (decide (t29 ≥ (4:Int))) (R (.bool true:Value) h) ((0 ≤ s3∧s3 < ((s0.n:Nat):Int))∧PtrOk s0.a fun p35=>∃ t37:ByteArray,cell h ((p35.add (s3.toNat * 2)).add 1)=some (.string t37)∧Cond (decide ((((t37.size:Nat):Int)) > (4096:Int))) (R (.bool true:Value) h) (∃ m,m < n1∧J1 m s0 (IntKind.wrap .i64 (s3 + (1:Int))) h)))) (R (.bool false:Value) h)
theorem f64L1_eq (J1:Nat→Sl→Int→Hp→Prop) (n1:Nat) (s0:Sl) (s3:Int) (g:Nat→Value) (h:Hp) (R:Value→Hp→Prop):(evC Try.prog tab lv64 (sub [1,1,0,1,0,0] body64)) (loopK (f64I1 J1) n1 (contAt Try.prog tab lv64 [1,1,0,1,0] body64 [] (bodyK Try.prog Try.f64 [] R))) (mkEnv 41 [(0,.slice s0.a s0.n s0.c),(3,.int .i64 s3)] g) h=f64L1 J1 n1 s0 s3 g h R:=by kernel_rfl
theorem f64I1_at (J:Nat→Sl→Int→Hp→Prop) (n:Nat) (s0:Sl) (s3:Int) (g:Nat→Value) (h:Hp):f64I1 J n (mkEnv 41 [(0,.slice s0.a s0.n s0.c),(3,.int .i64 s3)] g) h=J n s0 s3 h:=by kernel_rfl
theorem f64L1_rule  {R:Value→Hp→Prop} {s0:Sl} {s3:Int} {h0:Hp} (J:Nat→Sl→Int→Hp→Prop) (n0:Nat) (hi:J n0 s0 s3 h0)
  (hr:∀ n s0 s3 g h,J n s0 s3 h→f64L1  J n s0 s3 g h R):LoopEv (evC Try.prog tab lv64 (sub [1,1,0,1,0,0] body64)) (contAt Try.prog tab lv64 [1,1,0,1,0] body64 [] (bodyK Try.prog Try.f64 [] R)) [(0,.slice s0.a s0.n s0.c),(3,.int .i64 s3)] 41 h0:=by
 refine ⟨f64I1 J,n0,fun g=>by rw [f64I1_at]; exact hi,fun n env h hI=>?_⟩
 clear hi
 clear s0 s3
 obtain ⟨hlen,hI⟩:=Cond_true' hI
 have hlen:env.length=41:=by simpa using hlen
 obtain ⟨s0,es0,hI⟩:=DecL.out hI
 obtain ⟨s3,es3,hI⟩:=DecI.out hI
 rw [mkEnv_of (l:=[(0,.slice s0.a s0.n s0.c),(3,.int .i64 s3)]) hlen (by simp only [List.mem_cons,List.not_mem_nil,or_false,forall_eq_or_imp,forall_eq]; exact ⟨es0,es3⟩)]
 rw [f64L1_eq]
 exact hr n s0 s3 _ h hI
def f64F (a0:Sl) (h:Hp) (R:Value→Hp→Prop):Prop :=
 Cond ((((a0.n:Nat):Int)) == (0:Int)) (f64K1  a0 true h R) (f64K1  a0 (decide ((((a0.n:Nat):Int)) > (64:Int))) h R)
theorem f64F_eq (a0:Sl) (h:Hp) (R:Value→Hp→Prop):evF Try.prog tab lv64 Try.f64 body64 [] [.slice a0.a a0.n a0.c] h R=f64F a0 h R:=by kernel_rfl
theorem f64F_ok {a0:Sl} {h:Hp} {R:Value→Hp→Prop} (hF:f64F a0 h R):CallTo Try.prog 64 #[.slice a0.a a0.n a0.c] h R :=
 callTo_of_ev (lv:=lv64) (hints:=[]) (c:=body64) (args:=[.slice a0.a a0.n a0.c]) mixed tab_ok Try.func64 (by kernel_rfl) (by kernel_rfl) (by rw [f64F_eq]; exact hF)
/- larder/larderref18.copies -/
noncomputable def body65:Code:=(Try.f65.body).getD .skip
def lv65 (m:Nat):List Nat:=if m=3 then [0,3,4] else []
def f65I1 (J:Nat→Sl→Sl→Int→Hp→Prop) (n:Nat) (env:List Value) (h:Hp):Prop:=lenIs env 19 (DecL env 0 fun s0=>DecL env 3 fun s3=>DecI .i64 env 4 fun s4=>J n s0 s3 s4 h)
def f65L1 (J1:Nat→Sl→Sl→Int→Hp→Prop) (n1:Nat) (s0:Sl) (s3:Sl) (s4:Int) (g:Nat→Value) (h:Hp) (R:Value→Hp→Prop):Prop :=
 Cond (decide (s4 < (((s0.n:Nat):Int)))) ((0 ≤ s4∧s4 < ((s0.n:Nat):Int))∧PtrOk s0.a fun p14=>∃ t15_0:Int,cell h (p14.add (s4.toNat * 2))=some (.int .i64 t15_0)∧∃ t15_1:ByteArray,cell h ((p14.add (s4.toNat * 2)).add 1)=some (.string t15_1)∧Let (h.push (.cells #[.int .i64 t15_0,.string t15_1] 40)) fun h1=>appSl 40 2 24 #[.int .i64 0,.string ⟨#[]⟩] s3.a s3.n s3.c (some (nb h)) 1 h1 fun ra2 rn2 rc2 h2=>∃ m,m < n1∧J1 m s0 ⟨ra2,rn2,rc2⟩ (IntKind.wrap .i64 (s4 + (1:Int))) h2) (R (.slice s3.a s3.n s3.c:Value) h)
theorem f65L1_eq (J1:Nat→Sl→Sl→Int→Hp→Prop) (n1:Nat) (s0:Sl) (s3:Sl) (s4:Int) (g:Nat→Value) (h:Hp) (R:Value→Hp→Prop):(evC Try.prog tab lv65 (sub [1,1,0,1,0,0] body65)) (loopK (f65I1 J1) n1 (contAt Try.prog tab lv65 [1,1,0,1,0] body65 [] (bodyK Try.prog Try.f65 [] R))) (mkEnv 19 [(0,.slice s0.a s0.n s0.c),(3,.slice s3.a s3.n s3.c),(4,.int .i64 s4)] g) h=f65L1 J1 n1 s0 s3 s4 g h R:=by kernel_rfl
theorem f65I1_at (J:Nat→Sl→Sl→Int→Hp→Prop) (n:Nat) (s0:Sl) (s3:Sl) (s4:Int) (g:Nat→Value) (h:Hp):f65I1 J n (mkEnv 19 [(0,.slice s0.a s0.n s0.c),(3,.slice s3.a s3.n s3.c),(4,.int .i64 s4)] g) h=J n s0 s3 s4 h:=by kernel_rfl
theorem f65L1_rule  {R:Value→Hp→Prop} {s0:Sl} {s3:Sl} {s4:Int} {h0:Hp} (J:Nat→Sl→Sl→Int→Hp→Prop) (n0:Nat) (hi:J n0 s0 s3 s4 h0)
  (hr:∀ n s0 s3 s4 g h,J n s0 s3 s4 h→f65L1  J n s0 s3 s4 g h R):LoopEv (evC Try.prog tab lv65 (sub [1,1,0,1,0,0] body65)) (contAt Try.prog tab lv65 [1,1,0,1,0] body65 [] (bodyK Try.prog Try.f65 [] R)) [(0,.slice s0.a s0.n s0.c),(3,.slice s3.a s3.n s3.c),(4,.int .i64 s4)] 19 h0:=by
 refine ⟨f65I1 J,n0,fun g=>by rw [f65I1_at]; exact hi,fun n env h hI=>?_⟩
 clear hi
 clear s0 s3 s4
 obtain ⟨hlen,hI⟩:=Cond_true' hI
 have hlen:env.length=19:=by simpa using hlen
 obtain ⟨s0,es0,hI⟩:=DecL.out hI
 obtain ⟨s3,es3,hI⟩:=DecL.out hI
 obtain ⟨s4,es4,hI⟩:=DecI.out hI
 rw [mkEnv_of (l:=[(0,.slice s0.a s0.n s0.c),(3,.slice s3.a s3.n s3.c),(4,.int .i64 s4)]) hlen (by simp only [List.mem_cons,List.not_mem_nil,or_false,forall_eq_or_imp,forall_eq]; exact ⟨es0,es3,es4⟩)]
 rw [f65L1_eq]
 exact hr n s0 s3 s4 _ h hI
def f65F (a0:Sl) (h:Hp) (R:Value→Hp→Prop):Prop :=
 LoopEv (evC Try.prog tab lv65 (sub [1,1,0,1,0,0] body65)) (contAt Try.prog tab lv65 [1,1,0,1,0] body65 [] (bodyK Try.prog Try.f65 [] R)) [(0,.slice a0.a a0.n a0.c),(3,.slice none 0 0),(4,.int .i64 0)] 19 h
theorem f65F_eq (a0:Sl) (h:Hp) (R:Value→Hp→Prop):evF Try.prog tab lv65 Try.f65 body65 [] [.slice a0.a a0.n a0.c] h R=f65F a0 h R:=by kernel_rfl
theorem f65F_ok {a0:Sl} {h:Hp} {R:Value→Hp→Prop} (hF:f65F a0 h R):CallTo Try.prog 65 #[.slice a0.a a0.n a0.c] h R :=
 callTo_of_ev (lv:=lv65) (hints:=[]) (c:=body65) (args:=[.slice a0.a a0.n a0.c]) mixed tab_ok Try.func65 (by kernel_rfl) (by kernel_rfl) (by rw [f65F_eq]; exact hF)
/- larder/larderref18.names -/
noncomputable def body76:Code:=(Try.f76.body).getD .skip
def lv76 (m:Nat):List Nat:=if m=2 then [2,3,5] else []
def f76I1 (J:Nat→Addr→Addr→Int→Hp→Prop) (n:Nat) (env:List Value) (h:Hp):Prop:=lenIs env 33 (DecA env 2 fun s2=>DecA env 3 fun s3=>DecI .i64 env 5 fun s5=>J n s2 s3 s5 h)
def f76K1 (J1:Nat→Addr→Addr→Int→Hp→Prop) (n1:Nat) (x2:Addr) (x3:Addr) (x5:Int) (x32:Bool) (h:Hp) (R:Value→Hp→Prop):Prop :=
 Cond x32 (R (.bool true:Value) h) (∃ m,m < n1∧J1 m x2 x3 (IntKind.wrap .i64 (x5 + (1:Int))) h)
def f76L1 (J1:Nat→Addr→Addr→Int→Hp→Prop) (n1:Nat) (s2:Addr) (s3:Addr) (s5:Int) (g:Nat→Value) (h:Hp) (R:Value→Hp→Prop):Prop :=
 ∃ t8:Sl,cell h (s2.add 2)=some (.slice t8.a t8.n t8.c)∧Cond (decide (s5 < (((t8.n:Nat):Int)))) (∃ t14:Sl,cell h (s2.add 2)=some (.slice t14.a t14.n t14.c)∧(0 ≤ s5∧s5 < ((t14.n:Nat):Int))∧PtrOk t14.a fun p16=>∃ t18:Int,cell h (p16.add (s5.toNat * 2))=some (.int .i64 t18)∧∃ t20:Int,cell h s3=some (.int .i64 t20)∧Cond (t18 == t20) (∃ t24:Sl,cell h (s2.add 2)=some (.slice t24.a t24.n t24.c)∧(0 ≤ s5∧s5 < ((t24.n:Nat):Int))∧PtrOk t24.a fun p26=>∃ t28:ByteArray,cell h ((p26.add (s5.toNat * 2)).add 1)=some (.string t28)∧∃ t30:ByteArray,cell h (s3.add 1)=some (.string t30)∧f76K1 J1 n1 s2 s3 s5 ((ByteArray.toList t28) == (ByteArray.toList t30)) h R) (f76K1 J1 n1 s2 s3 s5 false h R)) (R (.bool false:Value) h)
theorem f76L1_eq (J1:Nat→Addr→Addr→Int→Hp→Prop) (n1:Nat) (s2:Addr) (s3:Addr) (s5:Int) (g:Nat→Value) (h:Hp) (R:Value→Hp→Prop):(evC Try.prog tab lv76 (sub [1,0,1,0,0] body76)) (loopK (f76I1 J1) n1 (contAt Try.prog tab lv76 [1,0,1,0] body76 [] (bodyK Try.prog Try.f76 [] R))) (mkEnv 33 [(2,.pointer (some s2)),(3,.pointer (some s3)),(5,.int .i64 s5)] g) h=f76L1 J1 n1 s2 s3 s5 g h R:=by kernel_rfl
theorem f76I1_at (J:Nat→Addr→Addr→Int→Hp→Prop) (n:Nat) (s2:Addr) (s3:Addr) (s5:Int) (g:Nat→Value) (h:Hp):f76I1 J n (mkEnv 33 [(2,.pointer (some s2)),(3,.pointer (some s3)),(5,.int .i64 s5)] g) h=J n s2 s3 s5 h:=by kernel_rfl
theorem f76L1_rule  {R:Value→Hp→Prop} {s2:Addr} {s3:Addr} {s5:Int} {h0:Hp} (J:Nat→Addr→Addr→Int→Hp→Prop) (n0:Nat) (hi:J n0 s2 s3 s5 h0)
  (hr:∀ n s2 s3 s5 g h,J n s2 s3 s5 h→f76L1  J n s2 s3 s5 g h R):LoopEv (evC Try.prog tab lv76 (sub [1,0,1,0,0] body76)) (contAt Try.prog tab lv76 [1,0,1,0] body76 [] (bodyK Try.prog Try.f76 [] R)) [(2,.pointer (some s2)),(3,.pointer (some s3)),(5,.int .i64 s5)] 33 h0:=by
 refine ⟨f76I1 J,n0,fun g=>by rw [f76I1_at]; exact hi,fun n env h hI=>?_⟩
 clear hi
 clear s2 s3 s5
 obtain ⟨hlen,hI⟩:=Cond_true' hI
 have hlen:env.length=33:=by simpa using hlen
 obtain ⟨s2,es2,hI⟩:=DecA.out hI
 obtain ⟨s3,es3,hI⟩:=DecA.out hI
 obtain ⟨s5,es5,hI⟩:=DecI.out hI
 rw [mkEnv_of (l:=[(2,.pointer (some s2)),(3,.pointer (some s3)),(5,.int .i64 s5)]) hlen (by simp only [List.mem_cons,List.not_mem_nil,or_false,forall_eq_or_imp,forall_eq]; exact ⟨es2,es3,es5⟩)]
 rw [f76L1_eq]
 exact hr n s2 s3 s5 _ h hI
def f76F (a0_0:Int) (a0_1:Int) (a0_2:Sl) (a0_3:Int) (a1_0:Int) (a1_1:ByteArray) (h:Hp) (R:Value→Hp→Prop):Prop :=
 Let (h.push (.cells #[.int .i64 a0_0,.int .i64 a0_1,.slice a0_2.a a0_2.n a0_2.c,.int .u64 a0_3] 107)) fun h1=>Let (h1.push (.cells #[.int .i64 a1_0,.string a1_1] 40)) fun h2=>LoopEv (evC Try.prog tab lv76 (sub [1,0,1,0,0] body76)) (contAt Try.prog tab lv76 [1,0,1,0] body76 [] (bodyK Try.prog Try.f76 [] R)) [(2,.pointer (some (nb h))),(3,.pointer (some (nb h1))),(5,.int .i64 0)] 33 h2
theorem f76F_eq (a0_0:Int) (a0_1:Int) (a0_2:Sl) (a0_3:Int) (a1_0:Int) (a1_1:ByteArray) (h:Hp) (R:Value→Hp→Prop):evF Try.prog tab lv76 Try.f76 body76 [] [.agg #[.int .i64 a0_0,.int .i64 a0_1,.slice a0_2.a a0_2.n a0_2.c,.int .u64 a0_3],.agg #[.int .i64 a1_0,.string a1_1]] h R=f76F a0_0 a0_1 a0_2 a0_3 a1_0 a1_1 h R:=by kernel_rfl
theorem f76F_ok {a0_0:Int} {a0_1:Int} {a0_2:Sl} {a0_3:Int} {a1_0:Int} {a1_1:ByteArray} {h:Hp} {R:Value→Hp→Prop} (hF:f76F a0_0 a0_1 a0_2 a0_3 a1_0 a1_1 h R):CallTo Try.prog 76 #[.agg #[.int .i64 a0_0,.int .i64 a0_1,.slice a0_2.a a0_2.n a0_2.c,.int .u64 a0_3],.agg #[.int .i64 a1_0,.string a1_1]] h R :=
 callTo_of_ev (lv:=lv76) (hints:=[]) (c:=body76) (args:=[.agg #[.int .i64 a0_0,.int .i64 a0_1,.slice a0_2.a a0_2.n a0_2.c,.int .u64 a0_3],.agg #[.int .i64 a1_0,.string a1_1]]) mixed tab_ok Try.func76 (by kernel_rfl) (by kernel_rfl) (by rw [f76F_eq]; exact hF)
end Go.Ev
