/- The program's Wait: Release / Printed by a program (own work) out of the loaded functions: what each says of the heap, and that the evaluator says the same / The document's Wait: what it is, and the calls that only tell / The document's Wait: the calls / The document's Wait: Block, Release / The document's Wait: Due. No condition but that these are ones. -/
import Derived.Test.YtfilpdcphgmhgaaF8
import Derived.Test.YtfilpdcphgmhgaaF4
import Derived.Lib.SlicesS
set_option linter.all false
set_option maxRecDepth 1000000
namespace Go.Ev
open Go.Proofs
section
variable {h h' h2:Hp} {W W' W2:WP} {R:Value→Hp→Prop}
theorem WMem.who_del (x:WMem h W) (j:Nat) :
  WMem (h.setIfInBounds W.r2 (.map ((W.ws.eraseIdx j).map PW.ent).toArray W.c2)) { W with ws:=W.ws.eraseIdx j }:=by
 have k:=kept_seti h W.r2 (.map ((W.ws.eraseIdx j).map PW.ent).toArray W.c2)
 have ob:=seti_self (o:=.map ((W.ws.eraseIdx j).map PW.ent).toArray W.c2) x.m2
 generalize h.setIfInBounds W.r2 (.map ((W.ws.eraseIdx j).map PW.ent).toArray W.c2)=h1 at k ob
 have nr:∀ {b:Nat} {cs:List Value},Row h b cs→¬ b=W.r2:=fun r e=>row_map (e ▸ r) x.m2
 have sub:=List.eraseIdx_sublist W.ws j
 have mm:∀ z ∈ W.ws.eraseIdx j,z ∈ W.ws:=fun z hz=>sub.subset hz
 exact ⟨kept_row k x.row (nr x.row),kept_ob k x.m1 x.r12,ob,fun z hz=>(x.pw z (mm z hz)).keep k (by obtain ⟨_,r⟩:=(x.pw z (mm z hz)).row; exact nr r),fun z hz=>(x.ln z hz).keep k (by obtain ⟨_,r,_⟩:=(x.ln z hz).row; exact nr r),x.r12,x.lb,x.lw,fun z hz w hw=>x.lp z hz w (mm w hw),fun z hz=>x.pwb z (mm z hz),x.bn1,(sub.map _).nodup x.bn2,x.lt1,fun z hz=>x.lt2 z (mm z hz),(sub.map _).nodup x.cn,x.kn,x.tn.sublist sub,fun z hz=>x.tu z (mm z hz),x.tl⟩
theorem wrelease_ok (x:WRep h W) {c:Int} (hno:W.find c=none→∀ h',Kept N h h'→R (.bool false) h')
  (hyes:∀ y j,W.find c=some y→W.ws[j]?=some y→∀ h' W',WRep h' W'→W'.wb=W.wb→W'.ws=W.ws.eraseIdx j→W'.turns=W.turns→WTr h W h' W'→R (.bool true) h') :
  CallTo Try.prog 16 #[.pointer (some (ad W.wb)),.int .i64 c] h R:=by
 refine f16F_ok ?_
 unfold f16F
 refine PtrOk_mk ⟨_,x.m.c1,_,(PWz (W.find c)).2.1,_,_,_,x.m.get c,own4 fun h5 r5 k5=>?_⟩
 cases e:W.find c with
 | none=>exact Cond_t rfl (hno e h5 k5)
 | some y =>
  rw [e] at r5
  obtain ⟨hy,hyc⟩:=WP.find_some e
  have hyes:=fun j=>hyes y j e
  have m5:=x.m.keep k5 fun _ _=>_root_.id
  refine Cond_f rfl (PtrOk_mk ⟨_,m5.c1,IntK,W.r2,_,W.c2,klaw_who,⟨_,rfl⟩,rfl,m5.who,fun hl=>absurd rfl (hl y.ent (List.mem_map.2 ⟨y,hy,rfl⟩) |> fun f=>by rw [show y.ent.key=Value.int .i64 c by show Value.int .i64 y.w.conn=_; rw [hyc]] at f; exact f),fun j e' hj he'=>?_⟩)
  rw [List.getElem?_map] at hj
  obtain ⟨y',hj2,rfl⟩:=Option.map_eq_some_iff.1 hj
  obtain rfl:y'=y:=mem_inj x.m.cn (List.mem_of_getElem? hj2) hy ((Value.int.inj (show Value.int .i64 y'.w.conn=Value.int .i64 c from he')).2.trans hyc.symm)
  have em:(W.ws.map PW.ent).eraseIdx j=(W.ws.eraseIdx j).map PW.ent:=by rw [List.eraseIdx_eq_take_drop_succ,List.eraseIdx_eq_take_drop_succ,List.map_append,List.map_take,List.map_drop]
  rw [em]
  have m6:=m5.who_del j
  have k6:=kept_seti h5 W.r2 (.map ((W.ws.eraseIdx j).map PW.ent).toArray W.c2)
  generalize h5.setIfInBounds W.r2 (.map ((W.ws.eraseIdx j).map PW.ent).toArray W.c2)=h6 at m6 k6
  have ok:=x.m.pw y' hy
  obtain ⟨junk,rowp⟩:=ok.row
  have r2l:=ob_lt x.m.m2
  have r6:=kept_row k6 r5 (show ¬ h.size=W.r2 by omega)
  have k06:Kept (fun b=>b=W.r2) h h6:=(k5.mono fun _ _ z=>z.elim).trans k6
  have bl5:=row_lt r5
  have hsz6:h.size < h6.size:=Nat.lt_of_lt_of_le bl5 k6.1
  have rd6:ReadsO h6 y'.sl.a (y'.w.pls.flatMap plC):=by rw [ok.a]; exact reads_head (kept_row k06 rowp fun e=>row_map (e ▸ rowp) x.m.m2)
  refine ⟨y'.sl,by show cell h6 ((ad h.size).add 1)=_; rw [add_ad]; exact (cell_row r6 1).trans rfl,?_⟩
  have okn:=ok.n
  have okp:=ok.p1
  have okc:=ok.cap
  have pbl:=row_lt rowp
  have xl:=x.l
  have nwb:W.wb ≠ y'.pb:=fun e=>x.m.pwb y' hy e.symm
  have nr1:W.r1 ≠ y'.pb:=fun e=>row_map (e ▸ rowp) x.m.m1
  have r1l:=ob_lt x.m.m1
  have r1f:W.foot W.r1:=.inr (.inl rfl)
  have r2f:W.foot W.r2:=.inr (.inr (.inl rfl))
  have wl8:=wlen8 x.m
  refine f16L1_rule (s5:=ad h.size) (s29:=y'.sl) (fun m s0 s1 s5 s29 s30 s31 h'=>∃ (i:Nat) (W':WP),i ≤ y'.w.pls.length∧m=y'.w.pls.length - i∧s0=some (ad W.wb)∧c=s1∧s5=ad h.size∧y'.sl=s29∧s30=((y'.w.pls.length:Nat):Int)∧s31=(i:Int)∧WMem h' W'∧(W'.wb=W.wb∧W'.r1=W.r1∧W'.ws=W.ws.eraseIdx j∧W'.turns=W.turns)∧(∀ q l,lineOf W'.ls q l=if l=y'.w.kind∧inT y'.w.pls i q=true then cut c (connsOf W.ws q l) else connsOf W.ws q l)∧Row h' h.size [.int .i64 y'.w.kind,.slice y'.sl.a y'.sl.n y'.sl.c,.int .u64 y'.w.til,.int .i64 (y'.turn:Nat)]∧ReadsO h' y'.sl.a (y'.w.pls.flatMap plC)∧(∀ z ∈ W'.ls,z.b ≠ y'.pb∧z.b ≠ h.size)∧WTr h W h' W') y'.w.pls.length
   ⟨0,{ W with ws:=W.ws.eraseIdx j },Nat.zero_le _,rfl,rfl,rfl,rfl,rfl,by rw [okn],rfl,m6,⟨rfl,rfl,rfl,rfl⟩,fun q l=>by rw [if_neg (by rintro ⟨_,z⟩; cases z)]; exact xl q l,r6,rd6,fun z hz=>⟨fun e=>x.m.lp z hz y' hy e.symm,fun e=>by have:=(x.m.ln z hz).lt; omega⟩,k06.mono fun _ _ e=>e ▸ r2f,fun b hb=>by
    rcases hb with e | e | e | ⟨z,hz,e⟩ | e
    ·exact .inl (.inl e)
    ·exact .inl (.inr (.inl e))
    ·exact .inl (.inr (.inr (.inl e)))
    ·exact .inl (.inr (.inr (.inr (.inl ⟨z,(List.eraseIdx_sublist W.ws j).subset hz,e⟩))))
    ·exact .inl (.inr (.inr (.inr (.inr e))))⟩ ?_
  rintro m s0 s1 s5 s29 s30 s31 g h7 ⟨i,W7,hi,rfl,rfl,rfl,rfl,rfl,rfl,rfl,m7,⟨w1,w2,w3,w4⟩,ll7,r7,rd7,far7,tr7⟩
  unfold f16L1
  refine Cond_dec (fun hlt=>?_) fun hge=>?_
  ·have hil:i < y'.w.pls.length:=by omega
   obtain ⟨p,hp⟩:∃ p,y'.w.pls[i]?=some p:=⟨_,List.getElem?_eq_getElem hil⟩
   obtain ⟨pa,ea,c0,c1⟩:=pl_read rd7 hp
   have nxt:IntKind.wrap .i64 ((i:Int) + 1)=((i + 1:Nat):Int):=by rw [wr (by omega) (by omega)]; rfl
   simp only [Int.toNat_natCast]
   refine ⟨⟨by omega,by omega⟩,PtrOk_of ea ⟨_,c0,_,c1,own2 fun h8 r8 k8=>?_⟩⟩
   have r78:=kept_row k8 r7 _root_.id
   refine ⟨y'.sl,by rw [add_ad]; exact (cell_row r78 1).trans rfl,first_ok (reads_keptN k8 rd7) okn okc (by omega) hp fun h9 k9=>⟨_,rfl,?_⟩⟩
   have r9:=kept_row k9 r8 _root_.id
   have r79:=kept_row k9 r78 _root_.id
   have rd9:=reads_keptN (k8.trans k9) rd7
   have m9:=(m7.keep k8 fun _ _=>_root_.id).keep k9 fun _ _=>_root_.id
   have tr9:=tr7.trans (WTr.keepN (k8.trans k9))
   cases hf:firstB y'.w.pls i p with
   | false =>
    have hin:inT y'.w.pls i p=true:=by unfold firstB at hf; unfold inT; simpa using hf
    refine Cond_t rfl ?_
    unfold f16K1
    refine ⟨y'.w.pls.length - (i + 1),by omega,i + 1,W7,by omega,rfl,(by first | rfl | trivial),(by first | rfl | trivial),(by first | rfl | trivial),(by first | rfl | trivial),(by first | rfl | trivial),nxt,m9,⟨w1,w2,w3,w4⟩,fun q l=>?_,r79,rd9,far7,tr9⟩
    rw [ll7,inT_succ hp]
    by_cases e:p=q
    ·subst e; rw [hin]; simp
    ·simp [e]
   | true =>
    have hin:inT y'.w.pls i p=false:=by unfold firstB at hf; unfold inT; simpa using hf
    refine Cond_f rfl ⟨_,(cell_row r9 0).trans rfl,_,by show cell h9 ((ad h7.size).add 1)=_; rw [add_ad]; exact (cell_row r9 1).trans rfl,_,(cell_row r79 0).trans rfl,own3 fun h10 r10 k10=>?_⟩
    have m10:=m9.keep k10 fun _ _=>_root_.id
    have r710:=kept_row k10 r79 _root_.id
    have rd10:=reads_keptN k10 rd9
    have c010:=m10.c0
    have enb9:nb h9=ad h9.size:=rfl
    rw [w1,w2] at c010
    rw [enb9]
    refine PtrOk_mk ⟨_,c010,_,(cell_row r10 0).trans rfl,_,by rw [add_ad]; exact (cell_row r10 1).trans rfl,_,by rw [add_ad]; exact (cell_row r10 2).trans rfl,?_⟩
    have hs9:h.size < h9.size:=row_lt r79
    have wy:wants y'.w p y'.w.kind=true:=by
     unfold wants
     rw [decide_eq_true rfl,Bool.true_and,List.any_eq_true]
     exact ⟨p,List.mem_of_getElem? hp,by simp⟩
    have line:lineOf W7.ls p y'.w.kind=connsOf W.ws p y'.w.kind:=by rw [ll7,if_neg (by rw [hin]; rintro ⟨_,z⟩; cases z)]
    have cmem:c ∈ connsOf W.ws p y'.w.kind:=by unfold connsOf; exact List.mem_map.2 ⟨y',List.mem_filter.2 ⟨hy,wy⟩,hyc⟩
    obtain ⟨jj,hjj⟩:=List.mem_iff_getElem?.1 cmem
    have nd:=conns_nodup x.m.cn p y'.w.kind
    have ndi:((connsOf W.ws p y'.w.kind).map _root_.id).Nodup:=by rw [List.map_id]; exact nd
    have hb:∀ i,i < jj→(connsOf W.ws p y'.w.kind)[i]? ≠ some c:=fun i hi e=>by
     have:=map_inj_at ndi e hjj rfl
     omega
    have ec:(connsOf W.ws p y'.w.kind).eraseIdx jj=cut c (connsOf W.ws p y'.w.kind):=erase_filter (f:=_root_.id) ndi hjj
    have cl:=connsOf_len W.ws p y'.w.kind
    have wc:=wcut_ok m10 (p:=p) (k:=y'.w.kind) (c:=c) (kb:=h9.size) r10 (fun z hz e=>by have:=(m9.ln z hz).lt; omega) (by rw [line]; exact hjj) (by rw [line]; exact hb) (by rw [line]; omega) (K:=fun h16=>f16K1 (fun m s0 s1 s5 s29 s30 s31 h'=>∃ (i:Nat) (W':WP),i ≤ y'.w.pls.length∧m=y'.w.pls.length - i∧s0=some (ad W.wb)∧c=s1∧s5=ad h.size∧y'.sl=s29∧s30=((y'.w.pls.length:Nat):Int)∧s31=(i:Int)∧WMem h' W'∧(W'.wb=W.wb∧W'.r1=W.r1∧W'.ws=W.ws.eraseIdx j∧W'.turns=W.turns)∧(∀ q l,lineOf W'.ls q l=if l=y'.w.kind∧inT y'.w.pls i q=true then cut c (connsOf W.ws q l) else connsOf W.ws q l)∧Row h' h.size [.int .i64 y'.w.kind,.slice y'.sl.a y'.sl.n y'.sl.c,.int .u64 y'.w.til,.int .i64 (y'.turn:Nat)]∧ReadsO h' y'.sl.a (y'.w.pls.flatMap plC)∧(∀ z ∈ W'.ls,z.b ≠ y'.pb∧z.b ≠ h.size)∧WTr h W h' W') (y'.w.pls.length - i) (some (ad W.wb)) c (ad h.size) y'.sl ((y'.w.pls.length:Nat):Int) (i:Int) h16 R) fun h11 ls' m11 l11 sub11 k11=>by
     unfold f16K1
     have far11:∀ b:Nat,(b=y'.pb ∨ b=h.size)→¬ (b=W7.r1 ∨ ∃ z ∈ W7.ls,z.b=b):=fun b hb hx=>by
      rcases hx with e | ⟨z,hz,e⟩
      ·rw [w2] at e
       rcases hb with e2 | e2
       ·exact nr1 (e.symm.trans e2)
       ·omega
      ·rcases hb with e2 | e2
       ·exact (far7 z hz).1 (e.trans e2)
       ·exact (far7 z hz).2 (e.trans e2)
     refine ⟨y'.w.pls.length - (i + 1),by omega,i + 1,_,by omega,rfl,rfl,rfl,rfl,rfl,rfl,nxt,m11,⟨w1,w2,w3,w4⟩,fun q l=>?_,kept_row k11 r710 (far11 _ (.inr rfl)),?_,fun z hz=>?_,(tr9.trans (WTr.keepN k10)).trans ⟨k11.mono fun b _ e=>?_,fun b hb=>?_⟩⟩
     ·show lineOf ls' q l=_
      rw [l11,inT_succ hp]
      by_cases e:q=p∧l=y'.w.kind
      ·obtain ⟨rfl,rfl⟩:=e
       rw [if_pos ⟨rfl,rfl⟩,line,ec]
       simp
      ·rw [if_neg e,ll7]
       by_cases e2:l=y'.w.kind
       ·have e3:¬ p=q:=fun z=>e ⟨z.symm,e2⟩
        simp [e2,e3]
       ·simp [e2]
     ·rw [ok.a] at rd10 ⊢
      exact reads_kept2 k11 rd10 fun q hq _=>by
       obtain rfl:=Option.some.inj hq
       exact ⟨Nat.lt_of_lt_of_le pbl (by have:=(k8.trans (k9.trans k10)).1; have:=tr7.1.1; omega),far11 _ (.inl rfl)⟩
     ·obtain ⟨z',hz',e⟩:=sub11 z hz
      rw [← e]; exact far7 z' hz'
     ·rcases e with e | ⟨z,hz,e⟩
      ·exact .inr (.inl e)
      ·exact .inr (.inr (.inr (.inr ⟨z,hz,e⟩)))
     ·rcases foot_ls hb with e | ⟨z,hz,e⟩
      ·exact .inl e
      ·obtain ⟨z',hz',e'⟩:=sub11 z hz
       exact .inl (.inr (.inr (.inr (.inr ⟨z',hz',e'.trans e⟩))))
    rw [w2,w1] at wc
    exact wc
  ·have e:i=y'.w.pls.length:=by omega
   subst e
   refine hyes j hj2 h7 W7 ⟨m7,fun q l=>?_⟩ w1 w3 w4 tr7
   rw [ll7,w3,conns_erase x.m.cn hj2,hyc]
   by_cases e1:l=y'.w.kind∧inT y'.w.pls y'.w.pls.length q=true
   ·rw [if_pos e1]
   ·rw [if_neg e1,← hyc]
    refine (conns_cut x.m.cn hy ?_).symm
    unfold wants
    unfold inT at e1
    rw [List.take_length] at e1
    by_cases e2:y'.w.kind=l
    ·have e3:¬ (y'.w.pls.any fun r=>decide (r=q))=true:=fun z=>e1 ⟨e2.symm,z⟩
     rw [decide_eq_true e2,Bool.true_and]
     exact Bool.eq_false_iff.2 e3
    ·rw [decide_eq_false e2,Bool.false_and]
end
end Go.Ev
set_option linter.all false
set_option maxRecDepth 100000
namespace Go.Ev
open Go.Proofs
/- (*larder/larderref18.Wait).Block -/
/- (*larder/larderref18.Wait).Places -/
/- (*larder/larderref18.Wait).Due -/
/- (*larder/larderref18.Wait).Waiting -/
/- (*larder/larderref18.Wait).Release -/
/- (*larder/larderref18.Wait).Next -/
/- (*larder/larderref18.Wait).Until -/
/- (*larder/larderref18.Wait).Find -/
/- larder/larderref18.bad -/
/- larder/larderref18.copies -/
/- larder/larderref18.names -/
end Go.Ev
set_option linter.all false
set_option maxRecDepth 1000000
namespace Go.Ev
open Go.Proofs
structure DW where
 w:Wtr
 sl:Sl
 pb:Nat
def DW.val (x:DW):List Value:=[.int .i64 x.w.conn,.int .i64 x.w.kind,.slice x.sl.a x.sl.n x.sl.c,.int .u64 x.w.til]
structure DP where
 db:Nat
 sl:Sl
 ob:Option Nat
 ds:List DW
def DP.foot (D:DP) (b:Nat):Prop:=b=D.db ∨ D.ob=some b ∨ ∃ x ∈ D.ds,x.pb=b
structure DRep (h:Hp) (D:DP):Prop where
 row:Row h D.db [.slice D.sl.a D.sl.n D.sl.c]
 at_:SlAt 4 h D.sl.a D.sl.n D.sl.c D.ob (D.ds.flatMap DW.val)
 pl:∀ x ∈ D.ds,PlO h x.sl x.pb x.w.pls∧x.w.pls ≠ []∧x.w.pls.length ≤ 64
 od:D.ob ≠ some D.db
 pb:∀ x ∈ D.ds,x.pb ≠ D.db∧D.ob ≠ some x.pb
 len:D.ds.length ≤ 8
def DTr (h:Hp) (D:DP) (h':Hp) (D':DP):Prop:=Kept D.foot h h'∧∀ b,D'.foot b→D.foot b ∨ h.size ≤ b
theorem dw_len (x:DW):x.val.length=4:=rfl
section
variable {h h':Hp} {D D':DP} {R:Value→Hp→Prop}
theorem PlO.keep {S:Nat→Prop} {s:Sl} {c:Nat} {l:List Plc} (x:PlO h s c l) (k:Kept S h h') (hS:l ≠ []→¬ S c):PlO h' s c l :=
 ⟨x.n,x.at_,fun hne=>by obtain ⟨junk,r,e⟩:=x.row hne; exact ⟨junk,kept_row k r (hS hne),e⟩,x.nl⟩
theorem PlO.lt {s:Sl} {c:Nat} {l:List Plc} (x:PlO h s c l) (hne:l ≠ []):c < h.size:=by obtain ⟨_,r,_⟩:=x.row hne; exact row_lt r
theorem PlO.rd {s:Sl} {c:Nat} {l:List Plc} (x:PlO h s c l):ReadsO h s.a (l.flatMap plC):=by
 by_cases hne:l=[]
 ·rw [x.nl hne,hne]; exact rfl
 ·obtain ⟨junk,r,_⟩:=x.row hne
  rw [x.at_ hne]
  exact reads_head r
theorem SlAt.rd {sz:Nat} {a:Option Addr} {n c:Nat} {ob:Option Nat} {vs:List Value} (s:SlAt sz h a n c ob vs):ReadsO h a vs:=by
 cases e:ob with
 | none =>
  obtain ⟨h1,h2,h3⟩:=s.nil e
  have:=s.len
  rw [h2,Nat.zero_mul] at this
  rw [List.length_eq_zero_iff.1 this,h1]
  exact rfl
 | some b =>
  obtain ⟨h1,h2,junk,r,_⟩:=s.row b e
  rw [h1]
  exact reads_head r
theorem DRep.keep {S:Nat→Prop} (x:DRep h D) (k:Kept S h h') (hS:∀ b,D.foot b→¬ S b):DRep h' D :=
 ⟨kept_row k x.row (hS _ (.inl rfl)),x.at_.keep fun b hb=>k.2 b (by obtain ⟨_,_,j,r,_⟩:=x.at_.row b hb; exact row_lt r) (hS b (.inr (.inl hb))),
  fun y hy=>⟨(x.pl y hy).1.keep k fun _=>hS _ (.inr (.inr ⟨y,hy,rfl⟩)),(x.pl y hy).2⟩,x.od,x.pb,x.len⟩
theorem DRep.keepN (x:DRep h D) (k:Kept N h h'):DRep h' D:=x.keep k fun _ _=>_root_.id
theorem DRep.foot_lt (x:DRep h D) {b:Nat} (hb:D.foot b):b < h.size:=by
 rcases hb with e | e | ⟨y,hy,e⟩
 ·rw [e]; exact row_lt x.row
 ·obtain ⟨_,_,j,r,_⟩:=x.at_.row b e; exact row_lt r
 ·rw [← e]; exact (x.pl y hy).1.lt (x.pl y hy).2.1
theorem DRep.c0 (x:DRep h D):cell h (ad D.db)=some (.slice D.sl.a D.sl.n D.sl.c):=cell_row x.row 0
theorem DRep.n (x:DRep h D):D.sl.n=D.ds.length:=by
 have:=x.at_.len
 rw [flatMap_len4 D.ds] at this
 omega
where
 flatMap_len4 (l:List DW):(l.flatMap DW.val).length=l.length * 4:=by
  induction l with
  | nil=>rfl
  | cons a l ih=>rw [List.flatMap_cons,List.length_append,ih,dw_len,List.length_cons]; omega
theorem DRep.read (x:DRep h D) {j:Nat} {y:DW} (hj:D.ds[j]?=some y):∃ p,D.sl.a=some p∧cell h (p.add (j * 4))=some (.int .i64 y.w.conn)∧cell h ((p.add (j * 4)).add 1)=some (.int .i64 y.w.kind)∧cell h ((p.add (j * 4)).add 2)=some (.slice y.sl.a y.sl.n y.sl.c)∧cell h ((p.add (j * 4)).add 3)=some (.int .u64 y.w.til):=by
 have rd:=x.at_.rd
 obtain ⟨p,hp,c0⟩:=readsO_get rd ((flat_at dw_len D.ds j 0 y hj (by omega)).trans rfl)
 have g:∀ (i:Nat) (v:Value),i < 4→y.val[i]?=some v→cell h ((p.add (j * 4)).add i)=some v:=fun i v hi hv=>by
  obtain ⟨p',hp',c⟩:=readsO_get rd ((flat_at dw_len D.ds j i y hj hi).trans hv)
  rw [hp] at hp'
  obtain rfl:=Option.some.inj hp'
  rw [add_add]; exact c
 exact ⟨p,hp,c0,g 1 _ (by omega) rfl,g 2 _ (by omega) rfl,g 3 _ (by omega) rfl⟩
theorem nxt8 {i:Nat} (hi:i < 100000):IntKind.wrap .i64 ((i:Int) + 1)=((i + 1:Nat):Int):=by rw [wr (by omega) (by omega)]; rfl
end
end Go.Ev
set_option linter.all false
set_option maxRecDepth 1000000
namespace Go.Ev
open Go.Proofs
theorem bl_eq (x y:ByteArray):(x.toList == y.toList)=decide (x=y):=by
 by_cases e:x=y
 ·subst e; simp
 ·rw [decide_eq_false e]
  exact (Go.Lib.bytes_beq_false_iff x y).2 e
section
variable {h h':Hp} {D D':DP} {R:Value→Hp→Prop}
/-- The first in line who wants the place. -/
def DP.next (D:DP) (p:Plc) (k:Int):Value:=match D.ds.find? fun y=>wants y.w p k with | some y=>.tuple #[.int .i64 y.w.conn,.bool true] | none=>.tuple #[.int .i64 0,.bool false]
def DP.find (D:DP) (c:Int):Option DW:=D.ds.find? fun y=>decide (y.w.conn=c)
end
end Go.Ev
set_option linter.all false
set_option maxRecDepth 1000000
namespace Go.Ev
open Go.Proofs
section
variable {h h' h2:Hp} {D D' D2:DP} {R:Value→Hp→Prop}
theorem DTr.refl (h:Hp) (D:DP):DTr h D h D:=⟨Kept.refl _ _,fun _=>.inl⟩
theorem DTr.trans (a:DTr h D h' D') (b:DTr h' D' h2 D2):DTr h D h2 D2 :=
 ⟨⟨Nat.le_trans a.1.1 b.1.1,fun i hi hn=>(b.1.2 i (Nat.lt_of_lt_of_le hi a.1.1) fun o=>(a.2 i o).elim hn fun h=>by omega).trans (a.1.2 i hi hn)⟩,
  fun i o=>(b.2 i o).elim (a.2 i) fun h=>.inr (Nat.le_trans a.1.1 h)⟩
theorem DTr.keepN (k:Kept N h h'):DTr h D h' D:=⟨k.mono fun _ _ e=>e.elim,fun _=>.inl⟩
end
end Go.Ev
set_option linter.all false
set_option maxRecDepth 1000000
namespace Go.Ev
open Go.Proofs
def DP.til (D:DP) (i:Nat):Int:=match D.ds[i]? with | some y=>y.w.til | none=>0
def DP.conn (D:DP) (i:Nat):Int:=match D.ds[i]? with | some y=>y.w.conn | none=>0
section
variable {h h' h2:Hp} {D D' D2:DP} {R:Value→Hp→Prop}
/-! ### Two lists in order, of the same -/
theorem sorted_insert {lt:Int→Int→Prop} {a:Int}:∀ {l:List Int},(∀ x ∈ l,lt a x ∨ lt x a)→(∀ x ∈ l,∀ y ∈ l,lt a x→lt x y→lt a y)→l.Pairwise lt→∃ m:List Int,m.Perm (a :: l)∧m.Pairwise lt
 | [],_,_,_=>⟨[a],List.Perm.refl _,List.pairwise_singleton _ _⟩
 | x :: l,tot,tr,pw=>by
  rcases tot x (List.mem_cons_self ..) with h | h
  ·refine ⟨a :: x :: l,List.Perm.refl _,List.pairwise_cons.2 ⟨fun y hy=>?_,pw⟩⟩
   rcases List.mem_cons.1 hy with rfl | hy'
   ·exact h
   ·exact tr x (List.mem_cons_self ..) y hy h ((List.pairwise_cons.1 pw).1 y hy')
  ·obtain ⟨m,pm,sm⟩:=sorted_insert (l:=l) (fun y hy=>tot y (List.mem_cons_of_mem _ hy)) (fun y hy z hz=>tr y (List.mem_cons_of_mem _ hy) z (List.mem_cons_of_mem _ hz)) (List.pairwise_cons.1 pw).2
   refine ⟨x :: m,(pm.cons x).trans (List.Perm.swap ..),List.pairwise_cons.2 ⟨fun y hy=>?_,sm⟩⟩
   rcases List.mem_cons.1 (pm.mem_iff.1 hy) with rfl | hy'
   ·exact h
   ·exact (List.pairwise_cons.1 pw).1 y hy'
theorem sorted_exists {lt:Int→Int→Prop}:∀ {l:List Int},Ord l lt→∃ m:List Int,m.Perm l∧m.Pairwise lt
 | [],_=>⟨[],List.Perm.refl _,List.Pairwise.nil⟩
 | a :: l,o=>by
  have nd:=List.nodup_cons.1 o.nd
  obtain ⟨m,pm,sm⟩:=sorted_exists (l:=l) ⟨nd.2,fun x hx y hy=>o.tot x (List.mem_cons_of_mem _ hx) y (List.mem_cons_of_mem _ hy),fun x hx y hy z hz=>o.tr x (List.mem_cons_of_mem _ hx) y (List.mem_cons_of_mem _ hy) z (List.mem_cons_of_mem _ hz),fun x hx=>o.ir x (List.mem_cons_of_mem _ hx)⟩
  have mm:∀ x ∈ m,x ∈ a :: l:=fun x hx=>List.mem_cons_of_mem _ (pm.mem_iff.1 hx)
  obtain ⟨m',pm',sm'⟩:=sorted_insert (a:=a) (l:=m) (fun x hx=>o.tot a (List.mem_cons_self ..) x (mm x hx) fun e=>nd.1 (e ▸ pm.mem_iff.1 hx)) (fun x hx y hy=>o.tr a (List.mem_cons_self ..) x (mm x hx) y (mm y hy)) sm
  exact ⟨m',pm'.trans (pm.cons a),sm'⟩
end
end Go.Ev
