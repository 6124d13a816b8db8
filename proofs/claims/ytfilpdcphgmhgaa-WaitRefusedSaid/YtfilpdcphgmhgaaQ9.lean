/- The program's Wait: Release / Printed by a program (own work) out of the loaded functions: what each says of the heap, and that the evaluator says the same / The document's Wait: what it is, and the calls that only tell / The document's Wait: the calls / The document's Wait: Block, Release / The document's Wait: Due / larderlaw18's small functions: ints, same, place / The program's and the document's side by side: one step / larderlaw18. No condition but that these are ones. -/
import Derived.Test.YtfilpdcphgmhgaaQ8
import Derived.Test.YtfilpdcphgmhgaaQ4
import Derived.Lib.SlicesS
set_option linter.all false
set_option maxRecDepth 1000000
namespace Go.Ev
open Go.Proofs
section
variable {h h' h2:Hp} {W W' W2:WP} {R:Value→Hp→Prop}
theorem WMem.who_del (x:WMem h W) (j:Nat) :
  WMem (h.setIfInBounds W.r2 (.map ((W.ws.eraseIdx j).map PW.ent).toArray W.c2)) { W with ws:=W.ws.eraseIdx j }:=by
 have k:=kept_seti h W.r2 (.map ((W.ws.eraseIdx j).map PW.ent).toArray W.c2)
 have ob:=seti_self (o:=.map ((W.ws.eraseIdx j).map PW.ent).toArray W.c2) x.m2
 generalize h.setIfInBounds W.r2 (.map ((W.ws.eraseIdx j).map PW.ent).toArray W.c2)=h1 at k ob
 have nr:∀ {b:Nat} {cs:List Value},Row h b cs→¬ b=W.r2:=fun r e=>row_map (e ▸ r) x.m2
 have sub:=List.eraseIdx_sublist W.ws j
 have mm:∀ z ∈ W.ws.eraseIdx j,z ∈ W.ws:=fun z hz=>sub.subset hz
 exact ⟨kept_row k x.row (nr x.row),kept_ob k x.m1 x.r12,ob,fun z hz=>(x.pw z (mm z hz)).keep k (by obtain ⟨_,r⟩:=(x.pw z (mm z hz)).row; exact nr r),fun z hz=>(x.ln z hz).keep k (by obtain ⟨_,r,_⟩:=(x.ln z hz).row; exact nr r),x.r12,x.lb,x.lw,fun z hz w hw=>x.lp z hz w (mm w hw),fun z hz=>x.pwb z (mm z hz),x.bn1,(sub.map _).nodup x.bn2,x.lt1,fun z hz=>x.lt2 z (mm z hz),(sub.map _).nodup x.cn,x.kn,x.tn.sublist sub,fun z hz=>x.tu z (mm z hz),x.tl⟩
theorem wrelease_ok (x:WRep h W) {c:Int} (hno:W.find c=none→∀ h',Kept N h h'→R (.bool false) h')
  (hyes:∀ y j,W.find c=some y→W.ws[j]?=some y→∀ h' W',WRep h' W'→W'.wb=W.wb→W'.ws=W.ws.eraseIdx j→W'.turns=W.turns→WTr h W h' W'→R (.bool true) h') :
  CallTo Try.prog 16 #[.pointer (some (ad W.wb)),.int .i64 c] h R:=by
 refine f16F_ok ?_
 unfold f16F
 refine PtrOk_mk ⟨_,x.m.c1,_,(PWz (W.find c)).2.1,_,_,_,x.m.get c,own4 fun h5 r5 k5=>?_⟩
 cases e:W.find c with
 | none=>exact Cond_t rfl (hno e h5 k5)
 | some y =>
  rw [e] at r5
  obtain ⟨hy,hyc⟩:=WP.find_some e
  have hyes:=fun j=>hyes y j e
  have m5:=x.m.keep k5 fun _ _=>_root_.id
  refine Cond_f rfl (PtrOk_mk ⟨_,m5.c1,IntK,W.r2,_,W.c2,klaw_who,⟨_,rfl⟩,rfl,m5.who,fun hl=>absurd rfl (hl y.ent (List.mem_map.2 ⟨y,hy,rfl⟩) |> fun f=>by rw [show y.ent.key=Value.int .i64 c by show Value.int .i64 y.w.conn=_; rw [hyc]] at f; exact f),fun j e' hj he'=>?_⟩)
  rw [List.getElem?_map] at hj
  obtain ⟨y',hj2,rfl⟩:=Option.map_eq_some_iff.1 hj
  obtain rfl:y'=y:=mem_inj x.m.cn (List.mem_of_getElem? hj2) hy ((Value.int.inj (show Value.int .i64 y'.w.conn=Value.int .i64 c from he')).2.trans hyc.symm)
  have em:(W.ws.map PW.ent).eraseIdx j=(W.ws.eraseIdx j).map PW.ent:=by rw [List.eraseIdx_eq_take_drop_succ,List.eraseIdx_eq_take_drop_succ,List.map_append,List.map_take,List.map_drop]
  rw [em]
  have m6:=m5.who_del j
  have k6:=kept_seti h5 W.r2 (.map ((W.ws.eraseIdx j).map PW.ent).toArray W.c2)
  generalize h5.setIfInBounds W.r2 (.map ((W.ws.eraseIdx j).map PW.ent).toArray W.c2)=h6 at m6 k6
  have ok:=x.m.pw y' hy
  obtain ⟨junk,rowp⟩:=ok.row
  have r2l:=ob_lt x.m.m2
  have r6:=kept_row k6 r5 (show ¬ h.size=W.r2 by omega)
  have k06:Kept (fun b=>b=W.r2) h h6:=(k5.mono fun _ _ z=>z.elim).trans k6
  have bl5:=row_lt r5
  have hsz6:h.size < h6.size:=Nat.lt_of_lt_of_le bl5 k6.1
  have rd6:ReadsO h6 y'.sl.a (y'.w.pls.flatMap plC):=by rw [ok.a]; exact reads_head (kept_row k06 rowp fun e=>row_map (e ▸ rowp) x.m.m2)
  refine ⟨y'.sl,by show cell h6 ((ad h.size).add 1)=_; rw [add_ad]; exact (cell_row r6 1).trans rfl,?_⟩
  have okn:=ok.n
  have okp:=ok.p1
  have okc:=ok.cap
  have pbl:=row_lt rowp
  have xl:=x.l
  have nwb:W.wb ≠ y'.pb:=fun e=>x.m.pwb y' hy e.symm
  have nr1:W.r1 ≠ y'.pb:=fun e=>row_map (e ▸ rowp) x.m.m1
  have r1l:=ob_lt x.m.m1
  have r1f:W.foot W.r1:=.inr (.inl rfl)
  have r2f:W.foot W.r2:=.inr (.inr (.inl rfl))
  have wl8:=wlen8 x.m
  refine f16L1_rule (s5:=ad h.size) (s29:=y'.sl) (fun m s0 s1 s5 s29 s30 s31 h'=>∃ (i:Nat) (W':WP),i ≤ y'.w.pls.length∧m=y'.w.pls.length - i∧s0=some (ad W.wb)∧c=s1∧s5=ad h.size∧y'.sl=s29∧s30=((y'.w.pls.length:Nat):Int)∧s31=(i:Int)∧WMem h' W'∧(W'.wb=W.wb∧W'.r1=W.r1∧W'.ws=W.ws.eraseIdx j∧W'.turns=W.turns)∧(∀ q l,lineOf W'.ls q l=if l=y'.w.kind∧inT y'.w.pls i q=true then cut c (connsOf W.ws q l) else connsOf W.ws q l)∧Row h' h.size [.int .i64 y'.w.kind,.slice y'.sl.a y'.sl.n y'.sl.c,.int .u64 y'.w.til,.int .i64 (y'.turn:Nat)]∧ReadsO h' y'.sl.a (y'.w.pls.flatMap plC)∧(∀ z ∈ W'.ls,z.b ≠ y'.pb∧z.b ≠ h.size)∧WTr h W h' W') y'.w.pls.length
   ⟨0,{ W with ws:=W.ws.eraseIdx j },Nat.zero_le _,rfl,rfl,rfl,rfl,rfl,by rw [okn],rfl,m6,⟨rfl,rfl,rfl,rfl⟩,fun q l=>by rw [if_neg (by rintro ⟨_,z⟩; cases z)]; exact xl q l,r6,rd6,fun z hz=>⟨fun e=>x.m.lp z hz y' hy e.symm,fun e=>by have:=(x.m.ln z hz).lt; omega⟩,k06.mono fun _ _ e=>e ▸ r2f,fun b hb=>by
    rcases hb with e | e | e | ⟨z,hz,e⟩ | e
    ·exact .inl (.inl e)
    ·exact .inl (.inr (.inl e))
    ·exact .inl (.inr (.inr (.inl e)))
    ·exact .inl (.inr (.inr (.inr (.inl ⟨z,(List.eraseIdx_sublist W.ws j).subset hz,e⟩))))
    ·exact .inl (.inr (.inr (.inr (.inr e))))⟩ ?_
  rintro m s0 s1 s5 s29 s30 s31 g h7 ⟨i,W7,hi,rfl,rfl,rfl,rfl,rfl,rfl,rfl,m7,⟨w1,w2,w3,w4⟩,ll7,r7,rd7,far7,tr7⟩
  unfold f16L1
  refine Cond_dec (fun hlt=>?_) fun hge=>?_
  ·have hil:i < y'.w.pls.length:=by omega
   obtain ⟨p,hp⟩:∃ p,y'.w.pls[i]?=some p:=⟨_,List.getElem?_eq_getElem hil⟩
   obtain ⟨pa,ea,c0,c1⟩:=pl_read rd7 hp
   have nxt:IntKind.wrap .i64 ((i:Int) + 1)=((i + 1:Nat):Int):=by rw [wr (by omega) (by omega)]; rfl
   simp only [Int.toNat_natCast]
   refine ⟨⟨by omega,by omega⟩,PtrOk_of ea ⟨_,c0,_,c1,own2 fun h8 r8 k8=>?_⟩⟩
   have r78:=kept_row k8 r7 _root_.id
   refine ⟨y'.sl,by rw [add_ad]; exact (cell_row r78 1).trans rfl,first_ok (reads_keptN k8 rd7) okn okc (by omega) hp fun h9 k9=>⟨_,rfl,?_⟩⟩
   have r9:=kept_row k9 r8 _root_.id
   have r79:=kept_row k9 r78 _root_.id
   have rd9:=reads_keptN (k8.trans k9) rd7
   have m9:=(m7.keep k8 fun _ _=>_root_.id).keep k9 fun _ _=>_root_.id
   have tr9:=tr7.trans (WTr.keepN (k8.trans k9))
   cases hf:firstB y'.w.pls i p with
   | false =>
    have hin:inT y'.w.pls i p=true:=by unfold firstB at hf; unfold inT; simpa using hf
    refine Cond_t rfl ?_
    unfold f16K1
    refine ⟨y'.w.pls.length - (i + 1),by omega,i + 1,W7,by omega,rfl,(by first | rfl | trivial),(by first | rfl | trivial),(by first | rfl | trivial),(by first | rfl | trivial),(by first | rfl | trivial),nxt,m9,⟨w1,w2,w3,w4⟩,fun q l=>?_,r79,rd9,far7,tr9⟩
    rw [ll7,inT_succ hp]
    by_cases e:p=q
    ·subst e; rw [hin]; simp
    ·simp [e]
   | true =>
    have hin:inT y'.w.pls i p=false:=by unfold firstB at hf; unfold inT; simpa using hf
    refine Cond_f rfl ⟨_,(cell_row r9 0).trans rfl,_,by show cell h9 ((ad h7.size).add 1)=_; rw [add_ad]; exact (cell_row r9 1).trans rfl,_,(cell_row r79 0).trans rfl,own3 fun h10 r10 k10=>?_⟩
    have m10:=m9.keep k10 fun _ _=>_root_.id
    have r710:=kept_row k10 r79 _root_.id
    have rd10:=reads_keptN k10 rd9
    have c010:=m10.c0
    have enb9:nb h9=ad h9.size:=rfl
    rw [w1,w2] at c010
    rw [enb9]
    refine PtrOk_mk ⟨_,c010,_,(cell_row r10 0).trans rfl,_,by rw [add_ad]; exact (cell_row r10 1).trans rfl,_,by rw [add_ad]; exact (cell_row r10 2).trans rfl,?_⟩
    have hs9:h.size < h9.size:=row_lt r79
    have wy:wants y'.w p y'.w.kind=true:=by
     unfold wants
     rw [decide_eq_true rfl,Bool.true_and,List.any_eq_true]
     exact ⟨p,List.mem_of_getElem? hp,by simp⟩
    have line:lineOf W7.ls p y'.w.kind=connsOf W.ws p y'.w.kind:=by rw [ll7,if_neg (by rw [hin]; rintro ⟨_,z⟩; cases z)]
    have cmem:c ∈ connsOf W.ws p y'.w.kind:=by unfold connsOf; exact List.mem_map.2 ⟨y',List.mem_filter.2 ⟨hy,wy⟩,hyc⟩
    obtain ⟨jj,hjj⟩:=List.mem_iff_getElem?.1 cmem
    have nd:=conns_nodup x.m.cn p y'.w.kind
    have ndi:((connsOf W.ws p y'.w.kind).map _root_.id).Nodup:=by rw [List.map_id]; exact nd
    have hb:∀ i,i < jj→(connsOf W.ws p y'.w.kind)[i]? ≠ some c:=fun i hi e=>by
     have:=map_inj_at ndi e hjj rfl
     omega
    have ec:(connsOf W.ws p y'.w.kind).eraseIdx jj=cut c (connsOf W.ws p y'.w.kind):=erase_filter (f:=_root_.id) ndi hjj
    have cl:=connsOf_len W.ws p y'.w.kind
    have wc:=wcut_ok m10 (p:=p) (k:=y'.w.kind) (c:=c) (kb:=h9.size) r10 (fun z hz e=>by have:=(m9.ln z hz).lt; omega) (by rw [line]; exact hjj) (by rw [line]; exact hb) (by rw [line]; omega) (K:=fun h16=>f16K1 (fun m s0 s1 s5 s29 s30 s31 h'=>∃ (i:Nat) (W':WP),i ≤ y'.w.pls.length∧m=y'.w.pls.length - i∧s0=some (ad W.wb)∧c=s1∧s5=ad h.size∧y'.sl=s29∧s30=((y'.w.pls.length:Nat):Int)∧s31=(i:Int)∧WMem h' W'∧(W'.wb=W.wb∧W'.r1=W.r1∧W'.ws=W.ws.eraseIdx j∧W'.turns=W.turns)∧(∀ q l,lineOf W'.ls q l=if l=y'.w.kind∧inT y'.w.pls i q=true then cut c (connsOf W.ws q l) else connsOf W.ws q l)∧Row h' h.size [.int .i64 y'.w.kind,.slice y'.sl.a y'.sl.n y'.sl.c,.int .u64 y'.w.til,.int .i64 (y'.turn:Nat)]∧ReadsO h' y'.sl.a (y'.w.pls.flatMap plC)∧(∀ z ∈ W'.ls,z.b ≠ y'.pb∧z.b ≠ h.size)∧WTr h W h' W') (y'.w.pls.length - i) (some (ad W.wb)) c (ad h.size) y'.sl ((y'.w.pls.length:Nat):Int) (i:Int) h16 R) fun h11 ls' m11 l11 sub11 k11=>by
     unfold f16K1
     have far11:∀ b:Nat,(b=y'.pb ∨ b=h.size)→¬ (b=W7.r1 ∨ ∃ z ∈ W7.ls,z.b=b):=fun b hb hx=>by
      rcases hx with e | ⟨z,hz,e⟩
      ·rw [w2] at e
       rcases hb with e2 | e2
       ·exact nr1 (e.symm.trans e2)
       ·omega
      ·rcases hb with e2 | e2
       ·exact (far7 z hz).1 (e.trans e2)
       ·exact (far7 z hz).2 (e.trans e2)
     refine ⟨y'.w.pls.length - (i + 1),by omega,i + 1,_,by omega,rfl,rfl,rfl,rfl,rfl,rfl,nxt,m11,⟨w1,w2,w3,w4⟩,fun q l=>?_,kept_row k11 r710 (far11 _ (.inr rfl)),?_,fun z hz=>?_,(tr9.trans (WTr.keepN k10)).trans ⟨k11.mono fun b _ e=>?_,fun b hb=>?_⟩⟩
     ·show lineOf ls' q l=_
      rw [l11,inT_succ hp]
      by_cases e:q=p∧l=y'.w.kind
      ·obtain ⟨rfl,rfl⟩:=e
       rw [if_pos ⟨rfl,rfl⟩,line,ec]
       simp
      ·rw [if_neg e,ll7]
       by_cases e2:l=y'.w.kind
       ·have e3:¬ p=q:=fun z=>e ⟨z.symm,e2⟩
        simp [e2,e3]
       ·simp [e2]
     ·rw [ok.a] at rd10 ⊢
      exact reads_kept2 k11 rd10 fun q hq _=>by
       obtain rfl:=Option.some.inj hq
       exact ⟨Nat.lt_of_lt_of_le pbl (by have:=(k8.trans (k9.trans k10)).1; have:=tr7.1.1; omega),far11 _ (.inl rfl)⟩
     ·obtain ⟨z',hz',e⟩:=sub11 z hz
      rw [← e]; exact far7 z' hz'
     ·rcases e with e | ⟨z,hz,e⟩
      ·exact .inr (.inl e)
      ·exact .inr (.inr (.inr (.inr ⟨z,hz,e⟩)))
     ·rcases foot_ls hb with e | ⟨z,hz,e⟩
      ·exact .inl e
      ·obtain ⟨z',hz',e'⟩:=sub11 z hz
       exact .inl (.inr (.inr (.inr (.inr ⟨z',hz',e'.trans e⟩))))
    rw [w2,w1] at wc
    exact wc
  ·have e:i=y'.w.pls.length:=by omega
   subst e
   refine hyes j hj2 h7 W7 ⟨m7,fun q l=>?_⟩ w1 w3 w4 tr7
   rw [ll7,w3,conns_erase x.m.cn hj2,hyc]
   by_cases e1:l=y'.w.kind∧inT y'.w.pls y'.w.pls.length q=true
   ·rw [if_pos e1]
   ·rw [if_neg e1,← hyc]
    refine (conns_cut x.m.cn hy ?_).symm
    unfold wants
    unfold inT at e1
    rw [List.take_length] at e1
    by_cases e2:y'.w.kind=l
    ·have e3:¬ (y'.w.pls.any fun r=>decide (r=q))=true:=fun z=>e1 ⟨e2.symm,z⟩
     rw [decide_eq_true e2,Bool.true_and]
     exact Bool.eq_false_iff.2 e3
    ·rw [decide_eq_false e2,Bool.false_and]
end
end Go.Ev
set_option linter.all false
set_option maxRecDepth 100000
namespace Go.Ev
open Go.Proofs
/- (*larder/larderref18.Wait).Block -/
/- (*larder/larderref18.Wait).Places -/
/- (*larder/larderref18.Wait).Due -/
/- (*larder/larderref18.Wait).Waiting -/
/- (*larder/larderref18.Wait).Release -/
/- (*larder/larderref18.Wait).Next -/
/- (*larder/larderref18.Wait).Until -/
/- (*larder/larderref18.Wait).Find -/
/- larder/larderref18.bad -/
/- larder/larderref18.copies -/
/- larder/larderref18.names -/
end Go.Ev
set_option linter.all false
set_option maxRecDepth 1000000
namespace Go.Ev
open Go.Proofs
structure DW where
 w:Wtr
 sl:Sl
 pb:Nat
def DW.val (x:DW):List Value:=[.int .i64 x.w.conn,.int .i64 x.w.kind,.slice x.sl.a x.sl.n x.sl.c,.int .u64 x.w.til]
structure DP where
 db:Nat
 sl:Sl
 ob:Option Nat
 ds:List DW
def DP.foot (D:DP) (b:Nat):Prop:=b=D.db ∨ D.ob=some b ∨ ∃ x ∈ D.ds,x.pb=b
structure DRep (h:Hp) (D:DP):Prop where
 row:Row h D.db [.slice D.sl.a D.sl.n D.sl.c]
 at_:SlAt 4 h D.sl.a D.sl.n D.sl.c D.ob (D.ds.flatMap DW.val)
 pl:∀ x ∈ D.ds,PlO h x.sl x.pb x.w.pls∧x.w.pls ≠ []∧x.w.pls.length ≤ 64
 od:D.ob ≠ some D.db
 pb:∀ x ∈ D.ds,x.pb ≠ D.db∧D.ob ≠ some x.pb
 len:D.ds.length ≤ 8
def DTr (h:Hp) (D:DP) (h':Hp) (D':DP):Prop:=Kept D.foot h h'∧∀ b,D'.foot b→D.foot b ∨ h.size ≤ b
theorem dw_len (x:DW):x.val.length=4:=rfl
section
variable {h h':Hp} {D D':DP} {R:Value→Hp→Prop}
theorem PlO.keep {S:Nat→Prop} {s:Sl} {c:Nat} {l:List Plc} (x:PlO h s c l) (k:Kept S h h') (hS:l ≠ []→¬ S c):PlO h' s c l :=
 ⟨x.n,x.at_,fun hne=>by obtain ⟨junk,r,e⟩:=x.row hne; exact ⟨junk,kept_row k r (hS hne),e⟩,x.nl⟩
theorem PlO.lt {s:Sl} {c:Nat} {l:List Plc} (x:PlO h s c l) (hne:l ≠ []):c < h.size:=by obtain ⟨_,r,_⟩:=x.row hne; exact row_lt r
theorem PlO.rd {s:Sl} {c:Nat} {l:List Plc} (x:PlO h s c l):ReadsO h s.a (l.flatMap plC):=by
 by_cases hne:l=[]
 ·rw [x.nl hne,hne]; exact rfl
 ·obtain ⟨junk,r,_⟩:=x.row hne
  rw [x.at_ hne]
  exact reads_head r
theorem SlAt.rd {sz:Nat} {a:Option Addr} {n c:Nat} {ob:Option Nat} {vs:List Value} (s:SlAt sz h a n c ob vs):ReadsO h a vs:=by
 cases e:ob with
 | none =>
  obtain ⟨h1,h2,h3⟩:=s.nil e
  have:=s.len
  rw [h2,Nat.zero_mul] at this
  rw [List.length_eq_zero_iff.1 this,h1]
  exact rfl
 | some b =>
  obtain ⟨h1,h2,junk,r,_⟩:=s.row b e
  rw [h1]
  exact reads_head r
theorem DRep.keep {S:Nat→Prop} (x:DRep h D) (k:Kept S h h') (hS:∀ b,D.foot b→¬ S b):DRep h' D :=
 ⟨kept_row k x.row (hS _ (.inl rfl)),x.at_.keep fun b hb=>k.2 b (by obtain ⟨_,_,j,r,_⟩:=x.at_.row b hb; exact row_lt r) (hS b (.inr (.inl hb))),
  fun y hy=>⟨(x.pl y hy).1.keep k fun _=>hS _ (.inr (.inr ⟨y,hy,rfl⟩)),(x.pl y hy).2⟩,x.od,x.pb,x.len⟩
theorem DRep.keepN (x:DRep h D) (k:Kept N h h'):DRep h' D:=x.keep k fun _ _=>_root_.id
theorem DRep.foot_lt (x:DRep h D) {b:Nat} (hb:D.foot b):b < h.size:=by
 rcases hb with e | e | ⟨y,hy,e⟩
 ·rw [e]; exact row_lt x.row
 ·obtain ⟨_,_,j,r,_⟩:=x.at_.row b e; exact row_lt r
 ·rw [← e]; exact (x.pl y hy).1.lt (x.pl y hy).2.1
theorem DRep.c0 (x:DRep h D):cell h (ad D.db)=some (.slice D.sl.a D.sl.n D.sl.c):=cell_row x.row 0
theorem DRep.n (x:DRep h D):D.sl.n=D.ds.length:=by
 have:=x.at_.len
 rw [flatMap_len4 D.ds] at this
 omega
where
 flatMap_len4 (l:List DW):(l.flatMap DW.val).length=l.length * 4:=by
  induction l with
  | nil=>rfl
  | cons a l ih=>rw [List.flatMap_cons,List.length_append,ih,dw_len,List.length_cons]; omega
theorem DRep.read (x:DRep h D) {j:Nat} {y:DW} (hj:D.ds[j]?=some y):∃ p,D.sl.a=some p∧cell h (p.add (j * 4))=some (.int .i64 y.w.conn)∧cell h ((p.add (j * 4)).add 1)=some (.int .i64 y.w.kind)∧cell h ((p.add (j * 4)).add 2)=some (.slice y.sl.a y.sl.n y.sl.c)∧cell h ((p.add (j * 4)).add 3)=some (.int .u64 y.w.til):=by
 have rd:=x.at_.rd
 obtain ⟨p,hp,c0⟩:=readsO_get rd ((flat_at dw_len D.ds j 0 y hj (by omega)).trans rfl)
 have g:∀ (i:Nat) (v:Value),i < 4→y.val[i]?=some v→cell h ((p.add (j * 4)).add i)=some v:=fun i v hi hv=>by
  obtain ⟨p',hp',c⟩:=readsO_get rd ((flat_at dw_len D.ds j i y hj hi).trans hv)
  rw [hp] at hp'
  obtain rfl:=Option.some.inj hp'
  rw [add_add]; exact c
 exact ⟨p,hp,c0,g 1 _ (by omega) rfl,g 2 _ (by omega) rfl,g 3 _ (by omega) rfl⟩
theorem nxt8 {i:Nat} (hi:i < 100000):IntKind.wrap .i64 ((i:Int) + 1)=((i + 1:Nat):Int):=by rw [wr (by omega) (by omega)]; rfl
end
end Go.Ev
set_option linter.all false
set_option maxRecDepth 1000000
namespace Go.Ev
open Go.Proofs
section
variable {h h':Hp} {D D':DP} {R:Value→Hp→Prop}
/-- The first in line who wants the place. -/
def DP.next (D:DP) (p:Plc) (k:Int):Value:=match D.ds.find? fun y=>wants y.w p k with | some y=>.tuple #[.int .i64 y.w.conn,.bool true] | none=>.tuple #[.int .i64 0,.bool false]
def DP.find (D:DP) (c:Int):Option DW:=D.ds.find? fun y=>decide (y.w.conn=c)
end
end Go.Ev
set_option linter.all false
set_option maxRecDepth 1000000
namespace Go.Ev
open Go.Proofs
section
variable {h h' h2:Hp} {D D' D2:DP} {R:Value→Hp→Prop}
theorem DTr.refl (h:Hp) (D:DP):DTr h D h D:=⟨Kept.refl _ _,fun _=>.inl⟩
theorem DTr.trans (a:DTr h D h' D') (b:DTr h' D' h2 D2):DTr h D h2 D2 :=
 ⟨⟨Nat.le_trans a.1.1 b.1.1,fun i hi hn=>(b.1.2 i (Nat.lt_of_lt_of_le hi a.1.1) fun o=>(a.2 i o).elim hn fun h=>by omega).trans (a.1.2 i hi hn)⟩,
  fun i o=>(b.2 i o).elim (a.2 i) fun h=>.inr (Nat.le_trans a.1.1 h)⟩
theorem DTr.keepN (k:Kept N h h'):DTr h D h' D:=⟨k.mono fun _ _ e=>e.elim,fun _=>.inl⟩
end
end Go.Ev
set_option linter.all false
set_option maxRecDepth 1000000
namespace Go.Ev
open Go.Proofs
def DP.til (D:DP) (i:Nat):Int:=match D.ds[i]? with | some y=>y.w.til | none=>0
def DP.conn (D:DP) (i:Nat):Int:=match D.ds[i]? with | some y=>y.w.conn | none=>0
section
variable {h h' h2:Hp} {D D' D2:DP} {R:Value→Hp→Prop}
/-! ### Two lists in order, of the same -/
theorem sorted_insert {lt:Int→Int→Prop} {a:Int}:∀ {l:List Int},(∀ x ∈ l,lt a x ∨ lt x a)→(∀ x ∈ l,∀ y ∈ l,lt a x→lt x y→lt a y)→l.Pairwise lt→∃ m:List Int,m.Perm (a :: l)∧m.Pairwise lt
 | [],_,_,_=>⟨[a],List.Perm.refl _,List.pairwise_singleton _ _⟩
 | x :: l,tot,tr,pw=>by
  rcases tot x (List.mem_cons_self ..) with h | h
  ·refine ⟨a :: x :: l,List.Perm.refl _,List.pairwise_cons.2 ⟨fun y hy=>?_,pw⟩⟩
   rcases List.mem_cons.1 hy with rfl | hy'
   ·exact h
   ·exact tr x (List.mem_cons_self ..) y hy h ((List.pairwise_cons.1 pw).1 y hy')
  ·obtain ⟨m,pm,sm⟩:=sorted_insert (l:=l) (fun y hy=>tot y (List.mem_cons_of_mem _ hy)) (fun y hy z hz=>tr y (List.mem_cons_of_mem _ hy) z (List.mem_cons_of_mem _ hz)) (List.pairwise_cons.1 pw).2
   refine ⟨x :: m,(pm.cons x).trans (List.Perm.swap ..),List.pairwise_cons.2 ⟨fun y hy=>?_,sm⟩⟩
   rcases List.mem_cons.1 (pm.mem_iff.1 hy) with rfl | hy'
   ·exact h
   ·exact (List.pairwise_cons.1 pw).1 y hy'
theorem sorted_exists {lt:Int→Int→Prop}:∀ {l:List Int},Ord l lt→∃ m:List Int,m.Perm l∧m.Pairwise lt
 | [],_=>⟨[],List.Perm.refl _,List.Pairwise.nil⟩
 | a :: l,o=>by
  have nd:=List.nodup_cons.1 o.nd
  obtain ⟨m,pm,sm⟩:=sorted_exists (l:=l) ⟨nd.2,fun x hx y hy=>o.tot x (List.mem_cons_of_mem _ hx) y (List.mem_cons_of_mem _ hy),fun x hx y hy z hz=>o.tr x (List.mem_cons_of_mem _ hx) y (List.mem_cons_of_mem _ hy) z (List.mem_cons_of_mem _ hz),fun x hx=>o.ir x (List.mem_cons_of_mem _ hx)⟩
  have mm:∀ x ∈ m,x ∈ a :: l:=fun x hx=>List.mem_cons_of_mem _ (pm.mem_iff.1 hx)
  obtain ⟨m',pm',sm'⟩:=sorted_insert (a:=a) (l:=m) (fun x hx=>o.tot a (List.mem_cons_self ..) x (mm x hx) fun e=>nd.1 (e ▸ pm.mem_iff.1 hx)) (fun x hx y hy=>o.tr a (List.mem_cons_self ..) x (mm x hx) y (mm y hy)) sm
  exact ⟨m',pm'.trans (pm.cons a),sm'⟩
end
end Go.Ev
set_option linter.all false
set_option maxRecDepth 100000
namespace Go.Ev
open Go.Proofs
/- larder/larderlaw18.WaitRefused -/
noncomputable def body3:Code:=(Try.f3.body).getD .skip
def lv3 (m:Nat):List Nat:=if m=7 then [1,3,4] else if m=17 then [1,3,4,5,6,7,10,11] else []
def f3I1 (J:Nat→Addr→Option Addr→Int→Hp→Prop) (n:Nat) (env:List Value) (h:Hp):Prop:=lenIs env 186 (DecA env 1 fun s1=>DecP env 3 fun s3=>DecI .i64 env 4 fun s4=>J n s1 s3 s4 h)
def f3I2 (J:Nat→Addr→Option Addr→Int→Addr→Sl→Sl→Bool→Int→Hp→Prop) (n:Nat) (env:List Value) (h:Hp):Prop:=lenIs env 186 (DecA env 1 fun s1=>DecP env 3 fun s3=>DecI .i64 env 4 fun s4=>DecA env 5 fun s5=>DecL env 6 fun s6=>DecL env 7 fun s7=>DecB env 10 fun s10=>DecI .i64 env 11 fun s11=>J n s1 s3 s4 s5 s6 s7 s10 s11 h)
def f3K2 (J1:Nat→Addr→Option Addr→Int→Hp→Prop) (n1:Nat) (x1:Addr) (x3:Option Addr) (x4:Int) (x70:Bool) (h:Hp) (R:Value→Hp→Prop):Prop :=
 Cond x70 (R (.bool false:Value) h) (∃ m,m < n1∧J1 m x1 x3 (IntKind.wrap .i64 (x4 + (1:Int))) h)
def f3K4 (J1:Nat→Addr→Option Addr→Int→Hp→Prop) (n1:Nat) (J2:Nat→Addr→Option Addr→Int→Addr→Sl→Sl→Bool→Int→Hp→Prop) (n2:Nat) (x1:Addr) (x3:Option Addr) (x4:Int) (x5:Addr) (x6:Sl) (x7:Sl) (x10:Bool) (x11:Int) (h:Hp) (R:Value→Hp→Prop):Prop :=
 ∃ m,m < n2∧J2 m x1 x3 x4 x5 x6 x7 x10 (IntKind.wrap .i64 (x11 + (1:Int))) h
def f3K6 (J1:Nat→Addr→Option Addr→Int→Hp→Prop) (n1:Nat) (x1:Addr) (x3:Option Addr) (x4:Int) (x185:Bool) (h:Hp) (R:Value→Hp→Prop):Prop :=
 Cond x185 (R (.bool false:Value) h) (∃ m,m < n1∧J1 m x1 x3 (IntKind.wrap .i64 (x4 + (1:Int))) h)
def f3K5 (J1:Nat→Addr→Option Addr→Int→Hp→Prop) (n1:Nat) (x1:Addr) (x3:Option Addr) (x4:Int) (x6:Sl) (x10:Bool) (x175:Bool) (h:Hp) (R:Value→Hp→Prop):Prop :=
 Cond x175 (R (.bool false:Value) h) (Cond x10 (CallTo Try.prog 13 #[.pointer x3] h fun r h25=>∃ t179:Sl,r=.slice t179.a t179.n t179.c∧f3K6 J1 n1 x1 x3 x4 ((((t179.n:Nat):Int)) != (IntKind.wrap .i64 ((((x6.n:Nat):Int)) + (1:Int)))) h25 R) (f3K6 J1 n1 x1 x3 x4 false h R))
def f3K3 (J1:Nat→Addr→Option Addr→Int→Hp→Prop) (n1:Nat) (x1:Addr) (x3:Option Addr) (x4:Int) (x5:Addr) (x6:Sl) (x7:Sl) (x10:Bool) (h:Hp) (R:Value→Hp→Prop):Prop :=
 LoopEv (evC Try.prog tab lv3 (sub [1,1,1,1,0,1,0,0,1,0,0,1,1,1,1,1,0,1,0,0] body3)) (contAt Try.prog tab lv3 [1,1,1,1,0,1,0,0,1,0,0,1,1,1,1,1,0,1,0] body3 [loopK (f3I1 J1) n1] (bodyK Try.prog Try.f3 [] R)) [(1,.pointer (some x1)),(3,.pointer x3),(4,.int .i64 x4),(5,.pointer (some x5)),(6,.slice x6.a x6.n x6.c),(7,.slice x7.a x7.n x7.c),(10,.bool x10),(11,.int .i64 0)] 186 h
def f3K1 (J1:Nat→Addr→Option Addr→Int→Hp→Prop) (n1:Nat) (x1:Addr) (x3:Option Addr) (x4:Int) (x26:Bool) (h:Hp) (R:Value→Hp→Prop):Prop :=
 Cond x26 (∃ t30:Sl,cell h (x1.add 1)=some (.slice t30.a t30.n t30.c)∧(0 ≤ x4∧x4 < ((t30.n:Nat):Int))∧PtrOk t30.a fun p32=>∃ t33_0:Int,cell h (p32.add (x4.toNat * 6))=some (.int .i64 t33_0)∧∃ t33_1:Int,cell h ((p32.add (x4.toNat * 6)).add 1)=some (.int .i64 t33_1)∧∃ t33_2:Int,cell h ((p32.add (x4.toNat * 6)).add 2)=some (.int .i64 t33_2)∧∃ t33_3:Int,cell h ((p32.add (x4.toNat * 6)).add 3)=some (.int .i64 t33_3)∧∃ t33_4:Sl,cell h ((p32.add (x4.toNat * 6)).add 4)=some (.slice t33_4.a t33_4.n t33_4.c)∧∃ t33_5:Int,cell h ((p32.add (x4.toNat * 6)).add 5)=some (.int .u64 t33_5)∧Let (h.push (.cells #[.int .i64 0,.int .i64 0,.int .i64 0,.int .i64 0,.slice none 0 0,.int .u64 0] 31)) fun h4=>stOk h4 (nb h)∧Let (setc h4 (nb h) (.int .i64 t33_0)) fun h5=>stOk h5 ((nb h).add 1)∧Let (setc h5 ((nb h).add 1) (.int .i64 t33_1)) fun h6=>stOk h6 ((nb h).add 2)∧Let (setc h6 ((nb h).add 2) (.int .i64 t33_2)) fun h7=>stOk h7 ((nb h).add 3)∧Let (setc h7 ((nb h).add 3) (.int .i64 t33_3)) fun h8=>stOk h8 ((nb h).add 4)∧Let (setc h8 ((nb h).add 4) (.slice t33_4.a t33_4.n t33_4.c)) fun h9=>stOk h9 ((nb h).add 5)∧Let (setc h9 ((nb h).add 5) (.int .u64 t33_5)) fun h10=>CallTo Try.prog 13 #[.pointer x3] h10 fun r h11=>∃ t35:Sl,r=.slice t35.a t35.n t35.c∧CallTo Try.prog 14 #[.pointer x3,.int .u64 4503599627370496] h11 fun r h12=>∃ t37:Sl,r=.slice t37.a t37.n t37.c∧∃ t41:Int,cell h12 ((nb h).add 2)=some (.int .i64 t41)∧CallTo Try.prog 15 #[.pointer x3,.int .i64 t41] h12 fun r h13=>∃ t42_0:Int,∃ t42_1:Bool,r=.tuple #[.int .u64 t42_0,.bool t42_1]∧∃ t46:Int,cell h13 ((nb h).add 1)=some (.int .i64 t46)∧Cond (t46 != (1:Int)) (∃ t50:Int,cell h13 ((nb h).add 2)=some (.int .i64 t50)∧CallTo Try.prog 16 #[.pointer x3,.int .i64 t50] h13 fun r h14=>∃ t51:Bool,r=.bool t51∧Cond (!(t51 == t42_1)) (f3K2 J1 n1 x1 x3 x4 true h14 R) (Cond (!t42_1) (CallTo Try.prog 13 #[.pointer x3] h14 fun r h15=>∃ t60:Sl,r=.slice t60.a t60.n t60.c∧CallTo Try.prog 17 #[.slice t35.a t35.n t35.c,.slice t60.a t60.n t60.c] h15 fun r h16=>∃ t61:Bool,r=.bool t61∧Cond t61 (CallTo Try.prog 14 #[.pointer x3,.int .u64 4503599627370496] h16 fun r h17=>∃ t65:Sl,r=.slice t65.a t65.n t65.c∧CallTo Try.prog 17 #[.slice t37.a t37.n t37.c,.slice t65.a t65.n t65.c] h17 fun r h18=>∃ t66:Bool,r=.bool t66∧f3K2 J1 n1 x1 x3 x4 (!t66) h18 R) (f3K2 J1 n1 x1 x3 x4 true h16 R)) (f3K2 J1 n1 x1 x3 x4 false h14 R))) (∃ t72:Int,cell h13 ((nb h).add 2)=some (.int .i64 t72)∧Cond (decide (t72 ≥ (0:Int))) (∃ t76:Int,cell h13 ((nb h).add 2)=some (.int .i64 t76)∧Cond (decide (t76 < (8:Int))) (Cond (!t42_1) (∃ t85:Int,cell h13 ((nb h).add 3)=some (.int .i64 t85)∧Cond (t85 == (2:Int)) (∃ t95:Sl,cell h13 ((nb h).add 4)=some (.slice t95.a t95.n t95.c)∧Cond (decide ((((t95.n:Nat):Int)) > (0:Int))) (∃ t101:Sl,cell h13 ((nb h).add 4)=some (.slice t101.a t101.n t101.c)∧Cond (decide ((((t101.n:Nat):Int)) ≤ (64:Int))) (∃ t107:Int,cell h13 ((nb h).add 5)=some (.int .u64 t107)∧f3K3 J1 n1 x1 x3 x4 (nb h) t35 t37 (decide (t107 ≤ (4503599627370496:Int))) h13 R) (f3K3 J1 n1 x1 x3 x4 (nb h) t35 t37 false h13 R)) (f3K3 J1 n1 x1 x3 x4 (nb h) t35 t37 false h13 R)) (∃ t89:Int,cell h13 ((nb h).add 3)=some (.int .i64 t89)∧Cond (t89 == (5:Int)) (∃ t95:Sl,cell h13 ((nb h).add 4)=some (.slice t95.a t95.n t95.c)∧Cond (decide ((((t95.n:Nat):Int)) > (0:Int))) (∃ t101:Sl,cell h13 ((nb h).add 4)=some (.slice t101.a t101.n t101.c)∧Cond (decide ((((t101.n:Nat):Int)) ≤ (64:Int))) (∃ t107:Int,cell h13 ((nb h).add 5)=some (.int .u64 t107)∧f3K3 J1 n1 x1 x3 x4 (nb h) t35 t37 (decide (t107 ≤ (4503599627370496:Int))) h13 R) (f3K3 J1 n1 x1 x3 x4 (nb h) t35 t37 false h13 R)) (f3K3 J1 n1 x1 x3 x4 (nb h) t35 t37 false h13 R)) (f3K3 J1 n1 x1 x3 x4 (nb h) t35 t37 false h13 R))) (f3K3 J1 n1 x1 x3 x4 (nb h) t35 t37 false h13 R)) (f3K3 J1 n1 x1 x3 x4 (nb h) t35 t37 false h13 R)) (f3K3 J1 n1 x1 x3 x4 (nb h) t35 t37 false h13 R))) (R (.bool true:Value) h)
def f3L1 (J1:Nat→Addr→Option Addr→Int→Hp→Prop) (n1:Nat) (s1:Addr) (s3:Option Addr) (s4:Int) (g:Nat→Value) (h:Hp) (R:Value→Hp→Prop):Prop :=
 ∃ t20:Sl,cell h (s1.add 1)=some (.slice t20.a t20.n t20.c)∧Cond (decide (s4 < (((t20.n:Nat):Int)))) (f3K1 J1 n1 s1 s3 s4 (decide (s4 < (300:Int))) h R) (f3K1 J1 n1 s1 s3 s4 false h R)
theorem f3L1_eq (J1:Nat→Addr→Option Addr→Int→Hp→Prop) (n1:Nat) (s1:Addr) (s3:Option Addr) (s4:Int) (g:Nat→Value) (h:Hp) (R:Value→Hp→Prop):(evC Try.prog tab lv3 (sub [1,1,1,1,0,1,0,0] body3)) (loopK (f3I1 J1) n1 (contAt Try.prog tab lv3 [1,1,1,1,0,1,0] body3 [] (bodyK Try.prog Try.f3 [] R))) (mkEnv 186 [(1,.pointer (some s1)),(3,.pointer s3),(4,.int .i64 s4)] g) h=f3L1 J1 n1 s1 s3 s4 g h R:=by kernel_rfl
theorem f3I1_at (J:Nat→Addr→Option Addr→Int→Hp→Prop) (n:Nat) (s1:Addr) (s3:Option Addr) (s4:Int) (g:Nat→Value) (h:Hp):f3I1 J n (mkEnv 186 [(1,.pointer (some s1)),(3,.pointer s3),(4,.int .i64 s4)] g) h=J n s1 s3 s4 h:=by kernel_rfl
theorem f3L1_rule  {R:Value→Hp→Prop} {s1:Addr} {s3:Option Addr} {s4:Int} {h0:Hp} (J:Nat→Addr→Option Addr→Int→Hp→Prop) (n0:Nat) (hi:J n0 s1 s3 s4 h0)
  (hr:∀ n s1 s3 s4 g h,J n s1 s3 s4 h→f3L1  J n s1 s3 s4 g h R):LoopEv (evC Try.prog tab lv3 (sub [1,1,1,1,0,1,0,0] body3)) (contAt Try.prog tab lv3 [1,1,1,1,0,1,0] body3 [] (bodyK Try.prog Try.f3 [] R)) [(1,.pointer (some s1)),(3,.pointer s3),(4,.int .i64 s4)] 186 h0:=by
 refine ⟨f3I1 J,n0,fun g=>by rw [f3I1_at]; exact hi,fun n env h hI=>?_⟩
 clear hi
 clear s1 s3 s4
 obtain ⟨hlen,hI⟩:=Cond_true' hI
 have hlen:env.length=186:=by simpa using hlen
 obtain ⟨s1,es1,hI⟩:=DecA.out hI
 obtain ⟨s3,es3,hI⟩:=DecP.out hI
 obtain ⟨s4,es4,hI⟩:=DecI.out hI
 rw [mkEnv_of (l:=[(1,.pointer (some s1)),(3,.pointer s3),(4,.int .i64 s4)]) hlen (by simp only [List.mem_cons,List.not_mem_nil,or_false,forall_eq_or_imp,forall_eq]; exact ⟨es1,es3,es4⟩)]
 rw [f3L1_eq]
 exact hr n s1 s3 s4 _ h hI
def f3L2 (J1:Nat→Addr→Option Addr→Int→Hp→Prop) (n1:Nat) (J2:Nat→Addr→Option Addr→Int→Addr→Sl→Sl→Bool→Int→Hp→Prop) (n2:Nat) (s1:Addr) (s3:Option Addr) (s4:Int) (s5:Addr) (s6:Sl) (s7:Sl) (s10:Bool) (s11:Int) (g:Nat→Value) (h:Hp) (R:Value→Hp→Prop):Prop :=
 ∃ t112:Sl,cell h (s5.add 4)=some (.slice t112.a t112.n t112.c)∧Cond (decide (s11 < (((t112.n:Nat):Int)))) (Cond s10 (∃ t120:Sl,cell h (s5.add 4)=some (.slice t120.a t120.n t120.c)∧(0 ≤ s11∧s11 < ((t120.n:Nat):Int))∧PtrOk t120.a fun p122=>∃ t124:Int,cell h (p122.add (s11.toNat * 2))=some (.int .i64 t124)∧Cond (decide (t124 ≥ (0:Int))) (∃ t129:Sl,cell h (s5.add 4)=some (.slice t129.a t129.n t129.c)∧(0 ≤ s11∧s11 < ((t129.n:Nat):Int))∧PtrOk t129.a fun p131=>∃ t133:Int,cell h (p131.add (s11.toNat * 2))=some (.int .i64 t133)∧Cond (decide (t133 < (4:Int))) (∃ t138:Sl,cell h (s5.add 4)=some (.slice t138.a t138.n t138.c)∧(0 ≤ s11∧s11 < ((t138.n:Nat):Int))∧PtrOk t138.a fun p140=>∃ t142:ByteArray,cell h ((p140.add (s11.toNat * 2)).add 1)=some (.string t142)∧f3K4 J1 n1 J2 n2 s1 s3 s4 s5 s6 s7 (decide ((((t142.size:Nat):Int)) ≤ (4096:Int))) s11 h R) (f3K4 J1 n1 J2 n2 s1 s3 s4 s5 s6 s7 false s11 h R)) (f3K4 J1 n1 J2 n2 s1 s3 s4 s5 s6 s7 false s11 h R)) (f3K4 J1 n1 J2 n2 s1 s3 s4 s5 s6 s7 false s11 h R)) (∃ t148:Int,cell h (s5.add 2)=some (.int .i64 t148)∧∃ t150:Int,cell h (s5.add 3)=some (.int .i64 t150)∧∃ t152:Sl,cell h (s5.add 4)=some (.slice t152.a t152.n t152.c)∧∃ t155:Int,cell h (s5.add 5)=some (.int .u64 t155)∧CallTo Try.prog 19 #[.slice t152.a t152.n t152.c] h fun r h19=>∃ t153:Sl,r=.slice t153.a t153.n t153.c∧(∃ y0:Int,cell h19 (s5.add 5)=some (.int .u64 y0)∧Next.value (.int .u64 y0)=Next.value (.int .u64 t155))∧(∃ y0:Int,cell h19 (s5.add 3)=some (.int .i64 y0)∧Next.value (.int .i64 y0)=Next.value (.int .i64 t150))∧(∃ y0:Int,cell h19 (s5.add 2)=some (.int .i64 y0)∧Next.value (.int .i64 y0)=Next.value (.int .i64 t148))∧CallTo Try.prog 18 #[.pointer s3,.int .i64 t148,.int .i64 t150,.slice t153.a t153.n t153.c,.int .u64 t155] h19 fun r h20=>∃ t156:Int,r=.int .i64 t156∧Cond (!((t156 == (0:Int)) == s10)) (R (.bool false:Value) h20) (Cond (!s10) (CallTo Try.prog 13 #[.pointer s3] h20 fun r h21=>∃ t166:Sl,r=.slice t166.a t166.n t166.c∧CallTo Try.prog 17 #[.slice s6.a s6.n s6.c,.slice t166.a t166.n t166.c] h21 fun r h22=>∃ t167:Bool,r=.bool t167∧Cond t167 (CallTo Try.prog 14 #[.pointer s3,.int .u64 4503599627370496] h22 fun r h23=>∃ t171:Sl,r=.slice t171.a t171.n t171.c∧CallTo Try.prog 17 #[.slice s7.a s7.n s7.c,.slice t171.a t171.n t171.c] h23 fun r h24=>∃ t172:Bool,r=.bool t172∧f3K5 J1 n1 s1 s3 s4 s6 s10 (!t172) h24 R) (f3K5 J1 n1 s1 s3 s4 s6 s10 true h22 R)) (f3K5 J1 n1 s1 s3 s4 s6 s10 false h20 R)))
theorem f3L2_eq (J1:Nat→Addr→Option Addr→Int→Hp→Prop) (n1:Nat) (J2:Nat→Addr→Option Addr→Int→Addr→Sl→Sl→Bool→Int→Hp→Prop) (n2:Nat) (s1:Addr) (s3:Option Addr) (s4:Int) (s5:Addr) (s6:Sl) (s7:Sl) (s10:Bool) (s11:Int) (g:Nat→Value) (h:Hp) (R:Value→Hp→Prop):(evC Try.prog tab lv3 (sub [1,1,1,1,0,1,0,0,1,0,0,1,1,1,1,1,0,1,0,0] body3)) (loopK (f3I2 J2) n2 (contAt Try.prog tab lv3 [1,1,1,1,0,1,0,0,1,0,0,1,1,1,1,1,0,1,0] body3 [loopK (f3I1 J1) n1] (bodyK Try.prog Try.f3 [] R))) (mkEnv 186 [(1,.pointer (some s1)),(3,.pointer s3),(4,.int .i64 s4),(5,.pointer (some s5)),(6,.slice s6.a s6.n s6.c),(7,.slice s7.a s7.n s7.c),(10,.bool s10),(11,.int .i64 s11)] g) h=f3L2 J1 n1 J2 n2 s1 s3 s4 s5 s6 s7 s10 s11 g h R:=by kernel_rfl
theorem f3I2_at (J:Nat→Addr→Option Addr→Int→Addr→Sl→Sl→Bool→Int→Hp→Prop) (n:Nat) (s1:Addr) (s3:Option Addr) (s4:Int) (s5:Addr) (s6:Sl) (s7:Sl) (s10:Bool) (s11:Int) (g:Nat→Value) (h:Hp):f3I2 J n (mkEnv 186 [(1,.pointer (some s1)),(3,.pointer s3),(4,.int .i64 s4),(5,.pointer (some s5)),(6,.slice s6.a s6.n s6.c),(7,.slice s7.a s7.n s7.c),(10,.bool s10),(11,.int .i64 s11)] g) h=J n s1 s3 s4 s5 s6 s7 s10 s11 h:=by kernel_rfl
theorem f3L2_rule {J1:Nat→Addr→Option Addr→Int→Hp→Prop} {n1:Nat} {R:Value→Hp→Prop} {s1:Addr} {s3:Option Addr} {s4:Int} {s5:Addr} {s6:Sl} {s7:Sl} {s10:Bool} {s11:Int} {h0:Hp} (J:Nat→Addr→Option Addr→Int→Addr→Sl→Sl→Bool→Int→Hp→Prop) (n0:Nat) (hi:J n0 s1 s3 s4 s5 s6 s7 s10 s11 h0)
  (hr:∀ n s1 s3 s4 s5 s6 s7 s10 s11 g h,J n s1 s3 s4 s5 s6 s7 s10 s11 h→f3L2 J1 n1 J n s1 s3 s4 s5 s6 s7 s10 s11 g h R):LoopEv (evC Try.prog tab lv3 (sub [1,1,1,1,0,1,0,0,1,0,0,1,1,1,1,1,0,1,0,0] body3)) (contAt Try.prog tab lv3 [1,1,1,1,0,1,0,0,1,0,0,1,1,1,1,1,0,1,0] body3 [loopK (f3I1 J1) n1] (bodyK Try.prog Try.f3 [] R)) [(1,.pointer (some s1)),(3,.pointer s3),(4,.int .i64 s4),(5,.pointer (some s5)),(6,.slice s6.a s6.n s6.c),(7,.slice s7.a s7.n s7.c),(10,.bool s10),(11,.int .i64 s11)] 186 h0:=by
 refine ⟨f3I2 J,n0,fun g=>by rw [f3I2_at]; exact hi,fun n env h hI=>?_⟩
 clear hi
 clear s1 s3 s4 s5 s6 s7 s10 s11
 obtain ⟨hlen,hI⟩:=Cond_true' hI
 have hlen:env.length=186:=by simpa using hlen
 obtain ⟨s1,es1,hI⟩:=DecA.out hI
 obtain ⟨s3,es3,hI⟩:=DecP.out hI
 obtain ⟨s4,es4,hI⟩:=DecI.out hI
 obtain ⟨s5,es5,hI⟩:=DecA.out hI
 obtain ⟨s6,es6,hI⟩:=DecL.out hI
 obtain ⟨s7,es7,hI⟩:=DecL.out hI
 obtain ⟨s10,es10,hI⟩:=DecB.out hI
 obtain ⟨s11,es11,hI⟩:=DecI.out hI
 rw [mkEnv_of (l:=[(1,.pointer (some s1)),(3,.pointer s3),(4,.int .i64 s4),(5,.pointer (some s5)),(6,.slice s6.a s6.n s6.c),(7,.slice s7.a s7.n s7.c),(10,.bool s10),(11,.int .i64 s11)]) hlen (by simp only [List.mem_cons,List.not_mem_nil,or_false,forall_eq_or_imp,forall_eq]; exact ⟨es1,es3,es4,es5,es6,es7,es10,es11⟩)]
 rw [f3L2_eq]
 exact hr n s1 s3 s4 s5 s6 s7 s10 s11 _ h hI
def f3F (a0_0:Int) (a0_1:Sl) (h:Hp) (R:Value→Hp→Prop):Prop :=
 Let (h.push (.cells #[.int .i64 a0_0,.slice a0_1.a a0_1.n a0_1.c] 24)) fun h1=>CallTo Try.prog 11 #[] h1 fun r h2=>∃ t13:Bool,r=.bool t13∧Cond (!t13) (R (.bool false:Value) h2) (CallTo Try.prog 12 #[] h2 fun r h3=>∃ t15:Option Addr,r=.pointer t15∧Cond (Option.isNone t15) (R (.bool false:Value) h3) (LoopEv (evC Try.prog tab lv3 (sub [1,1,1,1,0,1,0,0] body3)) (contAt Try.prog tab lv3 [1,1,1,1,0,1,0] body3 [] (bodyK Try.prog Try.f3 [] R)) [(1,.pointer (some (nb h))),(3,.pointer t15),(4,.int .i64 0)] 186 h3))
theorem f3F_eq (a0_0:Int) (a0_1:Sl) (h:Hp) (R:Value→Hp→Prop):evF Try.prog tab lv3 Try.f3 body3 [] [.agg #[.int .i64 a0_0,.slice a0_1.a a0_1.n a0_1.c]] h R=f3F a0_0 a0_1 h R:=by kernel_rfl
theorem f3F_ok {a0_0:Int} {a0_1:Sl} {h:Hp} {R:Value→Hp→Prop} (hF:f3F a0_0 a0_1 h R):CallTo Try.prog 3 #[.agg #[.int .i64 a0_0,.slice a0_1.a a0_1.n a0_1.c]] h R :=
 callTo_of_ev (lv:=lv3) (hints:=[]) (c:=body3) (args:=[.agg #[.int .i64 a0_0,.slice a0_1.a a0_1.n a0_1.c]]) mixed tab_ok Try.func3 (by kernel_rfl) (by kernel_rfl) (by rw [f3F_eq]; exact hF)
/- larder/larderlaw18.WaitBlocks -/
/- larder/larderlaw18.WaitNext -/
/- larder/larderlaw18.WaitDue -/
/- larder/larderlaw18.wakes -/
noncomputable def body11:Code:=(Try.f11.body).getD .skip
def lv11 (m:Nat):List Nat:=[]
def f11F  (h:Hp) (R:Value→Hp→Prop):Prop :=
 CallTo Try.prog 12 #[] h fun r h1=>∃ t8:Option Addr,r=.pointer t8∧Cond (Option.isNone t8) (R (.bool false:Value) h1) (Let (h1.push (.cells #[.int .i64 1,.string ⟨#[107]⟩] 40)) fun h2=>CallTo Try.prog 18 #[.pointer t8,.int .i64 3,.int .i64 2,.slice (some (nb h1)) 1 1,.int .u64 0] h2 fun r h3=>∃ t14:Int,r=.int .i64 t14∧CallTo Try.prog 26 #[.pointer t8,.agg #[.int .i64 1,.string ⟨#[107]⟩],.int .i64 2] h3 fun r h4=>∃ t18_0:Int,∃ t18_1:Bool,r=.tuple #[.int .i64 t18_0,.bool t18_1]∧CallTo Try.prog 26 #[.pointer t8,.agg #[.int .i64 1,.string ⟨#[107]⟩],.int .i64 5] h4 fun r h5=>∃ t24_0:Int,∃ t24_1:Bool,r=.tuple #[.int .i64 t24_0,.bool t24_1]∧Let (h5.push (.cells #[.int .i64 1,.string ⟨#[107]⟩] 40)) fun h6=>CallTo Try.prog 18 #[.pointer t8,.int .i64 3,.int .i64 2,.slice (some (nb h5)) 1 1,.int .u64 0] h6 fun r h7=>∃ t30:Int,r=.int .i64 t30∧Cond (t14 == (0:Int)) (Cond t18_1 (Cond (t18_0 == (3:Int)) (Cond (!t24_1) (R ((.bool (t30 == (181:Int)):Value)) h7) (R (.bool false:Value) h7)) (R (.bool false:Value) h7)) (R (.bool false:Value) h7)) (R (.bool false:Value) h7))
theorem f11F_eq  (h:Hp) (R:Value→Hp→Prop):evF Try.prog tab lv11 Try.f11 body11 [] [] h R=f11F  h R:=by kernel_rfl
theorem f11F_ok {h:Hp} {R:Value→Hp→Prop} (hF:f11F h R):CallTo Try.prog 11 #[] h R :=
 callTo_of_ev (lv:=lv11) (hints:=[]) (c:=body11) (args:=[]) mixed tab_ok Try.func11 (by kernel_rfl) (by kernel_rfl) (by rw [f11F_eq]; exact hF)
/- larder/larderlaw18.ints -/
noncomputable def body17:Code:=(Try.f17.body).getD .skip
def lv17 (m:Nat):List Nat:=if m=4 then [0,1,5] else []
def f17I1 (J:Nat→Sl→Sl→Int→Hp→Prop) (n:Nat) (env:List Value) (h:Hp):Prop:=lenIs env 26 (DecL env 0 fun s0=>DecL env 1 fun s1=>DecI .i64 env 5 fun s5=>J n s0 s1 s5 h)
def f17L1 (J1:Nat→Sl→Sl→Int→Hp→Prop) (n1:Nat) (s0:Sl) (s1:Sl) (s5:Int) (g:Nat→Value) (h:Hp) (R:Value→Hp→Prop):Prop :=
 Cond (decide (s5 < (((s0.n:Nat):Int)))) ((0 ≤ s5∧s5 < ((s0.n:Nat):Int))∧PtrOk s0.a fun p19=>∃ t20:Int,cell h (p19.add (s5.toNat * 1))=some (.int .i64 t20)∧(0 ≤ s5∧s5 < ((s1.n:Nat):Int))∧PtrOk s1.a fun p23=>∃ t24:Int,cell h (p23.add (s5.toNat * 1))=some (.int .i64 t24)∧Cond (t20 != t24) (R (.bool false:Value) h) (∃ m,m < n1∧J1 m s0 s1 (IntKind.wrap .i64 (s5 + (1:Int))) h)) (R (.bool true:Value) h)
theorem f17L1_eq (J1:Nat→Sl→Sl→Int→Hp→Prop) (n1:Nat) (s0:Sl) (s1:Sl) (s5:Int) (g:Nat→Value) (h:Hp) (R:Value→Hp→Prop):(evC Try.prog tab lv17 (sub [1,1,0,1,0,0] body17)) (loopK (f17I1 J1) n1 (contAt Try.prog tab lv17 [1,1,0,1,0] body17 [] (bodyK Try.prog Try.f17 [] R))) (mkEnv 26 [(0,.slice s0.a s0.n s0.c),(1,.slice s1.a s1.n s1.c),(5,.int .i64 s5)] g) h=f17L1 J1 n1 s0 s1 s5 g h R:=by kernel_rfl
theorem f17I1_at (J:Nat→Sl→Sl→Int→Hp→Prop) (n:Nat) (s0:Sl) (s1:Sl) (s5:Int) (g:Nat→Value) (h:Hp):f17I1 J n (mkEnv 26 [(0,.slice s0.a s0.n s0.c),(1,.slice s1.a s1.n s1.c),(5,.int .i64 s5)] g) h=J n s0 s1 s5 h:=by kernel_rfl
theorem f17L1_rule  {R:Value→Hp→Prop} {s0:Sl} {s1:Sl} {s5:Int} {h0:Hp} (J:Nat→Sl→Sl→Int→Hp→Prop) (n0:Nat) (hi:J n0 s0 s1 s5 h0)
  (hr:∀ n s0 s1 s5 g h,J n s0 s1 s5 h→f17L1  J n s0 s1 s5 g h R):LoopEv (evC Try.prog tab lv17 (sub [1,1,0,1,0,0] body17)) (contAt Try.prog tab lv17 [1,1,0,1,0] body17 [] (bodyK Try.prog Try.f17 [] R)) [(0,.slice s0.a s0.n s0.c),(1,.slice s1.a s1.n s1.c),(5,.int .i64 s5)] 26 h0:=by
 refine ⟨f17I1 J,n0,fun g=>by rw [f17I1_at]; exact hi,fun n env h hI=>?_⟩
 clear hi
 clear s0 s1 s5
 obtain ⟨hlen,hI⟩:=Cond_true' hI
 have hlen:env.length=26:=by simpa using hlen
 obtain ⟨s0,es0,hI⟩:=DecL.out hI
 obtain ⟨s1,es1,hI⟩:=DecL.out hI
 obtain ⟨s5,es5,hI⟩:=DecI.out hI
 rw [mkEnv_of (l:=[(0,.slice s0.a s0.n s0.c),(1,.slice s1.a s1.n s1.c),(5,.int .i64 s5)]) hlen (by simp only [List.mem_cons,List.not_mem_nil,or_false,forall_eq_or_imp,forall_eq]; exact ⟨es0,es1,es5⟩)]
 rw [f17L1_eq]
 exact hr n s0 s1 s5 _ h hI
def f17F (a0:Sl) (a1:Sl) (h:Hp) (R:Value→Hp→Prop):Prop :=
 Cond ((((a0.n:Nat):Int)) != (((a1.n:Nat):Int))) (R (.bool false:Value) h) (LoopEv (evC Try.prog tab lv17 (sub [1,1,0,1,0,0] body17)) (contAt Try.prog tab lv17 [1,1,0,1,0] body17 [] (bodyK Try.prog Try.f17 [] R)) [(0,.slice a0.a a0.n a0.c),(1,.slice a1.a a1.n a1.c),(5,.int .i64 0)] 26 h)
theorem f17F_eq (a0:Sl) (a1:Sl) (h:Hp) (R:Value→Hp→Prop):evF Try.prog tab lv17 Try.f17 body17 [] [.slice a0.a a0.n a0.c,.slice a1.a a1.n a1.c] h R=f17F a0 a1 h R:=by kernel_rfl
theorem f17F_ok {a0:Sl} {a1:Sl} {h:Hp} {R:Value→Hp→Prop} (hF:f17F a0 a1 h R):CallTo Try.prog 17 #[.slice a0.a a0.n a0.c,.slice a1.a a1.n a1.c] h R :=
 callTo_of_ev (lv:=lv17) (hints:=[]) (c:=body17) (args:=[.slice a0.a a0.n a0.c,.slice a1.a a1.n a1.c]) mixed tab_ok Try.func17 (by kernel_rfl) (by kernel_rfl) (by rw [f17F_eq]; exact hF)
/- larder/larderlaw18.twin -/
noncomputable def body19:Code:=(Try.f19.body).getD .skip
def lv19 (m:Nat):List Nat:=[]
def f19F (a0:Sl) (h:Hp) (R:Value→Hp→Prop):Prop :=
 Cond (Option.isNone a0.a) (R (.slice none 0 0:Value) h) ((0 ≤ (((a0.n:Nat):Int))∧(((a0.n:Nat):Int)) ≤ (((a0.n:Nat):Int)))∧(((a0.n:Nat):Int)) < 2 ^ 62∧(24:Nat) * (((a0.n:Nat):Int)) ≤ 2 ^ 48∧Let (h.push (.cells (zrow #[.int .i64 0,.string ⟨#[]⟩] ((((a0.n:Nat):Int)).toNat * 2)) 40)) fun h1=>cpySl 2 (some (nb h)) ((((a0.n:Nat):Int)).toNat) a0.a a0.n h1 fun rk h2=>R ((.slice (some (nb h)) ((((a0.n:Nat):Int)).toNat) ((((a0.n:Nat):Int)).toNat):Value)) h2)
theorem f19F_eq (a0:Sl) (h:Hp) (R:Value→Hp→Prop):evF Try.prog tab lv19 Try.f19 body19 [] [.slice a0.a a0.n a0.c] h R=f19F a0 h R:=by kernel_rfl
theorem f19F_ok {a0:Sl} {h:Hp} {R:Value→Hp→Prop} (hF:f19F a0 h R):CallTo Try.prog 19 #[.slice a0.a a0.n a0.c] h R :=
 callTo_of_ev (lv:=lv19) (hints:=[]) (c:=body19) (args:=[.slice a0.a a0.n a0.c]) mixed tab_ok Try.func19 (by kernel_rfl) (by kernel_rfl) (by rw [f19F_eq]; exact hF)
/- larder/larderlaw18.holds -/
/- (*larder/larderlaw18.side).plays -/
/- larder/larderlaw18.same -/
/- larder/larderlaw18.place -/
end Go.Ev
set_option linter.all false
set_option maxRecDepth 1000000
namespace Go.Ev
open Go.Proofs
theorem il_rd {h:Hp} {s:Sl} {c:Nat} {l:List Int} (x:IL h s c l):ReadsO h s.a (l.map iv):=by
 by_cases hne:l=[]
 ·rw [x.nl hne,hne]; exact rfl
 ·obtain ⟨junk,r,_⟩:=x.row hne
  rw [x.at_ hne]
  exact reads_head r
theorem IL.keep {h h':Hp} {S:Nat→Prop} {s:Sl} {c:Nat} {l:List Int} (x:IL h s c l) (k:Kept S h h') (hS:l ≠ []→¬ S c):IL h' s c l :=
 ⟨x.n,x.at_,fun hne=>by obtain ⟨junk,r,e⟩:=x.row hne; exact ⟨junk,kept_row k r (hS hne),e⟩,x.nl⟩
section
variable {h h':Hp} {R:Value→Hp→Prop}
theorem ints_ok {a b:Sl} {l m:List Int} (ra:ReadsO h a.a (l.map iv)) (na:a.n=l.length) (rb:ReadsO h b.a (m.map iv)) (nb:b.n=m.length) (hl:l.length < 100000) (hR:R (.bool (decide (l=m))) h) :
  CallTo Try.prog 17 #[.slice a.a a.n a.c,.slice b.a b.n b.c] h R:=by
 refine f17F_ok (a0:=a) (a1:=b) ?_
 unfold f17F
 refine Cond_b (fun e=>?_) fun e=>?_
 ·have e:l.length ≠ m.length:=fun z=>by rw [na,nb,z] at e; simp at e
  rw [decide_eq_false fun z=>e (congrArg List.length z)] at hR
  exact hR
 ·have e:l.length=m.length:=by
   have:((a.n:Nat):Int)=((b.n:Nat):Int):=by simpa using e
   omega
  refine f17L1_rule (s0:=a) (s1:=b) (fun k s0 s1 s5 h'=>∃ i:Nat,i ≤ l.length∧k=l.length - i∧a=s0∧b=s1∧s5=(i:Int)∧l.take i=m.take i∧h=h') l.length ⟨0,Nat.zero_le _,rfl,rfl,rfl,rfl,rfl,rfl⟩ ?_
  rintro k s0 s1 s5 g h1 ⟨i,hi,rfl,rfl,rfl,rfl,ht,rfl⟩
  unfold f17L1
  refine Cond_dec (fun hlt=>⟨⟨by omega,by omega⟩,?_⟩) fun hge=>?_
  ·obtain ⟨x,hx⟩:∃ x,l[i]?=some x:=⟨_,List.getElem?_eq_getElem (by omega)⟩
   obtain ⟨y,hy⟩:∃ y,m[i]?=some y:=⟨_,List.getElem?_eq_getElem (by omega)⟩
   obtain ⟨p,hp,cp⟩:=readsO_get ra (show (l.map iv)[i]?=some (iv x) by rw [List.getElem?_map,hx]; rfl)
   obtain ⟨q,hq,cq⟩:=readsO_get rb (show (m.map iv)[i]?=some (iv y) by rw [List.getElem?_map,hy]; rfl)
   refine PtrOk_of hp ⟨x,by rw [Int.toNat_natCast,Nat.mul_one]; exact cp,⟨by omega,by omega⟩,PtrOk_of hq ⟨y,by rw [Int.toNat_natCast,Nat.mul_one]; exact cq,Cond_b (fun e2=>?_) fun e2=>?_⟩⟩
   ·have e2:x ≠ y:=by simpa using e2
    rw [decide_eq_false fun z=>e2 (by rw [z,hy] at hx; exact (Option.some.inj hx).symm)] at hR
    exact hR
   ·have e2:x=y:=by simpa using e2
    subst e2
    exact ⟨l.length - (i + 1),by omega,i + 1,by omega,rfl,(by first | rfl | trivial),(by first | rfl | trivial),nxt8 (by omega),by rw [List.take_add_one,List.take_add_one,ht,hx,hy],rfl⟩
  ·have ei:i=l.length:=by omega
   rw [ei,List.take_length,e,List.take_length] at ht
   rw [decide_eq_true ht] at hR
   exact hR
/-- A step of a script. -/
structure Opw where
 on:Int
 dO:Int
 conn:Int
 kind:Int
 sl:Sl
 pls:List Plc
 time:Int
def Opw.cells (o:Opw):List Value:=[.int .i64 o.on,.int .i64 o.dO,.int .i64 o.conn,.int .i64 o.kind,.slice o.sl.a o.sl.n o.sl.c,.int .u64 o.time]
structure OpwOk (h:Hp) (o:Opw):Prop where
 pl:PlIn h o.sl o.pls
 len:o.pls.length < 11000000000000
 blk:∀ p,o.sl.a=some p→o.pls ≠ []→p.block < h.size
 tm:0 ≤ o.time
def Opw.place (o:Opw):Plc:=match o.pls with | p :: _=>p | []=>(0,ByteArray.empty)
end
end Go.Ev
set_option linter.all false
set_option maxRecDepth 1000000
namespace Go.Ev
open Go.Proofs
section
variable {h h' h1 h2:Hp} {W W':WP} {D D':DP} {R:Value→Hp→Prop}
theorem zrow_size {z:Array Value} (n:Nat):(zrow z n).toList.length=n:=by rw [Array.length_toList]; exact zrow_len z n
theorem twin_ok {s:Sl} {ps:List Plc} (x:PlIn h s ps) (hlen:ps.length < 11000000000000)
  (hR:∀ s' h',PlIn h' s' ps→(∀ p,s'.a=some p→ps ≠ []→h.size ≤ p.block∧p.block < h'.size)→Kept N h h'→R (.slice s'.a s'.n s'.c) h'):CallTo Try.prog 19 #[.slice s.a s.n s.c] h R:=by
 refine f19F_ok (a0:=s) ?_
 unfold f19F
 have xn:=x.n
 cases ea:s.a with
 | none =>
  have l0:ps.flatMap plC=[]:=by have:=x.rd; rw [ea] at this; exact this
  have hl:=flat_len plC_len ps
  rw [l0] at hl
  have p0:ps=[]:=List.length_eq_zero_iff.1 (by simp at hl; omega)
  exact Cond_t rfl (hR ⟨none,0,0⟩ h ⟨by rw [p0]; exact rfl,by rw [p0]; rfl,Nat.le_refl _⟩ (fun _ _ z=>absurd p0 z) (Kept.refl _ _))
 | some pa =>
  refine Cond_f rfl ⟨⟨by omega,by omega⟩,by omega,by omega,Let_mk fun h1 e1=>?_⟩
  have k1:Kept N h h1:=e1 ▸ kept_push _ _ _
  have r1:Row h1 h.size (zrow #[.int .i64 0,.string ⟨#[]⟩] ((((s.n:Nat):Int)).toNat * 2)).toList:=e1 ▸ row_new h _ 40
  rw [Int.toNat_natCast] at r1 ⊢
  have fl:(ps.flatMap plC).length=min s.n s.n * 2:=by rw [flat_len plC_len,Nat.min_self,xn]
  refine ⟨ps.flatMap plC,by rw [← ea]; exact reads_keptN k1 x.rd,fl,?_⟩
  have fit:0 + 0 + (ps.flatMap plC).length ≤ (zrow #[.int .i64 0,.string ⟨#[]⟩] (s.n * 2)).toList.length:=by rw [zrow_size,fl,Nat.min_self]; omega
  have ha:(nb h).add 0=⟨h.size,0,none⟩:=rfl
  show stsOk h1 ((nb h).add 0) _ 0∧_
  rw [ha]
  refine ⟨stsOk_row _ _ _ 0 0 r1 fit (fun v hv=>?_),?_⟩
  ·obtain ⟨p,_,hp⟩:=List.mem_flatMap.1 hv
   simp only [plC,List.mem_cons,List.not_mem_nil,or_false] at hp
   rcases hp with rfl | rfl <;> rfl
  ·have r2:=row_setcs (ps.flatMap plC) h1 _ 0 0 r1 fit
   have k2:Kept (fun i=>i=h.size) h1 (setcs h1 ⟨h.size,0,none⟩ (ps.flatMap plC) 0):=kept_setcs _ _ _ _ rfl
   generalize setcs h1 ⟨h.size,0,none⟩ (ps.flatMap plC) 0=h2 at r2 k2
   have eo:ovw (zrow #[.int .i64 0,.string ⟨#[]⟩] (s.n * 2)).toList (0 + 0) (ps.flatMap plC)=ps.flatMap plC:=by
    unfold ovw
    rw [List.drop_eq_nil_of_le (by rw [zrow_size,fl,Nat.min_self]; omega)]
    simp
   rw [eo] at r2
   refine hR ⟨some (ad h.size),s.n,s.n⟩ h2 ⟨row_reads r2,xn,Nat.le_refl _⟩ (fun p hp _=>?_) (kept_fresh k1 k2 fun i e=>by omega)
   obtain rfl:=Option.some.inj hp
   exact ⟨Nat.le_refl _,row_lt r2⟩
/-! ### They agree -/
end
end Go.Ev
set_option linter.all false
set_option maxRecDepth 1000000
namespace Go.Ev
open Go.Proofs
structure Sd where
 sb:Nat
 W:WP
 D:DP
def Sd.foot (S:Sd) (b:Nat):Prop:=b=S.sb ∨ S.W.foot b ∨ S.D.foot b
structure SPre (h:Hp) (S:Sd):Prop where
 row:Row h S.sb [.pointer (some (ad S.W.wb)),.pointer (some (ad S.D.db))]
 w:WRep h S.W
 d:DRep h S.D
 wd:∀ b,S.W.foot b→¬ S.D.foot b
 sw:¬ S.W.foot S.sb
 sd:¬ S.D.foot S.sb
structure SRep (h:Hp) (S:Sd):Prop where
 p:SPre h S
 ag:S.W.ws.map (·.w)=S.D.ds.map (·.w)
def STr (h:Hp) (S:Sd) (h':Hp) (S':Sd):Prop:=Kept S.foot h h'∧∀ b,S'.foot b→S.foot b ∨ h.size ≤ b
section
variable {h h' h1 h2:Hp} {S S' S2:Sd} {W':WP} {D':DP} {R:Value→Hp→Prop}
theorem STr.refl (h:Hp) (S:Sd):STr h S h S:=⟨Kept.refl _ _,fun _=>.inl⟩
theorem STr.trans (a:STr h S h' S') (b:STr h' S' h2 S2):STr h S h2 S2 :=
 ⟨⟨Nat.le_trans a.1.1 b.1.1,fun i hi hn=>(b.1.2 i (Nat.lt_of_lt_of_le hi a.1.1) fun o=>(a.2 i o).elim hn fun h=>by omega).trans (a.1.2 i hi hn)⟩,
  fun i o=>(b.2 i o).elim (a.2 i) fun h=>.inr (Nat.le_trans a.1.1 h)⟩
theorem STr.keepN (k:Kept N h h'):STr h S h' S:=⟨k.mono fun _ _ e=>e.elim,fun _=>.inl⟩
theorem SPre.lt (x:SPre h S) {b:Nat} (hb:S.foot b):b < h.size:=by
 rcases hb with e | e | e
 ·rw [e]; exact row_lt x.row
 ·exact x.w.m.foot_lt e
 ·exact x.d.foot_lt e
theorem SPre.keep {Q:Nat→Prop} (x:SPre h S) (k:Kept Q h h') (hQ:∀ b,S.foot b→¬ Q b):SPre h' S :=
 ⟨kept_row k x.row (hQ _ (.inl rfl)),x.w.keep k fun b hb=>hQ b (.inr (.inl hb)),x.d.keep k fun b hb=>hQ b (.inr (.inr hb)),x.wd,x.sw,x.sd⟩
theorem SPre.keepN (x:SPre h S) (k:Kept N h h'):SPre h' S:=x.keep k fun _ _=>_root_.id
theorem SPre.c0 (x:SPre h S):cell h (ad S.sb)=some (.pointer (some (ad S.W.wb))):=cell_row x.row 0
theorem SPre.c1 (x:SPre h S):cell h ((ad S.sb).add 1)=some (.pointer (some (ad S.D.db))):=by rw [add_ad]; exact cell_row x.row 1
theorem SPre.prog (x:SPre h S) (w:WRep h' W') (e:W'.wb=S.W.wb) (t:WTr h S.W h' W'):SPre h' { S with W:=W' }∧STr h S h' { S with W:=W' }:=by
 refine ⟨⟨by show Row h' S.sb [.pointer (some (ad W'.wb)),_]; rw [e]; exact kept_row t.1 x.row x.sw,w,x.d.keep t.1 fun b hb hw=>x.wd b hw hb,fun b hb hd=>?_,fun hb=>?_,x.sd⟩,t.1.mono fun b _ hb=>.inr (.inl hb),fun b hb=>?_⟩
 ·rcases t.2 b hb with hb | hb
  ·exact x.wd b hb hd
  ·have:=x.d.foot_lt hd; omega
 ·rcases t.2 _ hb with hb | hb
  ·exact x.sw hb
  ·have:=x.lt (.inl rfl); have hb:h.size ≤ S.sb:=hb; omega
 ·rcases hb with hb | hb | hb
  ·exact .inl (.inl hb)
  ·exact (t.2 b hb).imp_left fun z=>.inr (.inl z)
  ·exact .inl (.inr (.inr hb))
end
end Go.Ev
set_option linter.all false
set_option maxRecDepth 1000000
namespace Go.Ev
open Go.Proofs
section
variable {h h' h1 h2:Hp} {S S' S2:Sd} {R:Value→Hp→Prop}
def kP:Plc:=(1,⟨#[107]⟩)
theorem kept_foot {W W':WP} {g g':Hp} (k:Kept N h g) (hf:∀ b,W.foot b→h.size ≤ b) (t:WTr g W g' W'):Kept N h g'∧∀ b,W'.foot b→h.size ≤ b :=
 ⟨kept_fresh k t.1 hf,fun b hb=>(t.2 b hb).elim (hf b) fun z=>Nat.le_trans k.1 z⟩
theorem wakes_ok (hR:∀ h',Kept N h h'→R (.bool true) h'):CallTo Try.prog 11 #[] h R:=by
 refine f11F_ok ?_
 unfold f11F
 refine wnew_ok fun h1 W w hws htu hf k1=>⟨_,rfl,Cond_f rfl (Let_mk fun h2 e2=>?_)⟩
 have k2:Kept N h1 h2:=e2 ▸ kept_push _ _ _
 have r2:Row h2 h1.size (plC kP):=e2 ▸ row_new h1 _ 40
 have n1:nb h1=ad h1.size:=rfl
 have w2:=w.keepN k2
 have fn:W.find 3=none:=by unfold WP.find; rw [hws]; rfl
 have E0:blockE (W.find 3).isSome 3 2 [kP] 0=0:=by rw [fn]; kernel_rfl
 rw [n1]
 refine wblock_ok w2 (a:=⟨some (ad h1.size),1,1⟩) (ps:=[kP]) ⟨row_reads r2,rfl,Nat.le_refl _⟩ (fun p hp _=>?_) (by rw [htu]; decide) (Int.le_refl 0) (fun h3 z _=>absurd E0 z) fun _ h3 W3 y w3 hwb hws3 hy hturn t3=>⟨0,rfl,?_⟩
 ·obtain rfl:=Option.some.inj hp
  exact ⟨fun hb=>by have:=w.m.foot_lt hb; exact Nat.lt_irrefl _ this,row_lt r2⟩
 obtain ⟨k3,hf3⟩:=kept_foot (k1.trans k2) hf t3
 have ws3:W3.ws=[y]:=by rw [hws3,hws]; rfl
 have cy:∀ l,connsOf W3.ws kP l=if l=2 then [3] else []:=fun l=>by
  rw [ws3]
  unfold connsOf
  rw [List.filter_cons,hy]
  by_cases e:l=2
  ·subst e
   have:wants ⟨3,2,[kP],0⟩ kP 2=true:=by unfold wants; simp
   rw [if_pos rfl,if_pos this]
   show [y.w.conn]=[3]
   rw [hy]
  ·rw [if_neg e]
   have:wants ⟨3,2,[kP],0⟩ kP l=false:=by
    unfold wants
    rw [decide_eq_false fun z=>e z.symm,Bool.false_and]
   rw [this]
   rfl
 rw [← hwb]
 refine wnext_ok (p:=kP) w3 fun h4 k4=>?_
 rw [cy 2,if_pos rfl]
 refine ⟨3,true,rfl,wnext_ok (p:=kP) (w3.keepN k4) fun h5 k5=>?_⟩
 rw [cy 5,if_neg (by decide)]
 refine ⟨0,false,rfl,Let_mk fun h6 e6=>?_⟩
 have k6:Kept N h5 h6:=e6 ▸ kept_push _ _ _
 have r6:Row h6 h5.size (plC kP):=e6 ▸ row_new h5 _ 40
 have n5:nb h5=ad h5.size:=rfl
 have w5:=(w3.keepN k4).keepN k5
 have w6:=w5.keepN k6
 have f3:(W3.find 3).isSome=true:=by
  unfold WP.find
  rw [ws3,List.find?_cons,hy]
  rfl
 have E1:blockE (W3.find 3).isSome 3 2 [kP] 0=181:=by rw [f3]; kernel_rfl
 have k36:=((k3.trans k4).trans k5).trans k6
 rw [n5]
 refine wblock_ok w6 (a:=⟨some (ad h5.size),1,1⟩) (ps:=[kP]) ⟨row_reads r6,rfl,Nat.le_refl _⟩ (fun p hp _=>?_) (by rw [hturn,htu]; decide) (Int.le_refl 0) (fun h7 z k7=>⟨_,rfl,?_⟩) fun z=>?_
 ·obtain rfl:=Option.some.inj hp
  exact ⟨fun hb=>by have:=w5.m.foot_lt hb; exact Nat.lt_irrefl _ this,row_lt r6⟩
 ·rw [E1]
  exact hR h7 (k36.trans k7)
 ·rw [E1] at z; exact absurd z (by decide)
/-! ### The sides of a script -/
structure Stg (h:Hp) (base:Nat) (s:Sl) (ob:Option Nat) (ss:List Sd):Prop where
 sl:SlAt 1 h s.a s.n s.c ob (ss.map fun S=>.pointer (some (ad S.sb)))
 rep:∀ S ∈ ss,SRep h S
 dis:∀ (i j:Nat) (S T:Sd),i ≠ j→ss[i]?=some S→ss[j]?=some T→∀ b,S.foot b→¬ T.foot b
 od:∀ S ∈ ss,∀ b,ob=some b→¬ S.foot b
 lo:∀ S ∈ ss,∀ b,S.foot b→base ≤ b
 lob:∀ b,ob=some b→base ≤ b
theorem SRep.keep {Q:Nat→Prop} (x:SRep h S) (k:Kept Q h h') (hQ:∀ b,S.foot b→¬ Q b):SRep h' S:=⟨x.p.keep k hQ,x.ag⟩
theorem Stg.keepN {base:Nat} {s:Sl} {ob:Option Nat} {ss:List Sd} (x:Stg h base s ob ss) (k:Kept N h h'):Stg h' base s ob ss :=
 ⟨x.sl.keep fun b hb=>k.2 b (by obtain ⟨_,_,j,r,_⟩:=x.sl.row b hb; exact row_lt r) _root_.id,fun S hS=>(x.rep S hS).keep k fun _ _=>_root_.id,x.dis,x.od,x.lo,x.lob⟩
theorem Stg.step {base:Nat} {s:Sl} {ob:Option Nat} {ss:List Sd} (x:Stg h base s ob ss) {j:Nat} (hj:ss[j]?=some S) (r:SRep h' S') (t:STr h S h' S') (e:S'.sb=S.sb) (hb:base ≤ h.size):Stg h' base s ob (ss.set j S'):=by
 have hS:=List.mem_of_getElem? hj
 have mm:∀ T ∈ ss.set j S',T=S' ∨ ∃ i,i ≠ j∧ss[i]?=some T:=fun T hT=>(mem_set_iff hj).1 hT
 have em:(ss.set j S').map (fun S=>Value.pointer (some (ad S.sb)))=ss.map fun S=>.pointer (some (ad S.sb)):=by
  apply List.ext_getElem?
  intro i
  rw [List.getElem?_map,List.getElem?_map,List.getElem?_set]
  by_cases ei:j=i
  ·subst ei
   rw [if_pos rfl,if_pos (List.getElem?_eq_some_iff.1 hj).1,hj]
   show some (Value.pointer (some (ad S'.sb)))=some (.pointer (some (ad S.sb)))
   rw [e]
  ·rw [if_neg ei]
 have lts:∀ T ∈ ss,∀ b,T.foot b→b < h.size:=fun T hT b hb=>(x.rep T hT).p.lt hb
 have obl:∀ b,ob=some b→b < h.size:=fun b hb=>by obtain ⟨_,_,j,r,_⟩:=x.sl.row b hb; exact row_lt r
 refine ⟨by rw [em]; exact x.sl.keep fun b hb=>t.1.2 b (obl b hb) (x.od S hS b hb),fun T hT=>?_,fun i k A B hik hA hB b hb1 hb2=>?_,fun T hT b hb1 hb2=>?_,fun T hT b hb1=>?_,x.lob⟩
 ·rcases mm T hT with rfl | ⟨i,hne,hi⟩
  ·exact r
  ·exact (x.rep T (List.mem_of_getElem? hi)).keep t.1 fun b hb=>x.dis i j T S hne hi hj b hb
 ·rw [List.getElem?_set] at hA hB
  by_cases e1:j=i
  ·subst e1
   rw [if_pos rfl,if_pos (List.getElem?_eq_some_iff.1 hj).1] at hA
   obtain rfl:=Option.some.inj hA
   rw [if_neg hik] at hB
   rcases t.2 b hb1 with z | z
   ·exact x.dis j k S B hik hj hB b z hb2
   ·have:=lts B (List.mem_of_getElem? hB) b hb2; omega
  ·rw [if_neg e1] at hA
   by_cases e2:j=k
   ·subst e2
    rw [if_pos rfl,if_pos (List.getElem?_eq_some_iff.1 hj).1] at hB
    obtain rfl:=Option.some.inj hB
    rcases t.2 b hb2 with z | z
    ·exact x.dis i j A S hik hA hj b hb1 z
    ·have:=lts A (List.mem_of_getElem? hA) b hb1; omega
   ·rw [if_neg e2] at hB
    exact x.dis i k A B hik hA hB b hb1 hb2
 ·rcases mm T hT with rfl | ⟨i,hne,hi⟩
  ·rcases t.2 b hb2 with z | z
   ·exact x.od S hS b hb1 z
   ·have:=obl b hb1; omega
  ·exact x.od T (List.mem_of_getElem? hi) b hb1 hb2
 ·rcases mm T hT with rfl | ⟨i,hne,hi⟩
  ·rcases t.2 b hb1 with z | z
   ·exact x.lo S hS b z
   ·omega
  ·exact x.lo T (List.mem_of_getElem? hi) b hb1
theorem own6 {z0 z1 z2 z3 z4 z5 v0 v1 v2 v3 v4 v5:Value} {t:TypeId} {K:Hp→Prop} (hK:∀ h',Row h' h.size [v0,v1,v2,v3,v4,v5]→Kept N h h'→K h') :
  Let (h.push (.cells #[z0,z1,z2,z3,z4,z5] t)) fun h1=>stOk h1 (nb h)∧Let (setc h1 (nb h) v0) fun h2=>stOk h2 ((nb h).add 1)∧Let (setc h2 ((nb h).add 1) v1) fun h3=>stOk h3 ((nb h).add 2)∧Let (setc h3 ((nb h).add 2) v2) fun h4=>stOk h4 ((nb h).add 3)∧Let (setc h4 ((nb h).add 3) v3) fun h5=>stOk h5 ((nb h).add 4)∧Let (setc h5 ((nb h).add 4) v4) fun h6=>stOk h6 ((nb h).add 5)∧Let (setc h6 ((nb h).add 5) v5) fun h7=>K h7:=by
 refine Let_mk fun h1 e1=>?_
 have r1:Row h1 h.size [z0,z1,z2,z3,z4,z5]:=e1 ▸ row_new h #[z0,z1,z2,z3,z4,z5] t
 have k1:Kept N h h1:=e1 ▸ kept_push _ _ _
 refine row_st r1 (i:=0) rfl (by show 0 < 6; omega) fun h2 r2 k2=>row_st r2 (i:=1) (add_ad _ _) (by show 1 < 6; omega) fun h3 r3 k3=>row_st r3 (i:=2) (add_ad _ _) (by show 2 < 6; omega) fun h4 r4 k4=>row_st r4 (i:=3) (add_ad _ _) (by show 3 < 6; omega) fun h5 r5 k5=>row_st r5 (i:=4) (add_ad _ _) (by show 4 < 6; omega) fun h6 r6 k6=>row_st r6 (i:=5) (add_ad _ _) (by show 5 < 6; omega) fun h7 r7 k7=>hK h7 r7 ?_
 exact kept_fresh k1 ((((k2.trans k3).trans k4).trans k5).trans (k6.trans k7)) fun i e=>by omega
theorem opw_len (o:Opw):o.cells.length=6:=rfl
/-- The script, as it lies. -/
structure Scr (h:Hp) (a:Sl) (os:List Opw):Prop where
 rd:ReadsO h a.a (os.flatMap Opw.cells)
 n:a.n=os.length
 lt:os.length < 2 ^ 62
 ok:∀ o ∈ os,OpwOk h o
 blk:∀ p,a.a=some p→os ≠ []→p.block < h.size
theorem OpwOk.kept {o:Opw} (x:OpwOk h o) (k:Kept N h h'):OpwOk h' o:=⟨x.pl.keepN k,x.len,fun p hp hne=>Nat.lt_of_lt_of_le (x.blk p hp hne) k.1,x.tm⟩
theorem Scr.kept {a:Sl} {os:List Opw} (x:Scr h a os) (k:Kept N h h'):Scr h' a os:=⟨reads_keptN k x.rd,x.n,x.lt,fun o ho=>(x.ok o ho).kept k,fun p hp hne=>Nat.lt_of_lt_of_le (x.blk p hp hne) k.1⟩
end
end Go.Ev
