/- larderlaw18 / WaitFair's argument, out of the datum that is read. No condition but that these are ones. -/
import Derived.Test.YtfilpdcphgmhgaaF11
set_option linter.all false
set_option maxRecDepth 1000000
namespace Go.Ev
open Go.Proofs
/-- One turn of a day. -/
structure Trn where
 dO:Int
 conn:Int
 kind:Int
 sl:Sl
 pls:List Plc
 time:Int
 n:Int
def Trn.cells (o:Trn):List Value:=[.int .i64 o.dO,.int .i64 o.conn,.int .i64 o.kind,.slice o.sl.a o.sl.n o.sl.c,.int .u64 o.time,.int .i64 o.n]
structure TrnOk (h:Hp) (base:Nat) (o:Trn):Prop where
 pl:PlIn h o.sl o.pls
 len:o.pls.length < 11000000000000
 blk:∀ p,o.sl.a=some p→o.pls ≠ []→p.block < base
 tm:0 ≤ o.time
theorem trn_len (o:Trn):o.cells.length=6:=rfl
section
variable {h h' h1 h2:Hp} {base:Nat} {W W' W1:WP} {s s':Sl} {ob ob':Option Nat} {bs:List AK} {R:Value→Hp→Prop}
theorem turn_ok (x:FSt h base W s ob bs) {o:Trn} (ok:TrnOk h base o) (tb:W.turns < 1000000)
  (hR:∀ h' W' (s':Sl) ob' bs',FSt h' base W' s' ob' bs'→W'.wb=W.wb→W'.turns ≤ W.turns + 1→KB base h h'→R (.tuple #[.slice s'.a s'.n s'.c,.bool true]) h') :
  CallTo Try.prog 21 #[.pointer (some (ad W.wb)),.slice s.a s.n s.c,.agg #[.int .i64 o.dO,.int .i64 o.conn,.int .i64 o.kind,.slice o.sl.a o.sl.n o.sl.c,.int .u64 o.time,.int .i64 o.n]] h R:=by
 refine f21F_ok (a1:=s) (a2_3:=o.sl) ?_
 unfold f21F
 refine Let_mk fun h1 e1=>?_
 have k1:Kept N h h1:=e1 ▸ kept_push _ _ _
 have r1:Row h1 h.size o.cells:=e1 ▸ row_new h _ 53
 have n1:nb h=ad h.size:=rfl
 rw [n1]
 have x1:=x.keepN k1
 have pl1:=ok.pl.keepN k1
 have bl:=x.bl
 have cc:∀ {g:Hp},Row g h.size o.cells→∀ (j:Nat) (v:Value),o.cells[j]?=some v→cell g ((ad h.size).add j)=some v:=fun r j v hv=>by rw [add_ad]; exact (cell_row r j).trans hv
 have hs1:h.size < h1.size:=row_lt r1
 refine ⟨_,(cell_row r1 0).trans rfl,Cond_b (fun _=>?_) fun _=>Cond_b (fun _=>?_) fun _=>?_⟩
 ·refine ⟨_,cc r1 1 _ rfl,_,cc r1 2 _ rfl,o.sl,cc r1 3 _ rfl,_,cc r1 4 _ rfl,twin_ok pl1 ok.len fun s' h2 pi2 hs' k2=>⟨s',rfl,?_⟩⟩
  have r2:=kept_row k2 r1 _root_.id
  have x2:=x1.keepN k2
  have q2:=k2.1
  refine ⟨⟨_,cc r2 4 _ rfl,rfl⟩,⟨_,cc r2 2 _ rfl,rfl⟩,⟨_,cc r2 1 _ rfl,rfl⟩,wblock_ok x2.w pi2 (fun p hp hne=>⟨fun hf=>?_,(hs' p hp hne).2⟩) tb ok.tm (fun h3 hE k3=>⟨_,rfl,?_⟩) fun hE h3 W3 y w3 hwb hws hy hturn t3=>⟨0,rfl,?_⟩⟩
  ·have:=x.w.m.foot_lt hf
   have:=(hs' p hp hne).1
   omega
  ·refine Cond_f (by rw [beq_eq_false_iff_ne]; exact hE) ?_
   unfold f21K1
   exact Cond_t (by rw [bne_iff_ne]; exact hE) (hR h3 W s ob bs (x2.keepN k3) rfl (Nat.le_succ _) (KB.ofN ((k1.trans k2).trans k3)))
  ·have r3:=kept_row t3.1 r2 fun z=>by have:=x.w.m.foot_lt z; omega
   refine Cond_t rfl ⟨_,cc r3 1 _ rfl,_,cc r3 2 _ rfl,o.sl,cc r3 3 _ rfl,_,cc r3 4 _ rfl,Let_mk fun h4 e4=>?_⟩
   have k4:Kept N h3 h4:=e4 ▸ kept_push _ _ _
   have r4:Row h4 h3.size (AK.val ⟨⟨o.conn,o.kind,o.pls,o.time⟩,o.sl⟩):=e4 ▸ row_new h3 _ 57
   have oblt:∀ b,ob=some b→b < h.size:=fun b z=>by obtain ⟨_,_,j,r,_⟩:=x.sl.row b z; exact row_lt r
   have q3:=t3.1.1
   have q4:h3.size < h4.size:=row_lt r4
   have sa3:=x2.sl1 t3
   have sa4:SlAt 4 h4 s.a s.n s.c ob (bs.flatMap AK.val):=sa3.keep fun b hb=>k4.2 b (by have:=oblt b hb; omega) _root_.id
   have l3:=wlen8 w3.m
   rw [hws,List.length_append] at l3
   have xl:=x.len
   have xn:=x.n
   have l3:W.ws.length + 1 ≤ 8:=l3
   refine ⟨_,row_reads r4,rfl,appT_ok2 (m:=1) sa4 rfl rfl (fun v hv=>?_) (by omega) (by omega) fun a' c' ob5 h5 sa5 hx=>?_⟩
   ·unfold AK.val at hv
    simp only [List.mem_cons,List.not_mem_nil,or_false] at hv
    rcases hv with rfl | rfl | rfl | rfl <;> rfl
   have k45:Kept (fun b=>ob=some b) h4 h5:=hx.elim (fun z=>z.2) fun z=>z.2.mono fun _ _ f=>f.elim
   have q5:=k45.1
   have r5:=kept_row k45 (kept_row k4 r3 _root_.id) fun z=>by have:=oblt _ z; omega
   unfold f21K1
   refine Cond_f rfl ⟨o.sl,cc r5 3 _ rfl,?_⟩
   have hp1:=(blockE_zero hE).2.2.2.1.1
   have on:=ok.pl.n
   rw [decide_eq_true (show (((o.sl.n:Nat):Int)) > 0 by omega)]
   have wf3:∀ b,W3.foot b→(W.foot b ∨ h2.size ≤ b)∧b < h3.size:=fun b hb=>⟨t3.2 b hb,w3.m.foot_lt hb⟩
   have kb5:KB base h h5:=((KB.ofN (k1.trans k2)).trans (t3.1.mono fun b _ z=>x.lw b z)).trans ((KB.ofN k4).trans (k45.mono fun b _ z=>x.lo b z))
   refine hR h5 W3 ⟨a',s.n + 1,c'⟩ ob5 (bs ++ [⟨⟨o.conn,o.kind,o.pls,o.time⟩,o.sl⟩]) ⟨(w3.keepN k4).keep k45 fun b hb hb2=>?_,?_,fun v hv=>?_,?_,fun b hb=>?_,fun b hb=>?_,fun b hb hf=>?_,by omega⟩ hwb (by omega) kb5
   ·rcases (wf3 b hb).1 with z | z
    ·exact x.ow b hb2 z
    ·have:=oblt b hb2; omega
   ·rw [List.flatMap_append]
    simpa using sa5
   ·rcases List.mem_append.1 hv with hv | hv
    ·exact ⟨plin_base (x.en v hv).1 (x.en v hv).2 bl kb5 fun _ z=>z,(x.en v hv).2⟩
    ·rw [List.mem_singleton.1 hv]
     exact ⟨plin_base ok.pl ok.blk bl kb5 fun _ z=>z,ok.blk⟩
   ·rw [hws,List.map_append,List.map_append,x.ag]
    show _ ++ [y.w]=_
    rw [hy]
    rfl
   ·rcases (wf3 b hb).1 with z | z
    ·exact x.lw b z
    ·omega
   ·rcases hx with ⟨e,_⟩ | ⟨e,_⟩
    ·exact x.lo b (e ▸ hb)
    ·rw [e] at hb
     obtain rfl:=Option.some.inj hb
     omega
   ·have h3f:=wf3 b hf
    rcases hx with ⟨e,_⟩ | ⟨e,_⟩
    ·have hb':ob=some b:=e ▸ hb
     rcases h3f.1 with z | z
     ·exact x.ow b hb' z
     ·have:=oblt b hb'; omega
    ·rw [e] at hb
     obtain rfl:=Option.some.inj hb
     omega
 ·refine ⟨o.sl,cc r1 3 _ rfl,Cond_b (fun e=>hR h1 W s ob bs x1 rfl (Nat.le_succ _) (KB.ofN k1)) fun e=>⟨o.sl,cc r1 3 _ rfl,?_⟩⟩
  have on:=ok.pl.n
  have hne:o.pls ≠ []:=fun z=>by
   rw [z] at on
   rw [on] at e
   cases e
  obtain ⟨p,t,ep⟩:=List.exists_cons_of_ne_nil hne
  obtain ⟨pa,ea,c0,c1⟩:=pl_read pl1.rd (show o.pls[0]?=some p by rw [ep]; rfl)
  have z0:(0:Int).toNat=0:=rfl
  rw [z0]
  refine ⟨⟨by omega,by rw [on,ep,List.length_cons]; omega⟩,PtrOk_of ea ⟨_,c0,_,c1,_,cc r1 2 _ rfl,_,cc r1 5 _ rfl,serve_ok (p:=p) x1 fun h' W' s' ob' bs' x' e1 e2 kb _=>⟨s',true,rfl,hR h' W' s' ob' bs' x' e1 (by omega) ((KB.ofN k1).trans kb)⟩⟩⟩
 ·exact ⟨_,cc r1 4 _ rfl,leave_ok x1 fun h' W' s' ob' bs' x' e1 e2 kb=>⟨s',true,rfl,hR h' W' s' ob' bs' x' e1 (by omega) ((KB.ofN k1).trans kb)⟩⟩
/-- A day, as it lies. -/
structure Dy (h:Hp) (a:Sl) (os:List Trn):Prop where
 rd:ReadsO h a.a (os.flatMap Trn.cells)
 n:a.n=os.length
 lt:os.length < 2 ^ 62
 ok:∀ o ∈ os,TrnOk h h.size o
 blk:∀ p,a.a=some p→os ≠ []→p.block < h.size
theorem fair_ok {a:Sl} {os:List Trn} (x:Dy h a os) (hR:∀ h',Kept N h h'→R (.bool true) h'):CallTo Try.prog 9 #[.agg #[.slice a.a a.n a.c]] h R:=by
 refine f9F_ok (a0:=a) ?_
 unfold f9F
 refine Let_mk fun h1 e1=>?_
 have k1:Kept N h h1:=e1 ▸ kept_push _ _ _
 have r1:Row h1 h.size [.slice a.a a.n a.c]:=e1 ▸ row_new h _ 48
 have n1:nb h=ad h.size:=rfl
 have hs:h.size < h1.size:=row_lt r1
 rw [n1]
 have xn:=x.n
 have xlt:=x.lt
 refine wakes_ok fun h2 k2=>⟨true,rfl,Cond_f rfl (wnew_ok fun h3 W0 w0 hws0 htu0 hf0 k3=>⟨_,rfl,Cond_f rfl ?_⟩)⟩
 have q2:=k2.1
 have q3:=k3.1
 refine f9L1_rule (s4:=⟨none,0,0⟩) (fun m s1 s3 s4 s6 h'=>∃ (i:Nat) (W:WP) (ob:Option Nat) (bs:List AK),i ≤ os.length∧m=os.length - i∧s1=ad h.size∧s3=some (ad W.wb)∧s6=(i:Int)∧i ≤ 300∧FSt h' h1.size W s4 ob bs∧W.turns ≤ i∧KB h1.size h1 h') os.length
  ⟨0,W0,none,[],Nat.zero_le _,rfl,rfl,rfl,rfl,Nat.zero_le _,⟨w0,slAt_nil 4 h3,nofun,by rw [hws0]; rfl,fun b hb=>Nat.le_trans q2 (hf0 b hb),nofun,nofun,by omega⟩,by rw [htu0]; exact Nat.le_refl _,KB.ofN (k2.trans k3)⟩ ?_
 rintro m s1 s3 s4 s6 g h4 ⟨i,W,ob,bs,hi,rfl,rfl,rfl,rfl,hi3,x4,htu,k4⟩
 have fin:∀ h',KB h1.size h1 h'→Kept N h h':=fun h' k=>kept_fresh k1 k fun b hb=>by omega
 have second:LoopEv (evC Try.prog tab lv9 (sub [1,1,1,1,1,1,1,0,0,0] body9)) (contAt Try.prog tab lv9 [1,1,1,1,1,1,1,0,0] body9 [] (bodyK Try.prog Try.f9 [] R)) [(3,.pointer (some (ad W.wb))),(4,.slice s4.a s4.n s4.c)] 83 h4:=by
  refine f9L2_rule (fun m u3 u4 h'=>∃ (W:WP) (ob:Option Nat) (bs:List AK),m=bs.length∧u3=some (ad W.wb)∧FSt h' h1.size W u4 ob bs∧KB h1.size h1 h') bs.length ⟨W,ob,bs,rfl,rfl,x4,k4⟩ ?_
  clear x4 htu k4
  rintro m u3 u4 g2 h5 ⟨W,ob,bs,rfl,rfl,x5,k5⟩
  unfold f9L2
  have xn5:=x5.n
  have xl5:=x5.len
  have wl:=wlen8 x5.w.m
  refine Cond_dec (fun hgt=>?_) fun hle=>?_
  ·obtain ⟨y,hy⟩:∃ y,bs[0]?=some y:=⟨_,List.getElem?_eq_getElem (by omega)⟩
   have hym:=List.mem_of_getElem? hy
   obtain ⟨p,hp,c0,c1,c2,c3⟩:=x5.read hy
   obtain ⟨z,hz,ez⟩:=x5.at_ hy
   have p1:=(x5.w.m.pw z (List.mem_of_getElem? hz)).p1
   rw [ez] at p1
   have pl:=(x5.en y hym).1
   have pn:=pl.n
   obtain ⟨q,hq⟩:∃ q,y.w.pls[0]?=some q:=⟨_,List.getElem?_eq_getElem (by omega)⟩
   obtain ⟨pa,ea,d0,d1⟩:=pl_read pl.rd hq
   have z0:(0:Int).toNat=0:=rfl
   rw [z0]
   refine ⟨⟨by omega,by omega⟩,PtrOk_of hp ⟨y.sl,c2,⟨by omega,by omega⟩,PtrOk_of ea ⟨_,d0,_,d1,⟨by omega,by omega⟩,PtrOk_of hp ⟨_,c1,serve_ok (p:=q) x5 fun h6 W6 s6 ob6 bs6 x6 wb6 tu6 kb6 hone=>⟨s6,true,rfl,?_⟩⟩⟩⟩⟩
   have hw:∃ y' ∈ bs,wants y'.w q y.w.kind=true:=⟨y,hym,by
    unfold wants
    rw [decide_eq_true rfl,Bool.true_and,List.any_eq_true]
    exact ⟨q,List.mem_of_getElem? hq,by simp⟩⟩
   have hlen:=hone rfl hw
   have xn6:=x6.n
   rw [← wb6]
   refine Cond_f rfl (Cond_f ?_ (lined_ok x6 fun h7 k7=>⟨true,rfl,?_⟩))
   ·rw [wr (by omega) (by omega)]
    have:((s6.n:Nat):Int)=((u4.n:Nat):Int) - 1:=by omega
    rw [this]
    exact bne_self_eq_false _
   ·unfold f9K3
    exact Cond_f rfl ⟨bs6.length,by omega,W6,ob6,bs6,rfl,rfl,x6.keepN k7,(k5.trans kb6).trans (KB.ofN k7)⟩
  ·refine wwaiting_ok x5.w fun d c h6 il _ k6=>⟨d,rfl,?_⟩
   have:d.n=0:=by rw [il.n,List.length_map]; omega
   rw [this]
   exact hR h6 (fin h6 (k5.trans (KB.ofN k6)))
 unfold f9L1
 have r4:=kept_row k4 r1 (by omega)
 have c41:cell h4 (ad h.size)=some (.slice a.a a.n a.c):=(cell_row r4 0).trans rfl
 refine ⟨_,c41,Cond_dec (fun hlt=>?_) fun hge=>by unfold f9K1; exact Cond_f rfl second⟩
 unfold f9K1
 refine Cond_dec (fun hlt2=>?_) fun _=>second
 obtain ⟨o,ho⟩:∃ o,os[i]?=some o:=⟨_,List.getElem?_eq_getElem (by omega)⟩
 have hom:=List.mem_of_getElem? ho
 have k04:=fin h4 k4
 have rd4:=reads_keptN k04 x.rd
 obtain ⟨pa,ea,g0⟩:=readsO_get rd4 ((flat_at trn_len os i 0 o ho (by omega)).trans rfl)
 have gg:∀ (j:Nat) (v:Value),j < 6→o.cells[j]?=some v→cell h4 ((pa.add (i * 6)).add j)=some v:=fun j v hj hv=>by
  obtain ⟨p',hp',c⟩:=readsO_get rd4 ((flat_at trn_len os i j o ho hj).trans hv)
  rw [ea] at hp'
  obtain rfl:=Option.some.inj hp'
  rw [add_add]; exact c
 have nxt:IntKind.wrap .i64 ((i:Int) + 1)=((i + 1:Nat):Int):=nxt8 (by omega)
 have ok:=x.ok o hom
 refine ⟨_,c41,⟨by omega,by omega⟩,PtrOk_of ea ?_⟩
 rw [Int.toNat_natCast]
 refine ⟨_,g0,_,gg 1 _ (by omega) rfl,_,gg 2 _ (by omega) rfl,o.sl,gg 3 _ (by omega) rfl,_,gg 4 _ (by omega) rfl,_,gg 5 _ (by omega) rfl,turn_ok x4 ⟨ok.pl.keepN k04,ok.len,fun p hp hne=>by have:=ok.blk p hp hne; omega,ok.tm⟩ (by omega) fun h5 W5 s5 ob5 bs5 x5 wb5 tu5 kb5=>⟨s5,true,rfl,Cond_f rfl ?_⟩⟩
 rw [← wb5]
 refine lined_ok x5 fun h6 k6=>⟨true,rfl,?_⟩
 unfold f9K2
 exact Cond_f rfl ⟨os.length - (i + 1),by omega,i + 1,W5,ob5,bs5,by omega,rfl,rfl,rfl,nxt,by omega,x5.keepN k6,by omega,(k4.trans kb5).trans (KB.ofN k6)⟩
end
end Go.Ev
set_option linter.all false
set_option maxRecDepth 100000
namespace Go.Proofs.Ytfilpdcphgmhgaa
open Go.ChangeShapes Go.WideShapes Go.ChangeAt Go.RowKit
open Go.Ev (ReadsO iv slV I64 Sl Plc PlIn Trn TrnOk Dy plC)
theorem c46:Try.prog.cellsOf 46=1:=by kernel_rfl
theorem c48:Try.prog.cellsOf 48=1:=by kernel_rfl
theorem c53:Try.prog.cellsOf 53=6:=by kernel_rfl
theorem b53:Try.prog.bytesOf 53=64:=by kernel_rfl
section
variable {H:Type} {enc:TypeId × Value→H} {W:World}
theorem trn_of {n:Nat} {cs:List Value} {x:DataW H × List MemPlace} (h:DataW.trod enc Try.prog W 0 (fun _=>true) true n 53 cs=some x) (hw:∀ m ∈ x.1.weights Try.prog 53,m ≤ reachBytes):∃ o:Trn,cs=o.cells∧TrnOk W.heap W.heap.size o:=by
 obtain ⟨xs,n,_,rfl,hl,hn,hel⟩:=DataW.trod_struct Try.underlying53 h
 rw [c53] at hl
 have e0:DataW.trod enc Try.prog W 0 (fun _=>true) true n 3 ((cs.drop 0).take (Try.prog.cellsOf 3))=xs[0]?:=hel 0 _ rfl
 have e1:DataW.trod enc Try.prog W 0 (fun _=>true) true n 3 ((cs.drop 1).take (Try.prog.cellsOf 3))=xs[1]?:=hel 1 _ rfl
 have e2:DataW.trod enc Try.prog W 0 (fun _=>true) true n 3 ((cs.drop 2).take (Try.prog.cellsOf 3))=xs[2]?:=hel 2 _ rfl
 have e3:DataW.trod enc Try.prog W 0 (fun _=>true) true n 28 ((cs.drop 3).take (Try.prog.cellsOf 28))=xs[3]?:=hel 3 _ rfl
 have e4:DataW.trod enc Try.prog W 0 (fun _=>true) true n 29 ((cs.drop 4).take (Try.prog.cellsOf 29))=xs[4]?:=hel 4 _ rfl
 have e5:DataW.trod enc Try.prog W 0 (fun _=>true) true n 3 ((cs.drop 5).take (Try.prog.cellsOf 3))=xs[5]?:=hel 5 _ rfl
 rw [c3] at e0 e1 e2 e5
 rw [c28] at e3
 rw [c29] at e4
 match xs,hn with
 | [x0,x1,x2,x3,x4,x5],_ =>
  match cs,hl with
  | [v0,v1,v2,v3,v4,v5],_ =>
   obtain ⟨n0,a0,_,w0⟩:=DataW.trod_int Try.underlying3 (show DataW.trod enc Try.prog W 0 (fun _=>true) true n 3 [v0]=some x0 from e0)
   obtain ⟨n1,a1,_,w1⟩:=DataW.trod_int Try.underlying3 (show DataW.trod enc Try.prog W 0 (fun _=>true) true n 3 [v1]=some x1 from e1)
   obtain ⟨n2,a2,_,w2⟩:=DataW.trod_int Try.underlying3 (show DataW.trod enc Try.prog W 0 (fun _=>true) true n 3 [v2]=some x2 from e2)
   obtain ⟨d,ps,a3,d1,d2,d3⟩:=places_of (show DataW.trod enc Try.prog W 0 (fun _=>true) true n 28 [v3]=some x3 from e3) (fun m hm=>hw m (by
    simp only [DataW.weights,Try.underlying53]
    exact DataW.weights_mem_each (j:=3) (t:=28) rfl rfl m hm))
   obtain ⟨n4,a4,_,w4⟩:=DataW.trod_int Try.underlying29 (show DataW.trod enc Try.prog W 0 (fun _=>true) true n 29 [v4]=some x4 from e4)
   obtain ⟨n5,a5,_,w5⟩:=DataW.trod_int Try.underlying3 (show DataW.trod enc Try.prog W 0 (fun _=>true) true n 3 [v5]=some x5 from e5)
   simp only [List.cons.injEq,and_true] at a0 a1 a2 a4 a5
   refine ⟨⟨n0,n1,n2,d,ps,n4,n5⟩,?_,⟨d1,d2,d3,(bounds_u64 w4).1⟩⟩
   rw [a0,a1,a2,a3,a4,a5]
   rfl
theorem day_of {n:Nat} {cs:List Value} {x:DataW H × List MemPlace} (h:DataW.trod enc Try.prog W 0 (fun _=>true) true n 48 cs=some x) (hw:∀ m ∈ x.1.weights Try.prog 48,m ≤ reachBytes) :
  ∃ (sl:Sl) (ts:List Trn),cs=[.slice sl.a sl.n sl.c]∧Dy W.heap sl ts:=by
 obtain ⟨xs,n,_,rfl,hl,hn,hel⟩:=DataW.trod_struct Try.underlying48 h
 rw [c48] at hl
 have e1:DataW.trod enc Try.prog W 0 (fun _=>true) true n 46 ((cs.drop 0).take (Try.prog.cellsOf 46))=xs[0]?:=hel 0 _ rfl
 rw [c46] at e1
 match xs,hn with
 | [x1],_ =>
  match cs,hl with
  | [v1],_ =>
   have hw1:∀ m ∈ x1.1.weights Try.prog 46,m ≤ reachBytes:=fun m hm=>hw m (by
    simp only [DataW.weights,Try.underlying48]
    exact DataW.weights_mem_each (j:=0) (t:=46) rfl rfl m hm)
   rcases DataW.trod_slice Try.underlying46 (show DataW.trod enc Try.prog W 0 (fun _=>true) true n 46 [v1]=some x1 from e1) with ⟨hc,rfl⟩ | ⟨a,len,cap,elems,rest,k,_,hc,rfl,_,hlc,_,hlen,hel3,_,_⟩
   ·simp only [List.cons.injEq,and_true] at hc
    subst hc
    exact ⟨⟨none,0,0⟩,[],rfl,rfl,rfl,by decide,nofun,fun _ _ z=>absurd rfl z⟩
   ·simp only [List.cons.injEq,and_true] at hc
    subst hc
    rw [c53] at hel3
    have hw2:=hw1 ((elems.length + rest.length) * Try.prog.bytesOf 53) (by
     simp only [DataW.weights,Try.underlying46,List.mem_cons]
     exact .inl (by rw [List.length_map,List.length_map]))
    rw [b53] at hw2
    have hr:=reachBytes_lt
    have each:∀ i,i < len→∃ o:Trn,TrnOk W.heap W.heap.size o∧∀ j v,o.cells[j]?=some v→Go.Ev.cell W.heap (a.add (i * 6 + j))=some v:=fun i hi=>by
     have h1:=hel3 i hi
     have hi2:i < elems.length:=by omega
     rw [List.getElem?_eq_getElem hi2] at h1
     obtain ⟨cs1,hc1,hd⟩:=Option.bind_eq_some_iff.1 h1
     obtain ⟨_,hcl,hcc⟩:=World.cells?_some hc1
     obtain ⟨o,ho,hok⟩:=trn_of hd (fun m hm=>hw1 m (by
      simp only [DataW.weights,Try.underlying46,List.mem_cons,List.mem_append]
      exact .inr (.inl (weightsAll_mem (List.mem_map.2 ⟨_,List.getElem_mem hi2,rfl⟩) m hm))))
     refine ⟨o,hok,fun j v hj=>?_⟩
     have hjl:j < 6:=(List.getElem?_eq_some_iff.1 hj).1
     have h3:Go.Ev.cell W.heap ((a.add (i * 6)).add j)=cs1[j]?:=hcc j hjl
     rw [← Go.Ev.add_add,h3,ho,hj]
    obtain ⟨f,hf⟩:∃ f:Nat→Trn,∀ i,i < len→TrnOk W.heap W.heap.size (f i)∧∀ j v,(f i).cells[j]?=some v→Go.Ev.cell W.heap (a.add (i * 6 + j))=some v :=
     ⟨fun i=>if hi:i < len then (each i hi).choose else ⟨0,0,0,⟨none,0,0⟩,[],0,0⟩,fun i hi=>by dsimp only; rw [dif_pos hi]; exact (each i hi).choose_spec⟩
    refine ⟨⟨some a,len,cap⟩,(List.range len).map f,rfl,?_,by simp,by rw [List.length_map,List.length_range]; omega,fun o ho=>?_,fun p hp hne=>?_⟩
    ·intro j v hj
     have hjl:j < len * 6:=by
      have:=(List.getElem?_eq_some_iff.1 hj).1
      rw [Go.Ev.flat_len (sz:=6) (fun _=>rfl)] at this
      simpa using this
     have hd:j=j / 6 * 6 + j % 6:=by omega
     have hi:j / 6 < len:=by omega
     have h4:=Go.Ev.flat_at (sz:=6) (f:=Trn.cells) (fun _=>rfl) ((List.range len).map f) (j / 6) (j % 6) (f (j / 6)) (by rw [List.getElem?_map,List.getElem?_range hi]; rfl) (by omega)
     rw [← hd,hj] at h4
     have:=(hf (j / 6) hi).2 (j % 6) v h4.symm
     rwa [← hd] at this
    ·obtain ⟨i,hi,rfl⟩:=List.mem_map.1 ho
     exact (hf i (List.mem_range.1 hi)).1
    ·obtain rfl:=Option.some.inj hp
     have h0:0 < len:=Nat.pos_of_ne_zero fun e=>hne (by rw [e]; rfl)
     exact block_lt ((hf 0 h0).2 0 _ rfl)
end
end Go.Proofs.Ytfilpdcphgmhgaa
