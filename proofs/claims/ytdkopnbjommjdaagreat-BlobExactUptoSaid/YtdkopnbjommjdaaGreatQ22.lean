/- larderlaw1's lists of lists that were lent: Intact, Over; Other / Printed by a program (own work) out of the loaded functions: what each says of the heap, and that the evaluator says the same. No condition but that these are ones. -/
import Derived.Test.YtdkopnbjommjdaaGreatQ21
import Derived.Test.YtdkopnbjommjdaaGreatQ16
import Derived.Test.YtdkopnbjommjdaaGreatQ4
set_option linter.all false
set_option maxRecDepth 1000000
namespace Go.Ev
open Go.Proofs
section
variable {h h' h2 h0:Hp} {M M':Mem} {pb:Nat} {q q':HQ} {R:Value→Hp→Prop} {parts:List (List Nat)} {ls ws:List Sl} {sa sf sw mk:Sl}
theorem LnA.keep {S:Nat→Prop} (x:LnA h h0 pb M parts ls ws sa sf sw mk) (k:Kept S h h') (hS:∀ b,h0.size ≤ b→b < h.size→¬ S b):LnA h' h0 pb M parts ls ws sa sf sw mk:=by
 have old:=x.neww
 have sp:=x.sep.keep k fun b hb=>hS b (x.own b hb) (x.sep.own_lt hb)
 refine ⟨sp,x.l0,x.c0,x.s1,x.s2,x.s3,x.ll,x.wl,fun i l w p hl hw hp=>?_,?_,x.mn,fun q hq=>?_,x.own,x.neww⟩
 ·have e:=x.each i l w p hl hw hp
  exact ⟨e.c,e.n,e.cont,reads_kept2 k e.wr fun q hq _=>(have:=e.wo q hq; ⟨this.1,hS _ (old q (.inr ⟨w,List.mem_of_getElem? hw,hq⟩)) this.1⟩),e.wn,fun q hq=>(have:=e.wo q hq; ⟨Nat.lt_of_lt_of_le this.1 k.1,this.2⟩)⟩
 ·exact reads_kept2 k x.mr fun q hq _=>(have:=x.mo q hq; ⟨this.1,hS _ (old q (.inl hq)) this.1⟩)
 ·have:=x.mo q hq; exact ⟨Nat.lt_of_lt_of_le this.1 k.1,this.2⟩
theorem LnA.cell (x:LnA h h0 pb M parts ls ws sa sf sw mk) (k:Nat):Go.Ev.cell h ((ad pb).add k)=[Value.slice sa.a parts.length sa.c,slV sa,slV sf,slV sw][k]?:=by rw [x.sep.cellA x.l0 k,x.c0]
theorem LnI.lend {i:Nat} {l w:Sl} {p:List Nat} (x:LnI h M i l w p) (sp:Sep h M):∃ c,l.a=some (ad c)∧M.loc (4 + i)=some c∧LendAt h c l.c p:=by
 obtain ⟨c,c1,c2⟩:=x.c
 obtain ⟨junk,j1,j2⟩:=x.cont
 exact ⟨c,c1,c2,junk,by have:=sp.row _ _ c2; rw [j1] at this; exact this,j2⟩
theorem LnA.srcs (x:LnA h h0 pb M parts ls ws sa sf sw mk) (q:HQ) (b8:∀ p ∈ parts,Bytes8 p) (hl:∀ p ∈ parts,p.length < 10000000):Srcs h q ⟨sa.a,parts.length,sa.c⟩ ls parts:=by
 refine ⟨?_,x.ll.symm,x.ll,fun i c p hc hp=>?_⟩
 ·have r:=slAt_reads (x.s1.slAt x.sep)
  have r:ReadsO h sa.a (ls.map slV ++ [slV mk]):=r
  show ReadsO h sa.a (ls.map slV)
  cases ha:sa.a with
  | none=>rw [ha] at r; have r:ls.map slV ++ [slV mk]=[]:=r; simp at r
  | some a0 =>
   rw [ha] at r
   intro j v hj
   exact r j v (by rw [List.getElem?_append_left (List.getElem?_eq_some_iff.1 hj).1]; exact hj)
 ·obtain ⟨w,hw⟩:∃ w,ws[i]?=some w:=⟨_,List.getElem?_eq_getElem (by have:=x.wl; have:=(List.getElem?_eq_some_iff.1 hp).1; omega)⟩
  have e:=x.each i c w p hc hw hp
  obtain ⟨cb,c1,_,le⟩:=e.lend x.sep
  have hm:=List.mem_of_getElem? hp
  rw [c1]
  exact ⟨le.reads,e.n,b8 p hm,by have:=hl p hm; omega,fun a ha _=>by obtain rfl:=Option.some.inj ha; exact le.lt⟩
theorem lintact_ok (x:LnA h h0 pb M parts ls ws sa sf sw mk) (b8:∀ p ∈ parts,Bytes8 p) (hl:∀ p ∈ parts,p.length < 10000000) (hmany:parts.length < 10000000) (hR:R (.bool true) h):CallTo Tryz.prog 43 #[.pointer (some (ad pb))] h R:=by
 have ll:=x.ll; have wl:=x.wl
 have lna:sa.n=parts.length + 1:=by have:=x.s1.len; rw [List.length_append,List.length_map,ll] at this; simp at this; omega
 have lnf:sf.n=parts.length:=by have:=x.s2.len; rw [List.length_map] at this; omega
 have lnw:sw.n=parts.length:=by have:=x.s3.len; rw [List.length_map] at this; omega
 have rA:=slAt_reads (x.s1.slAt x.sep)
 have rF:=slAt_reads (x.s2.slAt x.sep)
 have rW:=slAt_reads (x.s3.slAt x.sep)
 have c0:Go.Ev.cell h (ad pb)=some (.slice sa.a parts.length sa.c):=x.cell 0
 refine f43F_ok ?_
 unfold f43F
 refine f43L1_rule (fun m s0 s3 h'=>∃ i:Nat,i ≤ parts.length∧m=parts.length - i∧s0=some (ad pb)∧s3=(i:Int)∧h=h') parts.length ⟨0,Nat.zero_le _,rfl,rfl,rfl,rfl⟩ ?_
 rintro m s0 s3 g h1 ⟨i,hi,rfl,rfl,rfl,rfl⟩
 unfold f43L1
 refine PtrOk_mk ⟨sw,x.cell 3,Cond_dec (fun hlt=>?_) fun hge=>?_⟩
 ·have hil:i < parts.length:=by omega
  obtain ⟨l,hl'⟩:∃ l,ls[i]?=some l:=⟨_,List.getElem?_eq_getElem (by omega)⟩
  obtain ⟨w,hw⟩:∃ w,ws[i]?=some w:=⟨_,List.getElem?_eq_getElem (by omega)⟩
  obtain ⟨p,hp⟩:∃ p,parts[i]?=some p:=⟨_,List.getElem?_eq_getElem hil⟩
  have e:=x.each i l w p hl' hw hp
  obtain ⟨cb,c1,c2,le⟩:=e.lend x.sep
  have hm:=List.mem_of_getElem? hp
  have b:=b8 p hm
  have hpl:=hl p hm
  have en:=e.n
  obtain ⟨pa,hpa,ca⟩:=readsO_get rA (i:=i) (v:=slV l) (by rw [List.getElem?_append_left (by rw [List.length_map]; omega),List.getElem?_map,hl']; rfl)
  obtain ⟨pf,hpf,cf⟩:=readsO_get rF (i:=i) (v:=slV l) (by rw [List.getElem?_map,hl']; rfl)
  obtain ⟨pw,hpw,cw⟩:=readsO_get rW (i:=i) (v:=slV w) (by rw [List.getElem?_map,hw]; rfl)
  rw [Int.toNat_natCast,Nat.mul_one]
  have rl:ReadsO h l.a (p.map bv):=by rw [c1]; exact le.reads
  refine PtrOk_mk ⟨⟨sa.a,parts.length,sa.c⟩,c0,⟨by omega,Int.ofNat_lt.2 hil⟩,PtrOk_of hpa ⟨l,ca,ofL p,spells_of rl e.n b,PtrOk_mk ⟨sw,x.cell 3,⟨by omega,by omega⟩,PtrOk_of hpw ⟨w,cw,ofL p,spells_of e.wr e.wn b,?_⟩⟩⟩⟩
  rw [ofL_beq]
  refine Cond_f rfl (PtrOk_mk ⟨sf,x.cell 2,⟨by omega,by omega⟩,PtrOk_of hpf ⟨l,cf,PtrOk_mk ⟨sw,x.cell 3,⟨by omega,by omega⟩,PtrOk_of hpw ⟨w,cw,true,?_,?_⟩⟩⟩⟩)
  ·rw [c1,en]
   exact intact_ok le b hpl e.wr e.wn ⟨rfl,rfl⟩
  ·unfold f43K1
   exact Cond_f rfl ⟨parts.length - (i + 1),by omega,i + 1,by omega,rfl,rfl,by rw [wrap_i64' (by omega) (by omega)]; rfl,rfl⟩
 ·have hie:i=parts.length:=by omega
  subst hie
  obtain ⟨pa,hpa,ca⟩:=readsO_get rA (i:=parts.length) (v:=slV mk) (by rw [List.getElem?_append_right (by rw [List.length_map]; omega),List.length_map,ll,Nat.sub_self]; rfl)
  refine PtrOk_mk ⟨sa,x.cell 1,PtrOk_mk ⟨sw,x.cell 3,⟨by omega,by omega⟩,PtrOk_of hpa ⟨mk,?_,ofL markL,spells_of x.mr x.mn (fun c hc=>by unfold markL at hc; simp at hc; omega),?_⟩⟩⟩
  ·rw [lnw,Int.toNat_natCast,Nat.mul_one]; exact ca
  ·have e:(ByteArray.toList (ofL markL) == ByteArray.toList ⟨#[109,97,114,107]⟩)=true:=ofL_beq
   rw [e]
   exact hR
theorem lover_ok (x:LnA h h0 pb M parts ls ws sa sf sw mk) (hl:∀ p ∈ parts,p.length < 10000000) (hmany:parts.length < 10000000) (hR:∀ h',Kept M.own h h'→R (.tuple #[]) h'):CallTo Tryz.prog 44 #[.pointer (some (ad pb))] h R:=by
 have ll:=x.ll; have wl:=x.wl
 have lnf:sf.n=parts.length:=by have:=x.s2.len; rw [List.length_map] at this; omega
 have lna:sa.n=parts.length + 1:=by have:=x.s1.len; rw [List.length_append,List.length_map,ll] at this; simp at this; omega
 have m1:=x.sep
 refine f44F_ok ?_
 unfold f44F
 refine f44L1_rule (fun m s0 s2 h'=>∃ (i:Nat) (M':Mem) (vs:List Value),i ≤ parts.length∧m=parts.length - i∧s0=some (ad pb)∧s2=(i:Int)∧Sep h' M'∧Chg h M h' M'∧(∀ y,M'.loc y=M.loc y)∧M'.cont 0=M.cont 0∧M'.cont 2=M.cont 2∧IsSl 1 M' 1 sa vs∧vs.length=parts.length + 1∧∀ y,(M'.cont y).length=(M.cont y).length) parts.length
  ⟨0,M,_,Nat.zero_le _,rfl,rfl,rfl,m1,Chg.refl _ _,fun _=>rfl,rfl,rfl,x.s1,by rw [List.length_append,List.length_map,ll]; rfl,fun _=>rfl⟩ ?_
 rintro m s0 s2 g h1 ⟨i,M1,vs,hi,rfl,rfl,rfl,sep1,ch1,lo1,c01,c21,sl1,vl,len1⟩
 have cc:∀ {h':Hp} {M':Mem},Sep h' M'→M'.loc 0=M.loc 0→M'.cont 0=M.cont 0→∀ k,Go.Ev.cell h' ((ad pb).add k)=[Value.slice sa.a parts.length sa.c,slV sa,slV sf,slV sw][k]?:=fun {h' M'} s l c k=>by rw [s.cellA (l.trans x.l0) k,c,x.c0]
 unfold f44L1
 refine PtrOk_mk ⟨sf,cc sep1 (lo1 0) c01 2,Cond_dec (fun hlt=>?_) fun hge=>hR h1 ch1.1⟩
 have hil:i < parts.length:=by omega
 obtain ⟨l,hl'⟩:∃ l,ls[i]?=some l:=⟨_,List.getElem?_eq_getElem (by omega)⟩
 obtain ⟨w,hw⟩:∃ w,ws[i]?=some w:=⟨_,List.getElem?_eq_getElem (by omega)⟩
 obtain ⟨p,hp⟩:∃ p,parts[i]?=some p:=⟨_,List.getElem?_eq_getElem hil⟩
 have e:=x.each i l w p hl' hw hp
 obtain ⟨cb,c1,c2⟩:=e.c
 obtain ⟨junk,j1,j2⟩:=e.cont
 have hpl:=hl p (List.mem_of_getElem? hp)
 have sf1:IsSl 1 M1 2 sf (ls.map slV):=x.s2.cong (lo1 2) c21
 obtain ⟨pf,hpf,cf⟩:=readsO_get (slAt_reads (sf1.slAt sep1)) (i:=i) (v:=slV l) (by rw [List.getElem?_map,hl']; rfl)
 rw [Int.toNat_natCast,Nat.mul_one]
 refine PtrOk_mk ⟨sf,cc sep1 (lo1 0) c01 2,⟨by omega,by omega⟩,PtrOk_of hpf ⟨l,cf,?_⟩⟩
 have en:=e.n
 rw [c1]
 refine over_ok sep1 ((lo1 (4 + i)).trans c2) (n:=l.n) (by rw [len1,j1,List.length_append,List.length_append,List.length_map]; omega) (by omega) fun h2 cs2 sep2 hcl2 _ ch2=>⟨rfl,?_⟩
 have o2:∀ z,z ≠ 4 + i→(M1.upd (4 + i) (some cb) cs2).loc z=M1.loc z∧(M1.upd (4 + i) (some cb) cs2).cont z=M1.cont z:=fun z hz=>⟨Mem.loc_ne _ _ _ hz,Mem.cont_ne _ _ _ hz⟩
 have l2s:=Mem.loc_self M1 (4 + i) (some cb) cs2
 have c2s:=Mem.cont_self M1 (4 + i) (some cb) cs2
 generalize M1.upd (4 + i) (some cb) cs2=M2 at sep2 ch2 o2 l2s c2s
 have lo2:∀ y,M2.loc y=M.loc y:=fun y=>by
  by_cases e:y=4 + i
  ·rw [e,l2s,c2]
  ·rw [(o2 y e).1,lo1]
 have len2:∀ y,(M2.cont y).length=(M.cont y).length:=fun y=>by
  by_cases e:y=4 + i
  ·rw [e,c2s,hcl2,len1]
  ·rw [(o2 y e).2,len1]
 have c02:M2.cont 0=M.cont 0:=(o2 0 (by omega)).2.trans c01
 have c22:M2.cont 2=M.cont 2:=(o2 2 (by omega)).2.trans c21
 have sl2:IsSl 1 M2 1 sa vs:=sl1.cong (o2 1 (by omega)).1 (o2 1 (by omega)).2
 refine PtrOk_mk ⟨sa,cc sep2 (lo2 0) c02 1,Let_mk fun h3 e3=>PtrOk_mk (Let_mk fun h4 e4=>⟨⟨by omega,by omega⟩,?_⟩)⟩
 obtain ⟨k4,_,_⟩:=mk_made (l:=[111,118,101,114]) rfl e3 e4
 obtain ⟨ab,hab,haa⟩:=sl2.some_of (fun e=>by rw [e] at vl; simp at vl)
 refine PtrOk_of haa ?_
 have en2:nb h2=ad h2.size:=rfl
 rw [en2]
 obtain ⟨z1,z2⟩:=sl2.set hab (.slice (some (ad h2.size)) 4 4) (o:=i) (by omega)
 refine (sep2.keepN k4).st hab (add_ad _ _) z1 fun h5 sep5 ch5=>?_
 have o5:∀ z,z ≠ 1→(M2.upd 1 (some ab) ((M2.cont 1).set i (.slice (some (ad h2.size)) 4 4))).loc z=M2.loc z∧(M2.upd 1 (some ab) ((M2.cont 1).set i (.slice (some (ad h2.size)) 4 4))).cont z=M2.cont z:=fun z hz=>⟨Mem.loc_ne _ _ _ hz,Mem.cont_ne _ _ _ hz⟩
 have l5s:=Mem.loc_self M2 1 (some ab) ((M2.cont 1).set i (.slice (some (ad h2.size)) 4 4))
 have c5s:=Mem.cont_self M2 1 (some ab) ((M2.cont 1).set i (.slice (some (ad h2.size)) 4 4))
 generalize M2.upd 1 (some ab) ((M2.cont 1).set i (.slice (some (ad h2.size)) 4 4))=M5 at sep5 ch5 o5 l5s c5s z2
 refine ⟨parts.length - (i + 1),by omega,i + 1,M5,_,by omega,rfl,rfl,by rw [wrap_i64' (by omega) (by omega)]; rfl,sep5,(ch1.trans ch2).trans ((Chg.of_kept k4).trans ch5),fun y=>?_,(o5 0 (by omega)).2.trans c02,(o5 2 (by omega)).2.trans c22,z2,by rw [List.length_set]; exact vl,fun y=>?_⟩
 ·by_cases e:y=1
  ·rw [e,l5s,← hab,lo2]
  ·rw [(o5 y e).1,lo2]
 ·by_cases e:y=1
  ·rw [e,c5s,List.length_set,len2]
  ·rw [(o5 y e).2,len2]
/-- Other: some other bytes, as many. -/
theorem other_ok {a:Sl} {l:List Nat} (rd:ReadsO h a.a (l.map bv)) (na:a.n=l.length) (b8:Bytes8 l) (hl:l.length < 10000000)
  (hR:∀ (s:Sl) m h',ReadsO h' s.a (m.map bv)→s.n=m.length→m.length=l.length→Bytes8 m→(∀ p,s.a=some p→h.size ≤ p.block∧p.block < h'.size)→Kept N h h'→R (.slice s.a s.n s.c) h'):CallTo Tryz.prog 59 #[.slice a.a a.n a.c] h R:=by
 refine f59F_ok ?_
 unfold f59F
 have es:IntKind.wrap .i64 (((a.n:Nat):Int) - 1)=((l.length:Nat):Int) - 1:=by rw [wrap_i64' (by omega) (by omega)]; omega
 rw [es]
 refine f59L1_rule (s3:=⟨none,0,0⟩) (fun q s0 s3 s4 h'=>∃ (k:Nat) (M:Mem),k ≤ l.length∧k=q∧a=s0∧s4=(k:Int) - 1∧Sep h' M∧IsSl 1 M 0 s3 ((l.drop k).reverse.map bv)∧Chg h M00 h' M) l.length
  ⟨l.length,M00,Nat.le_refl _,rfl,rfl,rfl,sep00 h,by rw [List.drop_length]; exact nil00 1,Chg.refl _ _⟩ ?_
 rintro q s0 s3 s4 g h1 ⟨k,M,hk,rfl,rfl,rfl,sep1,sl1,ch1⟩
 obtain ⟨kN,own⟩:=chg00 ch1
 have ln:s3.n=l.length - k:=by have:=sl1.len; simp at this; omega
 unfold f59L1
 have fin:∀ {h':Hp} {M':Mem} (m:List Nat) (s:Sl),Sep h' M'→IsSl 1 M' 0 s (m.map bv)→Chg h M00 h' M'→m.length=l.length→Bytes8 m→R (.slice s.a s.n s.c) h':=fun {h' M'} m s sp sl ch hm hb=>by
  obtain ⟨kN',own'⟩:=chg00 ch
  have sn:s.n=m.length:=by have:=sl.len; rw [List.length_map] at this; omega
  refine hR s m h' (slAt_reads (sl.slAt sp)) sn hm hb (fun p hp=>?_) kN'
  cases hlo:M'.loc 0 with
  | none=>have:=(sl.nil hlo).1; rw [this] at hp; cases hp
  | some b =>
   have:=(sl.row b hlo).1
   rw [this] at hp
   obtain rfl:=Option.some.inj hp
   exact ⟨own' b ⟨0,hlo⟩,sp.lt hlo⟩
 refine Cond_dec (fun hge=>?_) fun hlt=>?_
 ·obtain ⟨j,rfl⟩:∃ j,k=j + 1:=⟨k - 1,by omega⟩
  have ej:(((j + 1:Nat):Int) - 1)=((j:Nat):Int):=by omega
  rw [ej,Int.toNat_natCast,Nat.mul_one]
  have hjl:j < l.length:=by omega
  obtain ⟨pa,hpa,ca⟩:=readsO_get (reads_keptN kN rd) (i:=j) (v:=bv (l.getD j 0)) (by rw [List.getElem?_map,List.getD_eq_getElem?_getD,List.getElem?_eq_getElem hjl]; rfl)
  refine ⟨⟨by omega,by omega⟩,PtrOk_of hpa ⟨((l.getD j 0:Nat):Int),ca,?_⟩⟩
  refine sl1.app1 sep1 rfl rfl (fun v hv=>by simp at hv; rw [hv]; rfl) (by omega) (by omega) fun a' c' h2 ob cc sep2 sl2 ch2=>⟨j,by omega,j,_,by omega,rfl,rfl,by rw [wrap_i64' (by omega) (by omega)],sep2,?_,ch1.trans ch2⟩
  have e:(l.drop j).reverse.map bv=(l.drop (j + 1)).reverse.map bv ++ #[Value.int .u8 ((l.getD j 0:Nat):Int)].toList:=by
   rw [List.drop_eq_getElem_cons hjl,List.reverse_cons,List.map_append,List.getD_eq_getElem?_getD,List.getElem?_eq_getElem hjl]
   rfl
  rw [e]
  exact sl2
 ·obtain rfl:k=0:=by omega
  rw [List.drop_zero] at sl1
  have br:Bytes8 l.reverse:=fun c hc=>b8 c (List.mem_reverse.1 hc)
  have keep:f59K1 s3 false h1 R:=by
   unfold f59K1
   exact Cond_f rfl (fin l.reverse s3 sep1 sl1 ch1 (List.length_reverse) br)
  refine Cond_dec (fun hpos=>?_) fun _=>keep
  have sl1r:=slAt_reads (sl1.slAt sep1)
  refine ⟨ofL l.reverse,spells_of sl1r (by rw [List.length_reverse]; omega) br,ofL l,spells_of (reads_keptN kN rd) na b8,?_⟩
  cases (ByteArray.toList (ofL l.reverse) == ByteArray.toList (ofL l)) with
  | false=>exact keep
  | true =>
   unfold f59K1
   have e1:IntKind.wrap .i64 (((s3.n:Nat):Int) - 1)=((l.length - 1:Nat):Int):=by rw [wrap_i64' (by omega) (by omega)]; omega
   rw [e1,Int.toNat_natCast,Nat.mul_one]
   have hlast:l.length - 1 < l.reverse.length:=by rw [List.length_reverse]; omega
   obtain ⟨bb,hb1,hb2⟩:=sl1.some_of (fun e=>by have:=congrArg List.length e; rw [List.length_map,List.length_reverse,List.length_nil] at this; omega)
   obtain ⟨pa,hpa,ca⟩:=readsO_get sl1r (i:=l.length - 1) (v:=bv (l.reverse.getD (l.length - 1) 0)) (by rw [List.getElem?_map,List.getD_eq_getElem?_getD,List.getElem?_eq_getElem hlast]; rfl)
   have ht:l.reverse.getD (l.length - 1) 0 < 256:=by
    rw [List.getD_eq_getElem?_getD,List.getElem?_eq_getElem hlast]
    exact br _ (List.getElem_mem hlast)
   obtain ⟨u,hu,eu⟩:=xor8 _ ht
   have bnd:(0:Int) ≤ ((l.length - 1:Nat):Int)∧((l.length - 1:Nat):Int) < ((s3.n:Nat):Int):=⟨by omega,by omega⟩
   refine Cond_t rfl ⟨bnd,PtrOk_of hpa ⟨_,ca,bnd,PtrOk_of hpa ?_⟩⟩
   rw [eu]
   rw [hb2] at hpa
   obtain rfl:=Option.some.inj hpa
   obtain ⟨z1,z2⟩:=sl1.set hb1 (.int .u8 (u:Nat)) (o:=l.length - 1) (by rw [List.length_map]; exact hlast)
   refine sep1.st hb1 (add_ad _ _) z1 fun h2 sep2 ch2=>?_
   have e2:(l.reverse.map bv).set (l.length - 1) (.int .u8 (u:Nat))=(l.reverse.set (l.length - 1) u).map bv:=by rw [List.map_set]; rfl
   rw [e2] at z2
   refine fin (l.reverse.set (l.length - 1) u) s3 sep2 z2 (ch1.trans ch2) (by rw [List.length_set,List.length_reverse]) fun c hc=>?_
   rcases List.mem_or_eq_of_mem_set hc with hc | hc
   ·exact br c hc
   ·rw [hc]; exact hu
end
end Go.Ev
set_option linter.all false
set_option maxRecDepth 100000
namespace Go.Ev
open Go.Proofs
/- (*larder/larderref4.Heap).Live -/
noncomputable def body10:Code:=(Tryz.f10.body).getD .skip
def lv10 (m:Nat):List Nat:=if m=4 then [0,4,5,6] else []
def f10I1 (J:Nat→Option Addr→Int→Int→Int→Hp→Prop) (n:Nat) (env:List Value) (h:Hp):Prop:=lenIs env 40 (DecP env 0 fun s0=>DecI .i64 env 4 fun s4=>DecI .i64 env 5 fun s5=>DecI .i64 env 6 fun s6=>J n s0 s4 s5 s6 h)
def f10K1 (J1:Nat→Option Addr→Int→Int→Int→Hp→Prop) (n1:Nat) (x0:Option Addr) (x4:Int) (x5:Int) (x6:Int) (h:Hp) (R:Value→Hp→Prop):Prop :=
 ∃ m,m < n1∧J1 m x0 x4 x5 (IntKind.wrap .i64 (x6 + (1:Int))) h
def f10L1 (J1:Nat→Option Addr→Int→Int→Int→Hp→Prop) (n1:Nat) (s0:Option Addr) (s4:Int) (s5:Int) (s6:Int) (g:Nat→Value) (h:Hp) (R:Value→Hp→Prop):Prop :=
 PtrOk s0 fun p10=>∃ t12:Sl,cell h (p10.add 1)=some (.slice t12.a t12.n t12.c)∧Cond (decide (s6 < (((t12.n:Nat):Int)))) (CallTo Tryz.prog 26 #[.pointer s0,.int .i64 s6] h fun r h1=>∃ t19:Bool,r=.bool t19∧Cond t19 (PtrOk s0 fun p21=>∃ t23:Sl,cell h1 (p21.add 1)=some (.slice t23.a t23.n t23.c)∧(0 ≤ s6∧s6 < ((t23.n:Nat):Int))∧PtrOk t23.a fun p25=>∃ t26:Sl,cell h1 (p25.add (s6.toNat * 1))=some (.slice t26.a t26.n t26.c)∧CallTo Tryz.prog 27 #[.int .i64 (((t26.n:Nat):Int))] h1 fun r h2=>∃ t28:Int,r=.int .i64 t28∧Cond (decide (t28 > (64:Int))) (f10K1 J1 n1 s0 s4 (IntKind.wrap .i64 ((IntKind.wrap .i64 (s5 + t28)) + (1:Int))) s6 h2 R) (f10K1 J1 n1 s0 (IntKind.wrap .i64 (s4 + t28)) s5 s6 h2 R)) (f10K1 J1 n1 s0 s4 s5 s6 h1 R)) (R (.tuple #[.int .i64 s4,.int .i64 s5]:Value) h)
theorem f10L1_eq (J1:Nat→Option Addr→Int→Int→Int→Hp→Prop) (n1:Nat) (s0:Option Addr) (s4:Int) (s5:Int) (s6:Int) (g:Nat→Value) (h:Hp) (R:Value→Hp→Prop):(evC Tryz.prog tab lv10 (sub [1,1,1,0,1,0,0] body10)) (loopK (f10I1 J1) n1 (contAt Tryz.prog tab lv10 [1,1,1,0,1,0] body10 [] (bodyK Tryz.prog Tryz.f10 [] R))) (mkEnv 40 [(0,.pointer s0),(4,.int .i64 s4),(5,.int .i64 s5),(6,.int .i64 s6)] g) h=f10L1 J1 n1 s0 s4 s5 s6 g h R:=by kernel_rfl
theorem f10I1_at (J:Nat→Option Addr→Int→Int→Int→Hp→Prop) (n:Nat) (s0:Option Addr) (s4:Int) (s5:Int) (s6:Int) (g:Nat→Value) (h:Hp):f10I1 J n (mkEnv 40 [(0,.pointer s0),(4,.int .i64 s4),(5,.int .i64 s5),(6,.int .i64 s6)] g) h=J n s0 s4 s5 s6 h:=by kernel_rfl
theorem f10L1_rule  {R:Value→Hp→Prop} {s0:Option Addr} {s4:Int} {s5:Int} {s6:Int} {h0:Hp} (J:Nat→Option Addr→Int→Int→Int→Hp→Prop) (n0:Nat) (hi:J n0 s0 s4 s5 s6 h0)
  (hr:∀ n s0 s4 s5 s6 g h,J n s0 s4 s5 s6 h→f10L1  J n s0 s4 s5 s6 g h R):LoopEv (evC Tryz.prog tab lv10 (sub [1,1,1,0,1,0,0] body10)) (contAt Tryz.prog tab lv10 [1,1,1,0,1,0] body10 [] (bodyK Tryz.prog Tryz.f10 [] R)) [(0,.pointer s0),(4,.int .i64 s4),(5,.int .i64 s5),(6,.int .i64 s6)] 40 h0:=by
 refine ⟨f10I1 J,n0,fun g=>by rw [f10I1_at]; exact hi,fun n env h hI=>?_⟩
 clear hi
 clear s0 s4 s5 s6
 obtain ⟨hlen,hI⟩:=Cond_true' hI
 have hlen:env.length=40:=by simpa using hlen
 obtain ⟨s0,es0,hI⟩:=DecP.out hI
 obtain ⟨s4,es4,hI⟩:=DecI.out hI
 obtain ⟨s5,es5,hI⟩:=DecI.out hI
 obtain ⟨s6,es6,hI⟩:=DecI.out hI
 rw [mkEnv_of (l:=[(0,.pointer s0),(4,.int .i64 s4),(5,.int .i64 s5),(6,.int .i64 s6)]) hlen (by simp only [List.mem_cons,List.not_mem_nil,or_false,forall_eq_or_imp,forall_eq]; exact ⟨es0,es4,es5,es6⟩)]
 rw [f10L1_eq]
 exact hr n s0 s4 s5 s6 _ h hI
def f10F (a0:Option Addr) (h:Hp) (R:Value→Hp→Prop):Prop :=
 LoopEv (evC Tryz.prog tab lv10 (sub [1,1,1,0,1,0,0] body10)) (contAt Tryz.prog tab lv10 [1,1,1,0,1,0] body10 [] (bodyK Tryz.prog Tryz.f10 [] R)) [(0,.pointer a0),(4,.int .i64 1),(5,.int .i64 0),(6,.int .i64 0)] 40 h
theorem f10F_eq (a0:Option Addr) (h:Hp) (R:Value→Hp→Prop):evF Tryz.prog tab lv10 Tryz.f10 body10 [] [.pointer a0] h R=f10F a0 h R:=by kernel_rfl
theorem f10F_ok {a0:Option Addr} {h:Hp} {R:Value→Hp→Prop} (hF:f10F a0 h R):CallTo Tryz.prog 10 #[.pointer a0] h R :=
 callTo_of_ev (lv:=lv10) (hints:=[]) (c:=body10) (args:=[.pointer a0]) mixed tab_ok Tryz.func10 (by kernel_rfl) (by kernel_rfl) (by rw [f10F_eq]; exact hF)
/- (*larder/larderref4.Heap).held -/
noncomputable def body26:Code:=(Tryz.f26.body).getD .skip
def lv26 (m:Nat):List Nat:=if m=2 then [0,1,5] else []
def f26I1 (J:Nat→Option Addr→Int→Int→Hp→Prop) (n:Nat) (env:List Value) (h:Hp):Prop:=lenIs env 19 (DecP env 0 fun s0=>DecI .i64 env 1 fun s1=>DecI .i64 env 5 fun s5=>J n s0 s1 s5 h)
def f26L1 (J1:Nat→Option Addr→Int→Int→Hp→Prop) (n1:Nat) (s0:Option Addr) (s1:Int) (s5:Int) (g:Nat→Value) (h:Hp) (R:Value→Hp→Prop):Prop :=
 Cond (decide (s5 < (8:Int))) (PtrOk s0 fun p12=>(0 ≤ s5∧s5 < ((8:Nat):Int))∧∃ t15:Int,cell h ((p12.add 2).add (s5.toNat * 1))=some (.int .i64 t15)∧Cond (t15 == (IntKind.wrap .i64 (s1 + (1:Int)))) (R (.bool true:Value) h) (∃ m,m < n1∧J1 m s0 s1 (IntKind.wrap .i64 (s5 + (1:Int))) h)) (R (.bool false:Value) h)
theorem f26L1_eq (J1:Nat→Option Addr→Int→Int→Hp→Prop) (n1:Nat) (s0:Option Addr) (s1:Int) (s5:Int) (g:Nat→Value) (h:Hp) (R:Value→Hp→Prop):(evC Tryz.prog tab lv26 (sub [1,0,1,0,0] body26)) (loopK (f26I1 J1) n1 (contAt Tryz.prog tab lv26 [1,0,1,0] body26 [] (bodyK Tryz.prog Tryz.f26 [] R))) (mkEnv 19 [(0,.pointer s0),(1,.int .i64 s1),(5,.int .i64 s5)] g) h=f26L1 J1 n1 s0 s1 s5 g h R:=by kernel_rfl
theorem f26I1_at (J:Nat→Option Addr→Int→Int→Hp→Prop) (n:Nat) (s0:Option Addr) (s1:Int) (s5:Int) (g:Nat→Value) (h:Hp):f26I1 J n (mkEnv 19 [(0,.pointer s0),(1,.int .i64 s1),(5,.int .i64 s5)] g) h=J n s0 s1 s5 h:=by kernel_rfl
theorem f26L1_rule  {R:Value→Hp→Prop} {s0:Option Addr} {s1:Int} {s5:Int} {h0:Hp} (J:Nat→Option Addr→Int→Int→Hp→Prop) (n0:Nat) (hi:J n0 s0 s1 s5 h0)
  (hr:∀ n s0 s1 s5 g h,J n s0 s1 s5 h→f26L1  J n s0 s1 s5 g h R):LoopEv (evC Tryz.prog tab lv26 (sub [1,0,1,0,0] body26)) (contAt Tryz.prog tab lv26 [1,0,1,0] body26 [] (bodyK Tryz.prog Tryz.f26 [] R)) [(0,.pointer s0),(1,.int .i64 s1),(5,.int .i64 s5)] 19 h0:=by
 refine ⟨f26I1 J,n0,fun g=>by rw [f26I1_at]; exact hi,fun n env h hI=>?_⟩
 clear hi
 clear s0 s1 s5
 obtain ⟨hlen,hI⟩:=Cond_true' hI
 have hlen:env.length=19:=by simpa using hlen
 obtain ⟨s0,es0,hI⟩:=DecP.out hI
 obtain ⟨s1,es1,hI⟩:=DecI.out hI
 obtain ⟨s5,es5,hI⟩:=DecI.out hI
 rw [mkEnv_of (l:=[(0,.pointer s0),(1,.int .i64 s1),(5,.int .i64 s5)]) hlen (by simp only [List.mem_cons,List.not_mem_nil,or_false,forall_eq_or_imp,forall_eq]; exact ⟨es0,es1,es5⟩)]
 rw [f26L1_eq]
 exact hr n s0 s1 s5 _ h hI
def f26F (a0:Option Addr) (a1:Int) (h:Hp) (R:Value→Hp→Prop):Prop :=
 LoopEv (evC Tryz.prog tab lv26 (sub [1,0,1,0,0] body26)) (contAt Tryz.prog tab lv26 [1,0,1,0] body26 [] (bodyK Tryz.prog Tryz.f26 [] R)) [(0,.pointer a0),(1,.int .i64 a1),(5,.int .i64 0)] 19 h
theorem f26F_eq (a0:Option Addr) (a1:Int) (h:Hp) (R:Value→Hp→Prop):evF Tryz.prog tab lv26 Tryz.f26 body26 [] [.pointer a0,.int .i64 a1] h R=f26F a0 a1 h R:=by kernel_rfl
theorem f26F_ok {a0:Option Addr} {a1:Int} {h:Hp} {R:Value→Hp→Prop} (hF:f26F a0 a1 h R):CallTo Tryz.prog 26 #[.pointer a0,.int .i64 a1] h R :=
 callTo_of_ev (lv:=lv26) (hints:=[]) (c:=body26) (args:=[.pointer a0,.int .i64 a1]) mixed tab_ok Tryz.func26 (by kernel_rfl) (by kernel_rfl) (by rw [f26F_eq]; exact hF)
/- larder/larderref4.Size -/
noncomputable def body27:Code:=(Tryz.f27.body).getD .skip
def lv27 (m:Nat):List Nat:=[]
def f27F (a0:Int) (h:Hp) (R:Value→Hp→Prop):Prop :=
 CallTo Tryz.prog 35 #[.int .i64 a0] h fun r h1=>∃ t4:Int,r=.int .i64 t4∧R ((.int .i64 (IntKind.wrap .i64 ((2:Int) + t4)):Value)) h1
theorem f27F_eq (a0:Int) (h:Hp) (R:Value→Hp→Prop):evF Tryz.prog tab lv27 Tryz.f27 body27 [] [.int .i64 a0] h R=f27F a0 h R:=by kernel_rfl
theorem f27F_ok {a0:Int} {h:Hp} {R:Value→Hp→Prop} (hF:f27F a0 h R):CallTo Tryz.prog 27 #[.int .i64 a0] h R :=
 callTo_of_ev (lv:=lv27) (hints:=[]) (c:=body27) (args:=[.int .i64 a0]) mixed tab_ok Tryz.func27 (by kernel_rfl) (by kernel_rfl) (by rw [f27F_eq]; exact hF)
/- (*larder/larderref4.Heap).There -/
noncomputable def body30:Code:=(Tryz.f30.body).getD .skip
def lv30 (m:Nat):List Nat:=[]
def f30F (a0:Option Addr) (a1:Int) (h:Hp) (R:Value→Hp→Prop):Prop :=
 PtrOk a0 fun p7=>(0 ≤ a1∧a1 < ((8:Nat):Int))∧∃ t10:Int,cell h ((p7.add 2).add (a1.toNat * 1))=some (.int .i64 t10)∧R ((.bool (decide (t10 > (0:Int))):Value)) h
theorem f30F_eq (a0:Option Addr) (a1:Int) (h:Hp) (R:Value→Hp→Prop):evF Tryz.prog tab lv30 Tryz.f30 body30 [] [.pointer a0,.int .i64 a1] h R=f30F a0 a1 h R:=by kernel_rfl
theorem f30F_ok {a0:Option Addr} {a1:Int} {h:Hp} {R:Value→Hp→Prop} (hF:f30F a0 a1 h R):CallTo Tryz.prog 30 #[.pointer a0,.int .i64 a1] h R :=
 callTo_of_ev (lv:=lv30) (hints:=[]) (c:=body30) (args:=[.pointer a0,.int .i64 a1]) mixed tab_ok Tryz.func30 (by kernel_rfl) (by kernel_rfl) (by rw [f30F_eq]; exact hF)
/- (*larder/larderref4.Heap).Bytes -/
noncomputable def body31:Code:=(Tryz.f31.body).getD .skip
def lv31 (m:Nat):List Nat:=[]
def f31F (a0:Option Addr) (a1:Int) (h:Hp) (R:Value→Hp→Prop):Prop :=
 PtrOk a0 fun p7=>(0 ≤ a1∧a1 < ((8:Nat):Int))∧∃ t10:Int,cell h ((p7.add 2).add (a1.toNat * 1))=some (.int .i64 t10)∧Cond (t10 == (0:Int)) (R (.slice none 0 0:Value) h) (PtrOk a0 fun p13=>∃ t15:Sl,cell h (p13.add 1)=some (.slice t15.a t15.n t15.c)∧PtrOk a0 fun p18=>(0 ≤ a1∧a1 < ((8:Nat):Int))∧∃ t21:Int,cell h ((p18.add 2).add (a1.toNat * 1))=some (.int .i64 t21)∧(0 ≤ (IntKind.wrap .i64 (t21 - (1:Int)))∧(IntKind.wrap .i64 (t21 - (1:Int))) < ((t15.n:Nat):Int))∧PtrOk t15.a fun p23=>∃ t24:Sl,cell h (p23.add ((IntKind.wrap .i64 (t21 - (1:Int))).toNat * 1))=some (.slice t24.a t24.n t24.c)∧CallTo Tryz.prog 71 #[.slice t24.a t24.n t24.c] h fun r h1=>∃ t25:Sl,r=.slice t25.a t25.n t25.c∧R (.slice t25.a t25.n t25.c:Value) h1)
theorem f31F_eq (a0:Option Addr) (a1:Int) (h:Hp) (R:Value→Hp→Prop):evF Tryz.prog tab lv31 Tryz.f31 body31 [] [.pointer a0,.int .i64 a1] h R=f31F a0 a1 h R:=by kernel_rfl
theorem f31F_ok {a0:Option Addr} {a1:Int} {h:Hp} {R:Value→Hp→Prop} (hF:f31F a0 a1 h R):CallTo Tryz.prog 31 #[.pointer a0,.int .i64 a1] h R :=
 callTo_of_ev (lv:=lv31) (hints:=[]) (c:=body31) (args:=[.pointer a0,.int .i64 a1]) mixed tab_ok Tryz.func31 (by kernel_rfl) (by kernel_rfl) (by rw [f31F_eq]; exact hF)
/- (*larder/larderref4.Heap).New -/
noncomputable def body42:Code:=(Tryz.f42.body).getD .skip
def lv42 (m:Nat):List Nat:=if m=3 then [0,1,2,7,8] else []
def f42I1 (J:Nat→Option Addr→Int→Sl→Sl→Int→Hp→Prop) (n:Nat) (env:List Value) (h:Hp):Prop:=lenIs env 33 (DecP env 0 fun s0=>DecI .i64 env 1 fun s1=>DecL env 2 fun s2=>DecL env 7 fun s7=>DecI .i64 env 8 fun s8=>J n s0 s1 s2 s7 s8 h)
def f42L1 (J1:Nat→Option Addr→Int→Sl→Sl→Int→Hp→Prop) (n1:Nat) (s0:Option Addr) (s1:Int) (s2:Sl) (s7:Sl) (s8:Int) (g:Nat→Value) (h:Hp) (R:Value→Hp→Prop):Prop :=
 Cond (decide (s8 < (((s2.n:Nat):Int)))) ((0 ≤ s8∧s8 < ((s2.n:Nat):Int))∧PtrOk s2.a fun p18=>∃ t19:Sl,cell h (p18.add (s8.toNat * 1))=some (.slice t19.a t19.n t19.c)∧appSl 5 1 1 #[.int .u8 0] s7.a s7.n s7.c t19.a t19.n h fun ra1 rn1 rc1 h1=>∃ m,m < n1∧J1 m s0 s1 s2 ⟨ra1,rn1,rc1⟩ (IntKind.wrap .i64 (s8 + (1:Int))) h1) (Cond (decide ((((s7.n:Nat):Int)) > (4096:Int))) (R (.int .i64 41:Value) h) (CallTo Tryz.prog 27 #[.int .i64 (((s7.n:Nat):Int))] h fun r h2=>∃ t27:Int,r=.int .i64 t27∧CallTo Tryz.prog 90 #[.pointer s0,.int .i64 t27] h2 fun r h3=>∃ t28:Bool,r=.bool t28∧Cond t28 (R (.int .i64 31:Value) h3) (CallTo Tryz.prog 91 #[.pointer s0,.int .i64 s1,.slice s7.a s7.n s7.c] h3 fun r h4=>r=.tuple #[]∧R (.int .i64 0:Value) h4)))
theorem f42L1_eq (J1:Nat→Option Addr→Int→Sl→Sl→Int→Hp→Prop) (n1:Nat) (s0:Option Addr) (s1:Int) (s2:Sl) (s7:Sl) (s8:Int) (g:Nat→Value) (h:Hp) (R:Value→Hp→Prop):(evC Tryz.prog tab lv42 (sub [1,1,0,1,0,0] body42)) (loopK (f42I1 J1) n1 (contAt Tryz.prog tab lv42 [1,1,0,1,0] body42 [] (bodyK Tryz.prog Tryz.f42 [] R))) (mkEnv 33 [(0,.pointer s0),(1,.int .i64 s1),(2,.slice s2.a s2.n s2.c),(7,.slice s7.a s7.n s7.c),(8,.int .i64 s8)] g) h=f42L1 J1 n1 s0 s1 s2 s7 s8 g h R:=by kernel_rfl
theorem f42I1_at (J:Nat→Option Addr→Int→Sl→Sl→Int→Hp→Prop) (n:Nat) (s0:Option Addr) (s1:Int) (s2:Sl) (s7:Sl) (s8:Int) (g:Nat→Value) (h:Hp):f42I1 J n (mkEnv 33 [(0,.pointer s0),(1,.int .i64 s1),(2,.slice s2.a s2.n s2.c),(7,.slice s7.a s7.n s7.c),(8,.int .i64 s8)] g) h=J n s0 s1 s2 s7 s8 h:=by kernel_rfl
theorem f42L1_rule  {R:Value→Hp→Prop} {s0:Option Addr} {s1:Int} {s2:Sl} {s7:Sl} {s8:Int} {h0:Hp} (J:Nat→Option Addr→Int→Sl→Sl→Int→Hp→Prop) (n0:Nat) (hi:J n0 s0 s1 s2 s7 s8 h0)
  (hr:∀ n s0 s1 s2 s7 s8 g h,J n s0 s1 s2 s7 s8 h→f42L1  J n s0 s1 s2 s7 s8 g h R):LoopEv (evC Tryz.prog tab lv42 (sub [1,1,0,1,0,0] body42)) (contAt Tryz.prog tab lv42 [1,1,0,1,0] body42 [] (bodyK Tryz.prog Tryz.f42 [] R)) [(0,.pointer s0),(1,.int .i64 s1),(2,.slice s2.a s2.n s2.c),(7,.slice s7.a s7.n s7.c),(8,.int .i64 s8)] 33 h0:=by
 refine ⟨f42I1 J,n0,fun g=>by rw [f42I1_at]; exact hi,fun n env h hI=>?_⟩
 clear hi
 clear s0 s1 s2 s7 s8
 obtain ⟨hlen,hI⟩:=Cond_true' hI
 have hlen:env.length=33:=by simpa using hlen
 obtain ⟨s0,es0,hI⟩:=DecP.out hI
 obtain ⟨s1,es1,hI⟩:=DecI.out hI
 obtain ⟨s2,es2,hI⟩:=DecL.out hI
 obtain ⟨s7,es7,hI⟩:=DecL.out hI
 obtain ⟨s8,es8,hI⟩:=DecI.out hI
 rw [mkEnv_of (l:=[(0,.pointer s0),(1,.int .i64 s1),(2,.slice s2.a s2.n s2.c),(7,.slice s7.a s7.n s7.c),(8,.int .i64 s8)]) hlen (by simp only [List.mem_cons,List.not_mem_nil,or_false,forall_eq_or_imp,forall_eq]; exact ⟨es0,es1,es2,es7,es8⟩)]
 rw [f42L1_eq]
 exact hr n s0 s1 s2 s7 s8 _ h hI
def f42F (a0:Option Addr) (a1:Int) (a2:Sl) (h:Hp) (R:Value→Hp→Prop):Prop :=
 LoopEv (evC Tryz.prog tab lv42 (sub [1,1,0,1,0,0] body42)) (contAt Tryz.prog tab lv42 [1,1,0,1,0] body42 [] (bodyK Tryz.prog Tryz.f42 [] R)) [(0,.pointer a0),(1,.int .i64 a1),(2,.slice a2.a a2.n a2.c),(7,.slice none 0 0),(8,.int .i64 0)] 33 h
theorem f42F_eq (a0:Option Addr) (a1:Int) (a2:Sl) (h:Hp) (R:Value→Hp→Prop):evF Tryz.prog tab lv42 Tryz.f42 body42 [] [.pointer a0,.int .i64 a1,.slice a2.a a2.n a2.c] h R=f42F a0 a1 a2 h R:=by kernel_rfl
theorem f42F_ok {a0:Option Addr} {a1:Int} {a2:Sl} {h:Hp} {R:Value→Hp→Prop} (hF:f42F a0 a1 a2 h R):CallTo Tryz.prog 42 #[.pointer a0,.int .i64 a1,.slice a2.a a2.n a2.c] h R :=
 callTo_of_ev (lv:=lv42) (hints:=[]) (c:=body42) (args:=[.pointer a0,.int .i64 a1,.slice a2.a a2.n a2.c]) mixed tab_ok Tryz.func42 (by kernel_rfl) (by kernel_rfl) (by rw [f42F_eq]; exact hF)
/- (*larder/larderref4.Heap).Write -/
noncomputable def body48:Code:=(Tryz.f48.body).getD .skip
def lv48 (m:Nat):List Nat:=if m=10 then [0,1,2,3,4,12,13] else if m=13 then [0,1,2,3,4,12,13,14] else []
def f48I1 (J:Nat→Option Addr→Int→Int→Sl→Int→Sl→Sl→Hp→Prop) (n:Nat) (env:List Value) (h:Hp):Prop:=lenIs env 121 (DecP env 0 fun s0=>DecI .i64 env 1 fun s1=>DecI .i64 env 2 fun s2=>DecL env 3 fun s3=>DecI .i64 env 4 fun s4=>DecL env 12 fun s12=>DecL env 13 fun s13=>J n s0 s1 s2 s3 s4 s12 s13 h)
def f48I2 (J:Nat→Option Addr→Int→Int→Sl→Int→Sl→Sl→Int→Hp→Prop) (n:Nat) (env:List Value) (h:Hp):Prop:=lenIs env 121 (DecP env 0 fun s0=>DecI .i64 env 1 fun s1=>DecI .i64 env 2 fun s2=>DecL env 3 fun s3=>DecI .i64 env 4 fun s4=>DecL env 12 fun s12=>DecL env 13 fun s13=>DecI .i64 env 14 fun s14=>J n s0 s1 s2 s3 s4 s12 s13 s14 h)
def f48K1  (x0:Option Addr) (x1:Int) (x2:Int) (x3:Sl) (x4:Int) (x27:Bool) (h:Hp) (R:Value→Hp→Prop):Prop :=
 Cond x27 (R (.tuple #[.bool false,.int .i64 42]:Value) h) (Cond (decide ((((x3.n:Nat):Int)) > (0:Int))) (Cond (decide ((IntKind.wrap .i64 (x2 + (((x3.n:Nat):Int)))) > (4096:Int))) (R (.tuple #[.bool false,.int .i64 41]:Value) h) (PtrOk x0 fun p39=>∃ t41:Sl,cell h (p39.add 1)=some (.slice t41.a t41.n t41.c)∧PtrOk x0 fun p44=>(0 ≤ x1∧x1 < ((8:Nat):Int))∧∃ t47:Int,cell h ((p44.add 2).add (x1.toNat * 1))=some (.int .i64 t47)∧(0 ≤ (IntKind.wrap .i64 (t47 - (1:Int)))∧(IntKind.wrap .i64 (t47 - (1:Int))) < ((t41.n:Nat):Int))∧PtrOk t41.a fun p49=>∃ t50:Sl,cell h (p49.add ((IntKind.wrap .i64 (t47 - (1:Int))).toNat * 1))=some (.slice t50.a t50.n t50.c)∧CallTo Tryz.prog 71 #[.slice t50.a t50.n t50.c] h fun r h1=>∃ t52:Sl,r=.slice t52.a t52.n t52.c∧Cond (decide ((((x3.n:Nat):Int)) > (0:Int))) (LoopEv (evC Tryz.prog tab lv48 (sub [1,1,1,1,1,1,0,1,0,0,0,0] body48)) (contAt Tryz.prog tab lv48 [1,1,1,1,1,1,0,1,0,0,0] body48 [] (bodyK Tryz.prog Tryz.f48 [] R)) [(0,.pointer x0),(1,.int .i64 x1),(2,.int .i64 x2),(3,.slice x3.a x3.n x3.c),(4,.int .i64 x4),(12,.slice t50.a t50.n t50.c),(13,.slice t52.a t52.n t52.c)] 121 h1) (CallTo Tryz.prog 27 #[.int .i64 (((t52.n:Nat):Int))] h1 fun r h12=>∃ t83:Int,r=.int .i64 t83∧CallTo Tryz.prog 27 #[.int .i64 (((t50.n:Nat):Int))] h12 fun r h13=>∃ t86:Int,r=.int .i64 t86∧Cond (t83 == t86) (PtrOk x0 fun p89=>∃ t91:Sl,cell h13 (p89.add 1)=some (.slice t91.a t91.n t91.c)∧PtrOk x0 fun p94=>(0 ≤ x1∧x1 < ((8:Nat):Int))∧∃ t97:Int,cell h13 ((p94.add 2).add (x1.toNat * 1))=some (.int .i64 t97)∧(0 ≤ (IntKind.wrap .i64 (t97 - (1:Int)))∧(IntKind.wrap .i64 (t97 - (1:Int))) < ((t91.n:Nat):Int))∧PtrOk t91.a fun p100=>stOk h13 (p100.add ((IntKind.wrap .i64 (t97 - (1:Int))).toNat * 1))∧Let (setc h13 (p100.add ((IntKind.wrap .i64 (t97 - (1:Int))).toNat * 1)) (.slice t52.a t52.n t52.c)) fun h14=>PtrOk x0 fun p105=>(0 ≤ x1∧x1 < ((8:Nat):Int))∧∃ t108:Int,cell h14 ((p105.add 2).add (x1.toNat * 1))=some (.int .i64 t108)∧PtrOk x0 fun p109=>(0 ≤ x4∧x4 < ((8:Nat):Int))∧stOk h14 ((p109.add 2).add (x4.toNat * 1))∧Let (setc h14 ((p109.add 2).add (x4.toNat * 1)) (.int .i64 t108)) fun h15=>R (.tuple #[.bool false,.int .i64 0]:Value) h15) (CallTo Tryz.prog 27 #[.int .i64 (((t52.n:Nat):Int))] h13 fun r h16=>∃ t115:Int,r=.int .i64 t115∧CallTo Tryz.prog 90 #[.pointer x0,.int .i64 t115] h16 fun r h17=>∃ t116:Bool,r=.bool t116∧Cond t116 (R (.tuple #[.bool false,.int .i64 31]:Value) h17) (CallTo Tryz.prog 91 #[.pointer x0,.int .i64 x4,.slice t52.a t52.n t52.c] h17 fun r h18=>r=.tuple #[]∧R (.tuple #[.bool true,.int .i64 0]:Value) h18))))) (PtrOk x0 fun p39=>∃ t41:Sl,cell h (p39.add 1)=some (.slice t41.a t41.n t41.c)∧PtrOk x0 fun p44=>(0 ≤ x1∧x1 < ((8:Nat):Int))∧∃ t47:Int,cell h ((p44.add 2).add (x1.toNat * 1))=some (.int .i64 t47)∧(0 ≤ (IntKind.wrap .i64 (t47 - (1:Int)))∧(IntKind.wrap .i64 (t47 - (1:Int))) < ((t41.n:Nat):Int))∧PtrOk t41.a fun p49=>∃ t50:Sl,cell h (p49.add ((IntKind.wrap .i64 (t47 - (1:Int))).toNat * 1))=some (.slice t50.a t50.n t50.c)∧CallTo Tryz.prog 71 #[.slice t50.a t50.n t50.c] h fun r h19=>∃ t52:Sl,r=.slice t52.a t52.n t52.c∧Cond (decide ((((x3.n:Nat):Int)) > (0:Int))) (LoopEv (evC Tryz.prog tab lv48 (sub [1,1,1,1,1,1,0,1,0,0,0,0] body48)) (contAt Tryz.prog tab lv48 [1,1,1,1,1,1,0,1,0,0,0] body48 [] (bodyK Tryz.prog Tryz.f48 [] R)) [(0,.pointer x0),(1,.int .i64 x1),(2,.int .i64 x2),(3,.slice x3.a x3.n x3.c),(4,.int .i64 x4),(12,.slice t50.a t50.n t50.c),(13,.slice t52.a t52.n t52.c)] 121 h19) (CallTo Tryz.prog 27 #[.int .i64 (((t52.n:Nat):Int))] h19 fun r h20=>∃ t83:Int,r=.int .i64 t83∧CallTo Tryz.prog 27 #[.int .i64 (((t50.n:Nat):Int))] h20 fun r h21=>∃ t86:Int,r=.int .i64 t86∧Cond (t83 == t86) (PtrOk x0 fun p89=>∃ t91:Sl,cell h21 (p89.add 1)=some (.slice t91.a t91.n t91.c)∧PtrOk x0 fun p94=>(0 ≤ x1∧x1 < ((8:Nat):Int))∧∃ t97:Int,cell h21 ((p94.add 2).add (x1.toNat * 1))=some (.int .i64 t97)∧(0 ≤ (IntKind.wrap .i64 (t97 - (1:Int)))∧(IntKind.wrap .i64 (t97 - (1:Int))) < ((t91.n:Nat):Int))∧PtrOk t91.a fun p100=>stOk h21 (p100.add ((IntKind.wrap .i64 (t97 - (1:Int))).toNat * 1))∧Let (setc h21 (p100.add ((IntKind.wrap .i64 (t97 - (1:Int))).toNat * 1)) (.slice t52.a t52.n t52.c)) fun h22=>PtrOk x0 fun p105=>(0 ≤ x1∧x1 < ((8:Nat):Int))∧∃ t108:Int,cell h22 ((p105.add 2).add (x1.toNat * 1))=some (.int .i64 t108)∧PtrOk x0 fun p109=>(0 ≤ x4∧x4 < ((8:Nat):Int))∧stOk h22 ((p109.add 2).add (x4.toNat * 1))∧Let (setc h22 ((p109.add 2).add (x4.toNat * 1)) (.int .i64 t108)) fun h23=>R (.tuple #[.bool false,.int .i64 0]:Value) h23) (CallTo Tryz.prog 27 #[.int .i64 (((t52.n:Nat):Int))] h21 fun r h24=>∃ t115:Int,r=.int .i64 t115∧CallTo Tryz.prog 90 #[.pointer x0,.int .i64 t115] h24 fun r h25=>∃ t116:Bool,r=.bool t116∧Cond t116 (R (.tuple #[.bool false,.int .i64 31]:Value) h25) (CallTo Tryz.prog 91 #[.pointer x0,.int .i64 x4,.slice t52.a t52.n t52.c] h25 fun r h26=>r=.tuple #[]∧R (.tuple #[.bool true,.int .i64 0]:Value) h26)))))
def f48L1 (J1:Nat→Option Addr→Int→Int→Sl→Int→Sl→Sl→Hp→Prop) (n1:Nat) (s0:Option Addr) (s1:Int) (s2:Int) (s3:Sl) (s4:Int) (s12:Sl) (s13:Sl) (g:Nat→Value) (h:Hp) (R:Value→Hp→Prop):Prop :=
 Cond (decide ((((s13.n:Nat):Int)) < (IntKind.wrap .i64 (s2 + (((s3.n:Nat):Int)))))) (Let (h.push (.cells #[.int .u8 0] 5)) fun h2=>appSl 5 1 1 #[.int .u8 0] s13.a s13.n s13.c (some (nb h)) 1 h2 fun ra3 rn3 rc3 h3=>∃ m,m < n1∧J1 m s0 s1 s2 s3 s4 s12 ⟨ra3,rn3,rc3⟩ h3) (LoopEv (evC Tryz.prog tab lv48 (sub [1,1,1,1,1,1,0,1,0,1,1,0,0] body48)) (contAt Tryz.prog tab lv48 [1,1,1,1,1,1,0,1,0,1,1,0] body48 [] (bodyK Tryz.prog Tryz.f48 [] R)) [(0,.pointer s0),(1,.int .i64 s1),(2,.int .i64 s2),(3,.slice s3.a s3.n s3.c),(4,.int .i64 s4),(12,.slice s12.a s12.n s12.c),(13,.slice s13.a s13.n s13.c),(14,.int .i64 0)] 121 h)
theorem f48L1_eq (J1:Nat→Option Addr→Int→Int→Sl→Int→Sl→Sl→Hp→Prop) (n1:Nat) (s0:Option Addr) (s1:Int) (s2:Int) (s3:Sl) (s4:Int) (s12:Sl) (s13:Sl) (g:Nat→Value) (h:Hp) (R:Value→Hp→Prop):(evC Tryz.prog tab lv48 (sub [1,1,1,1,1,1,0,1,0,0,0,0] body48)) (loopK (f48I1 J1) n1 (contAt Tryz.prog tab lv48 [1,1,1,1,1,1,0,1,0,0,0] body48 [] (bodyK Tryz.prog Tryz.f48 [] R))) (mkEnv 121 [(0,.pointer s0),(1,.int .i64 s1),(2,.int .i64 s2),(3,.slice s3.a s3.n s3.c),(4,.int .i64 s4),(12,.slice s12.a s12.n s12.c),(13,.slice s13.a s13.n s13.c)] g) h=f48L1 J1 n1 s0 s1 s2 s3 s4 s12 s13 g h R:=by kernel_rfl
theorem f48I1_at (J:Nat→Option Addr→Int→Int→Sl→Int→Sl→Sl→Hp→Prop) (n:Nat) (s0:Option Addr) (s1:Int) (s2:Int) (s3:Sl) (s4:Int) (s12:Sl) (s13:Sl) (g:Nat→Value) (h:Hp):f48I1 J n (mkEnv 121 [(0,.pointer s0),(1,.int .i64 s1),(2,.int .i64 s2),(3,.slice s3.a s3.n s3.c),(4,.int .i64 s4),(12,.slice s12.a s12.n s12.c),(13,.slice s13.a s13.n s13.c)] g) h=J n s0 s1 s2 s3 s4 s12 s13 h:=by kernel_rfl
theorem f48L1_rule  {R:Value→Hp→Prop} {s0:Option Addr} {s1:Int} {s2:Int} {s3:Sl} {s4:Int} {s12:Sl} {s13:Sl} {h0:Hp} (J:Nat→Option Addr→Int→Int→Sl→Int→Sl→Sl→Hp→Prop) (n0:Nat) (hi:J n0 s0 s1 s2 s3 s4 s12 s13 h0)
  (hr:∀ n s0 s1 s2 s3 s4 s12 s13 g h,J n s0 s1 s2 s3 s4 s12 s13 h→f48L1  J n s0 s1 s2 s3 s4 s12 s13 g h R):LoopEv (evC Tryz.prog tab lv48 (sub [1,1,1,1,1,1,0,1,0,0,0,0] body48)) (contAt Tryz.prog tab lv48 [1,1,1,1,1,1,0,1,0,0,0] body48 [] (bodyK Tryz.prog Tryz.f48 [] R)) [(0,.pointer s0),(1,.int .i64 s1),(2,.int .i64 s2),(3,.slice s3.a s3.n s3.c),(4,.int .i64 s4),(12,.slice s12.a s12.n s12.c),(13,.slice s13.a s13.n s13.c)] 121 h0:=by
 refine ⟨f48I1 J,n0,fun g=>by rw [f48I1_at]; exact hi,fun n env h hI=>?_⟩
 clear hi
 clear s0 s1 s2 s3 s4 s12 s13
 obtain ⟨hlen,hI⟩:=Cond_true' hI
 have hlen:env.length=121:=by simpa using hlen
 obtain ⟨s0,es0,hI⟩:=DecP.out hI
 obtain ⟨s1,es1,hI⟩:=DecI.out hI
 obtain ⟨s2,es2,hI⟩:=DecI.out hI
 obtain ⟨s3,es3,hI⟩:=DecL.out hI
 obtain ⟨s4,es4,hI⟩:=DecI.out hI
 obtain ⟨s12,es12,hI⟩:=DecL.out hI
 obtain ⟨s13,es13,hI⟩:=DecL.out hI
 rw [mkEnv_of (l:=[(0,.pointer s0),(1,.int .i64 s1),(2,.int .i64 s2),(3,.slice s3.a s3.n s3.c),(4,.int .i64 s4),(12,.slice s12.a s12.n s12.c),(13,.slice s13.a s13.n s13.c)]) hlen (by simp only [List.mem_cons,List.not_mem_nil,or_false,forall_eq_or_imp,forall_eq]; exact ⟨es0,es1,es2,es3,es4,es12,es13⟩)]
 rw [f48L1_eq]
 exact hr n s0 s1 s2 s3 s4 s12 s13 _ h hI
def f48L2 (J2:Nat→Option Addr→Int→Int→Sl→Int→Sl→Sl→Int→Hp→Prop) (n2:Nat) (s0:Option Addr) (s1:Int) (s2:Int) (s3:Sl) (s4:Int) (s12:Sl) (s13:Sl) (s14:Int) (g:Nat→Value) (h:Hp) (R:Value→Hp→Prop):Prop :=
 Cond (decide (s14 < (((s3.n:Nat):Int)))) ((0 ≤ s14∧s14 < ((s3.n:Nat):Int))∧PtrOk s3.a fun p78=>∃ t79:Int,cell h (p78.add (s14.toNat * 1))=some (.int .u8 t79)∧(0 ≤ (IntKind.wrap .i64 (s2 + s14))∧(IntKind.wrap .i64 (s2 + s14)) < ((s13.n:Nat):Int))∧PtrOk s13.a fun p80=>stOk h (p80.add ((IntKind.wrap .i64 (s2 + s14)).toNat * 1))∧Let (setc h (p80.add ((IntKind.wrap .i64 (s2 + s14)).toNat * 1)) (.int .u8 t79)) fun h4=>∃ m,m < n2∧J2 m s0 s1 s2 s3 s4 s12 s13 (IntKind.wrap .i64 (s14 + (1:Int))) h4) (CallTo Tryz.prog 27 #[.int .i64 (((s13.n:Nat):Int))] h fun r h5=>∃ t83:Int,r=.int .i64 t83∧CallTo Tryz.prog 27 #[.int .i64 (((s12.n:Nat):Int))] h5 fun r h6=>∃ t86:Int,r=.int .i64 t86∧Cond (t83 == t86) (PtrOk s0 fun p89=>∃ t91:Sl,cell h6 (p89.add 1)=some (.slice t91.a t91.n t91.c)∧PtrOk s0 fun p94=>(0 ≤ s1∧s1 < ((8:Nat):Int))∧∃ t97:Int,cell h6 ((p94.add 2).add (s1.toNat * 1))=some (.int .i64 t97)∧(0 ≤ (IntKind.wrap .i64 (t97 - (1:Int)))∧(IntKind.wrap .i64 (t97 - (1:Int))) < ((t91.n:Nat):Int))∧PtrOk t91.a fun p100=>stOk h6 (p100.add ((IntKind.wrap .i64 (t97 - (1:Int))).toNat * 1))∧Let (setc h6 (p100.add ((IntKind.wrap .i64 (t97 - (1:Int))).toNat * 1)) (.slice s13.a s13.n s13.c)) fun h7=>PtrOk s0 fun p105=>(0 ≤ s1∧s1 < ((8:Nat):Int))∧∃ t108:Int,cell h7 ((p105.add 2).add (s1.toNat * 1))=some (.int .i64 t108)∧PtrOk s0 fun p109=>(0 ≤ s4∧s4 < ((8:Nat):Int))∧stOk h7 ((p109.add 2).add (s4.toNat * 1))∧Let (setc h7 ((p109.add 2).add (s4.toNat * 1)) (.int .i64 t108)) fun h8=>R (.tuple #[.bool false,.int .i64 0]:Value) h8) (CallTo Tryz.prog 27 #[.int .i64 (((s13.n:Nat):Int))] h6 fun r h9=>∃ t115:Int,r=.int .i64 t115∧CallTo Tryz.prog 90 #[.pointer s0,.int .i64 t115] h9 fun r h10=>∃ t116:Bool,r=.bool t116∧Cond t116 (R (.tuple #[.bool false,.int .i64 31]:Value) h10) (CallTo Tryz.prog 91 #[.pointer s0,.int .i64 s4,.slice s13.a s13.n s13.c] h10 fun r h11=>r=.tuple #[]∧R (.tuple #[.bool true,.int .i64 0]:Value) h11)))
theorem f48L2_eq (J2:Nat→Option Addr→Int→Int→Sl→Int→Sl→Sl→Int→Hp→Prop) (n2:Nat) (s0:Option Addr) (s1:Int) (s2:Int) (s3:Sl) (s4:Int) (s12:Sl) (s13:Sl) (s14:Int) (g:Nat→Value) (h:Hp) (R:Value→Hp→Prop):(evC Tryz.prog tab lv48 (sub [1,1,1,1,1,1,0,1,0,1,1,0,0] body48)) (loopK (f48I2 J2) n2 (contAt Tryz.prog tab lv48 [1,1,1,1,1,1,0,1,0,1,1,0] body48 [] (bodyK Tryz.prog Tryz.f48 [] R))) (mkEnv 121 [(0,.pointer s0),(1,.int .i64 s1),(2,.int .i64 s2),(3,.slice s3.a s3.n s3.c),(4,.int .i64 s4),(12,.slice s12.a s12.n s12.c),(13,.slice s13.a s13.n s13.c),(14,.int .i64 s14)] g) h=f48L2 J2 n2 s0 s1 s2 s3 s4 s12 s13 s14 g h R:=by kernel_rfl
theorem f48I2_at (J:Nat→Option Addr→Int→Int→Sl→Int→Sl→Sl→Int→Hp→Prop) (n:Nat) (s0:Option Addr) (s1:Int) (s2:Int) (s3:Sl) (s4:Int) (s12:Sl) (s13:Sl) (s14:Int) (g:Nat→Value) (h:Hp):f48I2 J n (mkEnv 121 [(0,.pointer s0),(1,.int .i64 s1),(2,.int .i64 s2),(3,.slice s3.a s3.n s3.c),(4,.int .i64 s4),(12,.slice s12.a s12.n s12.c),(13,.slice s13.a s13.n s13.c),(14,.int .i64 s14)] g) h=J n s0 s1 s2 s3 s4 s12 s13 s14 h:=by kernel_rfl
theorem f48L2_rule  {R:Value→Hp→Prop} {s0:Option Addr} {s1:Int} {s2:Int} {s3:Sl} {s4:Int} {s12:Sl} {s13:Sl} {s14:Int} {h0:Hp} (J:Nat→Option Addr→Int→Int→Sl→Int→Sl→Sl→Int→Hp→Prop) (n0:Nat) (hi:J n0 s0 s1 s2 s3 s4 s12 s13 s14 h0)
  (hr:∀ n s0 s1 s2 s3 s4 s12 s13 s14 g h,J n s0 s1 s2 s3 s4 s12 s13 s14 h→f48L2  J n s0 s1 s2 s3 s4 s12 s13 s14 g h R):LoopEv (evC Tryz.prog tab lv48 (sub [1,1,1,1,1,1,0,1,0,1,1,0,0] body48)) (contAt Tryz.prog tab lv48 [1,1,1,1,1,1,0,1,0,1,1,0] body48 [] (bodyK Tryz.prog Tryz.f48 [] R)) [(0,.pointer s0),(1,.int .i64 s1),(2,.int .i64 s2),(3,.slice s3.a s3.n s3.c),(4,.int .i64 s4),(12,.slice s12.a s12.n s12.c),(13,.slice s13.a s13.n s13.c),(14,.int .i64 s14)] 121 h0:=by
 refine ⟨f48I2 J,n0,fun g=>by rw [f48I2_at]; exact hi,fun n env h hI=>?_⟩
 clear hi
 clear s0 s1 s2 s3 s4 s12 s13 s14
 obtain ⟨hlen,hI⟩:=Cond_true' hI
 have hlen:env.length=121:=by simpa using hlen
 obtain ⟨s0,es0,hI⟩:=DecP.out hI
 obtain ⟨s1,es1,hI⟩:=DecI.out hI
 obtain ⟨s2,es2,hI⟩:=DecI.out hI
 obtain ⟨s3,es3,hI⟩:=DecL.out hI
 obtain ⟨s4,es4,hI⟩:=DecI.out hI
 obtain ⟨s12,es12,hI⟩:=DecL.out hI
 obtain ⟨s13,es13,hI⟩:=DecL.out hI
 obtain ⟨s14,es14,hI⟩:=DecI.out hI
 rw [mkEnv_of (l:=[(0,.pointer s0),(1,.int .i64 s1),(2,.int .i64 s2),(3,.slice s3.a s3.n s3.c),(4,.int .i64 s4),(12,.slice s12.a s12.n s12.c),(13,.slice s13.a s13.n s13.c),(14,.int .i64 s14)]) hlen (by simp only [List.mem_cons,List.not_mem_nil,or_false,forall_eq_or_imp,forall_eq]; exact ⟨es0,es1,es2,es3,es4,es12,es13,es14⟩)]
 rw [f48L2_eq]
 exact hr n s0 s1 s2 s3 s4 s12 s13 s14 _ h hI
def f48F (a0:Option Addr) (a1:Int) (a2:Int) (a3:Sl) (a4:Int) (h:Hp) (R:Value→Hp→Prop):Prop :=
 PtrOk a0 fun p17=>(0 ≤ a1∧a1 < ((8:Nat):Int))∧∃ t20:Int,cell h ((p17.add 2).add (a1.toNat * 1))=some (.int .i64 t20)∧Cond (t20 == (0:Int)) (R (.tuple #[.bool false,.int .i64 40]:Value) h) (Cond (decide (a2 < (0:Int))) (f48K1  a0 a1 a2 a3 a4 true h R) (f48K1  a0 a1 a2 a3 a4 (decide (a2 > (4096:Int))) h R))
theorem f48F_eq (a0:Option Addr) (a1:Int) (a2:Int) (a3:Sl) (a4:Int) (h:Hp) (R:Value→Hp→Prop):evF Tryz.prog tab lv48 Tryz.f48 body48 [] [.pointer a0,.int .i64 a1,.int .i64 a2,.slice a3.a a3.n a3.c,.int .i64 a4] h R=f48F a0 a1 a2 a3 a4 h R:=by kernel_rfl
theorem f48F_ok {a0:Option Addr} {a1:Int} {a2:Int} {a3:Sl} {a4:Int} {h:Hp} {R:Value→Hp→Prop} (hF:f48F a0 a1 a2 a3 a4 h R):CallTo Tryz.prog 48 #[.pointer a0,.int .i64 a1,.int .i64 a2,.slice a3.a a3.n a3.c,.int .i64 a4] h R :=
 callTo_of_ev (lv:=lv48) (hints:=[]) (c:=body48) (args:=[.pointer a0,.int .i64 a1,.int .i64 a2,.slice a3.a a3.n a3.c,.int .i64 a4]) mixed tab_ok Tryz.func48 (by kernel_rfl) (by kernel_rfl) (by rw [f48F_eq]; exact hF)
/- larder/larderref4.Slice -/
noncomputable def body56:Code:=(Tryz.f56.body).getD .skip
def lv56 (m:Nat):List Nat:=[]
def f56K1  (x0:Sl) (x1:Int) (x2:Int) (x27:Bool) (h:Hp) (R:Value→Hp→Prop):Prop :=
 Cond x27 (R (.tuple #[.slice none 0 0,.int .i64 42]:Value) h) ((0 ≤ (IntKind.wrap .i64 (x1 + x2))∧(IntKind.wrap .i64 (x1 + x2)) ≤ ((x0.c:Nat):Int))∧(0 ≤ x1∧x1 ≤ (IntKind.wrap .i64 (x1 + x2)))∧CallTo Tryz.prog 71 #[.slice (if x0.c=x1.toNat then x0.a else Option.map (fun x=>x.add (x1.toNat * 1)) x0.a) ((IntKind.wrap .i64 (x1 + x2)).toNat - x1.toNat) (x0.c - x1.toNat)] h fun r h1=>∃ t34:Sl,r=.slice t34.a t34.n t34.c∧R (.tuple #[.slice t34.a t34.n t34.c,.int .i64 0]:Value) h1)
def f56F (a0:Sl) (a1:Int) (a2:Int) (h:Hp) (R:Value→Hp→Prop):Prop :=
 Cond (decide (a1 < (0:Int))) (f56K1  a0 a1 a2 true h R) (Cond (decide (a2 < (0:Int))) (f56K1  a0 a1 a2 true h R) (Cond (decide (a1 > (((a0.n:Nat):Int)))) (f56K1  a0 a1 a2 true h R) (f56K1  a0 a1 a2 (decide (a2 > (IntKind.wrap .i64 ((((a0.n:Nat):Int)) - a1)))) h R)))
theorem f56F_eq (a0:Sl) (a1:Int) (a2:Int) (h:Hp) (R:Value→Hp→Prop):evF Tryz.prog tab lv56 Tryz.f56 body56 [] [.slice a0.a a0.n a0.c,.int .i64 a1,.int .i64 a2] h R=f56F a0 a1 a2 h R:=by kernel_rfl
theorem f56F_ok {a0:Sl} {a1:Int} {a2:Int} {h:Hp} {R:Value→Hp→Prop} (hF:f56F a0 a1 a2 h R):CallTo Tryz.prog 56 #[.slice a0.a a0.n a0.c,.int .i64 a1,.int .i64 a2] h R :=
 callTo_of_ev (lv:=lv56) (hints:=[]) (c:=body56) (args:=[.slice a0.a a0.n a0.c,.int .i64 a1,.int .i64 a2]) mixed tab_ok Tryz.func56 (by kernel_rfl) (by kernel_rfl) (by rw [f56F_eq]; exact hF)
/- larder/larderref4.Count -/
noncomputable def body62:Code:=(Tryz.f62.body).getD .skip
def lv62 (m:Nat):List Nat:=if m=6 then [8,10,11] else if m=9 then [8,10,11,12] else []
def f62I1 (J:Nat→Sl→Int→Int→Hp→Prop) (n:Nat) (env:List Value) (h:Hp):Prop:=lenIs env 43 (DecL env 8 fun s8=>DecI .i64 env 10 fun s10=>DecI .i64 env 11 fun s11=>J n s8 s10 s11 h)
def f62I2 (J:Nat→Sl→Int→Int→Int→Hp→Prop) (n:Nat) (env:List Value) (h:Hp):Prop:=lenIs env 43 (DecL env 8 fun s8=>DecI .i64 env 10 fun s10=>DecI .i64 env 11 fun s11=>DecI .u8 env 12 fun s12=>J n s8 s10 s11 s12 h)
def f62L1 (J1:Nat→Sl→Int→Int→Hp→Prop) (n1:Nat) (s8:Sl) (s10:Int) (s11:Int) (g:Nat→Value) (h:Hp) (R:Value→Hp→Prop):Prop :=
 Cond (decide (s11 < (((s8.n:Nat):Int)))) ((0 ≤ s11∧s11 < ((s8.n:Nat):Int))∧PtrOk s8.a fun p31=>∃ t32:Int,cell h (p31.add (s11.toNat * 1))=some (.int .u8 t32)∧LoopEv (evC Tryz.prog tab lv62 (sub [1,1,1,1,0,1,0,0,1,0,0,1,0,0] body62)) (contAt Tryz.prog tab lv62 [1,1,1,1,0,1,0,0,1,0,0,1,0] body62 [loopK (f62I1 J1) n1] (bodyK Tryz.prog Tryz.f62 [] R)) [(8,.slice s8.a s8.n s8.c),(10,.int .i64 s10),(11,.int .i64 s11),(12,.int .u8 t32)] 43 h) (R (.tuple #[.int .i64 s10,.int .i64 0]:Value) h)
theorem f62L1_eq (J1:Nat→Sl→Int→Int→Hp→Prop) (n1:Nat) (s8:Sl) (s10:Int) (s11:Int) (g:Nat→Value) (h:Hp) (R:Value→Hp→Prop):(evC Tryz.prog tab lv62 (sub [1,1,1,1,0,1,0,0] body62)) (loopK (f62I1 J1) n1 (contAt Tryz.prog tab lv62 [1,1,1,1,0,1,0] body62 [] (bodyK Tryz.prog Tryz.f62 [] R))) (mkEnv 43 [(8,.slice s8.a s8.n s8.c),(10,.int .i64 s10),(11,.int .i64 s11)] g) h=f62L1 J1 n1 s8 s10 s11 g h R:=by kernel_rfl
theorem f62I1_at (J:Nat→Sl→Int→Int→Hp→Prop) (n:Nat) (s8:Sl) (s10:Int) (s11:Int) (g:Nat→Value) (h:Hp):f62I1 J n (mkEnv 43 [(8,.slice s8.a s8.n s8.c),(10,.int .i64 s10),(11,.int .i64 s11)] g) h=J n s8 s10 s11 h:=by kernel_rfl
theorem f62L1_rule  {R:Value→Hp→Prop} {s8:Sl} {s10:Int} {s11:Int} {h0:Hp} (J:Nat→Sl→Int→Int→Hp→Prop) (n0:Nat) (hi:J n0 s8 s10 s11 h0)
  (hr:∀ n s8 s10 s11 g h,J n s8 s10 s11 h→f62L1  J n s8 s10 s11 g h R):LoopEv (evC Tryz.prog tab lv62 (sub [1,1,1,1,0,1,0,0] body62)) (contAt Tryz.prog tab lv62 [1,1,1,1,0,1,0] body62 [] (bodyK Tryz.prog Tryz.f62 [] R)) [(8,.slice s8.a s8.n s8.c),(10,.int .i64 s10),(11,.int .i64 s11)] 43 h0:=by
 refine ⟨f62I1 J,n0,fun g=>by rw [f62I1_at]; exact hi,fun n env h hI=>?_⟩
 clear hi
 clear s8 s10 s11
 obtain ⟨hlen,hI⟩:=Cond_true' hI
 have hlen:env.length=43:=by simpa using hlen
 obtain ⟨s8,es8,hI⟩:=DecL.out hI
 obtain ⟨s10,es10,hI⟩:=DecI.out hI
 obtain ⟨s11,es11,hI⟩:=DecI.out hI
 rw [mkEnv_of (l:=[(8,.slice s8.a s8.n s8.c),(10,.int .i64 s10),(11,.int .i64 s11)]) hlen (by simp only [List.mem_cons,List.not_mem_nil,or_false,forall_eq_or_imp,forall_eq]; exact ⟨es8,es10,es11⟩)]
 rw [f62L1_eq]
 exact hr n s8 s10 s11 _ h hI
def f62L2 (J1:Nat→Sl→Int→Int→Hp→Prop) (n1:Nat) (J2:Nat→Sl→Int→Int→Int→Hp→Prop) (n2:Nat) (s8:Sl) (s10:Int) (s11:Int) (s12:Int) (g:Nat→Value) (h:Hp) (R:Value→Hp→Prop):Prop :=
 Cond (decide (s12 > (0:Int))) ((2:Int) ≠ 0∧(2:Int) ≠ 0∧∃ m,m < n2∧J2 m s8 (IntKind.wrap .i64 (s10 + (IntKind.wrap .i64 (Int.tmod s12 (2:Int))))) s11 (IntKind.wrap .u8 (Int.tdiv s12 (2:Int))) h) (∃ m,m < n1∧J1 m s8 s10 (IntKind.wrap .i64 (s11 + (1:Int))) h)
theorem f62L2_eq (J1:Nat→Sl→Int→Int→Hp→Prop) (n1:Nat) (J2:Nat→Sl→Int→Int→Int→Hp→Prop) (n2:Nat) (s8:Sl) (s10:Int) (s11:Int) (s12:Int) (g:Nat→Value) (h:Hp) (R:Value→Hp→Prop):(evC Tryz.prog tab lv62 (sub [1,1,1,1,0,1,0,0,1,0,0,1,0,0] body62)) (loopK (f62I2 J2) n2 (contAt Tryz.prog tab lv62 [1,1,1,1,0,1,0,0,1,0,0,1,0] body62 [loopK (f62I1 J1) n1] (bodyK Tryz.prog Tryz.f62 [] R))) (mkEnv 43 [(8,.slice s8.a s8.n s8.c),(10,.int .i64 s10),(11,.int .i64 s11),(12,.int .u8 s12)] g) h=f62L2 J1 n1 J2 n2 s8 s10 s11 s12 g h R:=by kernel_rfl
theorem f62I2_at (J:Nat→Sl→Int→Int→Int→Hp→Prop) (n:Nat) (s8:Sl) (s10:Int) (s11:Int) (s12:Int) (g:Nat→Value) (h:Hp):f62I2 J n (mkEnv 43 [(8,.slice s8.a s8.n s8.c),(10,.int .i64 s10),(11,.int .i64 s11),(12,.int .u8 s12)] g) h=J n s8 s10 s11 s12 h:=by kernel_rfl
theorem f62L2_rule {J1:Nat→Sl→Int→Int→Hp→Prop} {n1:Nat} {R:Value→Hp→Prop} {s8:Sl} {s10:Int} {s11:Int} {s12:Int} {h0:Hp} (J:Nat→Sl→Int→Int→Int→Hp→Prop) (n0:Nat) (hi:J n0 s8 s10 s11 s12 h0)
  (hr:∀ n s8 s10 s11 s12 g h,J n s8 s10 s11 s12 h→f62L2 J1 n1 J n s8 s10 s11 s12 g h R):LoopEv (evC Tryz.prog tab lv62 (sub [1,1,1,1,0,1,0,0,1,0,0,1,0,0] body62)) (contAt Tryz.prog tab lv62 [1,1,1,1,0,1,0,0,1,0,0,1,0] body62 [loopK (f62I1 J1) n1] (bodyK Tryz.prog Tryz.f62 [] R)) [(8,.slice s8.a s8.n s8.c),(10,.int .i64 s10),(11,.int .i64 s11),(12,.int .u8 s12)] 43 h0:=by
 refine ⟨f62I2 J,n0,fun g=>by rw [f62I2_at]; exact hi,fun n env h hI=>?_⟩
 clear hi
 clear s8 s10 s11 s12
 obtain ⟨hlen,hI⟩:=Cond_true' hI
 have hlen:env.length=43:=by simpa using hlen
 obtain ⟨s8,es8,hI⟩:=DecL.out hI
 obtain ⟨s10,es10,hI⟩:=DecI.out hI
 obtain ⟨s11,es11,hI⟩:=DecI.out hI
 obtain ⟨s12,es12,hI⟩:=DecI.out hI
 rw [mkEnv_of (l:=[(8,.slice s8.a s8.n s8.c),(10,.int .i64 s10),(11,.int .i64 s11),(12,.int .u8 s12)]) hlen (by simp only [List.mem_cons,List.not_mem_nil,or_false,forall_eq_or_imp,forall_eq]; exact ⟨es8,es10,es11,es12⟩)]
 rw [f62L2_eq]
 exact hr n s8 s10 s11 s12 _ h hI
def f62F (a0:Sl) (a1:Int) (a2:Int) (h:Hp) (R:Value→Hp→Prop):Prop :=
 CallTo Tryz.prog 56 #[.slice a0.a a0.n a0.c,.int .i64 a1,.int .i64 a2] h fun r h1=>∃ t17_0:Sl,∃ t17_1:Int,r=.tuple #[.slice t17_0.a t17_0.n t17_0.c,.int .i64 t17_1]∧Cond (t17_1 != (0:Int)) (R (.tuple #[.int .i64 0,.int .i64 t17_1]:Value) h1) (LoopEv (evC Tryz.prog tab lv62 (sub [1,1,1,1,0,1,0,0] body62)) (contAt Tryz.prog tab lv62 [1,1,1,1,0,1,0] body62 [] (bodyK Tryz.prog Tryz.f62 [] R)) [(8,.slice t17_0.a t17_0.n t17_0.c),(10,.int .i64 0),(11,.int .i64 0)] 43 h1)
theorem f62F_eq (a0:Sl) (a1:Int) (a2:Int) (h:Hp) (R:Value→Hp→Prop):evF Tryz.prog tab lv62 Tryz.f62 body62 [] [.slice a0.a a0.n a0.c,.int .i64 a1,.int .i64 a2] h R=f62F a0 a1 a2 h R:=by kernel_rfl
theorem f62F_ok {a0:Sl} {a1:Int} {a2:Int} {h:Hp} {R:Value→Hp→Prop} (hF:f62F a0 a1 a2 h R):CallTo Tryz.prog 62 #[.slice a0.a a0.n a0.c,.int .i64 a1,.int .i64 a2] h R :=
 callTo_of_ev (lv:=lv62) (hints:=[]) (c:=body62) (args:=[.slice a0.a a0.n a0.c,.int .i64 a1,.int .i64 a2]) mixed tab_ok Tryz.func62 (by kernel_rfl) (by kernel_rfl) (by rw [f62F_eq]; exact hF)
/- (*larder/larderref4.Heap).Full -/
noncomputable def body90:Code:=(Tryz.f90.body).getD .skip
def lv90 (m:Nat):List Nat:=[]
def f90K1  (x0:Option Addr) (x1:Int) (x6:Int) (x7:Int) (h:Hp) (R:Value→Hp→Prop):Prop :=
 PtrOk x0 fun p38=>∃ t40:Int,cell h p38=some (.int .i64 t40)∧R ((.bool (decide ((IntKind.wrap .i64 ((IntKind.wrap .i64 ((IntKind.wrap .i64 (x6 + x1)) + (1:Int))) + (IntKind.wrap .i64 ((2:Int) * x7)))) > t40)):Value)) h
def f90F (a0:Option Addr) (a1:Int) (h:Hp) (R:Value→Hp→Prop):Prop :=
 CallTo Tryz.prog 10 #[.pointer a0] h fun r h1=>∃ t10_0:Int,∃ t10_1:Int,r=.tuple #[.int .i64 t10_0,.int .i64 t10_1]∧Cond (decide (a1 ≤ (64:Int))) (PtrOk a0 fun p19=>∃ t21:Int,cell h1 p19=some (.int .i64 t21)∧(2:Int) ≠ 0∧R ((.bool (decide ((IntKind.wrap .i64 (t10_0 + a1)) > (IntKind.wrap .i64 (Int.tdiv (IntKind.wrap .i64 (t21 - t10_1)) (2:Int))))):Value)) h1) (Cond (decide (t10_0 > (64:Int))) (f90K1  a0 a1 t10_1 t10_0 h1 R) (f90K1  a0 a1 t10_1 (64:Int) h1 R))
theorem f90F_eq (a0:Option Addr) (a1:Int) (h:Hp) (R:Value→Hp→Prop):evF Tryz.prog tab lv90 Tryz.f90 body90 [] [.pointer a0,.int .i64 a1] h R=f90F a0 a1 h R:=by kernel_rfl
theorem f90F_ok {a0:Option Addr} {a1:Int} {h:Hp} {R:Value→Hp→Prop} (hF:f90F a0 a1 h R):CallTo Tryz.prog 90 #[.pointer a0,.int .i64 a1] h R :=
 callTo_of_ev (lv:=lv90) (hints:=[]) (c:=body90) (args:=[.pointer a0,.int .i64 a1]) mixed tab_ok Tryz.func90 (by kernel_rfl) (by kernel_rfl) (by rw [f90F_eq]; exact hF)
/- (*larder/larderref4.Heap).hold -/
noncomputable def body91:Code:=(Tryz.f91.body).getD .skip
def lv91 (m:Nat):List Nat:=[]
def f91F (a0:Option Addr) (a1:Int) (a2:Sl) (h:Hp) (R:Value→Hp→Prop):Prop :=
 PtrOk a0 fun p8=>∃ t10:Sl,cell h (p8.add 1)=some (.slice t10.a t10.n t10.c)∧CallTo Tryz.prog 71 #[.slice a2.a a2.n a2.c] h fun r h1=>∃ t12:Sl,r=.slice t12.a t12.n t12.c∧(∃ y0:Sl,cell h1 (p8.add 1)=some (.slice y0.a y0.n y0.c)∧Next.value (.slice y0.a y0.n y0.c)=Next.value (.slice t10.a t10.n t10.c))∧Let (h1.push (.cells #[.slice t12.a t12.n t12.c] 33)) fun h2=>(∃ y0:Sl,cell h2 (p8.add 1)=some (.slice y0.a y0.n y0.c)∧Next.value (.slice y0.a y0.n y0.c)=Next.value (.slice t10.a t10.n t10.c))∧appSl 33 1 24 #[.slice none 0 0] t10.a t10.n t10.c (some (nb h1)) 1 h2 fun ra3 rn3 rc3 h3=>PtrOk a0 fun p15=>stOk h3 (p15.add 1)∧Let (setc h3 (p15.add 1) (.slice ra3 rn3 rc3)) fun h4=>PtrOk a0 fun p20=>∃ t22:Sl,cell h4 (p20.add 1)=some (.slice t22.a t22.n t22.c)∧PtrOk a0 fun p24=>(0 ≤ a1∧a1 < ((8:Nat):Int))∧stOk h4 ((p24.add 2).add (a1.toNat * 1))∧Let (setc h4 ((p24.add 2).add (a1.toNat * 1)) (.int .i64 (((t22.n:Nat):Int)))) fun h5=>R (.tuple #[]:Value) h5
theorem f91F_eq (a0:Option Addr) (a1:Int) (a2:Sl) (h:Hp) (R:Value→Hp→Prop):evF Tryz.prog tab lv91 Tryz.f91 body91 [] [.pointer a0,.int .i64 a1,.slice a2.a a2.n a2.c] h R=f91F a0 a1 a2 h R:=by kernel_rfl
theorem f91F_ok {a0:Option Addr} {a1:Int} {a2:Sl} {h:Hp} {R:Value→Hp→Prop} (hF:f91F a0 a1 a2 h R):CallTo Tryz.prog 91 #[.pointer a0,.int .i64 a1,.slice a2.a a2.n a2.c] h R :=
 callTo_of_ev (lv:=lv91) (hints:=[]) (c:=body91) (args:=[.pointer a0,.int .i64 a1,.slice a2.a a2.n a2.c]) mixed tab_ok Tryz.func91 (by kernel_rfl) (by kernel_rfl) (by rw [f91F_eq]; exact hF)
end Go.Ev
set_option linter.all false
set_option maxRecDepth 100000
namespace Go.Ev
open Go.Proofs
def strC0:ByteArray:=⟨#[0,1,1,2,1,2,2,3,1,2,2,3,2,3,3,4,1,2,2,3,2,3,3,4,2,3,3,4,3,4,4,5,1,2,2,3,2,3,3,4,2,3,3,4,3,4,4,5,2,3,3,4,3,4,4,5,3,4,4,5,4,5,5,6,1,2,2,3,2,3,3,4,2,3,3,4,3,4,4,5,2,3,3,4,3,4,4,5,3,4,4,5,4,5,5,6,2,3,3,4,3,4,4,5,3,4,4,5,4,5,5,6,3,4,4,5,4,5,5,6,4,5,5,6,5,6,6,7,1,2,2,3,2,3,3,4,2,3,3,4,3,4,4,5,2,3,3,4,3,4,4,5,3,4,4,5,4,5,5,6,2,3,3,4,3,4,4,5,3,4,4,5,4,5,5,6,3,4,4,5,4,5,5,6,4,5,5,6,5,6,6,7,2,3,3,4,3,4,4,5,3,4,4,5,4,5,5,6,3,4,4,5,4,5,5,6,4,5,5,6,5,6,6,7,3,4,4,5,4,5,5,6,4,5,5,6,5,6,6,7,4,5,5,6,5,6,6,7,5,6,6,7,6,7,7,8]⟩
/- bytes.Compare -/
noncomputable def body99:Code:=(Tryz.f99.body).getD .skip
def lv99 (m:Nat):List Nat:=[]
def f99F (a0:Sl) (a1:Sl) (h:Hp) (R:Value→Hp→Prop):Prop :=
 ∃ t7:Int,ExtTo Tryz.prog 115 #[.slice a0.a a0.n a0.c,.slice a1.a a1.n a1.c] h (.int .i64 t7)∧R (.int .i64 t7:Value) h
theorem f99F_eq (a0:Sl) (a1:Sl) (h:Hp) (R:Value→Hp→Prop):evF Tryz.prog tab lv99 Tryz.f99 body99 [] [.slice a0.a a0.n a0.c,.slice a1.a a1.n a1.c] h R=f99F a0 a1 h R:=by kernel_rfl
theorem f99F_ok {a0:Sl} {a1:Sl} {h:Hp} {R:Value→Hp→Prop} (hF:f99F a0 a1 h R):CallTo Tryz.prog 99 #[.slice a0.a a0.n a0.c,.slice a1.a a1.n a1.c] h R :=
 callTo_of_ev (lv:=lv99) (hints:=[]) (c:=body99) (args:=[.slice a0.a a0.n a0.c,.slice a1.a a1.n a1.c]) mixed tab_ok Tryz.func99 (by kernel_rfl) (by kernel_rfl) (by rw [f99F_eq]; exact hF)
/- math/bits.OnesCount8 -/
noncomputable def body100:Code:=(Tryz.f100.body).getD .skip
def lv100 (m:Nat):List Nat:=[]
def f100F (a0:Int) (h:Hp) (R:Value→Hp→Prop):Prop :=
 (0 ≤ a0∧a0 < ((strC0.size:Nat):Int))∧R ((.int .i64 (IntKind.wrap .i64 ((strC0[a0.toNat]?.getD 0).toNat)):Value)) h
theorem f100F_eq (a0:Int) (h:Hp) (R:Value→Hp→Prop):evF Tryz.prog tab lv100 Tryz.f100 body100 [] [.int .u8 a0] h R=f100F a0 h R:=by kernel_rfl
theorem f100F_ok {a0:Int} {h:Hp} {R:Value→Hp→Prop} (hF:f100F a0 h R):CallTo Tryz.prog 100 #[.int .u8 a0] h R :=
 callTo_of_ev (lv:=lv100) (hints:=[]) (c:=body100) (args:=[.int .u8 a0]) mixed tab_ok Tryz.func100 (by kernel_rfl) (by kernel_rfl) (by rw [f100F_eq]; exact hF)
end Go.Ev
