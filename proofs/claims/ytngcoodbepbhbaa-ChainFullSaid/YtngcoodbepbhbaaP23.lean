/- ChainFull: the law's own call. No condition but that these are ones. -/
import Derived.Test.YtngcoodbepbhbaaP22
set_option linter.all false
set_option maxRecDepth 1000000
namespace Go.Ev
open Go.Proofs
section
variable {h h' h2 h0 h1:Hp} {q q' q2:HQ} {s s' s2:RS} {nd nd' nd2:List NodeD} {n:NodeD} {id lb hn:Nat} {L L' L2:LD} {R:Value→Hp→Prop} {b:List Nat} {ids:List Nat} {lim:Nat} {a:Sl} {sls:List Sl} {rows w:List (List Nat)} {M:Mem} {cs:List Nat} {r:List Nat} {c:Nat}
theorem Solo.write (x:Solo h q s nd lb L lim) {tb:Nat} (k:Kept (fun b=>b=tb) h h') (ho:q.role tb=.out) (hne:lb ≠ tb):Solo h' q s nd lb L lim :=
 ⟨⟨x.o.g.keepO k fun b e=>e ▸ ho,⟨kept_row k x.o.l.row hne,x.o.l.out⟩,x.o.pos,x.o.lt,x.o.held,x.o.c⟩,x.rt,x.rl,x.lim⟩
theorem Solo.rootsN (x:Solo h q s nd lb L lim):s.rootsN=1:=by
 have rt:=x.rt
 unfold RS.rootsN
 generalize s.roots=l at rt
 cases l with
 | nil=>have:=rt 0; simp at this
 | cons y l =>
  have h0:=rt 0
  have h0:y=some L.hd:=by simpa using h0
  have:l.filter Option.isSome=[]:=by
   rw [List.filter_eq_nil_iff]
   intro z hz
   obtain ⟨j,hj⟩:=List.mem_iff_getElem?.1 hz
   have:=rt (j + 1)
   rw [List.getD_eq_getElem?_getD,List.getElem?_cons_succ,hj,if_neg (by omega)] at this
   have this:z=none:=this
   rw [this]; simp
  rw [h0,List.filter_cons_of_pos rfl,this]; rfl
theorem rowS_rep (k:Nat) (b:List Nat):rowS (List.replicate k b)=k * cntS (2 + wordsN b.length)∧rowB (List.replicate k b)=k * cntB (2 + wordsN b.length):=by
 unfold rowS rowB
 rw [List.map_replicate,List.map_replicate,List.sum_replicate_nat,List.sum_replicate_nat]
 exact ⟨rfl,rfl⟩
/-- There is room for one more behind so many. -/
def fits (lim z k:Nat):Prop:=room2 lim (5 + 4 * k + k * cntS z) (k * cntB z) z
theorem fits_lt {lim z k:Nat} (hl:lim ≤ 600) (h:fits lim z k):k < 80:=by
 unfold fits room2 roomK at h
 have h2:=h.2
 rw [if_pos (by omega)] at h2
 omega
theorem fits_first {lim z:Nat} (hl:lim ≤ 600):∃ k,(∀ j,j < k→fits lim z j)∧¬ fits lim z k:=by
 apply Classical.byContradiction
 intro hno
 have all:∀ k,fits lim z k:=fun k=>by
  induction k using Nat.strongRecOn with
  | _ k ih=>exact Classical.byContradiction fun hk=>hno ⟨k,ih,hk⟩
 have:=fits_lt hl (all 80)
 omega
theorem Solo.fits (x:Solo h q s nd lb L lim) {k:Nat} (hr:L.rows=List.replicate k b):(∀ ids,Lv nd s.roots ids→room2 s.limit (1 + RS.liveS nd ids) (RS.liveB nd ids) (2 + wordsN b.length)) ↔ fits lim (2 + wordsN b.length) k:=by
 rw [x.room,hr,List.length_replicate,(rowS_rep k b).1,(rowS_rep k b).2]
 exact Iff.rfl
theorem full_ok {a0 a3:Sl} {i m:Int} {fr:Bool} (y:RL0 h a0 sls rows) (z:Bt h a3 b) (hi:-9223372036854775808 ≤ i∧i < 9223372036854775808) (hm:-9223372036854775808 ≤ m∧m < 9223372036854775808) (hR:∀ h',Kept N h h'→R (.bool true) h') :
  CallTo Try.prog 3 #[.agg #[.slice a0.a a0.n a0.c,.int .i64 i,.int .i64 m,.slice a3.a a3.n a3.c,.bool fr]] h R:=by
 refine f3F_ok ?_
 unfold f3F
 refine Let_mk fun h1 e1=>?_
 have k1:Kept N h h1:=e1 ▸ kept_push _ _ _
 have row1:Row h1 h.size [.slice a0.a a0.n a0.c,.int .i64 i,.int .i64 m,.slice a3.a a3.n a3.c,.bool fr]:=e1 ▸ row_new h #[.slice a0.a a0.n a0.c,.int .i64 i,.int .i64 m,.slice a3.a a3.n a3.c,.bool fr] _
 have enb:nb h=ad h.size:=rfl
 rw [enb]
 have z1:=z.keepN k1
 have cl1:∀ {g:Hp},Kept N h1 g→∀ (k:Nat) (v:Value),[Value.slice a0.a a0.n a0.c,.int .i64 i,.int .i64 m,.slice a3.a a3.n a3.c,.bool fr][k]?=some v→cell g ((ad h.size).add k)=some v:=fun {g} kk k v hv=>by
  rw [add_ad]; exact (cell_row (kept_row kk row1 _root_.id) k).trans hv
 refine ⟨m,cl1 (Kept.refl _ _) 2 _ rfl,lwithin (m:=400) (by omega) (by omega) hm ⟨_,rfl,?_⟩⟩
 have m1:=Int.emod_nonneg m (b:=((400:Nat):Int)) (by omega)
 have m2:=Int.emod_lt_of_pos m (b:=((400:Nat):Int)) (by omega)
 obtain ⟨u,hu⟩:=Int.eq_ofNat_of_zero_le m1
 rw [hu] at m2 ⊢
 have el:IntKind.wrap .i64 ((128:Int) + ((u:Nat):Int))=((128 + u:Nat):Int):=by rw [wrap_i64' (by omega) (by omega)]; omega
 rw [el]
 refine hn_ok (fun hb=>absurd ⟨by omega,by omega⟩ hb) fun h2 q1 _ g1 k2 fr1=>⟨_,_,rfl,lnum ⟨_,rfl,Cond_f rfl ?_⟩⟩
 rw [Int.toNat_natCast] at g1
 have f1:Frsh h1 q1:=fr1
 unfold f3K1
 refine Cond_f rfl (snew (lim:=128 + u) g1 (by omega) (by omega) fun h3 q s nd lb L x er ex hlb=>⟨_,_,rfl,lnum ⟨_,rfl,Cond_f rfl ?_⟩⟩)
 have hlim:128 + u ≤ 600:=by omega
 generalize 128 + u=lim at x hlim
 have f3:=f1.ex k2.1 ex
 have k3:=f1.kept k2 ex
 have hbq:q1.hb=q.hb:=ex.1.symm
 rw [hbq]
 clear ex g1 fr1
 unfold f3K2
 have key:∀ bs,Bt h1 bs (b.take 200)→f3K3 (ad h.size) (some (ad q.hb)) (some (ad lb)) bs h3 R:=fun bs zb=>by
  have hb200:(b.take 200).length ≤ 200:=by rw [List.length_take]; omega
  generalize b.take 200=B at zb hb200
  obtain ⟨n0,hn1,hn2⟩:=fits_first (z:=2 + wordsN B.length) hlim
  have hn80:n0 ≤ 80:=by
   by_cases h0:n0=0
   ·omega
   ·have:=fits_lt hlim (hn1 (n0 - 1) (by omega)); omega
  unfold f3K3
  refine Let_mk fun h4 e4=>?_
  have k4:Kept N h3 h4:=e4 ▸ kept_push _ _ _
  have row4:Row h4 h3.size [.int .i64 0,.int .i64 0]:=e4 ▸ row_new h3 #[.int .i64 0,.int .i64 0] _
  have enb3:nb h3=ad h3.size:=rfl
  rw [enb3]
  have ho3:q.role h3.size=.out:=x.o.g.st.fr (Nat.le_refl _)
  have hlt3:lb < h3.size:=row_lt x.o.l.row
  have hh1:h1.size ≤ h3.size:=k3.1
  have hhb:some (ad q.hb)=some (ad q.hb):=rfl
  have src:∀ {g:Hp} {q':HQ},Kept N h1 g→Frsh h1 q'→Src g q' bs B:=fun kk ff=>⟨reads_keptN kk zb.rd,zb.n,zb.b8,fun p hp hn=>⟨ff.old (zb.out p hp hn),Nat.lt_of_lt_of_le (zb.out p hp hn) kk.1⟩⟩
  let took:Nat→List Value:=fun r=>[if 0 < r then .int .i64 (n0:Int) else .int .i64 0,if 1 < r then .int .i64 (n0:Int) else .int .i64 0]
  refine f3L1_rule (s7:=bs) (fun p s1 s3 s5 s7 s8 s9 h5=>∃ (r:Nat) (q5:HQ) (s5':RS) (nd5:List NodeD) (L5:LD),r ≤ 2∧p=2 - r∧ad h.size=s1∧some (ad q5.hb)=s3∧some (ad lb)=s5∧bs=s7∧ad h3.size=s8∧s9=(r:Int) ∧
    Solo h5 q5 s5' nd5 lb L5 lim∧L5.rows=[]∧Kept N h1 h5∧Frsh h1 q5∧Row h5 h3.size (took r)∧q5.role h3.size=.out) 2
   ⟨0,q,s,nd,L,by omega,rfl,rfl,rfl,rfl,rfl,rfl,rfl,x.keepN k4,er,kept_tr k3 k4,f3,row4,ho3⟩ ?_
  rintro p s1 s3 s5 s7 s8 s9 g h5 ⟨r,q5,s5',nd5,L5,hr2,rfl,rfl,rfl,rfl,rfl,rfl,rfl,x5,er5,k5,f5,row5,ho5⟩
  unfold f3L1
  refine Cond_dec (fun hlt=>?_) fun hge=>?_
  ·have hlt:r < 2:=by omega
   refine f3L2_rule (s7:=bs) (fun p s1 s3 s5 s7 s8 s9 s10 h6=>∃ (k:Nat) (q6:HQ) (s6:RS) (nd6:List NodeD) (L6:LD),k ≤ n0∧p=1000 - k∧ad h.size=s1∧some (ad q6.hb)=s3∧some (ad lb)=s5∧bs=s7∧ad h3.size=s8∧s9=(r:Int)∧s10=(k:Int) ∧
     Solo h6 q6 s6 nd6 lb L6 lim∧L6.rows=List.replicate k B∧Kept N h1 h6∧Frsh h1 q6∧Row h6 h3.size (took r)∧q6.role h3.size=.out) 1000
    ⟨0,q5,s5',nd5,L5,by omega,rfl,rfl,rfl,rfl,rfl,rfl,rfl,rfl,x5,by rw [er5]; rfl,k5,f5,row5,ho5⟩ ?_
   rintro p s1 s3 s5 s7 s8 s9 s10 g2 h6 ⟨k,q6,s6,nd6,L6,hkn,rfl,rfl,rfl,rfl,rfl,rfl,rfl,rfl,x6,er6,k6,f6,row6,ho6⟩
   unfold f3L2
   refine Cond_dec (fun hlt6=>?_) fun hge6=>by omega
   have hrl:=x6.rl
   have fit6:=x6.fits er6
   refine ⟨fr,cl1 k6 4 _ rfl,lpush x6.o (src k6 f6) (by omega) (by omega) (fun hl=>absurd hl (by omega)) (fun _ h7 q7 s7 nd7 a7 hno=>?_) fun h7 q7 s7 nd7 L7 _ a7 er7 hyes=>?_⟩
   ·-- refused: the first time
    have hnf:¬ fits lim (2 + wordsN B.length) k:=fun hf=>(hno L6.all x6.lv) (fit6.2 hf L6.all x6.lv)
    have hkn0:k=n0:=by
     rcases Nat.lt_or_ge k n0 with hl | hl
     ·exact absurd (hn1 k hl) hnf
     ·omega
    subst hkn0
    refine ⟨_,rfl,lnum ⟨_,rfl,Cond_t rfl ?_⟩⟩
    have x7:=x6.aft a7
    have k7:=f6.kept k6 a7.ex
    have f7:=f6.ex k6.1 a7.ex
    have row7:Row h7 h3.size (took r):=kept_row a7.ex.kept row6 fun e=>e ho6
    have ho7:=a7.ex.out (row_lt row6) ho6
    rw [← a7.ex.1]
    unfold f3K4
    refine ⟨⟨by omega,by omega⟩,?_⟩
    rw [Int.toNat_natCast,Nat.mul_one]
    refine row_st row7 (i:=r) (add_ad _ _) (by show r < 2; omega) fun h8 row8 k8=>⟨by omega,?_⟩
    have x8:=x7.write k8 ho7 (by omega)
    have k8':Kept N h1 h8:=⟨Nat.le_trans k7.1 k8.1,fun j hj _=>(k8.2 j (Nat.lt_of_lt_of_le hj k7.1) (by omega)).trans (k7.2 j hj _root_.id)⟩
    have row8:Row h8 h3.size (took (r + 1)):=by
     have:(took r).set r (.int .i64 (k:Int))=took (r + 1):=by
      match r,hlt with
      | 0,_=>rfl
      | 1,_=>rfl
     rw [← this]; exact row8
    rw [Int.tdiv_eq_ediv_of_nonneg (by omega),wrap_i64' (by omega) (by omega)]
    have hrl8:=x8.rl
    have fit8:=x8.fits er6
    refine linsert x8.o (src k8' f7) (by omega) (by omega) ⟨by omega,by omega⟩ (fun hb=>absurd ⟨by omega,by omega,by rw [er6,List.length_replicate]; omega,by rw [er6,List.length_replicate]; omega⟩ hb) (fun _ hl=>absurd hl (by omega)) (fun _ _ h9 q9 s9 nd9 a9 _=>⟨_,rfl,?_⟩) fun h9 q9 s9 nd9 L9 _ _ _ _ hyes=>absurd (fit8.1 hyes) hnf
    have x9:=x8.aft a9
    have k9:=f7.kept k8' a9.ex
    have f9:=f7.ex k8'.1 a9.ex
    have row9:Row h9 h3.size (took (r + 1)):=kept_row a9.ex.kept row8 fun e=>e ho7
    have ho9:=a9.ex.out (row_lt row8) ho7
    rw [← a9.ex.1]
    have hl9:L6.rows.length=k:=by rw [er6,List.length_replicate]
    refine lslice x9.o ⟨by omega,by omega⟩ (fun hb=>absurd ⟨by omega,by omega,by omega,by omega⟩ hb) fun A MA cs h10 _ ra k10=>⟨A,_,rfl,?_⟩
    have era:(L6.rows.drop (0:Int).toNat).take (((k:Nat):Int)).toNat=List.replicate k B:=by
     show (L6.rows.drop 0).take _=_
     rw [List.drop_zero,Int.toNat_natCast,er6]
     exact List.take_of_length_le (by rw [List.length_replicate]; exact Nat.le_refl _)
    rw [era] at ra
    have x10:=x9.keepN k10
    have kk10:=kept_tr k9 k10
    have row10:=kept_row k10 row9 _root_.id
    refine Cond_f (by rw [beq_eq_false_iff_ne]; omega) (lnum ⟨_,rfl,Cond_f rfl (lnum ⟨_,rfl,Cond_f rfl (llen x10.o ⟨_,rfl,Cond_f (by rw [hl9]; exact bne_self_eq_false _) ?_⟩)⟩)⟩)
    refine hstats_ok x10.o.g.v x10.o.g.st.rp fun h11 k11=>⟨_,_,_,_,_,_,_,_,_,rfl,?_⟩
    rw [x10.rootsN]
    unfold f3K5
    refine Cond_f rfl ?_
    have x11:=x10.keepN k11
    have kk11:=kept_tr kk10 k11
    have row11:=kept_row k11 row10 _root_.id
    have ra11:=ra.keepN k11
    refine f3L3_rule (s7:=bs) (s13:=A) (fun p s1 s3 s5 s7 s8 s9 s10 s13 s15 h12=>∃ t:Nat,t ≤ k∧p=k - t∧ad h.size=s1∧some (ad q9.hb)=s3∧some (ad lb)=s5∧bs=s7∧ad h3.size=s8∧s9=(r:Int)∧s10=(k:Int)∧A=s13∧s15=(t:Int)∧h11=h12) k
     ⟨0,by omega,rfl,rfl,rfl,rfl,rfl,rfl,rfl,rfl,rfl,rfl,rfl⟩ ?_
    rintro p s1 s3 s5 s7 s8 s9 s10 s13 s15 g3 h12 ⟨t,ht,rfl,rfl,rfl,rfl,rfl,rfl,rfl,rfl,rfl,rfl,rfl⟩
    unfold f3L3
    have an:=ra11.n_eq
    rw [List.length_replicate] at an
    refine Cond_dec (fun hltt=>?_) fun hget=>?_
    ·have hltt:t < k:=by omega
     have hrt:(List.replicate k B)[t]?=some B:=by rw [List.getElem?_replicate,if_pos hltt]
     obtain ⟨c,bk,_,ha,hc,rowc,_⟩:=ra11.get hrt
     have sb:=src kk11 f9
     exact ⟨⟨by omega,by omega⟩,PtrOk_of ha ⟨⟨_,_,_⟩,by rw [Int.toNat_natCast]; exact hc,leq (a:=⟨some (ad c),B.length,B.length⟩) (c:=bs) (row_reads rowc) sb.rd rfl sb.n (by omega) ⟨_,rfl,Cond_f rfl ⟨k - (t + 1),by omega,t + 1,by omega,rfl,rfl,rfl,rfl,rfl,rfl,rfl,rfl,rfl,by rw [wrap_i64' (by omega) (by omega)]; rfl,rfl⟩⟩⟩⟩
    ·refine lcut x11.o ⟨by omega,by omega⟩ (fun hb=>absurd ⟨by omega,by omega,by omega,by omega⟩ hb) fun h13 q13 s13 nd13 L13 _ a13 _ er13=>⟨_,rfl,lnum ⟨_,rfl,Cond_f rfl ?_⟩⟩
     have x13:=x11.aft a13
     have e0:L13.rows=[]:=by
      rw [er13,Int.toNat_natCast]
      show L6.rows.take 0 ++ L6.rows.drop (0 + k)=[]
      rw [List.take_zero,List.nil_append,List.drop_eq_nil_of_le (by omega)]
     refine llen x13.o ⟨_,rfl,Cond_f (by rw [e0]; rfl) ?_⟩
     rw [← a13.ex.1]
     refine ⟨2 - (r + 1),by omega,r + 1,q13,s13,nd13,L13,by omega,rfl,rfl,rfl,rfl,rfl,rfl,by rw [wrap_i64' (by omega) (by omega)]; rfl,x13,e0,f9.kept kk11 a13.ex,f9.ex kk11.1 a13.ex,kept_row a13.ex.kept row11 fun e=>e ho9,a13.ex.out (row_lt row11) ho9⟩
   ·have hf:fits lim (2 + wordsN B.length) k:=fit6.1 hyes
    have hkn2:k < n0:=by
     rcases Nat.lt_or_ge k n0 with hl | hl
     ·exact hl
     ·obtain rfl:k=n0:=by omega
      exact absurd hf hn2
    refine ⟨_,rfl,lnum ⟨_,rfl,Cond_f rfl (lnum ⟨_,rfl,Cond_f rfl ?_⟩)⟩⟩
    rw [← a7.ex.1]
    refine ⟨1000 - (k + 1),by omega,k + 1,q7,s7,nd7,L7,by omega,rfl,rfl,rfl,rfl,rfl,rfl,rfl,by rw [wrap_i64' (by omega) (by omega)]; rfl,x6.aft a7,?_,f6.kept k6 a7.ex,f6.ex k6.1 a7.ex,kept_row a7.ex.kept row6 fun e=>e ho6,a7.ex.out (row_lt row6) ho6⟩
    rw [er7,er6]
    split
    ·rfl
    ·rw [List.replicate_succ']
  ·have hr:r=2:=by omega
   subst hr
   refine ⟨⟨by omega,by omega⟩,(n0:Int),?_,⟨by omega,by omega⟩,(n0:Int),?_,?_⟩
   ·exact (cell_row row5 0).trans rfl
   ·rw [show (1:Int).toNat * 1=1 from rfl,add_ad]; exact (cell_row row5 1).trans rfl
   ·rw [beq_self_eq_true]
    exact hR h5 (kept_tr k1 k5)
 have zcap:=z1.cap
 refine Cond_f rfl ⟨a3,cl1 k3 3 _ rfl,Cond_dec (fun hbig=>⟨⟨by omega,by omega⟩,⟨by omega,by omega⟩,?_⟩) fun hsm=>?_⟩
 ·rw [cut0]
  have e:(⟨a3.a,(200:Int).toNat - (0:Int).toNat,a3.c - (0:Int).toNat⟩:Sl)=⟨a3.a,min a3.n 200,a3.c⟩:=by congr 1; show 200 - 0=min a3.n 200; omega
  rw [e]
  exact key _ (z1.take 200)
 ·have e:a3=⟨a3.a,min a3.n 200,a3.c⟩:=by
   have:min a3.n 200=a3.n:=by omega
   rw [this]
  rw [e]
  exact key _ (z1.take 200)
end
end Go.Ev
