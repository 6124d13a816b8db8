/- The program's list: Push, Slice, Strike, over the heap's graph / The program's list: New, Open, Close, Push; the heap's New; a heap with one list / blob. No condition but that these are ones. -/
import Derived.Test.YtngcoodbepbhbaaS18
import Derived.Test.YtngcoodbepbhbaaS16
set_option linter.all false
set_option maxRecDepth 1000000
namespace Go.Ev
open Go.Proofs
/-- Lists of bytes that are handed out: new blocks, each its own. -/
def rowSls (cs:List Nat) (rows:List (List Nat)):List Sl:=List.zipWith (fun c (r:List Nat)=>(⟨some (ad c),r.length,r.length⟩:Sl)) cs rows
structure RowsAt (h0 h:Hp) (a:Sl) (M:Mem) (cs:List Nat) (rows:List (List Nat)):Prop where
 sep:Sep h M
 len:cs.length=rows.length
 sl:IsSl 1 M 0 a ((rowSls cs rows).map slV)
 el:∀ (k c:Nat) (r:List Nat),cs[k]?=some c→rows[k]?=some r→M.loc (k + 1)=some c∧M.cont (k + 1)=r.map bv
 no:∀ k,cs.length ≤ k→M.loc (k + 1)=none
 new:∀ b,M.own b→h0.size ≤ b
def strk (b:List Nat):List (List Nat)→Int→List (List Nat) × Nat
 | [],_=>([],0)
 | r :: t,m=>if 0 < m∧r=b then ((strk b t (m - 1)).1,(strk b t (m - 1)).2 + 1) else (r :: (strk b t m).1,(strk b t m).2)
theorem strk_stop (b:List Nat):∀ (l:List (List Nat)) (m:Int),m ≤ 0→strk b l m=(l,0)
 | [],_,_=>rfl
 | r :: t,m,h=>by unfold strk; rw [if_neg (by omega),strk_stop b t m h]
section
variable {h h' h2:Hp} {q q' q2:HQ} {s s' s2:RS} {nd nd' nd2:List NodeD} {n:NodeD} {id lb hn:Nat} {L L' L2:LD} {R:Value→Hp→Prop} {b:List Nat} {ids:List Nat} {h0:Hp} {a:Sl} {M:Mem} {cs:List Nat} {rows:List (List Nat)} {r:List Nat} {c:Nat}
theorem RowsAt.nil (h0 h:Hp):RowsAt h0 h ⟨none,0,0⟩ ⟨fun _=>none,fun _=>[]⟩ [] [] :=
 ⟨⟨fun y b hy=>by (cases hy),fun y z b hy _=>by (cases hy)⟩,rfl,⟨by simp [rowSls],fun _=>⟨rfl,rfl,rfl⟩,fun b hb=>by cases hb⟩,fun k c r hc=>by (cases hc),fun _ _=>rfl,fun b ⟨y,hy⟩=>by cases hy⟩
theorem rowSls_snoc (hl:cs.length=rows.length):rowSls (cs ++ [c]) (rows ++ [r])=rowSls cs rows ++ [⟨some (ad c),r.length,r.length⟩]:=by
 unfold rowSls; rw [List.zipWith_append hl]; rfl
theorem rowSls_len (hl:cs.length=rows.length):(rowSls cs rows).length=rows.length:=by unfold rowSls; simp [hl]
theorem rowSls_get {k:Nat} (hc:cs[k]?=some c) (hr:rows[k]?=some r):(rowSls cs rows)[k]?=some ⟨some (ad c),r.length,r.length⟩:=by
 unfold rowSls; rw [List.getElem?_zipWith,hc,hr]
/-- One more. -/
theorem RowsAt.add (x:RowsAt h0 h a M cs rows) (hn:rows.length ≤ 3000000) (k1:Kept N h h') (row:Row h' c (r.map bv)) (hc:h.size ≤ c) (h0le:h0.size ≤ h.size) {t e:TypeId} {K:Option Addr→Nat→Nat→Hp→Prop}
  (hK:∀ a' c' h2 M',RowsAt h0 h2 ⟨a',a.n + 1,c'⟩ M' (cs ++ [c]) (rows ++ [r])→(∀ i,i < h0.size→h2[i]?=h'[i]?)→h'.size ≤ h2.size→K a' (a.n + 1) c' h2) :
  Let (h'.push (.cells #[.slice (some (ad c)) r.length r.length] t)) fun h2=>appSl e 1 24 #[.slice none 0 0] a.a a.n a.c (some (nb h')) 1 h2 K:=by
 have han:a.n=rows.length:=by have:=x.sl.len; rw [List.length_map,rowSls_len x.len] at this; omega
 have hno:=x.no cs.length (Nat.le_refl _)
 obtain ⟨p1,ch1⟩:=x.sep.renew (x:=cs.length + 1) (ob:=some c) (c:=r.map bv) (k1.mono fun _ _ e=>e.elim) (fun b e=>by obtain rfl:=Option.some.inj e; exact row) fun b e=>.inr (by obtain rfl:=Option.some.inj e; exact hc)
 have sl1:IsSl 1 (M.upd (cs.length + 1) (some c) (r.map bv)) 0 a ((rowSls cs rows).map slV):=x.sl.other (by omega)
 refine sl1.app1 p1 rfl rfl (fun v hv=>by rw [List.mem_singleton.1 hv]; rfl) (by omega) (by omega) fun a' c' h2 ob cc p2 sl2 ch2=>?_
 have own1:∀ b,(M.upd (cs.length + 1) (some c) (r.map bv)).own b→h0.size ≤ b:=fun b ⟨y,hy⟩=>by
  by_cases e:y=cs.length + 1
  ·subst e; rw [Mem.loc_self] at hy; obtain rfl:=Option.some.inj hy; omega
  ·rw [Mem.loc_ne _ _ _ e] at hy; exact x.new b ⟨y,hy⟩
 have sz1:h.size ≤ h'.size:=k1.1
 refine hK a' c' h2 ((M.upd (cs.length + 1) (some c) (r.map bv)).upd 0 ob cc) ⟨p2,by simp [x.len],?_,fun k d u hd hu=>?_,fun k hk=>?_,fun b hb=>?_⟩ (fun i hi=>ch2.1.2 i (by omega) fun hb=>by have:=own1 i hb; omega) ch2.1.1
 ·rw [rowSls_snoc x.len,List.map_append]; exact sl2
 ·rw [Mem.loc_ne _ _ _ (by omega),Mem.cont_ne _ _ _ (by omega)]
  by_cases e:k=cs.length
  ·subst e
   rw [List.getElem?_append_right (Nat.le_refl _),Nat.sub_self] at hd
   rw [x.len,List.getElem?_append_right (Nat.le_refl _),Nat.sub_self] at hu
   obtain rfl:c=d:=Option.some.inj hd
   obtain rfl:r=u:=Option.some.inj hu
   rw [Mem.loc_self,Mem.cont_self]; exact ⟨rfl,rfl⟩
  ·have hk:k < cs.length:=by have:=(List.getElem?_eq_some_iff.1 hd).1; simp at this; omega
   rw [List.getElem?_append_left hk] at hd
   rw [List.getElem?_append_left (by rw [← x.len]; exact hk)] at hu
   rw [Mem.loc_ne _ _ _ (by omega),Mem.cont_ne _ _ _ (by omega)]
   exact x.el k d u hd hu
 ·simp at hk
  rw [Mem.loc_ne _ _ _ (by omega),Mem.loc_ne _ _ _ (by omega)]
  exact x.no k (by omega)
 ·rcases ch2.2 b hb with h | h
  ·exact own1 b h
  ·omega
theorem RowsAt.keepN (x:RowsAt h0 h a M cs rows) (k:Kept N h h'):RowsAt h0 h' a M cs rows:=⟨x.sep.keepN k,x.len,x.sl,x.el,x.no,x.new⟩
theorem lslice (o:Opn h q s nd lb hn L) {i m:Int} (hi64:-9223372036854775808 ≤ i∧i < 9223372036854775808)
  (hbad:¬ InL L.rows.length i m→R (.tuple #[.slice none 0 0,.int .i64 52]) h)
  (hok:∀ a M cs h',InL L.rows.length i m→RowsAt h h' a M cs ((L.rows.drop i.toNat).take m.toNat)→Kept N h h'→R (.tuple #[.slice a.a a.n a.c,.int .i64 0]) h') :
  CallTo Try.prog 15 #[.pointer (some (ad lb)),.int .i64 i,.int .i64 m] h R:=by
 refine f15F_ok ?_
 unfold f15F
 refine lspan o hi64 ⟨_,rfl,?_⟩
 by_cases hin:InL L.rows.length i m
 ·rw [if_pos hin]
  obtain ⟨i,rfl⟩:=Int.eq_ofNat_of_zero_le hin.1
  obtain ⟨m,rfl⟩:=Int.eq_ofNat_of_zero_le hin.2.1
  have hl:=o.len
  have him:i + m ≤ L.rows.length:=by have:=hin.2.2.2; omega
  refine Cond_f rfl (lnode o (by omega) ⟨_,rfl,?_⟩)
  refine f15L1_rule (s9:=⟨none,0,0⟩) (fun p s0 s9 s10 s21 s22 h1=>∃ (k:Nat) (M:Mem) (cs:List Nat),k ≤ m∧p=m - k∧some (ad lb)=s0∧s21=(m:Int)∧s22=(k:Int)∧s10=((s.ref (nx L.ns (i + k)):Nat):Int)∧RowsAt h h1 s9 M cs ((L.rows.drop i).take k)∧Kept N h h1) m
   ⟨0,⟨fun _=>none,fun _=>[]⟩,[],Nat.zero_le _,rfl,rfl,rfl,rfl,rfl,RowsAt.nil h h,Kept.refl _ _⟩ ?_
  rintro p s0 s9 s10 s21 s22 g h1 ⟨k,M,cs,hk,rfl,rfl,rfl,rfl,rfl,x1,k1⟩
  unfold f15L1
  have o1:=o.keepN k1
  refine Cond_dec (fun hlt=>?_) fun hge=>?_
  ·have hlt:k < m:=by omega
   have hr:L.rows[i + k]?=some (L.rows[i + k]'(by omega)):=List.getElem?_eq_getElem (by omega)
   refine lread o1 hr fun c h2 row hc k2=>⟨⟨_,_,_⟩,rfl,?_⟩
   have hlr:((L.rows.drop i).take k).length=k:=by simp; omega
   refine x1.add (by omega) k2 row hc k1.1 fun a' c' h3 M' x3 hold hsz=>?_
   have kk:Kept N h h3:=⟨Nat.le_trans (Nat.le_trans k1.1 k2.1) hsz,fun j hj _=>(hold j hj).trans ((k2.2 j (Nat.lt_of_lt_of_le hj k1.1) _root_.id).trans (k1.2 j hj _root_.id))⟩
   have o3:=o.keepN kk
   refine lget o3.g o3.l (o.c.nn (i + k) (by omega)) (o.hn' (by omega)) (k:=1) rfl rfl ⟨_,rfl,m - (k + 1),by omega,k + 1,M',cs ++ [c],by omega,rfl,rfl,rfl,by rw [wrap_i64' (by omega) (by omega)]; rfl,rfl,?_,kk⟩
   have et:(L.rows.drop i).take (k + 1)=(L.rows.drop i).take k ++ [L.rows[i + k]'(by omega)]:=RS.take_snoc (by rw [List.getElem?_drop]; exact hr)
   rw [et]
   exact x3
  ·have:k=m:=by omega
   subst this
   exact hok s9 M cs h1 hin x1 k1
 ·rw [if_neg hin]
  exact Cond_t rfl (hbad hin)
/-! ### Strike -/
theorem equal_ok {a c:Sl} {l m:List Nat} (ha:ReadsO h a.a (l.map bv)) (hb:ReadsO h c.a (m.map bv)) (na:a.n=l.length) (nc:c.n=m.length) (bl:Bytes8 l) (bm:Bytes8 m) (hR:R (.bool (decide (l=m))) h) :
  CallTo Try.prog 55 #[.slice a.a a.n a.c,.slice c.a c.n c.c] h R:=by
 refine f55F_ok ?_
 unfold f55F
 refine ⟨_,spells_of ha na bl,_,spells_of hb nc bm,?_⟩
 rw [ofL_eq bl bm]
 exact hR
theorem lstrike (o:Opn h q s nd lb hn L) {fr:Bool} {m0:Int} (hm64:-9223372036854775808 ≤ m0∧m0 < 9223372036854775808) {a:Sl} (sr:Src h q a b)
  (hok:∀ h' q' s' nd' L',Aft h q s nd L h' q' s' nd' L'→s'.roots=s.roots→L'.rows=(if fr=true then (strk b L.rows m0).1 else (strk b L.rows.reverse m0).1.reverse) →
   R (.tuple #[.int .i64 ((if fr=true then (strk b L.rows m0).2 else (strk b L.rows.reverse m0).2:Nat):Int),.int .i64 0]) h') :
  CallTo Try.prog 26 #[.pointer (some (ad lb)),.bool fr,.int .i64 m0,.slice a.a a.n a.c] h R:=by
 refine f26F_ok ?_
 unfold f26F
 have:=o.pos
 have hl:=o.len
 refine PtrOk_mk ⟨_,o.l.c1,Cond_f (by rw [beq_eq_false_iff_ne]; omega) ?_⟩
 cases fr with
 | true =>
  refine Cond_t rfl ?_
  unfold f26K1
  refine lref o ⟨_,rfl,lget o.g o.l o.c.hn o.hh (k:=0) rfl rfl ⟨_,rfl,?_⟩⟩
  refine f26L1_rule (s3:=a) (fun p s0 s2 s3 s11 s12 s13 h1=>∃ (done rest:List (List Nat)) (cnt:Nat) (q1:HQ) (s1:RS) (nd1:List NodeD) (L1:LD),p=rest.length∧some (ad lb)=s0∧m0=s2∧a=s3∧s11=1∧s12=(cnt:Int)∧Aft h q s nd L h1 q1 s1 nd1 L1∧s1.roots=s.roots ∧
    L1.rows=done ++ rest∧s13=((s1.ref (nx L1.ns done.length):Nat):Int)∧cnt + rest.length ≤ L.rows.length∧strk b L.rows m0=(done ++ (strk b rest (m0 - cnt)).1,cnt + (strk b rest (m0 - cnt)).2)) L.rows.length
   ⟨[],L.rows,0,q,s,nd,L,rfl,rfl,rfl,rfl,rfl,rfl,Aft.refl o o.g (Ex.refl _ _),rfl,rfl,rfl,by omega,by simp⟩ ?_
  rintro p s0 s2 s3 s11 s12 s13 g h1 ⟨done,rest,cnt,q1,s1,nd1,L1,rfl,rfl,rfl,rfl,rfl,rfl,a1,er1,hr1,rfl,hcl,hst⟩
  have o1:=a1.opn o
  have hln:=o1.c.ln
  have hlen:L1.rows.length=done.length + rest.length:=by rw [hr1,List.length_append]
  have fin:strk b rest (m0 - cnt)=(rest,0)→R (.tuple #[.int .i64 (cnt:Int),.int .i64 0]) h1:=fun e=>by
   rw [e] at hst
   have:=hok h1 q1 s1 nd1 L1 a1 er1 (by rw [if_pos rfl,hst,hr1])
   rw [if_pos rfl,hst] at this
   exact this
  unfold f26L1 f26K2
  cases rest with
  | nil =>
   have hz:nx L1.ns done.length=0:=nx_out (by simp at hlen; omega)
   rw [hz,RS.ref_zero]
   exact Cond_f rfl (Cond_f rfl (fin rfl))
  | cons r rest =>
   have hdl:done.length < L1.rows.length:=by simp at hlen; omega
   have hr:L1.rows[done.length]?=some r:=by rw [hr1,List.getElem?_append_right (Nat.le_refl _),Nat.sub_self]; rfl
   have hh:=o1.hn' hdl
   refine Cond_t (by rw [bne_iff_ne]; have:=RS.ref_nz o1.g.v hh; omega) (Cond_dec (fun hlt=>?_) fun hge=>fin (strk_stop _ _ _ (by omega)))
   refine lget o1.g o1.l (o1.c.nn _ hdl) hh (k:=1) rfl rfl ⟨_,rfl,lread o1 hr fun c h2 row hc k2=>⟨⟨_,_,_⟩,rfl,?_⟩⟩
   have sr2:=(sr.ex a1.ex).ex (Ex.of_kept k2 fun b hb=>o1.g.st.fr hb)
   have ok:=(o1.c.bn _ r hr).2
   refine equal_ok (a:=⟨some (ad c),r.length,r.length⟩) (row_reads row) sr2.rd rfl sr2.n ok.b8 sr2.b8 ⟨_,rfl,Cond_dec (fun heq=>?_) fun hne=>?_⟩
   ·have o2:=o1.keepN k2
    have a2:=a1.keepN k2
    refine lunlink o2 hdl fun h3 q3 s3 nd3 f3 v3=>⟨_,rfl,rest.length,by simp,done,rest,cnt + 1,q3,s3,nd3,⟨L1.hd,del L1.ns done.length,del L1.bs done.length,del L1.rows done.length⟩,rfl,rfl,rfl,rfl,rfl,?_,a2.step (unlink_aft o2 hdl f3 v3) (by rw [f3.rt,er1]; omega),f3.rt.trans er1,?_,?_,?_,?_⟩
    ·rw [wrap_i64' (by omega) (by simp at hcl; omega)]; rfl
    ·show del L1.rows done.length=_
     rw [hr1]; unfold del
     rw [List.take_left' rfl,List.drop_append,List.drop_eq_nil_of_le (by omega),List.nil_append,Nat.add_sub_cancel_left]
     rfl
    ·show _=((s3.ref (nx (del L1.ns done.length) done.length):Nat):Int)
     rw [nx_del,if_neg (by omega),f3.al.ref]
    ·simp at hcl; omega
    ·rw [hst]
     have e:strk b (r :: rest) (m0 - cnt)=((strk b rest (m0 - (cnt + 1:Nat))).1,(strk b rest (m0 - (cnt + 1:Nat))).2 + 1):=by
      conv=>lhs; unfold strk
      rw [if_pos ⟨by omega,heq⟩,show m0 - (cnt:Int) - 1=m0 - ((cnt + 1:Nat):Int) by omega]
     rw [e]
     show (done ++ _,cnt + (_ + 1))=_
     congr 1; omega
   ·refine ⟨rest.length,by simp,done ++ [r],rest,cnt,q1,s1,nd1,L1,rfl,rfl,rfl,rfl,rfl,rfl,a1.keepN k2,er1,by rw [hr1]; simp,by rw [List.length_append]; rfl,by simp at hcl; omega,?_⟩
    rw [hst]
    have e:strk b (r :: rest) (m0 - cnt)=(r :: (strk b rest (m0 - cnt)).1,(strk b rest (m0 - cnt)).2):=by
     conv=>lhs; unfold strk
     rw [if_neg fun z=>hne z.2]
    rw [e]
    simp
 | false =>
  refine Cond_f rfl ?_
  unfold f26K1
  refine lref o ⟨_,rfl,lget o.g o.l o.c.hn o.hh (k:=1) rfl rfl ⟨_,rfl,?_⟩⟩
  refine f26L1_rule (s3:=a) (fun p s0 s2 s3 s11 s12 s13 h1=>∃ (done rest:List (List Nat)) (cnt:Nat) (q1:HQ) (s1:RS) (nd1:List NodeD) (L1:LD),p=rest.length∧some (ad lb)=s0∧m0=s2∧a=s3∧s11=0∧s12=(cnt:Int)∧Aft h q s nd L h1 q1 s1 nd1 L1∧s1.roots=s.roots ∧
    L1.rows=rest.reverse ++ done∧s13=((s1.ref (pv L1.ns rest.length):Nat):Int)∧cnt + rest.length ≤ L.rows.length∧strk b L.rows.reverse m0=(done.reverse ++ (strk b rest (m0 - cnt)).1,cnt + (strk b rest (m0 - cnt)).2)) L.rows.length
   ⟨[],L.rows.reverse,0,q,s,nd,L,by simp,rfl,rfl,rfl,rfl,rfl,Aft.refl o o.g (Ex.refl _ _),rfl,by simp,by rw [List.length_reverse],by simp,by simp⟩ ?_
  rintro p s0 s2 s3 s11 s12 s13 g h1 ⟨done,rest,cnt,q1,s1,nd1,L1,rfl,rfl,rfl,rfl,rfl,rfl,a1,er1,hr1,rfl,hcl,hst⟩
  have o1:=a1.opn o
  have hln:=o1.c.ln
  have hlen:L1.rows.length=rest.length + done.length:=by rw [hr1,List.length_append,List.length_reverse]
  have fin:strk b rest (m0 - cnt)=(rest,0)→R (.tuple #[.int .i64 (cnt:Int),.int .i64 0]) h1:=fun e=>by
   rw [e] at hst
   have:=hok h1 q1 s1 nd1 L1 a1 er1 (by rw [if_neg (by simp),hst,hr1]; simp)
   rw [if_neg (by simp),hst] at this
   exact this
  unfold f26L1 f26K2
  cases rest with
  | nil =>
   have hz:pv L1.ns ([]:List (List Nat)).length=0:=rfl
   rw [hz,RS.ref_zero]
   exact Cond_f rfl (Cond_f rfl (fin rfl))
  | cons r rest =>
   have hdl:rest.length < L1.rows.length:=by simp at hlen; omega
   have hp:pv L1.ns (r :: rest).length=nx L1.ns rest.length:=pv_eq _ (by simp)
   have hr:L1.rows[rest.length]?=some r:=by rw [hr1]; simp
   have hh:=o1.hn' hdl
   rw [hp]
   refine Cond_t (by rw [bne_iff_ne]; have:=RS.ref_nz o1.g.v hh; omega) (Cond_dec (fun hlt=>?_) fun hge=>fin (strk_stop _ _ _ (by omega)))
   refine lget o1.g o1.l (o1.c.nn _ hdl) hh (k:=0) rfl rfl ⟨_,rfl,lread o1 hr fun c h2 row hc k2=>⟨⟨_,_,_⟩,rfl,?_⟩⟩
   have sr2:=(sr.ex a1.ex).ex (Ex.of_kept k2 fun b hb=>o1.g.st.fr hb)
   have ok:=(o1.c.bn _ r hr).2
   refine equal_ok (a:=⟨some (ad c),r.length,r.length⟩) (row_reads row) sr2.rd rfl sr2.n ok.b8 sr2.b8 ⟨_,rfl,Cond_dec (fun heq=>?_) fun hne=>?_⟩
   ·have o2:=o1.keepN k2
    have a2:=a1.keepN k2
    refine lunlink o2 hdl fun h3 q3 s3 nd3 f3 v3=>⟨_,rfl,rest.length,by simp,done,rest,cnt + 1,q3,s3,nd3,⟨L1.hd,del L1.ns rest.length,del L1.bs rest.length,del L1.rows rest.length⟩,rfl,rfl,rfl,rfl,rfl,?_,a2.step (unlink_aft o2 hdl f3 v3) (by rw [f3.rt,er1]; omega),f3.rt.trans er1,?_,?_,?_,?_⟩
    ·rw [wrap_i64' (by omega) (by simp at hcl; omega)]; rfl
    ·show del L1.rows rest.length=_
     rw [hr1]; unfold del
     rw [List.reverse_cons,List.append_assoc,List.take_left' (by simp),List.drop_append,List.drop_eq_nil_of_le (by simp),List.nil_append,List.length_reverse,Nat.add_sub_cancel_left]
     rfl
    ·show _=((s3.ref (pv (del L1.ns rest.length) rest.length):Nat):Int)
     have:pv (del L1.ns rest.length) rest.length=pv L1.ns rest.length:=by
      by_cases h0:rest.length=0
      ·rw [h0]; rfl
      ·rw [pv_eq _ h0,pv_eq _ h0,nx_del,if_pos (by omega)]
     rw [this,f3.al.ref]
    ·simp at hcl; omega
    ·rw [hst]
     have e:strk b (r :: rest) (m0 - cnt)=((strk b rest (m0 - (cnt + 1:Nat))).1,(strk b rest (m0 - (cnt + 1:Nat))).2 + 1):=by
      conv=>lhs; unfold strk
      rw [if_pos ⟨by omega,heq⟩,show m0 - (cnt:Int) - 1=m0 - ((cnt + 1:Nat):Int) by omega]
     rw [e]
     show (_ ++ _,cnt + (_ + 1))=_
     congr 1; omega
   ·refine ⟨rest.length,by simp,r :: done,rest,cnt,q1,s1,nd1,L1,rfl,rfl,rfl,rfl,rfl,rfl,a1.keepN k2,er1,by rw [hr1]; simp,rfl,by simp at hcl; omega,?_⟩
    rw [hst]
    have e:strk b (r :: rest) (m0 - cnt)=(r :: (strk b rest (m0 - cnt)).1,(strk b rest (m0 - cnt)).2):=by
     conv=>lhs; unfold strk
     rw [if_neg fun z=>hne z.2]
    rw [e]
    simp
end
end Go.Ev
set_option linter.all false
set_option maxRecDepth 1000000
namespace Go.Ev
open Go.Proofs
section
variable {h h' h2:Hp} {q q' q2:HQ} {s s' s2:RS} {nd nd' nd2:List NodeD} {n:NodeD} {id lb hn:Nat} {L L' L2:LD} {R:Value→Hp→Prop} {b:List Nat} {ids:List Nat} {lim:Nat}
/-- A handle more for an object that is there, and a List for it. -/
theorem lhold (x:Gs h q s nd) (hh:s.here id) (hrl:s.roots.length < 99999999)
  (hR:∀ h' q' s' lb,Gs h' q' s' nd→s'.Alk s→s'.roots=rootL s.roots id→Ex h q h' q'→Lst h' q' lb (RS.freeAt s.roots + 1)→h.size ≤ lb→R (.tuple #[.pointer (some (ad lb)),.int .i64 0]) h') :
  CallTo Try.prog 41 #[.pointer (some (ad q.hb)),uv (s.ref id)] h R:=by
 refine f41F_ok ?_
 unfold f41F
 refine q_root x (.inr hh) (by omega) fun h1 q1 s1 g1 al1 er1 ex1=>⟨_,_,rfl,Cond_f rfl (Let_mk fun h2 e2=>?_)⟩
 have k2:Kept N h1 h2:=e2 ▸ kept_push _ _ _
 have hout:q1.role h1.size=.out:=g1.st.fr (Nat.le_refl _)
 have row:Row h2 h1.size [.pointer (some (ad q1.hb)),.int .i64 ((RS.freeAt s.roots + 1:Nat):Int)]:=by
  rw [ex1.1]; exact e2 ▸ row_new h1 #[.pointer (some (ad q.hb)),.int .i64 ((RS.freeAt s.roots + 1:Nat):Int)] _
 exact hR h2 q1 s1 h1.size (g1.keepN k2) al1 er1 (ex1.trans (Ex.of_kept k2 fun b hb=>g1.st.fr hb)) ⟨row,hout⟩ ex1.2.1
theorem lnew (x:Gs h q s nd) (hrl:s.roots.length < 99999999)
  (hfull:∀ h' q' s',Gs h' q' s' nd→s'.roots=s.roots→s'.limit=s.limit→Ex h q h' q'→(∀ ids,Lv nd s.roots ids→¬ roomK s.limit (1 + RS.liveS nd ids) (RS.liveB nd ids) 4)→R (.tuple #[.pointer none,.int .i64 31]) h')
  (hok:∀ h' q' s' lb,Opn h' q' s' (nd ++ [⟨2,[0,0],[0]⟩]) lb (RS.freeAt s.roots + 1) ⟨nd.length,[],[],[]⟩→s'.roots=rootL s.roots nd.length→s'.limit=s.limit→Ex h q h' q'→h.size ≤ lb→(∀ ids,Lv nd s.roots ids→roomK s.limit (1 + RS.liveS nd ids) (RS.liveB nd ids) 4)→R (.tuple #[.pointer (some (ad lb)),.int .i64 0]) h') :
  CallTo Try.prog 12 #[.pointer (some (ad q.hb))] h R:=by
 refine f12F_ok ?_
 unfold f12F
 refine q_alloc x (⟨⟨by omega,by omega⟩,⟨by omega,by omega⟩,by omega,by omega⟩:Shape ((2:Nat):Int) ((2:Nat):Int) ((1:Nat):Int)) rfl rfl rfl (fun h1 q1 s1 g1 er1 el1 ex1 hr=>⟨_,_,rfl,Cond_t rfl (hfull h1 q1 s1 g1 er1 el1 ex1 fun ids lv z=>hr ((x.room lv 2 1).2 z))⟩) fun h1 q1 s1 g1 er1 el1 hh1 ex1 hr=>⟨_,_,rfl,Cond_f rfl ?_⟩
 rw [← ex1.1]
 refine lhold g1 hh1 (by rw [er1]; exact hrl) fun h2 q2 s2 lb g2 al2 er2 ex2 l2 hlb=>⟨_,_,rfl,?_⟩
 rw [er1] at er2 l2
 have hf:=RS.freeAt_le s.roots
 have hp:=x.pos
 have hget:(nd ++ [⟨2,List.replicate 2 0,List.replicate 1 0⟩]:List NodeD)[nd.length]?=some ⟨2,[0,0],[0]⟩:=by rw [List.getElem?_append_right (Nat.le_refl _),Nat.sub_self]; rfl
 refine hok h2 q2 s2 lb ⟨g2,l2,by omega,by omega,?_,⟨rfl,rfl,hget,fun i hi=>absurd hi (by simp),fun i r hr=>(by cases hr),by simp,fun y hy=>?_⟩⟩ er2 (al2.lim.trans el1) (ex1.trans ex2) (Nat.le_trans ex1.2.1 hlb) fun ids lv=>(x.room lv 2 1).1 hr
 ·rw [er2,rootL_get]; exact if_pos rfl
 ·have:y=nd.length:=by simpa using hy
  omega
theorem lpush (o:Opn h q s nd lb hn L) {a:Sl} (sr:Src h q a b) (hbl:b.length < 140737488355328) (hrl:s.roots.length < 99999999) {fr:Bool}
  (hlong:4096 < b.length→∀ h' q',Aft h q s nd L h' q' s nd L→R (.int .i64 41) h')
  (hfull:b.length ≤ 4096→∀ h' q' s' nd',Aft h q s nd L h' q' s' nd' L→(∀ ids,Lv nd s.roots ids→¬ room2 s.limit (1 + RS.liveS nd ids) (RS.liveB nd ids) (2 + wordsN b.length))→R (.int .i64 31) h')
  (hok:∀ h' q' s' nd' L',Okb b→Aft h q s nd L h' q' s' nd' L'→L'.rows=(if fr=true then b :: L.rows else L.rows ++ [b])→(∀ ids,Lv nd s.roots ids→room2 s.limit (1 + RS.liveS nd ids) (RS.liveB nd ids) (2 + wordsN b.length))→R (.int .i64 0) h') :
  CallTo Try.prog 13 #[.pointer (some (ad lb)),.bool fr,.slice a.a a.n a.c] h R:=by
 have hl:=o.len
 refine f13F_ok ?_
 unfold f13F
 cases fr with
 | true =>
  have hin:InL L.rows.length 0 0:=⟨by omega,by omega,by omega,by omega⟩
  refine Cond_t rfl (linsert o sr hbl hrl ⟨by omega,by omega⟩ (fun hb=>absurd hin hb) (fun _ hl h' q' a'=>⟨_,rfl,hlong hl h' q' a'⟩) (fun _ hl h' q' s' nd' a' hr=>⟨_,rfl,hfull hl h' q' s' nd' a' hr⟩) fun h' q' s' nd' L' _ ok a' er hr=>⟨_,rfl,hok h' q' s' nd' L' ok a' ?_ hr⟩)
  rw [er,if_pos rfl]; rfl
 | false =>
  have hin:InL L.rows.length (L.rows.length:Nat) 0:=⟨by omega,by omega,by omega,by omega⟩
  refine Cond_f rfl (llen o ⟨_,rfl,linsert o sr hbl hrl ⟨by omega,by omega⟩ (fun hb=>absurd hin hb) (fun _ hl h' q' a'=>⟨_,rfl,hlong hl h' q' a'⟩) (fun _ hl h' q' s' nd' a' hr=>⟨_,rfl,hfull hl h' q' s' nd' a' hr⟩) fun h' q' s' nd' L' _ ok a' er hr=>⟨_,rfl,hok h' q' s' nd' L' ok a' ?_ hr⟩⟩)
  rw [er,if_neg (by simp),Int.toNat_natCast]; unfold ins; simp
/-! ### Live words of lists -/
def rowS (rows:List (List Nat)):Nat:=(rows.map fun r=>cntS (2 + wordsN r.length)).sum
def rowB (rows:List (List Nat)):Nat:=(rows.map fun r=>cntB (2 + wordsN r.length)).sum
theorem sum_at {α:Type} {f:Nat→Nat} {g:α→Nat} {l:List Nat} {m:List α} (hl:l.length=m.length) (h:∀ (i x:Nat) (y:α),l[i]?=some x→m[i]?=some y→f x=g y):(l.map f).sum=(m.map g).sum:=by
 congr 1
 apply List.ext_getElem?
 intro i
 rw [List.getElem?_map,List.getElem?_map]
 by_cases hi:i < l.length
 ·rw [List.getElem?_eq_getElem hi,List.getElem?_eq_getElem (by omega)]
  exact congrArg some (h i _ _ (List.getElem?_eq_getElem hi) (List.getElem?_eq_getElem (by omega)))
 ·rw [List.getElem?_eq_none (by omega),List.getElem?_eq_none (by omega)]; rfl
theorem szAt_of {m:NodeD} {x:Nat} (h:nd[x]?=some m):RS.szAt nd x=m.sz:=by unfold RS.szAt; rw [h]; rfl
theorem live_all (c:L.ok nd):RS.liveS nd L.all=4 + 4 * L.rows.length + rowS L.rows∧RS.liveB nd L.all=rowB L.rows:=by
 have nxs:∀ (l:List Nat) (i x:Nat),l[i]?=some x→nx l i=x:=fun l i x h=>by unfold nx; rw [List.getD_eq_getElem?_getD,h]; rfl
 have eh:RS.szAt nd L.hd=4:=szAt_of c.hn
 have en:∀ i x,L.ns[i]?=some x→RS.szAt nd x=4:=fun i x hx=>by
  have hi:i < L.rows.length:=by rw [← c.ln]; exact (List.getElem?_eq_some_iff.1 hx).1
  have:=szAt_of (c.nn i hi)
  rw [nxs _ _ _ hx] at this
  exact this
 have eb:∀ (i x:Nat) (r:List Nat),L.bs[i]?=some x→L.rows[i]?=some r→RS.szAt nd x=2 + wordsN r.length:=fun i x r hx hr=>by
  obtain ⟨h1,ok⟩:=c.bn i r hr
  rw [nxs _ _ _ hx] at h1
  rw [szAt_of h1]
  show 1 + 0 + (blobRaws r).length=_
  rw [ok.is.len]; omega
 have s1:∀ (f:Nat→Nat) (m:Nat) (l:List Nat),(∀ x ∈ l,f x=m)→(l.map f).sum=m * l.length:=fun f m l=>by
  induction l with
  | nil=>intro _; simp
  | cons y l ih =>
   intro h
   rw [List.map_cons,List.sum_cons,h y (List.mem_cons_self ..),ih fun x hx=>h x (List.mem_cons_of_mem _ hx),List.length_cons,Nat.mul_succ]
   omega
 have hS:RS.liveS nd L.ns=4 * L.rows.length∧RS.liveB nd L.ns=0:=by
  have q:∀ x ∈ L.ns,RS.szAt nd x=4:=fun x hx=>by obtain ⟨i,hi⟩:=List.mem_iff_getElem?.1 hx; exact en i x hi
  constructor
  ·unfold RS.liveS; rw [s1 _ 4 _ fun x hx=>by rw [q x hx]; rfl,c.ln]
  ·unfold RS.liveB; rw [s1 _ 0 _ fun x hx=>by rw [q x hx]; rfl,Nat.zero_mul]
 have hB:RS.liveS nd L.bs=rowS L.rows∧RS.liveB nd L.bs=rowB L.rows:=by
  constructor
  ·exact sum_at c.lb fun i x r hx hr=>by show (if RS.szAt nd x ≤ 64 then _ else _)=_; rw [eb i x r hx hr]; rfl
  ·exact sum_at c.lb fun i x r hx hr=>by show (if RS.szAt nd x ≤ 64 then _ else _)=_; rw [eb i x r hx hr]; rfl
 have e1:L.all=[L.hd] ++ (L.ns ++ L.bs):=rfl
 have hH:RS.liveS nd [L.hd]=4∧RS.liveB nd [L.hd]=0:=by
  unfold RS.liveS RS.liveB
  simp [eh]
 rw [e1,(live_append _ _).1,(live_append _ _).1,(live_append _ _).2,(live_append _ _).2,hS.1,hS.2,hB.1,hB.2,hH.1,hH.2]
 omega
/-- A heap on which one list lies, that one handle holds. -/
structure Solo (h:Hp) (q:HQ) (s:RS) (nd:List NodeD) (lb:Nat) (L:LD) (lim:Nat):Prop where
 o:Opn h q s nd lb 1 L
 rt:∀ j,s.roots.getD j none=if j=0 then some L.hd else none
 rl:s.roots.length ≤ 2
 lim:s.limit=lim
theorem Solo.free (x:Solo h q s nd lb L lim):RS.freeAt s.roots ≤ 1:=by
 have h0:=x.rt 0
 have h1:=x.rt 1
 revert h0 h1
 generalize s.roots=l
 intro h0 h1
 match l with
 | []=>simp at h0
 | [_]=>exact RS.freeAt_le _
 | a :: none :: l=>cases a with
  | none=>simp at h0
  | some _=>show 0 + 1 ≤ 1; omega
 | a :: some b :: l=>simp at h1
theorem Solo.lv (x:Solo h q s nd lb L lim):Lv nd s.roots L.all:=by
 refine Lv.of x.o.c.dis (fun id hid h0=>?_) (fun y hy m hm z hz h0=>x.o.c.closed hy hm hz h0) fun y hy=>x.o.rch hy
 obtain ⟨j,hj⟩:=mem_roots.1 hid
 rw [x.rt] at hj
 split at hj
 ·rw [← Option.some.inj hj]; exact List.mem_cons_self ..
 ·cases hj
theorem Solo.aft (x:Solo h q s nd lb L lim) (a:Aft h q s nd L h' q' s' nd' L'):Solo h' q' s' nd' lb L' lim :=
 ⟨a.opn x.o,fun j=>by rw [a.req,x.rt,a.hd],by have:=a.rlen; have:=x.free; have:=x.rl; omega,a.lim.trans x.lim⟩
theorem Solo.keepN (x:Solo h q s nd lb L lim) (k:Kept N h h'):Solo h' q s nd lb L lim:=⟨x.o.keepN k,x.rt,x.rl,x.lim⟩
/-- What a heap with one list has room for. -/
theorem Solo.room (x:Solo h q s nd lb L lim) {z:Nat}:(∀ ids,Lv nd s.roots ids→room2 s.limit (1 + RS.liveS nd ids) (RS.liveB nd ids) z) ↔ room2 lim (5 + 4 * L.rows.length + rowS L.rows) (rowB L.rows) z:=by
 obtain ⟨e1,e2⟩:=live_all x.o.c
 constructor
 ·intro h
  have:=h _ x.lv
  rw [e1,e2,x.lim] at this
  rw [show 5 + 4 * L.rows.length + rowS L.rows=1 + (4 + 4 * L.rows.length + rowS L.rows) by omega]
  exact this
 ·intro h ids lv
  have hp:ids.Perm L.all:=(List.perm_ext_iff_of_nodup lv.nod x.lv.nod).2 fun y=>(lv.iff y).trans (x.lv.iff y).symm
  rw [(live_perm hp).1,(live_perm hp).2,e1,e2,x.lim,show 1 + (4 + 4 * L.rows.length + rowS L.rows)=5 + 4 * L.rows.length + rowS L.rows by omega]
  exact h
/-! ### The heap's New, and a list on it -/
theorem hn_ok {i:Int} (hbad:¬ (128 ≤ i∧i ≤ 1048576)→R (.tuple #[.pointer none,.int .i64 30]) h)
  (hgood:∀ h' q',128 ≤ i∧i ≤ 1048576→Gs h' q' (RS.new i.toNat) [⟨0,[],[]⟩]→Kept N h h'→(∀ b,q'.role b ≠ .out→h.size ≤ b)→R (.tuple #[.pointer (some (ad q'.hb)),.int .i64 0]) h'):CallTo Try.prog 9 #[.int .i64 i] h R :=
 hnew_ok hbad fun h' hb role G hn rp fr k=>hgood h' ⟨hb,role,G,[]⟩ hn ⟨⟨rp,RS.new_inv (by omega) (by omega)⟩,⟨rfl,fun id hid=>by unfold RS.here RS.new at hid; simp at hid⟩⟩ k fr
end
end Go.Ev
set_option linter.all false
set_option maxRecDepth 1000000
namespace Go.Ev
open Go.Proofs
section
variable {h h' h2:Hp} {q q' q2:HQ} {s s':RS} {nd:List NodeD} {b t:List Nat} {id:Nat} {R:Value→Hp→Prop}
end
end Go.Ev
