/- The program's list: Push, Slice, Strike, over the heap's graph / The program's list: New, Open, Close, Push; the heap's New; a heap with one list / blob / Printed by a program (own work) out of the loaded functions: what each says of the heap, and that the evaluator says the same / The outright statements' helpers: into, at, made, waste, Eq. No condition but that these are ones. -/
import Derived.Test.YtngcoodbepbhbaaE18
import Derived.Test.YtngcoodbepbhbaaE16
import Derived.Test.YtngcoodbepbhbaaE4
import Derived.Test.YtngcoodbepbhbaaE15
set_option linter.all false
set_option maxRecDepth 1000000
namespace Go.Ev
open Go.Proofs
/-- Lists of bytes that are handed out: new blocks, each its own. -/
def rowSls (cs:List Nat) (rows:List (List Nat)):List Sl:=List.zipWith (fun c (r:List Nat)=>(⟨some (ad c),r.length,r.length⟩:Sl)) cs rows
structure RowsAt (h0 h:Hp) (a:Sl) (M:Mem) (cs:List Nat) (rows:List (List Nat)):Prop where
 sep:Sep h M
 len:cs.length=rows.length
 sl:IsSl 1 M 0 a ((rowSls cs rows).map slV)
 el:∀ (k c:Nat) (r:List Nat),cs[k]?=some c→rows[k]?=some r→M.loc (k + 1)=some c∧M.cont (k + 1)=r.map bv
 no:∀ k,cs.length ≤ k→M.loc (k + 1)=none
 new:∀ b,M.own b→h0.size ≤ b
def strk (b:List Nat):List (List Nat)→Int→List (List Nat) × Nat
 | [],_=>([],0)
 | r :: t,m=>if 0 < m∧r=b then ((strk b t (m - 1)).1,(strk b t (m - 1)).2 + 1) else (r :: (strk b t m).1,(strk b t m).2)
theorem strk_stop (b:List Nat):∀ (l:List (List Nat)) (m:Int),m ≤ 0→strk b l m=(l,0)
 | [],_,_=>rfl
 | r :: t,m,h=>by unfold strk; rw [if_neg (by omega),strk_stop b t m h]
section
variable {h h' h2:Hp} {q q' q2:HQ} {s s' s2:RS} {nd nd' nd2:List NodeD} {n:NodeD} {id lb hn:Nat} {L L' L2:LD} {R:Value→Hp→Prop} {b:List Nat} {ids:List Nat} {h0:Hp} {a:Sl} {M:Mem} {cs:List Nat} {rows:List (List Nat)} {r:List Nat} {c:Nat}
theorem RowsAt.nil (h0 h:Hp):RowsAt h0 h ⟨none,0,0⟩ ⟨fun _=>none,fun _=>[]⟩ [] [] :=
 ⟨⟨fun y b hy=>by (cases hy),fun y z b hy _=>by (cases hy)⟩,rfl,⟨by simp [rowSls],fun _=>⟨rfl,rfl,rfl⟩,fun b hb=>by cases hb⟩,fun k c r hc=>by (cases hc),fun _ _=>rfl,fun b ⟨y,hy⟩=>by cases hy⟩
theorem rowSls_snoc (hl:cs.length=rows.length):rowSls (cs ++ [c]) (rows ++ [r])=rowSls cs rows ++ [⟨some (ad c),r.length,r.length⟩]:=by
 unfold rowSls; rw [List.zipWith_append hl]; rfl
theorem rowSls_len (hl:cs.length=rows.length):(rowSls cs rows).length=rows.length:=by unfold rowSls; simp [hl]
theorem rowSls_get {k:Nat} (hc:cs[k]?=some c) (hr:rows[k]?=some r):(rowSls cs rows)[k]?=some ⟨some (ad c),r.length,r.length⟩:=by
 unfold rowSls; rw [List.getElem?_zipWith,hc,hr]
/-- One more. -/
theorem RowsAt.add (x:RowsAt h0 h a M cs rows) (hn:rows.length ≤ 3000000) (k1:Kept N h h') (row:Row h' c (r.map bv)) (hc:h.size ≤ c) (h0le:h0.size ≤ h.size) {t e:TypeId} {K:Option Addr→Nat→Nat→Hp→Prop}
  (hK:∀ a' c' h2 M',RowsAt h0 h2 ⟨a',a.n + 1,c'⟩ M' (cs ++ [c]) (rows ++ [r])→(∀ i,i < h0.size→h2[i]?=h'[i]?)→h'.size ≤ h2.size→K a' (a.n + 1) c' h2) :
  Let (h'.push (.cells #[.slice (some (ad c)) r.length r.length] t)) fun h2=>appSl e 1 24 #[.slice none 0 0] a.a a.n a.c (some (nb h')) 1 h2 K:=by
 have han:a.n=rows.length:=by have:=x.sl.len; rw [List.length_map,rowSls_len x.len] at this; omega
 have hno:=x.no cs.length (Nat.le_refl _)
 obtain ⟨p1,ch1⟩:=x.sep.renew (x:=cs.length + 1) (ob:=some c) (c:=r.map bv) (k1.mono fun _ _ e=>e.elim) (fun b e=>by obtain rfl:=Option.some.inj e; exact row) fun b e=>.inr (by obtain rfl:=Option.some.inj e; exact hc)
 have sl1:IsSl 1 (M.upd (cs.length + 1) (some c) (r.map bv)) 0 a ((rowSls cs rows).map slV):=x.sl.other (by omega)
 refine sl1.app1 p1 rfl rfl (fun v hv=>by rw [List.mem_singleton.1 hv]; rfl) (by omega) (by omega) fun a' c' h2 ob cc p2 sl2 ch2=>?_
 have own1:∀ b,(M.upd (cs.length + 1) (some c) (r.map bv)).own b→h0.size ≤ b:=fun b ⟨y,hy⟩=>by
  by_cases e:y=cs.length + 1
  ·subst e; rw [Mem.loc_self] at hy; obtain rfl:=Option.some.inj hy; omega
  ·rw [Mem.loc_ne _ _ _ e] at hy; exact x.new b ⟨y,hy⟩
 have sz1:h.size ≤ h'.size:=k1.1
 refine hK a' c' h2 ((M.upd (cs.length + 1) (some c) (r.map bv)).upd 0 ob cc) ⟨p2,by simp [x.len],?_,fun k d u hd hu=>?_,fun k hk=>?_,fun b hb=>?_⟩ (fun i hi=>ch2.1.2 i (by omega) fun hb=>by have:=own1 i hb; omega) ch2.1.1
 ·rw [rowSls_snoc x.len,List.map_append]; exact sl2
 ·rw [Mem.loc_ne _ _ _ (by omega),Mem.cont_ne _ _ _ (by omega)]
  by_cases e:k=cs.length
  ·subst e
   rw [List.getElem?_append_right (Nat.le_refl _),Nat.sub_self] at hd
   rw [x.len,List.getElem?_append_right (Nat.le_refl _),Nat.sub_self] at hu
   obtain rfl:c=d:=Option.some.inj hd
   obtain rfl:r=u:=Option.some.inj hu
   rw [Mem.loc_self,Mem.cont_self]; exact ⟨rfl,rfl⟩
  ·have hk:k < cs.length:=by have:=(List.getElem?_eq_some_iff.1 hd).1; simp at this; omega
   rw [List.getElem?_append_left hk] at hd
   rw [List.getElem?_append_left (by rw [← x.len]; exact hk)] at hu
   rw [Mem.loc_ne _ _ _ (by omega),Mem.cont_ne _ _ _ (by omega)]
   exact x.el k d u hd hu
 ·simp at hk
  rw [Mem.loc_ne _ _ _ (by omega),Mem.loc_ne _ _ _ (by omega)]
  exact x.no k (by omega)
 ·rcases ch2.2 b hb with h | h
  ·exact own1 b h
  ·omega
theorem RowsAt.keepN (x:RowsAt h0 h a M cs rows) (k:Kept N h h'):RowsAt h0 h' a M cs rows:=⟨x.sep.keepN k,x.len,x.sl,x.el,x.no,x.new⟩
theorem lslice (o:Opn h q s nd lb hn L) {i m:Int} (hi64:-9223372036854775808 ≤ i∧i < 9223372036854775808)
  (hbad:¬ InL L.rows.length i m→R (.tuple #[.slice none 0 0,.int .i64 52]) h)
  (hok:∀ a M cs h',InL L.rows.length i m→RowsAt h h' a M cs ((L.rows.drop i.toNat).take m.toNat)→Kept N h h'→R (.tuple #[.slice a.a a.n a.c,.int .i64 0]) h') :
  CallTo Try.prog 15 #[.pointer (some (ad lb)),.int .i64 i,.int .i64 m] h R:=by
 refine f15F_ok ?_
 unfold f15F
 refine lspan o hi64 ⟨_,rfl,?_⟩
 by_cases hin:InL L.rows.length i m
 ·rw [if_pos hin]
  obtain ⟨i,rfl⟩:=Int.eq_ofNat_of_zero_le hin.1
  obtain ⟨m,rfl⟩:=Int.eq_ofNat_of_zero_le hin.2.1
  have hl:=o.len
  have him:i + m ≤ L.rows.length:=by have:=hin.2.2.2; omega
  refine Cond_f rfl (lnode o (by omega) ⟨_,rfl,?_⟩)
  refine f15L1_rule (s9:=⟨none,0,0⟩) (fun p s0 s9 s10 s21 s22 h1=>∃ (k:Nat) (M:Mem) (cs:List Nat),k ≤ m∧p=m - k∧some (ad lb)=s0∧s21=(m:Int)∧s22=(k:Int)∧s10=((s.ref (nx L.ns (i + k)):Nat):Int)∧RowsAt h h1 s9 M cs ((L.rows.drop i).take k)∧Kept N h h1) m
   ⟨0,⟨fun _=>none,fun _=>[]⟩,[],Nat.zero_le _,rfl,rfl,rfl,rfl,rfl,RowsAt.nil h h,Kept.refl _ _⟩ ?_
  rintro p s0 s9 s10 s21 s22 g h1 ⟨k,M,cs,hk,rfl,rfl,rfl,rfl,rfl,x1,k1⟩
  unfold f15L1
  have o1:=o.keepN k1
  refine Cond_dec (fun hlt=>?_) fun hge=>?_
  ·have hlt:k < m:=by omega
   have hr:L.rows[i + k]?=some (L.rows[i + k]'(by omega)):=List.getElem?_eq_getElem (by omega)
   refine lread o1 hr fun c h2 row hc k2=>⟨⟨_,_,_⟩,rfl,?_⟩
   have hlr:((L.rows.drop i).take k).length=k:=by simp; omega
   refine x1.add (by omega) k2 row hc k1.1 fun a' c' h3 M' x3 hold hsz=>?_
   have kk:Kept N h h3:=⟨Nat.le_trans (Nat.le_trans k1.1 k2.1) hsz,fun j hj _=>(hold j hj).trans ((k2.2 j (Nat.lt_of_lt_of_le hj k1.1) _root_.id).trans (k1.2 j hj _root_.id))⟩
   have o3:=o.keepN kk
   refine lget o3.g o3.l (o.c.nn (i + k) (by omega)) (o.hn' (by omega)) (k:=1) rfl rfl ⟨_,rfl,m - (k + 1),by omega,k + 1,M',cs ++ [c],by omega,rfl,rfl,rfl,by rw [wrap_i64' (by omega) (by omega)]; rfl,rfl,?_,kk⟩
   have et:(L.rows.drop i).take (k + 1)=(L.rows.drop i).take k ++ [L.rows[i + k]'(by omega)]:=RS.take_snoc (by rw [List.getElem?_drop]; exact hr)
   rw [et]
   exact x3
  ·have:k=m:=by omega
   subst this
   exact hok s9 M cs h1 hin x1 k1
 ·rw [if_neg hin]
  exact Cond_t rfl (hbad hin)
/-! ### Strike -/
theorem equal_ok {a c:Sl} {l m:List Nat} (ha:ReadsO h a.a (l.map bv)) (hb:ReadsO h c.a (m.map bv)) (na:a.n=l.length) (nc:c.n=m.length) (bl:Bytes8 l) (bm:Bytes8 m) (hR:R (.bool (decide (l=m))) h) :
  CallTo Try.prog 55 #[.slice a.a a.n a.c,.slice c.a c.n c.c] h R:=by
 refine f55F_ok ?_
 unfold f55F
 refine ⟨_,spells_of ha na bl,_,spells_of hb nc bm,?_⟩
 rw [ofL_eq bl bm]
 exact hR
theorem lstrike (o:Opn h q s nd lb hn L) {fr:Bool} {m0:Int} (hm64:-9223372036854775808 ≤ m0∧m0 < 9223372036854775808) {a:Sl} (sr:Src h q a b)
  (hok:∀ h' q' s' nd' L',Aft h q s nd L h' q' s' nd' L'→s'.roots=s.roots→L'.rows=(if fr=true then (strk b L.rows m0).1 else (strk b L.rows.reverse m0).1.reverse) →
   R (.tuple #[.int .i64 ((if fr=true then (strk b L.rows m0).2 else (strk b L.rows.reverse m0).2:Nat):Int),.int .i64 0]) h') :
  CallTo Try.prog 26 #[.pointer (some (ad lb)),.bool fr,.int .i64 m0,.slice a.a a.n a.c] h R:=by
 refine f26F_ok ?_
 unfold f26F
 have:=o.pos
 have hl:=o.len
 refine PtrOk_mk ⟨_,o.l.c1,Cond_f (by rw [beq_eq_false_iff_ne]; omega) ?_⟩
 cases fr with
 | true =>
  refine Cond_t rfl ?_
  unfold f26K1
  refine lref o ⟨_,rfl,lget o.g o.l o.c.hn o.hh (k:=0) rfl rfl ⟨_,rfl,?_⟩⟩
  refine f26L1_rule (s3:=a) (fun p s0 s2 s3 s11 s12 s13 h1=>∃ (done rest:List (List Nat)) (cnt:Nat) (q1:HQ) (s1:RS) (nd1:List NodeD) (L1:LD),p=rest.length∧some (ad lb)=s0∧m0=s2∧a=s3∧s11=1∧s12=(cnt:Int)∧Aft h q s nd L h1 q1 s1 nd1 L1∧s1.roots=s.roots ∧
    L1.rows=done ++ rest∧s13=((s1.ref (nx L1.ns done.length):Nat):Int)∧cnt + rest.length ≤ L.rows.length∧strk b L.rows m0=(done ++ (strk b rest (m0 - cnt)).1,cnt + (strk b rest (m0 - cnt)).2)) L.rows.length
   ⟨[],L.rows,0,q,s,nd,L,rfl,rfl,rfl,rfl,rfl,rfl,Aft.refl o o.g (Ex.refl _ _),rfl,rfl,rfl,by omega,by simp⟩ ?_
  rintro p s0 s2 s3 s11 s12 s13 g h1 ⟨done,rest,cnt,q1,s1,nd1,L1,rfl,rfl,rfl,rfl,rfl,rfl,a1,er1,hr1,rfl,hcl,hst⟩
  have o1:=a1.opn o
  have hln:=o1.c.ln
  have hlen:L1.rows.length=done.length + rest.length:=by rw [hr1,List.length_append]
  have fin:strk b rest (m0 - cnt)=(rest,0)→R (.tuple #[.int .i64 (cnt:Int),.int .i64 0]) h1:=fun e=>by
   rw [e] at hst
   have:=hok h1 q1 s1 nd1 L1 a1 er1 (by rw [if_pos rfl,hst,hr1])
   rw [if_pos rfl,hst] at this
   exact this
  unfold f26L1 f26K2
  cases rest with
  | nil =>
   have hz:nx L1.ns done.length=0:=nx_out (by simp at hlen; omega)
   rw [hz,RS.ref_zero]
   exact Cond_f rfl (Cond_f rfl (fin rfl))
  | cons r rest =>
   have hdl:done.length < L1.rows.length:=by simp at hlen; omega
   have hr:L1.rows[done.length]?=some r:=by rw [hr1,List.getElem?_append_right (Nat.le_refl _),Nat.sub_self]; rfl
   have hh:=o1.hn' hdl
   refine Cond_t (by rw [bne_iff_ne]; have:=RS.ref_nz o1.g.v hh; omega) (Cond_dec (fun hlt=>?_) fun hge=>fin (strk_stop _ _ _ (by omega)))
   refine lget o1.g o1.l (o1.c.nn _ hdl) hh (k:=1) rfl rfl ⟨_,rfl,lread o1 hr fun c h2 row hc k2=>⟨⟨_,_,_⟩,rfl,?_⟩⟩
   have sr2:=(sr.ex a1.ex).ex (Ex.of_kept k2 fun b hb=>o1.g.st.fr hb)
   have ok:=(o1.c.bn _ r hr).2
   refine equal_ok (a:=⟨some (ad c),r.length,r.length⟩) (row_reads row) sr2.rd rfl sr2.n ok.b8 sr2.b8 ⟨_,rfl,Cond_dec (fun heq=>?_) fun hne=>?_⟩
   ·have o2:=o1.keepN k2
    have a2:=a1.keepN k2
    refine lunlink o2 hdl fun h3 q3 s3 nd3 f3 v3=>⟨_,rfl,rest.length,by simp,done,rest,cnt + 1,q3,s3,nd3,⟨L1.hd,del L1.ns done.length,del L1.bs done.length,del L1.rows done.length⟩,rfl,rfl,rfl,rfl,rfl,?_,a2.step (unlink_aft o2 hdl f3 v3) (by rw [f3.rt,er1]; omega),f3.rt.trans er1,?_,?_,?_,?_⟩
    ·rw [wrap_i64' (by omega) (by simp at hcl; omega)]; rfl
    ·show del L1.rows done.length=_
     rw [hr1]; unfold del
     rw [List.take_left' rfl,List.drop_append,List.drop_eq_nil_of_le (by omega),List.nil_append,Nat.add_sub_cancel_left]
     rfl
    ·show _=((s3.ref (nx (del L1.ns done.length) done.length):Nat):Int)
     rw [nx_del,if_neg (by omega),f3.al.ref]
    ·simp at hcl; omega
    ·rw [hst]
     have e:strk b (r :: rest) (m0 - cnt)=((strk b rest (m0 - (cnt + 1:Nat))).1,(strk b rest (m0 - (cnt + 1:Nat))).2 + 1):=by
      conv=>lhs; unfold strk
      rw [if_pos ⟨by omega,heq⟩,show m0 - (cnt:Int) - 1=m0 - ((cnt + 1:Nat):Int) by omega]
     rw [e]
     show (done ++ _,cnt + (_ + 1))=_
     congr 1; omega
   ·refine ⟨rest.length,by simp,done ++ [r],rest,cnt,q1,s1,nd1,L1,rfl,rfl,rfl,rfl,rfl,rfl,a1.keepN k2,er1,by rw [hr1]; simp,by rw [List.length_append]; rfl,by simp at hcl; omega,?_⟩
    rw [hst]
    have e:strk b (r :: rest) (m0 - cnt)=(r :: (strk b rest (m0 - cnt)).1,(strk b rest (m0 - cnt)).2):=by
     conv=>lhs; unfold strk
     rw [if_neg fun z=>hne z.2]
    rw [e]
    simp
 | false =>
  refine Cond_f rfl ?_
  unfold f26K1
  refine lref o ⟨_,rfl,lget o.g o.l o.c.hn o.hh (k:=1) rfl rfl ⟨_,rfl,?_⟩⟩
  refine f26L1_rule (s3:=a) (fun p s0 s2 s3 s11 s12 s13 h1=>∃ (done rest:List (List Nat)) (cnt:Nat) (q1:HQ) (s1:RS) (nd1:List NodeD) (L1:LD),p=rest.length∧some (ad lb)=s0∧m0=s2∧a=s3∧s11=0∧s12=(cnt:Int)∧Aft h q s nd L h1 q1 s1 nd1 L1∧s1.roots=s.roots ∧
    L1.rows=rest.reverse ++ done∧s13=((s1.ref (pv L1.ns rest.length):Nat):Int)∧cnt + rest.length ≤ L.rows.length∧strk b L.rows.reverse m0=(done.reverse ++ (strk b rest (m0 - cnt)).1,cnt + (strk b rest (m0 - cnt)).2)) L.rows.length
   ⟨[],L.rows.reverse,0,q,s,nd,L,by simp,rfl,rfl,rfl,rfl,rfl,Aft.refl o o.g (Ex.refl _ _),rfl,by simp,by rw [List.length_reverse],by simp,by simp⟩ ?_
  rintro p s0 s2 s3 s11 s12 s13 g h1 ⟨done,rest,cnt,q1,s1,nd1,L1,rfl,rfl,rfl,rfl,rfl,rfl,a1,er1,hr1,rfl,hcl,hst⟩
  have o1:=a1.opn o
  have hln:=o1.c.ln
  have hlen:L1.rows.length=rest.length + done.length:=by rw [hr1,List.length_append,List.length_reverse]
  have fin:strk b rest (m0 - cnt)=(rest,0)→R (.tuple #[.int .i64 (cnt:Int),.int .i64 0]) h1:=fun e=>by
   rw [e] at hst
   have:=hok h1 q1 s1 nd1 L1 a1 er1 (by rw [if_neg (by simp),hst,hr1]; simp)
   rw [if_neg (by simp),hst] at this
   exact this
  unfold f26L1 f26K2
  cases rest with
  | nil =>
   have hz:pv L1.ns ([]:List (List Nat)).length=0:=rfl
   rw [hz,RS.ref_zero]
   exact Cond_f rfl (Cond_f rfl (fin rfl))
  | cons r rest =>
   have hdl:rest.length < L1.rows.length:=by simp at hlen; omega
   have hp:pv L1.ns (r :: rest).length=nx L1.ns rest.length:=pv_eq _ (by simp)
   have hr:L1.rows[rest.length]?=some r:=by rw [hr1]; simp
   have hh:=o1.hn' hdl
   rw [hp]
   refine Cond_t (by rw [bne_iff_ne]; have:=RS.ref_nz o1.g.v hh; omega) (Cond_dec (fun hlt=>?_) fun hge=>fin (strk_stop _ _ _ (by omega)))
   refine lget o1.g o1.l (o1.c.nn _ hdl) hh (k:=0) rfl rfl ⟨_,rfl,lread o1 hr fun c h2 row hc k2=>⟨⟨_,_,_⟩,rfl,?_⟩⟩
   have sr2:=(sr.ex a1.ex).ex (Ex.of_kept k2 fun b hb=>o1.g.st.fr hb)
   have ok:=(o1.c.bn _ r hr).2
   refine equal_ok (a:=⟨some (ad c),r.length,r.length⟩) (row_reads row) sr2.rd rfl sr2.n ok.b8 sr2.b8 ⟨_,rfl,Cond_dec (fun heq=>?_) fun hne=>?_⟩
   ·have o2:=o1.keepN k2
    have a2:=a1.keepN k2
    refine lunlink o2 hdl fun h3 q3 s3 nd3 f3 v3=>⟨_,rfl,rest.length,by simp,done,rest,cnt + 1,q3,s3,nd3,⟨L1.hd,del L1.ns rest.length,del L1.bs rest.length,del L1.rows rest.length⟩,rfl,rfl,rfl,rfl,rfl,?_,a2.step (unlink_aft o2 hdl f3 v3) (by rw [f3.rt,er1]; omega),f3.rt.trans er1,?_,?_,?_,?_⟩
    ·rw [wrap_i64' (by omega) (by simp at hcl; omega)]; rfl
    ·show del L1.rows rest.length=_
     rw [hr1]; unfold del
     rw [List.reverse_cons,List.append_assoc,List.take_left' (by simp),List.drop_append,List.drop_eq_nil_of_le (by simp),List.nil_append,List.length_reverse,Nat.add_sub_cancel_left]
     rfl
    ·show _=((s3.ref (pv (del L1.ns rest.length) rest.length):Nat):Int)
     have:pv (del L1.ns rest.length) rest.length=pv L1.ns rest.length:=by
      by_cases h0:rest.length=0
      ·rw [h0]; rfl
      ·rw [pv_eq _ h0,pv_eq _ h0,nx_del,if_pos (by omega)]
     rw [this,f3.al.ref]
    ·simp at hcl; omega
    ·rw [hst]
     have e:strk b (r :: rest) (m0 - cnt)=((strk b rest (m0 - (cnt + 1:Nat))).1,(strk b rest (m0 - (cnt + 1:Nat))).2 + 1):=by
      conv=>lhs; unfold strk
      rw [if_pos ⟨by omega,heq⟩,show m0 - (cnt:Int) - 1=m0 - ((cnt + 1:Nat):Int) by omega]
     rw [e]
     show (_ ++ _,cnt + (_ + 1))=_
     congr 1; omega
   ·refine ⟨rest.length,by simp,r :: done,rest,cnt,q1,s1,nd1,L1,rfl,rfl,rfl,rfl,rfl,rfl,a1.keepN k2,er1,by rw [hr1]; simp,rfl,by simp at hcl; omega,?_⟩
    rw [hst]
    have e:strk b (r :: rest) (m0 - cnt)=(r :: (strk b rest (m0 - cnt)).1,(strk b rest (m0 - cnt)).2):=by
     conv=>lhs; unfold strk
     rw [if_neg fun z=>hne z.2]
    rw [e]
    simp
end
end Go.Ev
set_option linter.all false
set_option maxRecDepth 1000000
namespace Go.Ev
open Go.Proofs
section
variable {h h' h2:Hp} {q q' q2:HQ} {s s' s2:RS} {nd nd' nd2:List NodeD} {n:NodeD} {id lb hn:Nat} {L L' L2:LD} {R:Value→Hp→Prop} {b:List Nat} {ids:List Nat} {lim:Nat}
/-- A handle more for an object that is there, and a List for it. -/
theorem lhold (x:Gs h q s nd) (hh:s.here id) (hrl:s.roots.length < 99999999)
  (hR:∀ h' q' s' lb,Gs h' q' s' nd→s'.Alk s→s'.roots=rootL s.roots id→Ex h q h' q'→Lst h' q' lb (RS.freeAt s.roots + 1)→h.size ≤ lb→R (.tuple #[.pointer (some (ad lb)),.int .i64 0]) h') :
  CallTo Try.prog 41 #[.pointer (some (ad q.hb)),uv (s.ref id)] h R:=by
 refine f41F_ok ?_
 unfold f41F
 refine q_root x (.inr hh) (by omega) fun h1 q1 s1 g1 al1 er1 ex1=>⟨_,_,rfl,Cond_f rfl (Let_mk fun h2 e2=>?_)⟩
 have k2:Kept N h1 h2:=e2 ▸ kept_push _ _ _
 have hout:q1.role h1.size=.out:=g1.st.fr (Nat.le_refl _)
 have row:Row h2 h1.size [.pointer (some (ad q1.hb)),.int .i64 ((RS.freeAt s.roots + 1:Nat):Int)]:=by
  rw [ex1.1]; exact e2 ▸ row_new h1 #[.pointer (some (ad q.hb)),.int .i64 ((RS.freeAt s.roots + 1:Nat):Int)] _
 exact hR h2 q1 s1 h1.size (g1.keepN k2) al1 er1 (ex1.trans (Ex.of_kept k2 fun b hb=>g1.st.fr hb)) ⟨row,hout⟩ ex1.2.1
theorem lnew (x:Gs h q s nd) (hrl:s.roots.length < 99999999)
  (hfull:∀ h' q' s',Gs h' q' s' nd→s'.roots=s.roots→s'.limit=s.limit→Ex h q h' q'→(∀ ids,Lv nd s.roots ids→¬ roomK s.limit (1 + RS.liveS nd ids) (RS.liveB nd ids) 4)→R (.tuple #[.pointer none,.int .i64 31]) h')
  (hok:∀ h' q' s' lb,Opn h' q' s' (nd ++ [⟨2,[0,0],[0]⟩]) lb (RS.freeAt s.roots + 1) ⟨nd.length,[],[],[]⟩→s'.roots=rootL s.roots nd.length→s'.limit=s.limit→Ex h q h' q'→h.size ≤ lb→(∀ ids,Lv nd s.roots ids→roomK s.limit (1 + RS.liveS nd ids) (RS.liveB nd ids) 4)→R (.tuple #[.pointer (some (ad lb)),.int .i64 0]) h') :
  CallTo Try.prog 12 #[.pointer (some (ad q.hb))] h R:=by
 refine f12F_ok ?_
 unfold f12F
 refine q_alloc x (⟨⟨by omega,by omega⟩,⟨by omega,by omega⟩,by omega,by omega⟩:Shape ((2:Nat):Int) ((2:Nat):Int) ((1:Nat):Int)) rfl rfl rfl (fun h1 q1 s1 g1 er1 el1 ex1 hr=>⟨_,_,rfl,Cond_t rfl (hfull h1 q1 s1 g1 er1 el1 ex1 fun ids lv z=>hr ((x.room lv 2 1).2 z))⟩) fun h1 q1 s1 g1 er1 el1 hh1 ex1 hr=>⟨_,_,rfl,Cond_f rfl ?_⟩
 rw [← ex1.1]
 refine lhold g1 hh1 (by rw [er1]; exact hrl) fun h2 q2 s2 lb g2 al2 er2 ex2 l2 hlb=>⟨_,_,rfl,?_⟩
 rw [er1] at er2 l2
 have hf:=RS.freeAt_le s.roots
 have hp:=x.pos
 have hget:(nd ++ [⟨2,List.replicate 2 0,List.replicate 1 0⟩]:List NodeD)[nd.length]?=some ⟨2,[0,0],[0]⟩:=by rw [List.getElem?_append_right (Nat.le_refl _),Nat.sub_self]; rfl
 refine hok h2 q2 s2 lb ⟨g2,l2,by omega,by omega,?_,⟨rfl,rfl,hget,fun i hi=>absurd hi (by simp),fun i r hr=>(by cases hr),by simp,fun y hy=>?_⟩⟩ er2 (al2.lim.trans el1) (ex1.trans ex2) (Nat.le_trans ex1.2.1 hlb) fun ids lv=>(x.room lv 2 1).1 hr
 ·rw [er2,rootL_get]; exact if_pos rfl
 ·have:y=nd.length:=by simpa using hy
  omega
/-- Close of an open list. -/
theorem lclose (o:Opn h q s nd lb hn L)
  (hR:∀ h1 q1 s1 h2,Ex h q h1 q1→Kept (fun b=>b=lb) h1 h2→Gs h2 q1 s1 nd→s1.Alk s→s1.roots=s.roots.set (hn - 1) none→Lst h2 q1 lb 0→q1.role lb=.out→R (.tuple #[]) h2) :
  CallTo Try.prog 38 #[.pointer (some (ad lb))] h R:=by
 refine f38F_ok ?_
 unfold f38F
 have:=o.pos
 refine PtrOk_mk ⟨_,o.l.c1,Cond_t (by rw [bne_iff_ne]; omega) (PtrOk_mk ⟨_,o.l.c0,PtrOk_mk ⟨_,o.l.c1,q_drop o.g o.pos o.held fun h1 q1 s1 g1 al1 er1 ex1=>⟨_,rfl,PtrOk_mk ?_⟩⟩⟩)⟩
 have l1:=o.l.ex ex1
 refine row_st l1.row (i:=1) (add_ad _ _) (by simp) fun h2 row2 k2=>?_
 exact hR h1 q1 s1 h2 ex1 k2 (g1.keepO k2 fun b e=>e ▸ l1.out) al1 er1 ⟨row2,l1.out⟩ l1.out
theorem lclose0 (l:Lst h q lb 0) (hR:R (.tuple #[]) h):CallTo Try.prog 38 #[.pointer (some (ad lb))] h R:=by
 refine f38F_ok ?_
 unfold f38F
 exact PtrOk_mk ⟨_,l.c1,Cond_f rfl hR⟩
theorem lpush (o:Opn h q s nd lb hn L) {a:Sl} (sr:Src h q a b) (hbl:b.length < 140737488355328) (hrl:s.roots.length < 99999999) {fr:Bool}
  (hlong:4096 < b.length→∀ h' q',Aft h q s nd L h' q' s nd L→R (.int .i64 41) h')
  (hfull:b.length ≤ 4096→∀ h' q' s' nd',Aft h q s nd L h' q' s' nd' L→(∀ ids,Lv nd s.roots ids→¬ room2 s.limit (1 + RS.liveS nd ids) (RS.liveB nd ids) (2 + wordsN b.length))→R (.int .i64 31) h')
  (hok:∀ h' q' s' nd' L',Okb b→Aft h q s nd L h' q' s' nd' L'→L'.rows=(if fr=true then b :: L.rows else L.rows ++ [b])→(∀ ids,Lv nd s.roots ids→room2 s.limit (1 + RS.liveS nd ids) (RS.liveB nd ids) (2 + wordsN b.length))→R (.int .i64 0) h') :
  CallTo Try.prog 13 #[.pointer (some (ad lb)),.bool fr,.slice a.a a.n a.c] h R:=by
 have hl:=o.len
 refine f13F_ok ?_
 unfold f13F
 cases fr with
 | true =>
  have hin:InL L.rows.length 0 0:=⟨by omega,by omega,by omega,by omega⟩
  refine Cond_t rfl (linsert o sr hbl hrl ⟨by omega,by omega⟩ (fun hb=>absurd hin hb) (fun _ hl h' q' a'=>⟨_,rfl,hlong hl h' q' a'⟩) (fun _ hl h' q' s' nd' a' hr=>⟨_,rfl,hfull hl h' q' s' nd' a' hr⟩) fun h' q' s' nd' L' _ ok a' er hr=>⟨_,rfl,hok h' q' s' nd' L' ok a' ?_ hr⟩)
  rw [er,if_pos rfl]; rfl
 | false =>
  have hin:InL L.rows.length (L.rows.length:Nat) 0:=⟨by omega,by omega,by omega,by omega⟩
  refine Cond_f rfl (llen o ⟨_,rfl,linsert o sr hbl hrl ⟨by omega,by omega⟩ (fun hb=>absurd hin hb) (fun _ hl h' q' a'=>⟨_,rfl,hlong hl h' q' a'⟩) (fun _ hl h' q' s' nd' a' hr=>⟨_,rfl,hfull hl h' q' s' nd' a' hr⟩) fun h' q' s' nd' L' _ ok a' er hr=>⟨_,rfl,hok h' q' s' nd' L' ok a' ?_ hr⟩⟩)
  rw [er,if_neg (by simp),Int.toNat_natCast]; unfold ins; simp
/-! ### Live words of lists -/
def rowS (rows:List (List Nat)):Nat:=(rows.map fun r=>cntS (2 + wordsN r.length)).sum
def rowB (rows:List (List Nat)):Nat:=(rows.map fun r=>cntB (2 + wordsN r.length)).sum
theorem sum_at {α:Type} {f:Nat→Nat} {g:α→Nat} {l:List Nat} {m:List α} (hl:l.length=m.length) (h:∀ (i x:Nat) (y:α),l[i]?=some x→m[i]?=some y→f x=g y):(l.map f).sum=(m.map g).sum:=by
 congr 1
 apply List.ext_getElem?
 intro i
 rw [List.getElem?_map,List.getElem?_map]
 by_cases hi:i < l.length
 ·rw [List.getElem?_eq_getElem hi,List.getElem?_eq_getElem (by omega)]
  exact congrArg some (h i _ _ (List.getElem?_eq_getElem hi) (List.getElem?_eq_getElem (by omega)))
 ·rw [List.getElem?_eq_none (by omega),List.getElem?_eq_none (by omega)]; rfl
theorem szAt_of {m:NodeD} {x:Nat} (h:nd[x]?=some m):RS.szAt nd x=m.sz:=by unfold RS.szAt; rw [h]; rfl
theorem live_all (c:L.ok nd):RS.liveS nd L.all=4 + 4 * L.rows.length + rowS L.rows∧RS.liveB nd L.all=rowB L.rows:=by
 have nxs:∀ (l:List Nat) (i x:Nat),l[i]?=some x→nx l i=x:=fun l i x h=>by unfold nx; rw [List.getD_eq_getElem?_getD,h]; rfl
 have eh:RS.szAt nd L.hd=4:=szAt_of c.hn
 have en:∀ i x,L.ns[i]?=some x→RS.szAt nd x=4:=fun i x hx=>by
  have hi:i < L.rows.length:=by rw [← c.ln]; exact (List.getElem?_eq_some_iff.1 hx).1
  have:=szAt_of (c.nn i hi)
  rw [nxs _ _ _ hx] at this
  exact this
 have eb:∀ (i x:Nat) (r:List Nat),L.bs[i]?=some x→L.rows[i]?=some r→RS.szAt nd x=2 + wordsN r.length:=fun i x r hx hr=>by
  obtain ⟨h1,ok⟩:=c.bn i r hr
  rw [nxs _ _ _ hx] at h1
  rw [szAt_of h1]
  show 1 + 0 + (blobRaws r).length=_
  rw [ok.is.len]; omega
 have s1:∀ (f:Nat→Nat) (m:Nat) (l:List Nat),(∀ x ∈ l,f x=m)→(l.map f).sum=m * l.length:=fun f m l=>by
  induction l with
  | nil=>intro _; simp
  | cons y l ih =>
   intro h
   rw [List.map_cons,List.sum_cons,h y (List.mem_cons_self ..),ih fun x hx=>h x (List.mem_cons_of_mem _ hx),List.length_cons,Nat.mul_succ]
   omega
 have hS:RS.liveS nd L.ns=4 * L.rows.length∧RS.liveB nd L.ns=0:=by
  have q:∀ x ∈ L.ns,RS.szAt nd x=4:=fun x hx=>by obtain ⟨i,hi⟩:=List.mem_iff_getElem?.1 hx; exact en i x hi
  constructor
  ·unfold RS.liveS; rw [s1 _ 4 _ fun x hx=>by rw [q x hx]; rfl,c.ln]
  ·unfold RS.liveB; rw [s1 _ 0 _ fun x hx=>by rw [q x hx]; rfl,Nat.zero_mul]
 have hB:RS.liveS nd L.bs=rowS L.rows∧RS.liveB nd L.bs=rowB L.rows:=by
  constructor
  ·exact sum_at c.lb fun i x r hx hr=>by show (if RS.szAt nd x ≤ 64 then _ else _)=_; rw [eb i x r hx hr]; rfl
  ·exact sum_at c.lb fun i x r hx hr=>by show (if RS.szAt nd x ≤ 64 then _ else _)=_; rw [eb i x r hx hr]; rfl
 have e1:L.all=[L.hd] ++ (L.ns ++ L.bs):=rfl
 have hH:RS.liveS nd [L.hd]=4∧RS.liveB nd [L.hd]=0:=by
  unfold RS.liveS RS.liveB
  simp [eh]
 rw [e1,(live_append _ _).1,(live_append _ _).1,(live_append _ _).2,(live_append _ _).2,hS.1,hS.2,hB.1,hB.2,hH.1,hH.2]
 omega
/-- A heap on which one list lies, that one handle holds. -/
structure Solo (h:Hp) (q:HQ) (s:RS) (nd:List NodeD) (lb:Nat) (L:LD) (lim:Nat):Prop where
 o:Opn h q s nd lb 1 L
 rt:∀ j,s.roots.getD j none=if j=0 then some L.hd else none
 rl:s.roots.length ≤ 2
 lim:s.limit=lim
theorem Solo.free (x:Solo h q s nd lb L lim):RS.freeAt s.roots ≤ 1:=by
 have h0:=x.rt 0
 have h1:=x.rt 1
 revert h0 h1
 generalize s.roots=l
 intro h0 h1
 match l with
 | []=>simp at h0
 | [_]=>exact RS.freeAt_le _
 | a :: none :: l=>cases a with
  | none=>simp at h0
  | some _=>show 0 + 1 ≤ 1; omega
 | a :: some b :: l=>simp at h1
theorem Solo.lv (x:Solo h q s nd lb L lim):Lv nd s.roots L.all:=by
 refine Lv.of x.o.c.dis (fun id hid h0=>?_) (fun y hy m hm z hz h0=>x.o.c.closed hy hm hz h0) fun y hy=>x.o.rch hy
 obtain ⟨j,hj⟩:=mem_roots.1 hid
 rw [x.rt] at hj
 split at hj
 ·rw [← Option.some.inj hj]; exact List.mem_cons_self ..
 ·cases hj
theorem Solo.aft (x:Solo h q s nd lb L lim) (a:Aft h q s nd L h' q' s' nd' L'):Solo h' q' s' nd' lb L' lim :=
 ⟨a.opn x.o,fun j=>by rw [a.req,x.rt,a.hd],by have:=a.rlen; have:=x.free; have:=x.rl; omega,a.lim.trans x.lim⟩
theorem Solo.keepN (x:Solo h q s nd lb L lim) (k:Kept N h h'):Solo h' q s nd lb L lim:=⟨x.o.keepN k,x.rt,x.rl,x.lim⟩
/-- What a heap with one list has room for. -/
theorem Solo.room (x:Solo h q s nd lb L lim) {z:Nat}:(∀ ids,Lv nd s.roots ids→room2 s.limit (1 + RS.liveS nd ids) (RS.liveB nd ids) z) ↔ room2 lim (5 + 4 * L.rows.length + rowS L.rows) (rowB L.rows) z:=by
 obtain ⟨e1,e2⟩:=live_all x.o.c
 constructor
 ·intro h
  have:=h _ x.lv
  rw [e1,e2,x.lim] at this
  rw [show 5 + 4 * L.rows.length + rowS L.rows=1 + (4 + 4 * L.rows.length + rowS L.rows) by omega]
  exact this
 ·intro h ids lv
  have hp:ids.Perm L.all:=(List.perm_ext_iff_of_nodup lv.nod x.lv.nod).2 fun y=>(lv.iff y).trans (x.lv.iff y).symm
  rw [(live_perm hp).1,(live_perm hp).2,e1,e2,x.lim,show 1 + (4 + 4 * L.rows.length + rowS L.rows)=5 + 4 * L.rows.length + rowS L.rows by omega]
  exact h
/-! ### The heap's New, and a list on it -/
theorem hn_ok {i:Int} (hbad:¬ (128 ≤ i∧i ≤ 1048576)→R (.tuple #[.pointer none,.int .i64 30]) h)
  (hgood:∀ h' q',128 ≤ i∧i ≤ 1048576→Gs h' q' (RS.new i.toNat) [⟨0,[],[]⟩]→Kept N h h'→(∀ b,q'.role b ≠ .out→h.size ≤ b)→R (.tuple #[.pointer (some (ad q'.hb)),.int .i64 0]) h'):CallTo Try.prog 9 #[.int .i64 i] h R :=
 hnew_ok hbad fun h' hb role G hn rp fr k=>hgood h' ⟨hb,role,G,[]⟩ hn ⟨⟨rp,RS.new_inv (by omega) (by omega)⟩,⟨rfl,fun id hid=>by unfold RS.here RS.new at hid; simp at hid⟩⟩ k fr
theorem lv_new:Lv [⟨0,[],[]⟩] (RS.new lim).roots []:=⟨List.nodup_nil,fun x=>⟨nofun,fun r=>by
 exfalso
 induction r with
 | root a b=>unfold RS.new at a; simp at a
 | next _ _ _ _ ih=>exact ih⟩⟩
/-- The first list of a heap. -/
theorem snew (x:Gs h q (RS.new lim) [⟨0,[],[]⟩]) (h1:128 ≤ lim) (h2:lim ≤ 1048576)
  (hok:∀ h' q' s' nd' lb L',Solo h' q' s' nd' lb L' lim→L'.rows=[]→Ex h q h' q'→h.size ≤ lb→R (.tuple #[.pointer (some (ad lb)),.int .i64 0]) h'):CallTo Try.prog 12 #[.pointer (some (ad q.hb))] h R:=by
 refine lnew x (by show 0 < _; omega) (fun h' q' s' g er el ex hr=>absurd ?_ (hr [] lv_new)) fun h' q' s' lb o er el ex hlb hr=>hok h' q' s' _ lb ⟨1,[],[],[]⟩ ⟨o,fun j=>?_,?_,el⟩ rfl ex hlb
 ·show roomK lim (1 + 0) 0 4
  unfold roomK
  rw [if_pos (by omega)]; omega
 ·rw [er]
  show (rootL [] 1).getD j none=_
  rw [rootL_get]
  show (if j=0 then _ else _)=_
  by_cases e:j=0
  ·rw [if_pos e,if_pos e]
  ·rw [if_neg e,if_neg e]; simp
 ·rw [er]; show (rootL [] 1).length ≤ 2; unfold rootL RS.freeAt; simp
end
end Go.Ev
set_option linter.all false
set_option maxRecDepth 1000000
namespace Go.Ev
open Go.Proofs
section
variable {h h' h2:Hp} {q q' q2:HQ} {s s':RS} {nd:List NodeD} {b t:List Nat} {id:Nat} {R:Value→Hp→Prop}
end
end Go.Ev
set_option linter.all false
set_option maxRecDepth 100000
namespace Go.Ev
open Go.Proofs
/- larder/larderlaw5.ChainFull -/
def lv3 (m:Nat):List Nat:=if m=12 then [1,3,5,7,8,9] else if m=15 then [1,3,5,7,8,9,10] else if m=27 then [1,3,5,7,8,9,10,13,15] else []
/- larder/larderlaw5.ChainTurns -/
/- larder/larderlaw5.ChainStrikes -/
/- larder/larderlaw5.ChainGreat -/
/- larder/larderlaw5.ChainShaken -/
/- larder/larderlaw5.within -/
noncomputable def body10:Code:=(Try.f10.body).getD .skip
def lv10 (m:Nat):List Nat:=[]
def f10F (a0:Int) (a1:Int) (h:Hp) (R:Value→Hp→Prop):Prop :=
 a1 ≠ 0∧a1 ≠ 0∧R ((.int .i64 (Int.tmod (IntKind.wrap .i64 ((Int.tmod a0 a1) + a1)) a1):Value)) h
theorem f10F_eq (a0:Int) (a1:Int) (h:Hp) (R:Value→Hp→Prop):evF Try.prog tab lv10 Try.f10 body10 [] [.int .i64 a0,.int .i64 a1] h R=f10F a0 a1 h R:=by kernel_rfl
theorem f10F_ok {a0:Int} {a1:Int} {h:Hp} {R:Value→Hp→Prop} (hF:f10F a0 a1 h R):CallTo Try.prog 10 #[.int .i64 a0,.int .i64 a1] h R :=
 callTo_of_ev (lv:=lv10) (hints:=[]) (c:=body10) (args:=[.int .i64 a0,.int .i64 a1]) mixed tab_ok Try.func10 (by kernel_rfl) (by kernel_rfl) (by rw [f10F_eq]; exact hF)
/- larder/larderlaw5.num -/
noncomputable def body11:Code:=(Try.f11.body).getD .skip
def lv11 (m:Nat):List Nat:=[]
def f11F (a0:Int) (h:Hp) (R:Value→Hp→Prop):Prop :=
 R (.int .i64 a0:Value) h
theorem f11F_eq (a0:Int) (h:Hp) (R:Value→Hp→Prop):evF Try.prog tab lv11 Try.f11 body11 [] [.int .i64 a0] h R=f11F a0 h R:=by kernel_rfl
theorem f11F_ok {a0:Int} {h:Hp} {R:Value→Hp→Prop} (hF:f11F a0 h R):CallTo Try.prog 11 #[.int .i64 a0] h R :=
 callTo_of_ev (lv:=lv11) (hints:=[]) (c:=body11) (args:=[.int .i64 a0]) mixed tab_ok Try.func11 (by kernel_rfl) (by kernel_rfl) (by rw [f11F_eq]; exact hF)
/- larder/larderlaw5.make1 -/
/- larder/larderlaw5.holds -/
/- larder/larderlaw5.rest -/
/- larder/larderlaw5.great -/
/- larder/larderlaw5.three -/
/- larder/larderlaw5.told -/
noncomputable def body33:Code:=(Try.f33.body).getD .skip
def lv33 (m:Nat):List Nat:=if m=30 then [5,16,18] else []
def f33I1 (J:Nat→Sl→Sl→Int→Hp→Prop) (n:Nat) (env:List Value) (h:Hp):Prop:=lenIs env 207 (DecL env 5 fun s5=>DecL env 16 fun s16=>DecI .i64 env 18 fun s18=>J n s5 s16 s18 h)
def f33L1 (J1:Nat→Sl→Sl→Int→Hp→Prop) (n1:Nat) (s5:Sl) (s16:Sl) (s18:Int) (g:Nat→Value) (h:Hp) (R:Value→Hp→Prop):Prop :=
 Cond (decide (s18 < (((s16.n:Nat):Int)))) ((0 ≤ s18∧s18 < ((s16.n:Nat):Int))∧PtrOk s16.a fun p175=>∃ t176:Sl,cell h (p175.add (s18.toNat * 1))=some (.slice t176.a t176.n t176.c)∧(0 ≤ s18∧s18 < ((s16.n:Nat):Int))∧PtrOk s16.a fun p181=>∃ t182:Sl,cell h (p181.add (s18.toNat * 1))=some (.slice t182.a t182.n t182.c)∧0 ≤ (8:Int)∧Let (h.push (.cells #[.int .u8 (IntKind.wrap .u8 (((t176.n:Nat):Int))),.int .u8 (IntKind.wrap .u8 (Int.fdiv (((t182.n:Nat):Int)) (2 ^ (min (8:Int).toNat (IntKind.bits .i64)))))] 5)) fun h37=>appSl 5 1 1 #[.int .u8 0] s5.a s5.n s5.c (some (nb h)) 2 h37 fun ra38 rn38 rc38 h38=>(0 ≤ s18∧s18 < ((s16.n:Nat):Int))∧PtrOk s16.a fun p191=>∃ t192:Sl,cell h38 (p191.add (s18.toNat * 1))=some (.slice t192.a t192.n t192.c)∧appSl 5 1 1 #[.int .u8 0] ra38 rn38 rc38 t192.a t192.n h38 fun ra39 rn39 rc39 h39=>∃ m,m < n1∧J1 m ⟨ra39,rn39,rc39⟩ s16 (IntKind.wrap .i64 (s18 + (1:Int))) h39) (R (.slice s5.a s5.n s5.c:Value) h)
theorem f33L1_eq (J1:Nat→Sl→Sl→Int→Hp→Prop) (n1:Nat) (s5:Sl) (s16:Sl) (s18:Int) (g:Nat→Value) (h:Hp) (R:Value→Hp→Prop):(evC Try.prog tab lv33 (sub [1,1,0,1,0,1,1,1,1,1,1,1,1,1,1,1,1,1,1,1,0,1,1,1,0,0] body33)) (loopK (f33I1 J1) n1 (contAt Try.prog tab lv33 [1,1,0,1,0,1,1,1,1,1,1,1,1,1,1,1,1,1,1,1,0,1,1,1,0] body33 [] (bodyK Try.prog Try.f33 [] R))) (mkEnv 207 [(5,.slice s5.a s5.n s5.c),(16,.slice s16.a s16.n s16.c),(18,.int .i64 s18)] g) h=f33L1 J1 n1 s5 s16 s18 g h R:=by kernel_rfl
theorem f33I1_at (J:Nat→Sl→Sl→Int→Hp→Prop) (n:Nat) (s5:Sl) (s16:Sl) (s18:Int) (g:Nat→Value) (h:Hp):f33I1 J n (mkEnv 207 [(5,.slice s5.a s5.n s5.c),(16,.slice s16.a s16.n s16.c),(18,.int .i64 s18)] g) h=J n s5 s16 s18 h:=by kernel_rfl
theorem f33L1_rule  {R:Value→Hp→Prop} {s5:Sl} {s16:Sl} {s18:Int} {h0:Hp} (J:Nat→Sl→Sl→Int→Hp→Prop) (n0:Nat) (hi:J n0 s5 s16 s18 h0)
  (hr:∀ n s5 s16 s18 g h,J n s5 s16 s18 h→f33L1  J n s5 s16 s18 g h R):LoopEv (evC Try.prog tab lv33 (sub [1,1,0,1,0,1,1,1,1,1,1,1,1,1,1,1,1,1,1,1,0,1,1,1,0,0] body33)) (contAt Try.prog tab lv33 [1,1,0,1,0,1,1,1,1,1,1,1,1,1,1,1,1,1,1,1,0,1,1,1,0] body33 [] (bodyK Try.prog Try.f33 [] R)) [(5,.slice s5.a s5.n s5.c),(16,.slice s16.a s16.n s16.c),(18,.int .i64 s18)] 207 h0:=by
 refine ⟨f33I1 J,n0,fun g=>by rw [f33I1_at]; exact hi,fun n env h hI=>?_⟩
 clear hi
 clear s5 s16 s18
 obtain ⟨hlen,hI⟩:=Cond_true' hI
 have hlen:env.length=207:=by simpa using hlen
 obtain ⟨s5,es5,hI⟩:=DecL.out hI
 obtain ⟨s16,es16,hI⟩:=DecL.out hI
 obtain ⟨s18,es18,hI⟩:=DecI.out hI
 rw [mkEnv_of (l:=[(5,.slice s5.a s5.n s5.c),(16,.slice s16.a s16.n s16.c),(18,.int .i64 s18)]) hlen (by simp only [List.mem_cons,List.not_mem_nil,or_false,forall_eq_or_imp,forall_eq]; exact ⟨es5,es16,es18⟩)]
 rw [f33L1_eq]
 exact hr n s5 s16 s18 _ h hI
def f33F (a0:Option Addr) (a1_0:Int) (a1_1:Int) (a1_2:Int) (a1_3:Bool) (a1_4:Int) (a1_5:Int) (a1_6:Sl) (h:Hp) (R:Value→Hp→Prop):Prop :=
 Let (h.push (.cells #[.int .i64 a1_0,.int .i64 a1_1,.int .i64 a1_2,.bool a1_3,.int .i64 a1_4,.int .i64 a1_5,.slice a1_6.a a1_6.n a1_6.c] 68)) fun h1=>∃ t21:Int,cell h1 (nb h)=some (.int .i64 t21)∧Let (h1.push (.cells #[.int .u8 (IntKind.wrap .u8 t21)] 5)) fun h2=>∃ t25:Int,cell h2 (nb h)=some (.int .i64 t25)∧Cond (t25 == (5:Int)) (∃ t30:Bool,cell h2 ((nb h).add 3)=some (.bool t30)∧∃ t32:Sl,cell h2 ((nb h).add 6)=some (.slice t32.a t32.n t32.c)∧CallTo Try.prog 13 #[.pointer a0,.bool t30,.slice t32.a t32.n t32.c] h2 fun r h3=>∃ t33:Int,r=.int .i64 t33∧CallTo Try.prog 11 #[.int .i64 t33] h3 fun r h4=>∃ t36:Int,r=.int .i64 t36∧Let (h4.push (.cells #[.int .u8 (IntKind.wrap .u8 t36)] 5)) fun h5=>appSl 5 1 1 #[.int .u8 0] (some (nb h1)) 1 1 (some (nb h4)) 1 h5 fun ra6 rn6 rc6 h6=>R (.slice ra6 rn6 rc6:Value) h6) (Cond (t25 == (8:Int)) (∃ t44:Int,cell h2 ((nb h).add 4)=some (.int .i64 t44)∧∃ t46:Sl,cell h2 ((nb h).add 6)=some (.slice t46.a t46.n t46.c)∧CallTo Try.prog 24 #[.pointer a0,.int .i64 t44,.slice t46.a t46.n t46.c] h2 fun r h7=>∃ t47:Int,r=.int .i64 t47∧CallTo Try.prog 11 #[.int .i64 t47] h7 fun r h8=>∃ t50:Int,r=.int .i64 t50∧Let (h8.push (.cells #[.int .u8 (IntKind.wrap .u8 t50)] 5)) fun h9=>appSl 5 1 1 #[.int .u8 0] (some (nb h1)) 1 1 (some (nb h8)) 1 h9 fun ra10 rn10 rc10 h10=>R (.slice ra10 rn10 rc10:Value) h10) (Cond (t25 == (9:Int)) (∃ t58:Int,cell h2 ((nb h).add 4)=some (.int .i64 t58)∧∃ t60:Sl,cell h2 ((nb h).add 6)=some (.slice t60.a t60.n t60.c)∧CallTo Try.prog 14 #[.pointer a0,.int .i64 t58,.slice t60.a t60.n t60.c] h2 fun r h11=>∃ t61:Int,r=.int .i64 t61∧CallTo Try.prog 11 #[.int .i64 t61] h11 fun r h12=>∃ t64:Int,r=.int .i64 t64∧Let (h12.push (.cells #[.int .u8 (IntKind.wrap .u8 t64)] 5)) fun h13=>appSl 5 1 1 #[.int .u8 0] (some (nb h1)) 1 1 (some (nb h12)) 1 h13 fun ra14 rn14 rc14 h14=>R (.slice ra14 rn14 rc14:Value) h14) (Cond (t25 == (10:Int)) (∃ t72:Int,cell h2 ((nb h).add 4)=some (.int .i64 t72)∧∃ t74:Int,cell h2 ((nb h).add 5)=some (.int .i64 t74)∧CallTo Try.prog 19 #[.pointer a0,.int .i64 t72,.int .i64 t74] h2 fun r h15=>∃ t75:Int,r=.int .i64 t75∧CallTo Try.prog 11 #[.int .i64 t75] h15 fun r h16=>∃ t78:Int,r=.int .i64 t78∧Let (h16.push (.cells #[.int .u8 (IntKind.wrap .u8 t78)] 5)) fun h17=>appSl 5 1 1 #[.int .u8 0] (some (nb h1)) 1 1 (some (nb h16)) 1 h17 fun ra18 rn18 rc18 h18=>R (.slice ra18 rn18 rc18:Value) h18) (Cond (t25 == (6:Int)) (∃ t87:Bool,cell h2 ((nb h).add 3)=some (.bool t87)∧CallTo Try.prog 22 #[.pointer a0,.bool t87] h2 fun r h19=>∃ t88_0:Sl,∃ t88_1:Int,r=.tuple #[.slice t88_0.a t88_0.n t88_0.c,.int .i64 t88_1]∧CallTo Try.prog 11 #[.int .i64 t88_1] h19 fun r h20=>∃ t93:Int,r=.int .i64 t93∧Let (h20.push (.cells #[.int .u8 (IntKind.wrap .u8 t93)] 5)) fun h21=>appSl 5 1 1 #[.int .u8 0] (some (nb h1)) 1 1 (some (nb h20)) 1 h21 fun ra22 rn22 rc22 h22=>appSl 5 1 1 #[.int .u8 0] ra22 rn22 rc22 t88_0.a t88_0.n h22 fun ra23 rn23 rc23 h23=>R (.slice ra23 rn23 rc23:Value) h23) (Cond (t25 == (7:Int)) (∃ t105:Int,cell h2 ((nb h).add 4)=some (.int .i64 t105)∧CallTo Try.prog 23 #[.pointer a0,.int .i64 t105] h2 fun r h24=>∃ t106_0:Sl,∃ t106_1:Int,r=.tuple #[.slice t106_0.a t106_0.n t106_0.c,.int .i64 t106_1]∧CallTo Try.prog 11 #[.int .i64 t106_1] h24 fun r h25=>∃ t111:Int,r=.int .i64 t111∧Let (h25.push (.cells #[.int .u8 (IntKind.wrap .u8 t111)] 5)) fun h26=>appSl 5 1 1 #[.int .u8 0] (some (nb h1)) 1 1 (some (nb h25)) 1 h26 fun ra27 rn27 rc27 h27=>appSl 5 1 1 #[.int .u8 0] ra27 rn27 rc27 t106_0.a t106_0.n h27 fun ra28 rn28 rc28 h28=>R (.slice ra28 rn28 rc28:Value) h28) (Cond (t25 == (11:Int)) (∃ t123:Bool,cell h2 ((nb h).add 3)=some (.bool t123)∧∃ t125:Int,cell h2 ((nb h).add 5)=some (.int .i64 t125)∧∃ t127:Sl,cell h2 ((nb h).add 6)=some (.slice t127.a t127.n t127.c)∧CallTo Try.prog 26 #[.pointer a0,.bool t123,.int .i64 t125,.slice t127.a t127.n t127.c] h2 fun r h29=>∃ t128_0:Int,∃ t128_1:Int,r=.tuple #[.int .i64 t128_0,.int .i64 t128_1]∧CallTo Try.prog 11 #[.int .i64 t128_1] h29 fun r h30=>∃ t133:Int,r=.int .i64 t133∧0 ≤ (8:Int)∧Let (h30.push (.cells #[.int .u8 (IntKind.wrap .u8 t133),.int .u8 (IntKind.wrap .u8 t128_0),.int .u8 (IntKind.wrap .u8 (Int.fdiv t128_0 (2 ^ (min (8:Int).toNat (IntKind.bits .i64)))))] 5)) fun h31=>appSl 5 1 1 #[.int .u8 0] (some (nb h1)) 1 1 (some (nb h30)) 3 h31 fun ra32 rn32 rc32 h32=>R (.slice ra32 rn32 rc32:Value) h32) (Cond (t25 == (12:Int)) (∃ t147:Int,cell h2 ((nb h).add 4)=some (.int .i64 t147)∧∃ t149:Int,cell h2 ((nb h).add 5)=some (.int .i64 t149)∧CallTo Try.prog 15 #[.pointer a0,.int .i64 t147,.int .i64 t149] h2 fun r h33=>∃ t150_0:Sl,∃ t150_1:Int,r=.tuple #[.slice t150_0.a t150_0.n t150_0.c,.int .i64 t150_1]∧CallTo Try.prog 11 #[.int .i64 t150_1] h33 fun r h34=>∃ t155:Int,r=.int .i64 t155∧0 ≤ (8:Int)∧Let (h34.push (.cells #[.int .u8 (IntKind.wrap .u8 t155),.int .u8 (IntKind.wrap .u8 (((t150_0.n:Nat):Int))),.int .u8 (IntKind.wrap .u8 (Int.fdiv (((t150_0.n:Nat):Int)) (2 ^ (min (8:Int).toNat (IntKind.bits .i64)))))] 5)) fun h35=>appSl 5 1 1 #[.int .u8 0] (some (nb h1)) 1 1 (some (nb h34)) 3 h35 fun ra36 rn36 rc36 h36=>LoopEv (evC Try.prog tab lv33 (sub [1,1,0,1,0,1,1,1,1,1,1,1,1,1,1,1,1,1,1,1,0,1,1,1,0,0] body33)) (contAt Try.prog tab lv33 [1,1,0,1,0,1,1,1,1,1,1,1,1,1,1,1,1,1,1,1,0,1,1,1,0] body33 [] (bodyK Try.prog Try.f33 [] R)) [(5,.slice ra36 rn36 rc36),(16,.slice t150_0.a t150_0.n t150_0.c),(18,.int .i64 0)] 207 h36) (Cond (t25 == (4:Int)) (CallTo Try.prog 16 #[.pointer a0] h2 fun r h40=>∃ t197:Int,r=.int .i64 t197∧0 ≤ (8:Int)∧Let (h40.push (.cells #[.int .u8 (IntKind.wrap .u8 t197),.int .u8 (IntKind.wrap .u8 (Int.fdiv t197 (2 ^ (min (8:Int).toNat (IntKind.bits .i64)))))] 5)) fun h41=>appSl 5 1 1 #[.int .u8 0] (some (nb h1)) 1 1 (some (nb h40)) 2 h41 fun ra42 rn42 rc42 h42=>R (.slice ra42 rn42 rc42:Value) h42) (R ((.slice (some (nb h1)) 1 1:Value)) h2)))))))))
theorem f33F_eq (a0:Option Addr) (a1_0:Int) (a1_1:Int) (a1_2:Int) (a1_3:Bool) (a1_4:Int) (a1_5:Int) (a1_6:Sl) (h:Hp) (R:Value→Hp→Prop):evF Try.prog tab lv33 Try.f33 body33 [] [.pointer a0,.agg #[.int .i64 a1_0,.int .i64 a1_1,.int .i64 a1_2,.bool a1_3,.int .i64 a1_4,.int .i64 a1_5,.slice a1_6.a a1_6.n a1_6.c]] h R=f33F a0 a1_0 a1_1 a1_2 a1_3 a1_4 a1_5 a1_6 h R:=by kernel_rfl
theorem f33F_ok {a0:Option Addr} {a1_0:Int} {a1_1:Int} {a1_2:Int} {a1_3:Bool} {a1_4:Int} {a1_5:Int} {a1_6:Sl} {h:Hp} {R:Value→Hp→Prop} (hF:f33F a0 a1_0 a1_1 a1_2 a1_3 a1_4 a1_5 a1_6 h R):CallTo Try.prog 33 #[.pointer a0,.agg #[.int .i64 a1_0,.int .i64 a1_1,.int .i64 a1_2,.bool a1_3,.int .i64 a1_4,.int .i64 a1_5,.slice a1_6.a a1_6.n a1_6.c]] h R :=
 callTo_of_ev (lv:=lv33) (hints:=[]) (c:=body33) (args:=[.pointer a0,.agg #[.int .i64 a1_0,.int .i64 a1_1,.int .i64 a1_2,.bool a1_3,.int .i64 a1_4,.int .i64 a1_5,.slice a1_6.a a1_6.n a1_6.c]]) mixed tab_ok Try.func33 (by kernel_rfl) (by kernel_rfl) (by rw [f33F_eq]; exact hF)
/- larder/larderlaw5.begin -/
noncomputable def body34:Code:=(Try.f34.body).getD .skip
def lv34 (m:Nat):List Nat:=[]
def f34K3  (x0:Int) (x60:Bool) (h:Hp) (R:Value→Hp→Prop):Prop :=
 Cond x60 (R (.pointer none:Value) h) (CallTo Try.prog 60 #[.int .i64 x0] h fun r h10=>∃ t63:Int,r=.int .i64 t63∧CallTo Try.prog 9 #[.int .i64 t63] h10 fun r h11=>∃ t64_0:Option Addr,∃ t64_1:Int,r=.tuple #[.pointer t64_0,.int .i64 t64_1]∧CallTo Try.prog 11 #[.int .i64 t64_1] h11 fun r h12=>∃ t68:Int,r=.int .i64 t68∧Cond (t68 != (0:Int)) (R (.pointer none:Value) h12) (Cond (Option.isNone t64_0) (R (.pointer none:Value) h12) (CallTo Try.prog 60 #[.int .i64 x0] h12 fun r h13=>∃ t76:Int,r=.int .i64 t76∧CallTo Try.prog 61 #[.int .i64 t76] h13 fun r h14=>∃ t77:Option Addr,r=.pointer t77∧Let (h14.push (.cells #[.pointer t64_0,.pointer none,.pointer none,.pointer none,.pointer none,.pointer t77,.slice none 0 0,.slice none 0 0,.int .i64 0,.slice none 0 0,.slice none 0 0,.int .i64 0,.slice none 0 0,.slice none 0 0,.int .i64 0,.slice none 0 0,.slice none 0 0,.int .i64 0,.slice none 0 0,.slice none 0 0,.int .i64 0,.slice none 0 0,.slice none 0 0,.int .i64 0,.slice none 0 0,.slice none 0 0,.int .i64 0,.slice none 0 0,.slice none 0 0,.int .i64 0,.slice none 0 0,.slice none 0 0,.int .i64 0,.slice none 0 0,.slice none 0 0,.int .i64 0,.int .i64 0,.int .i64 0,.int .i64 0,.slice none 0 0,.slice none 0 0,.slice none 0 0,.slice none 0 0,.slice none 0 0,.slice none 0 0,.slice none 0 0,.slice none 0 0,.slice none 0 0,.slice none 0 0,.slice none 0 0,.slice none 0 0,.slice none 0 0,.slice none 0 0,.slice none 0 0,.slice none 0 0,.slice none 0 0,.slice none 0 0,.slice none 0 0,.slice none 0 0,.slice none 0 0,.slice none 0 0,.slice none 0 0,.slice none 0 0,.slice none 0 0,.slice none 0 0,.slice none 0 0,.slice none 0 0,.slice none 0 0,.slice none 0 0,.slice none 0 0,.slice none 0 0,.slice none 0 0,.slice none 0 0,.slice none 0 0,.slice none 0 0,.slice none 0 0,.slice none 0 0,.slice none 0 0,.slice none 0 0,.slice none 0 0,.slice none 0 0,.slice none 0 0,.slice none 0 0,.slice none 0 0,.slice none 0 0,.slice none 0 0,.slice none 0 0,.slice none 0 0,.slice none 0 0,.slice none 0 0,.slice none 0 0,.slice none 0 0,.slice none 0 0,.slice none 0 0,.slice none 0 0,.slice none 0 0,.slice none 0 0,.slice none 0 0,.slice none 0 0,.slice none 0 0,.slice none 0 0,.slice none 0 0,.slice none 0 0] 91)) fun h15=>R ((.pointer (some (nb h14)):Value)) h15)))
def f34K2  (x0:Int) (x5:Option Addr) (x33:Bool) (h:Hp) (R:Value→Hp→Prop):Prop :=
 Cond x33 (R (.pointer none:Value) h) (Let (h.push (.cells #[.int .u8 97,.int .u8 98] 5)) fun h5=>PtrOk (some (nb h)) fun p36=>Let (markH h5 p36.block) fun h6=>CallTo Try.prog 13 #[.pointer x5,.bool true,.slice (some (nb h)) 2 2] h6 fun r h7=>∃ t37:Int,r=.int .i64 t37∧CallTo Try.prog 23 #[.pointer x5,.int .i64 0] h7 fun r h8=>∃ t40_0:Sl,∃ t40_1:Int,r=.tuple #[.slice t40_0.a t40_0.n t40_0.c,.int .i64 t40_1]∧CallTo Try.prog 11 #[.int .i64 t37] h8 fun r h9=>∃ t44:Int,r=.int .i64 t44∧Cond (t44 != (0:Int)) (f34K3  x0 true h9 R) (CallTo Try.prog 11 #[.int .i64 t40_1] h9 fun r h16=>∃ t48:Int,r=.int .i64 t48∧Cond (t48 != (0:Int)) (f34K3  x0 true h16 R) (CallTo Try.prog 59 #[.slice t40_0.a t40_0.n t40_0.c,.string ⟨#[97,98]⟩] h16 fun r h17=>∃ t53:Bool,r=.bool t53∧Cond (!t53) (f34K3  x0 true h17 R) (CallTo Try.prog 16 #[.pointer x5] h17 fun r h18=>∃ t58:Int,r=.int .i64 t58∧f34K3  x0 (t58 != (1:Int)) h18 R))))
def f34K1  (x0:Int) (x3:Option Addr) (x21:Bool) (h:Hp) (R:Value→Hp→Prop):Prop :=
 Cond x21 (R (.pointer none:Value) h) (CallTo Try.prog 12 #[.pointer x3] h fun r h3=>∃ t24_0:Option Addr,∃ t24_1:Int,r=.tuple #[.pointer t24_0,.int .i64 t24_1]∧CallTo Try.prog 11 #[.int .i64 t24_1] h3 fun r h4=>∃ t28:Int,r=.int .i64 t28∧Cond (t28 != (0:Int)) (f34K2  x0 t24_0 true h4 R) (f34K2  x0 t24_0 (Option.isNone t24_0) h4 R))
def f34F (a0:Int) (h:Hp) (R:Value→Hp→Prop):Prop :=
 CallTo Try.prog 9 #[.int .i64 2000] h fun r h1=>∃ t12_0:Option Addr,∃ t12_1:Int,r=.tuple #[.pointer t12_0,.int .i64 t12_1]∧CallTo Try.prog 11 #[.int .i64 t12_1] h1 fun r h2=>∃ t16:Int,r=.int .i64 t16∧Cond (t16 != (0:Int)) (f34K1  a0 t12_0 true h2 R) (f34K1  a0 t12_0 (Option.isNone t12_0) h2 R)
theorem f34F_eq (a0:Int) (h:Hp) (R:Value→Hp→Prop):evF Try.prog tab lv34 Try.f34 body34 [] [.int .i64 a0] h R=f34F a0 h R:=by kernel_rfl
theorem f34F_ok {a0:Int} {h:Hp} {R:Value→Hp→Prop} (hF:f34F a0 h R):CallTo Try.prog 34 #[.int .i64 a0] h R :=
 callTo_of_ev (lv:=lv34) (hints:=[]) (c:=body34) (args:=[.int .i64 a0]) mixed tab_ok Try.func34 (by kernel_rfl) (by kernel_rfl) (by rw [f34F_eq]; exact hF)
/- larder/larderlaw5.rowsOf -/
noncomputable def body36:Code:=(Try.f36.body).getD .skip
def lv36 (m:Nat):List Nat:=[]
def f36F (a0:Option Addr) (h:Hp) (R:Value→Hp→Prop):Prop :=
 CallTo Try.prog 16 #[.pointer a0] h fun r h1=>∃ t8:Int,r=.int .i64 t8∧CallTo Try.prog 15 #[.pointer a0,.int .i64 0,.int .i64 t8] h1 fun r h2=>∃ t9_0:Sl,∃ t9_1:Int,r=.tuple #[.slice t9_0.a t9_0.n t9_0.c,.int .i64 t9_1]∧R (.slice t9_0.a t9_0.n t9_0.c:Value) h2
theorem f36F_eq (a0:Option Addr) (h:Hp) (R:Value→Hp→Prop):evF Try.prog tab lv36 Try.f36 body36 [] [.pointer a0] h R=f36F a0 h R:=by kernel_rfl
theorem f36F_ok {a0:Option Addr} {h:Hp} {R:Value→Hp→Prop} (hF:f36F a0 h R):CallTo Try.prog 36 #[.pointer a0] h R :=
 callTo_of_ev (lv:=lv36) (hints:=[]) (c:=body36) (args:=[.pointer a0]) mixed tab_ok Try.func36 (by kernel_rfl) (by kernel_rfl) (by rw [f36F_eq]; exact hF)
/- larder/larderlaw5.limit -/
noncomputable def body60:Code:=(Try.f60.body).getD .skip
def lv60 (m:Nat):List Nat:=[]
def f60F (a0:Int) (h:Hp) (R:Value→Hp→Prop):Prop :=
 CallTo Try.prog 10 #[.int .i64 a0,.int .i64 1048449] h fun r h1=>∃ t4:Int,r=.int .i64 t4∧R ((.int .i64 (IntKind.wrap .i64 ((128:Int) + t4)):Value)) h1
theorem f60F_eq (a0:Int) (h:Hp) (R:Value→Hp→Prop):evF Try.prog tab lv60 Try.f60 body60 [] [.int .i64 a0] h R=f60F a0 h R:=by kernel_rfl
theorem f60F_ok {a0:Int} {h:Hp} {R:Value→Hp→Prop} (hF:f60F a0 h R):CallTo Try.prog 60 #[.int .i64 a0] h R :=
 callTo_of_ev (lv:=lv60) (hints:=[]) (c:=body60) (args:=[.int .i64 a0]) mixed tab_ok Try.func60 (by kernel_rfl) (by kernel_rfl) (by rw [f60F_eq]; exact hF)
end Go.Ev
set_option linter.all false
set_option maxRecDepth 100000
namespace Go.Ev
open Go.Proofs
/- larder/larderref0.Eq -/
noncomputable def body18:Code:=(Try.f18.body).getD .skip
def lv18 (m:Nat):List Nat:=[]
def f18F (a0:Sl) (a1:Sl) (h:Hp) (R:Value→Hp→Prop):Prop :=
 CallTo Try.prog 51 #[.slice a0.a a0.n a0.c,.slice a1.a a1.n a1.c] h fun r h1=>∃ t7:Int,r=.int .i64 t7∧R ((.bool (t7 == (0:Int)):Value)) h1
theorem f18F_eq (a0:Sl) (a1:Sl) (h:Hp) (R:Value→Hp→Prop):evF Try.prog tab lv18 Try.f18 body18 [] [.slice a0.a a0.n a0.c,.slice a1.a a1.n a1.c] h R=f18F a0 a1 h R:=by kernel_rfl
theorem f18F_ok {a0:Sl} {a1:Sl} {h:Hp} {R:Value→Hp→Prop} (hF:f18F a0 a1 h R):CallTo Try.prog 18 #[.slice a0.a a0.n a0.c,.slice a1.a a1.n a1.c] h R :=
 callTo_of_ev (lv:=lv18) (hints:=[]) (c:=body18) (args:=[.slice a0.a a0.n a0.c,.slice a1.a a1.n a1.c]) mixed tab_ok Try.func18 (by kernel_rfl) (by kernel_rfl) (by rw [f18F_eq]; exact hF)
/- larder/larderref0.EqLists -/
/- larder/larderref0.Cmp -/
noncomputable def body51:Code:=(Try.f51.body).getD .skip
def lv51 (m:Nat):List Nat:=if m=2 then [0,1,5] else []
def f51I1 (J:Nat→Sl→Sl→Int→Hp→Prop) (n:Nat) (env:List Value) (h:Hp):Prop:=lenIs env 46 (DecL env 0 fun s0=>DecL env 1 fun s1=>DecI .i64 env 5 fun s5=>J n s0 s1 s5 h)
def f51K1 (J1:Nat→Sl→Sl→Int→Hp→Prop) (n1:Nat) (x0:Sl) (x1:Sl) (x5:Int) (x15:Bool) (h:Hp) (R:Value→Hp→Prop):Prop :=
 Cond x15 ((0 ≤ x5∧x5 < ((x0.n:Nat):Int))∧PtrOk x0.a fun p20=>∃ t21:Int,cell h (p20.add (x5.toNat * 1))=some (.int .u8 t21)∧(0 ≤ x5∧x5 < ((x1.n:Nat):Int))∧PtrOk x1.a fun p24=>∃ t25:Int,cell h (p24.add (x5.toNat * 1))=some (.int .u8 t25)∧Cond (decide (t21 < t25)) (R ((.int .i64 (-1):Value)) h) ((0 ≤ x5∧x5 < ((x0.n:Nat):Int))∧PtrOk x0.a fun p29=>∃ t30:Int,cell h (p29.add (x5.toNat * 1))=some (.int .u8 t30)∧(0 ≤ x5∧x5 < ((x1.n:Nat):Int))∧PtrOk x1.a fun p33=>∃ t34:Int,cell h (p33.add (x5.toNat * 1))=some (.int .u8 t34)∧Cond (decide (t30 > t34)) (R (.int .i64 1:Value) h) (∃ m,m < n1∧J1 m x0 x1 (IntKind.wrap .i64 (x5 + (1:Int))) h))) (Cond (decide ((((x0.n:Nat):Int)) < (((x1.n:Nat):Int)))) (R ((.int .i64 (-1):Value)) h) (Cond (decide ((((x0.n:Nat):Int)) > (((x1.n:Nat):Int)))) (R (.int .i64 1:Value) h) (R (.int .i64 0:Value) h)))
def f51L1 (J1:Nat→Sl→Sl→Int→Hp→Prop) (n1:Nat) (s0:Sl) (s1:Sl) (s5:Int) (g:Nat→Value) (h:Hp) (R:Value→Hp→Prop):Prop :=
 Cond (decide (s5 < (((s0.n:Nat):Int)))) (f51K1 J1 n1 s0 s1 s5 (decide (s5 < (((s1.n:Nat):Int)))) h R) (f51K1 J1 n1 s0 s1 s5 false h R)
theorem f51L1_eq (J1:Nat→Sl→Sl→Int→Hp→Prop) (n1:Nat) (s0:Sl) (s1:Sl) (s5:Int) (g:Nat→Value) (h:Hp) (R:Value→Hp→Prop):(evC Try.prog tab lv51 (sub [1,0,1,0,0] body51)) (loopK (f51I1 J1) n1 (contAt Try.prog tab lv51 [1,0,1,0] body51 [] (bodyK Try.prog Try.f51 [] R))) (mkEnv 46 [(0,.slice s0.a s0.n s0.c),(1,.slice s1.a s1.n s1.c),(5,.int .i64 s5)] g) h=f51L1 J1 n1 s0 s1 s5 g h R:=by kernel_rfl
theorem f51I1_at (J:Nat→Sl→Sl→Int→Hp→Prop) (n:Nat) (s0:Sl) (s1:Sl) (s5:Int) (g:Nat→Value) (h:Hp):f51I1 J n (mkEnv 46 [(0,.slice s0.a s0.n s0.c),(1,.slice s1.a s1.n s1.c),(5,.int .i64 s5)] g) h=J n s0 s1 s5 h:=by kernel_rfl
theorem f51L1_rule  {R:Value→Hp→Prop} {s0:Sl} {s1:Sl} {s5:Int} {h0:Hp} (J:Nat→Sl→Sl→Int→Hp→Prop) (n0:Nat) (hi:J n0 s0 s1 s5 h0)
  (hr:∀ n s0 s1 s5 g h,J n s0 s1 s5 h→f51L1  J n s0 s1 s5 g h R):LoopEv (evC Try.prog tab lv51 (sub [1,0,1,0,0] body51)) (contAt Try.prog tab lv51 [1,0,1,0] body51 [] (bodyK Try.prog Try.f51 [] R)) [(0,.slice s0.a s0.n s0.c),(1,.slice s1.a s1.n s1.c),(5,.int .i64 s5)] 46 h0:=by
 refine ⟨f51I1 J,n0,fun g=>by rw [f51I1_at]; exact hi,fun n env h hI=>?_⟩
 clear hi
 clear s0 s1 s5
 obtain ⟨hlen,hI⟩:=Cond_true' hI
 have hlen:env.length=46:=by simpa using hlen
 obtain ⟨s0,es0,hI⟩:=DecL.out hI
 obtain ⟨s1,es1,hI⟩:=DecL.out hI
 obtain ⟨s5,es5,hI⟩:=DecI.out hI
 rw [mkEnv_of (l:=[(0,.slice s0.a s0.n s0.c),(1,.slice s1.a s1.n s1.c),(5,.int .i64 s5)]) hlen (by simp only [List.mem_cons,List.not_mem_nil,or_false,forall_eq_or_imp,forall_eq]; exact ⟨es0,es1,es5⟩)]
 rw [f51L1_eq]
 exact hr n s0 s1 s5 _ h hI
def f51F (a0:Sl) (a1:Sl) (h:Hp) (R:Value→Hp→Prop):Prop :=
 LoopEv (evC Try.prog tab lv51 (sub [1,0,1,0,0] body51)) (contAt Try.prog tab lv51 [1,0,1,0] body51 [] (bodyK Try.prog Try.f51 [] R)) [(0,.slice a0.a a0.n a0.c),(1,.slice a1.a a1.n a1.c),(5,.int .i64 0)] 46 h
theorem f51F_eq (a0:Sl) (a1:Sl) (h:Hp) (R:Value→Hp→Prop):evF Try.prog tab lv51 Try.f51 body51 [] [.slice a0.a a0.n a0.c,.slice a1.a a1.n a1.c] h R=f51F a0 a1 h R:=by kernel_rfl
theorem f51F_ok {a0:Sl} {a1:Sl} {h:Hp} {R:Value→Hp→Prop} (hF:f51F a0 a1 h R):CallTo Try.prog 51 #[.slice a0.a a0.n a0.c,.slice a1.a a1.n a1.c] h R :=
 callTo_of_ev (lv:=lv51) (hints:=[]) (c:=body51) (args:=[.slice a0.a a0.n a0.c,.slice a1.a a1.n a1.c]) mixed tab_ok Try.func51 (by kernel_rfl) (by kernel_rfl) (by rw [f51F_eq]; exact hF)
/- larder/larderref0.Is -/
noncomputable def body59:Code:=(Try.f59.body).getD .skip
def lv59 (m:Nat):List Nat:=[]
def f59F (a0:Sl) (a1:ByteArray) (h:Hp) (R:Value→Hp→Prop):Prop :=
 a1.size < 2 ^ 62∧∀ c7:Nat,a1.size ≤ c7→c7 < 2 ^ 63→Let (h.push (.cells ((a1.data.map fun b=>Value.int .u8 b.toNat) ++ Array.replicate (c7 - a1.size) (.int .u8 0)) 5 (c7,c7 + 1))) fun h1=>CallTo Try.prog 18 #[.slice a0.a a0.n a0.c,.slice (some (nb h)) a1.size c7] h1 fun r h2=>∃ t8:Bool,r=.bool t8∧R (.bool t8:Value) h2
theorem f59F_eq (a0:Sl) (a1:ByteArray) (h:Hp) (R:Value→Hp→Prop):evF Try.prog tab lv59 Try.f59 body59 [] [.slice a0.a a0.n a0.c,.string a1] h R=f59F a0 a1 h R:=by kernel_rfl
theorem f59F_ok {a0:Sl} {a1:ByteArray} {h:Hp} {R:Value→Hp→Prop} (hF:f59F a0 a1 h R):CallTo Try.prog 59 #[.slice a0.a a0.n a0.c,.string a1] h R :=
 callTo_of_ev (lv:=lv59) (hints:=[]) (c:=body59) (args:=[.slice a0.a a0.n a0.c,.string a1]) mixed tab_ok Try.func59 (by kernel_rfl) (by kernel_rfl) (by rw [f59F_eq]; exact hF)
end Go.Ev
set_option linter.all false
set_option maxRecDepth 1000000
namespace Go.Ev
open Go.Proofs
def I64 (n:Int):Prop:=-9223372036854775808 ≤ n∧n < 9223372036854775808
section
variable {h h' h2:Hp} {q q' q2:HQ} {s s':RS} {nd:List NodeD} {b t:List Nat} {id:Nat} {R:Value→Hp→Prop}
theorem cmp_ok {a c:Sl} {l:List Nat} (ha:ReadsO h a.a (l.map bv)) (hb:ReadsO h c.a (l.map bv)) (na:a.n=l.length) (nb:c.n=l.length) (hn:l.length < 9223372036854775807) (hR:R (.int .i64 0) h) :
  CallTo Try.prog 51 #[.slice a.a a.n a.c,.slice c.a c.n c.c] h R:=by
 refine f51F_ok ?_
 unfold f51F
 refine f51L1_rule (s0:=a) (s1:=c) (fun q s0 s1 s5 h'=>∃ i:Nat,i ≤ l.length∧q=l.length - i∧a=s0∧c=s1∧s5=(i:Int)∧h=h') l.length ⟨0,Nat.zero_le _,rfl,rfl,rfl,rfl,rfl⟩ ?_
 rintro q s0 s1 s5 g0 h2 ⟨i,hi,rfl,rfl,rfl,rfl,rfl⟩
 have hend:∀ J,¬ i < l.length→f51K1 J (l.length - i) a c (i:Int) false h R:=fun J _=>by
  unfold f51K1
  refine Cond_f rfl (Cond_f (by rw [na,nb]; simp) (Cond_f (by rw [na,nb]; simp) hR))
 unfold f51L1
 refine Cond_dec (fun hlt=>?_) (fun hlt=>hend _ (by rw [na] at hlt; omega))
 have hil:i < l.length:=by rw [na] at hlt; omega
 have e0:(l.map bv)[i]?=some (bv l[i]):=by rw [List.getElem?_map,List.getElem?_eq_getElem hil]; rfl
 obtain ⟨p,hp,cp⟩:=readsO_get ha e0
 obtain ⟨p',hp',cp'⟩:=readsO_get hb e0
 unfold f51K1
 refine Cond_t (by rw [nb]; exact decide_eq_true (by omega)) ?_
 refine ⟨⟨by omega,hlt⟩,PtrOk_mk' hp ⟨_,by rw [Int.toNat_natCast,Nat.mul_one]; exact cp,⟨by omega,by rw [nb]; omega⟩,PtrOk_mk' hp' ⟨_,by rw [Int.toNat_natCast,Nat.mul_one]; exact cp',Cond_f (by simp) ?_⟩⟩⟩
 refine ⟨⟨by omega,hlt⟩,PtrOk_mk' hp ⟨_,by rw [Int.toNat_natCast,Nat.mul_one]; exact cp,⟨by omega,by rw [nb]; omega⟩,PtrOk_mk' hp' ⟨_,by rw [Int.toNat_natCast,Nat.mul_one]; exact cp',Cond_f (by simp) ?_⟩⟩⟩
 refine ⟨l.length - (i + 1),by omega,i + 1,hil,rfl,rfl,rfl,?_,rfl⟩
 rw [wrap_i64' (by omega) (by omega)]; rfl
/-- The graph only grows. -/
def Gr (nd nd':List NodeD):Prop:=∀ (i:Nat) (n:NodeD),nd[i]?=some n→nd'[i]?=some n
theorem Gr.refl (nd:List NodeD):Gr nd nd:=fun _ _ h=>h
theorem Gr.trans {a b c:List NodeD} (x:Gr a b) (y:Gr b c):Gr a c:=fun i n h=>y i n (x i n h)
theorem Gr.app (nd l:List NodeD):Gr nd (nd ++ l):=fun i n h=>by rw [List.getElem?_append_left (List.getElem?_eq_some_iff.1 h).1]; exact h
/-- Something comes or goes that no handle holds. -/
structure Idle (s:RS) (nd:List NodeD) (s':RS) (nd':List NodeD):Prop where
 sh:s'.Shd nd'
 gr:Gr nd nd'
 rt:s'.roots=s.roots
 lm:s'.limit=s.limit
theorem Idle.refl (sh:s.Shd nd):Idle s nd s nd:=⟨sh,Gr.refl _,rfl,rfl⟩
theorem Idle.trans {s2:RS} {nd' nd2:List NodeD} (a:Idle s nd s' nd') (b:Idle s' nd' s2 nd2):Idle s nd s2 nd2:=⟨b.sh,a.gr.trans b.gr,b.rt.trans a.rt,b.lm.trans a.lm⟩
theorem Idle.collect (v:s.Inv) (sh:s.Shd nd):Idle s nd s.collect nd:=⟨sh.sub (RS.Sub.collect v),Gr.refl _,(RS.Sub.collect v).roots,RS.collect_lim⟩
theorem Idle.alloc (v:s.Inv) (sh:s.Shd nd) (k r w:Int):∃ nd',Idle s nd (s.alloc k r w).1 nd':=by
 have lm:=RS.alloc_lim (s:=s) k r w
 rcases RS.alloc_cases v k r w with ⟨_,e⟩ | ⟨_,t,st,vt,e | ⟨t',ref,e,n⟩⟩
 ·rw [e]; exact ⟨nd,Idle.refl sh⟩
 ·rw [e] at lm ⊢; exact ⟨nd,sh.sub st,Gr.refl _,st.roots,lm⟩
 ·rw [e] at lm ⊢; exact ⟨_,n.shd vt (sh.sub st),Gr.app _ _,n.roots.trans st.roots,lm⟩
end
end Go.Ev
