/- The document's Wait: what it is, and the calls that only tell / The document's Wait: the calls / The document's Wait: Block, Release / The document's Wait: Due. No condition but that these are ones. -/
import Derived.Test.YtfilpdcphgmhgaaP9
import Derived.Lib.SlicesS
set_option linter.all false
set_option maxRecDepth 1000000
namespace Go.Ev
open Go.Proofs
structure DW where
 w:Wtr
 sl:Sl
 pb:Nat
def DW.val (x:DW):List Value:=[.int .i64 x.w.conn,.int .i64 x.w.kind,.slice x.sl.a x.sl.n x.sl.c,.int .u64 x.w.til]
structure DP where
 db:Nat
 sl:Sl
 ob:Option Nat
 ds:List DW
def DP.foot (D:DP) (b:Nat):Prop:=b=D.db ∨ D.ob=some b ∨ ∃ x ∈ D.ds,x.pb=b
structure DRep (h:Hp) (D:DP):Prop where
 row:Row h D.db [.slice D.sl.a D.sl.n D.sl.c]
 at_:SlAt 4 h D.sl.a D.sl.n D.sl.c D.ob (D.ds.flatMap DW.val)
 pl:∀ x ∈ D.ds,PlO h x.sl x.pb x.w.pls∧x.w.pls ≠ []∧x.w.pls.length ≤ 64
 od:D.ob ≠ some D.db
 pb:∀ x ∈ D.ds,x.pb ≠ D.db∧D.ob ≠ some x.pb
 len:D.ds.length ≤ 8
def DTr (h:Hp) (D:DP) (h':Hp) (D':DP):Prop:=Kept D.foot h h'∧∀ b,D'.foot b→D.foot b ∨ h.size ≤ b
theorem dw_len (x:DW):x.val.length=4:=rfl
section
variable {h h':Hp} {D D':DP} {R:Value→Hp→Prop}
theorem PlO.keep {S:Nat→Prop} {s:Sl} {c:Nat} {l:List Plc} (x:PlO h s c l) (k:Kept S h h') (hS:l ≠ []→¬ S c):PlO h' s c l :=
 ⟨x.n,x.at_,fun hne=>by obtain ⟨junk,r,e⟩:=x.row hne; exact ⟨junk,kept_row k r (hS hne),e⟩,x.nl⟩
theorem PlO.lt {s:Sl} {c:Nat} {l:List Plc} (x:PlO h s c l) (hne:l ≠ []):c < h.size:=by obtain ⟨_,r,_⟩:=x.row hne; exact row_lt r
theorem PlO.rd {s:Sl} {c:Nat} {l:List Plc} (x:PlO h s c l):ReadsO h s.a (l.flatMap plC):=by
 by_cases hne:l=[]
 ·rw [x.nl hne,hne]; exact rfl
 ·obtain ⟨junk,r,_⟩:=x.row hne
  rw [x.at_ hne]
  exact reads_head r
theorem PlO.le {s:Sl} {c:Nat} {l:List Plc} (x:PlO h s c l):s.n ≤ s.c:=by
 by_cases hne:l=[]
 ·rw [x.nl hne]; exact Nat.le_refl _
 ·obtain ⟨junk,r,e⟩:=x.row hne
  have:=x.n
  omega
theorem SlAt.rd {sz:Nat} {a:Option Addr} {n c:Nat} {ob:Option Nat} {vs:List Value} (s:SlAt sz h a n c ob vs):ReadsO h a vs:=by
 cases e:ob with
 | none =>
  obtain ⟨h1,h2,h3⟩:=s.nil e
  have:=s.len
  rw [h2,Nat.zero_mul] at this
  rw [List.length_eq_zero_iff.1 this,h1]
  exact rfl
 | some b =>
  obtain ⟨h1,h2,junk,r,_⟩:=s.row b e
  rw [h1]
  exact reads_head r
theorem DRep.keep {S:Nat→Prop} (x:DRep h D) (k:Kept S h h') (hS:∀ b,D.foot b→¬ S b):DRep h' D :=
 ⟨kept_row k x.row (hS _ (.inl rfl)),x.at_.keep fun b hb=>k.2 b (by obtain ⟨_,_,j,r,_⟩:=x.at_.row b hb; exact row_lt r) (hS b (.inr (.inl hb))),
  fun y hy=>⟨(x.pl y hy).1.keep k fun _=>hS _ (.inr (.inr ⟨y,hy,rfl⟩)),(x.pl y hy).2⟩,x.od,x.pb,x.len⟩
theorem DRep.keepN (x:DRep h D) (k:Kept N h h'):DRep h' D:=x.keep k fun _ _=>_root_.id
theorem DRep.foot_lt (x:DRep h D) {b:Nat} (hb:D.foot b):b < h.size:=by
 rcases hb with e | e | ⟨y,hy,e⟩
 ·rw [e]; exact row_lt x.row
 ·obtain ⟨_,_,j,r,_⟩:=x.at_.row b e; exact row_lt r
 ·rw [← e]; exact (x.pl y hy).1.lt (x.pl y hy).2.1
theorem DRep.c0 (x:DRep h D):cell h (ad D.db)=some (.slice D.sl.a D.sl.n D.sl.c):=cell_row x.row 0
theorem DRep.n (x:DRep h D):D.sl.n=D.ds.length:=by
 have:=x.at_.len
 rw [flatMap_len4 D.ds] at this
 omega
where
 flatMap_len4 (l:List DW):(l.flatMap DW.val).length=l.length * 4:=by
  induction l with
  | nil=>rfl
  | cons a l ih=>rw [List.flatMap_cons,List.length_append,ih,dw_len,List.length_cons]; omega
theorem DRep.read (x:DRep h D) {j:Nat} {y:DW} (hj:D.ds[j]?=some y):∃ p,D.sl.a=some p∧cell h (p.add (j * 4))=some (.int .i64 y.w.conn)∧cell h ((p.add (j * 4)).add 1)=some (.int .i64 y.w.kind)∧cell h ((p.add (j * 4)).add 2)=some (.slice y.sl.a y.sl.n y.sl.c)∧cell h ((p.add (j * 4)).add 3)=some (.int .u64 y.w.til):=by
 have rd:=x.at_.rd
 obtain ⟨p,hp,c0⟩:=readsO_get rd ((flat_at dw_len D.ds j 0 y hj (by omega)).trans rfl)
 have g:∀ (i:Nat) (v:Value),i < 4→y.val[i]?=some v→cell h ((p.add (j * 4)).add i)=some v:=fun i v hi hv=>by
  obtain ⟨p',hp',c⟩:=readsO_get rd ((flat_at dw_len D.ds j i y hj hi).trans hv)
  rw [hp] at hp'
  obtain rfl:=Option.some.inj hp'
  rw [add_add]; exact c
 exact ⟨p,hp,c0,g 1 _ (by omega) rfl,g 2 _ (by omega) rfl,g 3 _ (by omega) rfl⟩
theorem nxt8 {i:Nat} (hi:i < 100000):IntKind.wrap .i64 ((i:Int) + 1)=((i + 1:Nat):Int):=by rw [wr (by omega) (by omega)]; rfl
theorem dfind_ok (x:DRep h D) {c:Int} (hno:(∀ y ∈ D.ds,y.w.conn ≠ c)→R (.int .i64 (-1)) h)
  (hyes:∀ j y,D.ds[j]?=some y→y.w.conn=c→(∀ i z,i < j→D.ds[i]?=some z→z.w.conn ≠ c)→R (.int .i64 (j:Nat)) h) :
  CallTo Try.prog 63 #[.pointer (some (ad D.db)),.int .i64 c] h R:=by
 refine f63F_ok ?_
 unfold f63F
 have xn:=x.n
 have xl:=x.len
 refine f63L1_rule (fun m s0 s1 s5 h'=>∃ i:Nat,i ≤ D.ds.length∧m=D.ds.length - i∧s0=some (ad D.db)∧c=s1∧s5=(i:Int)∧(∀ i' z,i' < i→D.ds[i']?=some z→z.w.conn ≠ c)∧h=h') D.ds.length ⟨0,Nat.zero_le _,rfl,rfl,rfl,rfl,fun _ _ hh=>by omega,rfl⟩ ?_
 rintro m s0 s1 s5 g h1 ⟨i,hi,rfl,rfl,rfl,rfl,hb,rfl⟩
 unfold f63L1
 refine PtrOk_mk ⟨_,x.c0,Cond_dec (fun hlt=>PtrOk_mk ⟨_,x.c0,⟨by omega,by omega⟩,?_⟩) fun hge=>?_⟩
 ·obtain ⟨y,hy⟩:∃ y,D.ds[i]?=some y:=⟨_,List.getElem?_eq_getElem (by omega)⟩
  obtain ⟨p,hp,c0,_⟩:=x.read hy
  rw [Int.toNat_natCast]
  refine PtrOk_of hp ⟨_,c0,Cond_b (fun e=>?_) fun e=>?_⟩
  ·exact hyes i y hy (by simpa using e) hb
  ·have e:y.w.conn ≠ c:=by simpa using e
   refine ⟨D.ds.length - (i + 1),by omega,i + 1,by omega,rfl,(by first | rfl | trivial),(by first | rfl | trivial),nxt8 (by omega),fun i' z hi' hz=>?_,rfl⟩
   by_cases e2:i'=i
   ·subst e2
    rw [hy] at hz
    obtain rfl:=Option.some.inj hz
    exact e
   ·exact hb i' z (by omega) hz
 ·refine hno fun y hy=>?_
  obtain ⟨j,hj⟩:=List.mem_iff_getElem?.1 hy
  exact hb j y (by have:=(List.getElem?_eq_some_iff.1 hj).1; omega) hj
theorem dbad_ok {a:Sl} {ps:List Plc} (x:PlIn h a ps) (hl0:ps.length < 2 ^ 62) (hR:R (.bool (decide (ps.length=0 ∨ 64 < ps.length ∨ ps.all fitB=false))) h):CallTo Try.prog 64 #[.slice a.a a.n a.c] h R:=by
 refine f64F_ok (a0:=a) ?_
 unfold f64F
 have xn:=x.n
 refine Cond_b (fun e=>?_) fun e=>?_
 ·have e:a.n=0:=by
   have:((a.n:Nat):Int)=0:=by simpa using e
   omega
  unfold f64K1
  refine Cond_t rfl ?_
  rw [decide_eq_true (.inl (by omega))] at hR
  exact hR
 ·have e:a.n ≠ 0:=fun z=>by rw [z] at e; cases e
  unfold f64K1
  refine Cond_dec (fun e2=>?_) fun e2=>?_
  ·rw [decide_eq_true (.inr (.inl (by omega)))] at hR
   exact hR
  refine f64L1_rule (s0:=a) (fun m s0 s3 h'=>∃ i:Nat,i ≤ ps.length∧m=ps.length - i∧a=s0∧s3=(i:Int)∧(∀ q ∈ ps.take i,fitB q=true)∧h=h') ps.length ⟨0,Nat.zero_le _,rfl,rfl,rfl,nofun,rfl⟩ ?_
  rintro m s0 s3 g h1 ⟨i,hi,rfl,rfl,rfl,hb,rfl⟩
  unfold f64L1
  refine Cond_dec (fun hlt=>⟨⟨by omega,by omega⟩,?_⟩) fun hge=>?_
  ·obtain ⟨p,hp⟩:∃ p,ps[i]?=some p:=⟨_,List.getElem?_eq_getElem (by omega)⟩
   obtain ⟨pa,ea,c0,c1⟩:=pl_read x.rd hp
   rw [Int.toNat_natCast]
   have no:fitB p=false→R (.bool true) h:=fun e=>by
    rw [decide_eq_true (.inr (.inr (by rw [List.all_eq_false]; exact ⟨p,List.mem_of_getElem? hp,by rw [e]; exact Bool.false_ne_true⟩)))] at hR
    exact hR
   have n1:¬ 0 ≤ p.1→fitB p=false:=fun z=>by unfold fitB; simp [z]
   have n2:¬ p.1 < 4→fitB p=false:=fun z=>by unfold fitB; simp [z]
   have n3:¬ p.2.size ≤ 4096→fitB p=false:=fun z=>by unfold fitB; simp [z]
   refine PtrOk_of ea ⟨_,c0,Cond_dec (fun z=>no (n1 (by omega))) fun z1=>⟨⟨by omega,by omega⟩,PtrOk_of ea ⟨_,c0,Cond_dec (fun z=>no (n2 (by omega))) fun z2=>⟨⟨by omega,by omega⟩,PtrOk_of ea ⟨_,c1,Cond_dec (fun z=>no (n3 (by omega))) fun z3=>?_⟩⟩⟩⟩⟩
   refine ⟨ps.length - (i + 1),by omega,i + 1,by omega,rfl,(by first | rfl | trivial),nxt8 (by omega),fun q hq=>?_,rfl⟩
   rw [List.take_add_one,hp,List.mem_append] at hq
   rcases hq with hq | hq
   ·exact hb q hq
   ·have hq:q=p:=by simpa using hq
    subst hq
    unfold fitB
    have h1:0 ≤ q.1:=by omega
    have h2:q.1 < 4:=by omega
    have h3:q.2.size ≤ 4096:=by omega
    simp [h1,h2,h3]
  ·have ei:i=ps.length:=by omega
   subst ei
   rw [List.take_length] at hb
   have:ps.all fitB=true:=List.all_eq_true.2 hb
   rw [decide_eq_false (by rw [this]; rintro (z | z | z); omega; omega; cases z)] at hR
   exact hR
theorem take_flat {ps:List Plc} {i:Nat} {p:Plc} (hp:ps[i]?=some p):(ps.take (i + 1)).flatMap plC=(ps.take i).flatMap plC ++ plC p:=by
 rw [List.take_add_one,hp,List.flatMap_append]
 simp
theorem dcopies_ok {s:Sl} {l:List Plc} (rd:ReadsO h s.a (l.flatMap plC)) (hn:s.n=l.length) (hl:l.length < 1000) (hR:∀ s' c h',PlO h' s' c l→(l ≠ []→h.size ≤ c)→Kept N h h'→R (.slice s'.a s'.n s'.c) h') :
  CallTo Try.prog 65 #[.slice s.a s.n s.c] h R:=by
 refine f65F_ok (a0:=s) ?_
 unfold f65F
 refine f65L1_rule (s0:=s) (s3:=⟨none,0,0⟩) (fun m s0 s3 s4 h'=>∃ (i:Nat) (ob:Option Nat),i ≤ l.length∧m=l.length - i∧s=s0∧s4=(i:Int)∧SlAt 2 h' s3.a s3.n s3.c ob ((l.take i).flatMap plC)∧(ob=none ↔ i=0)∧(∀ b,ob=some b→h.size ≤ b)∧Kept N h h') l.length
  ⟨0,none,Nat.zero_le _,rfl,rfl,rfl,slAt_nil 2 h,⟨fun _=>rfl,fun _=>rfl⟩,nofun,Kept.refl _ _⟩ ?_
 rintro m s0 s3 s4 g h1 ⟨i,ob,hi,rfl,rfl,rfl,sa,hob,hfr,k1⟩
 unfold f65L1
 refine Cond_dec (fun hlt=>⟨⟨by omega,by omega⟩,?_⟩) fun hge=>?_
 ·obtain ⟨p,hp⟩:∃ p,l[i]?=some p:=⟨_,List.getElem?_eq_getElem (by omega)⟩
  obtain ⟨pa,ea,c0,c1⟩:=pl_read (reads_keptN k1 rd) hp
  rw [Int.toNat_natCast]
  refine PtrOk_of ea ⟨_,c0,_,c1,Let_mk fun h2 e2=>?_⟩
  have k2:Kept N h1 h2:=e2 ▸ kept_push _ _ _
  have r2:Row h2 h1.size (plC p):=e2 ▸ row_new h1 _ 40
  have sa2:SlAt 2 h2 s3.a s3.n s3.c ob ((l.take i).flatMap plC):=sa.keep fun b hb=>k2.2 b (by obtain ⟨_,_,j,r,_⟩:=sa.row b hb; exact row_lt r) _root_.id
  have sn:s3.n ≤ 1000:=by
   have:=sa.len
   have e:((l.take i).flatMap plC).length=2 * (l.take i).length:=by
    generalize l.take i=t
    induction t with
    | nil=>rfl
    | cons a t ih=>rw [List.flatMap_cons,List.length_append,ih,plC_len,List.length_cons]; omega
   have e2:(l.take i).length ≤ 1000:=by rw [List.length_take]; omega
   omega
  refine ⟨plC p,row_reads r2,rfl,appT_ok2 (m:=1) sa2 rfl rfl (fun v hv=>by rcases List.mem_cons.1 hv with e | hv; (rw [e]; rfl); rw [List.mem_singleton.1 hv]; rfl) (by omega) (by omega) fun a' c' ob' h3 sa3 hx=>?_⟩
  have k23:Kept (fun b=>ob=some b) h2 h3:=hx.elim (fun z=>z.2) fun z=>z.2.mono fun _ _ f=>f.elim
  refine ⟨l.length - (i + 1),by omega,i + 1,ob',by omega,rfl,(by first | rfl | trivial),nxt8 (by omega),by rw [take_flat hp]; exact sa3,⟨fun e=>?_,fun e=>by omega⟩,fun b hb=>?_,kept_fresh (k1.trans k2) k23 fun b hb=>hfr b hb⟩
  ·rw [e] at sa3
   have:=(sa3.nil rfl).2.1
   omega
  ·rcases hx with ⟨e,_⟩ | ⟨e,_⟩
   ·exact hfr b (e ▸ hb)
   ·rw [e] at hb
    obtain rfl:=Option.some.inj hb
    have:=k1.1
    have:=k2.1
    omega
 ·have ei:i=l.length:=by omega
  subst ei
  rw [List.take_length] at sa
  have n3:s3.n=l.length:=by
   have:=sa.len
   have e:(l.flatMap plC).length=2 * l.length:=by
    generalize l=t
    induction t with
    | nil=>rfl
    | cons a t ih=>rw [List.flatMap_cons,List.length_append,ih,plC_len,List.length_cons]; omega
   omega
  cases ob with
  | none =>
   have l0:=List.length_eq_zero_iff.1 (hob.1 rfl)
   obtain ⟨e1,e2,e3⟩:=sa.nil rfl
   exact hR s3 0 h1 ⟨n3,fun z=>absurd l0 z,fun z=>absurd l0 z,fun _=>by rw [← e1,← e2]; cases s3; simp_all⟩ (fun z=>absurd l0 z) k1
  | some b =>
   obtain ⟨e1,e2,junk,r,e3⟩:=sa.row b rfl
   have hle:=hfr b rfl
   by_cases l0:l=[]
   ·exfalso
    cases hob.2 (by rw [l0]; rfl)
   ·refine hR s3 b h1 ⟨n3,fun _=>e1,fun _=>⟨junk,r,?_⟩,fun z=>absurd z l0⟩ (fun _=>hle) k1
    have e:(l.flatMap plC).length=2 * l.length:=by
     have:=sa.len
     omega
    omega
end
end Go.Ev
set_option linter.all false
set_option maxRecDepth 1000000
namespace Go.Ev
open Go.Proofs
theorem bl_eq (x y:ByteArray):(x.toList == y.toList)=decide (x=y):=by
 by_cases e:x=y
 ·subst e; simp
 ·rw [decide_eq_false e]
  exact (Go.Lib.bytes_beq_false_iff x y).2 e
section
variable {h h':Hp} {D D':DP} {R:Value→Hp→Prop}
theorem dnames_ok {c k t:Int} {s:Sl} {p:Plc} {ps:List Plc} (x:PlIn h s ps) (hl:ps.length ≤ 64) (hR:∀ h',Kept N h h'→R (.bool (ps.any fun q=>decide (q=p))) h') :
  CallTo Try.prog 76 #[.agg #[.int .i64 c,.int .i64 k,.slice s.a s.n s.c,.int .u64 t],.agg #[.int .i64 p.1,.string p.2]] h R:=by
 refine f76F_ok (a0_2:=s) ?_
 unfold f76F
 refine Let_mk fun h1 e1=>Let_mk fun h2 e2=>?_
 have k1:Kept N h h1:=e1 ▸ kept_push _ _ _
 have k2:Kept N h1 h2:=e2 ▸ kept_push _ _ _
 have r1:Row h1 h.size [.int .i64 c,.int .i64 k,.slice s.a s.n s.c,.int .u64 t]:=e1 ▸ row_new h _ 107
 have r12:=kept_row k2 r1 _root_.id
 have r2:Row h2 h1.size (plC p):=e2 ▸ row_new h1 _ 40
 have x2:=(x.keepN k1).keepN k2
 have n1:nb h=ad h.size:=rfl
 have n2:nb h1=ad h1.size:=rfl
 have c2:cell h2 ((ad h.size).add 2)=some (.slice s.a s.n s.c):=by rw [add_ad]; exact (cell_row r12 2).trans rfl
 have d0:cell h2 (ad h1.size)=some (.int .i64 p.1):=(cell_row r2 0).trans rfl
 have d1:cell h2 ((ad h1.size).add 1)=some (.string p.2):=by rw [add_ad]; exact (cell_row r2 1).trans rfl
 rw [n1,n2]
 have xn:=x.n
 refine f76L1_rule (fun m s2 s3 s5 h'=>∃ i:Nat,i ≤ ps.length∧m=ps.length - i∧s2=ad h.size∧s3=ad h1.size∧s5=(i:Int)∧(∀ q ∈ ps.take i,q ≠ p)∧h2=h') ps.length ⟨0,Nat.zero_le _,rfl,rfl,rfl,rfl,nofun,rfl⟩ ?_
 rintro m s2 s3 s5 g h3 ⟨i,hi,rfl,rfl,rfl,rfl,hb,rfl⟩
 unfold f76L1
 refine ⟨_,c2,Cond_dec (fun hlt=>⟨_,c2,⟨by omega,by omega⟩,?_⟩) fun hge=>?_⟩
 ·obtain ⟨q,hq⟩:∃ q,ps[i]?=some q:=⟨_,List.getElem?_eq_getElem (by omega)⟩
  obtain ⟨pa,ea,c0,c1⟩:=pl_read x2.rd hq
  rw [Int.toNat_natCast]
  have go:q ≠ p→∃ m,m < ps.length - i∧∃ i':Nat,i' ≤ ps.length∧m=ps.length - i'∧ad h.size=ad h.size∧ad h1.size=ad h1.size∧IntKind.wrap .i64 ((i:Int) + 1)=(i':Int)∧(∀ q ∈ ps.take i',q ≠ p)∧h2=h2:=fun hne=>⟨ps.length - (i + 1),by omega,i + 1,by omega,rfl,rfl,rfl,nxt8 (by omega),fun r hr=>by
   rw [List.take_add_one,hq,List.mem_append] at hr
   rcases hr with hr | hr
   ·exact hb r hr
   ·have hr:r=q:=by simpa using hr
    rw [hr]; exact hne,rfl⟩
  refine PtrOk_of ea ⟨_,c0,_,d0,Cond_b (fun e=>⟨_,c2,⟨by omega,by omega⟩,PtrOk_of ea ⟨_,c1,_,d1,?_⟩⟩) fun e=>?_⟩
  ·unfold f76K1
   rw [bl_eq]
   have e:q.1=p.1:=by simpa using e
   refine Cond_dec (fun e2=>?_) fun e2=>go fun z=>e2 (by rw [z])
   have:q=p:=Prod.ext e e2
   have:(ps.any fun q=>decide (q=p))=true:=List.any_eq_true.2 ⟨q,List.mem_of_getElem? hq,by simpa using this⟩
   rw [← this]
   exact hR h2 (k1.trans k2)
  ·unfold f76K1
   have e:q.1 ≠ p.1:=by simpa using e
   exact Cond_f rfl (go fun z=>e (by rw [z]))
 ·have ei:i=ps.length:=by omega
  subst ei
  rw [List.take_length] at hb
  have:(ps.any fun q=>decide (q=p))=false:=by
   rw [List.any_eq_false]
   intro q hq
   simpa using hb q hq
  rw [← this]
  exact hR h2 (k1.trans k2)
/-- The first in line who wants the place. -/
def DP.next (D:DP) (p:Plc) (k:Int):Value:=match D.ds.find? fun y=>wants y.w p k with | some y=>.tuple #[.int .i64 y.w.conn,.bool true] | none=>.tuple #[.int .i64 0,.bool false]
theorem dnext_ok (x:DRep h D) {p:Plc} {k:Int} (hR:∀ h',Kept N h h'→R (D.next p k) h'):CallTo Try.prog 61 #[.pointer (some (ad D.db)),.agg #[.int .i64 p.1,.string p.2],.int .i64 k] h R:=by
 refine f61F_ok ?_
 unfold f61F
 refine Let_mk fun h1 e1=>?_
 have k1:Kept N h h1:=e1 ▸ kept_push _ _ _
 have r1:Row h1 h.size (plC p):=e1 ▸ row_new h _ 40
 have n1:nb h=ad h.size:=rfl
 rw [n1]
 have xn:=x.n
 have xl:=x.len
 refine f61L1_rule (fun m s0 s2 s4 s8 h'=>∃ i:Nat,i ≤ D.ds.length∧m=D.ds.length - i∧s0=some (ad D.db)∧k=s2∧s4=ad h.size∧s8=(i:Int)∧(∀ y ∈ D.ds.take i,wants y.w p k=false)∧Kept N h1 h') D.ds.length ⟨0,Nat.zero_le _,rfl,rfl,rfl,rfl,rfl,nofun,Kept.refl _ _⟩ ?_
 rintro m s0 s2 s4 s8 g h2 ⟨i,hi,rfl,rfl,rfl,rfl,rfl,hb,k2⟩
 unfold f61L1
 have x2:=x.keepN (k1.trans k2)
 have r2:=kept_row k2 r1 _root_.id
 refine PtrOk_mk ⟨_,x2.c0,Cond_dec (fun hlt=>PtrOk_mk ⟨_,x2.c0,⟨by omega,by omega⟩,?_⟩) fun hge=>?_⟩
 ·obtain ⟨y,hy⟩:∃ y,D.ds[i]?=some y:=⟨_,List.getElem?_eq_getElem (by omega)⟩
  have hym:=List.mem_of_getElem? hy
  obtain ⟨pa,ea,c0,c1,c2,c3⟩:=x2.read hy
  rw [Int.toNat_natCast]
  have go:wants y.w p k=false→∀ h3,Kept N h2 h3→∃ m,m < D.ds.length - i∧∃ i':Nat,i' ≤ D.ds.length∧m=D.ds.length - i'∧(some (ad D.db))=some (ad D.db)∧k=k∧ad h.size=ad h.size∧IntKind.wrap .i64 ((i:Int) + 1)=(i':Int)∧(∀ y ∈ D.ds.take i',wants y.w p k=false)∧Kept N h1 h3:=fun hne h3 k3=>⟨D.ds.length - (i + 1),by omega,i + 1,by omega,rfl,rfl,rfl,rfl,nxt8 (by omega),fun r hr=>by
   rw [List.take_add_one,hy,List.mem_append] at hr
   rcases hr with hr | hr
   ·exact hb r hr
   ·have hr:r=y:=by simpa using hr
    rw [hr]; exact hne,k2.trans k3⟩
  obtain ⟨po,pne,pl⟩:=x2.pl y hym
  refine PtrOk_of ea ⟨_,c1,Cond_b (fun e=>PtrOk_mk ⟨_,x2.c0,⟨by omega,by omega⟩,PtrOk_of ea ⟨_,c0,_,c1,_,c2,_,c3,_,(cell_row r2 0).trans rfl,_,by rw [add_ad]; exact (cell_row r2 1).trans rfl,dnames_ok ⟨po.rd,po.n,po.le⟩ pl fun h3 k3=>⟨_,rfl,?_⟩⟩⟩) fun e=>?_⟩
  ·have e:y.w.kind=k:=by simpa using e
   unfold f61K1
   have x3:=x2.keepN k3
   have ew:wants y.w p k=y.w.pls.any fun q=>decide (q=p):=by unfold wants; rw [decide_eq_true e,Bool.true_and]
   rw [← ew]
   refine Cond_b (fun ew2=>PtrOk_mk ⟨_,x3.c0,⟨by omega,by omega⟩,?_⟩) fun ew2=>go ew2 h3 k3
   obtain ⟨pb,eb,d0,_⟩:=x3.read hy
   rw [Int.toNat_natCast]
   refine PtrOk_of eb ⟨_,d0,?_⟩
   have:D.ds.find? (fun y=>wants y.w p k)=some y:=by
    rw [List.find?_eq_some_iff_append]
    refine ⟨ew2,D.ds.take i,D.ds.drop (i + 1),?_,fun z hz=>by rw [hb z hz]; rfl⟩
    rw [List.getElem?_eq_some_iff] at hy
    obtain ⟨hl,rfl⟩:=hy
    rw [List.getElem_cons_drop,List.take_append_drop]
   have hR:=hR h3 ((k1.trans k2).trans k3)
   unfold DP.next at hR
   rw [this] at hR
   exact hR
  ·have e:y.w.kind ≠ k:=by simpa using e
   unfold f61K1
   exact Cond_f rfl (go (by unfold wants; rw [decide_eq_false e,Bool.false_and]) h2 (Kept.refl _ _))
 ·have ei:i=D.ds.length:=by omega
  subst ei
  rw [List.take_length] at hb
  have:D.ds.find? (fun y=>wants y.w p k)=none:=by
   rw [List.find?_eq_none]
   intro y hy
   rw [hb y hy]
   exact Bool.false_ne_true
  have hR:=hR h2 (k1.trans k2)
  unfold DP.next at hR
  rw [this] at hR
  exact hR
def DP.find (D:DP) (c:Int):Option DW:=D.ds.find? fun y=>decide (y.w.conn=c)
theorem DP.find_at {c:Int} {j:Nat} {y:DW} (hj:D.ds[j]?=some y) (e:y.w.conn=c) (hb:∀ i z,i < j→D.ds[i]?=some z→z.w.conn ≠ c):D.find c=some y:=by
 unfold DP.find
 rw [List.find?_eq_some_iff_append]
 refine ⟨by simpa using e,D.ds.take j,D.ds.drop (j + 1),?_,fun z hz=>?_⟩
 ·rw [List.getElem?_eq_some_iff] at hj
  obtain ⟨hl,rfl⟩:=hj
  rw [List.getElem_cons_drop,List.take_append_drop]
 ·obtain ⟨i,hi,hz⟩:=List.mem_take_iff_getElem.1 hz
  have:=hb i z (by omega) (by rw [← hz]; exact List.getElem?_eq_getElem _)
  simpa using this
theorem DP.find_no {c:Int} (hb:∀ y ∈ D.ds,y.w.conn ≠ c):D.find c=none:=by
 unfold DP.find
 rw [List.find?_eq_none]
 intro y hy
 simpa using hb y hy
theorem duntil_ok (x:DRep h D) {c:Int} (hR:R (match D.find c with | some y=>.tuple #[.int .u64 y.w.til,.bool true] | none=>.tuple #[.int .u64 0,.bool false]) h):CallTo Try.prog 62 #[.pointer (some (ad D.db)),.int .i64 c] h R:=by
 refine f62F_ok ?_
 unfold f62F
 have xn:=x.n
 refine dfind_ok x (fun hno=>⟨_,rfl,Cond_t rfl ?_⟩) fun j y hj e hb=>⟨_,rfl,Cond_dec (fun z=>by omega) fun _=>PtrOk_mk ⟨_,x.c0,⟨by omega,?_⟩,?_⟩⟩
 ·rw [DP.find_no hno] at hR; exact hR
 ·have:=(List.getElem?_eq_some_iff.1 hj).1; omega
 ·obtain ⟨pa,ea,c0,c1,c2,c3⟩:=x.read hj
  rw [Int.toNat_natCast]
  rw [DP.find_at hj e hb] at hR
  exact PtrOk_of ea ⟨_,c3,hR⟩
def dplsOf (D:DP) (c:Int):List Plc:=match D.find c with | some y=>y.w.pls | none=>[]
theorem dplaces_ok (x:DRep h D) {c:Int} (hR:∀ s b h',PlO h' s b (dplsOf D c)→(dplsOf D c ≠ []→h.size ≤ b)→Kept N h h'→R (.slice s.a s.n s.c) h'):CallTo Try.prog 44 #[.pointer (some (ad D.db)),.int .i64 c] h R:=by
 refine f44F_ok ?_
 unfold f44F
 have xn:=x.n
 refine dfind_ok x (fun hno=>⟨_,rfl,Cond_t rfl ?_⟩) fun j y hj e hb=>⟨_,rfl,Cond_dec (fun z=>by omega) fun _=>PtrOk_mk ⟨_,x.c0,⟨by omega,?_⟩,?_⟩⟩
 ·unfold dplsOf at hR
  rw [DP.find_no hno] at hR
  exact hR ⟨none,0,0⟩ 0 h ⟨rfl,fun z=>absurd rfl z,fun z=>absurd rfl z,fun _=>rfl⟩ (fun z=>absurd rfl z) (Kept.refl _ _)
 ·have:=(List.getElem?_eq_some_iff.1 hj).1; omega
 ·obtain ⟨pa,ea,c0,c1,c2,c3⟩:=x.read hj
  rw [Int.toNat_natCast]
  unfold dplsOf at hR
  rw [DP.find_at hj e hb] at hR
  obtain ⟨po,pne,pl⟩:=x.pl y (List.mem_of_getElem? hj)
  exact PtrOk_of ea ⟨_,c2,dcopies_ok po.rd po.n (by omega) fun s b h' p1 p2 p3=>⟨_,rfl,hR s b h' p1 p2 p3⟩⟩
theorem dwaiting_ok (x:DRep h D) (hR:∀ s c h',IL h' s c (D.ds.map (·.w.conn))→(D.ds ≠ []→h.size ≤ c)→Kept N h h'→R (.slice s.a s.n s.c) h'):CallTo Try.prog 46 #[.pointer (some (ad D.db))] h R:=by
 refine f46F_ok ?_
 unfold f46F
 have xn:=x.n
 have xl:=x.len
 refine f46L1_rule (s3:=⟨none,0,0⟩) (fun m s0 s3 s4 h'=>∃ (i:Nat) (ob:Option Nat),i ≤ D.ds.length∧m=D.ds.length - i∧s0=some (ad D.db)∧s4=(i:Int)∧SlAt 1 h' s3.a s3.n s3.c ob (((D.ds.take i).map (·.w.conn)).map iv)∧(ob=none ∨ i ≠ 0)∧(∀ b,ob=some b→h.size ≤ b)∧Kept N h h') D.ds.length
  ⟨0,none,Nat.zero_le _,rfl,rfl,rfl,slAt_nil 1 h,.inl rfl,nofun,Kept.refl _ _⟩ ?_
 rintro m s0 s3 s4 g h1 ⟨i,ob,hi,rfl,rfl,rfl,sa,hob,hfr,k1⟩
 unfold f46L1
 have x1:=x.keepN k1
 refine PtrOk_mk ⟨_,x1.c0,Cond_dec (fun hlt=>PtrOk_mk ⟨_,x1.c0,⟨by omega,by omega⟩,?_⟩) fun hge=>?_⟩
 ·obtain ⟨y,hy⟩:∃ y,D.ds[i]?=some y:=⟨_,List.getElem?_eq_getElem (by omega)⟩
  obtain ⟨pa,ea,c0,_⟩:=x1.read hy
  rw [Int.toNat_natCast]
  refine PtrOk_of ea ⟨_,c0,Let_mk fun h2 e2=>?_⟩
  have k2:Kept N h1 h2:=e2 ▸ kept_push _ _ _
  have r2:Row h2 h1.size [iv y.w.conn]:=e2 ▸ row_new h1 _ 3
  have sa2:SlAt 1 h2 s3.a s3.n s3.c ob (((D.ds.take i).map (·.w.conn)).map iv):=sa.keep fun b hb=>k2.2 b (by obtain ⟨_,_,j,r,_⟩:=sa.row b hb; exact row_lt r) _root_.id
  have sn:s3.n ≤ 8:=by
   have:=sa.len
   rw [List.length_map,List.length_map,List.length_take] at this
   omega
  refine ⟨[iv y.w.conn],row_reads r2,rfl,appT_ok2 (m:=1) sa2 rfl rfl (fun v hv=>by rw [List.mem_singleton.1 hv]; rfl) (by omega) (by omega) fun a' c' ob' h3 sa3 hx=>?_⟩
  have k23:Kept (fun b=>ob=some b) h2 h3:=hx.elim (fun z=>z.2) fun z=>z.2.mono fun _ _ f=>f.elim
  refine ⟨D.ds.length - (i + 1),by omega,i + 1,ob',by omega,rfl,(by first | rfl | trivial),nxt8 (by omega),?_,.inr (by omega),fun b hb=>?_,kept_fresh (k1.trans k2) k23 fun b hb=>hfr b hb⟩
  ·rw [List.take_add_one,hy,List.map_append,List.map_append]
   exact sa3
  ·rcases hx with ⟨e,_⟩ | ⟨e,_⟩
   ·exact hfr b (e ▸ hb)
   ·rw [e] at hb
    obtain rfl:=Option.some.inj hb
    have:=k1.1
    have:=k2.1
    omega
 ·have ei:i=D.ds.length:=by omega
  subst ei
  rw [List.take_length] at sa
  obtain ⟨b,il,hb⟩:=SlAt.il (l:=D.ds.map (·.w.conn)) sa (hob.imp_right fun z e=>z (by rw [← List.length_map (f:=fun y:DW=>y.w.conn),e]; rfl))
  exact hR s3 b h1 il (fun hne=>hfr b (hb fun e=>hne (List.map_eq_nil_iff.1 e))) k1
end
end Go.Ev
set_option linter.all false
set_option maxRecDepth 1000000
namespace Go.Ev
open Go.Proofs
section
variable {h h' h2:Hp} {D D' D2:DP} {R:Value→Hp→Prop}
theorem DTr.refl (h:Hp) (D:DP):DTr h D h D:=⟨Kept.refl _ _,fun _=>.inl⟩
theorem DTr.trans (a:DTr h D h' D') (b:DTr h' D' h2 D2):DTr h D h2 D2 :=
 ⟨⟨Nat.le_trans a.1.1 b.1.1,fun i hi hn=>(b.1.2 i (Nat.lt_of_lt_of_le hi a.1.1) fun o=>(a.2 i o).elim hn fun h=>by omega).trans (a.1.2 i hi hn)⟩,
  fun i o=>(b.2 i o).elim (a.2 i) fun h=>.inr (Nat.le_trans a.1.1 h)⟩
theorem DTr.keepN (k:Kept N h h'):DTr h D h' D:=⟨k.mono fun _ _ e=>e.elim,fun _=>.inl⟩
theorem dblock_ok (x:DRep h D) {a:Sl} {ps:List Plc} (pi:PlIn h a ps) (hps:ps.length < 2 ^ 62) {c k t:Int} (h8:blockE (D.find c).isSome c k ps t=0→D.ds.length < 8)
  (hbad:blockE (D.find c).isSome c k ps t ≠ 0→R (.int .i64 (blockE (D.find c).isSome c k ps t)) h)
  (hgood:blockE (D.find c).isSome c k ps t=0→∀ h' D',DRep h' D'→D'.db=D.db→D'.ds.map (·.w)=D.ds.map (·.w) ++ [⟨c,k,ps,t⟩]→DTr h D h' D'→R (.int .i64 0) h') :
  CallTo Try.prog 43 #[.pointer (some (ad D.db)),.int .i64 c,.int .i64 k,.slice a.a a.n a.c,.int .u64 t] h R:=by
 refine f43F_ok (a3:=a) ?_
 unfold f43F
 have xn:=x.n
 have xl:=x.len
 have conn:(c < 0 ∨ 8 ≤ c)→R (.int .i64 180) h:=fun e=>by
  have:blockE (D.find c).isSome c k ps t=180:=by unfold blockE; rw [if_pos e]
  have z:=hbad (by rw [this]; decide)
  rw [this] at z
  exact z
 refine Cond_dec (fun e=>?_) fun e1=>?_
 ·unfold f43K1; exact Cond_t rfl (conn (.inl e))
 unfold f43K1
 refine Cond_dec (fun e=>conn (.inr (by omega))) fun e2=>?_
 have ec:¬ (c < 0 ∨ 8 ≤ c):=by omega
 refine dfind_ok x (fun hno=>⟨_,rfl,?_⟩) fun j y hj e hb=>⟨_,rfl,?_⟩
 case refine_2 =>
  refine Cond_dec (fun _=>?_) fun z=>by omega
  have:blockE (D.find c).isSome c k ps t=181:=by unfold blockE; rw [if_neg ec,DP.find_at hj e hb]; rfl
  have z:=hbad (by rw [this]; decide)
  rw [this] at z
  exact z
 refine Cond_dec (fun z=>by omega) fun _=>?_
 have hf:(D.find c).isSome=false:=by rw [DP.find_no hno]; rfl
 have kind:(k ≠ 2∧k ≠ 5)→R (.int .i64 184) h:=fun e=>by
  have:blockE (D.find c).isSome c k ps t=184:=by unfold blockE; rw [if_neg ec,hf,if_neg (by decide),if_pos e]
  have z:=hbad (by rw [this]; decide)
  rw [this] at z
  exact z
 have rest:¬ (k ≠ 2∧k ≠ 5)→CallTo Try.prog 64 #[.slice a.a a.n a.c] h fun r h2=>∃ t32:Bool,r=.bool t32∧Cond t32 (R (.int .i64 182:Value) h2) (Cond (decide (t > (4503599627370496:Int))) (R (.int .i64 183:Value) h2) (PtrOk (some (ad D.db)) fun p38=>∃ t40:Sl,cell h2 p38=some (.slice t40.a t40.n t40.c)∧CallTo Try.prog 65 #[.slice a.a a.n a.c] h2 fun r h3=>∃ t44:Sl,r=.slice t44.a t44.n t44.c∧(∃ y0:Sl,cell h3 p38=some (.slice y0.a y0.n y0.c)∧Next.value (.slice y0.a y0.n y0.c)=Next.value (.slice t40.a t40.n t40.c))∧Let (h3.push (.cells #[.int .i64 c,.int .i64 k,.slice t44.a t44.n t44.c,.int .u64 t] 107)) fun h4=>(∃ y0:Sl,cell h4 p38=some (.slice y0.a y0.n y0.c)∧Next.value (.slice y0.a y0.n y0.c)=Next.value (.slice t40.a t40.n t40.c))∧appSl 107 4 48 #[.int .i64 0,.int .i64 0,.slice none 0 0,.int .u64 0] t40.a t40.n t40.c (some (nb h3)) 1 h4 fun ra5 rn5 rc5 h5=>PtrOk (some (ad D.db)) fun p49=>stOk h5 p49∧Let (setc h5 p49 (.slice ra5 rn5 rc5)) fun h6=>R (.int .i64 0:Value) h6)):=fun ek=>by
  refine dbad_ok pi hps ⟨_,rfl,Cond_dec (fun z=>?_) fun z=>Cond_dec (fun z2=>?_) fun z2=>?_⟩
  ·have:blockE (D.find c).isSome c k ps t=182:=by unfold blockE; rw [if_neg ec,hf,if_neg (by decide),if_neg ek,if_pos z]
   have z:=hbad (by rw [this]; decide)
   rw [this] at z
   exact z
  ·have:blockE (D.find c).isSome c k ps t=183:=by unfold blockE; rw [if_neg ec,hf,if_neg (by decide),if_neg ek,if_neg z,if_pos z2]
   have z:=hbad (by rw [this]; decide)
   rw [this] at z
   exact z
  ·have e0:blockE (D.find c).isSome c k ps t=0:=by unfold blockE; rw [if_neg ec,hf,if_neg (by decide),if_neg ek,if_neg z,if_neg z2]
   have hlt:=h8 e0
   have hg:=hgood e0
   have hne:ps ≠ []:=fun e=>z (.inl (by rw [e]; rfl))
   have h64:ps.length ≤ 64:=by omega
   refine PtrOk_mk ⟨_,x.c0,dcopies_ok pi.rd pi.n (by omega) fun s' b h3 po hfr k3=>⟨s',rfl,?_⟩⟩
   have hbf:=hfr hne
   have x3:=x.keepN k3
   refine ⟨⟨_,x3.c0,rfl⟩,Let_mk fun h4 e4=>?_⟩
   have k4:Kept N h3 h4:=e4 ▸ kept_push _ _ _
   have r4:Row h4 h3.size (DW.val ⟨⟨c,k,ps,t⟩,s',b⟩):=e4 ▸ row_new h3 _ 107
   have x4:=x3.keepN k4
   have po4:=po.keep k4 fun _=>_root_.id
   refine ⟨⟨_,x4.c0,rfl⟩,DW.val ⟨⟨c,k,ps,t⟩,s',b⟩,row_reads r4,rfl,appT_ok2 (m:=1) x4.at_ rfl rfl (fun v hv=>?_) (by omega) (by omega) fun a' c' ob' h5 sa hx=>?_⟩
   ·unfold DW.val at hv
    simp only [List.mem_cons,List.not_mem_nil,or_false] at hv
    rcases hv with rfl | rfl | rfl | rfl <;> rfl
   have k45:Kept (fun i=>D.ob=some i) h4 h5:=hx.elim (fun z=>z.2) fun z=>z.2.mono fun _ _ f=>f.elim
   have q3:=k3.1
   have q4:=k4.1
   have q5:=k45.1
   have row5:=kept_row k45 x4.row x.od
   have dl:=x.foot_lt (.inl rfl)
   refine PtrOk_mk (row_st row5 (i:=0) rfl (by show 0 < 1; omega) fun h6 r6 k6=>?_)
   have hob:∀ i,ob'=some i→D.ob=some i ∨ (h4.size ≤ i∧i < h5.size):=fun i hi=>by
    rcases hx with ⟨e,_⟩ | ⟨e,_⟩
    ·exact .inl (e ▸ hi)
    ·rw [e] at hi sa
     obtain rfl:=Option.some.inj hi
     exact .inr ⟨Nat.le_refl _,sa.lt⟩
   have pol:=po.lt hne
   have hm:∀ y ∈ D.ds ++ [(⟨⟨c,k,ps,t⟩,s',b⟩:DW)],y ∈ D.ds ∨ y=⟨⟨c,k,ps,t⟩,s',b⟩:=fun y hy=>(List.mem_append.1 hy).imp_right List.mem_singleton.1
   refine hg h6 ⟨D.db,⟨a',D.sl.n + 1,c'⟩,ob',D.ds ++ [⟨⟨c,k,ps,t⟩,s',b⟩]⟩ ⟨r6,?_,fun y hy=>?_,fun e=>?_,fun y hy=>?_,by rw [List.length_append]; show D.ds.length + 1 ≤ 8; omega⟩ rfl (by rw [List.map_append]; rfl) ⟨?_,fun i hi=>?_⟩
   ·rw [List.flatMap_append]
    refine SlAt.keep (vs:=D.ds.flatMap DW.val ++ [(⟨⟨c,k,ps,t⟩,s',b⟩:DW)].flatMap DW.val) (by simpa using sa) fun i hi=>k6.2 i ?_ ?_
    ·obtain ⟨_,_,j,r,_⟩:=sa.row i hi; exact row_lt r
    ·rcases hob i hi with e | e
     ·intro z; exact x.od (z ▸ e)
     ·omega
   ·rcases hm y hy with hy | rfl
    ·refine ⟨((x4.pl y hy).1.keep k45 fun _=>(x.pb y hy).2).keep k6 fun _=>(x.pb y hy).1,(x4.pl y hy).2⟩
    ·refine ⟨(po4.keep k45 fun _ e=>?_).keep k6 fun _ e=>?_,hne,h64⟩
     ·have:=x.foot_lt (.inr (.inl e))
      show False
      have:b < h.size:=this
      omega
     ·show False
      have:b=D.db:=e
      omega
   ·rcases hob _ e with e | e
    ·exact x.od e
    ·have:h4.size ≤ D.db:=e.1; omega
   ·rcases hm y hy with hy | rfl
    ·refine ⟨(x.pb y hy).1,fun e=>?_⟩
     rcases hob _ e with e | e
     ·exact (x.pb y hy).2 e
     ·have:=x.foot_lt (.inr (.inr ⟨y,hy,rfl⟩)); omega
    ·refine ⟨fun e=>by have:b=D.db:=e; omega,fun e=>?_⟩
     rcases hob _ e with e | e
     ·have:b < h.size:=x.foot_lt (.inr (.inl e)); omega
     ·have:h4.size ≤ b:=e.1; omega
   ·exact (((k3.trans k4).mono fun _ _ z=>z.elim).trans (k45.mono fun i _ e=>.inr (.inl e))).trans (k6.mono fun i _ e=>.inl e)
   ·rcases hi with e | e | ⟨y,hy,e⟩
    ·exact .inl (.inl e)
    ·rcases hob _ e with e | e
     ·exact .inl (.inr (.inl e))
     ·exact .inr (by omega)
    ·rcases hm y hy with hy | rfl
     ·exact .inl (.inr (.inr ⟨y,hy,e⟩))
     ·have:b=i:=e
      exact .inr (by omega)
 refine Cond_b (fun e=>Cond_b (fun e2=>kind ⟨by simpa using e,by simpa using e2⟩) fun e2=>rest ?_) fun e=>rest ?_
 ·have:k=5:=by simpa using e2
  omega
 ·have:k=2:=by simpa using e
  omega
theorem te_succ {α:Type} {l:List α} {i j:Nat} {y:α} (hi:l[i]?=some y):(l.take (i + 1)).eraseIdx j=if i=j then (l.take i).eraseIdx j else (l.take i).eraseIdx j ++ [y]:=by
 have hl:=(List.getElem?_eq_some_iff.1 hi).1
 have tl:(l.take i).length=i:=by rw [List.length_take]; omega
 rw [List.take_add_one,hi]
 show (l.take i ++ [y]).eraseIdx j=_
 by_cases h1:j < i
 ·rw [List.eraseIdx_append_of_lt_length (by omega),if_neg (by omega)]
 ·rw [List.eraseIdx_append_of_length_le (by omega),tl,List.eraseIdx_of_length_le (by omega:(l.take i).length ≤ j)]
  by_cases h2:i=j
  ·subst h2
   rw [if_pos rfl,Nat.sub_self]
   show l.take i ++ []=_
   rw [List.append_nil]
  ·rw [if_neg h2]
   congr 1
   exact List.eraseIdx_of_length_le (by show 1 ≤ _; omega)
theorem drelease_ok (x:DRep h D) {c:Int} (hno:D.find c=none→R (.bool false) h)
  (hyes:∀ j y,D.find c=some y→D.ds[j]?=some y→y.w.conn=c→∀ h' D',DRep h' D'→D'.db=D.db→D'.ds=D.ds.eraseIdx j→DTr h D h' D'→R (.bool true) h') :
  CallTo Try.prog 59 #[.pointer (some (ad D.db)),.int .i64 c] h R:=by
 refine f59F_ok ?_
 unfold f59F
 have xn:=x.n
 have xl:=x.len
 refine dfind_ok x (fun hn=>⟨_,rfl,Cond_t rfl (hno (DP.find_no hn))⟩) fun j y hj e hb=>⟨_,rfl,Cond_dec (fun z=>by omega) fun _=>?_⟩
 have hyes:=hyes j y (DP.find_at hj e hb) hj e
 have dl:=x.foot_lt (.inl rfl)
 refine f59L1_rule (s6:=⟨none,0,0⟩) (fun m s0 s5 s6 s7 h'=>∃ (i:Nat) (ob:Option Nat),i ≤ D.ds.length∧m=D.ds.length - i∧s0=some (ad D.db)∧s5=(j:Int)∧s7=(i:Int)∧SlAt 4 h' s6.a s6.n s6.c ob (((D.ds.take i).eraseIdx j).flatMap DW.val)∧(∀ b,ob=some b→h.size ≤ b)∧Kept N h h') D.ds.length
  ⟨0,none,Nat.zero_le _,rfl,rfl,rfl,rfl,slAt_nil 4 h,nofun,Kept.refl _ _⟩ ?_
 rintro m s0 s5 s6 s7 g h1 ⟨i,ob,hi,rfl,rfl,rfl,rfl,sa,hfr,k1⟩
 unfold f59L1
 have x1:=x.keepN k1
 refine PtrOk_mk ⟨_,x1.c0,Cond_dec (fun hlt=>?_) fun hge=>?_⟩
 ·obtain ⟨z,hz⟩:∃ z,D.ds[i]?=some z:=⟨_,List.getElem?_eq_getElem (by omega)⟩
  have te:=te_succ (j:=j) hz
  refine Cond_b (fun ne=>PtrOk_mk ⟨_,x1.c0,⟨by omega,by omega⟩,?_⟩) fun ne=>?_
  ·have ne:i ≠ j:=fun z=>by rw [z] at ne; simp at ne
   rw [if_neg ne] at te
   obtain ⟨pa,ea,c0,c1,c2,c3⟩:=x1.read hz
   rw [Int.toNat_natCast]
   refine PtrOk_of ea ⟨_,c0,_,c1,_,c2,_,c3,Let_mk fun h2 e2=>?_⟩
   have k2:Kept N h1 h2:=e2 ▸ kept_push _ _ _
   have r2:Row h2 h1.size z.val:=e2 ▸ row_new h1 _ 107
   have sa2:SlAt 4 h2 s6.a s6.n s6.c ob (((D.ds.take i).eraseIdx j).flatMap DW.val):=sa.keep fun b hb=>k2.2 b (by obtain ⟨_,_,j,r,_⟩:=sa.row b hb; exact row_lt r) _root_.id
   have sn:s6.n ≤ 8:=by
    have:=sa.len
    rw [DRep.n.flatMap_len4] at this
    have:=(List.eraseIdx_sublist (D.ds.take i) j).length_le
    rw [List.length_take] at this
    omega
   refine ⟨z.val,row_reads r2,rfl,appT_ok2 (m:=1) sa2 rfl rfl (fun v hv=>?_) (by omega) (by omega) fun a' c' ob' h3 sa3 hx=>?_⟩
   ·unfold DW.val at hv
    simp only [List.mem_cons,List.not_mem_nil,or_false] at hv
    rcases hv with rfl | rfl | rfl | rfl <;> rfl
   have k23:Kept (fun b=>ob=some b) h2 h3:=hx.elim (fun z=>z.2) fun z=>z.2.mono fun _ _ f=>f.elim
   unfold f59K1
   refine ⟨D.ds.length - (i + 1),by omega,i + 1,ob',by omega,rfl,(by first | rfl | trivial),(by first | rfl | trivial),nxt8 (by omega),?_,fun b hb=>?_,kept_fresh (k1.trans k2) k23 fun b hb=>hfr b hb⟩
   ·rw [te,List.flatMap_append]
    simpa using sa3
   ·rcases hx with ⟨e,_⟩ | ⟨e,_⟩
    ·exact hfr b (e ▸ hb)
    ·rw [e] at hb
     obtain rfl:=Option.some.inj hb
     have:=k1.1
     have:=k2.1
     omega
  ·have ne:i=j:=by
    apply Classical.byContradiction
    intro z
    have:((i:Int) != (j:Int))=true:=by rw [bne_iff_ne]; omega
    rw [this] at ne
    cases ne
   rw [if_pos ne] at te
   unfold f59K1
   exact ⟨D.ds.length - (i + 1),by omega,i + 1,ob,by omega,rfl,(by first | rfl | trivial),(by first | rfl | trivial),nxt8 (by omega),by rw [te]; exact sa,hfr,k1⟩
 ·have ei:i=D.ds.length:=by omega
  subst ei
  rw [List.take_length] at sa
  have k1l:=k1.1
  refine PtrOk_mk (row_st x1.row (i:=0) rfl (by show 0 < 1; omega) fun h2 r2 k2=>?_)
  have sub:=List.eraseIdx_sublist D.ds j
  have hob:∀ b,ob=some b→b ≠ D.db:=fun b hb=>by have:=hfr b hb; omega
  refine hyes h2 ⟨D.db,s6,ob,D.ds.eraseIdx j⟩ ⟨r2,sa.keep fun b hb=>k2.2 b (by obtain ⟨_,_,j,r,_⟩:=sa.row b hb; exact row_lt r) (hob b hb),fun z hz=>⟨(x1.pl z (sub.subset hz)).1.keep k2 fun _=>(x.pb z (sub.subset hz)).1,(x1.pl z (sub.subset hz)).2⟩,fun e=>hob _ e rfl,fun z hz=>⟨(x.pb z (sub.subset hz)).1,fun e=>?_⟩,Nat.le_trans sub.length_le x.len⟩ rfl rfl ⟨(k1.mono fun _ _ z=>z.elim).trans (k2.mono fun i _ e=>.inl e),fun i hi=>?_⟩
  ·have:=hfr _ e
   have:=x.foot_lt (.inr (.inr ⟨z,sub.subset hz,rfl⟩))
   omega
  ·rcases hi with e | e | ⟨z,hz,e⟩
   ·exact .inl (.inl e)
   ·exact .inr (hfr i e)
   ·exact .inl (.inr (.inr ⟨z,sub.subset hz,e⟩))
end
end Go.Ev
set_option linter.all false
set_option maxRecDepth 1000000
namespace Go.Ev
open Go.Proofs
def DP.til (D:DP) (i:Nat):Int:=match D.ds[i]? with | some y=>y.w.til | none=>0
def DP.conn (D:DP) (i:Nat):Int:=match D.ds[i]? with | some y=>y.w.conn | none=>0
def lexI (T:Nat→Int) (i j:Nat):Prop:=T i < T j ∨ (T i=T j∧i < j)
def flags (n:Nat) (is:List Nat):List Value:=(List.range n).map fun i=>.bool (decide (i ∈ is))
theorem flags_nil (n:Nat):(zrow #[.bool false] (n * 1)).toList=flags n []:=by
 rw [zrow_one]
 unfold flags
 apply List.ext_getElem
 ·simp
 ·intro i h1 h2
  simp
theorem flags_at {n i:Nat} {is:List Nat} (hi:i < n):(flags n is)[i]?=some (.bool (decide (i ∈ is))):=by
 unfold flags
 rw [List.getElem?_map,List.getElem?_range hi]
 rfl
theorem flags_set {n b:Nat} {is:List Nat} (hb:b < n):(flags n is).set b (.bool true)=flags n (is ++ [b]):=by
 apply List.ext_getElem?
 intro i
 unfold flags
 rw [List.getElem?_set,List.getElem?_map,List.getElem?_map,List.length_map,List.length_range]
 by_cases hi:i < n
 ·rw [List.getElem?_range hi]
  by_cases e:b=i
  ·subst e
   rw [if_pos rfl,if_pos hb]
   simp
  ·rw [if_neg e]
   have:¬ i=b:=fun z=>e z.symm
   simp [this]
 ·rw [List.getElem?_eq_none (by simpa using hi)]
  by_cases e:b=i
  ·omega
  ·rw [if_neg e]; rfl
section
variable {h h' h2:Hp} {D D' D2:DP} {R:Value→Hp→Prop}
theorem ddue_ok (x:DRep h D) {now:Int} (hR:∀ (is:List Nat) s c h',(∀ i,i ∈ is ↔ i < D.ds.length∧dueB now (D.til i)=true)→is.Nodup→is.Pairwise (lexI D.til)→IL h' s c (is.map D.conn)→(is ≠ []→h.size ≤ c)→Kept N h h'→R (.slice s.a s.n s.c) h') :
  CallTo Try.prog 45 #[.pointer (some (ad D.db)),.int .u64 now] h R:=by
 refine f45F_ok ?_
 unfold f45F
 have xn:=x.n
 have xl:=x.len
 refine PtrOk_mk ⟨_,x.c0,⟨by omega,by omega⟩,by omega,by omega,Let_mk fun h1 e1=>?_⟩
 have k1:Kept N h h1:=e1 ▸ kept_push _ _ _
 have r1:Row h1 h.size (flags D.ds.length []):=by
  have:Row h1 h.size (zrow #[.bool false] ((((D.sl.n:Nat):Int)).toNat * 1)).toList:=e1 ▸ row_new h _ 4
  rw [Int.toNat_natCast,flags_nil,xn] at this
  exact this
 have n1:nb h=ad h.size:=rfl
 rw [n1,Int.toNat_natCast,xn]
 have dl:=x.foot_lt (.inl rfl)
 refine f45L1_rule (s5:=⟨none,0,0⟩) (s6:=⟨some (ad h.size),D.ds.length,D.ds.length⟩) (fun m s0 s1 s5 s6 h'=>∃ (is:List Nat) (ob:Option Nat),m=D.ds.length - is.length∧s0=some (ad D.db)∧now=s1∧s6=⟨some (ad h.size),D.ds.length,D.ds.length⟩∧is.Nodup∧(∀ i ∈ is,i < D.ds.length∧dueB now (D.til i)=true)∧is.Pairwise (lexI D.til)∧(∀ i ∈ is,∀ j,j < D.ds.length→dueB now (D.til j)=true→j ∉ is→lexI D.til i j)∧Row h' h.size (flags D.ds.length is)∧SlAt 1 h' s5.a s5.n s5.c ob ((is.map D.conn).map iv)∧(ob=none ∨ is ≠ [])∧(∀ b,ob=some b→h.size < b)∧Kept N h h') D.ds.length
  ⟨[],none,rfl,rfl,rfl,rfl,List.nodup_nil,nofun,List.Pairwise.nil,nofun,r1,slAt_nil 1 h1,.inl rfl,nofun,k1⟩ ?_
 rintro m s0 s1 s5 s6 g h2 ⟨is,ob,rfl,rfl,rfl,rfl,nd,hin,pw,hle,r2,sa,hob,hfr,k2⟩
 unfold f45L1
 refine f45L2_rule (s5:=s5) (s6:=⟨some (ad h.size),D.ds.length,D.ds.length⟩) (fun m t0 t1 t5 t6 s7 s8 h'=>∃ i:Nat,i ≤ D.ds.length∧m=D.ds.length - i∧t0=some (ad D.db)∧now=t1∧s5=t5∧t6=⟨some (ad h.size),D.ds.length,D.ds.length⟩∧s8=(i:Int)∧h2=h'∧((s7=-1∧∀ j,j < i→dueB now (D.til j)=true→j ∈ is) ∨ ∃ b:Nat,s7=(b:Int)∧b < i∧dueB now (D.til b)=true∧b ∉ is∧∀ j,j < i→dueB now (D.til j)=true→j ∉ is→j ≠ b→lexI D.til b j)) D.ds.length
  ⟨0,Nat.zero_le _,rfl,rfl,rfl,rfl,rfl,rfl,rfl,.inl ⟨rfl,fun j hj=>by omega⟩⟩ ?_
 rintro m t0 t1 t5 t6 s7 s8 g2 h3 ⟨i,hi,rfl,rfl,rfl,rfl,rfl,rfl,rfl,hbest⟩
 unfold f45L2
 have x2:=x.keepN k2
 refine PtrOk_mk ⟨_,x2.c0,Cond_dec (fun hlt=>PtrOk_mk ⟨_,x2.c0,⟨by omega,by omega⟩,?_⟩) fun hge=>?_⟩
 ·have hil:i < D.ds.length:=by omega
  obtain ⟨y,hy⟩:∃ y,D.ds[i]?=some y:=⟨_,List.getElem?_eq_getElem hil⟩
  obtain ⟨pa,ea,c0,c1,c2,c3⟩:=x2.read hy
  have ty:D.til i=y.w.til:=by unfold DP.til; rw [hy]
  rw [Int.toNat_natCast]
  have fl:cell h2 ((ad h.size).add (i * 1))=some (.bool (decide (i ∈ is))):=by rw [Nat.mul_one,add_ad]; exact (cell_row r2 i).trans (flags_at hil)
  -- the two ways on
  have keep:(dueB now (D.til i)=true→i ∉ is→∃ b:Nat,s7=(b:Int)∧D.til b ≤ D.til i)→∃ m,m < D.ds.length - i∧∃ i':Nat,i' ≤ D.ds.length∧m=D.ds.length - i'∧(some (ad D.db))=some (ad D.db)∧now=now∧s5=s5∧(⟨some (ad h.size),D.ds.length,D.ds.length⟩:Sl)=⟨some (ad h.size),D.ds.length,D.ds.length⟩∧IntKind.wrap .i64 ((i:Int) + 1)=(i':Int)∧h2=h2∧((s7=-1∧∀ j,j < i'→dueB now (D.til j)=true→j ∈ is) ∨ ∃ b:Nat,s7=(b:Int)∧b < i'∧dueB now (D.til b)=true∧b ∉ is∧∀ j,j < i'→dueB now (D.til j)=true→j ∉ is→j ≠ b→lexI D.til b j):=fun hk=>by
   refine ⟨D.ds.length - (i + 1),by omega,i + 1,by omega,rfl,rfl,rfl,rfl,rfl,nxt8 (by omega),rfl,?_⟩
   rcases hbest with ⟨e,hb⟩ | ⟨b,e,hbi,hbd,hbn,hb⟩
   ·refine .inl ⟨e,fun j hj hd=>?_⟩
    by_cases ej:j=i
    ·subst ej
     apply Classical.byContradiction
     intro hn
     obtain ⟨b,hb',_⟩:=hk hd hn
     omega
    ·exact hb j (by omega) hd
   ·refine .inr ⟨b,e,by omega,hbd,hbn,fun j hj hd hn hne=>?_⟩
    by_cases ej:j=i
    ·subst ej
     obtain ⟨b',e',hb'⟩:=hk hd hn
     obtain rfl:b=b':=by omega
     unfold lexI
     omega
    ·exact hb j (by omega) hd hn hne
  have take:dueB now (D.til i)=true→i ∉ is→(s7 < 0 ∨ ∃ b:Nat,s7=(b:Int)∧D.til i < D.til b)→∃ m,m < D.ds.length - i∧∃ i':Nat,i' ≤ D.ds.length∧m=D.ds.length - i'∧(some (ad D.db))=some (ad D.db)∧now=now∧s5=s5∧(⟨some (ad h.size),D.ds.length,D.ds.length⟩:Sl)=⟨some (ad h.size),D.ds.length,D.ds.length⟩∧IntKind.wrap .i64 ((i:Int) + 1)=(i':Int)∧h2=h2∧(((i:Int)=-1∧∀ j,j < i'→dueB now (D.til j)=true→j ∈ is) ∨ ∃ b:Nat,(i:Int)=(b:Int)∧b < i'∧dueB now (D.til b)=true∧b ∉ is∧∀ j,j < i'→dueB now (D.til j)=true→j ∉ is→j ≠ b→lexI D.til b j):=fun hd hn hk=>by
   refine ⟨D.ds.length - (i + 1),by omega,i + 1,by omega,rfl,rfl,rfl,rfl,rfl,nxt8 (by omega),rfl,.inr ⟨i,rfl,by omega,hd,hn,fun j hj hjd hjn hne=>?_⟩⟩
   rcases hbest with ⟨e,hb⟩ | ⟨b,e,hbi,hbd,hbn,hb⟩
   ·exact absurd (hb j (by omega) hjd) hjn
   ·rcases hk with hk | ⟨b',e',hk⟩
    ·omega
    ·obtain rfl:b=b':=by omega
     unfold lexI
     by_cases ej:j=b
     ·subst ej; exact .inl hk
     ·have:=hb j (by omega) hjd hjn ej
      unfold lexI at this
      omega
  refine PtrOk_of ea ⟨_,c3,⟨by omega,by show (i:Int) < ((D.ds.length:Nat):Int); omega⟩,PtrOk_mk ⟨_,fl,?_⟩⟩
  by_cases hm:i ∈ is
  ·rw [decide_eq_true hm]
   exact Cond_f rfl (by unfold f45K1; exact Cond_f rfl (keep fun _ hn=>absurd hm hn))
  rw [decide_eq_false hm]
  refine Cond_t rfl (Cond_b (fun e0=>?_) fun e0=>?_)
  ·have e0:y.w.til ≠ 0:=by simpa using e0
   refine Cond_dec (fun hnow=>?_) fun hnow=>by unfold f45K1; exact Cond_f rfl (keep fun hd _=>absurd hd (by rw [ty]; unfold dueB; simp [hnow]))
   have hd:dueB now (D.til i)=true:=by rw [ty]; unfold dueB; simp [e0,hnow]
   refine Cond_dec (fun h7=>by unfold f45K1; exact Cond_t rfl (take hd hm (.inl h7))) fun h7=>PtrOk_mk ⟨_,x2.c0,?_⟩
   rcases hbest with ⟨e,hb⟩ | ⟨b,e,hbi,hbd,hbn,hb⟩
   ·omega
   ·obtain ⟨z,hz⟩:∃ z,D.ds[b]?=some z:=⟨_,List.getElem?_eq_getElem (by omega)⟩
    obtain ⟨pb,eb,d0,d1,d2,d3⟩:=x2.read hz
    have tz:D.til b=z.w.til:=by unfold DP.til; rw [hz]
    subst e
    rw [Int.toNat_natCast]
    refine ⟨⟨by omega,by omega⟩,PtrOk_of eb ⟨_,d3,?_⟩⟩
    unfold f45K1
    exact Cond_dec (fun hlt'=>take hd hm (.inr ⟨b,rfl,by rw [ty,tz]; exact hlt'⟩)) fun hge'=>keep fun _ _=>⟨b,rfl,by rw [ty,tz]; omega⟩
  ·have e0:y.w.til=0:=by simpa using e0
   unfold f45K1
   exact Cond_f rfl (keep fun hd _=>absurd hd (by rw [ty,e0]; unfold dueB; simp))
 ·have ei:i=D.ds.length:=by omega
  subst ei
  rcases hbest with ⟨e,hb⟩ | ⟨b,e,hbi,hbd,hbn,hb⟩
  ·refine Cond_dec (fun _=>?_) fun z=>by omega
   obtain ⟨c,il,hc⟩:=SlAt.il (l:=is.map D.conn) sa (hob.imp_right fun z e=>z (List.map_eq_nil_iff.1 e))
   exact hR is s5 c h2 (fun i=>⟨hin i,fun z=>hb i z.1 z.2⟩) nd pw il (fun hne=>Nat.le_of_lt (hfr c (hc fun e=>hne (List.map_eq_nil_iff.1 e)))) k2
  ·refine Cond_dec (fun z=>by omega) fun _=>?_
   subst e
   obtain ⟨z,hz⟩:∃ z,D.ds[b]?=some z:=⟨_,List.getElem?_eq_getElem (by omega)⟩
   have cz:D.conn b=z.w.conn:=by unfold DP.conn; rw [hz]
   rw [Int.toNat_natCast]
   refine ⟨⟨by omega,by show (b:Int) < ((D.ds.length:Nat):Int); omega⟩,PtrOk_mk (row_st r2 (i:=b) (by rw [Nat.mul_one,add_ad]) (by unfold flags; rw [List.length_map,List.length_range]; exact hbi) fun h3 r3 k3=>?_)⟩
   rw [flags_set hbi] at r3
   have k23:Kept N h h3:=kept_fresh k2 k3 fun i e=>by omega
   have x3:=x.keepN k23
   obtain ⟨pb,eb,d0,_⟩:=x3.read hz
   refine PtrOk_mk ⟨_,x3.c0,⟨by omega,by omega⟩,PtrOk_of eb ⟨_,d0,Let_mk fun h4 e4=>?_⟩⟩
   have k4:Kept N h3 h4:=e4 ▸ kept_push _ _ _
   have r4:Row h4 h3.size [iv z.w.conn]:=e4 ▸ row_new h3 _ 3
   have sa4:SlAt 1 h4 s5.a s5.n s5.c ob ((is.map D.conn).map iv):=sa.keep fun c hc=>by
    obtain ⟨_,_,j,r,_⟩:=sa.row c hc
    have:=hfr c hc
    have hl:=row_lt r
    have q3:=k3.1
    rw [k4.2 c (by omega) _root_.id,k3.2 c hl (by omega)]
   have nd':(is ++ [b]).Nodup:=by
    rw [List.nodup_append]
    refine ⟨nd,by simp,fun a ha c hc e=>?_⟩
    rw [List.mem_singleton.1 hc] at e
    exact hbn (e ▸ ha)
   have hin':∀ i ∈ is ++ [b],i < D.ds.length∧dueB now (D.til i)=true:=fun i hi=>by
    rcases List.mem_append.1 hi with hi | hi
    ·exact hin i hi
    ·rw [List.mem_singleton.1 hi]; exact ⟨hbi,hbd⟩
   have ll:(is ++ [b]).length ≤ D.ds.length:=by
    have:=List.Nodup.length_le_of_subset nd' (fun i hi=>List.mem_range.2 (hin' i hi).1)
    rwa [List.length_range] at this
   rw [List.length_append,List.length_singleton] at ll
   have sn:s5.n ≤ 8:=by
    have:=sa.len
    rw [List.length_map,List.length_map] at this
    omega
   have dl3:=row_lt r3
   have dl4:h3.size ≤ h4.size:=k4.1
   refine ⟨[iv z.w.conn],row_reads r4,rfl,appT_ok2 (m:=1) sa4 rfl rfl (fun v hv=>by rw [List.mem_singleton.1 hv]; rfl) (by omega) (by omega) fun a' c' ob' h5 sa5 hx=>?_⟩
   have k45:Kept (fun c=>ob=some c) h4 h5:=hx.elim (fun z=>z.2) fun z=>z.2.mono fun _ _ f=>f.elim
   refine ⟨D.ds.length - (is ++ [b]).length,by rw [List.length_append,List.length_singleton]; omega,is ++ [b],ob',rfl,rfl,(by first | rfl | trivial),(by first | rfl | trivial),nd',hin',?_,fun i hi j hj hd hn=>?_,kept_row k45 (kept_row k4 r3 _root_.id) fun e=>?_,?_,.inr (by simp),fun c hc=>?_,kept_fresh (k23.trans k4) k45 fun c hc=>Nat.le_of_lt (hfr c hc)⟩
   ·rw [List.pairwise_append]
    refine ⟨pw,List.pairwise_singleton _ _,fun a ha c hc=>?_⟩
    rw [List.mem_singleton.1 hc]
    exact hle a ha b hbi hbd hbn
   ·have hn1:j ∉ is:=fun z=>hn (List.mem_append_left _ z)
    have hn2:j ≠ b:=fun z=>hn (List.mem_append_right _ (by rw [z]; exact List.mem_singleton.2 rfl))
    rcases List.mem_append.1 hi with hi | hi
    ·exact hle i hi j hj hd hn1
    ·rw [List.mem_singleton.1 hi]; exact hb j hj hd hn1 hn2
   ·have:=hfr _ e; omega
   ·rw [List.map_append,List.map_append,List.map_singleton,cz]
    exact sa5
   ·rcases hx with ⟨e,_⟩ | ⟨e,_⟩
    ·exact hfr c (e ▸ hc)
    ·rw [e] at hc
     obtain rfl:=Option.some.inj hc
     omega
/-! ### Two lists in order, of the same -/
theorem sorted_unique {lt:Int→Int→Prop}:∀ {a b:List Int},a.Perm b→(∀ x ∈ a,∀ y ∈ a,lt x y→lt y x→False)→a.Pairwise lt→b.Pairwise lt→a=b
 | [],b,p,_,_,_=>by rw [List.nil_perm.1 p]
 | x :: a,[],p,_,_,_=>absurd p.symm (by simp)
 | x :: a,y :: b,p,asy,pa,pb=>by
  rw [List.pairwise_cons] at pa pb
  have e:x=y:=by
   apply Classical.byContradiction
   intro hne
   have h1:x ∈ b:=by
    rcases List.mem_cons.1 (p.mem_iff.1 (List.mem_cons_self ..)) with h | h
    ·exact absurd h hne
    ·exact h
   have h2:y ∈ a:=by
    rcases List.mem_cons.1 (p.mem_iff.2 (List.mem_cons_self ..)) with h | h
    ·exact absurd h.symm hne
    ·exact h
   exact asy x (List.mem_cons_self ..) y (List.mem_cons_of_mem _ h2) (pa.1 y h2) (pb.1 x h1)
  subst e
  rw [sorted_unique (List.Perm.cons_inv p) (fun u hu v hv=>asy u (List.mem_cons_of_mem _ hu) v (List.mem_cons_of_mem _ hv)) pa.2 pb.2]
theorem sorted_insert {lt:Int→Int→Prop} {a:Int}:∀ {l:List Int},(∀ x ∈ l,lt a x ∨ lt x a)→(∀ x ∈ l,∀ y ∈ l,lt a x→lt x y→lt a y)→l.Pairwise lt→∃ m:List Int,m.Perm (a :: l)∧m.Pairwise lt
 | [],_,_,_=>⟨[a],List.Perm.refl _,List.pairwise_singleton _ _⟩
 | x :: l,tot,tr,pw=>by
  rcases tot x (List.mem_cons_self ..) with h | h
  ·refine ⟨a :: x :: l,List.Perm.refl _,List.pairwise_cons.2 ⟨fun y hy=>?_,pw⟩⟩
   rcases List.mem_cons.1 hy with rfl | hy'
   ·exact h
   ·exact tr x (List.mem_cons_self ..) y hy h ((List.pairwise_cons.1 pw).1 y hy')
  ·obtain ⟨m,pm,sm⟩:=sorted_insert (l:=l) (fun y hy=>tot y (List.mem_cons_of_mem _ hy)) (fun y hy z hz=>tr y (List.mem_cons_of_mem _ hy) z (List.mem_cons_of_mem _ hz)) (List.pairwise_cons.1 pw).2
   refine ⟨x :: m,(pm.cons x).trans (List.Perm.swap ..),List.pairwise_cons.2 ⟨fun y hy=>?_,sm⟩⟩
   rcases List.mem_cons.1 (pm.mem_iff.1 hy) with rfl | hy'
   ·exact h
   ·exact (List.pairwise_cons.1 pw).1 y hy'
theorem sorted_exists {lt:Int→Int→Prop}:∀ {l:List Int},Ord l lt→∃ m:List Int,m.Perm l∧m.Pairwise lt
 | [],_=>⟨[],List.Perm.refl _,List.Pairwise.nil⟩
 | a :: l,o=>by
  have nd:=List.nodup_cons.1 o.nd
  obtain ⟨m,pm,sm⟩:=sorted_exists (l:=l) ⟨nd.2,fun x hx y hy=>o.tot x (List.mem_cons_of_mem _ hx) y (List.mem_cons_of_mem _ hy),fun x hx y hy z hz=>o.tr x (List.mem_cons_of_mem _ hx) y (List.mem_cons_of_mem _ hy) z (List.mem_cons_of_mem _ hz),fun x hx=>o.ir x (List.mem_cons_of_mem _ hx)⟩
  have mm:∀ x ∈ m,x ∈ a :: l:=fun x hx=>List.mem_cons_of_mem _ (pm.mem_iff.1 hx)
  obtain ⟨m',pm',sm'⟩:=sorted_insert (a:=a) (l:=m) (fun x hx=>o.tot a (List.mem_cons_self ..) x (mm x hx) fun e=>nd.1 (e ▸ pm.mem_iff.1 hx)) (fun x hx y hy=>o.tr a (List.mem_cons_self ..) x (mm x hx) y (mm y hy)) sm
  exact ⟨m',pm'.trans (pm.cons a),sm'⟩
end
end Go.Ev
