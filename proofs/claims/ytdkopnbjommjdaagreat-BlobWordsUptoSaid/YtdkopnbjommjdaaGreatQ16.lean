/- blob / Alloc finds room just where the live words say so / The live large objects' words, by the walk's list and by the slots / Room for a blob, by what the handles hold. No condition but that these are ones. -/
import Derived.Test.YtdkopnbjommjdaaGreatQ15
import Derived.Test.YtdkopnbjommjdaaGreatQ14
set_option linter.all false
set_option maxRecDepth 1000000
namespace Go.Ev
open Go.Proofs
theorem ovw_get {cs l:List Value} {o:Nat} (h:o + l.length ≤ cs.length) (j:Nat):(ovw cs o l)[j]?=if o ≤ j∧j < o + l.length then l[j - o]? else cs[j]?:=by
 unfold ovw
 by_cases h1:j < o
 ·rw [if_neg (by omega),List.append_assoc,List.getElem?_append_left (by rw [List.length_take]; omega),List.getElem?_take_of_lt h1]
 ·by_cases h2:j < o + l.length
  ·rw [if_pos ⟨by omega,h2⟩,List.getElem?_append_left (by rw [List.length_append,List.length_take]; omega),List.getElem?_append_right (by rw [List.length_take]; omega),List.length_take,Nat.min_eq_left (by omega)]
  ·rw [if_neg (by omega),List.getElem?_append_right (by rw [List.length_append,List.length_take]; omega),List.length_append,List.length_take,Nat.min_eq_left (by omega),List.getElem?_drop]
   congr 1
   omega
/-- Bytes are copied into a block. -/
theorem cpy_row {h:Hp} {b:Nat} {cs:List Value} {o n m:Nat} {src base:Option Addr} {l:List Nat} {K:Int→Hp→Prop} (row:Row h b cs) (rd:ReadsO h src (l.map bv)) (hm:m=l.length) (hn:m ≤ n) (ho:o + l.length ≤ cs.length)
  (hb:l ≠ []→base=some ⟨b,o,none⟩) (hK:∀ h',Row h' b (ovw cs o (l.map bv))→Kept (fun i=>i=b) h h'→K (m:Nat) h'):cpySl 1 base n src m h K:=by
 have hmin:min m n=m:=Nat.min_eq_left hn
 refine ⟨l.map bv,rd,by rw [List.length_map,hmin]; omega,?_⟩
 rw [hmin]
 by_cases hl:l=[]
 ·subst hl
  have e:ovw cs o (([]:List Nat).map bv)=cs:=by unfold ovw; simp
  rw [e] at hK
  have:=hK h row (Kept.refl _ _)
  cases base with
  | none=>exact this
  | some a=>exact ⟨trivial,this⟩
 ·rw [hb hl]
  show stsOk h ((⟨b,o,none⟩:Addr).add 0) _ 0∧K _ (setcs h ((⟨b,o,none⟩:Addr).add 0) _ 0)
  have ea:(⟨b,o,none⟩:Addr).add 0=⟨b,o,none⟩:=rfl
  rw [ea]
  refine ⟨stsOk_row _ _ _ o 0 row (by rw [List.length_map]; omega) (fun v hv=>by obtain ⟨x,_,rfl⟩:=List.mem_map.1 hv; rfl),hK _ ?_ (kept_setcs _ _ _ _ rfl)⟩
  have:=row_setcs (l.map bv) h _ o 0 row (by rw [List.length_map]; omega)
  rwa [Nat.add_zero] at this
theorem splice_cells {b t:List Nat} {p:Nat}:ovw (ovw (List.replicate (max b.length (p + t.length)) (bv 0)) 0 (b.map bv)) p (t.map bv)=(splice b p t).map bv:=by
 have h1:(ovw (List.replicate (max b.length (p + t.length)) (bv 0)) 0 (b.map bv)).length=max b.length (p + t.length):=by
  rw [ovw_len (by rw [List.length_map,List.length_replicate]; omega),List.length_replicate]
 apply List.ext_getElem?
 intro j
 rw [ovw_get (by rw [h1,List.length_map]; omega),ovw_get (by rw [List.length_map,List.length_replicate]; omega),List.length_map,List.length_map]
 unfold splice
 rw [List.map_map,List.getElem?_map,List.getElem?_map (f:=bv ∘ _)]
 by_cases hj:j < max b.length (p + t.length)
 ·rw [List.getElem?_range hj]
  show _=some (bv (if p ≤ j∧j < p + t.length then t.getD (j - p) 0 else b.getD j 0))
  by_cases hc:p ≤ j∧j < p + t.length
  ·rw [if_pos hc,if_pos hc,List.getD_eq_getElem?_getD,List.getElem?_eq_getElem (by omega)]
   rfl
  ·rw [if_neg hc,if_neg hc]
   by_cases h2:j < b.length
   ·rw [if_pos ⟨by omega,by omega⟩,List.getD_eq_getElem?_getD,Nat.sub_zero,List.getElem?_map,List.getElem?_eq_getElem h2]
    rfl
   ·rw [if_neg (by omega),List.getElem?_replicate,if_pos hj,List.getD_eq_getElem?_getD,List.getElem?_eq_none (by omega)]
    rfl
 ·rw [if_neg (by omega),if_neg (by omega),List.getElem?_replicate,if_neg hj,List.getElem?_eq_none (by simp; omega)]; rfl
namespace RS
def newF (s:RS) (parts:List (List Nat)):RS × Nat × Int:=if parts.flatten.length > 4096 then (s,0,41) else s.layF parts.flatten
def writeF (s:RS) (id:Nat) (b:List Nat) (p:Int) (t:List Nat):RS × Nat × Int :=
 if p < 0 ∨ p > 4096 then (s,0,42)
 else if t.length=0 then (s,s.ref id,0)
 else if (t.length:Int) > 4096 - p then (s,0,41)
 else if wordsN (max b.length (p.toNat + t.length))=wordsN b.length then (s.inPl id (blobRaws (splice b p.toNat t)),s.ref id,0)
 else ((((s.rootF (s.ref id)).1.layF (splice b p.toNat t)).1.dropF ((s.rootF (s.ref id)).2.1:Nat)).1,((s.rootF (s.ref id)).1.layF (splice b p.toNat t)).2.1,((s.rootF (s.ref id)).1.layF (splice b p.toNat t)).2.2)
end RS
/-- Lists of bytes handed over. -/
structure Srcs (h:Hp) (q:HQ) (a:Sl) (sls:List Sl) (parts:List (List Nat)):Prop where
 rd:ReadsO h a.a (sls.map slV)
 n:a.n=sls.length
 len:sls.length=parts.length
 each:∀ (i:Nat) (c:Sl) (p:List Nat),sls[i]?=some c→parts[i]?=some p→ReadsO h c.a (p.map bv)∧c.n=p.length∧Bytes8 p∧p.length < 140737488355328∧∀ a:Addr,c.a=some a→p ≠ []→a.block < h.size
section
variable {h h' h2:Hp} {q q' q2:HQ} {s s':RS} {nd:List NodeD} {b t:List Nat} {id:Nat} {R:Value→Hp→Prop}
theorem flat_take {parts:List (List Nat)} {i:Nat} {p:List Nat} (h:parts[i]?=some p):(parts.take (i + 1)).flatten=(parts.take i).flatten ++ p:=by rw [RS.take_snoc h]; simp
theorem flat_le (parts:List (List Nat)) (i:Nat):(parts.take i).flatten.length ≤ parts.flatten.length:=by
 conv=>rhs; rw [← List.take_append_drop i parts,List.flatten_append,List.length_append]
 omega
theorem new_ok (x:HSt h q s) (sh:s.Shd nd) {a:Sl} {sls:List Sl} {parts:List (List Nat)} (sr:Srcs h q a sls parts) (hlong:sls.length < 100000000000000) (hR:Does h q (s.newF parts).1 (.tuple #[uv (s.newF parts).2.1,.int .i64 (s.newF parts).2.2]) R) :
  CallTo Tryz.prog 41 #[.pointer (some (ad q.hb)),.slice a.a a.n a.c] h R:=by
 have part:∀ i,i < sls.length→∃ c p,sls[i]?=some c∧parts[i]?=some p:=fun i hi=>⟨_,_,List.getElem?_eq_getElem hi,List.getElem?_eq_getElem (by have:=sr.len; omega)⟩
 have han:=sr.n
 have hsl:=sr.len
 refine f41F_ok ?_
 unfold f41F
 refine f41L1_rule (fun m s0 s1 s6 s13 s14 s15 h'=>∃ i:Nat,i ≤ sls.length∧m=sls.length - i∧s0=some (ad q.hb)∧a=s1∧s6=(((parts.take i).flatten.length:Nat):Int)∧(parts.take i).flatten.length ≤ 4096∧a=s13∧s14=((sls.length:Nat):Int)∧s15=(i:Int)∧h=h') sls.length
  ⟨0,Nat.zero_le _,rfl,rfl,rfl,rfl,by simp,rfl,by rw [han],rfl,rfl⟩ ?_
 rintro m s0 s1 s6 s13 s14 s15 g h1 ⟨i,hi,rfl,rfl,rfl,rfl,hle,rfl,rfl,rfl,rfl⟩
 unfold f41L1
 refine Cond_dec (fun hlt=>?_) fun hge=>?_
 ·have hil:i < sls.length:=by omega
  obtain ⟨c,p,hc,hp⟩:=part i hil
  obtain ⟨rdc,nc,b8,lc,oc⟩:=sr.each i c p hc hp
  obtain ⟨pa,hpa,hcell⟩:=readsO_get sr.rd (i:=i) (v:=slV c) (by rw [List.getElem?_map,hc]; rfl)
  refine ⟨⟨by omega,by omega⟩,PtrOk_of hpa ⟨c,by rw [Int.toNat_natCast,Nat.mul_one]; exact hcell,?_⟩⟩
  have ef:(((parts.take i).flatten.length:Nat):Int) + ((c.n:Nat):Int)=(((parts.take (i + 1)).flatten.length:Nat):Int):=by
   rw [flat_take hp,List.length_append,nc]; omega
  have hfl:=flat_le parts (i + 1)
  have e1:(parts.take (i + 1)).flatten.length=(parts.take i).flatten.length + p.length:=by rw [flat_take hp,List.length_append]
  rw [wrap_i64' (x:=(((parts.take i).flatten.length:Nat):Int) + _) (by omega) (by omega),ef]
  refine Cond_dec (fun hbig=>?_) fun hok=>⟨sls.length - (i + 1),by omega,i + 1,hil,rfl,rfl,rfl,rfl,by omega,rfl,rfl,by rw [wrap_i64' (by omega) (by omega)]; rfl,rfl⟩
  have:s.newF parts=(s,0,41):=by unfold RS.newF; rw [if_pos (by omega)]
  rw [this] at hR
  exact hR _ q x (Ex.refl _ _)
 ·have hie:i=parts.length:=by omega
  subst hie
  rw [List.take_length] at hle ⊢
  have hF:=hle
  generalize hn:parts.flatten.length=n at hle ⊢
  refine ⟨⟨by omega,by omega⟩,by omega,by omega,Let_mk fun h2 e2=>?_⟩
  rw [Int.toNat_natCast] at e2 ⊢
  have k2:Kept N h h2:=e2 ▸ kept_push _ _ _
  have row2:Row h2 h.size (List.replicate n (bv 0)):=by
   have e3:=e2
   rw [zrow_one] at e3
   exact e3 ▸ row_new h (List.replicate n (bv 0)).toArray 5
  have enb:nb h=ad h.size:=rfl
  rw [enb]
  refine f41L2_rule (fun m s0 s9 s10 s28 s29 s30 h'=>∃ i:Nat,i ≤ sls.length∧m=sls.length - i∧s0=some (ad q.hb)∧s9=⟨some (ad h.size),n,n⟩∧s10=(((parts.take i).flatten.length:Nat):Int)∧a=s28∧s29=((sls.length:Nat):Int)∧s30=(i:Int) ∧
    Kept N h h'∧Row h' h.size ((parts.take i).flatten.map bv ++ List.replicate (n - (parts.take i).flatten.length) (bv 0))) sls.length
   ⟨0,Nat.zero_le _,rfl,rfl,rfl,rfl,rfl,by rw [han],rfl,k2,by simpa using row2⟩ ?_
  rintro m s0 s9 s10 s28 s29 s30 g2 h3 ⟨i,hi,rfl,rfl,rfl,rfl,rfl,rfl,rfl,k3,row3⟩
  unfold f41L2
  have hfi:=flat_le parts i
  refine Cond_dec (fun hlt=>?_) fun hge=>?_
  ·have hil:i < sls.length:=by omega
   obtain ⟨c,p,hc,hp⟩:=part i hil
   obtain ⟨rdc,nc,b8,lc,oc⟩:=sr.each i c p hc hp
   obtain ⟨pa,hpa,hcell⟩:=readsO_get (reads_keptN k3 sr.rd) (i:=i) (v:=slV c) (by rw [List.getElem?_map,hc]; rfl)
   have hfl:=flat_le parts (i + 1)
   have e1:(parts.take (i + 1)).flatten.length=(parts.take i).flatten.length + p.length:=by rw [flat_take hp,List.length_append]
   refine ⟨⟨by omega,by omega⟩,PtrOk_of hpa ⟨c,by rw [Int.toNat_natCast,Nat.mul_one]; exact hcell,⟨by omega,by show (((parts.take i).flatten.length:Nat):Int) ≤ ((n:Nat):Int); omega⟩,?_⟩⟩
   rw [Int.toNat_natCast]
   refine cpy_row (o:=(parts.take i).flatten.length) (l:=p) row3 (reads_keptN k3 rdc) nc (by show c.n ≤ n - _; omega) ?_ (fun hne=>?_) fun h4 row4 k4=>?_
   ·rw [List.length_append,List.length_map,List.length_replicate]; omega
   ·have hpos:0 < p.length:=List.length_pos_iff.2 hne
    show (if n=(parts.take i).flatten.length then _ else _)=_
    rw [if_neg (by omega)]
    show some ((ad h.size).add _)=_
    rw [add_ad,Nat.mul_one]
   ·refine ⟨sls.length - (i + 1),by omega,i + 1,hil,rfl,rfl,rfl,?_,rfl,rfl,by rw [wrap_i64' (by omega) (by omega)]; rfl,?_,?_⟩
    ·rw [wrap_i64' (by omega) (by omega)]; omega
    ·exact ⟨Nat.le_trans k3.1 k4.1,fun j hj _=>(k4.2 j (Nat.lt_of_lt_of_le hj k3.1) (by omega)).trans (k3.2 j hj id)⟩
    ·have e5:ovw ((parts.take i).flatten.map bv ++ List.replicate (n - (parts.take i).flatten.length) (bv 0)) (parts.take i).flatten.length (p.map bv)=(parts.take (i + 1)).flatten.map bv ++ List.replicate (n - (parts.take (i + 1)).flatten.length) (bv 0):=by
      unfold ovw
      have q1:((parts.take i).flatten.map bv ++ List.replicate (n - (parts.take i).flatten.length) (bv 0)).take (parts.take i).flatten.length=(parts.take i).flatten.map bv:=by
       rw [List.take_append_of_le_length (by rw [List.length_map]; exact Nat.le_refl _),List.take_of_length_le (by rw [List.length_map]; exact Nat.le_refl _)]
      have q2:((parts.take i).flatten.map bv ++ List.replicate (n - (parts.take i).flatten.length) (bv 0)).drop ((parts.take i).flatten.length + (p.map bv).length)=List.replicate (n - (parts.take (i + 1)).flatten.length) (bv 0):=by
       rw [List.length_map,List.drop_append,List.drop_eq_nil_of_le (by rw [List.length_map]; omega),List.nil_append,List.length_map,List.drop_replicate]
       congr 1
       omega
      rw [q1,q2,flat_take hp,List.map_append]
     rw [e5] at row4
     exact row4
  ·have hie:i=parts.length:=by omega
   subst hie
   rw [List.take_length,hn,Nat.sub_self,List.replicate_zero,List.append_nil] at row3
   have x3:=x.keepN k3
   have b8:Bytes8 parts.flatten:=fun c hc=>by
    obtain ⟨p,hp,hcp⟩:=List.mem_flatten.1 hc
    obtain ⟨i,hi⟩:=List.mem_iff_getElem?.1 hp
    have hil:=(List.getElem?_eq_some_iff.1 hi).1
    obtain ⟨c',p',hc',hp'⟩:=part i (by omega)
    rw [hi] at hp'
    obtain rfl:=Option.some.inj hp'
    exact (sr.each i c' p hc' hi).2.2.1 c hcp
   have sr3:Src h3 q ⟨some (ad h.size),n,n⟩ parts.flatten:=⟨row_reads row3,hn.symm,b8,fun p hp _=>by obtain rfl:=Option.some.inj hp; exact ⟨x.fr (Nat.le_refl _),row_lt row3⟩⟩
   have e6:s.newF parts=s.layF parts.flatten:=by unfold RS.newF; rw [if_neg (by omega)]
   rw [e6] at hR
   exact lay_ok x3 sh ⟨b8,by omega⟩ sr3 fun h5 q5 x5 ex5=>⟨_,_,rfl,hR h5 q5 x5 ((Ex.of_kept k3 fun b hb=>x.fr hb).trans ex5)⟩
end
end Go.Ev
set_option linter.all false
set_option maxRecDepth 1000000
namespace Go.Ev
open Go.Proofs
section
variable {h h' h2:Hp} {q q' q2:HQ} {s s':RS} {nd:List NodeD} {b t:List Nat} {id:Nat} {R:Value→Hp→Prop}
theorem okb_splice {p:Nat} (ok:Okb b) (ht:Bytes8 t) (hl:p + t.length ≤ 4096):Okb (splice b p t):=⟨splice_8 p ok.b8 ht,by rw [splice_len]; have:=ok.len; omega⟩
theorem splice_raws {p:Nat} (ok:Okb b) (ht:Bytes8 t) (hl:p + t.length ≤ 4096) (hw:wordsN (max b.length (p + t.length))=wordsN b.length) :
  putBytes ((blobRaws b).set 0 (max b.length (p + t.length))) (8 + p) t=blobRaws (splice b p t) :=
 (ok.is.write ht hw (by have:=ok.len; omega)).uniq (okb_splice ok ht hl).is
theorem rootF_good (v:s.Inv) (hh:id=0 ∨ s.here id):s.rootF (s.ref id)=(s.withRoots (if RS.freeAt s.roots < s.roots.length then s.roots.set (RS.freeAt s.roots) (some id) else s.roots ++ [some id]),RS.freeAt s.roots + 1,0):=by
 unfold RS.rootF
 rw [if_pos (RS.good_ref v hh),RS.ident_ref v hh]
theorem write_ok (x:HSt h q s) (sh:s.Shd nd) (B:s.IsB id b) (ok:Okb b) {p:Int} (hp:-9223372036854775808 ≤ p∧p < 9223372036854775808) {a:Sl} (sr:Src h q a t) (htl:t.length < 140737488355328) (rl:s.roots.length < 100000000)
  (hR:Does h q (s.writeF id b p t).1 (.tuple #[uv (s.writeF id b p t).2.1,.int .i64 (s.writeF id b p t).2.2]) R) :
  CallTo Tryz.prog 47 #[.pointer (some (ad q.hb)),uv (s.ref id),.int .i64 p,.slice a.a a.n a.c] h R:=by
 have hl:=ok.len
 have hrl:=RS.ref_lt x.v (.inr B.here)
 have an:=sr.n
 refine f47F_ok ?_
 unfold f47F
 refine len_ok x B ok ⟨_,_,rfl,Cond_f rfl ?_⟩
 unfold RS.writeF at hR
 have main:∀ bb,bb=decide (p < 0 ∨ p > 4096)→f47K1 (some (ad q.hb)) ((s.ref id:Nat):Int) p a ((b.length:Nat):Int) bb h R:=fun bb hbb=>by
  unfold f47K1
  subst hbb
  refine Cond_dec (fun hc=>?_) fun hc=>?_
  ·rw [if_pos hc] at hR
   exact hR h q x (Ex.refl _ _)
  rw [if_neg hc] at hR
  refine Cond_b (fun h0=>?_) fun h0=>?_
  ·have h0:t.length=0:=by have:=beq_iff_eq.1 h0; omega
   rw [if_pos h0] at hR
   exact hR h q x (Ex.refl _ _)
  have h0:¬ t.length=0:=fun e=>by rw [beq_eq_false_iff_ne] at h0; omega
  rw [if_neg h0] at hR
  rw [wrap_i64' (x:=(4096:Int) - p) (by omega) (by omega),an]
  refine Cond_dec (fun hb=>?_) fun hb=>?_
  ·rw [if_pos (by omega)] at hR
   exact hR h q x (Ex.refl _ _)
  rw [if_neg (by omega)] at hR
  obtain ⟨pn,rfl⟩:∃ pn:Nat,p=(pn:Int):=⟨p.toNat,by omega⟩
  rw [Int.toNat_natCast] at hR
  have hsum:pn + t.length ≤ 4096:=by omega
  have em:(if ((b.length:Nat):Int) < IntKind.wrap .i64 (((pn:Nat):Int) + ((t.length:Nat):Int)) then IntKind.wrap .i64 (((pn:Nat):Int) + ((t.length:Nat):Int)) else ((b.length:Nat):Int))=((max b.length (pn + t.length):Nat):Int):=by
   rw [wrap_i64' (by omega) (by omega)]
   split <;> omega
  rw [em]
  have sa:Src h q ⟨a.a,t.length,a.c⟩ t:=⟨sr.rd,rfl,sr.b8,sr.out⟩
  generalize hM:max b.length (pn + t.length)=M at hR ⊢
  refine words_ok (by omega) ⟨_,rfl,words_ok (by omega) ⟨_,rfl,Cond_b (fun hw=>?_) fun hw=>?_⟩⟩
  ·have hw:wordsN M=wordsN b.length:=by have:=beq_iff_eq.1 hw; omega
   rw [if_pos hw] at hR
   have ew:IntKind.wrap .u64 ((M:Nat):Int)=((M:Nat):Int):=wrap_u64' (by omega) (by omega)
   have e8:IntKind.wrap .i64 ((8:Int) + ((pn:Nat):Int))=((8 + pn:Nat):Int):=by rw [wrap_i64' (by omega) (by omega)]; omega
   rw [ew,e8]
   obtain ⟨q1,q2⟩:=RS.set_bytes x.v B ok (m:=M) (p:=pn) (t:=t) (by omega) (by unfold wordsN at hw ⊢; omega) sr.b8
   refine c_set x hrl (by omega) fun h1 q1' x1 ex1=>⟨_,rfl,?_⟩
   rw [q1] at x1
   rw [← ex1.1]
   refine c_setbytes (a:=⟨a.a,t.length,a.c⟩) x1 hrl (by omega) (by omega) (sa.ex ex1).rd rfl sr.b8 (fun p hp hn=>((sa.ex ex1).out p hp hn).1) (by omega) fun h2 q2' x2 ex2=>⟨_,rfl,hR h2 q2' ?_ (ex1.trans ex2)⟩
   rw [q2] at x2
   rw [← splice_raws ok sr.b8 hsum (by rw [hM]; exact hw),hM]
   exact x2
  ·have hw:¬ wordsN M=wordsN b.length:=fun e=>by rw [e,beq_self_eq_true] at hw; cases hw
   rw [if_neg hw] at hR
   refine ⟨⟨by omega,by omega⟩,by omega,by omega,Let_mk fun h1 e1=>?_⟩
   rw [Int.toNat_natCast] at e1 ⊢
   have k1:Kept N h h1:=e1 ▸ kept_push _ _ _
   have row1:Row h1 h.size (List.replicate M (bv 0)):=by
    have e3:=e1
    rw [zrow_one] at e3
    exact e3 ▸ row_new h (List.replicate M (bv 0)).toArray 5
   have enb:nb h=ad h.size:=rfl
   rw [enb]
   refine read_ok (x.keepN k1) B ok fun c h2 rowc hc k2=>⟨⟨_,_,_⟩,_,rfl,?_⟩
   have row2:=kept_row k2 row1 _root_.id
   refine cpy_row (o:=0) (l:=b) row2 (row_reads rowc) rfl (by show b.length ≤ M; omega) (by rw [List.length_replicate]; omega) (fun _=>rfl) fun h3 row3 k3=>⟨⟨by omega,by omega⟩,?_⟩
   rw [Int.toNat_natCast]
   have kN3:Kept N h h3:=⟨Nat.le_trans (Nat.le_trans k1.1 k2.1) k3.1,fun j hj _=>(k3.2 j (Nat.lt_of_lt_of_le hj (Nat.le_trans k1.1 k2.1)) (by omega)).trans ((k1.trans k2).2 j hj _root_.id)⟩
   refine cpy_row (o:=pn) (l:=t) row3 (reads_keptN kN3 sr.rd) rfl (by omega) (by rw [ovw_len (by rw [List.length_map,List.length_replicate]; omega),List.length_replicate]; omega) (fun _=>?_) fun h4 row4 k4=>?_
   ·rw [if_neg (by omega)]
    show some ((ad h.size).add _)=_
    rw [add_ad,Nat.mul_one]
   have kN4:Kept N h h4:=⟨Nat.le_trans kN3.1 k4.1,fun j hj _=>(k4.2 j (Nat.lt_of_lt_of_le hj kN3.1) (by omega)).trans (kN3.2 j hj _root_.id)⟩
   rw [← hM,splice_cells] at row4
   have x4:=x.keepN kN4
   have er:=rootF_good x.v (id:=id) (.inr B.here)
   refine c_root x4 rl hrl fun h5 q5 x5 ex5=>⟨_,_,rfl,Cond_f (by rw [er]; rfl) ?_⟩
   have e04:=(Ex.of_kept kN4 fun b hb=>x.fr hb).trans ex5
   have sh1:(s.rootF (s.ref id)).1.Shd nd:=by rw [er]; exact sh.roots _
   have out4:q.role h.size=.out:=x.fr (Nat.le_refl _)
   have src4:Src h4 q ⟨some (ad h.size),M,M⟩ (splice b pn t):=⟨row_reads row4,by rw [splice_len]; exact hM.symm,splice_8 pn ok.b8 sr.b8,fun p hp _=>by obtain rfl:=Option.some.inj hp; exact ⟨out4,row_lt row4⟩⟩
   rw [← ex5.1]
   refine lay_ok x5 sh1 (okb_splice ok sr.b8 hsum) (src4.ex ex5) fun h6 q6 x6 ex6=>⟨_,_,rfl,?_⟩
   rw [← ex6.1]
   exact c_drop x6 fun h7 q7 x7 ex7=>⟨_,rfl,hR h7 q7 x7 ((e04.trans ex6).trans ex7)⟩
 refine Cond_dec (fun hc=>main _ (decide_eq_true (.inl hc)).symm) fun hc=>main _ ?_
 by_cases hd:p > 4096
 ·rw [decide_eq_true hd,decide_eq_true (.inr hd)]
 ·rw [decide_eq_false hd,decide_eq_false (by omega)]
end
end Go.Ev
set_option linter.all false
set_option maxRecDepth 100000
namespace Go.Ev
open Go.Proofs
namespace RS
section
variable {s:RS}
theorem fit_room (v:s.Inv) {n:Nat} (h:2 * (s.used + n) ≤ s.limit - s.large):s.used + n ≤ (s.fit n).half:=by
 obtain ⟨w1,w2,w3⟩:=want_facts (s.used + n)
 have hb:∀ m,(s.become m).half=m:=fun m=>by unfold become; split <;> first | (rename_i e; exact e.symm) | rfl
 have i1:=v.h2
 unfold fit
 split
 ·split
  ·rw [hb]; omega
  ·omega
 ·split
  ·rw [hb]; omega
  ·omega
theorem fit_same (n:Nat):(s.fit n).used=s.used∧(s.fit n).large=s.large∧(s.fit n).limit=s.limit:=by
 have hb:∀ m,(s.become m).used=s.used∧(s.become m).large=s.large∧(s.become m).limit=s.limit:=fun m=>by unfold become; split <;> exact ⟨rfl,rfl,rfl⟩
 unfold fit
 split
 ·split
  ·exact hb _
  ·exact ⟨rfl,rfl,rfl⟩
 ·split
  ·exact hb _
  ·exact ⟨rfl,rfl,rfl⟩
/-- P3.9's rule, of the live words. -/
def Room (s:RS) (r w:Nat):Prop :=
 if 1 + r + w ≤ 64 then 2 * (s.collection.used + (1 + r + w)) ≤ s.limit - s.collection.large∧s.collection.large ≤ s.limit
 else s.collection.large + (1 + r + w) + 1 + 2 * max s.collection.used 64 ≤ s.limit
theorem alloc_room (v:s.Inv) {k r w:Int} (hs:Shape k r w):(s.alloc k r w).2.2=0 ↔ s.Room r.toNat w.toNat:=by
 have c1:=collection_used v
 have c2:=collection_large v
 have vc:=v.collection
 have i1:=v.h1; have i2:=v.h2; have i3:=v.u2
 have j2:=vc.h2; have j3:=vc.u2; have j1:=vc.h1
 have el:s.collection.limit=s.limit:=rfl
 unfold alloc Room
 rw [if_pos hs]
 by_cases hn:64 < 1 + r.toNat + w.toNat
 ·rw [if_pos hn,if_neg (by omega)]
  unfold block
  generalize hg:s.block1 (2 + r.toNat + w.toNat)=g
  have hv:g.Inv:=hg ▸ v.block1 _
  have hl:g.limit=s.limit∧((g=s∧¬ (s.limit < 2 * s.half + s.large + (2 + r.toNat + w.toNat))) ∨ (g.used=s.collection.used∧g.large=s.collection.large)):=by
   rw [← hg]
   unfold block1
   split
   ·obtain ⟨f1,f2,f3⟩:=fit_same (s:=s.collection) 0
    exact ⟨f3,.inr ⟨f1,f2⟩⟩
   ·rename_i hc
    exact ⟨rfl,.inl ⟨rfl,fun h=>hc (.inl h)⟩⟩
  have g1:=hv.h1; have g2:=hv.h2; have g3:=hv.u2
  unfold block2
  obtain ⟨hl1,hl2⟩:=hl
  rcases hl2 with ⟨e,hc⟩ | ⟨e1,e2⟩
  ·subst e
   rw [if_neg hc]
   exact ⟨fun _=>by omega,fun _=>rfl⟩
  ·split
   ·split
    ·exact ⟨fun h=>by exact absurd h (by show ¬ ((31:Int)=0); omega),fun h=>by omega⟩
    ·exact ⟨fun _=>by omega,fun _=>rfl⟩
   ·exact ⟨fun _=>by omega,fun _=>rfl⟩
 ·rw [if_neg hn,if_pos (by omega)]
  unfold small1
  split
  ·obtain ⟨f1,f2,f3⟩:=fit_same (s:=s.collection) (1 + r.toNat + w.toNat)
   have vf:=vc.fit (k:=1 + r.toNat + w.toNat)
   have q2:=vf.h2
   have room:=fit_room vc (n:=1 + r.toNat + w.toNat)
   unfold small2
   split
   ·exact ⟨fun h=>by exact absurd h (by show ¬ ((31:Int)=0); omega),fun h=>by omega⟩
   ·exact ⟨fun _=>by omega,fun _=>rfl⟩
  ·unfold small2
   rw [if_neg (by omega)]
   exact ⟨fun _=>by omega,fun _=>rfl⟩
end
end RS
end Go.Ev
set_option linter.all false
set_option maxRecDepth 100000
namespace Go.Ev
open Go.Proofs
namespace RS
theorem sum_pick {f:Nat→Nat}:∀ (m l:List Nat),l.Nodup→(∀ x ∈ l,x ∈ m)→(∀ x ∈ l,m.count x=1)→(m.map fun x=>if x ∈ l then f x else 0).sum=(l.map f).sum:=by
 intro m
 induction m with
 | nil =>
  intro l _ h _
  cases l with
  | nil=>rfl
  | cons y l=>exact absurd (h y (List.mem_cons_self ..)) (by simp)
 | cons y m ih =>
  intro l nd h hc
  by_cases hy:y ∈ l
  ·have nd':=nd.erase y
   have h':∀ x ∈ l.erase y,x ∈ m:=fun x hx=>by
    have hne:x ≠ y:=fun e=>(List.Nodup.not_mem_erase nd) (e ▸ hx)
    exact (List.mem_cons.1 (h x (List.mem_of_mem_erase hx))).resolve_left hne
   have hc':∀ x ∈ l.erase y,m.count x=1:=fun x hx=>by
    have hne:x ≠ y:=fun e=>(List.Nodup.not_mem_erase nd) (e ▸ hx)
    have:=hc x (List.mem_of_mem_erase hx)
    rwa [List.count_cons_of_ne (Ne.symm hne)] at this
   have e:=ih (l.erase y) nd' h' hc'
   have hym:y ∉ m:=fun hm=>by
    have h1:=hc y hy
    rw [List.count_cons_self] at h1
    have:=List.count_pos_iff.2 hm
    omega
   have e2:(m.map fun x=>if x ∈ l then f x else 0)=(m.map fun x=>if x ∈ l.erase y then f x else 0):=List.map_congr_left fun x hx=>by
    have hne:x ≠ y:=fun e=>hym (e ▸ hx)
    have q:=List.mem_erase_of_ne (l:=l) hne
    by_cases hl:x ∈ l
    ·rw [if_pos hl,if_pos (q.2 hl)]
    ·rw [if_neg hl,if_neg fun h=>hl (q.1 h)]
   rw [List.map_cons,List.sum_cons,if_pos hy,e2,e]
   have p:=(List.perm_cons_erase hy).map f
   rw [p.sum_nat]
   simp
  ·rw [List.map_cons,List.sum_cons,if_neg hy,Nat.zero_add]
   refine ih l nd (fun x hx=>(List.mem_cons.1 (h x hx)).resolve_left fun e=>hy (e ▸ hx)) fun x hx=>?_
   have hne:x ≠ y:=fun e=>hy (e ▸ hx)
   have:=hc x hx
   rwa [List.count_cons_of_ne (Ne.symm hne)] at this
theorem count_one:∀ (l:List Nat) (x:Nat),(∀ i j:Nat,l[i]?=some x→l[j]?=some x→i=j)→x ∈ l→l.count x=1:=by
 intro l
 induction l with
 | nil=>intro x _ h; simp at h
 | cons y l ih =>
  intro x hu hm
  by_cases e:y=x
  ·subst e
   rw [List.count_cons_self]
   have:y ∉ l:=fun h=>by
    obtain ⟨i,hi⟩:=List.mem_iff_getElem?.1 h
    have:=hu 0 (i + 1) rfl (by simpa using hi)
    omega
   rw [List.count_eq_zero.2 this]
  ·rw [List.count_cons_of_ne e]
   refine ih x (fun i j hi hj=>?_) ((List.mem_cons.1 hm).resolve_left fun h=>e h.symm)
   have:=hu (i + 1) (j + 1) (by simpa using hi) (by simpa using hj)
   omega
theorem collection_lsum {s:RS} (v:s.Inv):s.collection.large=s.lsum s.gcEnd.line:=by
 have k:=GcOk.at v s.objs.length
 show (s.slots.map fun id=>if id ∈ s.gcEnd.line then s.size id + 1 else 0).sum=_
 unfold lsum
 refine sum_pick (f:=fun id=>s.size id + 1) s.slots s.gcEnd.line (List.nodup_append.1 k.nd).2.1 (fun x hx=>(k.ln x hx).2) fun x hx=>?_
 obtain ⟨h0,hm⟩:=k.ln x hx
 exact count_one _ _ (fun i j hi hj=>(v.sl i x hi h0).2.2.2.symm.trans (v.sl j x hj h0).2.2.2) hm
end RS
end Go.Ev
set_option linter.all false
set_option maxRecDepth 100000
namespace Go.Ev
open Go.Proofs
namespace RS
section
variable {s:RS} {nd:List NodeD} {b:List Nat}
theorem reachL_sub (s:RS):∀ (ids:List Nat) (g:Gc) (x:Nat),x ∈ (s.reachL g ids).copied ∨ x ∈ (s.reachL g ids).line→x ∈ g.copied ∨ x ∈ g.line ∨ x ∈ ids
 | [],g,x,h=>h.imp_right .inl
 | r :: ids,g,x,h=>by
  have h:x ∈ (s.reachL (s.reach g r) ids).copied ∨ x ∈ (s.reachL (s.reach g r) ids).line:=h
  rcases reachL_sub s ids _ x h with h | h | h
  ·unfold reach at h
   split at h
   ·exact .inl h
   ·split at h
    ·exact .inl h
    ·rcases List.mem_append.1 h with h | h
     ·exact .inl h
     ·exact .inr (.inr (by rw [List.mem_singleton.1 h]; exact List.mem_cons_self ..))
  ·unfold reach at h
   split at h
   ·exact .inr (.inl h)
   ·split at h
    ·rcases List.mem_append.1 h with h | h
     ·exact .inr (.inl h)
     ·exact .inr (.inr (by rw [List.mem_singleton.1 h]; exact List.mem_cons_self ..))
    ·exact .inr (.inl h)
  ·exact .inr (.inr (List.mem_cons_of_mem _ h))
/-- What the handles hold, each as often as it is held. -/
def heldL (s:RS):List Nat:=s.roots.filterMap fun x=>x
theorem walk_held (hr:∀ id,some id ∈ s.roots→(s.obj id).refs=[]):∀ (n x:Nat),x ∈ (s.gcAt n).copied ∨ x ∈ (s.gcAt n).line→x ∈ s.heldL:=by
 intro n
 induction n with
 | zero =>
  intro x h
  rcases reachL_sub s _ _ x h with h | h | h
  ·simp at h
  ·simp at h
  ·exact h
 | succ n ih =>
  intro x h
  have hh:∀ y ∈ s.heldL,(s.obj y).refs=[]:=fun y hy=>by
   obtain ⟨z,hz,e⟩:=List.mem_filterMap.1 hy
   have e:z=some y:=e
   subst e
   exact hr y hz
  have h:x ∈ (s.gcStep (s.gcAt n)).copied ∨ x ∈ (s.gcStep (s.gcAt n)).line:=h
  unfold gcStep at h
  cases e:(s.gcAt n).copied[(s.gcAt n).a]? with
  | some y =>
   rw [e] at h
   have:=hh y (ih y (.inl (List.mem_of_getElem? e)))
   simp only [this] at h
   exact ih x h
  | none =>
   rw [e] at h
   cases e2:(s.gcAt n).line[(s.gcAt n).b]? with
   | some y =>
    rw [e2] at h
    have:=hh y (ih y (.inr (List.mem_of_getElem? e2)))
    simp only [this] at h
    exact ih x h
   | none =>
    rw [e2] at h
    exact ih x h
end
end RS
end Go.Ev
