/- blob / The heap's calls over its graph / Chains on the heap's graph, as plain data: what lies where; a node is linked in, one is taken out / What is live on the heap's graph, by numbers; a blob is laid and held. No condition but that these are ones. -/
import Derived.Test.YtngcoodbepbhbaaE15
set_option linter.all false
set_option maxRecDepth 1000000
namespace Go.Ev
open Go.Proofs
/-- Bytes are copied into a block. -/
theorem cpy_row {h:Hp} {b:Nat} {cs:List Value} {o n m:Nat} {src base:Option Addr} {l:List Nat} {K:Int→Hp→Prop} (row:Row h b cs) (rd:ReadsO h src (l.map bv)) (hm:m=l.length) (hn:m ≤ n) (ho:o + l.length ≤ cs.length)
  (hb:l ≠ []→base=some ⟨b,o,none⟩) (hK:∀ h',Row h' b (ovw cs o (l.map bv))→Kept (fun i=>i=b) h h'→K (m:Nat) h'):cpySl 1 base n src m h K:=by
 have hmin:min m n=m:=Nat.min_eq_left hn
 refine ⟨l.map bv,rd,by rw [List.length_map,hmin]; omega,?_⟩
 rw [hmin]
 by_cases hl:l=[]
 ·subst hl
  have e:ovw cs o (([]:List Nat).map bv)=cs:=by unfold ovw; simp
  rw [e] at hK
  have:=hK h row (Kept.refl _ _)
  cases base with
  | none=>exact this
  | some a=>exact ⟨trivial,this⟩
 ·rw [hb hl]
  show stsOk h ((⟨b,o,none⟩:Addr).add 0) _ 0∧K _ (setcs h ((⟨b,o,none⟩:Addr).add 0) _ 0)
  have ea:(⟨b,o,none⟩:Addr).add 0=⟨b,o,none⟩:=rfl
  rw [ea]
  refine ⟨stsOk_row _ _ _ o 0 row (by rw [List.length_map]; omega) (fun v hv=>by obtain ⟨x,_,rfl⟩:=List.mem_map.1 hv; rfl),hK _ ?_ (kept_setcs _ _ _ _ rfl)⟩
  have:=row_setcs (l.map bv) h _ o 0 row (by rw [List.length_map]; omega)
  rwa [Nat.add_zero] at this
namespace RS
def newF (s:RS) (parts:List (List Nat)):RS × Nat × Int:=if parts.flatten.length > 4096 then (s,0,41) else s.layF parts.flatten
end RS
/-- Lists of bytes handed over. -/
structure Srcs (h:Hp) (q:HQ) (a:Sl) (sls:List Sl) (parts:List (List Nat)):Prop where
 rd:ReadsO h a.a (sls.map slV)
 n:a.n=sls.length
 len:sls.length=parts.length
 each:∀ (i:Nat) (c:Sl) (p:List Nat),sls[i]?=some c→parts[i]?=some p→ReadsO h c.a (p.map bv)∧c.n=p.length∧Bytes8 p∧p.length < 140737488355328∧∀ a:Addr,c.a=some a→p ≠ []→a.block < h.size
section
variable {h h' h2:Hp} {q q' q2:HQ} {s s':RS} {nd:List NodeD} {b t:List Nat} {id:Nat} {R:Value→Hp→Prop}
theorem flat_take {parts:List (List Nat)} {i:Nat} {p:List Nat} (h:parts[i]?=some p):(parts.take (i + 1)).flatten=(parts.take i).flatten ++ p:=by rw [RS.take_snoc h]; simp
theorem flat_le (parts:List (List Nat)) (i:Nat):(parts.take i).flatten.length ≤ parts.flatten.length:=by
 conv=>rhs; rw [← List.take_append_drop i parts,List.flatten_append,List.length_append]
 omega
theorem new_ok (x:HSt h q s) (sh:s.Shd nd) {a:Sl} {sls:List Sl} {parts:List (List Nat)} (sr:Srcs h q a sls parts) (hlong:sls.length < 100000000000000) (hR:Does h q (s.newF parts).1 (.tuple #[uv (s.newF parts).2.1,.int .i64 (s.newF parts).2.2]) R) :
  CallTo Try.prog 53 #[.pointer (some (ad q.hb)),.slice a.a a.n a.c] h R:=by
 have part:∀ i,i < sls.length→∃ c p,sls[i]?=some c∧parts[i]?=some p:=fun i hi=>⟨_,_,List.getElem?_eq_getElem hi,List.getElem?_eq_getElem (by have:=sr.len; omega)⟩
 have han:=sr.n
 have hsl:=sr.len
 refine f53F_ok ?_
 unfold f53F
 refine f53L1_rule (fun m s0 s1 s6 s13 s14 s15 h'=>∃ i:Nat,i ≤ sls.length∧m=sls.length - i∧s0=some (ad q.hb)∧a=s1∧s6=(((parts.take i).flatten.length:Nat):Int)∧(parts.take i).flatten.length ≤ 4096∧a=s13∧s14=((sls.length:Nat):Int)∧s15=(i:Int)∧h=h') sls.length
  ⟨0,Nat.zero_le _,rfl,rfl,rfl,rfl,by simp,rfl,by rw [han],rfl,rfl⟩ ?_
 rintro m s0 s1 s6 s13 s14 s15 g h1 ⟨i,hi,rfl,rfl,rfl,rfl,hle,rfl,rfl,rfl,rfl⟩
 unfold f53L1
 refine Cond_dec (fun hlt=>?_) fun hge=>?_
 ·have hil:i < sls.length:=by omega
  obtain ⟨c,p,hc,hp⟩:=part i hil
  obtain ⟨rdc,nc,b8,lc,oc⟩:=sr.each i c p hc hp
  obtain ⟨pa,hpa,hcell⟩:=readsO_get sr.rd (i:=i) (v:=slV c) (by rw [List.getElem?_map,hc]; rfl)
  refine ⟨⟨by omega,by omega⟩,PtrOk_of hpa ⟨c,by rw [Int.toNat_natCast,Nat.mul_one]; exact hcell,?_⟩⟩
  have ef:(((parts.take i).flatten.length:Nat):Int) + ((c.n:Nat):Int)=(((parts.take (i + 1)).flatten.length:Nat):Int):=by
   rw [flat_take hp,List.length_append,nc]; omega
  have hfl:=flat_le parts (i + 1)
  have e1:(parts.take (i + 1)).flatten.length=(parts.take i).flatten.length + p.length:=by rw [flat_take hp,List.length_append]
  rw [wrap_i64' (x:=(((parts.take i).flatten.length:Nat):Int) + _) (by omega) (by omega),ef]
  refine Cond_dec (fun hbig=>?_) fun hok=>⟨sls.length - (i + 1),by omega,i + 1,hil,rfl,rfl,rfl,rfl,by omega,rfl,rfl,by rw [wrap_i64' (by omega) (by omega)]; rfl,rfl⟩
  have:s.newF parts=(s,0,41):=by unfold RS.newF; rw [if_pos (by omega)]
  rw [this] at hR
  exact hR _ q x (Ex.refl _ _)
 ·have hie:i=parts.length:=by omega
  subst hie
  rw [List.take_length] at hle ⊢
  have hF:=hle
  generalize hn:parts.flatten.length=n at hle ⊢
  refine ⟨⟨by omega,by omega⟩,by omega,by omega,Let_mk fun h2 e2=>?_⟩
  rw [Int.toNat_natCast] at e2 ⊢
  have k2:Kept N h h2:=e2 ▸ kept_push _ _ _
  have row2:Row h2 h.size (List.replicate n (bv 0)):=by
   have e3:=e2
   rw [zrow_one] at e3
   exact e3 ▸ row_new h (List.replicate n (bv 0)).toArray 5
  have enb:nb h=ad h.size:=rfl
  rw [enb]
  refine f53L2_rule (fun m s0 s9 s10 s28 s29 s30 h'=>∃ i:Nat,i ≤ sls.length∧m=sls.length - i∧s0=some (ad q.hb)∧s9=⟨some (ad h.size),n,n⟩∧s10=(((parts.take i).flatten.length:Nat):Int)∧a=s28∧s29=((sls.length:Nat):Int)∧s30=(i:Int) ∧
    Kept N h h'∧Row h' h.size ((parts.take i).flatten.map bv ++ List.replicate (n - (parts.take i).flatten.length) (bv 0))) sls.length
   ⟨0,Nat.zero_le _,rfl,rfl,rfl,rfl,rfl,by rw [han],rfl,k2,by simpa using row2⟩ ?_
  rintro m s0 s9 s10 s28 s29 s30 g2 h3 ⟨i,hi,rfl,rfl,rfl,rfl,rfl,rfl,rfl,k3,row3⟩
  unfold f53L2
  have hfi:=flat_le parts i
  refine Cond_dec (fun hlt=>?_) fun hge=>?_
  ·have hil:i < sls.length:=by omega
   obtain ⟨c,p,hc,hp⟩:=part i hil
   obtain ⟨rdc,nc,b8,lc,oc⟩:=sr.each i c p hc hp
   obtain ⟨pa,hpa,hcell⟩:=readsO_get (reads_keptN k3 sr.rd) (i:=i) (v:=slV c) (by rw [List.getElem?_map,hc]; rfl)
   have hfl:=flat_le parts (i + 1)
   have e1:(parts.take (i + 1)).flatten.length=(parts.take i).flatten.length + p.length:=by rw [flat_take hp,List.length_append]
   refine ⟨⟨by omega,by omega⟩,PtrOk_of hpa ⟨c,by rw [Int.toNat_natCast,Nat.mul_one]; exact hcell,⟨by omega,by show (((parts.take i).flatten.length:Nat):Int) ≤ ((n:Nat):Int); omega⟩,?_⟩⟩
   rw [Int.toNat_natCast]
   refine cpy_row (o:=(parts.take i).flatten.length) (l:=p) row3 (reads_keptN k3 rdc) nc (by show c.n ≤ n - _; omega) ?_ (fun hne=>?_) fun h4 row4 k4=>?_
   ·rw [List.length_append,List.length_map,List.length_replicate]; omega
   ·have hpos:0 < p.length:=List.length_pos_iff.2 hne
    show (if n=(parts.take i).flatten.length then _ else _)=_
    rw [if_neg (by omega)]
    show some ((ad h.size).add _)=_
    rw [add_ad,Nat.mul_one]
   ·refine ⟨sls.length - (i + 1),by omega,i + 1,hil,rfl,rfl,rfl,?_,rfl,rfl,by rw [wrap_i64' (by omega) (by omega)]; rfl,?_,?_⟩
    ·rw [wrap_i64' (by omega) (by omega)]; omega
    ·exact ⟨Nat.le_trans k3.1 k4.1,fun j hj _=>(k4.2 j (Nat.lt_of_lt_of_le hj k3.1) (by omega)).trans (k3.2 j hj id)⟩
    ·have e5:ovw ((parts.take i).flatten.map bv ++ List.replicate (n - (parts.take i).flatten.length) (bv 0)) (parts.take i).flatten.length (p.map bv)=(parts.take (i + 1)).flatten.map bv ++ List.replicate (n - (parts.take (i + 1)).flatten.length) (bv 0):=by
      unfold ovw
      have q1:((parts.take i).flatten.map bv ++ List.replicate (n - (parts.take i).flatten.length) (bv 0)).take (parts.take i).flatten.length=(parts.take i).flatten.map bv:=by
       rw [List.take_append_of_le_length (by rw [List.length_map]; exact Nat.le_refl _),List.take_of_length_le (by rw [List.length_map]; exact Nat.le_refl _)]
      have q2:((parts.take i).flatten.map bv ++ List.replicate (n - (parts.take i).flatten.length) (bv 0)).drop ((parts.take i).flatten.length + (p.map bv).length)=List.replicate (n - (parts.take (i + 1)).flatten.length) (bv 0):=by
       rw [List.length_map,List.drop_append,List.drop_eq_nil_of_le (by rw [List.length_map]; omega),List.nil_append,List.length_map,List.drop_replicate]
       congr 1
       omega
      rw [q1,q2,flat_take hp,List.map_append]
     rw [e5] at row4
     exact row4
  ·have hie:i=parts.length:=by omega
   subst hie
   rw [List.take_length,hn,Nat.sub_self,List.replicate_zero,List.append_nil] at row3
   have x3:=x.keepN k3
   have b8:Bytes8 parts.flatten:=fun c hc=>by
    obtain ⟨p,hp,hcp⟩:=List.mem_flatten.1 hc
    obtain ⟨i,hi⟩:=List.mem_iff_getElem?.1 hp
    have hil:=(List.getElem?_eq_some_iff.1 hi).1
    obtain ⟨c',p',hc',hp'⟩:=part i (by omega)
    rw [hi] at hp'
    obtain rfl:=Option.some.inj hp'
    exact (sr.each i c' p hc' hi).2.2.1 c hcp
   have sr3:Src h3 q ⟨some (ad h.size),n,n⟩ parts.flatten:=⟨row_reads row3,hn.symm,b8,fun p hp _=>by obtain rfl:=Option.some.inj hp; exact ⟨x.fr (Nat.le_refl _),row_lt row3⟩⟩
   have e6:s.newF parts=s.layF parts.flatten:=by unfold RS.newF; rw [if_neg (by omega)]
   rw [e6] at hR
   exact lay_ok x3 sh ⟨b8,by omega⟩ sr3 fun h5 q5 x5 ex5=>⟨_,_,rfl,hR h5 q5 x5 ((Ex.of_kept k3 fun b hb=>x.fr hb).trans ex5)⟩
end
end Go.Ev
set_option linter.all false
set_option maxRecDepth 1000000
namespace Go.Ev
open Go.Proofs
/-- A heap with its graph. -/
structure Gs (h:Hp) (q:HQ) (s:RS) (nd:List NodeD):Prop where
 st:HSt h q s
 sh:s.Shd nd
section
variable {h h':Hp} {q q':HQ} {s s':RS} {nd:List NodeD} {n:NodeD} {id:Nat} {R:Value→Hp→Prop}
theorem Gs.v (x:Gs h q s nd):s.Inv:=x.st.v
theorem Gs.keepN (x:Gs h q s nd) (k:Kept N h h'):Gs h' q s nd:=⟨x.st.keepN k,x.sh⟩
theorem Gs.here (x:Gs h q s nd) (r:Rch nd s.roots id):s.here id:=r.here x.v x.sh
/-- Written where the heap is not. -/
theorem Gs.keepO (x:Gs h q s nd) {S:Nat→Prop} (k:Kept S h h') (hS:∀ b,S b→q.role b=.out):Gs h' q s nd:=⟨⟨x.st.rp.keep k hS,x.st.v⟩,x.sh⟩
theorem q_set (x:Gs h q s nd) (hn:nd[id]?=some n) (hh:s.here id) {k t:Nat} (ht:t=0 ∨ s.here t) (hk:k < n.refs.length) {i:Int} (hi:i=(k:Int))
  (hR:∀ h' q' s',Gs h' q' s' (nd.set id ⟨n.kind,n.refs.set k t,n.raws⟩)→s'.Alk s→s'.roots=s.roots→Ex h q h' q'→R (.int .i64 0) h') :
  CallTo Try.prog 71 #[.pointer (some (ad q.hb)),uv (s.ref id),.int .i64 i,uv (s.ref t)] h R:=by
 subst hi
 obtain ⟨s',e,sh',al,er⟩:=RS.g_setref x.v x.sh hn hh ht hk
 refine c_set x.st (RS.ref_lt x.v (.inr hh)) (RS.ref_lt x.v ht) ?_
 rw [e]
 exact fun h' q' x' ex=>hR h' q' s' ⟨x',sh'⟩ al er ex
theorem q_setw (x:Gs h q s nd) (hn:nd[id]?=some n) (hh:s.here id) {k w:Nat} (hw:w < 18446744073709551616) (hk:k < n.raws.length) {i:Int} (hi:i=((n.refs.length + k:Nat):Int))
  (hR:∀ h' q' s',Gs h' q' s' (nd.set id ⟨n.kind,n.refs,n.raws.set k w⟩)→s'.Alk s→s'.roots=s.roots→Ex h q h' q'→R (.int .i64 0) h') :
  CallTo Try.prog 71 #[.pointer (some (ad q.hb)),uv (s.ref id),.int .i64 i,uv w] h R:=by
 subst hi
 obtain ⟨s',e,sh',al,er⟩:=RS.g_setraw (x:=w) x.v x.sh hn hh hk
 refine c_set x.st (RS.ref_lt x.v (.inr hh)) hw ?_
 rw [e]
 exact fun h' q' x' ex=>hR h' q' s' ⟨x',sh'⟩ al er ex
theorem q_get (x:Gs h q s nd) (hn:nd[id]?=some n) (hh:s.here id) {k r:Nat} (hk:n.refs[k]?=some r) {i:Int} (hi:i=(k:Int)) (hR:R (.tuple #[uv (s.ref r),.int .i64 0]) h) :
  CallTo Try.prog 69 #[.pointer (some (ad q.hb)),uv (s.ref id),.int .i64 i] h R:=by
 subst hi
 refine hget_ok x.v x.st.rp (RS.ref_lt x.v (.inr hh)) ?_
 rw [RS.g_getref x.v x.sh hn hh hk]
 exact hR
theorem q_getw (x:Gs h q s nd) (hn:nd[id]?=some n) (hh:s.here id) {k w:Nat} (hk:n.raws[k]?=some w) {i:Int} (hi:i=((n.refs.length + k:Nat):Int)) (hR:R (.tuple #[uv w,.int .i64 0]) h) :
  CallTo Try.prog 69 #[.pointer (some (ad q.hb)),uv (s.ref id),.int .i64 i] h R:=by
 subst hi
 refine hget_ok x.v x.st.rp (RS.ref_lt x.v (.inr hh)) ?_
 rw [RS.g_getraw x.v x.sh hn hh hk]
 exact hR
theorem q_alloc (x:Gs h q s nd) {k r w:Nat} (hs:Shape (k:Int) (r:Int) (w:Int)) {i1 i2 i3:Int} (e1:i1=(k:Int)) (e2:i2=(r:Int)) (e3:i3=(w:Int))
  (hfull:∀ h' q' s',Gs h' q' s' nd→s'.roots=s.roots→s'.limit=s.limit→Ex h q h' q'→¬ s.Room r w→R (.tuple #[uv 0,.int .i64 31]) h')
  (hok:∀ h' q' s',Gs h' q' s' (nd ++ [⟨k,List.replicate r 0,List.replicate w 0⟩])→s'.roots=s.roots→s'.limit=s.limit→s'.here nd.length→Ex h q h' q'→s.Room r w→R (.tuple #[uv (s'.ref nd.length),.int .i64 0]) h') :
  CallTo Try.prog 40 #[.pointer (some (ad q.hb)),.int .i64 i1,.int .i64 i2,.int .i64 i3] h R:=by
 subst e1 e2 e3
 refine c_alloc x.st ?_
 rcases RS.g_alloc x.v x.sh hs with ⟨hr,t,e,a,b,c⟩ | ⟨hr,t,e,a,b,c,d⟩
 ·rw [e]
  exact fun h' q' x' ex=>hfull h' q' t ⟨x',a⟩ b c ex hr
 ·rw [e]
  exact fun h' q' x' ex=>hok h' q' t ⟨x',a⟩ b c d ex hr
theorem q_root (x:Gs h q s nd) (hh:id=0 ∨ s.here id) (hl:s.roots.length < 100000000)
  (hR:∀ h' q' s',Gs h' q' s' nd→s'.Alk s→s'.roots=rootL s.roots id→Ex h q h' q'→R (.tuple #[.int .i64 ((RS.freeAt s.roots + 1:Nat):Int),.int .i64 0]) h') :
  CallTo Try.prog 66 #[.pointer (some (ad q.hb)),uv (s.ref id)] h R:=by
 refine c_root x.st hl (RS.ref_lt x.v hh) ?_
 rw [RS.g_root x.v x.sh hh]
 exact fun h' q' x' ex=>hR h' q' _ ⟨x',x.sh.roots _⟩ (RS.withRoots_alk _ _) rfl ex
theorem q_drop (x:Gs h q s nd) {m:Nat} (hm:1 ≤ m) (hd:s.roots.getD (m - 1) none=some id)
  (hR:∀ h' q' s',Gs h' q' s' nd→s'.Alk s→s'.roots=s.roots.set (m - 1) none→Ex h q h' q'→R (.int .i64 0) h') :
  CallTo Try.prog 63 #[.pointer (some (ad q.hb)),.int .i64 (m:Int)] h R:=by
 refine c_drop x.st ?_
 rw [RS.g_drop s hm hd]
 exact fun h' q' x' ex=>hR h' q' _ ⟨x',x.sh.roots _⟩ (RS.withRoots_alk _ _) rfl ex
theorem q_at (x:Gs h q s nd) {m:Nat} (hm:1 ≤ m) (hd:s.roots.getD (m - 1) none=some id) (hR:R (.tuple #[uv (s.ref id),.int .i64 0]) h) :
  CallTo Try.prog 67 #[.pointer (some (ad q.hb)),.int .i64 (m:Int)] h R:=by
 refine c_at x.st ?_
 rw [RS.g_at s hm hd]
 exact hR
theorem q_collect (x:Gs h q s nd) (hR:∀ h' q' s',Gs h' q' s' nd→s'.roots=s.roots→s'.limit=s.limit→Ex h q h' q'→s'=s.collect→R (.tuple #[]) h'):CallTo Try.prog 31 #[.pointer (some (ad q.hb))] h R :=
 c_collect x.st fun h' q' x' ex=>hR h' q' _ ⟨x',x.sh.sub (RS.Sub.collect x.v)⟩ RS.collect_len.2 RS.collect_lim ex rfl
end
end Go.Ev
set_option linter.all false
set_option maxRecDepth 100000
namespace Go.Ev
open Go.Proofs
def nx (l:List Nat) (i:Nat):Nat:=l.getD i 0
def pv (l:List Nat) (i:Nat):Nat:=if i=0 then 0 else l.getD (i - 1) 0
def ins {α:Type} (l:List α) (i:Nat) (x:α):List α:=l.take i ++ x :: l.drop i
def del {α:Type} (l:List α) (i:Nat):List α:=l.take i ++ l.drop (i + 1)
theorem set_at {α:Type} {l:List α} {i:Nat} {x:α} (h:l[i]?=some x) (a:α) (j:Nat):(l.set i a)[j]?=if j=i then some a else l[j]?:=by
 have hl:=(List.getElem?_eq_some_iff.1 h).1
 by_cases e:j=i
 ·subst e; rw [if_pos rfl,List.getElem?_set_self hl]
 ·rw [if_neg e,List.getElem?_set_ne (Ne.symm e)]
section
variable {α:Type} {l:List α} {i j:Nat} {x:α}
theorem ins_len (hi:i ≤ l.length):(ins l i x).length=l.length + 1:=by unfold ins; simp; omega
theorem del_len (hi:i < l.length):(del l i).length=l.length - 1:=by unfold del; simp; omega
theorem ins_get (hi:i ≤ l.length) (j:Nat):(ins l i x)[j]?=if j < i then l[j]? else if j=i then some x else l[j - 1]?:=by
 unfold ins
 by_cases h1:j < i
 ·rw [if_pos h1,List.getElem?_append_left (by rw [List.length_take]; omega),List.getElem?_take_of_lt h1]
 ·rw [if_neg h1,List.getElem?_append_right (by rw [List.length_take]; omega),List.length_take,Nat.min_eq_left hi]
  by_cases h2:j=i
  ·rw [if_pos h2,h2,Nat.sub_self]; rfl
  ·rw [if_neg h2,show j - i=(j - i - 1) + 1 by omega,List.getElem?_cons_succ,List.getElem?_drop]
   congr 1; omega
theorem del_get (j:Nat):(del l i)[j]?=if j < i then l[j]? else l[j + 1]?:=by
 unfold del
 by_cases hi:i ≤ l.length
 ·by_cases h1:j < i
  ·rw [if_pos h1,List.getElem?_append_left (by rw [List.length_take]; omega),List.getElem?_take_of_lt h1]
  ·rw [if_neg h1,List.getElem?_append_right (by rw [List.length_take]; omega),List.length_take,Nat.min_eq_left hi,List.getElem?_drop]
   congr 1; omega
 ·rw [List.take_of_length_le (by omega),List.drop_eq_nil_of_le (by omega),List.append_nil]
  by_cases h1:j < i
  ·rw [if_pos h1]
  ·rw [if_neg h1,List.getElem?_eq_none (by omega),List.getElem?_eq_none (by omega)]
theorem ins_perm (l:List α) (i:Nat) (x:α):(ins l i x).Perm (x :: l):=by
 unfold ins
 have:=List.perm_middle (a:=x) (l₁:=l.take i) (l₂:=l.drop i)
 rwa [List.take_append_drop] at this
theorem del_perm (h:l[i]?=some x):(x :: del l i).Perm l:=by
 have hi:=(List.getElem?_eq_some_iff.1 h)
 obtain ⟨hl,e⟩:=hi
 have h2:l.drop i=x :: l.drop (i + 1):=by rw [List.drop_eq_getElem_cons hl,e]
 have:=(List.perm_middle (a:=x) (l₁:=l.take i) (l₂:=l.drop (i + 1))).symm
 rw [← h2,List.take_append_drop] at this
 exact this
end
section
variable {l:List Nat} {i j x:Nat}
theorem nx_ins (hi:i ≤ l.length) (j:Nat):nx (ins l i x) j=if j < i then nx l j else if j=i then x else nx l (j - 1):=by
 unfold nx
 rw [List.getD_eq_getElem?_getD,ins_get hi]
 split
 ·rfl
 ·split <;> rfl
theorem nx_del (j:Nat):nx (del l i) j=if j < i then nx l j else nx l (j + 1):=by
 unfold nx
 rw [List.getD_eq_getElem?_getD,del_get]
 split <;> rfl
theorem nx_mem (h:j < l.length):nx l j ∈ l:=by unfold nx; rw [List.getD_eq_getElem?_getD,List.getElem?_eq_getElem h]; exact List.getElem_mem _
theorem nx_some (h:j < l.length):l[j]?=some (nx l j):=by unfold nx; rw [List.getD_eq_getElem?_getD,List.getElem?_eq_getElem h]; rfl
theorem nx_out (h:l.length ≤ j):nx l j=0:=by unfold nx; rw [List.getD_eq_getElem?_getD,List.getElem?_eq_none h]; rfl
theorem pv_eq (j:Nat) (h:j ≠ 0):pv l j=nx l (j - 1):=by unfold pv nx; rw [if_neg h]
theorem pv_zero:pv l 0=0:=rfl
theorem nx_inj (hn:l.Nodup) {a b:Nat} (ha:a < l.length) (hb:b < l.length) (h:nx l a=nx l b):a=b:=by
 have h1:=nx_some ha
 have h2:=nx_some hb
 rw [h,← h2] at h1
 exact (List.getElem?_inj ha hn).1 h1
end
/-- A list on the heap: its head cell, its nodes, its elements' blobs, its elements. -/
structure Ch (nd:List NodeD) (hd:Nat) (ns bs:List Nat) (rows:List (List Nat)):Prop where
 ln:ns.length=rows.length
 lb:bs.length=rows.length
 hn:nd[hd]?=some ⟨2,[nx ns 0,pv ns rows.length],[rows.length]⟩
 nn:∀ i,i < rows.length→nd[nx ns i]?=some ⟨3,[pv ns i,nx ns (i + 1),nx bs i],[]⟩
 bn:∀ i r,rows[i]?=some r→nd[nx bs i]?=some (blobN r)∧Okb r
 dis:(hd :: (ns ++ bs)).Nodup
 nz:∀ x,x ∈ hd :: (ns ++ bs)→x ≠ 0
section
variable {nd nd':List NodeD} {hd:Nat} {ns bs:List Nat} {rows:List (List Nat)} {roots:List (Option Nat)} {i n b:Nat} {r:List Nat}
theorem Ch.ids (c:Ch nd hd ns bs rows):hd ∉ ns∧hd ∉ bs∧ns.Nodup∧bs.Nodup∧(∀ x ∈ ns,x ∉ bs):=by
 have d:=c.dis
 rw [List.nodup_cons,List.nodup_append] at d
 obtain ⟨d1,d2,d3,d4⟩:=d
 exact ⟨fun h=>d1 (List.mem_append_left _ h),fun h=>d1 (List.mem_append_right _ h),d2,d3,fun x hx hb=>d4 x hx x hb rfl⟩
theorem Ch.nz_n (c:Ch nd hd ns bs rows) (h:i < rows.length):nx ns i ≠ 0:=c.nz _ (List.mem_cons_of_mem _ (List.mem_append_left _ (nx_mem (by rw [c.ln]; exact h))))
theorem Ch.nz_b (c:Ch nd hd ns bs rows) (h:i < rows.length):nx bs i ≠ 0:=c.nz _ (List.mem_cons_of_mem _ (List.mem_append_right _ (nx_mem (by rw [c.lb]; exact h))))
theorem Ch.nz_h (c:Ch nd hd ns bs rows):hd ≠ 0:=c.nz _ (List.mem_cons_self ..)
theorem Ch.n_h (c:Ch nd hd ns bs rows) (h:i < rows.length):nx ns i ≠ hd:=fun e=>c.ids.1 (e ▸ nx_mem (by rw [c.ln]; exact h))
theorem Ch.b_h (c:Ch nd hd ns bs rows) (h:i < rows.length):nx bs i ≠ hd:=fun e=>c.ids.2.1 (e ▸ nx_mem (by rw [c.lb]; exact h))
theorem Ch.n_b (c:Ch nd hd ns bs rows) {j:Nat} (h:i < rows.length) (h2:j < rows.length):nx ns i ≠ nx bs j:=fun e=>c.ids.2.2.2.2 (nx ns i) (nx_mem (by rw [c.ln]; exact h)) (e ▸ nx_mem (by rw [c.lb]; exact h2))
theorem Ch.rch_n (c:Ch nd hd ns bs rows) (h0:Rch nd roots hd):∀ i,i < rows.length→Rch nd roots (nx ns i)
 | 0,h=>.next h0 c.hn (List.mem_cons_self ..) (c.nz_n h)
 | i + 1,h=>.next (c.rch_n h0 i (by omega)) (c.nn i (by omega)) (by simp) (c.nz_n h)
theorem Ch.rch_b (c:Ch nd hd ns bs rows) (h0:Rch nd roots hd) (i:Nat) (h:i < rows.length):Rch nd roots (nx bs i) :=
 .next (c.rch_n h0 i h) (c.nn i h) (by simp) (c.nz_b h)
theorem Ch.rch (c:Ch nd hd ns bs rows) (h0:Rch nd roots hd) {x:Nat} (hx:x ∈ hd :: (ns ++ bs)):Rch nd roots x:=by
 rcases List.mem_cons.1 hx with e | hx
 ·rw [e]; exact h0
 ·rcases List.mem_append.1 hx with hx | hx
  ·obtain ⟨i,hi⟩:=List.mem_iff_getElem?.1 hx
   have hl:=(List.getElem?_eq_some_iff.1 hi).1
   have e:nx ns i=x:=by unfold nx; rw [List.getD_eq_getElem?_getD,hi]; rfl
   rw [← e]; exact c.rch_n h0 i (by rw [← c.ln]; exact hl)
  ·obtain ⟨i,hi⟩:=List.mem_iff_getElem?.1 hx
   have hl:=(List.getElem?_eq_some_iff.1 hi).1
   have e:nx bs i=x:=by unfold nx; rw [List.getD_eq_getElem?_getD,hi]; rfl
   rw [← e]; exact c.rch_b h0 i (by rw [← c.lb]; exact hl)
/-- What the head cell leads to is in the list. -/
theorem Ch.closed (c:Ch nd hd ns bs rows) {x y:Nat} {m:NodeD} (hx:x ∈ hd :: (ns ++ bs)) (hm:nd[x]?=some m) (hy:y ∈ m.refs) (h0:y ≠ 0):y ∈ hd :: (ns ++ bs):=by
 have inN:∀ j,nx ns j ≠ 0→nx ns j ∈ hd :: (ns ++ bs):=fun j h=>by
  by_cases hj:j < ns.length
  ·exact List.mem_cons_of_mem _ (List.mem_append_left _ (nx_mem hj))
  ·exact absurd (nx_out (by omega)) h
 have inP:∀ j,pv ns j ≠ 0→pv ns j ∈ hd :: (ns ++ bs):=fun j h=>by
  by_cases hj:j=0
  ·rw [hj] at h; exact absurd rfl h
  ·rw [pv_eq j hj] at h ⊢; exact inN _ h
 have inB:∀ j,nx bs j ≠ 0→nx bs j ∈ hd :: (ns ++ bs):=fun j h=>by
  by_cases hj:j < bs.length
  ·exact List.mem_cons_of_mem _ (List.mem_append_right _ (nx_mem hj))
  ·exact absurd (nx_out (by omega)) h
 rcases List.mem_cons.1 hx with e | hx
 ·rw [e,c.hn] at hm
  obtain rfl:=Option.some.inj hm
  have hy:y ∈ [nx ns 0,pv ns rows.length]:=hy
  simp only [List.mem_cons,List.not_mem_nil,or_false] at hy
  rcases hy with e | e
  ·rw [e] at h0 ⊢; exact inN _ h0
  ·rw [e] at h0 ⊢; exact inP _ h0
 ·rcases List.mem_append.1 hx with hx | hx
  ·obtain ⟨i,hi⟩:=List.mem_iff_getElem?.1 hx
   have hl:=(List.getElem?_eq_some_iff.1 hi).1
   have e:nx ns i=x:=by unfold nx; rw [List.getD_eq_getElem?_getD,hi]; rfl
   rw [← e,c.nn i (by rw [← c.ln]; exact hl)] at hm
   obtain rfl:=Option.some.inj hm
   have hy:y ∈ [pv ns i,nx ns (i + 1),nx bs i]:=hy
   simp only [List.mem_cons,List.not_mem_nil,or_false] at hy
   rcases hy with e | e | e
   ·rw [e] at h0 ⊢; exact inP _ h0
   ·rw [e] at h0 ⊢; exact inN _ h0
   ·rw [e] at h0 ⊢; exact inB _ h0
  ·obtain ⟨i,hi⟩:=List.mem_iff_getElem?.1 hx
   have hl:=(List.getElem?_eq_some_iff.1 hi).1
   have e:nx bs i=x:=by unfold nx; rw [List.getD_eq_getElem?_getD,hi]; rfl
   have hr:i < rows.length:=by rw [← c.lb]; exact hl
   rw [← e,(c.bn i _ (List.getElem?_eq_getElem hr)).1] at hm
   obtain rfl:=Option.some.inj hm
   have hy:y ∈ ([]:List Nat):=hy
   cases hy
/-- The list lies elsewhere than what was changed. -/
theorem Ch.keep (c:Ch nd hd ns bs rows) (h:∀ x,x ∈ hd :: (ns ++ bs)→nd'[x]?=nd[x]?):Ch nd' hd ns bs rows:=by
 refine ⟨c.ln,c.lb,?_,fun i hi=>?_,fun i r hr=>?_,c.dis,c.nz⟩
 ·rw [h hd (List.mem_cons_self ..)]; exact c.hn
 ·rw [h _ (List.mem_cons_of_mem _ (List.mem_append_left _ (nx_mem (by rw [c.ln]; exact hi))))]; exact c.nn i hi
 ·have hi:=(List.getElem?_eq_some_iff.1 hr).1
  rw [h _ (List.mem_cons_of_mem _ (List.mem_append_right _ (nx_mem (by rw [c.lb]; exact hi))))]; exact c.bn i r hr
theorem Ch.link (c:Ch nd hd ns bs rows) (hi:i ≤ rows.length) (ok:Okb r) (nn:n ∉ hd :: (ns ++ bs)) (nb:b ∉ hd :: (ns ++ bs)) (hnb:n ≠ b) (n0:n ≠ 0) (b0:b ≠ 0) (hb:nd[b]?=some (blobN r))
  (hv:∀ x,nd'[x]?=if x=n then some ⟨3,[pv ns i,nx ns i,b],[]⟩ else if x=hd then some ⟨2,[if i=0 then n else nx ns 0,if i=rows.length then n else pv ns rows.length],[rows.length + 1]⟩
   else if x=nx ns i∧i < rows.length then some ⟨3,[n,nx ns (i + 1),nx bs i],[]⟩ else if x=pv ns i∧0 < i then some ⟨3,[pv ns (i - 1),n,nx bs (i - 1)],[]⟩ else nd[x]?) :
  Ch nd' hd (ins ns i n) (ins bs i b) (ins rows i r):=by
 have hln:=c.ln
 have hlb:=c.lb
 have hin:i ≤ ns.length:=by omega
 have hib:i ≤ bs.length:=by omega
 have lr:=ins_len (x:=r) hi
 obtain ⟨i1,i2,i3,i4,i5⟩:=c.ids
 have nh:hd ≠ n:=fun e=>nn (e ▸ List.mem_cons_self ..)
 have bh:b ≠ hd:=fun e=>nb (e ▸ List.mem_cons_self ..)
 have n_ns:∀ j,j < rows.length→nx ns j ≠ n:=fun j hj e=>nn (e ▸ List.mem_cons_of_mem _ (List.mem_append_left _ (nx_mem (by omega))))
 have n_bs:∀ j,j < rows.length→nx bs j ≠ n:=fun j hj e=>nn (e ▸ List.mem_cons_of_mem _ (List.mem_append_right _ (nx_mem (by omega))))
 have b_ns:∀ j,j < rows.length→b ≠ nx ns j:=fun j hj e=>nb (e ▸ List.mem_cons_of_mem _ (List.mem_append_left _ (nx_mem (by omega))))
 have inj:∀ a d,a < rows.length→d < rows.length→nx ns a=nx ns d→a=d:=fun a d ha hd' e=>nx_inj i3 (by omega) (by omega) e
 -- elements' blobs are as they were
 have hbv:∀ x,x ≠ n→x ≠ hd→(∀ j,j < rows.length→x ≠ nx ns j)→nd'[x]?=nd[x]?:=fun x h1 h2 h3=>by
  rw [hv,if_neg h1,if_neg h2,if_neg fun h=>h3 i h.2 h.1,if_neg fun h=>h3 (i - 1) (by omega) (by rw [← pv_eq i (by omega)]; exact h.1)]
 refine ⟨by rw [ins_len hin,lr,hln],by rw [ins_len hib,lr,hlb],?_,?_,?_,?_,?_⟩
 ·rw [hv,if_neg nh,if_pos rfl,lr]
  congr 2
  ·congr 1
   ·rw [nx_ins hin]
    by_cases h:i=0
    ·rw [if_pos h,if_neg (by omega),if_pos h.symm]
    ·rw [if_neg h,if_pos (by omega)]
   ·congr 1
    rw [pv_eq (l:=ins ns i n) (rows.length + 1) (by omega),Nat.add_sub_cancel,nx_ins hin]
    by_cases h:i=rows.length
    ·rw [if_pos h,if_neg (by omega),if_pos h.symm]
    ·rw [if_neg h,if_neg (by omega),if_neg (fun e=>h e.symm),pv_eq _ (by omega)]
 ·intro j hj
  rw [lr] at hj
  rw [nx_ins hin]
  have pvj:pv (ins ns i n) j=if j ≤ i then pv ns j else if j=i + 1 then n else pv ns (j - 1):=by
   by_cases h0:j=0
   ·subst h0; rw [if_pos (by omega)]; rfl
   ·rw [pv_eq _ h0,nx_ins hin]
    by_cases h1:j ≤ i
    ·rw [if_pos h1,if_pos (by omega),pv_eq _ h0]
    ·rw [if_neg h1,if_neg (by omega)]
     by_cases h2:j=i + 1
     ·rw [if_pos h2,if_pos (by omega)]
     ·rw [if_neg h2,if_neg (by omega),pv_eq _ (by omega)]
  rw [pvj,nx_ins hin,nx_ins hib]
  by_cases h1:j < i
  ·rw [if_pos h1,if_pos h1,if_pos (by omega)]
   rw [hv,if_neg (n_ns j (by omega)),if_neg (c.n_h (by omega)),if_neg fun h=>by have:=inj j i (by omega) h.2 h.1; omega]
   by_cases h2:j + 1=i
   ·have e:pv ns i=nx ns j:=by rw [pv_eq i (by omega)]; congr 1; omega
    rw [if_pos ⟨e.symm,by omega⟩,if_neg (by omega),if_pos h2]
    have e2:i - 1=j:=by omega
    rw [e2]
   ·rw [if_neg fun h=>by rw [pv_eq i (by omega)] at h; have:=inj j (i - 1) (by omega) (by omega) h.1; omega,if_pos (by omega)]
    exact c.nn j (by omega)
  ·rw [if_neg h1,if_neg h1]
   by_cases h2:j=i
   ·rw [if_pos h2,if_pos h2,h2,hv,if_pos rfl,if_pos (Nat.le_refl _),if_neg (by omega),if_neg (by omega),Nat.add_sub_cancel]
   ·rw [if_neg h2,if_neg h2,if_neg (show ¬ j ≤ i by omega),if_neg (show ¬ j + 1 < i by omega),if_neg (show ¬ j + 1=i by omega),Nat.add_sub_cancel,hv,if_neg (n_ns _ (by omega)),if_neg (c.n_h (by omega))]
    by_cases h3:j=i + 1
    ·subst h3
     rw [Nat.add_sub_cancel,if_pos ⟨rfl,by omega⟩,if_pos rfl]
    ·have q:=c.nn (j - 1) (by omega)
     rw [show j - 1 + 1=j by omega] at q
     rw [if_neg fun h=>by have:=inj (j - 1) i (by omega) h.2 h.1; omega,if_neg fun h=>by rw [pv_eq i (by omega)] at h; have:=inj (j - 1) (i - 1) (by omega) (by omega) h.1; omega,if_neg h3]
     exact q
 ·intro j x hx
  rw [ins_get hi] at hx
  rw [nx_ins hib]
  by_cases h1:j < i
  ·rw [if_pos h1] at hx ⊢
   have hj:=(List.getElem?_eq_some_iff.1 hx).1
   rw [hbv _ (n_bs j hj) (c.b_h hj) fun k hk e=>c.n_b hk hj e.symm]
   exact c.bn j x hx
  ·rw [if_neg h1] at hx ⊢
   by_cases h2:j=i
   ·rw [if_pos h2] at hx ⊢
    obtain rfl:=Option.some.inj hx
    rw [hbv b (Ne.symm hnb) bh b_ns]
    exact ⟨hb,ok⟩
   ·rw [if_neg h2] at hx ⊢
    have hj:=(List.getElem?_eq_some_iff.1 hx).1
    rw [hbv _ (n_bs _ hj) (c.b_h hj) fun k hk e=>c.n_b hk hj e.symm]
    exact c.bn _ x hx
 ·have p:(hd :: (ins ns i n ++ ins bs i b)).Perm (n :: b :: (hd :: (ns ++ bs))):=by
   refine ((ins_perm ns i n).append (ins_perm bs i b)).cons hd |>.trans ?_
   have p1:(n :: ns ++ b :: bs).Perm (n :: b :: (ns ++ bs)):=List.Perm.cons n List.perm_middle
   exact (p1.cons hd).trans ((List.Perm.swap n hd _).trans ((List.Perm.swap b hd _).cons n))
  rw [p.nodup_iff,List.nodup_cons,List.nodup_cons]
  exact ⟨fun h=>by rcases List.mem_cons.1 h with h | h; exact hnb h; exact nn h,nb,c.dis⟩
 ·intro x hx
  rcases List.mem_cons.1 hx with e | hx
  ·rw [e]; exact c.nz_h
  ·rcases List.mem_append.1 hx with hx | hx
   ·rcases List.mem_cons.1 ((ins_perm ns i n).mem_iff.1 hx) with e | hx
    ·rw [e]; exact n0
    ·exact c.nz x (List.mem_cons_of_mem _ (List.mem_append_left _ hx))
   ·rcases List.mem_cons.1 ((ins_perm bs i b).mem_iff.1 hx) with e | hx
    ·rw [e]; exact b0
    ·exact c.nz x (List.mem_cons_of_mem _ (List.mem_append_right _ hx))
theorem Ch.unlink (c:Ch nd hd ns bs rows) (hi:i < rows.length)
  (hv:∀ x,x ≠ nx ns i→nd'[x]?=if x=hd then some ⟨2,[if i=0 then nx ns 1 else nx ns 0,if i + 1=rows.length then pv ns i else pv ns rows.length],[rows.length - 1]⟩
   else if x=nx ns (i + 1)∧i + 1 < rows.length then some ⟨3,[pv ns i,nx ns (i + 2),nx bs (i + 1)],[]⟩ else if x=pv ns i∧0 < i then some ⟨3,[pv ns (i - 1),nx ns (i + 1),nx bs (i - 1)],[]⟩ else nd[x]?) :
  Ch nd' hd (del ns i) (del bs i) (del rows i):=by
 have hln:=c.ln
 have hlb:=c.lb
 have lr:=del_len hi
 obtain ⟨i1,i2,i3,i4,i5⟩:=c.ids
 have inj:∀ a d,a < rows.length→d < rows.length→nx ns a=nx ns d→a=d:=fun a d ha hd' e=>nx_inj i3 (by omega) (by omega) e
 have hbv:∀ j,j < rows.length→nd'[nx bs j]?=nd[nx bs j]?:=fun j hj=>by
  rw [hv _ (fun e=>c.n_b hi hj e.symm),if_neg (c.b_h hj),if_neg fun h=>c.n_b h.2 hj h.1.symm,if_neg fun h=>by rw [pv_eq i (by omega)] at h; exact c.n_b (by omega) hj h.1.symm]
 refine ⟨by rw [del_len (by omega),lr,hln],by rw [del_len (by omega),lr,hlb],?_,?_,?_,?_,?_⟩
 ·rw [hv _ (Ne.symm (c.n_h hi)),if_pos rfl,lr]
  congr 2
  ·congr 1
   ·rw [nx_del]
    by_cases h:i=0
    ·rw [if_pos h,if_neg (by omega)]
    ·rw [if_neg h,if_pos (by omega)]
   ·congr 1
    by_cases h:i + 1=rows.length
    ·rw [if_pos h]
     by_cases h0:i=0
     ·have:rows.length - 1=0:=by omega
      rw [h0,this]; rfl
     ·rw [pv_eq i h0,pv_eq (l:=del ns i) (rows.length - 1) (by omega),nx_del,if_pos (by omega)]
      congr 1; omega
    ·rw [if_neg h,pv_eq (l:=ns) rows.length (by omega),pv_eq (l:=del ns i) (rows.length - 1) (by omega),nx_del,if_neg (by omega)]
     congr 1; omega
 ·intro j hj
  rw [lr] at hj
  have pvj:pv (del ns i) j=if j ≤ i then pv ns j else pv ns (j + 1):=by
   by_cases h0:j=0
   ·subst h0; rw [if_pos (by omega)]; rfl
   ·rw [pv_eq _ h0,nx_del]
    by_cases h1:j ≤ i
    ·rw [if_pos h1,if_pos (by omega),pv_eq _ h0]
    ·rw [if_neg h1,if_neg (by omega),pv_eq _ (by omega)]
     congr 1; omega
  rw [pvj,nx_del,nx_del,nx_del]
  by_cases h1:j < i
  ·rw [if_pos h1,if_pos h1,if_pos (by omega),hv _ (fun e=>by have:=inj j i (by omega) hi e; omega),if_neg (c.n_h (by omega)),if_neg fun h=>by have:=inj j (i + 1) (by omega) h.2 h.1; omega]
   by_cases h2:j + 1=i
   ·have e:pv ns i=nx ns j:=by rw [pv_eq i (by omega)]; congr 1; omega
    rw [if_pos ⟨e.symm,by omega⟩,if_neg (by omega)]
    have e2:i - 1=j:=by omega
    rw [e2,h2]
   ·rw [if_neg fun h=>by rw [pv_eq i (by omega)] at h; have:=inj j (i - 1) (by omega) (by omega) h.1; omega,if_pos (by omega)]
    exact c.nn j (by omega)
  ·rw [if_neg h1,if_neg h1,if_neg (show ¬ j + 1 < i by omega),hv _ (fun e=>by have:=inj (j + 1) i (by omega) hi e; omega),if_neg (c.n_h (by omega))]
   by_cases h2:j=i
   ·subst h2
    rw [if_pos ⟨rfl,by omega⟩,if_pos (Nat.le_refl _)]
   ·rw [if_neg fun h=>by have:=inj (j + 1) (i + 1) (by omega) h.2 h.1; omega,if_neg fun h=>by rw [pv_eq i (by omega)] at h; have:=inj (j + 1) (i - 1) (by omega) (by omega) h.1; omega,if_neg (by omega)]
    exact c.nn (j + 1) (by omega)
 ·intro j x hx
  rw [del_get] at hx
  rw [nx_del]
  by_cases h1:j < i
  ·rw [if_pos h1] at hx ⊢
   rw [hbv j (List.getElem?_eq_some_iff.1 hx).1]
   exact c.bn j x hx
  ·rw [if_neg h1] at hx ⊢
   rw [hbv _ (List.getElem?_eq_some_iff.1 hx).1]
   exact c.bn _ x hx
 ·have p1:=del_perm (nx_some (l:=ns) (j:=i) (by omega))
  have p2:=del_perm (nx_some (l:=bs) (j:=i) (by omega))
  have d:=c.dis
  have p:(hd :: (ns ++ bs)).Perm (nx ns i :: nx bs i :: (hd :: (del ns i ++ del bs i))):=by
   refine ((p1.append p2).symm.cons hd).trans ?_
   have q1:(nx ns i :: del ns i ++ nx bs i :: del bs i).Perm (nx ns i :: nx bs i :: (del ns i ++ del bs i)):=List.Perm.cons _ List.perm_middle
   exact (q1.cons hd).trans ((List.Perm.swap _ hd _).trans ((List.Perm.swap _ hd _).cons _))
  rw [p.nodup_iff,List.nodup_cons,List.nodup_cons] at d
  exact d.2.2
 ·intro x hx
  have p1:=del_perm (nx_some (l:=ns) (j:=i) (by omega))
  have p2:=del_perm (nx_some (l:=bs) (j:=i) (by omega))
  rcases List.mem_cons.1 hx with e | hx
  ·rw [e]; exact c.nz_h
  ·rcases List.mem_append.1 hx with hx | hx
   ·exact c.nz x (List.mem_cons_of_mem _ (List.mem_append_left _ (p1.mem_iff.1 (List.mem_cons_of_mem _ hx))))
   ·exact c.nz x (List.mem_cons_of_mem _ (List.mem_append_right _ (p2.mem_iff.1 (List.mem_cons_of_mem _ hx))))
/-- Another blob in an element's place. -/
theorem Ch.setb (c:Ch nd hd ns bs rows) (hi:i < rows.length) (ok:Okb r) (nb:b ∉ hd :: (ns ++ bs)) (b0:b ≠ 0) (hb:nd[b]?=some (blobN r))
  (hv:∀ x,nd'[x]?=if x=nx ns i then some ⟨3,[pv ns i,nx ns (i + 1),b],[]⟩ else nd[x]?):Ch nd' hd ns (bs.set i b) (rows.set i r):=by
 have hln:=c.ln
 have hlb:=c.lb
 obtain ⟨i1,i2,i3,i4,i5⟩:=c.ids
 have nbs:∀ j,nx (bs.set i b) j=if j=i then b else nx bs j:=fun j=>by
  unfold nx
  rw [List.getD_eq_getElem?_getD,set_at (nx_some (by omega))]
  split <;> rfl
 refine ⟨by rw [List.length_set]; exact c.ln,by rw [List.length_set,List.length_set]; exact c.lb,?_,?_,?_,?_,?_⟩
 ·rw [hv,if_neg (Ne.symm (c.n_h hi)),List.length_set]; exact c.hn
 ·intro j hj
  rw [List.length_set] at hj
  rw [hv,nbs]
  by_cases h:j=i
  ·subst h; rw [if_pos rfl,if_pos rfl]
  ·rw [if_neg fun e=>h (nx_inj i3 (by omega) (by omega) e),if_neg h]
   exact c.nn j hj
 ·intro j x hx
  rw [set_at (List.getElem?_eq_getElem hi)] at hx
  rw [nbs]
  by_cases h:j=i
  ·rw [if_pos h] at hx ⊢
   obtain rfl:=Option.some.inj hx
   have hne:b ≠ nx ns i:=fun e=>nb (by rw [e]; exact List.mem_cons_of_mem _ (List.mem_append_left _ (nx_mem (by omega))))
   rw [hv,if_neg hne]
   exact ⟨hb,ok⟩
  ·rw [if_neg h] at hx ⊢
   have hj:=(List.getElem?_eq_some_iff.1 hx).1
   rw [hv,if_neg fun e=>c.n_b hi hj e.symm]
   exact c.bn j x hx
 ·have d:=c.dis
  rw [List.nodup_cons,List.nodup_append] at d ⊢
  obtain ⟨d1,d2,d3,d4⟩:=d
  have q:∀ y,y ∈ bs.set i b→y=b ∨ y ∈ bs:=fun y hy=>(List.mem_or_eq_of_mem_set hy).symm
  refine ⟨fun h=>?_,d2,?_,fun x hx y hy e=>?_⟩
  ·rcases List.mem_append.1 h with h | h
   ·exact i1 h
   ·rcases q _ h with e | h
    ·exact nb (e ▸ List.mem_cons_self ..)
    ·exact i2 h
  ·have hl:i < bs.length:=by omega
   rw [List.nodup_iff_pairwise_ne,List.pairwise_iff_getElem]
   intro a d ha hd' had he
   rw [List.length_set] at ha hd'
   have g:∀ k (hk:k < bs.length),(bs.set i b)[k]'(by rw [List.length_set]; exact hk)=nx (bs.set i b) k:=fun k hk=>by
    unfold nx; rw [List.getD_eq_getElem?_getD,List.getElem?_eq_getElem (by rw [List.length_set]; exact hk)]; rfl
   rw [g a ha,g d hd',nbs,nbs] at he
   by_cases ea:a=i
   ·rw [if_pos ea,if_neg (by omega)] at he
    exact nb (he ▸ List.mem_cons_of_mem _ (List.mem_append_right _ (nx_mem hd')))
   ·rw [if_neg ea] at he
    by_cases ed:d=i
    ·rw [if_pos ed] at he
     exact nb (he ▸ List.mem_cons_of_mem _ (List.mem_append_right _ (nx_mem ha)))
    ·rw [if_neg ed] at he
     have:=nx_inj i4 ha hd' he
     omega
  ·subst e
   rcases q x hy with e2 | h
   ·exact nb (e2 ▸ List.mem_cons_of_mem _ (List.mem_append_left _ hx))
   ·exact i5 x hx h
 ·intro x hx
  rcases List.mem_cons.1 hx with e | hx
  ·rw [e]; exact c.nz_h
  ·rcases List.mem_append.1 hx with hx | hx
   ·exact c.nz x (List.mem_cons_of_mem _ (List.mem_append_left _ hx))
   ·rcases List.mem_or_eq_of_mem_set hx with h | e
    ·exact c.nz x (List.mem_cons_of_mem _ (List.mem_append_right _ h))
    ·rw [e]; exact b0
end
end Go.Ev
set_option linter.all false
set_option maxRecDepth 100000
namespace Go.Ev
open Go.Proofs
def cntS (z:Nat):Nat:=if z ≤ 64 then z else 0
def cntB (z:Nat):Nat:=if z ≤ 64 then 0 else z + 1
def roomK (lim S B z:Nat):Prop:=if z ≤ 64 then 2 * (S + z) ≤ lim - B∧B ≤ lim else B + z + 1 + 2 * max S 64 ≤ lim
instance (lim S B z:Nat):Decidable (roomK lim S B z):=by unfold roomK; exact inferInstance
/-- The handles are the same, but for places that hold nothing. -/
def REq (l m:List (Option Nat)):Prop:=∀ j,l.getD j none=m.getD j none
theorem REq.refl (l:List (Option Nat)):REq l l:=fun _=>rfl
theorem REq.symm {l m:List (Option Nat)} (h:REq l m):REq m l:=fun j=>(h j).symm
theorem REq.trans {l m k:List (Option Nat)} (a:REq l m) (b:REq m k):REq l k:=fun j=>(a j).trans (b j)
theorem REq.mem {l m:List (Option Nat)} (h:REq l m) (id:Nat):some id ∈ l ↔ some id ∈ m:=by
 rw [mem_roots,mem_roots]
 exact ⟨fun ⟨j,hj⟩=>⟨j,(h j).symm.trans hj⟩,fun ⟨j,hj⟩=>⟨j,(h j).trans hj⟩⟩
theorem REq.back {l m:List (Option Nat)} {id:Nat} (h:∀ j,m.getD j none=if j=RS.freeAt l then some id else l.getD j none):REq (m.set (RS.freeAt l) none) l:=fun j=>by
 rw [dropL_get]
 by_cases e:j=RS.freeAt l
 ·rw [if_pos e,e,freeAt_none3]
 ·rw [if_neg e,h,if_neg e]
theorem rootL_mem {l:List (Option Nat)} {id x:Nat}:some x ∈ rootL l id ↔ x=id ∨ some x ∈ l:=by
 rw [mem_roots,mem_roots]
 constructor
 ·rintro ⟨j,hj⟩
  rw [rootL_get] at hj
  split at hj
  ·exact .inl (Option.some.inj hj).symm
  ·exact .inr ⟨j,hj⟩
 ·rintro (e | ⟨j,hj⟩)
  ·exact ⟨RS.freeAt l,by rw [rootL_get,if_pos rfl,e]⟩
  ·refine ⟨j,?_⟩
   rw [rootL_get,if_neg,hj]
   intro e
   rw [e,freeAt_none3] at hj
   cases hj
theorem Rch.req {nd:List NodeD} {l m:List (Option Nat)} (h:REq l m) {x:Nat} (r:Rch nd l x):Rch nd m x:=by
 induction r with
 | root a b=>exact .root ((h.mem _).1 a) b
 | next _ a b c ih=>exact .next ih a b c
/-- What is live: just these. -/
structure Lv (nd:List NodeD) (roots:List (Option Nat)) (ids:List Nat):Prop where
 nod:ids.Nodup
 iff:∀ x,x ∈ ids ↔ Rch nd roots x
theorem Lv.req {nd:List NodeD} {l m:List (Option Nat)} {ids:List Nat} (h:REq l m) (v:Lv nd l ids):Lv nd m ids:=⟨v.nod,fun x=>(v.iff x).trans ⟨Rch.req h,Rch.req h.symm⟩⟩
/-- A closed set that the handles reach just so. -/
theorem Lv.of {nd:List NodeD} {roots:List (Option Nat)} {ids:List Nat} (h1:ids.Nodup) (h2:∀ id,some id ∈ roots→id ≠ 0→id ∈ ids) (h3:∀ x ∈ ids,∀ m,nd[x]?=some m→∀ y ∈ m.refs,y ≠ 0→y ∈ ids) (h4:∀ x ∈ ids,Rch nd roots x):Lv nd roots ids :=
 ⟨h1,fun x=>⟨h4 x,fun r=>by
  induction r with
  | root a b=>exact h2 _ a b
  | next _ a b c ih=>exact h3 _ ih _ a _ b c⟩⟩
namespace RS
section
variable {s t:RS} {nd:List NodeD} {ids:List Nat} {b:List Nat}
theorem room_live (v:s.Inv) (sh:s.Shd nd) (lv:Lv nd s.roots ids) (r w:Nat):s.Room r w ↔ roomK s.limit (1 + liveS nd ids) (liveB nd ids) (1 + r + w):=by
 obtain ⟨e1,e2⟩:=live_of v sh lv.nod lv.iff
 unfold Room roomK
 rw [e1,e2]
/-- What laying a blob comes to. -/
theorem g_lay (v:s.Inv) (sh:s.Shd nd) (ok:Okb b) :
  (¬ s.Room 0 (1 + wordsN b.length)∧∃ t,s.layF b=(t,0,31)∧t.Shd nd∧t.roots=s.roots∧t.limit=s.limit) ∨
  (s.Room 0 (1 + wordsN b.length)∧∃ t,s.layF b=(t,t.ref nd.length,0)∧t.Shd (nd ++ [blobN b])∧t.roots=s.roots∧t.limit=s.limit∧t.here nd.length):=by
 have hw:wordsN b.length ≤ 513:=by have:=ok.len; unfold wordsN; omega
 have ar:=alloc_room v (⟨⟨by omega,by omega⟩,⟨by omega,by omega⟩,by omega,by omega⟩:Shape 1 0 ((1 + wordsN b.length:Nat):Int))
 rw [Int.toNat_natCast,show (0:Int).toNat=0 from rfl] at ar
 have al:=alloc_lim (s:=s) 1 0 ((1 + wordsN b.length:Nat):Int)
 obtain ⟨t,st,vt,h⟩:=lay_cases v sh ok
 rcases h with e | ⟨s',e,v',sh',er,hh⟩
 ·left
  refine ⟨fun hr=>?_,t,e,sh.sub st,st.roots,?_⟩
  ·have h0:=ar.2 hr
   unfold layF at e
   rw [if_pos h0] at e
   have:=congrArg (fun z=>z.2.2) e
   exact absurd this (by show ¬ ((0:Int)=31); omega)
  ·unfold layF at e
   by_cases h0:(s.alloc 1 0 ((1 + wordsN b.length:Nat):Int)).2.2=0
   ·rw [if_pos h0] at e
    have:=congrArg (fun z=>z.2.2) e
    exact absurd this (by show ¬ ((0:Int)=31); omega)
   ·rw [if_neg h0] at e
    have:=congrArg (fun z=>z.1.limit) e
    have this:(s.alloc 1 0 ((1 + wordsN b.length:Nat):Int)).1.limit=t.limit:=this
    rw [← this,al]
 ·right
  have h0:(s.alloc 1 0 ((1 + wordsN b.length:Nat):Int)).2.2=0:=Classical.byContradiction fun h0=>by
   unfold layF at e
   rw [if_neg h0] at e
   have:=congrArg (fun z=>z.2.2) e
   exact h0 this
  refine ⟨ar.1 h0,s',e,sh',er,?_,(hh _).2 (.inl rfl)⟩
  have e2:=e
  unfold layF at e2
  rw [if_pos h0] at e2
  have:=congrArg (fun z=>z.1.limit) e2
  have this:_=s'.limit:=this
  rw [← this]
  exact (setBytesF_lim _ _ _).trans ((setF_lim _ _ _).trans al)
end
end RS
section
variable {nd nd':List NodeD} {roots:List (Option Nat)} {ids:List Nat} {b:List Nat} {n:NodeD}
theorem szAt_app (h:∀ x ∈ ids,x < nd.length) (m:List NodeD):ids.map (RS.szAt (nd ++ m))=ids.map (RS.szAt nd) :=
 List.map_congr_left fun x hx=>by unfold RS.szAt; rw [List.getElem?_append_left (h x hx)]
theorem szAt_new (nd:List NodeD) (n:NodeD):RS.szAt (nd ++ [n]) nd.length=n.sz:=by unfold RS.szAt; rw [List.getElem?_append_right (Nat.le_refl _),Nat.sub_self]; rfl
theorem liveS_eq (nd:List NodeD) (ids:List Nat):RS.liveS nd ids=((ids.map (RS.szAt nd)).map cntS).sum:=by unfold RS.liveS cntS; rw [List.map_map]; rfl
theorem liveB_eq (nd:List NodeD) (ids:List Nat):RS.liveB nd ids=((ids.map (RS.szAt nd)).map cntB).sum:=by unfold RS.liveB cntB; rw [List.map_map]; rfl
theorem live_app (h:∀ x ∈ ids,x < nd.length) (n:NodeD):RS.liveS (nd ++ [n]) (ids ++ [nd.length])=RS.liveS nd ids + cntS n.sz∧RS.liveB (nd ++ [n]) (ids ++ [nd.length])=RS.liveB nd ids + cntB n.sz:=by
 rw [liveS_eq,liveB_eq,liveS_eq,liveB_eq,List.map_append,szAt_app h]
 simp [szAt_new]
theorem live_perm {a c:List Nat} (p:a.Perm c):RS.liveS nd a=RS.liveS nd c∧RS.liveB nd a=RS.liveB nd c:=⟨(p.map _).sum_nat,(p.map _).sum_nat⟩
theorem live_append (a c:List Nat):RS.liveS nd (a ++ c)=RS.liveS nd a + RS.liveS nd c∧RS.liveB nd (a ++ c)=RS.liveB nd a + RS.liveB nd c:=by
 unfold RS.liveS RS.liveB; simp
/-- An object more that a handle holds and that leads nowhere. -/
theorem Lv.leaf (lv:Lv nd roots ids) (hlt:∀ x ∈ ids,x < nd.length) (hn:∀ r ∈ n.refs,r=0) (hp:nd.length ≠ 0) (ho:∀ x,some x ∈ roots→x < nd.length) (hcl:∀ x ∈ ids,∀ m,nd[x]?=some m→∀ y ∈ m.refs,y < nd.length) :
  Lv (nd ++ [n]) (rootL roots nd.length) (ids ++ [nd.length]):=by
 have old:∀ x,Rch nd roots x→Rch (nd ++ [n]) (rootL roots nd.length) x:=fun x r=>by
  induction r with
  | root a b=>exact .root (rootL_mem.2 (.inr a)) b
  | next ha a b c ih=>exact .next ih ((List.getElem?_append_left (hlt _ ((lv.iff _).2 ha))).trans a) b c
 refine Lv.of ?_ (fun id h h0=>?_) (fun x hx m hm y hy h0=>?_) fun x hx=>?_
 ·rw [List.nodup_append]
  exact ⟨lv.nod,by simp,fun x hx y hy e=>by rw [List.mem_singleton.1 hy] at e; have:=hlt x hx; omega⟩
 ·rcases rootL_mem.1 h with e | h
  ·rw [e]; exact List.mem_append_right _ (List.mem_singleton.2 rfl)
  ·exact List.mem_append_left _ ((lv.iff _).2 (.root h h0))
 ·rcases List.mem_append.1 hx with hx | hx
  ·have hl:=hlt x hx
   rw [List.getElem?_append_left hl] at hm
   exact List.mem_append_left _ ((lv.iff _).2 (.next ((lv.iff _).1 hx) hm hy h0))
  ·rw [List.mem_singleton.1 hx,List.getElem?_append_right (Nat.le_refl _),Nat.sub_self] at hm
   obtain rfl:n=m:=Option.some.inj hm
   exact absurd (hn y hy) h0
 ·rcases List.mem_append.1 hx with hx | hx
  ·exact old x ((lv.iff _).1 hx)
  ·rw [List.mem_singleton.1 hx]; exact .root (rootL_mem.2 (.inl rfl)) hp
end
end Go.Ev
set_option linter.all false
set_option maxRecDepth 1000000
namespace Go.Ev
open Go.Proofs
section
variable {h h':Hp} {q q':HQ} {s s':RS} {nd:List NodeD} {n:NodeD} {id:Nat} {R:Value→Hp→Prop} {b:List Nat}
theorem Gs.isB (x:Gs h q s nd) (hh:s.here id) (hn:nd[id]?=some (blobN b)):s.IsB id b:=RS.IsB.of x.v x.sh hh hn
theorem q_new (x:Gs h q s nd) {a:Sl} {sls:List Sl} {parts:List (List Nat)} (sr:Srcs h q a sls parts) (hlong:sls.length < 100000000000000) (hb8:Bytes8 parts.flatten)
  (hbig:parts.flatten.length > 4096→∀ h' q',Gs h' q' s nd→Ex h q h' q'→R (.tuple #[uv 0,.int .i64 41]) h')
  (hfull:parts.flatten.length ≤ 4096→∀ h' q' s',Gs h' q' s' nd→s'.roots=s.roots→s'.limit=s.limit→Ex h q h' q'→¬ s.Room 0 (1 + wordsN parts.flatten.length)→R (.tuple #[uv 0,.int .i64 31]) h')
  (hok:∀ h' q' s',Okb parts.flatten→Gs h' q' s' (nd ++ [blobN parts.flatten])→s'.roots=s.roots→s'.limit=s.limit→s'.here nd.length→Ex h q h' q'→s.Room 0 (1 + wordsN parts.flatten.length)→R (.tuple #[uv (s'.ref nd.length),.int .i64 0]) h') :
  CallTo Try.prog 53 #[.pointer (some (ad q.hb)),.slice a.a a.n a.c] h R:=by
 refine new_ok x.st x.sh sr hlong ?_
 unfold RS.newF
 by_cases hl:parts.flatten.length > 4096
 ·rw [if_pos hl]
  exact fun h' q' x' ex=>hbig hl h' q' ⟨x',x.sh⟩ ex
 ·rw [if_neg hl]
  have ok:Okb parts.flatten:=⟨hb8,by omega⟩
  rcases RS.g_lay x.v x.sh ok with ⟨hr,t,e,c1,c2,c3⟩ | ⟨hr,t,e,c1,c2,c3,c4⟩
  ·rw [e]
   exact fun h' q' x' ex=>hfull (by omega) h' q' t ⟨x',c1⟩ c2 c3 ex hr
  ·rw [e]
   exact fun h' q' x' ex=>hok h' q' t ok ⟨x',c1⟩ c2 c3 c4 ex hr
theorem q_read (x:Gs h q s nd) (hh:s.here id) (hn:nd[id]?=some (blobN b)) (ok:Okb b) (hR:∀ c h',Row h' c (b.map bv)→h.size ≤ c→Kept N h h'→R (.tuple #[.slice (some (ad c)) b.length b.length,.int .i64 0]) h') :
  CallTo Try.prog 68 #[.pointer (some (ad q.hb)),uv (s.ref id)] h R:=read_ok x.st (x.isB hh hn) ok hR
end
end Go.Ev
