/- ChainTurns: the law's own call / ChainStrikes: the statement's own rest / ChainStrikes: the law's own call. No condition but that these are ones. -/
import Derived.Test.YtngcoodbepbhbaaP21
set_option linter.all false
set_option maxRecDepth 1000000
namespace Go.Ev
open Go.Proofs
section
variable {h h' h2 h0 h1:Hp} {q q' q2:HQ} {s s' s2:RS} {nd nd' nd2:List NodeD} {n:NodeD} {id lb hn:Nat} {L L' L2:LD} {R:Value→Hp→Prop} {b:List Nat} {ids:List Nat} {lim:Nat} {a:Sl} {sls:List Sl} {rows w:List (List Nat)} {M:Mem} {cs:List Nat} {r:List Nat} {c:Nat}
theorem RL0.keepN (x:RL0 h a sls rows) (k:Kept N h h'):RL0 h' a sls rows :=
 ⟨reads_keptN k x.rd,x.n,x.len,fun i c r hc hr=>(have e:=x.each i c r hc hr; ⟨reads_keptN k e.1,e.2.1,e.2.2.1,e.2.2.2.1,e.2.2.2.2.1,fun p hp hn=>Nat.lt_of_lt_of_le (e.2.2.2.2.2 p hp hn) k.1⟩),
  fun p hp hn=>Nat.lt_of_lt_of_le (x.out p hp hn) k.1⟩
theorem Bt.keepN (x:Bt h a b) (k:Kept N h h'):Bt h' a b:=⟨reads_keptN k x.rd,x.n,x.cap,x.b8,x.lt,fun p hp hn=>Nat.lt_of_lt_of_le (x.out p hp hn) k.1⟩
theorem ins_at {α:Type} {l:List α} {i:Nat} {x:α} (hi:i ≤ l.length):(ins l i x)[i]?=some x:=by rw [ins_get hi,if_neg (by omega),if_pos rfl]
theorem ins_cut {α:Type} {l:List α} {i:Nat} {x:α} (hi:i ≤ l.length):(ins l i x).take i ++ (ins l i x).drop (i + 1)=l:=by
 unfold ins
 rw [List.take_left' (by rw [List.length_take]; omega),List.drop_append,List.length_take,Nat.min_eq_left hi,List.drop_eq_nil_of_le (by rw [List.length_take]; omega),List.nil_append,Nat.add_sub_cancel_left,List.drop_succ_cons,List.drop_zero,List.take_append_drop]
/-- What comes off such a list, from that end on. -/
def comes (fr:Bool) (w:List (List Nat)):List (List Nat):=if fr=true then w else w.reverse
def stays (fr:Bool) (w:List (List Nat)) (k:Nat):List (List Nat):=if fr=true then w.drop k else w.take (w.length - k)
theorem stays_len {fr:Bool} {k:Nat} (hk:k ≤ w.length):(stays fr w k).length=w.length - k:=by unfold stays; split <;> simp <;> omega
theorem stays_step {fr:Bool} {k:Nat} {e:List Nat} (hk:k < w.length) (hr:(stays fr w k)[if fr=true then 0 else (stays fr w k).length - 1]?=some e) :
  (comes fr w)[k]?=some e∧del (stays fr w k) (if fr=true then 0 else (stays fr w k).length - 1)=stays fr w (k + 1):=by
 have hl:=stays_len (fr:=fr) (w:=w) (k:=k) (by omega)
 rw [hl] at hr ⊢
 cases fr with
 | true =>
  rw [if_pos rfl] at hr ⊢
  unfold stays comes at *
  rw [if_pos rfl] at hr ⊢
  rw [if_pos rfl,if_pos rfl]
  refine ⟨by rwa [List.getElem?_drop] at hr,?_⟩
  unfold del
  rw [List.take_zero,List.nil_append,List.drop_drop]
 | false =>
  rw [if_neg (by simp)] at hr ⊢
  unfold stays comes at *
  rw [if_neg (by simp)] at hr ⊢
  rw [if_neg (by simp),if_neg (by simp)]
  rw [List.getElem?_take_of_lt (by omega)] at hr
  refine ⟨by rw [List.getElem?_reverse (by omega)]; rw [show w.length - 1 - k=w.length - k - 1 by omega]; exact hr,?_⟩
  unfold del
  rw [List.take_take,List.drop_eq_nil_of_le (by rw [List.length_take]; omega),List.append_nil]
  congr 1; omega
theorem comes_len {fr:Bool}:(comes fr w).length=w.length:=by unfold comes; split <;> simp
def laid (fr:Bool) (w:List (List Nat)) (k:Nat):List (List Nat):=if fr=true then ((comes fr w).take k).reverse else (comes fr w).take k
theorem laid_end {fr:Bool}:laid fr w w.length=w.reverse:=by
 unfold laid
 have:=comes_len (fr:=fr) (w:=w)
 rw [List.take_of_length_le (by omega)]
 unfold comes
 cases fr <;> simp
theorem laid_step {fr:Bool} {k:Nat} {e:List Nat} (he:(comes fr w)[k]?=some e):(if fr=true then e :: laid fr w k else laid fr w k ++ [e])=laid fr w (k + 1):=by
 unfold laid
 have:=RS.take_snoc he
 cases fr with
 | true=>rw [if_pos rfl,if_pos rfl,if_pos rfl,this,List.reverse_append]; rfl
 | false=>rw [if_neg (by simp),if_neg (by simp),if_neg (by simp),this]
theorem comes_mem {fr:Bool} {e:List Nat}:e ∈ comes fr w ↔ e ∈ w:=by unfold comes; split <;> simp
theorem turns_ok {a0 a3:Sl} {i m:Int} {fr:Bool} (y:RL0 h a0 sls rows) (z:Bt h a3 b) (hi:-9223372036854775808 ≤ i∧i < 9223372036854775808) (hR:∀ h',Kept N h h'→R (.bool true) h') :
  CallTo Try.prog 4 #[.agg #[.slice a0.a a0.n a0.c,.int .i64 i,.int .i64 m,.slice a3.a a3.n a3.c,.bool fr]] h R:=by
 refine f4F_ok ?_
 unfold f4F
 refine Let_mk fun h1 e1=>?_
 have k1:Kept N h h1:=e1 ▸ kept_push _ _ _
 have row1:Row h1 h.size [.slice a0.a a0.n a0.c,.int .i64 i,.int .i64 m,.slice a3.a a3.n a3.c,.bool fr]:=e1 ▸ row_new h #[.slice a0.a a0.n a0.c,.int .i64 i,.int .i64 m,.slice a3.a a3.n a3.c,.bool fr] _
 have enb:nb h=ad h.size:=rfl
 rw [enb]
 have y1:=y.keepN k1
 have z1:=z.keepN k1
 refine ⟨a0,cell_row row1 0,lmake1 y1 fun h2 q s nd lb L wsl sls' x2 er2 rl2 k2 f2=>⟨_,_,⟨_,_,_⟩,rfl,Cond_f rfl (lholds x2.o (er2 ▸ rl2) fun h3 k3=>⟨_,rfl,?_⟩)⟩⟩
 have st:Stg h1 h3 q s nd lb L:=(⟨x2,k2,f2⟩:Stg h1 h2 q s nd lb L).keepN k3
 have rl3:RL h3 q wsl sls' (cutR rows):=rl2.keepN k3 fun b hb=>x2.o.g.st.fr hb
 clear x2 rl2 k2 f2 k3
 have hwl:(cutR rows).length ≤ 300:=by rw [cutR_len]; omega
 have hw40:∀ r ∈ cutR rows,r.length ≤ 8 * 5:=fun r hr=>cutR_le hr
 generalize hW:cutR rows=W at *
 have wn:wsl.n=W.length:=by rw [rl3.n,rl3.len]
 have cl:∀ {g:Hp} {q' s' nd' L'},Stg h1 g q' s' nd' lb L'→∀ (k:Nat) (v:Value),[Value.slice a0.a a0.n a0.c,.int .i64 i,.int .i64 m,.slice a3.a a3.n a3.c,.bool fr][k]?=some v→cell g ((ad h.size).add k)=some v:=fun {g q' s' nd' L'} x k v hv=>by
  rw [add_ad]; exact (cell_row (kept_row x.k row1 _root_.id) k).trans hv
 have wb8:∀ r ∈ W,Bytes8 r:=fun r hr=>by
  obtain ⟨j,hj⟩:=List.mem_iff_getElem?.1 hr
  obtain ⟨_,_,_,_,_,src,_,_,_⟩:=rl3.get hj
  exact src.b8
 -- the list turned round
 have l3:∀ {g:Hp} {q' s' nd' L'},Stg h1 g q' s' nd' lb L'→L'.rows=W.reverse→RL g q' wsl sls' W→LoopEv (evC Try.prog tab lv4 (sub [1,1,1,1,1,1,1,1,1,1,1,1,1,1,1,1,1,1,1,1,0,1,0,0] body4)) (contAt Try.prog tab lv4 [1,1,1,1,1,1,1,1,1,1,1,1,1,1,1,1,1,1,1,1,0,1,0] body4 [] (bodyK Try.prog Try.f4 [] R))
   [(4,.pointer (some (ad lb))),(5,.slice wsl.a wsl.n wsl.c),(15,.slice none 0 0),(16,.int .i64 (IntKind.wrap .i64 ((((wsl.n:Nat):Int)) - (1:Int))))] 230 g:=fun {g q' s' nd' L'} x er rl=>by
  have sn:sls'.length=W.length:=rl.len
  rw [wn,wrap_i64' (by omega) (by omega)]
  refine f4L3_rule (s5:=⟨wsl.a,W.length,wsl.c⟩) (s15:=⟨none,0,0⟩) (fun p s4 s5 s15 s16 h4=>∃ (k:Nat) (M:Mem),k ≤ W.length∧k=p∧some (ad lb)=s4∧⟨wsl.a,W.length,wsl.c⟩=s5∧s16=(k:Int) - 1∧SlsIn g h4 M s15 (sls'.drop k).reverse) W.length
   ⟨W.length,_,Nat.le_refl _,rfl,rfl,rfl,rfl,by rw [List.drop_eq_nil_of_le (by omega)]; exact SlsIn.nil g⟩ ?_
  rintro p s4 s5 s15 s16 g0 h4 ⟨k,M,hk,rfl,rfl,rfl,rfl,sx⟩
  unfold f4L3
  refine Cond_dec (fun hge=>?_) fun hlt=>?_
  ·obtain ⟨j,rfl⟩:∃ j,k=j + 1:=⟨k - 1,by omega⟩
   rw [show ((j + 1:Nat):Int) - 1=(j:Int) by omega]
   have rl4:=rl.keepN sx.k fun b hb=>x.x.o.g.st.fr hb
   obtain ⟨cc,p,hcs,hp,hc2,_,_,_,_⟩:=rl4.get (List.getElem?_eq_getElem (show j < W.length by omega))
   refine ⟨⟨by omega,by show (j:Int) < ((W.length:Nat):Int); omega⟩,PtrOk_of hp ⟨cc,by rw [Int.toNat_natCast]; exact hc2,?_⟩⟩
   refine sx.add (c:=cc) (by rw [List.length_reverse,List.length_drop]; omega) fun a' c' h5 M' sx5=>⟨j,by omega,j,M',by omega,rfl,rfl,rfl,by rw [wrap_i64' (by omega) (by omega)],?_⟩
   obtain ⟨hjl,hje⟩:=List.getElem?_eq_some_iff.1 hcs
   rw [List.drop_eq_getElem_cons hjl,hje,List.reverse_cons]
   exact sx5
  ·obtain rfl:k=0:=by omega
   rw [List.drop_zero] at sx
   have rl4:=rl.keepN sx.k fun b hb=>x.x.o.g.st.fr hb
   have x4:=x.keepN sx.k
   have rb:RL h4 q' s15 sls'.reverse W.reverse:=sx.rl x.x.o.g (by simp [sn]) fun j cc r hc hr=>by
    have hj1:j < W.length:=by have:=(List.getElem?_eq_some_iff.1 hr).1; simpa using this
    rw [List.getElem?_reverse (by omega)] at hc hr
    rw [sn] at hc
    exact rl4.each _ cc r hc hr
   exact lholds x4.x.o (er ▸ rb) fun h5 k5=>⟨_,rfl,hR h5 (kept_tr k1 (kept_tr x4.k k5))⟩
 -- the elements are pushed again
 have l2:∀ {g:Hp} {q' s' nd' L' rsl M cs g0},Stg h1 g q' s' nd' lb L'→L'.rows=[]→RL g q' wsl sls' W→RowsAt g0 g rsl M cs (comes fr W)→(∀ b,M.own b→q'.role b=.out) →
   LoopEv (evC Try.prog tab lv4 (sub [1,1,1,1,1,1,1,1,1,1,1,1,1,1,1,1,1,1,0,1,0,0] body4)) (contAt Try.prog tab lv4 [1,1,1,1,1,1,1,1,1,1,1,1,1,1,1,1,1,1,0,1,0] body4 [] (bodyK Try.prog Try.f4 [] R))
   [(1,.pointer (some (ad h.size))),(4,.pointer (some (ad lb))),(5,.slice wsl.a wsl.n wsl.c),(12,.slice rsl.a rsl.n rsl.c),(14,.int .i64 0)] 230 g:=fun {g q' s' nd' L' rsl M cs g0} x er rl ra ho=>by
  have rn:rsl.n=W.length:=by rw [ra.n_eq,comes_len]
  refine f4L2_rule (s5:=wsl) (s12:=rsl) (fun p s1 s4 s5 s12 s14 h4=>∃ (k:Nat) (q4:HQ) (s4':RS) (nd4:List NodeD) (L4:LD),k ≤ W.length∧p=W.length - k∧ad h.size=s1∧some (ad lb)=s4∧wsl=s5∧rsl=s12∧s14=(k:Int) ∧
    Stg h1 h4 q4 s4' nd4 lb L4∧L4.rows=laid fr W k∧Ex g q' h4 q4) W.length
   ⟨0,q',s',nd',L',Nat.zero_le _,rfl,rfl,rfl,rfl,rfl,rfl,x,by rw [er]; unfold laid; split <;> simp,Ex.refl _ _⟩ ?_
  rintro p s1 s4 s5 s12 s14 g1 h4 ⟨k,q4,s4',nd4,L4,hk,rfl,rfl,rfl,rfl,rfl,rfl,x4,er4,ex4⟩
  obtain ⟨ra4,ho4⟩:=ra.ex ho ex4
  unfold f4L2
  rw [rn]
  refine Cond_dec (fun hlt=>?_) fun hge=>?_
  ·have hlt:k < W.length:=by omega
   have hj:(comes fr W)[k]?=some ((comes fr W)[k]'(by rw [comes_len]; exact hlt)):=List.getElem?_eq_getElem _
   have hmem:(comes fr W)[k]'(by rw [comes_len]; exact hlt) ∈ W:=comes_mem.1 (List.getElem_mem _)
   obtain ⟨c,bk,hcs,ha,hc2,row,_⟩:=ra4.get hj
   have hro:q4.role c=.out:=ho4 c ⟨k + 1,(ra4.el k c _ hcs hj).1⟩
   refine ⟨fr,cl x4 4 _ rfl,⟨by omega,by omega⟩,PtrOk_of ha ⟨⟨_,_,_⟩,by rw [Int.toNat_natCast]; exact hc2,?_⟩⟩
   have hl4:L4.rows.length ≤ 310:=by rw [er4]; unfold laid; split <;> simp [comes_len] <;> omega
   have hin:∀ r ∈ L4.rows,r.length ≤ 8 * 5:=fun r hr=>by
    rw [er4] at hr; unfold laid at hr
    refine hw40 r (comes_mem (fr:=fr).1 ?_)
    split at hr
    ·exact List.mem_of_mem_take (List.mem_reverse.1 hr)
    ·exact List.mem_of_mem_take hr
   refine tpush x4 hin hl4 (row_src row (wb8 _ hmem) hro) (hw40 _ hmem) fun h5 q5 s5 nd5 L5 x5 er5 ex5=>⟨_,rfl,lnum ⟨_,rfl,Cond_f rfl ?_⟩⟩
   exact ⟨W.length - (k + 1),by omega,k + 1,q5,s5,nd5,L5,by omega,rfl,rfl,rfl,rfl,rfl,by rw [wrap_i64' (by omega) (by omega)]; rfl,x5,by rw [er5,er4]; exact laid_step hj,ex4.trans ex5⟩
  ·obtain rfl:k=W.length:=by omega
   exact l3 x4 (by rw [er4]; exact laid_end) (rl.ex ex4)
 -- behind the last Set: all are popped
 have l1:∀ {g:Hp} {q' s' nd' L'},Stg h1 g q' s' nd' lb L'→L'.rows=W→RL g q' wsl sls' W→LoopEv (evC Try.prog tab lv4 (sub [1,1,1,1,1,1,1,1,1,1,1,1,1,1,1,0,1,0,0] body4)) (contAt Try.prog tab lv4 [1,1,1,1,1,1,1,1,1,1,1,1,1,1,1,0,1,0] body4 [] (bodyK Try.prog Try.f4 [] R))
   [(1,.pointer (some (ad h.size))),(4,.pointer (some (ad lb))),(5,.slice wsl.a wsl.n wsl.c),(12,.slice none 0 0),(13,.int .i64 0)] 230 g:=fun {g q' s' nd' L'} x er rl=>by
  have hlb:lb < g.size:=row_lt x.x.o.l.row
  refine f4L1_rule (s5:=wsl) (s12:=⟨none,0,0⟩) (fun p s1 s4 s5 s12 s13 h4=>∃ (k:Nat) (q4:HQ) (s4':RS) (nd4:List NodeD) (L4:LD) (M:Mem) (cs:List Nat),k ≤ W.length∧p=W.length - k∧ad h.size=s1∧some (ad lb)=s4∧wsl=s5∧s13=(k:Int) ∧
    Stg h1 h4 q4 s4' nd4 lb L4∧L4.rows=stays fr W k∧Ex g q' h4 q4∧RowsAt g h4 s12 M cs ((comes fr W).take k)∧(∀ b,M.own b→q4.role b=.out)) W.length
   ⟨0,q',s',nd',L',_,[],Nat.zero_le _,rfl,rfl,rfl,rfl,rfl,x,by rw [er]; unfold stays; split <;> simp,Ex.refl _ _,RowsAt.nil g g,(fun b ⟨y,hy⟩=>by cases hy)⟩ ?_
  rintro p s1 s4 s5 s12 s13 g0 h4 ⟨k,q4,s4',nd4,L4,M,cs,hk,rfl,rfl,rfl,rfl,rfl,x4,er4,ex4,ra,ho⟩
  have hsz:=ex4.2.1
  unfold f4L1
  rw [wn]
  refine Cond_dec (fun hlt=>?_) fun hge=>?_
  ·have hlt:k < W.length:=by omega
   have hl4:L4.rows.length=W.length - k:=by rw [er4]; exact stays_len (by omega)
   refine ⟨fr,cl x4 4 _ rfl,tpop x4 (fun e=>by rw [e] at hl4; simp at hl4; omega) fun r c h5 q5 s5 nd5 L5 hr x5 ex5 er5 row hc hro=>⟨⟨_,_,_⟩,_,rfl,lnum ⟨_,rfl,Cond_f rfl ?_⟩⟩⟩
   rw [er4] at hr er5
   obtain ⟨he,hst⟩:=stays_step hlt hr
   obtain ⟨ra5,ho5⟩:=ra.ex ho ex5
   have ex05:=ex4.trans ex5
   have hcM:¬ M.own c:=fun hb=>by have:=ra.sep.own_lt hb; omega
   refine ra5.add2 (by rw [List.length_take,comes_len]; omega) row hcM (Nat.le_trans hsz hc) ex05.2.1 fun a' c' h6 M' ra6 old k6 own6=>?_
   have hS:∀ b,g.size ≤ b∧(M.own b ∨ b=c)→q5.role b=.out:=fun b hb=>hb.2.elim (ho5 b) fun e=>e ▸ hro
   have o6:Opn h6 q5 s5 nd5 lb 1 L5:=⟨x5.x.o.g.keepO k6 hS,⟨kept_row k6 x5.x.o.l.row (fun z=>by omega),x5.x.o.l.out⟩,x5.x.o.pos,x5.x.o.lt,x5.x.o.held,x5.x.o.c⟩
   have ex06:Ex g q' h6 q5:=⟨ex05.1,Nat.le_trans ex05.2.1 k6.1,fun b hb hb2=>⟨(ex05.2.2 b hb hb2).1,(old b hb).trans (ex05.2.2 b hb hb2).2⟩⟩
   have x6:Stg h1 h6 q5 s5 nd5 lb L5:=x.ex ⟨o6,x5.x.rt,x5.x.rl,x5.x.lim⟩ ex06
   have:=RS.take_snoc he
   refine ⟨W.length - (k + 1),by omega,k + 1,q5,s5,nd5,L5,M',cs ++ [c],by omega,rfl,rfl,rfl,rfl,by rw [wrap_i64' (by omega) (by omega)]; rfl,x6,er5.trans hst,ex06,this ▸ ra6,fun b hb=>?_⟩
   rcases own6 b hb with z | z | z
   ·exact ho5 b z
   ·exact z ▸ hro
   ·exact x5.x.o.g.st.fr z
  ·obtain rfl:k=W.length:=by omega
   have hemp:L4.rows=[]:=by rw [er4]; unfold stays; split <;> simp
   refine ⟨fr,cl x4 4 _ rfl,lpop x4.x.o (fun _=>⟨⟨_,_,_⟩,_,rfl,lnum ⟨_,rfl,Cond_f rfl (llen x4.x.o ⟨_,rfl,Cond_f (by rw [hemp]; rfl) ?_⟩)⟩⟩) fun r c h5 q5 s5 nd5 L5 hr=>by rw [hemp] at hr; simp at hr⟩
   rw [List.take_of_length_le (by rw [comes_len]; exact Nat.le_refl _)] at ra
   have fin:=l2 x4 hemp (rl.ex ex4) ra ho
   rw [wn] at fin
   exact fin
 -- the element's own part
 have key:∀ bs,Bt h1 bs (b.take 40)→f4K2 (ad h.size) (some (ad lb)) wsl bs h3 R:=fun bs zb=>by
  have hb40:(b.take 40).length ≤ 8 * 5:=by rw [List.length_take]; omega
  generalize b.take 40=B at zb hb40
  have all40:∀ {l:List (List Nat)},(∀ r ∈ l,r ∈ W ∨ r=B)→∀ r ∈ l,r.length ≤ 8 * 5:=fun hl r hr=>(hl r hr).elim (hw40 r) fun e=>by rw [e]; exact hb40
  have hL:L.rows=W:=er2
  unfold f4K2
  refine ⟨fr,cl st 4 _ rfl,tpush st (by rw [hL]; exact hw40) (by rw [hL]; omega) (zb.src st) hb40 fun h4 q4 s4 nd4 L4 x4 er4 ex4=>⟨_,rfl,fr,cl x4 4 _ rfl,?_⟩⟩
  rw [hL] at er4
  have hl4:L4.rows.length=W.length + 1:=by rw [er4]; split <;> simp
  refine tpop x4 (fun e=>by rw [e] at hl4; simp at hl4) fun r c h5 q5 s5 nd5 L5 hr x5 ex5 er5 row hc hro=>⟨⟨_,_,_⟩,_,rfl,lnum ⟨_,rfl,Cond_f rfl (lnum ⟨_,rfl,Cond_f rfl ?_⟩)⟩⟩
  rw [hl4] at hr er5
  have hrB:r=B∧L5.rows=W:=by
   rw [er4] at hr er5
   cases fr with
   | true =>
    rw [if_pos rfl,if_pos rfl] at hr er5
    exact ⟨(Option.some.inj hr).symm,er5⟩
   | false =>
    rw [if_neg (by simp),if_neg (by simp)] at hr er5
    rw [Nat.add_sub_cancel,List.getElem?_append_right (Nat.le_refl _),Nat.sub_self] at hr
    refine ⟨(Option.some.inj hr).symm,?_⟩
    rw [er5]; unfold del
    rw [Nat.add_sub_cancel,List.take_left' rfl,List.drop_eq_nil_of_le (by simp),List.append_nil]
  obtain ⟨rfl,hL5⟩:=hrB
  have rl5:=(rl3.ex ex4).ex ex5
  have s5r:=zb.src x5
  refine leq (a:=bs) (c:=⟨some (ad c),r.length,r.length⟩) s5r.rd (row_reads row) s5r.n rfl (by omega) ⟨_,rfl,Cond_f rfl (lholds x5.x.o (hL5 ▸ rl5) fun h6 k6=>⟨_,rfl,?_⟩)⟩
  have x6:=x5.keepN k6
  have rl6:=rl5.keepN k6 fun b hb=>x5.x.o.g.st.fr hb
  unfold f4K3
  have ew:IntKind.wrap .i64 ((((wsl.n:Nat):Int)) + (1:Int))=((W.length + 1:Nat):Int):=by rw [wn,wrap_i64' (by omega) (by omega)]; omega
  refine Cond_f rfl ⟨i,cl x6 1 _ rfl,?_⟩
  rw [ew]
  refine lwithin (by omega) (by omega) hi ⟨_,rfl,?_⟩
  have m1:=Int.emod_nonneg i (b:=((W.length + 1:Nat):Int)) (by omega)
  have m2:=Int.emod_lt_of_pos i (b:=((W.length + 1:Nat):Int)) (by omega)
  obtain ⟨j,hj⟩:=Int.eq_ofNat_of_zero_le m1
  rw [hj] at m2 ⊢
  have hjl:j ≤ W.length:=by omega
  refine tinsert x6 (by rw [hL5]; exact hw40) (by rw [hL5]; omega) (zb.src x6) hb40 (by rw [hL5]; exact hjl) fun h7 q7 s7 nd7 L7 x7 er7 ex7=>⟨_,rfl,?_⟩
  rw [hL5] at er7
  refine tget x7 (r:=r) (by rw [er7]; exact ins_at hjl) fun c2 h8 row2 hc2 k8=>⟨⟨_,_,_⟩,_,rfl,?_⟩
  have x8:=x7.keepN k8
  have hro2:q7.role c2=.out:=x7.x.o.g.st.fr hc2
  refine tcut x8 (i:=j) (m:=1) (by rw [er7,ins_len hjl]; omega) fun h9 q9 s9 nd9 L9 x9 er9 ex9=>⟨_,rfl,lnum ⟨_,rfl,Cond_f rfl (lnum ⟨_,rfl,Cond_f rfl (lnum ⟨_,rfl,Cond_f rfl ?_⟩)⟩)⟩⟩
  rw [er7,ins_cut hjl] at er9
  have row9:Row h9 c2 (r.map bv):=kept_row ex9.kept row2 fun e=>e hro2
  have ex69:Ex h6 q5 h9 q9:=ex7.trans ((Ex.of_kept k8 fun b hb=>x7.x.o.g.st.fr hb).trans ex9)
  have rl9:=rl6.ex ex69
  have s9r:=zb.src x9
  refine leq (a:=bs) (c:=⟨some (ad c2),r.length,r.length⟩) s9r.rd (row_reads row9) s9r.n rfl (by omega) ⟨_,rfl,Cond_f rfl (lholds x9.x.o (er9 ▸ rl9) fun h10 k10=>⟨_,rfl,Cond_f rfl ?_⟩)⟩
  have x10:=x9.keepN k10
  have rl10:=rl9.keepN k10 fun b hb=>x9.x.o.g.st.fr hb
  refine Cond_dec (fun hlt=>?_) fun hge=>l1 x10 er9 rl10
  have hjl:j < W.length:=by omega
  refine tset x10 (by rw [er9]; exact hw40) (by rw [er9]; omega) (zb.src x10) hb40 (i:=j) (by rw [er9]; exact hjl) fun h11 q11 s11 nd11 L11 x11 er11 ex11=>⟨_,rfl,?_⟩
  rw [er9] at er11
  refine tget x11 (r:=r) (by rw [er11]; exact List.getElem?_set_self hjl) fun c3 h12 row3 hc3 k12=>⟨⟨_,_,_⟩,_,rfl,⟨by omega,by omega⟩,?_⟩
  have x12:=x11.keepN k12
  have hro3:q11.role c3=.out:=x11.x.o.g.st.fr hc3
  have ex12:Ex h10 q9 h12 q11:=ex11.trans (Ex.of_kept k12 fun b hb=>x11.x.o.g.st.fr hb)
  have rl12:=rl10.ex ex12
  have hWj:W[j]?=some (W[j]'hjl):=List.getElem?_eq_getElem hjl
  obtain ⟨cc,p,_,hp,hcc,src,_,_,_⟩:=rl12.get hWj
  refine PtrOk_of hp ⟨cc,by rw [Int.toNat_natCast]; exact hcc,?_⟩
  have hwm:W[j]'hjl ∈ W:=List.getElem_mem _
  refine tset x12 (by rw [er11]; exact all40 fun y hy=>List.mem_or_eq_of_mem_set hy) (by rw [er11,List.length_set]; omega) src (hw40 _ hwm) (i:=j) (by rw [er11,List.length_set]; exact hjl) fun h13 q13 s13 nd13 L13 x13 er13 ex13=>⟨_,rfl,lnum ⟨_,rfl,Cond_f rfl (lnum ⟨_,rfl,Cond_f rfl (lnum ⟨_,rfl,Cond_f rfl ?_⟩)⟩)⟩⟩
  rw [er11,List.set_set,List.set_getElem_self] at er13
  have row13:Row h13 c3 (r.map bv):=kept_row ex13.kept row3 fun e=>e hro3
  have rl13:=rl12.ex ex13
  have s13r:=zb.src x13
  refine leq (a:=bs) (c:=⟨some (ad c3),r.length,r.length⟩) s13r.rd (row_reads row13) s13r.n rfl (by omega) ⟨_,rfl,Cond_f rfl (lholds x13.x.o (er13 ▸ rl13) fun h14 k14=>⟨_,rfl,Cond_f rfl ?_⟩)⟩
  exact l1 (x13.keepN k14) er13 (rl13.keepN k14 fun b hb=>x13.x.o.g.st.fr hb)
 unfold f4K1
 have zcap:=z1.cap
 refine Cond_f rfl ⟨a3,cl st 3 _ rfl,Cond_dec (fun hbig=>⟨⟨by omega,by omega⟩,⟨by omega,by omega⟩,?_⟩) fun hsm=>?_⟩
 ·rw [cut0]
  have e:(⟨a3.a,(40:Int).toNat - (0:Int).toNat,a3.c - (0:Int).toNat⟩:Sl)=⟨a3.a,min a3.n 40,a3.c⟩:=by congr 1; show 40 - 0=min a3.n 40; omega
  rw [e]
  exact key _ (z1.take 40)
 ·have e:a3=⟨a3.a,min a3.n 40,a3.c⟩:=by
   have:min a3.n 40=a3.n:=by omega
   rw [this]
  rw [e]
  exact key _ (z1.take 40)
end
end Go.Ev
set_option linter.all false
set_option maxRecDepth 1000000
namespace Go.Ev
open Go.Proofs
/-- Which are taken. -/
def mks (b:List Nat):List (List Nat)→Int→List Bool
 | [],_=>[]
 | r :: t,m=>if 0 < m∧r=b then true :: mks b t (m - 1) else false :: mks b t m
def pk {α:Type}:List α→List Bool→List α
 | x :: l,d :: g=>if d=true then pk l g else x :: pk l g
 | _,_=>[]
def cntT (g:List Bool):Nat:=(g.filter fun x=>x).length
theorem mks_len (b:List Nat):∀ (l:List (List Nat)) (m:Int),(mks b l m).length=l.length
 | [],_=>rfl
 | r :: t,m=>by unfold mks; split <;> simp [mks_len b t]
theorem strk_pk (b:List Nat):∀ (l:List (List Nat)) (m:Int),(strk b l m).1=pk l (mks b l m)∧(strk b l m).2=cntT (mks b l m)
 | [],_=>⟨rfl,rfl⟩
 | r :: t,m=>by
  unfold strk mks
  by_cases h:0 < m∧r=b
  ·rw [if_pos h,if_pos h]
   obtain ⟨h1,h2⟩:=strk_pk b t (m - 1)
   refine ⟨by show _=(if true=true then _ else _); rw [if_pos rfl]; exact h1,by show _ + 1=_; rw [h2]; unfold cntT; simp⟩
  ·rw [if_neg h,if_neg h]
   obtain ⟨h1,h2⟩:=strk_pk b t m
   refine ⟨by show _=(if false=true then _ else _); rw [if_neg (by simp)]; exact congrArg (r :: ·) h1,by show _=_; rw [h2]; unfold cntT; simp⟩
theorem pk_app {α:Type}:∀ (l l2:List α) (g g2:List Bool),l.length=g.length→pk (l ++ l2) (g ++ g2)=pk l g ++ pk l2 g2
 | [],l2,[],g2,_=>rfl
 | x :: l,l2,d :: g,g2,h=>by
  have ih:=pk_app l l2 g g2 (by simpa using h)
  show (if d=true then _ else _)=(if d=true then _ else _) ++ _
  cases d with
  | true=>rw [if_pos rfl,if_pos rfl]; exact ih
  | false=>rw [if_neg (by simp),if_neg (by simp)]; exact congrArg (x :: ·) ih
 | [],_,_ :: _,_,h=>by cases h
 | _ :: _,_,[],_,h=>by cases h
theorem pk_one {α:Type} (x:α) (d:Bool):pk [x] [d]=if d=true then [] else [x]:=by
 show (if d=true then _ else _)=_
 cases d <;> rfl
theorem pk_rev {α:Type}:∀ (l:List α) (g:List Bool),l.length=g.length→pk l.reverse g.reverse=(pk l g).reverse
 | [],[],_=>rfl
 | x :: l,d :: g,h=>by
  have ih:=pk_rev l g (by simpa using h)
  rw [List.reverse_cons,List.reverse_cons,pk_app _ _ _ _ (by simpa using h),ih,pk_one]
  show _=(if d=true then pk l g else x :: pk l g).reverse
  cases d with
  | true=>rw [if_pos rfl,if_pos rfl,List.append_nil]
  | false=>rw [if_neg (by simp),if_neg (by simp),List.reverse_cons]
 | [],_ :: _,h=>by cases h
 | _ :: _,[],h=>by cases h
theorem pk_get {α β:Type}:∀ (l:List α) (m:List β) (g:List Bool) (i:Nat) (x:α) (y:β),l.length=m.length→(pk l g)[i]?=some x→(pk m g)[i]?=some y→∃ j:Nat,l[j]?=some x∧m[j]?=some y
 | [],[],_,i,x,y,_,hx,_=>by simp [pk] at hx
 | a :: l,c :: m,[],i,x,y,_,hx,_=>by simp [pk] at hx
 | a :: l,c :: m,d :: g,i,x,y,h,hx,hy=>by
  have h:l.length=m.length:=by simpa using h
  have e1:pk (a :: l) (d :: g)=if d=true then pk l g else a :: pk l g:=rfl
  have e2:pk (c :: m) (d :: g)=if d=true then pk m g else c :: pk m g:=rfl
  rw [e1] at hx
  rw [e2] at hy
  cases d with
  | true =>
   rw [if_pos rfl] at hx hy
   obtain ⟨j,h1,h2⟩:=pk_get l m g i x y h hx hy
   exact ⟨j + 1,by simpa using h1,by simpa using h2⟩
  | false =>
   rw [if_neg (by simp)] at hx hy
   cases i with
   | zero=>exact ⟨0,by simpa using hx,by simpa using hy⟩
   | succ i =>
    obtain ⟨j,h1,h2⟩:=pk_get l m g i x y h (by simpa using hx) (by simpa using hy)
    exact ⟨j + 1,by simpa using h1,by simpa using h2⟩
theorem pk_len {α β:Type}:∀ (l:List α) (m:List β) (g:List Bool),l.length=m.length→(pk l g).length=(pk m g).length
 | [],[],_,_=>by simp [pk]
 | a :: l,c :: m,[],_=>by simp [pk]
 | a :: l,c :: m,d :: g,h=>by
  have ih:=pk_len l m g (by simpa using h)
  show (if d=true then _ else _:List α).length=(if d=true then _ else _:List β).length
  cases d with
  | true=>rw [if_pos rfl,if_pos rfl]; exact ih
  | false=>rw [if_neg (by simp),if_neg (by simp)]; simp [ih]
 | [],_ :: _,_,h=>by cases h
 | _ :: _,[],_,h=>by cases h
theorem pk_le {α:Type}:∀ (l:List α) (g:List Bool),(pk l g).length ≤ l.length
 | [],g=>by cases g <;> simp [pk]
 | a :: l,[]=>by simp [pk]
 | a :: l,d :: g=>by
  have ih:=pk_le l g
  show (if d=true then _ else _:List α).length ≤ _
  cases d with
  | true=>rw [if_pos rfl]; simp; omega
  | false=>rw [if_neg (by simp)]; simp; omega
section
variable {h h' h2 h0 h1:Hp} {q q' q2:HQ} {s s' s2:RS} {nd nd' nd2:List NodeD} {n:NodeD} {id lb hn:Nat} {L L' L2:LD} {R:Value→Hp→Prop} {b:List Nat} {ids:List Nat} {lim:Nat} {a:Sl} {sls:List Sl} {rows w:List (List Nat)} {M:Mem} {cs:List Nat} {r:List Nat} {c:Nat}
theorem SlsIn.rl2 {w:Sl} {l:List Sl} (x:SlsIn h0 h M w l) (fr:∀ b,h0.size ≤ b→q.role b=.out) (hl:l.length=rows.length) (he:∀ (i:Nat) (c:Sl) (r:List Nat),l[i]?=some c→rows[i]?=some r→Src h q c r∧c.n ≤ c.c∧r.length < 140737488355328):RL h q w l rows:=by
 refine ⟨slAt_reads (x.sl.slAt x.sep),x.len,hl,he,fun p hp hn=>?_⟩
 obtain ⟨b,hb,ha⟩:=x.sl.some_of (fun e=>hn (List.map_eq_nil_iff.1 e))
 rw [hp] at ha
 obtain rfl:p=ad b:=Option.some.inj ha
 exact ⟨fr b (x.own b ⟨0,hb⟩),x.sep.lt hb⟩
theorem SlsIn.cap {w:Sl} {l:List Sl} (x:SlsIn h0 h M w l):w.n ≤ w.c:=by
 cases hl:M.loc 0 with
 | none=>have:=x.sl.nil hl; omega
 | some b=>exact (x.sl.row b hl).2.1
theorem RL.keepNew (x:RL h q a sls rows) {S:Nat→Prop} (k:Kept S h2 h') (hk:Kept N h h2) (hS:∀ b,S b→h.size ≤ b) (fr:∀ b,h.size ≤ b→q.role b=.out):RL h' q a sls rows :=
 x.ex ⟨rfl,Nat.le_trans hk.1 k.1,fun b hb ho=>⟨ho,(k.2 b (Nat.lt_of_lt_of_le hb hk.1) fun z=>by have:=hS b z; omega).trans (hk.2 b hb _root_.id)⟩⟩
def goneL (fr:Bool) (n:Nat) (dn:List Bool):List Bool:=if fr=true then dn ++ List.replicate (n - dn.length) false else List.replicate (n - dn.length) false ++ dn.reverse
theorem goneL_len {fr:Bool} {n:Nat} {dn:List Bool} (h:dn.length ≤ n):(goneL fr n dn).length=n:=by unfold goneL; split <;> simp <;> omega
theorem goneL_false {fr:Bool} {n:Nat} {dn:List Bool} (h:dn.length < n):goneL fr n (dn ++ [false])=goneL fr n dn:=by
 unfold goneL
 have e:n - dn.length=(n - (dn.length + 1)) + 1:=by omega
 cases fr with
 | true=>rw [if_pos rfl,if_pos rfl,List.length_append,e,List.replicate_succ,List.append_assoc]; rfl
 | false=>rw [if_neg (by simp),if_neg (by simp),List.length_append,e,List.replicate_succ',List.reverse_append,List.append_assoc]; rfl
theorem goneL_true {fr:Bool} {n:Nat} {dn:List Bool} (h:dn.length < n):goneL fr n (dn ++ [true])=(goneL fr n dn).set (if fr=true then dn.length else n - 1 - dn.length) true:=by
 unfold goneL
 have e:n - dn.length=(n - (dn.length + 1)) + 1:=by omega
 cases fr with
 | true =>
  rw [if_pos rfl,if_pos rfl,if_pos rfl,List.length_append,e,List.replicate_succ,List.set_append_right _ _ (Nat.le_refl _),Nat.sub_self,List.append_assoc]; rfl
 | false =>
  rw [if_neg (by simp),if_neg (by simp),if_neg (by simp),List.length_append,e,List.replicate_succ',List.reverse_append,List.append_assoc,List.set_append_right _ _ (by simp; omega)]
  rw [show n - 1 - dn.length - (List.replicate (n - (dn.length + 1)) false).length=0 by simp; omega]
  rfl
def restJ (h1:Hp) (gb:Nat) (rows:List (List Nat)) (a:Sl) (fw:Bool) (m0:Int) (c:Sl) (b:List Nat) (p:Nat) (s0:Sl) (s1:Bool) (s2:Int) (s3 s10:Sl) (s11 s12:Int) (h2:Hp):Prop :=
 ∃ (dn:List Bool),dn.length ≤ rows.length∧p=rows.length - dn.length∧⟨a.a,rows.length,a.c⟩=s0∧fw=s1∧m0=s2∧c=s3∧⟨some (ad gb),rows.length,rows.length⟩=s10∧s11=((cntT dn:Nat):Int)∧s12=(dn.length:Int) ∧
   Row h2 gb ((goneL fw rows.length dn).map Value.bool)∧Kept (fun b=>b=gb) h1 h2∧mks b (comes fw rows) m0=dn ++ mks b ((comes fw rows).drop dn.length) (m0 - cntT dn)
theorem lrest {c:Sl} (y:RL h q a sls rows) (hlen:rows.length ≤ 100000) (z:Src h q c b) (fr:∀ b,h.size ≤ b→q.role b=.out) {fw:Bool} {m0:Int} (hm:-9223372036854775808 ≤ m0∧m0 < 9223372036854775808)
  (hR:∀ h' w' sls',w'.n ≤ w'.c→RL h' q w' sls' (if fw=true then (strk b rows m0).1 else (strk b rows.reverse m0).1.reverse)→Kept N h h' →
   R (.tuple #[.slice w'.a w'.n w'.c,.int .i64 ((if fw=true then (strk b rows m0).2 else (strk b rows.reverse m0).2:Nat):Int)]) h') :
  CallTo Try.prog 25 #[.slice a.a a.n a.c,.bool fw,.int .i64 m0,.slice c.a c.n c.c] h R:=by
 have yn:=y.n
 have yl:=y.len
 have an:a.n=rows.length:=by omega
 refine f25F_ok ?_
 unfold f25F
 rw [an]
 refine ⟨⟨by omega,by omega⟩,by omega,by omega,Let_mk fun h1 e1=>?_⟩
 rw [Int.toNat_natCast] at e1 ⊢
 have k1:Kept N h h1:=e1 ▸ kept_push _ _ _
 have row1:Row h1 h.size (List.replicate rows.length (.bool false)):=by
  have e2:=e1
  rw [zrow_one] at e2
  exact e2 ▸ row_new h (List.replicate rows.length (.bool false)).toArray 4
 have enb:nb h=ad h.size:=rfl
 rw [enb]
 have cl:=comes_len (fr:=fw) (w:=rows)
 have rb8:∀ (i:Nat) (r:List Nat),rows[i]?=some r→Bytes8 r:=fun i r hr=>by obtain ⟨_,_,_,_,_,src,_⟩:=y.get hr; exact src.b8
 -- what is not gone
 have l2:∀ h2,Row h2 h.size ((goneL fw rows.length (mks b (comes fw rows) m0)).map Value.bool)→Kept (fun b=>b=h.size) h1 h2 →
   LoopEv (evC Try.prog tab lv25 (sub [1,1,1,1,1,0,1,0,0] body25)) (contAt Try.prog tab lv25 [1,1,1,1,1,0,1,0] body25 [] (bodyK Try.prog Try.f25 [] R))
   [(0,.slice a.a rows.length a.c),(10,.slice (some (ad h.size)) rows.length rows.length),(11,.int .i64 ((cntT (mks b (comes fw rows) m0):Nat):Int)),(14,.slice none 0 0),(15,.int .i64 0)] 71 h2:=fun h2 row2 k2=>by
  have ml:=mks_len b (comes fw rows) m0
  have gl:=goneL_len (fr:=fw) (n:=rows.length) (dn:=mks b (comes fw rows) m0) (by omega)
  generalize hg:goneL fw rows.length (mks b (comes fw rows) m0)=gc at row2 gl
  have hgt:h.size < h2.size:=row_lt row2
  have y2:RL h2 q a sls rows:=y.keepNew k2 k1 (fun b e=>by omega) fr
  have fr2:∀ b,h2.size ≤ b→q.role b=.out:=fun b hb=>fr b (by omega)
  have kh2:Kept N h h2:=⟨Nat.le_trans k1.1 k2.1,fun j hj _=>(k2.2 j (Nat.lt_of_lt_of_le hj k1.1) (by omega)).trans (k1.2 j hj _root_.id)⟩
  refine f25L2_rule (s0:=⟨a.a,rows.length,a.c⟩) (s10:=⟨some (ad h.size),rows.length,rows.length⟩) (s14:=⟨none,0,0⟩) (fun p s0 s10 s11 s14 s15 h3=>∃ (k:Nat) (M:Mem),k ≤ rows.length∧p=rows.length - k∧⟨a.a,rows.length,a.c⟩=s0∧⟨some (ad h.size),rows.length,rows.length⟩=s10∧s11=((cntT (mks b (comes fw rows) m0):Nat):Int)∧s15=(k:Int)∧SlsIn h2 h3 M s14 (pk (sls.take k) (gc.take k))) rows.length
   ⟨0,_,Nat.zero_le _,rfl,rfl,rfl,rfl,rfl,SlsIn.nil h2⟩ ?_
  rintro p s0 s10 s11 s14 s15 g h3 ⟨k,M,hk,rfl,rfl,rfl,rfl,rfl,sx⟩
  unfold f25L2
  have y3:=y2.keepN sx.k fr2
  have row3:=kept_row sx.k row2 _root_.id
  refine Cond_dec (fun hlt=>?_) fun hge=>?_
  ·have hlt:k < rows.length:=by have:(k:Int) < ((rows.length:Nat):Int):=hlt; omega
   have hgk:gc[k]?=some (gc[k]'(by omega)):=List.getElem?_eq_getElem _
   obtain ⟨cc,pa,hcs,hp,hc2,_,_,_,_⟩:=y3.get (List.getElem?_eq_getElem hlt)
   have tk:(sls.take k).length=(gc.take k).length:=by rw [List.length_take,List.length_take]; omega
   have e1:∀ d,gc[k]?=some d→pk (sls.take (k + 1)) (gc.take (k + 1))=pk (sls.take k) (gc.take k) ++ (if d=true then [] else [cc]):=fun d hd=>by
    rw [RS.take_snoc hcs,RS.take_snoc hd,pk_app _ _ _ _ tk,pk_one]
   have ll:(pk (sls.take k) (gc.take k)).length ≤ 100000000:=by
    have h1:=pk_le (sls.take k) (gc.take k)
    rw [List.length_take] at h1; omega
   refine ⟨⟨by omega,by show (k:Int) < ((rows.length:Nat):Int); omega⟩,PtrOk_mk ⟨gc[k]'(by omega),?_,Cond_b (fun hd=>?_) fun hd=>?_⟩⟩
   ·rw [Int.toNat_natCast,Nat.mul_one,add_ad,cell_row row3,List.getElem?_map,hgk]; rfl
   ·have hd:gc[k]'(by omega)=false:=by simpa using hd
    refine ⟨⟨by omega,by show (k:Int) < ((rows.length:Nat):Int); omega⟩,PtrOk_of hp ⟨cc,by rw [Int.toNat_natCast]; exact hc2,sx.add (c:=cc) ll fun a' c' h4 M' sx4=>?_⟩⟩
    unfold f25K4
    refine ⟨rows.length - (k + 1),by omega,k + 1,M',by omega,rfl,rfl,rfl,rfl,by rw [wrap_i64' (by omega) (by omega)]; rfl,?_⟩
    rw [e1 _ hgk,hd,if_neg (by simp)]
    exact sx4
   ·have hd:gc[k]'(by omega)=true:=by simpa using hd
    unfold f25K4
    refine ⟨rows.length - (k + 1),by omega,k + 1,M,by omega,rfl,rfl,rfl,rfl,by rw [wrap_i64' (by omega) (by omega)]; rfl,?_⟩
    rw [e1 _ hgk,hd,if_pos rfl,List.append_nil]
    exact sx
  ·have hk:k=rows.length:=by have:¬ (k:Int) < ((rows.length:Nat):Int):=hge; omega
   subst hk
   rw [List.take_of_length_le (by omega),List.take_of_length_le (by omega)] at sx
   have e1:pk rows gc=(if fw=true then (strk b rows m0).1 else (strk b rows.reverse m0).1.reverse)∧cntT (mks b (comes fw rows) m0)=(if fw=true then (strk b rows m0).2 else (strk b rows.reverse m0).2):=by
    unfold comes at hg ⊢
    cases fw with
    | true =>
     rw [if_pos rfl] at hg ⊢
     rw [if_pos rfl,if_pos rfl]
     obtain ⟨q1,q2⟩:=strk_pk b rows m0
     refine ⟨?_,q2.symm⟩
     rw [q1,← hg]; unfold goneL
     rw [if_pos rfl,mks_len,Nat.sub_self,List.replicate_zero,List.append_nil]
    | false =>
     rw [if_neg (by simp)] at hg ⊢
     rw [if_neg (by simp),if_neg (by simp)]
     obtain ⟨q1,q2⟩:=strk_pk b rows.reverse m0
     refine ⟨?_,q2.symm⟩
     rw [q1,← hg]; unfold goneL
     rw [if_neg (by simp),mks_len,List.length_reverse,Nat.sub_self,List.replicate_zero,List.nil_append]
     have:=pk_rev rows (mks b rows.reverse m0).reverse (by rw [List.length_reverse,mks_len,List.length_reverse])
     rw [List.reverse_reverse] at this
     rw [this,List.reverse_reverse]
   have rb:RL h3 q s14 (pk sls gc) (pk rows gc):=sx.rl2 fr2 (pk_len sls rows gc yl) fun i cc r hc hr=>by
    obtain ⟨j,q1,q2⟩:=pk_get sls rows gc i cc r yl hc hr
    exact y3.each j cc r q1 q2
   have:=hR h3 s14 (pk sls gc) sx.cap (e1.1 ▸ rb) (kept_tr kh2 sx.k)
   rw [← e1.2] at this
   exact this
 refine f25L1_rule (s0:=⟨a.a,rows.length,a.c⟩) (s3:=c) (s10:=⟨some (ad h.size),rows.length,rows.length⟩) (restJ h1 h.size rows a fw m0 c b) rows.length
  ⟨[],Nat.zero_le _,rfl,rfl,rfl,rfl,rfl,rfl,rfl,rfl,by unfold goneL; split <;> simpa using row1,Kept.refl _ _,by simp [cntT]⟩ ?_
 rintro p s0 s1 s2 s3 s10 s11 s12 g h2 ⟨dn,hdl,rfl,rfl,rfl,rfl,rfl,rfl,rfl,rfl,row2,k2,hmk⟩
 unfold f25L1
 have hgt:h.size < h2.size:=row_lt row2
 have y2:RL h2 q a sls rows:=y.keepNew k2 k1 (fun b e=>by omega) fr
 have z2:Src h2 q c b:=z.ex ⟨rfl,Nat.le_trans k1.1 k2.1,fun b hb ho=>⟨ho,(k2.2 b (Nat.lt_of_lt_of_le hb k1.1) (by omega)).trans (k1.2 b hb _root_.id)⟩⟩
 have ct:cntT dn ≤ dn.length:=List.length_filter_le _ _
 refine Cond_dec (fun hlt=>?_) fun hge=>?_
 ·have hlt:dn.length < rows.length:=by have:(dn.length:Int) < ((rows.length:Nat):Int):=hlt; omega
  have hcd:(comes fw rows)[dn.length]?=some ((comes fw rows)[dn.length]'(by omega)):=List.getElem?_eq_getElem _
  generalize (comes fw rows)[dn.length]'(by omega)=r at hcd
  have hdrop:(comes fw rows).drop dn.length=r :: (comes fw rows).drop (dn.length + 1):=by
   obtain ⟨h1,h2⟩:=List.getElem?_eq_some_iff.1 hcd
   rw [List.drop_eq_getElem_cons h1,h2]
  -- the place
  obtain ⟨idx,hidx,hrow,hil⟩:∃ idx,idx=(if fw=true then dn.length else rows.length - 1 - dn.length)∧rows[idx]?=some r∧idx < rows.length:=by
   refine ⟨_,rfl,?_,by split <;> omega⟩
   unfold comes at hcd
   cases fw with
   | true=>exact hcd
   | false =>
    rw [if_neg (by simp)] at hcd ⊢
    rw [List.getElem?_reverse (by omega)] at hcd
    exact hcd
  have k3:∀ (d:Bool) h3,mks b (r :: (comes fw rows).drop (dn.length + 1)) (m0 - cntT dn)=d :: mks b ((comes fw rows).drop (dn.length + 1)) (m0 - cntT (dn ++ [d]))→Row h3 h.size ((goneL fw rows.length (dn ++ [d])).map Value.bool)→Kept (fun b=>b=h.size) h1 h3 →
    f25K3 (restJ h1 h.size rows a fw m0 c b) (rows.length - dn.length) ⟨a.a,rows.length,a.c⟩ fw m0 c ⟨some (ad h.size),rows.length,rows.length⟩ ((cntT (dn ++ [d]):Nat):Int) (dn.length:Int) h3 R:=fun d h3 he row3 kk=>by
   unfold f25K3
   refine ⟨rows.length - (dn.length + 1),by omega,dn ++ [d],by simp; omega,by simp,rfl,rfl,rfl,rfl,rfl,rfl,by rw [wrap_i64' (by omega) (by omega),List.length_append]; rfl,row3,kk,?_⟩
   rw [hmk,hdrop,he,List.length_append,List.append_assoc]
   rfl
  have cf:cntT (dn ++ [false])=cntT dn:=by unfold cntT; simp
  have ctr:cntT (dn ++ [true])=cntT dn + 1:=by unfold cntT; simp
  have key:f25K1 (restJ h1 h.size rows a fw m0 c b) (rows.length - dn.length) ⟨a.a,rows.length,a.c⟩ fw m0 c ⟨some (ad h.size),rows.length,rows.length⟩ ((cntT dn:Nat):Int) (dn.length:Int) (idx:Int) h2 R:=by
   unfold f25K1
   refine Cond_dec (fun hcm=>?_) fun hcm=>?_
   ·obtain ⟨cc,pa,_,hp,hc2,src,_,_,_⟩:=y2.get hrow
    refine ⟨⟨by omega,by show (idx:Int) < ((rows.length:Nat):Int); omega⟩,PtrOk_of hp ⟨cc,by rw [Int.toNat_natCast]; exact hc2,_,spells_of src.rd src.n src.b8,_,spells_of z2.rd z2.n z2.b8,?_⟩⟩
    rw [ofL_eq src.b8 z2.b8]
    unfold f25K2
    refine Cond_dec (fun heq=>⟨⟨by omega,by show (idx:Int) < ((rows.length:Nat):Int); omega⟩,PtrOk_mk ?_⟩) fun hne=>?_
    ·rw [Int.toNat_natCast,Nat.mul_one]
     refine row_st row2 (i:=idx) (add_ad _ _) (by rw [List.length_map,goneL_len hdl]; exact hil) fun h3 row3 k33=>?_
     have e:IntKind.wrap .i64 (((cntT dn:Nat):Int) + 1)=((cntT (dn ++ [true]):Nat):Int):=by rw [wrap_i64' (by omega) (by omega),ctr]; omega
     rw [e]
     refine k3 true h3 ?_ ?_ (k2.trans k33)
     ·conv=>lhs; unfold mks
      rw [if_pos (c:=0 < m0 - ((cntT dn:Nat):Int)∧r=b) ⟨by omega,heq⟩,ctr,show m0 - ((cntT dn:Nat):Int) - 1=m0 - ((cntT dn + 1:Nat):Int) by omega]
     ·rw [goneL_true hlt,List.map_set,← hidx]; exact row3
    ·have:=k3 false h2 (by (conv=>lhs; unfold mks); rw [if_neg fun z=>hne z.2,cf]) (by rw [goneL_false hlt]; exact row2) k2
     rw [cf] at this
     exact this
   ·unfold f25K2
    have:=k3 false h2 (by (conv=>lhs; unfold mks); rw [if_neg fun z=>hcm (by omega),cf]) (by rw [goneL_false hlt]; exact row2) k2
    rw [cf] at this
    exact Cond_f rfl this
  cases fw with
  | true =>
   rw [if_pos rfl] at hidx
   rw [hidx] at key
   exact Cond_f rfl key
  | false =>
   rw [if_neg (by simp)] at hidx
   have e:IntKind.wrap .i64 (IntKind.wrap .i64 ((((rows.length:Nat):Int)) - (1:Int)) - (dn.length:Int))=(idx:Int):=by
    rw [wrap_i64' (x:=((rows.length:Nat):Int) - 1) (by omega) (by omega),wrap_i64' (by omega) (by omega)]; omega
   refine Cond_t rfl ?_
   show f25K1 _ _ _ _ _ _ _ _ _ (IntKind.wrap .i64 (IntKind.wrap .i64 ((((rows.length:Nat):Int)) - (1:Int)) - (dn.length:Int))) _ _
   rw [e]
   exact key
 ·have hd:dn.length=rows.length:=by have:¬ (dn.length:Int) < ((rows.length:Nat):Int):=hge; omega
  have hdn:mks b (comes fw rows) m0=dn:=by
   rw [hmk,List.drop_eq_nil_of_le (by omega)]; exact List.append_nil _
  have:=l2 h2 (by rw [hdn]; exact row2) k2
  rw [hdn] at this
  exact this
end
end Go.Ev
set_option linter.all false
set_option maxRecDepth 1000000
namespace Go.Ev
open Go.Proofs
section
variable {h h' h2 h0 h1:Hp} {q q' q2:HQ} {s s' s2:RS} {nd nd' nd2:List NodeD} {n:NodeD} {id lb hn:Nat} {L L' L2:LD} {R:Value→Hp→Prop} {b:List Nat} {ids:List Nat} {lim:Nat} {a:Sl} {sls:List Sl} {rows w:List (List Nat)} {M:Mem} {cs:List Nat} {r:List Nat} {c:Nat}
theorem reads_drop {a:Option Addr} {vs:List Value} {c j:Nat} (rd:ReadsO h a vs) (hj:j ≤ vs.length) (hc:vs.length ≤ c):ReadsO h (if c=j then a else Option.map (fun x=>x.add (j * 1)) a) (vs.drop j):=by
 cases a with
 | none =>
  have e:vs=[]:=rd
  subst e
  split <;> simp [ReadsO]
 | some p =>
  split
  ·have:vs.drop j=[]:=List.drop_eq_nil_of_le (by omega)
   rw [this]
   exact fun i v hv=>by cases hv
  ·intro i v hv
   rw [List.getElem?_drop] at hv
   have:=rd (j + i) v hv
   rw [Nat.mul_one,add_add]
   exact this
theorem SlsIn.addn {M:Mem} {w:Sl} {l l2:List Sl} {bs:Option Addr} {m:Nat} (x:SlsIn h0 h M w l) (rd:ReadsO h bs (l2.map slV)) (hm:m=l2.length) (hl:l.length + l2.length ≤ 100000000) {e:TypeId} {K:Option Addr→Nat→Nat→Hp→Prop}
  (hK:∀ a' c' h2 M',SlsIn h0 h2 M' ⟨a',w.n + m,c'⟩ (l ++ l2)→K a' (w.n + m) c' h2) :
  appSl e 1 24 #[.slice none 0 0] w.a w.n w.c bs m h K:=by
 have hwn:=x.len
 subst hm
 refine ⟨l2.map slV,rd,by rw [List.length_map,Nat.mul_one],x.sl.app x.sep rfl (by rw [List.length_map,Nat.mul_one]) (fun v hv=>by obtain ⟨z,_,rfl⟩:=List.mem_map.1 hv; rfl) (by omega) (by omega) fun a' c' h2 ob cc p2 sl2 ch2=>?_⟩
 refine hK a' c' h2 (M.upd 0 ob cc) ⟨p2,by rw [List.map_append]; exact sl2,fun b hb=>(ch2.2 b hb).elim (x.own b) fun z=>Nat.le_trans x.k.1 z,Nat.le_trans x.k.1 ch2.1.1,fun i hi _=>?_⟩
 exact (ch2.1.2 i (Nat.lt_of_lt_of_le hi x.k.1) fun ho=>by have:=x.own i ho; omega).trans (x.k.2 i hi _root_.id)
theorem strk_len (b:List Nat):∀ (l:List (List Nat)) (m:Int),(strk b l m).1.length ≤ l.length
 | [],_=>Nat.le_refl _
 | r :: t,m=>by
  unfold strk
  split
  ·have:=strk_len b t (m - 1); simp; omega
  ·have:=strk_len b t m; simp; omega
theorem strikes_ok {a0 a3:Sl} {i m:Int} {fr:Bool} (y:RL0 h a0 sls rows) (z:Bt h a3 b) (hi:-9223372036854775808 ≤ i∧i < 9223372036854775808) (hm:-9223372036854775808 ≤ m∧m < 9223372036854775808) (hR:∀ h',Kept N h h'→R (.bool true) h') :
  CallTo Try.prog 5 #[.agg #[.slice a0.a a0.n a0.c,.int .i64 i,.int .i64 m,.slice a3.a a3.n a3.c,.bool fr]] h R:=by
 refine f5F_ok ?_
 unfold f5F
 refine Let_mk fun h1 e1=>?_
 have k1:Kept N h h1:=e1 ▸ kept_push _ _ _
 have row1:Row h1 h.size [.slice a0.a a0.n a0.c,.int .i64 i,.int .i64 m,.slice a3.a a3.n a3.c,.bool fr]:=e1 ▸ row_new h #[.slice a0.a a0.n a0.c,.int .i64 i,.int .i64 m,.slice a3.a a3.n a3.c,.bool fr] _
 have enb:nb h=ad h.size:=rfl
 rw [enb]
 have y1:=y.keepN k1
 have z1:=z.keepN k1
 refine ⟨a0,cell_row row1 0,lmake1 y1 fun h2 q s nd lb L wsl sls' x2 er2 rl2 k2 f2=>⟨_,_,⟨_,_,_⟩,rfl,Cond_f rfl ?_⟩⟩
 have st:Stg h1 h2 q s nd lb L:=⟨x2,k2,f2⟩
 clear x2 k2 f2
 have hwl:(cutR rows).length ≤ 300:=by rw [cutR_len]; omega
 generalize hW:cutR rows=W at *
 have cl:∀ {g:Hp} {q' s' nd' L'},Stg h1 g q' s' nd' lb L'→∀ (k:Nat) (v:Value),[Value.slice a0.a a0.n a0.c,.int .i64 i,.int .i64 m,.slice a3.a a3.n a3.c,.bool fr][k]?=some v→cell g ((ad h.size).add k)=some v:=fun {g q' s' nd' L'} x k v hv=>by
  rw [add_ad]; exact (cell_row (kept_row x.k row1 _root_.id) k).trans hv
 refine ⟨fr,cl st 4 _ rfl,m,cl st 2 _ rfl,a3,cl st 3 _ rfl,lrest rl2 (by omega) (z1.src st) (fun b hb=>st.x.o.g.st.fr hb) hm fun h3 w' sls3 wcap rl3 k3=>⟨w',_,rfl,?_⟩⟩
 have st3:=st.keepN k3
 have rl3':RL h3 q w' sls3 (if fr=true then (strk b W m).1 else (strk b W.reverse m).1.reverse):=rl3
 refine ⟨fr,cl st3 4 _ rfl,m,cl st3 2 _ rfl,a3,cl st3 3 _ rfl,lstrike st3.x.o hm (z1.src st3) fun h4 q4 s4 nd4 L4 a4 _ er4=>⟨_,_,rfl,lnum ⟨_,rfl,Cond_f rfl ?_⟩⟩⟩
 have st4:=st3.aft a4
 rw [er2] at er4 ⊢
 refine Cond_f (bne_self_eq_false _) ?_
 have hVl:(if fr=true then (strk b W m).1 else (strk b W.reverse m).1.reverse).length ≤ 300:=by
  split
  ·have:=strk_len b W m; omega
  ·rw [List.length_reverse]; have:=strk_len b W.reverse m; rw [List.length_reverse] at this; omega
 generalize (if fr=true then (strk b W m).1 else (strk b W.reverse m).1.reverse)=V at er4 rl3' hVl
 have rl4:=rl3'.ex a4.ex
 have wn:w'.n=V.length:=by rw [rl4.n,rl4.len]
 have sn:sls3.length=V.length:=rl4.len
 refine lholds st4.x.o (er4 ▸ rl4) fun h5 k5=>⟨_,rfl,?_⟩
 have st5:=st4.keepN k5
 have rl5:=rl4.keepN k5 fun b hb=>st4.x.o.g.st.fr hb
 unfold f5K1
 have ew:IntKind.wrap .i64 ((((w'.n:Nat):Int)) + (1:Int))=((V.length + 1:Nat):Int):=by rw [wn,wrap_i64' (by omega) (by omega)]; omega
 refine Cond_f rfl ⟨i,cl st5 1 _ rfl,?_⟩
 rw [ew]
 refine lwithin (by omega) (by omega) hi ⟨_,rfl,m,cl st5 2 _ rfl,?_⟩
 have m1:=Int.emod_nonneg i (b:=((V.length + 1:Nat):Int)) (by omega)
 have m2:=Int.emod_lt_of_pos i (b:=((V.length + 1:Nat):Int)) (by omega)
 obtain ⟨j,hj⟩:=Int.eq_ofNat_of_zero_le m1
 rw [hj] at m2 ⊢
 have hjl:j ≤ V.length:=by omega
 have ew2:IntKind.wrap .i64 (IntKind.wrap .i64 ((((w'.n:Nat):Int)) - ((j:Nat):Int)) + (1:Int))=((V.length - j + 1:Nat):Int):=by
  rw [wn,wrap_i64' (x:=((V.length:Nat):Int) - (j:Int)) (by omega) (by omega),wrap_i64' (by omega) (by omega)]; omega
 rw [ew2]
 refine lwithin (by omega) (by omega) hm ⟨_,rfl,?_⟩
 have m3:=Int.emod_nonneg m (b:=((V.length - j + 1:Nat):Int)) (by omega)
 have m4:=Int.emod_lt_of_pos m (b:=((V.length - j + 1:Nat):Int)) (by omega)
 obtain ⟨u,hu⟩:=Int.eq_ofNat_of_zero_le m3
 rw [hu] at m4 ⊢
 have hul:j + u ≤ V.length:=by omega
 refine tcut st5 (i:=j) (m:=u) (by rw [er4]; exact hul) fun h6 q6 s6 nd6 L6 st6 er6 ex6=>⟨_,rfl,?_⟩
 rw [er4] at er6
 have rl6:=rl5.ex ex6
 have eju:IntKind.wrap .i64 (((j:Nat):Int) + ((u:Nat):Int))=((j + u:Nat):Int):=by rw [wrap_i64' (by omega) (by omega)]; omega
 rw [eju,Int.toNat_natCast,Int.toNat_natCast,cut0]
 refine ⟨⟨by omega,by omega⟩,⟨by omega,by omega⟩,?_⟩
 have z0:(0:Int).toNat=0:=rfl
 rw [z0,Nat.sub_zero]
 have rdv:=rl6.rd
 have sv:(sls3.map slV).length=V.length:=by rw [List.length_map,sn]
 refine (SlsIn.nil h6).addn (l2:=sls3.take j) (by rw [List.map_take]; exact reads_take rdv j) (by rw [List.length_take]; omega) (by simp; omega) fun a7 c7 h7 M7 sx7=>⟨⟨by omega,by omega⟩,?_⟩
 rw [wn]
 have rd7:ReadsO h7 w'.a (sls3.map slV):=reads_keptN sx7.k rdv
 refine sx7.addn (l2:=sls3.drop (j + u)) (by rw [List.map_drop]; exact reads_drop rd7 (by omega) (by omega)) (by rw [List.length_drop]; omega) (by simp; omega) fun a8 c8 h8 M8 sx8=>?_
 rw [List.nil_append] at sx8
 have st8:=st6.keepN sx8.k
 have rl68:=rl6.keepN sx8.k fun b hb=>st6.x.o.g.st.fr hb
 have hCl:(V.take j ++ V.drop (j + u)).length ≤ 300:=by simp; omega
 have rb:RL h8 q6 ⟨a8,0 + j + (V.length - (j + u)),c8⟩ (sls3.take j ++ sls3.drop (j + u)) (V.take j ++ V.drop (j + u)):=sx8.rl st6.x.o.g (by simp [sn]) fun t cc r hc hr=>by
  by_cases ht:t < j
  ·rw [List.getElem?_append_left (by rw [List.length_take]; omega),List.getElem?_take_of_lt ht] at hc hr
   exact rl68.each t cc r hc hr
  ·rw [List.getElem?_append_right (by rw [List.length_take]; omega),List.getElem?_drop,List.length_take] at hc hr
   rw [sn,Nat.min_eq_left hjl] at hc
   rw [Nat.min_eq_left hjl] at hr
   exact rl68.each _ cc r hc hr
 have bcap:0 + j + (V.length - (j + u)) ≤ c8:=sx8.cap
 generalize hC:V.take j ++ V.drop (j + u)=C at er6 rb hCl
 generalize sls3.take j ++ sls3.drop (j + u)=slC at rb
 have cn:0 + j + (V.length - (j + u))=C.length:=by have:=rb.n; have:=rb.len; show (⟨a8,0 + j + (V.length - (j + u)),c8⟩:Sl).n=_; omega
 rw [cn] at rb bcap ⊢
 refine lnum ⟨_,rfl,Cond_f rfl (lholds (c:=⟨a8,C.length,c8⟩) (sls:=slC) st8.x.o (by rw [er6]; exact rb) fun h9 k9=>⟨_,rfl,Cond_f rfl ?_⟩)⟩
 have st9:=st8.keepN k9
 have rb9:=rb.keepN k9 fun b hb=>st8.x.o.g.st.fr hb
 refine f5L1_rule (s13:=⟨a8,C.length,c8⟩) (fun p s4 s13 h4=>∃ (k:Nat) (c':Nat) (q4:HQ) (s4':RS) (nd4:List NodeD) (L4:LD),k ≤ C.length∧k=p∧some (ad lb)=s4∧⟨a8,k,c'⟩=s13∧C.length ≤ c' ∧
   Stg h1 h4 q4 s4' nd4 lb L4∧L4.rows=C.take k∧RL h4 q4 ⟨a8,C.length,c8⟩ slC C) C.length
  ⟨C.length,c8,q6,s6,nd6,L6,Nat.le_refl _,rfl,rfl,rfl,bcap,st9,by rw [er6,List.take_length],rb9⟩ ?_
 rintro p s4' s13 g h10 ⟨k,c',q10,s10,nd10,L10,hk,rfl,rfl,rfl,hcap,st10,er10,rl10⟩
 unfold f5L1
 have hl10:L10.rows.length=k:=by rw [er10,List.length_take]; omega
 refine Cond_dec (fun hgt=>?_) fun hle=>?_
 ·have hgt:0 < k:=by have:((k:Nat):Int) > 0:=hgt; omega
  obtain ⟨k,rfl⟩:∃ k',k=k' + 1:=⟨k - 1,by omega⟩
  refine tpop st10 (fr:=false) (fun e=>by rw [e] at hl10; simp at hl10) fun r c h11 q11 s11 nd11 L11 hr st11 ex11 er11 row hc hro=>⟨⟨_,_,_⟩,_,rfl,lnum ⟨_,rfl,Cond_f rfl ?_⟩⟩
  rw [if_neg (by simp),hl10,Nat.add_sub_cancel] at hr er11
  rw [er10] at hr er11
  rw [List.getElem?_take_of_lt (by omega)] at hr
  have rl11:=rl10.ex ex11
  obtain ⟨cc,pa,_,hp,hc2,src,_,hrl,_⟩:=rl11.get hr
  have ek:IntKind.wrap .i64 ((((k + 1:Nat):Int)) - (1:Int))=((k:Nat):Int):=by rw [wrap_i64' (by omega) (by omega)]; omega
  rw [ek,Int.toNat_natCast,cut0]
  refine ⟨⟨by omega,by show ((k:Nat):Int) < ((k + 1:Nat):Int); omega⟩,PtrOk_of hp ⟨cc,hc2,leq (a:=⟨some (ad c),r.length,r.length⟩) (c:=cc) (row_reads row) src.rd rfl src.n (by omega) ⟨_,rfl,Cond_f rfl ⟨⟨by omega,by show ((k:Nat):Int) ≤ ((c':Nat):Int); omega⟩,⟨by omega,by omega⟩,?_⟩⟩⟩⟩
  refine ⟨k,by omega,k,c' - 0,q11,s11,nd11,L11,by omega,rfl,rfl,rfl,by omega,st11,?_,rl11⟩
  rw [er11]; unfold del
  rw [List.take_take,List.drop_eq_nil_of_le (by rw [List.length_take]; omega),List.append_nil]
  congr 1; omega
 ·have hk0:k=0:=by have:¬ ((k:Nat):Int) > 0:=hle; omega
  refine llen st10.x.o ⟨_,rfl,?_⟩
  rw [hl10,hk0]
  exact hR h10 (kept_tr k1 st10.k)
end
end Go.Ev
