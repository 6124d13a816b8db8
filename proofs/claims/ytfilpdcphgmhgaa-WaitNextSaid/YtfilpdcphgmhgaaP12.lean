/- larderlaw18 / The wait scripts' argument, out of the datum that is read / The five statements that walk a script. No condition but that these are ones. -/
import Derived.Test.YtfilpdcphgmhgaaP11
import Derived.ProofKit
import Derived.SizedLaws
import Derived.LaidMore
import Derived.OpenShut
set_option linter.all false
set_option maxRecDepth 1000000
namespace Go.Ev
open Go.Proofs
structure Sd where
 sb:Nat
 W:WP
 D:DP
def Sd.foot (S:Sd) (b:Nat):Prop:=b=S.sb ∨ S.W.foot b ∨ S.D.foot b
structure SPre (h:Hp) (S:Sd):Prop where
 row:Row h S.sb [.pointer (some (ad S.W.wb)),.pointer (some (ad S.D.db))]
 w:WRep h S.W
 d:DRep h S.D
 wd:∀ b,S.W.foot b→¬ S.D.foot b
 sw:¬ S.W.foot S.sb
 sd:¬ S.D.foot S.sb
structure SRep (h:Hp) (S:Sd):Prop where
 p:SPre h S
 ag:S.W.ws.map (·.w)=S.D.ds.map (·.w)
def STr (h:Hp) (S:Sd) (h':Hp) (S':Sd):Prop:=Kept S.foot h h'∧∀ b,S'.foot b→S.foot b ∨ h.size ≤ b
section
variable {h h' h1 h2:Hp} {S S' S2:Sd} {W':WP} {D':DP} {R:Value→Hp→Prop}
theorem STr.refl (h:Hp) (S:Sd):STr h S h S:=⟨Kept.refl _ _,fun _=>.inl⟩
theorem STr.trans (a:STr h S h' S') (b:STr h' S' h2 S2):STr h S h2 S2 :=
 ⟨⟨Nat.le_trans a.1.1 b.1.1,fun i hi hn=>(b.1.2 i (Nat.lt_of_lt_of_le hi a.1.1) fun o=>(a.2 i o).elim hn fun h=>by omega).trans (a.1.2 i hi hn)⟩,
  fun i o=>(b.2 i o).elim (a.2 i) fun h=>.inr (Nat.le_trans a.1.1 h)⟩
theorem STr.keepN (k:Kept N h h'):STr h S h' S:=⟨k.mono fun _ _ e=>e.elim,fun _=>.inl⟩
theorem SPre.lt (x:SPre h S) {b:Nat} (hb:S.foot b):b < h.size:=by
 rcases hb with e | e | e
 ·rw [e]; exact row_lt x.row
 ·exact x.w.m.foot_lt e
 ·exact x.d.foot_lt e
theorem SPre.keep {Q:Nat→Prop} (x:SPre h S) (k:Kept Q h h') (hQ:∀ b,S.foot b→¬ Q b):SPre h' S :=
 ⟨kept_row k x.row (hQ _ (.inl rfl)),x.w.keep k fun b hb=>hQ b (.inr (.inl hb)),x.d.keep k fun b hb=>hQ b (.inr (.inr hb)),x.wd,x.sw,x.sd⟩
theorem SPre.keepN (x:SPre h S) (k:Kept N h h'):SPre h' S:=x.keep k fun _ _=>_root_.id
theorem SPre.c0 (x:SPre h S):cell h (ad S.sb)=some (.pointer (some (ad S.W.wb))):=cell_row x.row 0
theorem SPre.c1 (x:SPre h S):cell h ((ad S.sb).add 1)=some (.pointer (some (ad S.D.db))):=by rw [add_ad]; exact cell_row x.row 1
theorem SPre.prog (x:SPre h S) (w:WRep h' W') (e:W'.wb=S.W.wb) (t:WTr h S.W h' W'):SPre h' { S with W:=W' }∧STr h S h' { S with W:=W' }:=by
 refine ⟨⟨by show Row h' S.sb [.pointer (some (ad W'.wb)),_]; rw [e]; exact kept_row t.1 x.row x.sw,w,x.d.keep t.1 fun b hb hw=>x.wd b hw hb,fun b hb hd=>?_,fun hb=>?_,x.sd⟩,t.1.mono fun b _ hb=>.inr (.inl hb),fun b hb=>?_⟩
 ·rcases t.2 b hb with hb | hb
  ·exact x.wd b hb hd
  ·have:=x.d.foot_lt hd; omega
 ·rcases t.2 _ hb with hb | hb
  ·exact x.sw hb
  ·have:=x.lt (.inl rfl); have hb:h.size ≤ S.sb:=hb; omega
 ·rcases hb with hb | hb | hb
  ·exact .inl (.inl hb)
  ·exact (t.2 b hb).imp_left fun z=>.inr (.inl z)
  ·exact .inl (.inr (.inr hb))
theorem SPre.doc (x:SPre h S) (d:DRep h' D') (e:D'.db=S.D.db) (t:DTr h S.D h' D'):SPre h' { S with D:=D' }∧STr h S h' { S with D:=D' }:=by
 refine ⟨⟨by show Row h' S.sb [_,.pointer (some (ad D'.db))]; rw [e]; exact kept_row t.1 x.row x.sd,x.w.keep t.1 fun b hb hd=>x.wd b hb hd,d,fun b hb hd=>?_,x.sw,fun hb=>?_⟩,t.1.mono fun b _ hb=>.inr (.inr hb),fun b hb=>?_⟩
 ·rcases t.2 b hd with hd | hd
  ·exact x.wd b hb hd
  ·have:=x.w.m.foot_lt hb; omega
 ·rcases t.2 _ hb with hb | hb
  ·exact x.sd hb
  ·have:=x.lt (.inl rfl); have hb:h.size ≤ S.sb:=hb; omega
 ·rcases hb with hb | hb | hb
  ·exact .inl (.inl hb)
  ·exact .inl (.inr (.inl hb))
  ·exact (t.2 b hb).imp_left fun z=>.inr (.inr z)
theorem ag_len (ag:S.W.ws.map (·.w)=S.D.ds.map (·.w)):S.W.ws.length=S.D.ds.length:=by
 have:=congrArg List.length ag
 rwa [List.length_map,List.length_map] at this
theorem plays_ok (x:SRep h S) {o:Opw} (ok:OpwOk h o) (hout:∀ p,o.sl.a=some p→o.pls ≠ []→¬ S.foot p.block) (tb:S.W.turns < 1000000)
  (hR:∀ h' S',SRep h' S'→S'.sb=S.sb→S'.W.turns ≤ S.W.turns + 1→STr h S h' S'→R (.bool true) h') :
  CallTo Try.prog 37 #[.pointer (some (ad S.sb)),.agg #[.int .i64 o.on,.int .i64 o.dO,.int .i64 o.conn,.int .i64 o.kind,.slice o.sl.a o.sl.n o.sl.c,.int .u64 o.time]] h R:=by
 refine f37F_ok (a1_4:=o.sl) ?_
 unfold f37F
 refine Let_mk fun h1 e1=>?_
 have k1:Kept N h h1:=e1 ▸ kept_push _ _ _
 have r1:Row h1 h.size o.cells:=e1 ▸ row_new h _ 31
 have n1:nb h=ad h.size:=rfl
 rw [n1]
 have x1:SPre h1 S:=x.p.keepN k1
 have s1:STr h S h1 S:=STr.keepN k1
 have pi1:PlIn h1 o.sl o.pls:=ok.pl.keepN k1
 have rc:∀ {g:Hp},Row g h.size o.cells→cell g (ad h.size)=some (.int .i64 o.on)∧cell g ((ad h.size).add 1)=some (.int .i64 o.dO)∧cell g ((ad h.size).add 2)=some (.int .i64 o.conn)∧cell g ((ad h.size).add 3)=some (.int .i64 o.kind)∧cell g ((ad h.size).add 4)=some (.slice o.sl.a o.sl.n o.sl.c)∧cell g ((ad h.size).add 5)=some (.int .u64 o.time):=fun r =>
  ⟨(cell_row r 0).trans rfl,by rw [add_ad]; exact (cell_row r 1).trans rfl,by rw [add_ad]; exact (cell_row r 2).trans rfl,by rw [add_ad]; exact (cell_row r 3).trans rfl,by rw [add_ad]; exact (cell_row r 4).trans rfl,by rw [add_ad]; exact (cell_row r 5).trans rfl⟩
 obtain ⟨a0,a1,a2,a3,a4,a5⟩:=rc r1
 have hs:h.size < h1.size:=row_lt r1
 -- nothing of the side is where the step lies
 have away:¬ S.foot h.size:=fun hb=>by have:=x.p.lt hb; omega
 have wl:=wlen8 x.p.w.m
 refine ⟨_,a1,Cond_b (fun _=>?_) fun _=>Cond_b (fun _=>?_) fun _=>Cond_b (fun _=>?_) fun _=>Cond_b (fun _=>?_) fun _=>Cond_b (fun _=>?_) fun _=>Cond_b (fun _=>?_) fun _=>Cond_b (fun _=>?_) fun _=>?_⟩
 ·-- Block
  refine PtrOk_mk ⟨_,x1.c0,_,a2,_,a3,_,a4,_,a5,twin_ok pi1 ok.len fun s' h2 pi2 hs' k2=>⟨_,rfl,?_⟩⟩
  have r2:=kept_row k2 r1 _root_.id
  obtain ⟨b0,b1,b2,b3,b4,b5⟩:=rc r2
  have x2:=x1.keepN k2
  have pi2':=pi1.keepN k2
  refine ⟨⟨_,b5,rfl⟩,⟨_,b3,rfl⟩,⟨_,b2,rfl⟩,⟨_,x2.c0,rfl⟩,?_⟩
  have s2:STr h S h2 S:=s1.trans (STr.keepN k2)
  have k02:=k1.trans k2
  have away2:∀ {g:Hp} {S':Sd},STr h2 S g S'→¬ S'.foot h.size:=fun t hb=>(t.2 _ hb).elim away fun z=>by have:=k2.1; omega
  have q1:=k1.1
  have q2:=k2.1
  refine wblock_ok x2.w pi2 (fun p hp hne=>⟨fun hf=>?_,(hs' p hp hne).2⟩) tb ok.tm (fun h3 hE k3=>⟨_,rfl,?_⟩) fun hE h3 W3 y w3 hwb hws hy hturn t3=>⟨_,rfl,?_⟩
  ·have:=x1.lt (.inr (.inl hf))
   have:=(hs' p hp hne).1
   omega
  ·have x3:=x2.keepN k3
   have r3:=kept_row k3 r2 _root_.id
   obtain ⟨c0,c1,c2,c3,c4,c5⟩:=rc r3
   refine PtrOk_mk ⟨_,x3.c1,_,c2,_,c3,_,c4,_,c5,dblock_ok x3.d (pi2'.keepN k3) (by have:=ok.len; omega) (fun z=>?_) (fun z=>⟨_,rfl,?_⟩) fun z=>?_⟩
   ·rw [ag_busy x.ag] at z; exact absurd z hE
   ·rw [ag_busy x.ag]
    rw [show (blockE (S.W.find o.conn).isSome o.conn o.kind o.pls o.time == blockE (S.W.find o.conn).isSome o.conn o.kind o.pls o.time)=true from beq_self_eq_true _]
    exact hR h3 S ⟨x3,x.ag⟩ rfl (Nat.le_succ _) (s2.trans (STr.keepN k3))
   ·rw [ag_busy x.ag] at z; exact absurd z hE
  ·obtain ⟨x3,s3⟩:=x2.prog w3 hwb t3
   have r3:=kept_row s3.1 r2 away
   obtain ⟨c0,c1,c2,c3,c4,c5⟩:=rc r3
   have pi3:PlIn h3 o.sl o.pls:=⟨reads_kept2 s3.1 pi2'.rd fun p hp hv=>(by
    have hne:o.pls ≠ []:=fun e=>hv (by rw [e]; rfl)
    have:=ok.blk p hp hne
    exact ⟨by omega,hout p hp hne⟩),pi2'.n,pi2'.c⟩
   have l3:=wlen8 w3.m
   rw [hws,List.length_append] at l3
   have al:=ag_len x.ag
   refine PtrOk_mk ⟨_,x3.c1,_,c2,_,c3,_,c4,_,c5,dblock_ok x3.d pi3 (by have:=ok.len; omega) (fun z=>by have:S.W.ws.length + 1 ≤ 8:=l3; show S.D.ds.length < 8; omega) (fun z=>?_) fun z h4 D4 d4 hdb hds t4=>⟨_,rfl,?_⟩⟩
   ·have:(S.D.find o.conn).isSome=(S.W.find o.conn).isSome:=ag_busy x.ag o.conn
    exact absurd (by show blockE (S.D.find o.conn).isSome _ _ _ _=0; rw [this]; exact hE) z
   ·obtain ⟨x4,s4⟩:=x3.doc d4 hdb t4
    refine hR h4 _ ⟨x4,?_⟩ rfl (by show W3.turns ≤ _; omega) ((s2.trans s3).trans s4)
    show W3.ws.map (·.w)=D4.ds.map (·.w)
    rw [hws,hds,List.map_append,x.ag]
    show _ ++ [y.w]=_
    rw [hy]
 ·-- Release
  refine PtrOk_mk ⟨_,x1.c0,_,a2,wrelease_ok x1.w (fun hn h2 k2=>⟨_,rfl,?_⟩) fun y j hf hj h2 W2 w2 hwb hws hturn t2=>⟨_,rfl,?_⟩⟩
  ·have x2:=x1.keepN k2
   have r2:=kept_row k2 r1 _root_.id
   obtain ⟨b0,b1,b2,b3,b4,b5⟩:=rc r2
   have hd:S.D.find o.conn=none:=by
    rcases ag_find x.ag o.conn with ⟨_,e⟩ | ⟨y,z,e,_⟩
    ·exact e
    ·rw [hn] at e; cases e
   refine PtrOk_mk ⟨_,x2.c1,_,b2,drelease_ok x2.d (fun _=>⟨_,rfl,hR h2 S ⟨x2,x.ag⟩ rfl (Nat.le_succ _) (s1.trans (STr.keepN k2))⟩) fun j y e=>?_⟩
   rw [hd] at e; cases e
  ·obtain ⟨x2,s2⟩:=x1.prog w2 hwb t2
   have r2:=kept_row s2.1 r1 away
   obtain ⟨b0,b1,b2,b3,b4,b5⟩:=rc r2
   have hyc:=(WP.find_some hf).2
   refine PtrOk_mk ⟨_,x2.c1,_,b2,drelease_ok x2.d (fun hn=>?_) fun j' z e hz hzc h3 D3 d3 hdb hds t3=>⟨_,rfl,?_⟩⟩
   ·rcases ag_find x.ag o.conn with ⟨e,_⟩ | ⟨y,z,_,e,_⟩
    ·rw [hf] at e; cases e
    ·have hn:S.D.find o.conn=none:=hn
     rw [hn] at e; cases e
   ·obtain ⟨x3,s3⟩:=x2.doc d3 hdb t3
    refine hR h3 _ ⟨x3,?_⟩ rfl (by show W2.turns ≤ _; omega) ((s1.trans s2).trans s3)
    show W2.ws.map (·.w)=D3.ds.map (·.w)
    rw [hws,hds]
    exact ag_cut x.p.w.m.cn x.ag hj hz (hyc.trans hzc.symm)
 ·-- Next
  refine PtrOk_mk ⟨_,x1.c0,_,a0,_,a1,_,a2,_,a3,_,a4,_,a5,_,a3,place_ok pi1 fun h2 k2=>⟨_,_,rfl,?_⟩⟩
  have x2:=x1.keepN k2
  have r2:=kept_row k2 r1 _root_.id
  obtain ⟨b0,b1,b2,b3,b4,b5⟩:=rc r2
  refine ⟨⟨_,b3,rfl⟩,⟨_,x2.c0,rfl⟩,wnext_ok (p:=o.place) x2.w fun h3 k3=>?_⟩
  have x3:=x2.keepN k3
  have r3:=kept_row k3 r2 _root_.id
  obtain ⟨c0,c1,c2,c3,c4,c5⟩:=rc r3
  have an:=ag_next x.ag o.place o.kind
  have fin:∀ (n:Int) (b:Bool),S.D.next o.place o.kind=.tuple #[.int .i64 n,.bool b]→PtrOk (some (ad S.sb)) fun p86=>∃ t88:Option Addr,cell h3 (p86.add 1)=some (.pointer t88)∧∃ t89_0:Int,cell h3 (ad h.size)=some (.int .i64 t89_0)∧∃ t89_1:Int,cell h3 ((ad h.size).add 1)=some (.int .i64 t89_1)∧∃ t89_2:Int,cell h3 ((ad h.size).add 2)=some (.int .i64 t89_2)∧∃ t89_3:Int,cell h3 ((ad h.size).add 3)=some (.int .i64 t89_3)∧∃ t89_4:Sl,cell h3 ((ad h.size).add 4)=some (.slice t89_4.a t89_4.n t89_4.c)∧∃ t89_5:Int,cell h3 ((ad h.size).add 5)=some (.int .u64 t89_5)∧∃ t92:Int,cell h3 ((ad h.size).add 3)=some (.int .i64 t92)∧CallTo Try.prog 60 #[.agg #[.int .i64 t89_0,.int .i64 t89_1,.int .i64 t89_2,.int .i64 t89_3,.slice t89_4.a t89_4.n t89_4.c,.int .u64 t89_5]] h3 fun r h9=>∃ t90_0:Int,∃ t90_1:ByteArray,r=.agg #[.int .i64 t90_0,.string t90_1]∧(∃ y0:Int,cell h9 ((ad h.size).add 3)=some (.int .i64 y0)∧Next.value (.int .i64 y0)=Next.value (.int .i64 t92))∧(∃ y0:Option Addr,cell h9 (p86.add 1)=some (.pointer y0)∧Next.value (.pointer y0)=Next.value (.pointer t88))∧CallTo Try.prog 61 #[.pointer t88,.agg #[.int .i64 t90_0,.string t90_1],.int .i64 t92] h9 fun r h10=>∃ t93_0:Int,∃ t93_1:Bool,r=.tuple #[.int .i64 t93_0,.bool t93_1]∧Cond (n == t93_0) (R ((.bool (b == t93_1):Value)) h10) (R (.bool false:Value) h10):=fun n b e=>by
   refine PtrOk_mk ⟨_,x3.c1,_,c0,_,c1,_,c2,_,c3,_,c4,_,c5,_,c3,place_ok (pi1.keepN (k2.trans k3)) fun h4 k4=>⟨_,_,rfl,?_⟩⟩
   have x4:=x3.keepN k4
   have r4:=kept_row k4 r3 _root_.id
   obtain ⟨d0,d1,d2,d3,d4,d5⟩:=rc r4
   refine ⟨⟨_,d3,rfl⟩,⟨_,x4.c1,rfl⟩,dnext_ok (p:=o.place) x4.d fun h5 k5=>⟨n,b,e,?_⟩⟩
   rw [show (b == b)=true by cases b <;> rfl]
   exact Cond_t (beq_self_eq_true n) (hR h5 S ⟨x4.keepN k5,x.ag⟩ rfl (Nat.le_succ _) (s1.trans (STr.keepN (((k2.trans k3).trans k4).trans k5))))
  cases hc:connsOf S.W.ws o.place o.kind with
  | nil=>rw [hc] at an; exact ⟨_,_,rfl,fin _ _ an⟩
  | cons c t=>rw [hc] at an; exact ⟨_,_,rfl,fin _ _ an⟩
 ·-- Due
  obtain ⟨T,tp,ts⟩:=sorted_exists (x.p.w.m.ordD (l:=duesOf S.W o.time) (fun c hc=>duesOf_sub hc) (duesOf_nd x.p.w.m o.time))
  refine PtrOk_mk ⟨_,x1.c0,_,a5,PtrOk_mk ⟨_,x1.c1,_,a5,wdue_ok x1.w tp ts fun s c h2 il hfr k2=>⟨s,rfl,?_⟩⟩⟩
  have x2:=x1.keepN k2
  have r2:=kept_row k2 r1 _root_.id
  obtain ⟨b0,b1,b2,b3,b4,b5⟩:=rc r2
  refine ⟨⟨_,b5,rfl⟩,⟨_,x2.c1,rfl⟩,ddue_ok x2.d fun is s' c' h3 hin nd pw il' hfr' k3=>⟨s',rfl,true,?_,hR h3 S ⟨x2.keepN k3,x.ag⟩ rfl (Nat.le_succ _) (s1.trans (STr.keepN (k2.trans k3)))⟩⟩
  obtain ⟨p1,p2⟩:=ag_dues x.p.w.m x.ag hin nd pw
  have od:=x.p.w.m.ordD (l:=T) (fun c hc=>duesOf_sub (tp.mem_iff.1 hc)) (tp.symm.nodup (duesOf_nd x.p.w.m o.time))
  have eT:T=is.map S.D.conn:=sorted_unique (lt:=fun a b=>duV S.W a b < 0) (tp.trans p1.symm) (fun a ha b hb h1 h2=>od.ir a ha (od.tr a ha b hb a ha h1 h2)) ts p2
  have il3:=il.keep k3 fun _=>_root_.id
  refine ints_ok (il_rd il3) il3.n (il_rd il') il'.n ?_ ⟨by rw [decide_eq_true eT],rfl⟩
  have:=tp.length_eq
  have:=duesOf_len x.p.w.m o.time
  omega
 ·-- Until
  refine PtrOk_mk ⟨_,x1.c0,_,a2,wuntil_ok x1.w fun h2 k2=>⟨_,_,rfl,?_⟩⟩
  have x2:=x1.keepN k2
  have r2:=kept_row k2 r1 _root_.id
  obtain ⟨b0,b1,b2,b3,b4,b5⟩:=rc r2
  refine PtrOk_mk ⟨_,x2.c1,_,b2,(PWz (S.W.find o.conn)).2.2.1,(S.W.find o.conn).isSome,duntil_ok x2.d ⟨?_,rfl⟩,?_⟩
  ·rcases ag_find x.ag o.conn with ⟨e1,e2⟩ | ⟨y,z,e1,e2,e3⟩
   ·rw [e1,e2]; rfl
   ·rw [e1,e2]
    show Value.tuple #[.int .u64 z.w.til,.bool true]=.tuple #[.int .u64 y.w.til,.bool true]
    rw [e3]
  ·refine Cond_t (beq_self_eq_true _) ?_
   rw [show ((S.W.find o.conn).isSome == (S.W.find o.conn).isSome)=true from beq_self_eq_true _]
   exact hR h2 S ⟨x2,x.ag⟩ rfl (Nat.le_succ _) (s1.trans (STr.keepN k2))
 ·-- Places
  refine PtrOk_mk ⟨_,x1.c0,_,a2,PtrOk_mk ⟨_,x1.c1,_,a2,wplaces_ok x1.w fun s b h2 po hfr k2=>⟨s,rfl,?_⟩⟩⟩
  have x2:=x1.keepN k2
  have r2:=kept_row k2 r1 _root_.id
  obtain ⟨b0,b1,b2,b3,b4,b5⟩:=rc r2
  refine ⟨⟨_,b2,rfl⟩,⟨_,x2.c1,rfl⟩,dplaces_ok x2.d fun s' b' h3 po' hfr' k3=>⟨s',rfl,true,?_,hR h3 S ⟨x2.keepN k3,x.ag⟩ rfl (Nat.le_succ _) (s1.trans (STr.keepN (k2.trans k3)))⟩⟩
  have po3:=po.keep k3 fun _=>_root_.id
  rw [ag_pls x.ag] at po'
  refine same_ok po3.rd po3.n po'.rd po'.n ?_ ⟨by rw [decide_eq_true rfl],rfl⟩
  unfold plsOf
  cases hf:S.W.find o.conn with
  | none=>exact (by decide:0 < 100000)
  | some y =>
   have:=(x.p.w.m.pw y (WP.find_some hf).1).p1
   show y.w.pls.length < _
   omega
 ·-- Waiting
  refine PtrOk_mk ⟨_,x1.c0,PtrOk_mk ⟨_,x1.c1,wwaiting_ok x1.w fun s c h2 il hfr k2=>⟨s,rfl,?_⟩⟩⟩
  have x2:=x1.keepN k2
  refine ⟨⟨_,x2.c1,rfl⟩,dwaiting_ok x2.d fun s' c' h3 il' hfr' k3=>⟨s',rfl,true,?_,hR h3 S ⟨x2.keepN k3,x.ag⟩ rfl (Nat.le_succ _) (s1.trans (STr.keepN (k2.trans k3)))⟩⟩
  have il3:=il.keep k3 fun _=>_root_.id
  rw [ag_waits x.ag] at il'
  refine ints_ok (il_rd il3) il3.n (il_rd il') il'.n ?_ ⟨by rw [decide_eq_true rfl],rfl⟩
  rw [List.length_map]
  omega
 ·exact hR h1 S ⟨x1,x.ag⟩ rfl (Nat.le_succ _) s1
end
end Go.Ev
set_option linter.all false
set_option maxRecDepth 1000000
namespace Go.Ev
open Go.Proofs
theorem andI_bd (x:Int) {m:Nat} (hm:m < 2 ^ 62):0 ≤ andI .i64 x (m:Int)∧andI .i64 x (m:Int) ≤ m:=by
 unfold andI
 have e:(BitVec.ofInt (IntKind.bits .i64) (m:Int)).toNat=m:=by
  show (BitVec.ofInt 64 (m:Int)).toNat=m
  rw [BitVec.toNat_ofInt]
  omega
 have h1:(BitVec.ofInt (IntKind.bits .i64) x &&& BitVec.ofInt (IntKind.bits .i64) (m:Int)).toNat ≤ m:=by
  rw [BitVec.toNat_and,e]
  exact Nat.and_le_right
 generalize (BitVec.ofInt (IntKind.bits .i64) x &&& BitVec.ofInt (IntKind.bits .i64) (m:Int)).toNat=k at h1
 rw [wr (by omega) (by omega)]
 omega
section
variable {h h' h1 h2:Hp} {S S' S2:Sd} {R:Value→Hp→Prop}
def kP:Plc:=(1,⟨#[107]⟩)
theorem kept_foot {W W':WP} {g g':Hp} (k:Kept N h g) (hf:∀ b,W.foot b→h.size ≤ b) (t:WTr g W g' W'):Kept N h g'∧∀ b,W'.foot b→h.size ≤ b :=
 ⟨kept_fresh k t.1 hf,fun b hb=>(t.2 b hb).elim (hf b) fun z=>Nat.le_trans k.1 z⟩
theorem wakes_ok (hR:∀ h',Kept N h h'→R (.bool true) h'):CallTo Try.prog 11 #[] h R:=by
 refine f11F_ok ?_
 unfold f11F
 refine wnew_ok fun h1 W w hws htu hf k1=>⟨_,rfl,Cond_f rfl (Let_mk fun h2 e2=>?_)⟩
 have k2:Kept N h1 h2:=e2 ▸ kept_push _ _ _
 have r2:Row h2 h1.size (plC kP):=e2 ▸ row_new h1 _ 40
 have n1:nb h1=ad h1.size:=rfl
 have w2:=w.keepN k2
 have fn:W.find 3=none:=by unfold WP.find; rw [hws]; rfl
 have E0:blockE (W.find 3).isSome 3 2 [kP] 0=0:=by rw [fn]; kernel_rfl
 rw [n1]
 refine wblock_ok w2 (a:=⟨some (ad h1.size),1,1⟩) (ps:=[kP]) ⟨row_reads r2,rfl,Nat.le_refl _⟩ (fun p hp _=>?_) (by rw [htu]; decide) (Int.le_refl 0) (fun h3 z _=>absurd E0 z) fun _ h3 W3 y w3 hwb hws3 hy hturn t3=>⟨0,rfl,?_⟩
 ·obtain rfl:=Option.some.inj hp
  exact ⟨fun hb=>by have:=w.m.foot_lt hb; exact Nat.lt_irrefl _ this,row_lt r2⟩
 obtain ⟨k3,hf3⟩:=kept_foot (k1.trans k2) hf t3
 have ws3:W3.ws=[y]:=by rw [hws3,hws]; rfl
 have cy:∀ l,connsOf W3.ws kP l=if l=2 then [3] else []:=fun l=>by
  rw [ws3]
  unfold connsOf
  rw [List.filter_cons,hy]
  by_cases e:l=2
  ·subst e
   have:wants ⟨3,2,[kP],0⟩ kP 2=true:=by unfold wants; simp
   rw [if_pos rfl,if_pos this]
   show [y.w.conn]=[3]
   rw [hy]
  ·rw [if_neg e]
   have:wants ⟨3,2,[kP],0⟩ kP l=false:=by
    unfold wants
    rw [decide_eq_false fun z=>e z.symm,Bool.false_and]
   rw [this]
   rfl
 rw [← hwb]
 refine wnext_ok (p:=kP) w3 fun h4 k4=>?_
 rw [cy 2,if_pos rfl]
 refine ⟨3,true,rfl,wnext_ok (p:=kP) (w3.keepN k4) fun h5 k5=>?_⟩
 rw [cy 5,if_neg (by decide)]
 refine ⟨0,false,rfl,Let_mk fun h6 e6=>?_⟩
 have k6:Kept N h5 h6:=e6 ▸ kept_push _ _ _
 have r6:Row h6 h5.size (plC kP):=e6 ▸ row_new h5 _ 40
 have n5:nb h5=ad h5.size:=rfl
 have w5:=(w3.keepN k4).keepN k5
 have w6:=w5.keepN k6
 have f3:(W3.find 3).isSome=true:=by
  unfold WP.find
  rw [ws3,List.find?_cons,hy]
  rfl
 have E1:blockE (W3.find 3).isSome 3 2 [kP] 0=181:=by rw [f3]; kernel_rfl
 have k36:=((k3.trans k4).trans k5).trans k6
 rw [n5]
 refine wblock_ok w6 (a:=⟨some (ad h5.size),1,1⟩) (ps:=[kP]) ⟨row_reads r6,rfl,Nat.le_refl _⟩ (fun p hp _=>?_) (by rw [hturn,htu]; decide) (Int.le_refl 0) (fun h7 z k7=>⟨_,rfl,?_⟩) fun z=>?_
 ·obtain rfl:=Option.some.inj hp
  exact ⟨fun hb=>by have:=w5.m.foot_lt hb; exact Nat.lt_irrefl _ this,row_lt r6⟩
 ·rw [E1]
  exact hR h7 (k36.trans k7)
 ·rw [E1] at z; exact absurd z (by decide)
/-! ### The sides of a script -/
structure Stg (h:Hp) (base:Nat) (s:Sl) (ob:Option Nat) (ss:List Sd):Prop where
 sl:SlAt 1 h s.a s.n s.c ob (ss.map fun S=>.pointer (some (ad S.sb)))
 rep:∀ S ∈ ss,SRep h S
 dis:∀ (i j:Nat) (S T:Sd),i ≠ j→ss[i]?=some S→ss[j]?=some T→∀ b,S.foot b→¬ T.foot b
 od:∀ S ∈ ss,∀ b,ob=some b→¬ S.foot b
 lo:∀ S ∈ ss,∀ b,S.foot b→base ≤ b
 lob:∀ b,ob=some b→base ≤ b
theorem SRep.keep {Q:Nat→Prop} (x:SRep h S) (k:Kept Q h h') (hQ:∀ b,S.foot b→¬ Q b):SRep h' S:=⟨x.p.keep k hQ,x.ag⟩
theorem Stg.keepN {base:Nat} {s:Sl} {ob:Option Nat} {ss:List Sd} (x:Stg h base s ob ss) (k:Kept N h h'):Stg h' base s ob ss :=
 ⟨x.sl.keep fun b hb=>k.2 b (by obtain ⟨_,_,j,r,_⟩:=x.sl.row b hb; exact row_lt r) _root_.id,fun S hS=>(x.rep S hS).keep k fun _ _=>_root_.id,x.dis,x.od,x.lo,x.lob⟩
theorem Stg.step {base:Nat} {s:Sl} {ob:Option Nat} {ss:List Sd} (x:Stg h base s ob ss) {j:Nat} (hj:ss[j]?=some S) (r:SRep h' S') (t:STr h S h' S') (e:S'.sb=S.sb) (hb:base ≤ h.size):Stg h' base s ob (ss.set j S'):=by
 have hS:=List.mem_of_getElem? hj
 have mm:∀ T ∈ ss.set j S',T=S' ∨ ∃ i,i ≠ j∧ss[i]?=some T:=fun T hT=>(mem_set_iff hj).1 hT
 have em:(ss.set j S').map (fun S=>Value.pointer (some (ad S.sb)))=ss.map fun S=>.pointer (some (ad S.sb)):=by
  apply List.ext_getElem?
  intro i
  rw [List.getElem?_map,List.getElem?_map,List.getElem?_set]
  by_cases ei:j=i
  ·subst ei
   rw [if_pos rfl,if_pos (List.getElem?_eq_some_iff.1 hj).1,hj]
   show some (Value.pointer (some (ad S'.sb)))=some (.pointer (some (ad S.sb)))
   rw [e]
  ·rw [if_neg ei]
 have lts:∀ T ∈ ss,∀ b,T.foot b→b < h.size:=fun T hT b hb=>(x.rep T hT).p.lt hb
 have obl:∀ b,ob=some b→b < h.size:=fun b hb=>by obtain ⟨_,_,j,r,_⟩:=x.sl.row b hb; exact row_lt r
 refine ⟨by rw [em]; exact x.sl.keep fun b hb=>t.1.2 b (obl b hb) (x.od S hS b hb),fun T hT=>?_,fun i k A B hik hA hB b hb1 hb2=>?_,fun T hT b hb1 hb2=>?_,fun T hT b hb1=>?_,x.lob⟩
 ·rcases mm T hT with rfl | ⟨i,hne,hi⟩
  ·exact r
  ·exact (x.rep T (List.mem_of_getElem? hi)).keep t.1 fun b hb=>x.dis i j T S hne hi hj b hb
 ·rw [List.getElem?_set] at hA hB
  by_cases e1:j=i
  ·subst e1
   rw [if_pos rfl,if_pos (List.getElem?_eq_some_iff.1 hj).1] at hA
   obtain rfl:=Option.some.inj hA
   rw [if_neg hik] at hB
   rcases t.2 b hb1 with z | z
   ·exact x.dis j k S B hik hj hB b z hb2
   ·have:=lts B (List.mem_of_getElem? hB) b hb2; omega
  ·rw [if_neg e1] at hA
   by_cases e2:j=k
   ·subst e2
    rw [if_pos rfl,if_pos (List.getElem?_eq_some_iff.1 hj).1] at hB
    obtain rfl:=Option.some.inj hB
    rcases t.2 b hb2 with z | z
    ·exact x.dis i j A S hik hA hj b hb1 z
    ·have:=lts A (List.mem_of_getElem? hA) b hb1; omega
   ·rw [if_neg e2] at hB
    exact x.dis i k A B hik hA hB b hb1 hb2
 ·rcases mm T hT with rfl | ⟨i,hne,hi⟩
  ·rcases t.2 b hb2 with z | z
   ·exact x.od S hS b hb1 z
   ·have:=obl b hb1; omega
  ·exact x.od T (List.mem_of_getElem? hi) b hb1 hb2
 ·rcases mm T hT with rfl | ⟨i,hne,hi⟩
  ·rcases t.2 b hb1 with z | z
   ·exact x.lo S hS b z
   ·omega
  ·exact x.lo T (List.mem_of_getElem? hi) b hb1
theorem own6 {z0 z1 z2 z3 z4 z5 v0 v1 v2 v3 v4 v5:Value} {t:TypeId} {K:Hp→Prop} (hK:∀ h',Row h' h.size [v0,v1,v2,v3,v4,v5]→Kept N h h'→K h') :
  Let (h.push (.cells #[z0,z1,z2,z3,z4,z5] t)) fun h1=>stOk h1 (nb h)∧Let (setc h1 (nb h) v0) fun h2=>stOk h2 ((nb h).add 1)∧Let (setc h2 ((nb h).add 1) v1) fun h3=>stOk h3 ((nb h).add 2)∧Let (setc h3 ((nb h).add 2) v2) fun h4=>stOk h4 ((nb h).add 3)∧Let (setc h4 ((nb h).add 3) v3) fun h5=>stOk h5 ((nb h).add 4)∧Let (setc h5 ((nb h).add 4) v4) fun h6=>stOk h6 ((nb h).add 5)∧Let (setc h6 ((nb h).add 5) v5) fun h7=>K h7:=by
 refine Let_mk fun h1 e1=>?_
 have r1:Row h1 h.size [z0,z1,z2,z3,z4,z5]:=e1 ▸ row_new h #[z0,z1,z2,z3,z4,z5] t
 have k1:Kept N h h1:=e1 ▸ kept_push _ _ _
 refine row_st r1 (i:=0) rfl (by show 0 < 6; omega) fun h2 r2 k2=>row_st r2 (i:=1) (add_ad _ _) (by show 1 < 6; omega) fun h3 r3 k3=>row_st r3 (i:=2) (add_ad _ _) (by show 2 < 6; omega) fun h4 r4 k4=>row_st r4 (i:=3) (add_ad _ _) (by show 3 < 6; omega) fun h5 r5 k5=>row_st r5 (i:=4) (add_ad _ _) (by show 4 < 6; omega) fun h6 r6 k6=>row_st r6 (i:=5) (add_ad _ _) (by show 5 < 6; omega) fun h7 r7 k7=>hK h7 r7 ?_
 exact kept_fresh k1 ((((k2.trans k3).trans k4).trans k5).trans (k6.trans k7)) fun i e=>by omega
theorem opw_len (o:Opw):o.cells.length=6:=rfl
/-- The script, as it lies. -/
structure Scr (h:Hp) (a:Sl) (os:List Opw):Prop where
 rd:ReadsO h a.a (os.flatMap Opw.cells)
 n:a.n=os.length
 lt:os.length < 2 ^ 62
 ok:∀ o ∈ os,OpwOk h o
 blk:∀ p,a.a=some p→os ≠ []→p.block < h.size
theorem OpwOk.kept {o:Opw} (x:OpwOk h o) (k:Kept N h h'):OpwOk h' o:=⟨x.pl.keepN k,x.len,fun p hp hne=>Nat.lt_of_lt_of_le (x.blk p hp hne) k.1,x.tm⟩
theorem Scr.kept {a:Sl} {os:List Opw} (x:Scr h a os) (k:Kept N h h'):Scr h' a os:=⟨reads_keptN k x.rd,x.n,x.lt,fun o ho=>(x.ok o ho).kept k,fun p hp hne=>Nat.lt_of_lt_of_le (x.blk p hp hne) k.1⟩
theorem holds_ok {a:Sl} {os:List Opw} (x:Scr h a os) {many lo hi:Int} (hR:∀ h',Kept N h h'→R (.bool true) h') :
  CallTo Try.prog 20 #[.agg #[.int .i64 many,.slice a.a a.n a.c],.int .i64 lo,.int .i64 hi] h R:=by
 refine f20F_ok (a0_1:=a) ?_
 unfold f20F
 refine Let_mk fun h1 e1=>?_
 have k1:Kept N h h1:=e1 ▸ kept_push _ _ _
 have r1:Row h1 h.size [.int .i64 many,.slice a.a a.n a.c]:=e1 ▸ row_new h _ 24
 have n1:nb h=ad h.size:=rfl
 rw [n1]
 refine wakes_ok fun h2 k2=>⟨_,rfl,Cond_f rfl ?_⟩
 have hs:h.size < h1.size:=row_lt r1
 obtain ⟨c0,c1⟩:=andI_bd many (m:=63) (by decide)
 generalize hcnt:(2 + andI .i64 many ((63:Nat):Int)).toNat=cnt
 have ecnt:IntKind.wrap .i64 ((2:Int) + andI .i64 many (63:Int))=(cnt:Int):=by
  have:andI .i64 many (63:Int)=andI .i64 many ((63:Nat):Int):=rfl
  rw [this,wr (by omega) (by omega)]
  omega
 have cb:2 ≤ cnt∧cnt ≤ 65:=by omega
 refine f20L1_rule (s7:=⟨none,0,0⟩) (fun m s1 s2 s3 s7 s8 h'=>∃ (ss:List Sd) (ob:Option Nat),ss.length ≤ cnt∧m=cnt - ss.length∧lo=s1∧hi=s2∧s3=ad h.size∧s8=(ss.length:Int)∧Stg h' h1.size s7 ob ss∧(∀ S ∈ ss,S.W.turns=0)∧Kept N h1 h') cnt
  ⟨[],none,Nat.zero_le _,rfl,rfl,rfl,rfl,rfl,⟨slAt_nil 1 h2,nofun,fun i j S T _ hS=>by simp at hS,nofun,nofun,nofun⟩,nofun,k2⟩ ?_
 rintro m s1 s2 s3 s7 s8 g h3 ⟨ss,ob,hl,rfl,rfl,rfl,rfl,rfl,st,ht,k3⟩
 unfold f20L1
 have r3:=kept_row k3 r1 _root_.id
 refine ⟨_,(cell_row r3 0).trans rfl,?_⟩
 rw [ecnt]
 refine Cond_dec (fun hlt=>wnew_ok fun h4 W w hws htu hf k4=>⟨_,rfl,Let_mk fun h5 e5=>Let_mk fun h6 e6=>?_⟩) fun hge=>?_
 ·have k5:Kept N h4 h5:=e5 ▸ kept_push _ _ _
  have r5:Row h5 h4.size [.slice none 0 0]:=e5 ▸ row_new h4 _ 81
  have k6:Kept N h5 h6:=e6 ▸ kept_push _ _ _
  have r6:Row h6 h5.size [.pointer (some (ad W.wb)),.pointer (some (ad h4.size))]:=e6 ▸ row_new h5 _ 83
  have n5:nb h5=ad h5.size:=rfl
  have n4:nb h4=ad h4.size:=rfl
  rw [n5]
  refine ⟨_,(cell_row r6 0).trans rfl,Cond_f rfl (Let_mk fun h7 e7=>?_)⟩
  have k7:Kept N h6 h7:=e7 ▸ kept_push _ _ _
  have r7:Row h7 h6.size [.pointer (some (ad h5.size))]:=e7 ▸ row_new h6 _ 77
  have n6:nb h6=ad h6.size:=rfl
  rw [n6]
  have q3:=k3.1
  have q4:=k4.1
  have q5:h4.size < h5.size:=row_lt r5
  have q6:h5.size < h6.size:=row_lt r6
  have k37:=((k4.trans k5).trans k6).trans k7
  have st7:=st.keepN k37
  have sn:s7.n=ss.length:=by have:=st.sl.len; rw [List.length_map] at this; omega
  refine ⟨_,row_reads r7,rfl,appT_ok2 (m:=1) st7.sl rfl rfl (fun v hv=>by rw [List.mem_singleton.1 hv]; rfl) (by omega) (by omega) fun a' c' ob' h8 sa hx=>?_⟩
  have k78:Kept (fun b=>ob=some b) h7 h8:=hx.elim (fun z=>z.2) fun z=>z.2.mono fun _ _ f=>f.elim
  have obl:∀ b,ob=some b→h1.size ≤ b∧b < h3.size:=fun b hb=>⟨st.lob b hb,by obtain ⟨_,_,j,r,_⟩:=st.sl.row b hb; exact row_lt r⟩
  have q7:h6.size < h7.size:=row_lt r7
  have wlt:∀ b,W.foot b→h3.size ≤ b∧b < h4.size:=fun b hb=>⟨hf b hb,w.m.foot_lt hb⟩
  -- the new side
  have nf:∀ b,(Sd.foot ⟨h5.size,W,⟨h4.size,⟨none,0,0⟩,none,[]⟩⟩ b)→h3.size ≤ b∧b < h6.size:=fun b hb=>by
   rcases hb with e | e | e | e | ⟨_,e,_⟩
   ·have e:b=h5.size:=e; omega
   ·have:=wlt b e; omega
   ·have e:b=h4.size:=e; omega
   ·cases e
   ·cases e
  have df:∀ b,(DP.foot ⟨h4.size,⟨none,0,0⟩,none,[]⟩ b)→b=h4.size:=fun b hd=>by
   rcases hd with e | e | ⟨_,e,_⟩
   ·exact e
   ·cases e
   ·cases e
  have sp:SPre h7 ⟨h5.size,W,⟨h4.size,⟨none,0,0⟩,none,[]⟩⟩:=by
   refine ⟨kept_row k7 r6 _root_.id,((w.keepN k5).keepN k6).keepN k7,⟨kept_row k7 (kept_row k6 r5 _root_.id) _root_.id,slAt_nil 4 h7,nofun,nofun,nofun,Nat.zero_le _⟩,fun b hb hd=>?_,fun hb=>?_,fun hd=>?_⟩
   ·have:=wlt b hb
    have:=df b hd
    omega
   ·have:h5.size < h4.size:=(wlt _ hb).2
    omega
   ·have:h5.size=h4.size:=df _ hd
    omega
  have sr:SRep h7 ⟨h5.size,W,⟨h4.size,⟨none,0,0⟩,none,[]⟩⟩:=⟨sp,by show W.ws.map (·.w)=_; rw [hws]; rfl⟩
  generalize hSn:(⟨h5.size,W,⟨h4.size,⟨none,0,0⟩,none,[]⟩⟩:Sd)=Sn at nf sr
  have esb:Sn.sb=h5.size:=by rw [← hSn]
  have eW:Sn.W=W:=by rw [← hSn]
  have old:∀ S ∈ ss,∀ b,S.foot b→h1.size ≤ b∧b < h3.size:=fun S hS b hb=>⟨st.lo S hS b hb,(st.rep S hS).p.lt hb⟩
  have obl':∀ b,ob'=some b→ob=some b ∨ h7.size ≤ b:=fun b hb=>by
   rcases hx with ⟨e,_⟩ | ⟨e,_⟩
   ·exact .inl (e ▸ hb)
   ·rw [e] at hb
    obtain rfl:=Option.some.inj hb
    exact .inr (Nat.le_refl _)
  refine ⟨cnt - (ss ++ [Sn]).length,by rw [List.length_append,List.length_singleton]; omega,ss ++ [Sn],ob',by rw [List.length_append,List.length_singleton]; omega,rfl,(by first | rfl | trivial),(by first | rfl | trivial),(by first | rfl | trivial),by rw [nxt8 (by omega),List.length_append]; rfl,⟨?_,fun S hS=>?_,fun i j S T hij hS hT b hb1 hb2=>?_,fun S hS b hb1 hb2=>?_,fun S hS b hb1=>?_,fun b hb=>?_⟩,fun S hS=>?_,kept_fresh (k3.trans k37) k78 fun b hb=>(obl b hb).1⟩
  ·rw [List.map_append,List.map_singleton,esb]
   exact sa
  ·rcases List.mem_append.1 hS with hS | hS
   ·exact (st7.rep S hS).keep k78 fun b hb hb2=>st.od S hS b hb2 hb
   ·rw [List.mem_singleton.1 hS]
    exact sr.keep k78 fun b hb hb2=>by have:=nf b hb; have:=obl b hb2; omega
  ·have gA:∀ (i:Nat) (S:Sd),(ss ++ [Sn])[i]?=some S→(i < ss.length∧ss[i]?=some S) ∨ (i=ss.length∧S=Sn):=fun i S hS=>by
    by_cases hi:i < ss.length
    ·rw [List.getElem?_append_left hi] at hS; exact .inl ⟨hi,hS⟩
    ·rw [List.getElem?_append_right (by omega)] at hS
     obtain ⟨hl,e⟩:=List.getElem?_eq_some_iff.1 hS
     have:i - ss.length=0:=by simpa using hl
     refine .inr ⟨by omega,?_⟩
     simp only [this,List.getElem_cons_zero] at e
     exact e.symm
   rcases gA i S hS with ⟨hi,hS'⟩ | ⟨hi,rfl⟩
   ·rcases gA j T hT with ⟨hj,hT'⟩ | ⟨hj,rfl⟩
    ·exact st.dis i j S T hij hS' hT' b hb1 hb2
    ·have:=old S (List.mem_of_getElem? hS') b hb1; have:=nf b hb2; omega
   ·rcases gA j T hT with ⟨hj,hT'⟩ | ⟨hj,rfl⟩
    ·have:=old T (List.mem_of_getElem? hT') b hb2; have:=nf b hb1; omega
    ·omega
  ·rcases List.mem_append.1 hS with hS | hS
   ·rcases obl' b hb1 with e | e
    ·exact st.od S hS b e hb2
    ·have:=old S hS b hb2; omega
   ·rw [List.mem_singleton.1 hS] at hb2
    have:=nf b hb2
    rcases obl' b hb1 with e | e
    ·have:=obl b e; omega
    ·omega
  ·rcases List.mem_append.1 hS with hS | hS
   ·exact st.lo S hS b hb1
   ·rw [List.mem_singleton.1 hS] at hb1
    have:=nf b hb1
    omega
  ·rcases obl' b hb with e | e
   ·exact st.lob b e
   ·omega
  ·rcases List.mem_append.1 hS with hS | hS
   ·exact ht S hS
   ·rw [List.mem_singleton.1 hS,eW]; exact htu
 ·have el:ss.length=cnt:=by omega
  have xn:=x.n
  have xlt:=x.lt
  refine f20L2_rule (s7:=s7) (fun m t1 t2 t3 t7 s10 h'=>∃ (i:Nat) (ss:List Sd),i ≤ os.length∧m=os.length - i∧t1=t1∧t3=ad h.size∧s7=t7∧s10=(i:Int)∧i ≤ 2000∧ss.length=cnt∧Stg h' h1.size s7 ob ss∧(∀ S ∈ ss,S.W.turns ≤ i)∧Kept N h1 h') os.length
   ⟨0,ss,Nat.zero_le _,rfl,rfl,rfl,rfl,rfl,Nat.zero_le _,el,st,fun S hS=>by rw [ht S hS]; exact Nat.zero_le _,k3⟩ ?_
  clear st ht el hl hge
  rintro m t1 t2 t3 t7 s10 g2 h4 ⟨i,ss,hi',rfl,-,rfl,rfl,rfl,hi2,el,st,ht,k4⟩
  unfold f20L2
  have r4:=kept_row k4 r1 _root_.id
  have c41:cell h4 ((ad h.size).add 1)=some (.slice a.a a.n a.c):=by rw [add_ad]; exact (cell_row r4 1).trans rfl
  refine ⟨_,c41,Cond_dec (fun hlt=>?_) fun hge=>by unfold f20K1; exact Cond_f rfl (hR h4 (k1.trans k4))⟩
  unfold f20K1
  refine Cond_dec (fun hlt2=>?_) fun _=>hR h4 (k1.trans k4)
  obtain ⟨o,ho⟩:∃ o,os[i]?=some o:=⟨_,List.getElem?_eq_getElem (by omega)⟩
  have hom:=List.mem_of_getElem? ho
  have k04:=k1.trans k4
  have rd4:=reads_keptN k04 x.rd
  obtain ⟨pa,ea,g0⟩:=readsO_get rd4 ((flat_at opw_len os i 0 o ho (by omega)).trans rfl)
  have gg:∀ (j:Nat) (v:Value),j < 6→o.cells[j]?=some v→cell h4 ((pa.add (i * 6)).add j)=some v:=fun j v hj hv=>by
   obtain ⟨p',hp',c⟩:=readsO_get rd4 ((flat_at opw_len os i j o ho hj).trans hv)
   rw [ea] at hp'
   obtain rfl:=Option.some.inj hp'
   rw [add_add]; exact c
  refine ⟨_,c41,⟨by omega,by omega⟩,PtrOk_of ea ?_⟩
  rw [Int.toNat_natCast]
  refine ⟨_,g0,_,gg 1 _ (by omega) rfl,_,gg 2 _ (by omega) rfl,_,gg 3 _ (by omega) rfl,o.sl,gg 4 _ (by omega) rfl,_,gg 5 _ (by omega) rfl,own6 fun h5 r5 k5=>?_⟩
  have n4:nb h4=ad h4.size:=rfl
  rw [n4]
  have st5:=st.keepN k5
  have sn:s7.n=cnt:=by have:=st.sl.len; rw [List.length_map] at this; omega
  obtain ⟨d0,d1⟩:=andI_bd o.on (m:=1023) (by decide)
  have e23:andI .i64 o.on (1023:Int)=andI .i64 o.on ((1023:Nat):Int):=rfl
  have tm0:0 ≤ Int.tmod (andI .i64 o.on (1023:Int)) ((s7.n:Nat):Int):=Int.tmod_nonneg _ (by rw [e23]; exact d0)
  have tm1:Int.tmod (andI .i64 o.on (1023:Int)) ((s7.n:Nat):Int) < ((s7.n:Nat):Int):=Int.tmod_lt_of_pos _ (by omega)
  refine ⟨_,(cell_row r5 0).trans rfl,by omega,⟨tm0,tm1⟩,?_⟩
  obtain ⟨j,hj⟩:=Int.eq_ofNat_of_zero_le tm0
  have hj:Int.tmod (andI .i64 o.on (1023:Int)) ((s7.n:Nat):Int)=(j:Int):=hj
  rw [hj,Int.toNat_natCast]
  have hjl:j < ss.length:=by omega
  obtain ⟨S,hS⟩:∃ S,ss[j]?=some S:=⟨_,List.getElem?_eq_getElem hjl⟩
  have hSm:=List.mem_of_getElem? hS
  obtain ⟨q,hq,cq⟩:=readsO_get st5.sl.rd (show (ss.map fun S=>Value.pointer (some (ad S.sb)))[j]?=some (.pointer (some (ad S.sb))) by rw [List.getElem?_map,hS]; rfl)
  have cc:∀ (j:Nat) (v:Value),o.cells[j]?=some v→cell h5 ((ad h4.size).add j)=some v:=fun j v hv=>by rw [add_ad]; exact (cell_row r5 j).trans hv
  refine PtrOk_of hq ⟨_,by rw [Nat.mul_one]; exact cq,_,(cell_row r5 0).trans rfl,_,cc 1 _ rfl,_,cc 2 _ rfl,_,cc 3 _ rfl,o.sl,cc 4 _ rfl,_,cc 5 _ rfl,?_⟩
  have ok5:=((x.ok o hom).kept k04).kept k5
  have tS:=ht S hSm
  have q1:=k1.1
  refine plays_ok (st5.rep S hSm) ok5 (fun p hp hne hb=>?_) (by omega) fun h6 S' r6 esb htu t6=>⟨true,rfl,Cond_f rfl ?_⟩
  ·have:=(x.ok o hom).blk p hp hne
   have:=st.lo S hSm _ hb
   omega
  ·have k16:Kept N h1 h6:=kept_fresh (k4.trans k5) t6.1 fun b hb=>st.lo S hSm b hb
   unfold f20K2
   refine Cond_f rfl ⟨os.length - (i + 1),by omega,i + 1,ss.set j S',by omega,rfl,rfl,(by first | rfl | trivial),(by first | rfl | trivial),by rw [wr (by omega) (by omega)]; rfl,by omega,by rw [List.length_set]; exact el,st5.step hS r6 t6 esb (by have:=(k4.trans k5).1; exact this),fun T hT=>?_,k16⟩
   rcases (mem_set_iff hS).1 hT with rfl | ⟨i',_,hT⟩
   ·omega
   ·have:=ht T (List.mem_of_getElem? hT); omega
end
end Go.Ev
set_option linter.all false
set_option maxRecDepth 100000
namespace Go.Proofs.Ytfilpdcphgmhgaa
open Go.ChangeShapes Go.WideShapes Go.ChangeAt Go.RowKit
open Go.Ev (ReadsO iv slV I64 Sl Plc PlIn Opw OpwOk Scr plC)
theorem own:ownKnob Try.prog.godebug=none:=by kernel_rfl
theorem c3:Try.prog.cellsOf 3=1:=by kernel_rfl
theorem c9:Try.prog.cellsOf 9=1:=by kernel_rfl
theorem c22:Try.prog.cellsOf 22=1:=by kernel_rfl
theorem c24:Try.prog.cellsOf 24=2:=by kernel_rfl
theorem c28:Try.prog.cellsOf 28=1:=by kernel_rfl
theorem c29:Try.prog.cellsOf 29=1:=by kernel_rfl
theorem c31:Try.prog.cellsOf 31=6:=by kernel_rfl
theorem c40:Try.prog.cellsOf 40=2:=by kernel_rfl
theorem b40:Try.prog.bytesOf 40=24:=by kernel_rfl
theorem b31:Try.prog.bytesOf 31=64:=by kernel_rfl
theorem kids:Kids Try.prog (· < Try.prog.types.size):=kids_rows (by kernel_rfl) (by kernel_rfl)
theorem slices_some:∀ t e,t < Try.prog.types.size→Try.prog.underlying t=some (.slice e)→0 < Try.prog.cellsOf e:=by
 have h:(List.range Try.prog.types.size).all (fun t=>match Try.prog.underlying t with | some (.slice e)=>decide (0 < Try.prog.cellsOf e) | _=>true)=true:=by kernel_rfl
 intro t e ht hu
 have:=List.all_eq_true.1 h t (List.mem_range.2 ht)
 rw [hu] at this
 exact of_decide_eq_true this
section
variable {H:Type} {enc:TypeId × Value→H} {W:World}
theorem weightsAll_mem {P:Program} {e:TypeId}:∀ {ds:List (DataW H)} {d:DataW H},d ∈ ds→∀ n ∈ d.weights P e,n ∈ DataW.weightsAll P e ds
 | d0 :: ds,d,hd,n,hn=>by
  rw [DataW.weightsAll,List.mem_append]
  rcases List.mem_cons.1 hd with rfl | hd
  ·exact .inl hn
  ·exact .inr (weightsAll_mem hd n hn)
theorem block_lt {p:Addr} {v:Value} (h:Go.Ev.cell W.heap p=some v):p.block < W.heap.size:=by
 unfold Go.Ev.cell at h
 exact Nat.lt_of_not_le fun hl=>by
  rw [Array.getElem?_eq_none hl] at h
  cases h
theorem place_of {n:Nat} {cs:List Value} {x:DataW H × List MemPlace} (h:DataW.trod enc Try.prog W 0 (fun _=>true) true n 40 cs=some x):∃ p:Plc,cs=plC p:=by
 obtain ⟨xs,n,_,rfl,hl,hn,hel⟩:=DataW.trod_struct Try.underlying40 h
 rw [c40] at hl
 have e0:DataW.trod enc Try.prog W 0 (fun _=>true) true n 3 ((cs.drop 0).take (Try.prog.cellsOf 3))=xs[0]?:=hel 0 _ rfl
 have e1:DataW.trod enc Try.prog W 0 (fun _=>true) true n 9 ((cs.drop 1).take (Try.prog.cellsOf 9))=xs[1]?:=hel 1 _ rfl
 rw [c3] at e0
 rw [c9] at e1
 match xs,hn with
 | [x0,x1],_ =>
  match cs,hl with
  | [v0,v1],_ =>
   obtain ⟨n0,a0,_,_⟩:=DataW.trod_int Try.underlying3 (show DataW.trod enc Try.prog W 0 (fun _=>true) true n 3 [v0]=some x0 from e0)
   obtain ⟨s,a1,_,_⟩:=DataW.trod_string Try.underlying9 (show DataW.trod enc Try.prog W 0 (fun _=>true) true n 9 [v1]=some x1 from e1)
   simp only [List.cons.injEq,and_true] at a0 a1
   exact ⟨(n0,s),by rw [a0,a1]; rfl⟩
theorem places_of {n:Nat} {v:Value} {x:DataW H × List MemPlace} (h:DataW.trod enc Try.prog W 0 (fun _=>true) true n 28 [v]=some x) (hw:∀ m ∈ x.1.weights Try.prog 28,m ≤ reachBytes) :
  ∃ (d:Sl) (ps:List Plc),v=slV d∧PlIn W.heap d ps∧ps.length < 11000000000000∧∀ p,d.a=some p→ps ≠ []→p.block < W.heap.size:=by
 rcases DataW.trod_slice Try.underlying28 h with ⟨hc,rfl⟩ | ⟨a,len,cap,elems,rest,k,_,hc,rfl,_,hlc,_,hlen,hel3,_,_⟩
 ·exact ⟨⟨none,0,0⟩,[],(List.cons.inj hc).1,⟨rfl,rfl,Nat.le_refl _⟩,by decide,fun _ _ z=>absurd rfl z⟩
 ·rw [c40] at hel3
  have hw1:=hw ((elems.length + rest.length) * Try.prog.bytesOf 40) (by
   simp only [DataW.weights,Try.underlying28,List.mem_cons]
   exact .inl (by rw [List.length_map,List.length_map]))
  rw [b40] at hw1
  have hr:=reachBytes_lt
  have each:∀ i,i < len→∃ p:Plc,∀ j v,(plC p)[j]?=some v→Go.Ev.cell W.heap (a.add (i * 2 + j))=some v:=fun i hi=>by
   have h1:=hel3 i hi
   have hi2:i < elems.length:=by omega
   rw [List.getElem?_eq_getElem hi2] at h1
   obtain ⟨cs1,hc1,hd⟩:=Option.bind_eq_some_iff.1 h1
   obtain ⟨_,hcl,hcc⟩:=World.cells?_some hc1
   obtain ⟨p,hp⟩:=place_of hd
   refine ⟨p,fun j v hj=>?_⟩
   have hjl:j < 2:=(List.getElem?_eq_some_iff.1 hj).1
   have h3:Go.Ev.cell W.heap ((a.add (i * 2)).add j)=cs1[j]?:=hcc j hjl
   rw [← Go.Ev.add_add,h3,hp,hj]
  obtain ⟨f,hf⟩:∃ f:Nat→Plc,∀ i,i < len→∀ j v,(plC (f i))[j]?=some v→Go.Ev.cell W.heap (a.add (i * 2 + j))=some v :=
   ⟨fun i=>if hi:i < len then (each i hi).choose else (0,⟨#[]⟩),fun i hi=>by dsimp only; rw [dif_pos hi]; exact (each i hi).choose_spec⟩
  refine ⟨⟨some a,len,cap⟩,(List.range len).map f,(List.cons.inj hc).1,⟨?_,by simp,hlc⟩,by rw [List.length_map,List.length_range]; omega,fun p hp hne=>?_⟩
  ·intro j v hj
   have hjl:j < len * 2:=by
    have:=(List.getElem?_eq_some_iff.1 hj).1
    rw [Go.Ev.flat_len (sz:=2) (fun _=>rfl)] at this
    simpa using this
   have hd:j=j / 2 * 2 + j % 2:=by omega
   have hi:j / 2 < len:=by omega
   have h4:=Go.Ev.flat_at (sz:=2) (f:=plC) (fun _=>rfl) ((List.range len).map f) (j / 2) (j % 2) (f (j / 2)) (by rw [List.getElem?_map,List.getElem?_range hi]; rfl) (by omega)
   rw [← hd,hj] at h4
   have:=hf (j / 2) hi (j % 2) v h4.symm
   rwa [← hd] at this
  ·obtain rfl:=Option.some.inj hp
   have h0:0 < len:=Nat.pos_of_ne_zero fun e=>hne (by rw [e]; rfl)
   exact block_lt (hf 0 h0 0 _ rfl)
theorem opw_of {n:Nat} {cs:List Value} {x:DataW H × List MemPlace} (h:DataW.trod enc Try.prog W 0 (fun _=>true) true n 31 cs=some x) (hw:∀ m ∈ x.1.weights Try.prog 31,m ≤ reachBytes):∃ o:Opw,cs=o.cells∧OpwOk W.heap o:=by
 obtain ⟨xs,n,_,rfl,hl,hn,hel⟩:=DataW.trod_struct Try.underlying31 h
 rw [c31] at hl
 have e0:DataW.trod enc Try.prog W 0 (fun _=>true) true n 3 ((cs.drop 0).take (Try.prog.cellsOf 3))=xs[0]?:=hel 0 _ rfl
 have e1:DataW.trod enc Try.prog W 0 (fun _=>true) true n 3 ((cs.drop 1).take (Try.prog.cellsOf 3))=xs[1]?:=hel 1 _ rfl
 have e2:DataW.trod enc Try.prog W 0 (fun _=>true) true n 3 ((cs.drop 2).take (Try.prog.cellsOf 3))=xs[2]?:=hel 2 _ rfl
 have e3:DataW.trod enc Try.prog W 0 (fun _=>true) true n 3 ((cs.drop 3).take (Try.prog.cellsOf 3))=xs[3]?:=hel 3 _ rfl
 have e4:DataW.trod enc Try.prog W 0 (fun _=>true) true n 28 ((cs.drop 4).take (Try.prog.cellsOf 28))=xs[4]?:=hel 4 _ rfl
 have e5:DataW.trod enc Try.prog W 0 (fun _=>true) true n 29 ((cs.drop 5).take (Try.prog.cellsOf 29))=xs[5]?:=hel 5 _ rfl
 rw [c3] at e0 e1 e2 e3
 rw [c28] at e4
 rw [c29] at e5
 match xs,hn with
 | [x0,x1,x2,x3,x4,x5],_ =>
  match cs,hl with
  | [v0,v1,v2,v3,v4,v5],_ =>
   obtain ⟨n0,a0,_,w0⟩:=DataW.trod_int Try.underlying3 (show DataW.trod enc Try.prog W 0 (fun _=>true) true n 3 [v0]=some x0 from e0)
   obtain ⟨n1,a1,_,w1⟩:=DataW.trod_int Try.underlying3 (show DataW.trod enc Try.prog W 0 (fun _=>true) true n 3 [v1]=some x1 from e1)
   obtain ⟨n2,a2,_,w2⟩:=DataW.trod_int Try.underlying3 (show DataW.trod enc Try.prog W 0 (fun _=>true) true n 3 [v2]=some x2 from e2)
   obtain ⟨n3,a3,_,w3⟩:=DataW.trod_int Try.underlying3 (show DataW.trod enc Try.prog W 0 (fun _=>true) true n 3 [v3]=some x3 from e3)
   obtain ⟨d,ps,a4,d1,d2,d3⟩:=places_of (show DataW.trod enc Try.prog W 0 (fun _=>true) true n 28 [v4]=some x4 from e4) (fun m hm=>hw m (by
    simp only [DataW.weights,Try.underlying31]
    exact DataW.weights_mem_each (j:=4) (t:=28) rfl rfl m hm))
   obtain ⟨n5,a5,_,w5⟩:=DataW.trod_int Try.underlying29 (show DataW.trod enc Try.prog W 0 (fun _=>true) true n 29 [v5]=some x5 from e5)
   simp only [List.cons.injEq,and_true] at a0 a1 a2 a3 a5
   refine ⟨⟨n0,n1,n2,n3,d,ps,n5⟩,?_,⟨d1,d2,d3,(bounds_u64 w5).1⟩⟩
   rw [a0,a1,a2,a3,a4,a5]
   rfl
theorem wscript_of {n:Nat} {cs:List Value} {x:DataW H × List MemPlace} (h:DataW.trod enc Try.prog W 0 (fun _=>true) true n 24 cs=some x) (hw:∀ m ∈ x.1.weights Try.prog 24,m ≤ reachBytes) :
  ∃ (many:Int) (sl:Sl) (ops:List Opw),cs=[.int .i64 many,.slice sl.a sl.n sl.c]∧Scr W.heap sl ops:=by
 obtain ⟨xs,n,_,rfl,hl,hn,hel⟩:=DataW.trod_struct Try.underlying24 h
 rw [c24] at hl
 have e0:DataW.trod enc Try.prog W 0 (fun _=>true) true n 3 ((cs.drop 0).take (Try.prog.cellsOf 3))=xs[0]?:=hel 0 _ rfl
 have e1:DataW.trod enc Try.prog W 0 (fun _=>true) true n 22 ((cs.drop 1).take (Try.prog.cellsOf 22))=xs[1]?:=hel 1 _ rfl
 rw [c3] at e0
 rw [c22] at e1
 match xs,hn with
 | [x0,x1],_ =>
  match cs,hl with
  | [v0,v1],_ =>
   obtain ⟨n0,a0,_,w0⟩:=DataW.trod_int Try.underlying3 (show DataW.trod enc Try.prog W 0 (fun _=>true) true n 3 [v0]=some x0 from e0)
   simp only [List.cons.injEq,and_true] at a0
   subst a0
   have hw1:∀ m ∈ x1.1.weights Try.prog 22,m ≤ reachBytes:=fun m hm=>hw m (by
    simp only [DataW.weights,Try.underlying24]
    exact DataW.weights_mem_each (j:=1) (t:=22) rfl rfl m hm)
   rcases DataW.trod_slice Try.underlying22 (show DataW.trod enc Try.prog W 0 (fun _=>true) true n 22 [v1]=some x1 from e1) with ⟨hc,rfl⟩ | ⟨a,len,cap,elems,rest,k,_,hc,rfl,_,hlc,_,hlen,hel3,_,_⟩
   ·simp only [List.cons.injEq,and_true] at hc
    subst hc
    exact ⟨n0,⟨none,0,0⟩,[],rfl,rfl,rfl,by decide,nofun,fun _ _ z=>absurd rfl z⟩
   ·simp only [List.cons.injEq,and_true] at hc
    subst hc
    rw [c31] at hel3
    have hw2:=hw1 ((elems.length + rest.length) * Try.prog.bytesOf 31) (by
     simp only [DataW.weights,Try.underlying22,List.mem_cons]
     exact .inl (by rw [List.length_map,List.length_map]))
    rw [b31] at hw2
    have hr:=reachBytes_lt
    have each:∀ i,i < len→∃ o:Opw,OpwOk W.heap o∧∀ j v,o.cells[j]?=some v→Go.Ev.cell W.heap (a.add (i * 6 + j))=some v:=fun i hi=>by
     have h1:=hel3 i hi
     have hi2:i < elems.length:=by omega
     rw [List.getElem?_eq_getElem hi2] at h1
     obtain ⟨cs1,hc1,hd⟩:=Option.bind_eq_some_iff.1 h1
     obtain ⟨_,hcl,hcc⟩:=World.cells?_some hc1
     obtain ⟨o,ho,hok⟩:=opw_of hd (fun m hm=>hw1 m (by
      simp only [DataW.weights,Try.underlying22,List.mem_cons,List.mem_append]
      exact .inr (.inl (weightsAll_mem (List.mem_map.2 ⟨_,List.getElem_mem hi2,rfl⟩) m hm))))
     refine ⟨o,hok,fun j v hj=>?_⟩
     have hjl:j < 6:=(List.getElem?_eq_some_iff.1 hj).1
     have h3:Go.Ev.cell W.heap ((a.add (i * 6)).add j)=cs1[j]?:=hcc j hjl
     rw [← Go.Ev.add_add,h3,ho,hj]
    obtain ⟨f,hf⟩:∃ f:Nat→Opw,∀ i,i < len→OpwOk W.heap (f i)∧∀ j v,(f i).cells[j]?=some v→Go.Ev.cell W.heap (a.add (i * 6 + j))=some v :=
     ⟨fun i=>if hi:i < len then (each i hi).choose else ⟨0,0,0,0,⟨none,0,0⟩,[],0⟩,fun i hi=>by dsimp only; rw [dif_pos hi]; exact (each i hi).choose_spec⟩
    refine ⟨n0,⟨some a,len,cap⟩,(List.range len).map f,rfl,?_,by simp,by rw [List.length_map,List.length_range]; omega,fun o ho=>?_,fun p hp hne=>?_⟩
    ·intro j v hj
     have hjl:j < len * 6:=by
      have:=(List.getElem?_eq_some_iff.1 hj).1
      rw [Go.Ev.flat_len (sz:=6) (fun _=>rfl)] at this
      simpa using this
     have hd:j=j / 6 * 6 + j % 6:=by omega
     have hi:j / 6 < len:=by omega
     have h4:=Go.Ev.flat_at (sz:=6) (f:=Opw.cells) (fun _=>rfl) ((List.range len).map f) (j / 6) (j % 6) (f (j / 6)) (by rw [List.getElem?_map,List.getElem?_range hi]; rfl) (by omega)
     rw [← hd,hj] at h4
     have:=(hf (j / 6) hi).2 (j % 6) v h4.symm
     rwa [← hd] at this
    ·obtain ⟨i,hi,rfl⟩:=List.mem_map.1 ho
     exact (hf i (List.mem_range.1 hi)).1
    ·obtain rfl:=Option.some.inj hp
     have h0:0 < len:=Nat.pos_of_ne_zero fun e=>hne (by rw [e]; rfl)
     exact block_lt ((hf 0 h0).2 0 _ rfl)
theorem kept_all {W W':World} (hs:Go.Ev.Same W W') (hk:Go.Ev.Kept Go.Ev.N W.heap W'.heap) (may:MemPlace→Prop):W.keptBut W' may:=by
 refine ⟨hs.1,hs.2.2,fun i hi=>?_⟩
 rw [hk.2 i hi id]
 cases h:W.heap[i]? with
 | none=>rfl
 | some o =>
  cases o <;> first | exact rfl | exact ⟨rfl,rfl,rfl,fun _ _=>rfl⟩ | exact .inr ⟨rfl,rfl⟩
theorem same_all {W W':World} (hk:Go.Ev.Kept Go.Ev.N W.heap W'.heap) {p:MemPlace} (hp:p.block < W.heap.size):W.sameAt W' p:=by
 cases p with
 | cell b off =>
  show Go.Ev.cell W'.heap ⟨b,off,none⟩=Go.Ev.cell W.heap ⟨b,off,none⟩
  unfold Go.Ev.cell
  rw [hk.2 b hp id]
 | map b=>exact hk.2 b hp id
end
end Go.Proofs.Ytfilpdcphgmhgaa
set_option linter.all false
set_option maxRecDepth 1000000
namespace Go.Ev
open Go.Proofs
section
variable {h:Hp} {R:Value→Hp→Prop}
theorem waitBlocks_ok {a:Sl} {os:List Opw} (x:Scr h a os) {many:Int} (hR:∀ h',Kept N h h'→R (.bool true) h'):CallTo Try.prog 4 #[.agg #[.int .i64 many,.slice a.a a.n a.c]] h R:=by
 refine f4F_ok (a0_1:=a) ?_
 unfold f4F
 refine Let_mk fun h1 e1=>?_
 have k1:Kept N h h1:=e1 ▸ kept_push _ _ _
 have r1:Row h1 h.size [.int .i64 many,.slice a.a a.n a.c]:=e1 ▸ row_new h _ 24
 have n1:nb h=ad h.size:=rfl
 rw [n1]
 exact ⟨_,(cell_row r1 0).trans rfl,a,by rw [add_ad]; exact (cell_row r1 1).trans rfl,holds_ok (x.kept k1) fun h2 k2=>⟨true,rfl,hR h2 (k1.trans k2)⟩⟩
theorem waitNext_ok {a:Sl} {os:List Opw} (x:Scr h a os) {many:Int} (hR:∀ h',Kept N h h'→R (.bool true) h'):CallTo Try.prog 5 #[.agg #[.int .i64 many,.slice a.a a.n a.c]] h R:=by
 refine f5F_ok (a0_1:=a) ?_
 unfold f5F
 refine Let_mk fun h1 e1=>?_
 have k1:Kept N h h1:=e1 ▸ kept_push _ _ _
 have r1:Row h1 h.size [.int .i64 many,.slice a.a a.n a.c]:=e1 ▸ row_new h _ 24
 have n1:nb h=ad h.size:=rfl
 rw [n1]
 exact ⟨_,(cell_row r1 0).trans rfl,a,by rw [add_ad]; exact (cell_row r1 1).trans rfl,holds_ok (x.kept k1) fun h2 k2=>⟨true,rfl,hR h2 (k1.trans k2)⟩⟩
theorem waitDue_ok {a:Sl} {os:List Opw} (x:Scr h a os) {many:Int} (hR:∀ h',Kept N h h'→R (.bool true) h'):CallTo Try.prog 6 #[.agg #[.int .i64 many,.slice a.a a.n a.c]] h R:=by
 refine f6F_ok (a0_1:=a) ?_
 unfold f6F
 refine Let_mk fun h1 e1=>?_
 have k1:Kept N h h1:=e1 ▸ kept_push _ _ _
 have r1:Row h1 h.size [.int .i64 many,.slice a.a a.n a.c]:=e1 ▸ row_new h _ 24
 have n1:nb h=ad h.size:=rfl
 rw [n1]
 exact ⟨_,(cell_row r1 0).trans rfl,a,by rw [add_ad]; exact (cell_row r1 1).trans rfl,holds_ok (x.kept k1) fun h2 k2=>⟨true,rfl,hR h2 (k1.trans k2)⟩⟩
theorem waitTells_ok {a:Sl} {os:List Opw} (x:Scr h a os) {many:Int} (hR:∀ h',Kept N h h'→R (.bool true) h'):CallTo Try.prog 7 #[.agg #[.int .i64 many,.slice a.a a.n a.c]] h R:=by
 refine f7F_ok (a0_1:=a) ?_
 unfold f7F
 refine Let_mk fun h1 e1=>?_
 have k1:Kept N h h1:=e1 ▸ kept_push _ _ _
 have r1:Row h1 h.size [.int .i64 many,.slice a.a a.n a.c]:=e1 ▸ row_new h _ 24
 have n1:nb h=ad h.size:=rfl
 rw [n1]
 exact ⟨_,(cell_row r1 0).trans rfl,a,by rw [add_ad]; exact (cell_row r1 1).trans rfl,holds_ok (x.kept k1) fun h2 k2=>⟨true,rfl,hR h2 (k1.trans k2)⟩⟩
theorem waitExact_ok {a:Sl} {os:List Opw} (x:Scr h a os) {many:Int} (hR:∀ h',Kept N h h'→R (.bool true) h'):CallTo Try.prog 8 #[.agg #[.int .i64 many,.slice a.a a.n a.c]] h R:=by
 refine f8F_ok (a0_1:=a) ?_
 unfold f8F
 refine Let_mk fun h1 e1=>?_
 have k1:Kept N h h1:=e1 ▸ kept_push _ _ _
 have r1:Row h1 h.size [.int .i64 many,.slice a.a a.n a.c]:=e1 ▸ row_new h _ 24
 have n1:nb h=ad h.size:=rfl
 rw [n1]
 exact ⟨_,(cell_row r1 0).trans rfl,a,by rw [add_ad]; exact (cell_row r1 1).trans rfl,holds_ok (x.kept k1) fun h2 k2=>⟨true,rfl,hR h2 (k1.trans k2)⟩⟩
end
end Go.Ev
