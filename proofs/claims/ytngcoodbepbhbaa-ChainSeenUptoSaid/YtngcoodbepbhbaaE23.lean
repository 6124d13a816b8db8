/- ChainSeen: the range over a closed list / ChainSeen: the law's own call. No condition but that these are ones. -/
import Derived.Test.YtngcoodbepbhbaaE22
set_option linter.all false
set_option maxRecDepth 1000000
namespace Go.Ev
open Go.Proofs
section
variable {h h' h2 h0 h1 hB hS:Hp} {q q' q2 qB:HQ} {s s' s2:RS} {nd nd' nd2:List NodeD} {id lb hn lim:Nat} {L L' L2:LD} {R:Value→Hp→Prop} {b:List Nat} {rows w T:List (List Nat)} {M:Mem} {cs vcs:List Nat} {r:List Nat} {c vb cb l db b7 b8 b10 b11 b12 b13 b14 b15:Nat} {a a3 a4:Sl} {sls:List Sl} {ops:List OpD} {most:Int} {sh cl:Bool} {k:Nat} {rc:Loop} {vc:List Value}
theorem over0_ok (x:Shut h q s nd lb lim) (hv:Lc h q vb (.pointer (some (ad q.hb)) :: vc)) (hcb:Lc h q cb [.pointer (some (ad lb))]) (k0:Kept N h0 h) (f0:Frsh h0 q) (o1:h0.size ≤ lb) (vlb:vb ≠ lb)
  (hR:∀ h',Shut h' q s nd lb lim→Kx lb h q h' q→R (.bool true) h') :
  CallTo Try.prog 37 #[.pointer (some (ad vb)),.pointer (some (ad lb)),.func (.func 62) #[] #[.pointer (some (ad cb))],.slice none 0 0,.slice a4.a a4.n a4.c,.int .i64 most,.bool sh] h R:=by
 have lt:=row_lt x.l.row
 refine f37F_ok (a3:=⟨none,0,0⟩) ?_
 unfold f37F
 refine Let_mk fun h1 e1=>Let_mk fun h2 e2=>Let_mk fun h3 e3=>Let_mk fun h4 e4=>Let_mk fun h5 e5=>Let_mk fun h6 e6=>Let_mk fun h7 e7=>Let_mk fun h8 e8=>?_
 have k1:Kept N h h1:=e1 ▸ kept_push _ _ _
 have k2:Kept N h1 h2:=e2 ▸ kept_push _ _ _
 have k3:Kept N h2 h3:=e3 ▸ kept_push _ _ _
 have k4:Kept N h3 h4:=e4 ▸ kept_push _ _ _
 have k5:Kept N h4 h5:=e5 ▸ kept_push _ _ _
 have k6:Kept N h5 h6:=e6 ▸ kept_push _ _ _
 have k7:Kept N h6 h7:=e7 ▸ kept_push _ _ _
 have k8:Kept N h7 h8:=e8 ▸ kept_push _ _ _
 have r7:Row h1 h.size [.pointer (some (ad vb))]:=e1 ▸ row_new h #[.pointer (some (ad vb))] _
 have r8:Row h2 h1.size [.pointer (some (ad lb))]:=e2 ▸ row_new h1 #[.pointer (some (ad lb))] _
 have r10:Row h3 h2.size [.slice none 0 0]:=e3 ▸ row_new h2 #[.slice none 0 0] _
 have r11:Row h4 h3.size [.slice a4.a a4.n a4.c]:=e4 ▸ row_new h3 #[.slice a4.a a4.n a4.c] _
 have r12:Row h5 h4.size [.int .i64 most]:=e5 ▸ row_new h4 #[.int .i64 most] _
 have r13:Row h6 h5.size [.bool sh]:=e6 ▸ row_new h5 #[.bool sh] _
 have r14:Row h7 h6.size [.bool false]:=e7 ▸ row_new h6 #[.bool false] _
 have r15:Row h8 h7.size [.int .i64 0]:=e8 ▸ row_new h7 #[.int .i64 0] _
 clear e1 e2 e3 e4 e5 e6 e7 e8
 have z7:=row_lt r7; have z8:=row_lt r8; have z10:=row_lt r10; have z11:=row_lt r11; have z12:=row_lt r12; have z13:=row_lt r13; have z14:=row_lt r14; have z15:=row_lt r15
 simp only [show ∀ g:Hp,nb g=ad g.size from fun _=>rfl]
 generalize g7:h.size=b7 at *
 generalize g8:h1.size=b8 at *
 generalize g10:h2.size=b10 at *
 generalize g11:h3.size=b11 at *
 generalize g12:h4.size=b12 at *
 generalize g13:h5.size=b13 at *
 generalize g14:h6.size=b14 at *
 generalize g15:h7.size=b15 at *
 refine row_st r15 (i:=0) rfl (by simp) fun h9 r15' k9=>?_
 have k08:Kept N h h8:=kept_tr k1 (kept_tr k2 (kept_tr k3 (kept_tr k4 (kept_tr k5 (kept_tr k6 (kept_tr k7 k8))))))
 have k09:Kept N h h9:=kept_base k08 (S:=fun b=>b=b15) (fun b hb=>by omega) k9
 have z9:=k9.1
 refine ⟨62,#[],#[.pointer (some (ad cb))],rfl,tab_ok.callee 62 (by kernel_rfl),fun fn gl=>?_⟩
 generalize hH:((h9.push (.deferred (some []))).push (.loop (recL fn (mkEnv 77 [(7,.pointer (some (ad b7))),(8,.pointer (some (ad b8))),(10,.pointer (some (ad b10))),(11,.pointer (some (ad b11))),(12,.pointer (some (ad b12))),(13,.pointer (some (ad b13))),(14,.pointer (some (ad b14))),(15,.pointer (some (ad b15)))] gl) #[19,20] (rfA (sub [1,1,0,1,0] body37)) (rfB (sub [1,1,0,1,0] body37)) h9.size .ready none)))=H
 have kH:Kept N h9 H:=by rw [← hH]; exact kept_tr (kept_push _ _ _) (kept_push _ _ _)
 have hsz:H.size=h9.size + 2:=by rw [← hH]; simp
 have hdb:H[h9.size]?=some (.deferred (some [])):=by
  rw [← hH]
  have e0:(h9.push (.deferred (some [])))[h9.size]?=some (.deferred (some [])):=by simp
  exact (push_old _ _ (by simp)).trans e0
 have hlp:H[h9.size + 1]?=some (.loop (f37Rec1 (ad b7) (ad b8) (ad b10) (ad b11) (ad b12) (ad b13) (ad b14) (ad b15) gl fn h9.size .ready none)):=by
  rw [← hH]
  have:(h9.push (.deferred (some []))).size=h9.size + 1:=by simp
  rw [← this]
  exact Array.getElem?_push_size
 clear hH
 generalize hl:h9.size + 1=l at *
 generalize hd:h9.size=db at *
 have d:Ord h0 h H vb lb b7 b8 b10 b11 b12 b13 b14 b15 db l:=⟨k0.1,o1,by omega,vlb,by omega,by omega,by omega,by omega,by omega,by omega,by omega,by omega,by omega,by omega,by omega⟩
 have fr:∀ b,h.size ≤ b→q.role b=.out:=fun b hb=>x.g.st.fr hb
 have up:∀ {b:Nat} {cs:List Value} {g:Hp},Row g b cs→h.size ≤ b→Kept (fun b=>b=b15) g H→b ≠ b15→Lc H q b cs:=fun {b cs g} rg hb kg hne=>⟨kept_row kg rg hne,fr b hb⟩
 have kk8:Kept (fun b=>b=b15) h8 H:=⟨Nat.le_trans k9.1 kH.1,fun b hb hne=>(kH.2 b (Nat.lt_of_lt_of_le hb k9.1) _root_.id).trans (k9.2 b hb hne)⟩
 have kup:∀ {g g':Hp},Kept N g g'→Kept (fun b=>b=b15) g' H→Kept (fun b=>b=b15) g H:=fun {g g'} a b=>⟨Nat.le_trans a.1 b.1,fun i hi hne=>(b.2 i (Nat.lt_of_lt_of_le hi a.1) hne).trans (a.2 i hi _root_.id)⟩
 have kk7:=kup k8 kk8; have kk6:=kup k7 kk7; have kk5:=kup k6 kk6; have kk4:=kup k5 kk5; have kk3:=kup k4 kk4; have kk2:=kup k3 kk3; have kk1:=kup k2 kk2
 have kh:Kept N h H:=kept_tr k09 kH
 have eH:Env h h0 H q vb lb ⟨none,0,0⟩ a4 [] [] most sh b7 b8 b10 b11 b12 b13 b14 b15 0 :=
  ⟨up r7 (by omega) kk1 (by omega),up r8 (by omega) kk2 (by omega),up r10 (by omega) kk3 (by omega),up r11 (by omega) kk4 (by omega),up r12 (by omega) kk5 (by omega),up r13 (by omega) kk6 (by omega),up r14 (by omega) kk7 (by omega),⟨kept_row kH r15' _root_.id,fr b15 (by omega)⟩,
   ⟨vc,hv.keep kh _root_.id⟩,by have:=row_lt hv.1; omega,⟨rfl,rfl,rfl,(fun i c r hc=>by cases hc),(fun p hp=>by cases hp)⟩,(fun p hp=>by cases hp),(fun i c r hc=>by cases hc),kept_tr k0 kh,f0⟩
 have xH:Shut H q s nd lb lim:=⟨x.g.keepN kh,x.l.keepN kh,x.rt,x.rl,x.lim⟩
 refine all0_ok (yl:=l) xH.l (hcb.keep kh _root_.id).at0 ?_
 refine ⟨.ready,none,hlp,nofun,?_⟩
 have lt3:l < H.size:=obj_lt hlp
 show f37N (ad b10) (ad b12) (ad b14) (ad b15) db _ R
 generalize hg4:H.setIfInBounds l (.loop (recL fn (mkEnv 77 [(7,.pointer (some (ad b7))),(8,.pointer (some (ad b8))),(10,.pointer (some (ad b10))),(11,.pointer (some (ad b11))),(12,.pointer (some (ad b12))),(13,.pointer (some (ad b13))),(14,.pointer (some (ad b14))),(15,.pointer (some (ad b15)))] gl) #[19,20] (rfA (sub [1,1,0,1,0] body37)) (rfB (sub [1,1,0,1,0] body37)) db .exhausted none))=g4
 have j4:Kept (fun b=>b=l) H g4:=hg4 ▸ kept_obj lt3
 clear hg4
 have E4:=eH.keep j4 (by omega) k0.1 fun b cs hb hh=>by omega
 have ho:q.role l=.out:=fr l (by omega)
 have kxH:Kx lb h q H q:=(Kx.refl h q).ex (Ex.of_kept kh fr)
 have hdH:Lo H q db (.deferred (some [])):=⟨hdb,fr db (by omega)⟩
 have ocH:OC true H q s nd lb lim:=xH
 have oc4:OC true g4 q s nd lb lim:=ocH.write j4 ho (by omega)
 have hd4:Lo g4 q db (.deferred (some [])):=hdH.keep j4 (by show ¬ db=l; omega)
 have kx4:Kx lb h q g4 q:=kxH.keep j4 fun b hb hlt=>by omega
 exact fin37 (hS:=H) (qB:=q) (cl:=true) oc4 E4 d kx4 hd4 (.inl rfl) fun h' oc' kx'=>hR h' oc' kx'
end
end Go.Ev
set_option linter.all false
set_option maxRecDepth 1000000
namespace Go.Ev
open Go.Proofs
section
variable {h h' h2 h0 h1:Hp} {q q' q2:HQ} {s s' s2:RS} {nd nd' nd2:List NodeD} {id lb hn lim:Nat} {L L' L2:LD} {R:Value→Hp→Prop} {b:List Nat} {rows w:List (List Nat)} {M:Mem} {cs:List Nat} {r:List Nat} {c vb cb:Nat} {a a1:Sl} {sls:List Sl} {ops:List OpD} {w6:Sl} {l6:List Sl}
/-- Slices that are laid into a slice of one's own. -/
structure Wt (h0 h:Hp) (q:HQ) (M:Mem) (w:Sl) (l:List Sl):Prop where
 sep:Sep h M
 sl:IsSl 1 M 0 w (l.map slV)
 own:∀ b,M.own b→h0.size ≤ b∧q.role b=.out
theorem Wt.ex (x:Wt h0 h q M w6 l6) (e:Ex h q h' q'):Wt h0 h' q' M w6 l6 :=
 ⟨x.sep.keep e.kept fun b hb hn=>hn (x.own b hb).2,x.sl,fun b hb=>⟨(x.own b hb).1,e.out (x.sep.own_lt hb) (x.own b hb).2⟩⟩
theorem Wt.keepN (x:Wt h0 h q M w6 l6) (k:Kept N h h'):Wt h0 h' q M w6 l6:=⟨x.sep.keepN k,x.sl,x.own⟩
theorem Wt.len (x:Wt h0 h q M w6 l6):w6.n=l6.length:=by have:=x.sl.len; rw [List.length_map] at this; omega
theorem Wt.add (x:Wt h0 h q M w6 l6) (fr:∀ b,h.size ≤ b→q.role b=.out) (h0le:h0.size ≤ h.size) (hl:l6.length ≤ 100000000) {c:Sl} {t e:TypeId} {K:Option Addr→Nat→Nat→Hp→Prop}
  (hK:∀ a' c' h2 M',Wt h0 h2 q M' ⟨a',w6.n + 1,c'⟩ (l6 ++ [c])→Kept M.own h h2→K a' (w6.n + 1) c' h2) :
  Let (h.push (.cells #[.slice c.a c.n c.c] t)) fun h2=>appSl e 1 24 #[.slice none 0 0] w6.a w6.n w6.c (some (nb h)) 1 h2 K:=by
 have hwn:=x.len
 refine x.sl.app1 x.sep rfl rfl (fun v hv=>by rw [List.mem_singleton.1 hv]; rfl) (by omega) (by omega) fun a' c' h2 ob cc p2 sl2 ch2=>?_
 exact hK a' c' h2 (M.upd 0 ob cc) ⟨p2,by rw [List.map_append]; exact sl2,fun b hb=>(ch2.2 b hb).elim (x.own b) fun z=>⟨Nat.le_trans h0le z,fr b z⟩⟩ ch2.1
/-- What goes along with the list. -/
structure Wd (h1 g:Hp) (q:HQ) (vb lb:Nat):Prop where
 hv:∃ vc,Lc g q vb (.pointer (some (ad q.hb)) :: vc)
 k:Kept N h1 g
 F:Frsh h1 q
theorem Wd.ex (x:Wd h1 h q vb lb) (e:Ex h q h' q'):Wd h1 h' q' vb lb:=⟨(by obtain ⟨vc,y⟩:=x.hv; exact ⟨vc,by rw [e.1]; exact y.ex e⟩),x.F.kept x.k e,x.F.ex x.k.1 e⟩
theorem Wd.keepN (x:Wd h1 h q vb lb) (k:Kept N h h'):Wd h1 h' q vb lb:=⟨(by obtain ⟨vc,y⟩:=x.hv; exact ⟨vc,y.keep k _root_.id⟩),kept_tr x.k k,x.F⟩
theorem Wd.kx (x:Wd h1 h q vb lb) (kx:Kx lb h q h' q') (n1:vb ≠ lb) (n2:h1.size ≤ lb):Wd h1 h' q' vb lb:=by
 refine ⟨?_,⟨Nat.le_trans x.k.1 kx.2.1,fun b hb _=>((kx.2.2 b (Nat.lt_of_lt_of_le hb x.k.1) (x.F.old hb)).2 (by omega)).trans (x.k.2 b hb _root_.id)⟩,fun b hb=>Classical.byContradiction fun hlt=>hb (kx.2.2 b (Nat.lt_of_lt_of_le (by omega) x.k.1) (x.F.old (by omega))).1⟩
 obtain ⟨vc,y⟩:=x.hv
 exact ⟨vc,by rw [kx.1]; exact kx.row y n1⟩
theorem Ops.keepN (y:Ops h a ops) (k:Kept N h h'):Ops h' a ops:=⟨y.n,fun i o ho=>by
 obtain ⟨p,hp,hc,ok⟩:=y.at_ i o ho
 exact ⟨p,hp,fun j v hv=>cell_keptN k (hc j v hv),⟨ok.bt.keepN k,ok.k,ok.x1,ok.i,ok.m⟩⟩⟩
theorem Shut.rootsN (x:Shut h q s nd lb lim):s.rootsN=0:=by
 have rt:=x.rt
 unfold RS.rootsN
 have:s.roots.filter Option.isSome=[]:=by
  rw [List.filter_eq_nil_iff]
  intro z hz
  obtain ⟨j,hj⟩:=List.mem_iff_getElem?.1 hz
  have:=rt j
  rw [List.getD_eq_getElem?_getD,hj] at this
  have this:z=none:=this
  rw [this]; simp
 rw [this]; rfl
/-- rowsOf. -/
theorem rowsOf_ok (o:Opn h q s nd lb hn L) (hR:∀ a M cs h',RowsAt h h' a M cs L.rows→Kept N h h'→R (.slice a.a a.n a.c) h'):CallTo Try.prog 36 #[.pointer (some (ad lb))] h R:=by
 have ol:=o.len
 refine f36F_ok ?_
 unfold f36F
 refine llen o ⟨_,rfl,lslice o ⟨by omega,by omega⟩ (fun hb=>absurd ⟨by omega,by omega,by omega,by omega⟩ hb) fun a M cs h1 _ ra k1=>⟨_,_,rfl,?_⟩⟩
 have e0:(L.rows.drop (0:Int).toNat).take ((L.rows.length:Nat):Int).toNat=L.rows:=by
  show (L.rows.drop 0).take _=_
  rw [List.drop_zero,Int.toNat_natCast,List.take_length]
 rw [e0] at ra
 exact hR a M cs h1 ra k1
theorem rl_of (o:Opn h q s nd lb hn L) {cs:List Nat} (ra:RowsAt h h' a M cs L.rows):RL h' q a (rowSls cs L.rows) L.rows:=ra.rl (fun b hb=>o.g.st.fr (ra.new b hb)) fun r hr=>by
 obtain ⟨j,hj⟩:=List.mem_iff_getElem?.1 hr
 have:=(o.c.bn j r hj).2
 exact ⟨this.b8,this.len⟩
theorem rl_ge {cs:List Nat} (ra:RowsAt h h' a M cs rows):(∀ p,a.a=some p→rowSls cs rows ≠ []→h.size ≤ p.block)∧∀ (i:Nat) (c:Sl) (r:List Nat),(rowSls cs rows)[i]?=some c→rows[i]?=some r→∀ p,c.a=some p→r ≠ []→h.size ≤ p.block:=by
 refine ⟨fun p hp hn=>?_,fun i c r hc hr p hp _=>?_⟩
 ·obtain ⟨c,hb,ha⟩:=ra.sl.some_of (fun e=>hn (List.map_eq_nil_iff.1 e))
  rw [hp] at ha
  obtain rfl:p=ad c:=Option.some.inj ha
  exact ra.new c ⟨0,hb⟩
 ·obtain ⟨d,bk,hcs,_,_,row,_⟩:=ra.get hr
  have hc2:=rowSls_get hcs hr
  rw [hc] at hc2
  obtain rfl:=Option.some.inj hc2
  obtain rfl:ad d=p:=Option.some.inj hp
  exact ra.new d ⟨_,(ra.el i d r hcs hr).1⟩
end
end Go.Ev
set_option linter.all false
set_option maxRecDepth 1000000
namespace Go.Ev
open Go.Proofs
section
variable {h h' h2 h0 h1:Hp} {q q' q2:HQ} {s s' s2:RS} {nd nd' nd2:List NodeD} {id lb hn lim:Nat} {L L' L2:LD} {R:Value→Hp→Prop} {b:List Nat} {rows w:List (List Nat)} {M:Mem} {cs:List Nat} {r:List Nat} {c vb cb pb:Nat} {a a1:Sl} {sls:List Sl} {ops:List OpD} {w6:Sl} {l6:List Sl} {lm:Int} {most:Int}
/-- Behind the first range. -/
theorem k5_ok (x:Solo h q s nd lb L lim) (W:Wd h1 h q vb lb) (hcb:Lc h q cb [.pointer (some (ad lb))]) (y:Ops h1 a1 ops) (hp:Row h1 pb [.int .i64 lm,.slice a1.a a1.n a1.c]) (o1:h1.size ≤ lb) (vlb:vb ≠ lb) (clb:cb ≠ lb) (hR:∀ h',Kept N h1 h'→R (.bool true) h') :
  f8K5 (ad pb) (some (ad vb)) (some (ad lb)) (.func (.func 62) #[] #[.pointer (some (ad cb))]) false h R:=by
 have cp:∀ {g:Hp},Kept N h1 g→cell g ((ad pb).add 1)=some (.slice a1.a a1.n a1.c):=fun {g} kg=>by rw [add_ad]; exact (cell_row (kept_row kg hp _root_.id) 1).trans rfl
 unfold f8K5
 refine Cond_f rfl (rowsOf_ok x.o fun w M cs g ra kg=>⟨w,rfl,a1,cp (kept_tr W.k kg),?_⟩)
 have x1:=x.keepN kg
 have W1:=W.keepN kg
 obtain ⟨vc,hv⟩:=W1.hv
 have hcb1:=hcb.keep kg _root_.id
 obtain ⟨g1,g2⟩:=rl_ge ra
 have lt:=row_lt x.o.l.row
 refine over_ok x1 hv hcb1 (rl_of x.o ra) y W1.k W1.F o1 vlb (fun _ p hp hn=>by have:=g1 p hp hn; omega) (fun _ i c r hc hr p hp hn=>by have:=g2 i c r hc hr p hp hn; omega) fun h2 q2 s2 nd2 cl oc kx _=>⟨true,rfl,Cond_f rfl ?_⟩
 have W2:=W1.kx kx vlb o1
 have hcb2:=kx.row hcb1 clb
 -- closed
 have fin:∀ {g:Hp} {qg:HQ} {sg:RS} {ndg:List NodeD},Shut g qg sg ndg lb lim→Wd h1 g qg vb lb→Lc g qg cb [.pointer (some (ad lb))]→∃ t134:Sl,cell g ((ad pb).add 1)=some (.slice t134.a t134.n t134.c)∧CallTo Try.prog 37 #[.pointer (some (ad vb)),.pointer (some (ad lb)),.func (.func 62) #[] #[.pointer (some (ad cb))],.slice none 0 0,.slice t134.a t134.n t134.c,.int .i64 (-1),.bool false] g fun r h25=>∃ t135:Bool,r=.bool t135∧Cond t135 (CallTo Try.prog 16 #[.pointer (some (ad lb))] h25 fun r h26=>∃ t138:Int,r=.int .i64 t138∧Cond (t138 == (0:Int)) (PtrOk (some (ad vb)) fun p143=>∃ t145:Option Addr,cell h26 p143=some (.pointer t145)∧CallTo Try.prog 17 #[.pointer t145] h26 fun r h27=>∃ t146_0:Int,∃ t146_1:Int,∃ t146_2:Int,∃ t146_3:Int,∃ t146_4:Int,∃ t146_5:Int,∃ t146_6:Int,∃ t146_7:Int,∃ t146_8:Int,r=.agg #[.int .i64 t146_0,.int .i64 t146_1,.int .i64 t146_2,.int .i64 t146_3,.int .i64 t146_4,.int .i64 t146_5,.int .i64 t146_6,.int .i64 t146_7,.int .i64 t146_8]∧R ((.bool (t146_5 == (0:Int)):Value)) h27) (R (.bool false:Value) h26)) (R (.bool false:Value) h25):=fun {g qg sg ndg} x3 W3 hc3=>by
  obtain ⟨vc3,hv3⟩:=W3.hv
  refine ⟨a1,cp W3.k,over0_ok (a4:=a1) x3 hv3 hc3 W3.k W3.F o1 vlb fun h4 x4 kx4=>⟨true,rfl,Cond_t rfl ?_⟩⟩
  have W4:=W3.kx kx4 vlb o1
  obtain ⟨vc4,hv4⟩:=W4.hv
  refine llen0 x4.l ⟨_,rfl,Cond_t rfl (PtrOk_mk ⟨_,hv4.at0,hstats_ok x4.g.v x4.g.st.rp fun h5 k5=>⟨_,_,_,_,_,_,_,_,_,rfl,?_⟩⟩)⟩
  rw [x4.rootsN]
  exact hR h5 (kept_tr W4.k k5)
 cases cl with
 | true =>
  have x2:Shut h2 q2 s2 nd2 lb lim:=oc
  exact lclose0 x2.l ⟨rfl,fin x2 W2 hcb2⟩
 | false =>
  obtain ⟨L2,x2⟩:=oc
  refine x2.close fun h3 q3 s3 h4 ex3 k4 lo3 sh4=>⟨rfl,fin sh4 ?_ ((hcb2.ex ex3).keep k4 clb)⟩
  have W3:=W2.ex ex3
  obtain ⟨vc3,hv3⟩:=W3.hv
  exact ⟨⟨vc3,hv3.keep k4 vlb⟩,kept_base W3.k (S:=fun b=>b=lb) (fun b hb=>by omega) k4,W3.F⟩
theorem k4_ok (x:Solo h q s nd lb L lim) (W:Wd h1 h q vb lb) (hcb:Lc h q cb [.pointer (some (ad lb))]) (rl:RL h q a sls L.rows) (y:Ops h1 a1 ops) (hp:Row h1 pb [.int .i64 lm,.slice a1.a a1.n a1.c]) (o1:h1.size ≤ lb) (vlb:vb ≠ lb) (clb:cb ≠ lb) (hR:∀ h',Kept N h1 h'→R (.bool true) h') :
  f8K4 (ad pb) (some (ad vb)) (some (ad lb)) a (.func (.func 62) #[] #[.pointer (some (ad cb))]) most h R:=by
 have cp:∀ {g:Hp},Kept N h1 g→cell g ((ad pb).add 1)=some (.slice a1.a a1.n a1.c):=fun {g} kg=>by rw [add_ad]; exact (cell_row (kept_row kg hp _root_.id) 1).trans rfl
 obtain ⟨vc,hv⟩:=W.hv
 unfold f8K4
 refine ⟨a1,cp W.k,over_ok x hv hcb rl y W.k W.F o1 vlb (fun hf=>by cases hf) (fun hf=>by cases hf) fun h2 q2 s2 nd2 cl oc kx hcl=>⟨true,rfl,Cond_f rfl ?_⟩⟩
 obtain rfl:=hcl rfl
 obtain ⟨L2,x2⟩:=oc
 have W2:=W.kx kx vlb o1
 obtain ⟨vc2,hv2⟩:=W2.hv
 refine PtrOk_mk ⟨_,hv2.at0,hstats_ok x2.o.g.v x2.o.g.st.rp fun h3 k3=>⟨_,_,_,_,_,_,_,_,_,rfl,?_⟩⟩
 rw [x2.rootsN]
 exact k5_ok (x2.keepN k3) (W2.keepN k3) ((kx.row hcb clb).keep k3 _root_.id) y hp o1 vlb clb hR
end
end Go.Ev
set_option linter.all false
set_option maxRecDepth 1000000
namespace Go.Ev
open Go.Proofs
section
variable {h h' h2 h0 h1:Hp} {q q' q2:HQ} {s s' s2:RS} {nd nd' nd2:List NodeD} {id lb hn lim:Nat} {L L' L2:LD} {R:Value→Hp→Prop} {b:List Nat} {rows w:List (List Nat)} {M:Mem} {cs:List Nat} {r:List Nat} {c vb cb pb:Nat} {a a1:Sl} {sls:List Sl} {ops:List OpD} {w6:Sl} {l6:List Sl} {lm:Int} {most:Int}
/-- There is room for one more of at most 60 bytes. -/
theorem seen_room {b:List Nat} (x:Solo h q s nd lb L lim) (hl:4000 ≤ lim) (hn:L.rows.length ≤ 50) (hr:∀ r ∈ L.rows,r.length ≤ 60) (hb:b.length ≤ 60):∃ ids,Lv nd s.roots ids∧room2 s.limit (1 + RS.liveS nd ids) (RS.liveB nd ids) (2 + wordsN b.length):=by
 refine ⟨_,x.lv,x.room.2 ?_ _ x.lv⟩
 obtain ⟨r1,r2⟩:=rowS_le (k:=8) L.rows fun r h=>by have:=hr r h; omega
 have r2:=r2 (by omega)
 have hz:=wordsN_le b.length
 unfold room2 roomK cntS cntB
 rw [if_pos (by omega),if_pos (by omega),if_pos (by omega),if_pos (by omega)]
 omega
theorem seen_ok (hl:-9223372036854775808 ≤ lm∧lm < 9223372036854775808) (y0:Ops h a1 ops) (hR:∀ h',Kept N h h'→R (.bool true) h'):CallTo Try.prog 8 #[.agg #[.int .i64 lm,.slice a1.a a1.n a1.c]] h R:=by
 refine f8F_ok ?_
 unfold f8F
 refine Let_mk fun h1 e1=>?_
 have k1:Kept N h h1:=e1 ▸ kept_push _ _ _
 have row1:Row h1 h.size [.int .i64 lm,.slice a1.a a1.n a1.c]:=e1 ▸ row_new h #[.int .i64 lm,.slice a1.a a1.n a1.c] _
 clear e1
 rw [show nb h=ad h.size from rfl]
 have z1:=row_lt row1
 have y:=y0.keepN k1
 generalize hpb:h.size=pb at *
 have hR1:∀ h',Kept N h1 h'→R (.bool true) h':=fun h' k=>hR h' (kept_tr k1 k)
 refine ⟨lm,cell_row row1 0,lwithin (m:=1000) (by omega) (by omega) hl ⟨_,rfl,?_⟩⟩
 have m1:=Int.emod_nonneg lm (b:=((1000:Nat):Int)) (by omega)
 have m2:=Int.emod_lt_of_pos lm (b:=((1000:Nat):Int)) (by omega)
 obtain ⟨n0,hn0⟩:=Int.eq_ofNat_of_zero_le m1
 rw [hn0] at m2 ⊢
 have en:IntKind.wrap .i64 ((n0:Int) + (4000:Int))=((n0 + 4000:Nat):Int):=by rw [wrap_i64' (by omega) (by omega)]; omega
 rw [en]
 refine begin2_ok (by omega) fun h2 q vb vc g hv k2 f2 hvb=>⟨_,rfl,Cond_f rfl (PtrOk_mk ⟨_,hv.at0,?_⟩)⟩
 have F2:Frsh h1 q:=f2
 refine snew g (by omega) (by omega) fun h3 q3 s3 nd3 lb L3 x3 er3 ex3 hlb=>⟨_,_,rfl,lnum ⟨_,rfl,Cond_f rfl ?_⟩⟩
 generalize hlim:128 + (n0 + 4000)=lim at *
 have W3:Wd h1 h3 q3 vb lb:=(⟨⟨vc,hv⟩,k2,F2⟩:Wd h1 h2 q vb lb).ex ex3
 have hlb3:=row_lt x3.o.l.row
 have vlb:vb ≠ lb:=by have:=row_lt hv.1; omega
 have o1:h1.size ≤ lb:=Nat.le_trans k2.1 hlb
 clear hv f2 F2 k2 ex3 g
 unfold f8K1
 refine Cond_f rfl ?_
 have cp:∀ {g:Hp},Kept N h1 g→cell g ((ad pb).add 1)=some (.slice a1.a a1.n a1.c):=fun {g} kg=>by rw [add_ad]; exact (cell_row (kept_row kg row1 _root_.id) 1).trans rfl
 have yn:=y.n
 -- behind the pushes
 have rest:∀ {g:Hp} {q:HQ} {s:RS} {nd:List NodeD} {L:LD} {M:Mem} {w6:Sl} {l6:List Sl} {J:Nat→Addr→Option Addr→Option Addr→Sl→Int→Hp→Prop} {n:Nat} {x7:Int},Solo g q s nd lb L lim→L.rows.length ≤ 50→(∀ r ∈ L.rows,r.length ≤ 60)→Wt h3 g q M w6 l6→h3.size ≤ g.size→l6.length ≤ 50→Wd h1 g q vb lb→(ops.length=0→L.rows=[]∧l6=[])→f8K2 J n (ad pb) (some (ad vb)) (some (ad lb)) w6 x7 false g R:=fun {g q s nd L M w6 l6 J n x7} x hn hr wt g3s hl6 W h0=>by
  unfold f8K2
  refine Cond_f rfl (f35F_ok ?_)
  unfold f35F
  refine Let_mk fun g1 e1=>?_
  have j1:Kept N g g1:=e1 ▸ kept_push _ _ _
  have rc1:Row g1 g.size [.pointer (some (ad lb))]:=e1 ▸ row_new g #[.pointer (some (ad lb))] _
  clear e1
  have gsz:∀ b,M.own b→b < g.size:=fun b hb=>wt.sep.own_lt hb
  have hcb1:Lc g1 q g.size [.pointer (some (ad lb))]:=⟨rc1,x.o.g.st.fr (Nat.le_refl _)⟩
  have clb:g.size ≠ lb:=by have:=row_lt x.o.l.row; omega
  rw [show nb g=ad g.size from rfl]
  generalize hcbs:g.size=cb at *
  refine ⟨_,rfl,false,.inr ⟨_,_,_,rfl,rfl⟩,Cond_f rfl (Let_mk fun g2 e2=>PtrOk_mk (Let_mk fun g3 e3=>?_))⟩
  obtain ⟨j3,rd3,z3⟩:=made2 (l:=[108,97,116,101]) e2 e3 rfl
  have x3:=(x.keepN j1).keepN j3
  have hrl:=x3.rl
  have b8:Bytes8 [108,97,116,101]:=fun c hc=>by simp at hc; omega
  have src:Src g3 q ⟨some (ad g1.size),4,4⟩ [108,97,116,101]:=⟨rd3,rfl,b8,fun p hp _=>by obtain rfl:=Option.some.inj hp; exact ⟨x.o.g.st.fr j1.1,z3⟩⟩
  obtain ⟨lv,hlv,hrm⟩:=seen_room (b:=[108,97,116,101]) x3 (by omega) hn hr (by decide)
  refine lpush x3.o src (by decide) (by omega) (fun hl=>absurd hl (by decide)) (fun _ _ _ _ _ _ hno=>absurd hrm (hno _ hlv)) fun g4 q4 s4 nd4 L4 _ a4 er4 _=>⟨_,rfl,Let_mk fun g5 e5=>PtrOk_mk (Let_mk fun g6 e6=>?_)⟩
  have x4:=x3.aft a4
  have W4:=((W.keepN j1).keepN j3).ex a4.ex
  have wt4:=((wt.keepN j1).keepN j3).ex a4.ex
  have hcb4:=(hcb1.keep j3 _root_.id).ex a4.ex
  obtain ⟨j6,rd6,z6⟩:=made2 (l:=[108,97,116,101]) e5 e6 rfl
  have x6:=x4.keepN j6
  have W6:=W4.keepN j6
  have wt6:=wt4.keepN j6
  have hcb6:=hcb4.keep j6 _root_.id
  have lo6:q4.role g4.size=.out:=x4.o.g.st.fr (Nat.le_refl _)
  have z4:=a4.ex.2.1
  have hz6:h3.size ≤ g6.size:=by have:=j1.1; have:=j3.1; have:=j6.1; omega
  refine wt6.add (c:=⟨some (ad g4.size),4,4⟩) (fun b hb=>x6.o.g.st.fr hb) hz6 (by omega) fun a' c' g7 M' wt7 j7=>?_
  have hne:∀ b,M.own b→b ≠ lb∧b ≠ cb∧b ≠ vb∧h1.size ≤ b:=fun b hb=>by
   have h1':=(wt.own b hb).1
   have h2':=gsz b hb
   have h3':=hlb3
   obtain ⟨vc',hv'⟩:=W3.hv
   have h4':=row_lt hv'.1
   have h5':=W3.k.1
   omega
  have x7:=x6.writeS j7 (fun b hb=>(wt6.own b hb).2) fun hb=>(hne lb hb).1 rfl
  have W7:Wd h1 g7 q4 vb lb:=⟨(by obtain ⟨vc',hv'⟩:=W6.hv; exact ⟨vc',hv'.keep j7 fun hb=>(hne vb hb).2.2.1 rfl⟩),kept_base W6.k (fun b hb=>(hne b hb).2.2.2) j7,W6.F⟩
  have hcb7:=hcb6.keep j7 fun hb=>(hne cb hb).2.1 rfl
  refine lnum ⟨_,rfl,Cond_f rfl ⟨a1,cp W7.k,Cond_dec (fun hlt=>?_) fun hge=>?_⟩⟩
  ·have hol:0 < ops.length:=by omega
   have ho:ops[0]?=some (ops[0]'hol):=List.getElem?_eq_getElem hol
   generalize ops[0]'hol=o at ho
   obtain ⟨p,hp,hcell,ok⟩:=y.at_ 0 o ho
   have oc:∀ {g:Hp},Kept N h1 g→∀ (j:Nat) (v:Value),o.cells[j]?=some v→cell g ((p.add ((0:Int).toNat * 7)).add j)=some v:=fun {g} kg j v hv=>cell_keptN kg (hcell j v hv)
   have oc7:=oc W7.k
   refine ⟨a1,cp W7.k,⟨by omega,by omega⟩,PtrOk_of hp ⟨o.k,(by have:=oc7 0 _ rfl; exact this),o.x1,oc7 1 _ rfl,o.x2,oc7 2 _ rfl,o.fr,oc7 3 _ rfl,o.i,oc7 4 _ rfl,o.m,oc7 5 _ rfl,o.a,oc7 6 _ rfl,?_⟩⟩
   have hrl7:=x7.rl
   refine told_any x7.o (ok.bt.src0 W7.k W7.F) ok.bt.lt (by omega) ok.k ok.i ok.m fun g8 q8 s8 nd8 L8 w af=>⟨w,rfl,?_⟩
   have x8:=x7.aft af
   have W8:=W7.ex af.ex
   have hcb8:=hcb7.ex af.ex
   refine rowsOf_ok x8.o fun w9 M9 cs9 g9 ra9 j9=>⟨w9,rfl,a1,cp (kept_tr W8.k j9),⟨by omega,by omega⟩,PtrOk_of hp ⟨o.m,oc (kept_tr W8.k j9) 5 _ rfl,?_⟩⟩
   exact k4_ok (x8.keepN j9) (W8.keepN j9) (hcb8.keep j9 _root_.id) (rl_of x8.o ra9) y row1 o1 vlb clb hR1
  ·have hol:ops.length=0:=by omega
   obtain ⟨e1,e2⟩:=h0 hol
   subst e2
   have er7:L4.rows=[[108,97,116,101]]:=by rw [er4,e1]; rfl
   have wn:=wt6.len
   have rl:RL g7 q4 ⟨a',w6.n + 1,c'⟩ [⟨some (ad g4.size),4,4⟩] L4.rows:=by
    rw [er7]
    refine ⟨slAt_reads (wt7.sl.slAt wt7.sep),by rw [wn]; rfl,rfl,fun i c r hc hr=>?_,fun p hp _=>?_⟩
    ·match i with
     | 0 =>
      obtain rfl:=Option.some.inj hc
      obtain rfl:=Option.some.inj hr
      refine ⟨⟨reads_kept2 j7 rd6 fun p hp _=>?_,rfl,b8,fun p hp _=>?_⟩,Nat.le_refl _,by decide⟩
      ·obtain rfl:=Option.some.inj hp
       exact ⟨z6,fun hb=>by have:=gsz _ hb; have:=j1.1; have:=j3.1; show False; have hh:(ad g4.size).block=g4.size:=rfl; omega⟩
      ·obtain rfl:=Option.some.inj hp
       exact ⟨lo6,Nat.lt_of_lt_of_le z6 j7.1⟩
     | i + 1=>cases hc
    ·obtain ⟨c,hb,ha⟩:=wt7.sl.some_of (fun e=>by cases e)
     rw [hp] at ha
     obtain rfl:p=ad c:=Option.some.inj ha
     exact ⟨(wt7.own c ⟨0,hb⟩).2,wt7.sep.lt hb⟩
   exact k4_ok x7 W7 hcb7 rl y row1 o1 vlb clb hR1
 refine f8L1_rule (s6:=⟨none,0,0⟩) (fun p s1 s3 s4 s6 s7 g=>∃ (k:Nat) (q:HQ) (s:RS) (nd:List NodeD) (L:LD) (M:Mem) (l6:List Sl),k ≤ ops.length∧k ≤ 50∧p=ops.length - k∧ad pb=s1∧some (ad vb)=s3∧some (ad lb)=s4∧s7=(k:Int)∧Solo g q s nd lb L lim∧L.rows.length=k∧(∀ r ∈ L.rows,r.length ≤ 60)∧Wt h3 g q M s6 l6∧l6.length=k∧h3.size ≤ g.size∧Wd h1 g q vb lb) ops.length
  ⟨0,q3,s3,nd3,L3,⟨fun _=>none,fun _=>[]⟩,[],Nat.zero_le _,Nat.zero_le _,rfl,rfl,rfl,rfl,rfl,x3,by rw [er3]; rfl,by rw [er3]; simp,⟨⟨fun y b hy=>(by cases hy),fun y z b hy _=>by cases hy⟩,⟨rfl,fun _=>⟨rfl,rfl,rfl⟩,fun b hb=>by cases hb⟩,fun b ⟨y,hy⟩=>by cases hy⟩,rfl,Nat.le_refl _,W3⟩ ?_
 rintro p s1 s3' s4 w6 s7 g0 g ⟨k,q,s,nd,L,M,l6,hk,hk50,rfl,rfl,rfl,rfl,rfl,x,ln,lr,wt,l6n,gs,W⟩
 unfold f8L1
 have zero:ops.length=0→L.rows=[]∧l6=[]:=fun h0=>⟨List.length_eq_zero_iff.1 (by omega),List.length_eq_zero_iff.1 (by omega)⟩
 refine ⟨a1,cp W.k,Cond_dec (fun hlt=>?_) fun hge=>rest x (by omega) lr wt gs (by omega) W zero⟩
 by_cases h50:k < 50
 ·rw [show decide (((k:Nat):Int) < (50:Int))=true from decide_eq_true (by omega)]
  unfold f8K2
  have hko:k < ops.length:=by omega
  have ho:ops[k]?=some (ops[k]'hko):=List.getElem?_eq_getElem hko
  generalize ops[k]'hko=o at ho
  obtain ⟨p,hp,hcell,ok⟩:=y.at_ k o ho
  have bt:=ok.bt
  have bcap:=bt.cap
  have bn:=bt.n
  refine Cond_t rfl ⟨a1,cp W.k,⟨by omega,by omega⟩,PtrOk_of hp ⟨o.a,by rw [Int.toNat_natCast]; exact cell_keptN W.k (hcell 6 _ rfl),?_⟩⟩
  have key:∀ bs,Bt h1 bs (o.b.take 60)→f8K3 (fun p s1 s3 s4 s6 s7 g=>∃ (k:Nat) (q:HQ) (s:RS) (nd:List NodeD) (L:LD) (M:Mem) (l6:List Sl),k ≤ ops.length∧k ≤ 50∧p=ops.length - k∧ad pb=s1∧some (ad vb)=s3∧some (ad lb)=s4∧s7=(k:Int)∧Solo g q s nd lb L lim∧L.rows.length=k∧(∀ r ∈ L.rows,r.length ≤ 60)∧Wt h3 g q M s6 l6∧l6.length=k∧h3.size ≤ g.size∧Wd h1 g q vb lb) (ops.length - k) (ad pb) (some (ad vb)) (some (ad lb)) w6 ((k:Nat):Int) bs g R:=fun bs zb=>by
   have hb60:(o.b.take 60).length ≤ 60:=by rw [List.length_take]; omega
   generalize o.b.take 60=B at zb hb60
   unfold f8K3
   have hrl:=x.rl
   obtain ⟨lv,hlv,hrm⟩:=seen_room (b:=B) x (by omega) (by omega) lr hb60
   refine lpush x.o (zb.src0 W.k W.F) (by omega) (by omega) (fun hl=>absurd hl (by omega)) (fun _ _ _ _ _ _ hno=>absurd hrm (hno _ hlv)) fun g4 q4 s4 nd4 L4 _ a4 er4 _=>⟨_,rfl,lnum ⟨_,rfl,Cond_f rfl ?_⟩⟩
   have x4:=x.aft a4
   have W4:=W.ex a4.ex
   have wt4:=wt.ex a4.ex
   have z4:=a4.ex.2.1
   refine wt4.add (c:=bs) (fun b hb=>x4.o.g.st.fr hb) (by omega) (by omega) fun a' c' g7 M' wt7 j7=>?_
   have hne:∀ b,M.own b→b ≠ lb∧b ≠ vb∧h1.size ≤ b:=fun b hb=>by
    have h1':=(wt.own b hb).1
    obtain ⟨vc',hv'⟩:=W3.hv
    have h4':=row_lt hv'.1
    have h5':=W3.k.1
    omega
   have x7:=x4.writeS j7 (fun b hb=>(wt4.own b hb).2) fun hb=>(hne lb hb).1 rfl
   have W7:Wd h1 g7 q4 vb lb:=⟨(by obtain ⟨vc',hv'⟩:=W4.hv; exact ⟨vc',hv'.keep j7 fun hb=>(hne vb hb).2.1 rfl⟩),kept_base W4.k (fun b hb=>(hne b hb).2.2) j7,W4.F⟩
   refine ⟨ops.length - (k + 1),by omega,k + 1,q4,s4,nd4,L4,M',l6 ++ [bs],hko,by omega,rfl,rfl,rfl,rfl,by rw [wrap_i64' (by omega) (by omega)]; rfl,x7,by rw [er4,if_neg (by simp),List.length_append,ln]; rfl,fun r hr=>?_,wt7,by rw [List.length_append,l6n]; rfl,by have:=j7.1; omega,W7⟩
   rw [er4,if_neg (by simp)] at hr
   rcases List.mem_append.1 hr with z | z
   ·exact lr r z
   ·rw [List.mem_singleton.1 z]; exact hb60
  refine Cond_dec (fun hbig=>⟨⟨by omega,by omega⟩,⟨by omega,by omega⟩,?_⟩) fun hsm=>?_
  ·rw [cut0]
   have e:(⟨o.a.a,(60:Int).toNat - (0:Int).toNat,o.a.c - (0:Int).toNat⟩:Sl)=⟨o.a.a,min o.a.n 60,o.a.c⟩:=by congr 1; show 60 - 0=min o.a.n 60; omega
   rw [e]
   exact key _ (bt.take 60)
  ·have e:o.a=⟨o.a.a,min o.a.n 60,o.a.c⟩:=by
    have:min o.a.n 60=o.a.n:=by omega
    rw [this]
   rw [e]
   exact key _ (bt.take 60)
 ·rw [show decide (((k:Nat):Int) < (50:Int))=false from decide_eq_false (by omega)]
  exact rest x (by omega) lr wt gs (by omega) W zero
end
end Go.Ev
