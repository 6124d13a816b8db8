/- larderlaw1's Book: the other lists, grow, Look, tight, Bytes / larderlaw1's Late: answers that are left as they are for a while / larderlaw1's Late goes into the Book: Settle / larderlaw1's lists of lists that are lent: LendAll, Intact, Over. No condition but that these are ones. -/
import Derived.Test.YtdkopnbjommjdaaGreatQ20
set_option linter.all false
set_option maxRecDepth 1000000
namespace Go.Ev
open Go.Proofs
section
variable {h h' h2:Hp} {d d' d2:BkD} {R:Value→Hp→Prop}
theorem growRows_ok (x:Bk h d) (hR:∀ h' M',Bk h' { d with M:=M' }→BkT h d h' { d with M:=M' }→R (.tuple #[]) h'):CallTo Tryz.prog 78 #[.pointer (some (ad d.bb))] h R:=by
 refine f78F_ok ?_
 unfold f78F
 refine PtrOk_mk ⟨⟨none,0,0⟩,x.cell 3,PtrOk_mk ⟨0,x.cell 5,?_⟩⟩
 refine f78L1_rule (fun m s0 s2 s3 h'=>s0=some (ad d.bb)∧s2=0∧s3=0∧h=h') 0 ⟨rfl,rfl,rfl,rfl⟩ ?_
 rintro m s0 s2 s3 g h1 ⟨rfl,rfl,rfl,rfl⟩
 unfold f78L1
 exact Cond_f (by decide) (PtrOk_mk ⟨⟨none,0,0⟩,x.cell 3,PtrOk_mk (x.st d (k:=5) (by omega) rfl rfl rfl rfl rfl rfl x.nums hR)⟩)
theorem growWords_ok (x:Bk h d) (hR:∀ h' M',Bk h' { d with M:=M' }→BkT h d h' { d with M:=M' }→R (.tuple #[]) h'):CallTo Tryz.prog 79 #[.pointer (some (ad d.bb))] h R:=by
 refine f79F_ok ?_
 unfold f79F
 refine PtrOk_mk ⟨⟨none,0,0⟩,x.cell 6,PtrOk_mk ⟨0,x.cell 8,?_⟩⟩
 refine f79L1_rule (fun m s0 s2 s3 h'=>s0=some (ad d.bb)∧s2=0∧s3=0∧h=h') 0 ⟨rfl,rfl,rfl,rfl⟩ ?_
 rintro m s0 s2 s3 g h1 ⟨rfl,rfl,rfl,rfl⟩
 unfold f79L1
 exact Cond_f (by decide) (PtrOk_mk ⟨⟨none,0,0⟩,x.cell 6,PtrOk_mk (x.st d (k:=8) (by omega) rfl rfl rfl rfl rfl rfl x.nums hR)⟩)
theorem growScored_ok (x:Bk h d) (hR:∀ h' M',Bk h' { d with M:=M' }→BkT h d h' { d with M:=M' }→R (.tuple #[]) h'):CallTo Tryz.prog 80 #[.pointer (some (ad d.bb))] h R:=by
 refine f80F_ok ?_
 unfold f80F
 refine PtrOk_mk ⟨⟨none,0,0⟩,x.cell 9,PtrOk_mk ⟨0,x.cell 11,?_⟩⟩
 refine f80L1_rule (fun m s0 s2 s3 h'=>s0=some (ad d.bb)∧s2=0∧s3=0∧h=h') 0 ⟨rfl,rfl,rfl,rfl⟩ ?_
 rintro m s0 s2 s3 g h1 ⟨rfl,rfl,rfl,rfl⟩
 unfold f80L1
 exact Cond_f (by decide) (PtrOk_mk ⟨⟨none,0,0⟩,x.cell 9,PtrOk_mk (x.st d (k:=11) (by omega) rfl rfl rfl rfl rfl rfl x.nums hR)⟩)
theorem growPairs_ok (x:Bk h d) (hR:∀ h' M',Bk h' { d with M:=M' }→BkT h d h' { d with M:=M' }→R (.tuple #[]) h'):CallTo Tryz.prog 81 #[.pointer (some (ad d.bb))] h R:=by
 refine f81F_ok ?_
 unfold f81F
 refine PtrOk_mk ⟨⟨none,0,0⟩,x.cell 12,PtrOk_mk ⟨0,x.cell 14,?_⟩⟩
 refine f81L1_rule (fun m s0 s2 s3 h'=>s0=some (ad d.bb)∧s2=0∧s3=0∧h=h') 0 ⟨rfl,rfl,rfl,rfl⟩ ?_
 rintro m s0 s2 s3 g h1 ⟨rfl,rfl,rfl,rfl⟩
 unfold f81L1
 exact Cond_f (by decide) (PtrOk_mk ⟨⟨none,0,0⟩,x.cell 12,PtrOk_mk (x.st d (k:=14) (by omega) rfl rfl rfl rfl rfl rfl x.nums hR)⟩)
theorem growRepl_ok (x:Bk h d) (hR:∀ h' M',Bk h' { d with M:=M' }→BkT h d h' { d with M:=M' }→R (.tuple #[]) h'):CallTo Tryz.prog 82 #[.pointer (some (ad d.bb))] h R:=by
 refine f82F_ok ?_
 unfold f82F
 refine PtrOk_mk ⟨⟨none,0,0⟩,x.cell 15,PtrOk_mk ⟨0,x.cell 17,?_⟩⟩
 refine f82L1_rule (fun m s0 s2 s3 h'=>s0=some (ad d.bb)∧s2=0∧s3=0∧h=h') 0 ⟨rfl,rfl,rfl,rfl⟩ ?_
 rintro m s0 s2 s3 g h1 ⟨rfl,rfl,rfl,rfl⟩
 unfold f82L1
 exact Cond_f (by decide) (PtrOk_mk ⟨⟨none,0,0⟩,x.cell 15,PtrOk_mk (x.st d (k:=17) (by omega) rfl rfl rfl rfl rfl rfl x.nums hR)⟩)
theorem growPlaces_ok (x:Bk h d) (hR:∀ h' M',Bk h' { d with M:=M' }→BkT h d h' { d with M:=M' }→R (.tuple #[]) h'):CallTo Tryz.prog 83 #[.pointer (some (ad d.bb))] h R:=by
 refine f83F_ok ?_
 unfold f83F
 refine PtrOk_mk ⟨⟨none,0,0⟩,x.cell 18,PtrOk_mk ⟨0,x.cell 20,?_⟩⟩
 refine f83L1_rule (fun m s0 s2 s3 h'=>s0=some (ad d.bb)∧s2=0∧s3=0∧h=h') 0 ⟨rfl,rfl,rfl,rfl⟩ ?_
 rintro m s0 s2 s3 g h1 ⟨rfl,rfl,rfl,rfl⟩
 unfold f83L1
 exact Cond_f (by decide) (PtrOk_mk ⟨⟨none,0,0⟩,x.cell 18,PtrOk_mk (x.st d (k:=20) (by omega) rfl rfl rfl rfl rfl rfl x.nums hR)⟩)
theorem growActs_ok (x:Bk h d) (hR:∀ h' M',Bk h' { d with M:=M' }→BkT h d h' { d with M:=M' }→R (.tuple #[]) h'):CallTo Tryz.prog 84 #[.pointer (some (ad d.bb))] h R:=by
 refine f84F_ok ?_
 unfold f84F
 refine PtrOk_mk ⟨⟨none,0,0⟩,x.cell 21,PtrOk_mk ⟨0,x.cell 23,?_⟩⟩
 refine f84L1_rule (fun m s0 s2 s3 h'=>s0=some (ad d.bb)∧s2=0∧s3=0∧h=h') 0 ⟨rfl,rfl,rfl,rfl⟩ ?_
 rintro m s0 s2 s3 g h1 ⟨rfl,rfl,rfl,rfl⟩
 unfold f84L1
 exact Cond_f (by decide) (PtrOk_mk ⟨⟨none,0,0⟩,x.cell 21,PtrOk_mk (x.st d (k:=23) (by omega) rfl rfl rfl rfl rfl rfl x.nums hR)⟩)
theorem growEnts_ok (x:Bk h d) (hR:∀ h' M',Bk h' { d with M:=M' }→BkT h d h' { d with M:=M' }→R (.tuple #[]) h'):CallTo Tryz.prog 85 #[.pointer (some (ad d.bb))] h R:=by
 refine f85F_ok ?_
 unfold f85F
 refine PtrOk_mk ⟨⟨none,0,0⟩,x.cell 24,PtrOk_mk ⟨0,x.cell 26,?_⟩⟩
 refine f85L1_rule (fun m s0 s2 s3 h'=>s0=some (ad d.bb)∧s2=0∧s3=0∧h=h') 0 ⟨rfl,rfl,rfl,rfl⟩ ?_
 rintro m s0 s2 s3 g h1 ⟨rfl,rfl,rfl,rfl⟩
 unfold f85L1
 exact Cond_f (by decide) (PtrOk_mk ⟨⟨none,0,0⟩,x.cell 24,PtrOk_mk (x.st d (k:=26) (by omega) rfl rfl rfl rfl rfl rfl x.nums hR)⟩)
theorem growCmds_ok (x:Bk h d) (hR:∀ h' M',Bk h' { d with M:=M' }→BkT h d h' { d with M:=M' }→R (.tuple #[]) h'):CallTo Tryz.prog 86 #[.pointer (some (ad d.bb))] h R:=by
 refine f86F_ok ?_
 unfold f86F
 refine PtrOk_mk ⟨⟨none,0,0⟩,x.cell 27,PtrOk_mk ⟨0,x.cell 29,?_⟩⟩
 refine f86L1_rule (fun m s0 s2 s3 h'=>s0=some (ad d.bb)∧s2=0∧s3=0∧h=h') 0 ⟨rfl,rfl,rfl,rfl⟩ ?_
 rintro m s0 s2 s3 g h1 ⟨rfl,rfl,rfl,rfl⟩
 unfold f86L1
 exact Cond_f (by decide) (PtrOk_mk ⟨⟨none,0,0⟩,x.cell 27,PtrOk_mk (x.st d (k:=29) (by omega) rfl rfl rfl rfl rfl rfl x.nums hR)⟩)
theorem grow_ok (x:Bk h d) (tp:d.Top) (ht:d.turn < 1000000) (hR:∀ h' d',Bk h' d'→d'.Top→BkT h d h' d'→d'.turn=d.turn→R (.tuple #[]) h'):CallTo Tryz.prog 37 #[.pointer (some (ad d.bb))] h R:=by
 refine f37F_ok ?_
 unfold f37F
 refine growBytes_ok x tp ht fun h1 d1 x1 tp1 t1 tu1=>⟨rfl,?_⟩
 have eb:=t1.1
 rw [← eb]
 refine growRows_ok x1 fun h2 M2 x2 t2=>⟨rfl,?_⟩
 refine growWords_ok (d:={ d1 with M:=M2 }) x2 fun h3 M3 x3 t3=>⟨rfl,?_⟩
 refine growScored_ok (d:={ d1 with M:=M3 }) x3 fun h4 M4 x4 t4=>⟨rfl,?_⟩
 refine growPairs_ok (d:={ d1 with M:=M4 }) x4 fun h5 M5 x5 t5=>⟨rfl,?_⟩
 refine growRepl_ok (d:={ d1 with M:=M5 }) x5 fun h6 M6 x6 t6=>⟨rfl,?_⟩
 refine growPlaces_ok (d:={ d1 with M:=M6 }) x6 fun h7 M7 x7 t7=>⟨rfl,?_⟩
 refine growActs_ok (d:={ d1 with M:=M7 }) x7 fun h8 M8 x8 t8=>⟨rfl,?_⟩
 refine growEnts_ok (d:={ d1 with M:=M8 }) x8 fun h9 M9 x9 t9=>⟨rfl,?_⟩
 refine growCmds_ok (d:={ d1 with M:=M9 }) x9 fun h10 M10 x10 t10=>⟨rfl,?_⟩
 refine PtrOk_mk ⟨((d1.turn:Nat):Int),x10.cell 30,PtrOk_mk ?_⟩
 refine x10.st { d1 with M:=M10,done:=d1.turn } (k:=31) (by omega) rfl rfl rfl rfl rfl rfl ⟨x10.nums.gl,Nat.le_refl _,x10.nums.n4,x10.nums.mt,x10.nums.l1⟩ fun h11 M11 x11 t11=>?_
 exact hR h11 _ x11 ⟨tp1.n1,tp1.l2⟩ (t1.trans (t2.trans (t3.trans (t4.trans (t5.trans (t6.trans (t7.trans (t8.trans (t9.trans (t10.trans t11)))))))))) tu1
theorem blook_ok (x:Bk h d) (tp:d.Top) (ht:d.turn < 1000000) (hR:∀ h' d',Bk h' d'→d'.Top→BkT h d h' d'→d'.turn=d.turn→R (.bool true) h'):CallTo Tryz.prog 13 #[.pointer (some (ad d.bb))] h R:=by
 have n1:=tp.n1
 refine f13F_ok ?_
 unfold f13F
 refine bholds_ok x ht (by omega) ⟨_,rfl,Cond_f rfl (PtrOk_mk ⟨((d.done:Nat):Int),x.cell 31,PtrOk_mk ⟨((d.turn:Nat):Int),x.cell 30,Cond_b (fun _=>hR h d x tp (BkT.refl _ _) rfl) fun _=>?_⟩⟩)⟩
 refine grow_ok x tp ht fun h1 d1 x1 tp1 t1 tu1=>⟨rfl,?_⟩
 have n11:=tp1.n1
 rw [← t1.1]
 exact bholds_ok x1 (by omega) (by omega) ⟨_,rfl,hR h1 d1 x1 tp1 t1 tu1⟩
theorem tight_ok (x:Bk h d) {n:Nat} (hn:n < 100000000) (hR:∀ b h' M' u,Bk h' { d with M:=M',used:=u }→BkT h d h' { d with M:=M',used:=u }→R (.bool b) h'):CallTo Tryz.prog 88 #[.pointer (some (ad d.bb)),.int .i64 (n:Nat)] h R:=by
 have n4:=x.nums.n4
 refine f88F_ok ?_
 unfold f88F
 have e:IntKind.wrap .i64 (((d.used:Nat):Int) + ((n:Nat):Int))=((d.used + n:Nat):Int):=by rw [wrap_i64' (by omega) (by omega)]; omega
 refine PtrOk_mk ⟨((d.used:Nat):Int),x.cell 32,?_⟩
 rw [e]
 refine Cond_dec (fun hgt=>hR true h d.M d.used x (BkT.refl _ _)) fun hle=>PtrOk_mk ⟨((d.used:Nat):Int),x.cell 32,PtrOk_mk ?_⟩
 rw [e]
 exact x.st { d with used:=d.used + n } (k:=32) (by omega) rfl rfl rfl rfl rfl rfl ⟨x.nums.gl,x.nums.n3,by show d.used + n ≤ _; omega,x.nums.mt,x.nums.l1⟩ fun h' M' x' t'=>hR false h' M' (d.used + n) x' t'
/-- A list that the book may take: in a block of its own. -/
def Taken (h:Hp) (d:BkD) (l:Sl):Prop:=(l.a=none∧l.n=0∧l.c=0) ∨ ∃ (c:Nat) (cs:List Value),l.a=some (ad c)∧Row h c cs∧cs.length=l.c∧l.n ≤ l.c∧¬ d.foot c
def BkT2 (h:Hp) (d:BkD) (l:Sl) (h':Hp) (d':BkD):Prop:=d'.bb=d.bb∧Kept (fun b=>d.foot b ∨ l.a=some (ad b)) h h'∧∀ b,d'.foot b→(d.foot b ∨ l.a=some (ad b)) ∨ h.size ≤ b
theorem bytes2_ok (x:Bk h d) (tp:d.Top) {l:Sl} (hl:l.n ≤ 10000000) (tk:Taken h d l) (ht:d.turn < 999999) (hR:∀ h' d',Bk h' d'→d'.Top→BkT2 h d l h' d'→d'.turn=d.turn + 1→R (.tuple #[]) h') :
  CallTo Tryz.prog 38 #[.pointer (some (ad d.bb)),.slice l.a l.n l.c] h R:=by
 have n1:=tp.n1
 have gl:=x.nums.gl
 have n3:=x.nums.n3
 refine f38F_ok ?_
 unfold f38F
 have e:IntKind.wrap .i64 (((d.turn:Nat):Int) + 1)=((d.turn + 1:Nat):Int):=by rw [wrap_i64' (by omega) (by omega)]; omega
 refine PtrOk_mk ⟨((d.turn:Nat):Int),x.cell 30,PtrOk_mk ?_⟩
 rw [e]
 refine x.st { d with turn:=d.turn + 1 } (k:=30) (by omega) rfl rfl rfl rfl rfl rfl ⟨gl,by show d.done ≤ d.turn + 1; omega,x.nums.n4,fun e he=>Nat.le_succ_of_le (x.nums.mt e he),x.nums.l1⟩ fun h1 M1 x1 t1=>?_
 refine PtrOk_mk ⟨((d.turn + 1:Nat):Int),x1.cell 30,?_⟩
 have tk1:(l.a=none∧l.n=0∧l.c=0) ∨ ∃ (c:Nat) (cs:List Value),l.a=some (ad c)∧Row h1 c cs∧cs.length=l.c∧l.n ≤ l.c∧¬ d.foot c∧c < h.size∧¬ BkD.foot { d with turn:=d.turn + 1,M:=M1 } c:=by
  rcases tk with z | ⟨c,cs,h1',h2',h3',h4',h5'⟩
  ·exact .inl z
  ·have hlt:=row_lt h2'
   exact .inr ⟨c,cs,h1',kept_row t1.2.1 h2' h5',h3',h4',h5',hlt,fun hf=>(t1.2.2 c hf).elim h5' fun hs=>by omega⟩
 refine f38L1_rule (fun m s0 s1 s4 s5 h'=>∃ i:Nat,i ≤ l.n∧m=l.n - i∧s0=some (ad d.bb)∧l=s1∧s4=((d.turn + 1:Nat):Int)∧s5=(i:Int)∧Kept (fun b=>l.a=some (ad b)) h1 h' ∧
   ∀ c,l.a=some (ad c)→∃ cs,Row h' c cs∧cs.length=l.c∧∀ j,j < i→cs[j]?=some (bv (mkB (d.turn + 1) j))) l.n
  ⟨0,Nat.zero_le _,rfl,rfl,rfl,rfl,rfl,Kept.refl _ _,fun c hc=>?_⟩ ?_
 ·rcases tk1 with ⟨z,_⟩ | ⟨c',cs,h1',h2',h3',_⟩
  ·rw [z] at hc; cases hc
  ·rw [h1'] at hc
   have:c'=c:=congrArg Addr.block (Option.some.inj hc)
   subst this
   exact ⟨cs,h2',h3',fun j hj=>by omega⟩
 rintro m s0 s1 s4 s5 g h2 ⟨i,hi,rfl,rfl,rfl,rfl,rfl,k2,r2⟩
 unfold f38L1
 refine Cond_dec (fun hlt=>?_) fun hge=>?_
 ·have hil:i < l.n:=by omega
  rcases tk1 with ⟨z,z2,_⟩ | ⟨c,cs0,h1',_,_,hnc,_⟩
  ·omega
  ·obtain ⟨cs,row,hcl,hcs⟩:=r2 c h1'
   refine bmark_ok (by omega) (by omega) ⟨_,rfl,⟨by omega,hlt⟩,PtrOk_of h1' ?_⟩
   rw [Int.toNat_natCast,Nat.mul_one]
   refine row_st row (add_ad _ _) (by omega) fun h3 row3 k3=>⟨l.n - (i + 1),by omega,i + 1,by omega,rfl,rfl,rfl,rfl,by rw [wrap_i64' (by omega) (by omega)]; rfl,k2.trans (k3.mono fun b _ e=>by rw [e]; exact h1'),fun c2 hc2=>?_⟩
   rw [h1'] at hc2
   have:c=c2:=congrArg Addr.block (Option.some.inj hc2)
   subst this
   refine ⟨_,row3,by rw [List.length_set]; exact hcl,fun j hj=>?_⟩
   by_cases ej:j=i
   ·subst ej; rw [List.getElem?_set_self (by omega)]; rfl
   ·rw [List.getElem?_set_ne (Ne.symm ej)]; exact hcs j (by omega)
 ·have hie:i=l.n:=by omega
  subst hie
  have x2:Bk h2 { d with turn:=d.turn + 1,M:=M1 }:=x1.keep k2 fun b hb e=>by
   rcases tk1 with ⟨z,_⟩ | ⟨c,_,h1',_,_,_,_,_,hnf⟩
   ·rw [z] at e; cases e
   ·rw [h1'] at e
    have:c=b:=congrArg Addr.block (Option.some.inj e)
    subst this
    exact hnf hb
  have t02:BkT2 h d l h2 { d with turn:=d.turn + 1,M:=M1 }:=⟨rfl,(t1.2.1.mono fun b _ e=>.inl e).trans (k2.mono fun b _ e=>.inr e),fun b hb=>(t1.2.2 b hb).imp_left .inl⟩
  have e2:IntKind.wrap .i64 ((1200:Int) + (IntKind.wrap .i64 ((3:Int) * (((l.n:Nat):Int)))))=((1200 + 3 * l.n:Nat):Int):=by
   rw [wrap_i64' (x:=(3:Int) * _) (by omega) (by omega),wrap_i64' (by omega) (by omega)]; omega
  rw [e2]
  refine tight_ok x2 (by omega) fun b h3 M3 u x3 t3=>⟨b,rfl,?_⟩
  have t03:BkT2 h d l h3 { d with turn:=d.turn + 1,M:=M3,used:=u }:=⟨rfl,⟨Nat.le_trans t02.2.1.1 t3.2.1.1,fun j hj hn=>(t3.2.1.2 j (Nat.lt_of_lt_of_le hj t02.2.1.1) fun hf=>(t02.2.2 j hf).elim hn fun hs=>by omega).trans (t02.2.1.2 j hj hn)⟩,fun b hb=>(t3.2.2 b hb).elim (t02.2.2 b) fun hs=>.inr (Nat.le_trans t02.2.1.1 hs)⟩
  refine Cond_b (fun _=>hR h3 _ x3 ⟨?_,tp.l2⟩ t03 rfl) fun _=>?_
  ·show d.es.length + 9 * (d.es.length - d.gat) ≤ 10 * (d.turn + 1); omega
  have keyE:∃ own',Bk h3 { d with turn:=d.turn + 1,M:=M3,used:=u,own:=own' }∧BkE h3 own' (l,d.turn + 1)∧∀ b m,own' b=some m→(∃ m',d.own b=some m') ∨ l.a=some (ad b):=by
   rcases tk1 with z | ⟨c,cs0,h1',_,_,hnc,hnf0,hcs0,hnf⟩
   ·exact ⟨d.own,x3,.inl z,fun b m hb=>.inl ⟨m,hb⟩⟩
   ·obtain ⟨cs,row,hcl,hcs⟩:=r2 c h1'
    have row3:=kept_row t3.2.1 row hnf
    have hnf3:¬ BkD.foot { d with turn:=d.turn + 1,M:=M3,used:=u } c:=fun hf=>(t3.2.2 c hf).elim hnf fun hs=>by have:=row_lt row; omega
    have ow:∀ b,d.own b ≠ none→b ≠ c:=fun b hb e=>by
     subst e
     cases ho:d.own b with
     | none=>exact hb ho
     | some m=>exact hnf0 (.inr ⟨m,ho⟩)
    refine ⟨fun b=>if b=c then some (d.turn + 1) else d.own b,x3.own_to (Kept.refl N h3) _ (fun b _=>_root_.id) (fun b m hb=>?_) fun e he=>?_,.inr ⟨c,cs,h1',if_pos rfl,row3,hcl,hnc,hcs⟩,fun b m hb=>?_⟩
    ·have hb:(if b=c then some (d.turn + 1) else d.own b)=some m:=hb
     split at hb
     ·rename_i e
      subst e
      exact ⟨row_lt row3,fun ho=>hnf3 (.inl ho)⟩
     ·exact x3.dis b m hb
    ·rcases x3.each e he with z | ⟨b,cs',g1,g2,g3,g4⟩
     ·exact .inl z
     ·exact .inr ⟨b,cs',g1,(if_neg (ow b (by have g2:d.own b=some e.2:=g2; rw [g2]; nofun))).trans g2,g3,g4⟩
    ·have hb:(if b=c then some (d.turn + 1) else d.own b)=some m:=hb
     split at hb
     ·rename_i e; subst e; exact .inr h1'
     ·exact .inl ⟨m,hb⟩
  obtain ⟨own',x4,le,ho⟩:=keyE
  refine book_add x4 (l:=l) (m:=d.turn + 1) le (by show d.es.length < _; omega) (fun h5 d5 x5 t5 e5 o5 g5 tu5 do5 us5=>?_) ⟨by show d.gat ≤ (d.es ++ _).length; rw [List.length_append]; omega,by show d.done ≤ d.turn + 1; omega,x3.nums.n4,fun e' he'=>?_,fun e' he'=>?_⟩
  ·have ee5:d5.es=d.es ++ [(l,d.turn + 1)]:=e5
   have gg5:d5.gat=d.gat:=g5
   have f4:∀ b,BkD.foot { d with turn:=d.turn + 1,M:=M3,used:=u,own:=own' } b→(d.foot b ∨ l.a=some (ad b)) ∨ h.size ≤ b:=fun b hb=>by
    rcases hb with hb | ⟨m,hb⟩
    ·exact t03.2.2 b (.inl hb)
    ·rcases ho b m hb with ⟨m',hm'⟩ | hm'
     ·exact .inl (.inl (.inr ⟨m',hm'⟩))
     ·exact .inl (.inr hm')
   refine hR h5 d5 x5 ⟨?_,fun k e' hk he'=>?_⟩ ⟨t5.1,⟨Nat.le_trans t03.2.1.1 t5.2.1.1,fun j hj hn=>(t5.2.1.2 j (Nat.lt_of_lt_of_le hj t03.2.1.1) fun hf=>(f4 j hf).elim hn fun hs=>by omega).trans (t03.2.1.2 j hj hn)⟩,fun b hb=>(t5.2.2 b hb).elim (f4 b) fun hs=>.inr (Nat.le_trans t03.2.1.1 hs)⟩ tu5
   ·have tu:d5.turn=d.turn + 1:=tu5
    rw [ee5,gg5,tu,List.length_append]
    show d.es.length + 1 + 9 * (d.es.length + 1 - d.gat) ≤ _
    omega
   ·rw [gg5] at hk
    rw [ee5] at he'
    by_cases hkl:k < d.es.length
    ·rw [List.getElem?_append_left hkl] at he'
     exact tp.l2 k e' hk he'
    ·rw [List.getElem?_append_right (by omega)] at he'
     obtain rfl:=List.mem_singleton.1 (List.mem_of_getElem? he')
     exact hl
  ·rcases List.mem_append.1 he' with z | z
   ·exact Nat.le_succ_of_le (x.nums.mt e' z)
   ·obtain rfl:=List.mem_singleton.1 z; exact Nat.le_refl _
  ·rcases List.mem_append.1 he' with z | z
   ·exact x.nums.l1 e' z
   ·obtain rfl:=List.mem_singleton.1 z; show l.n ≤ _; omega
end
end Go.Ev
set_option linter.all false
set_option maxRecDepth 1000000
namespace Go.Ev
open Go.Proofs
/-- An answer that is left: the list, what it must hold, the copy of that, the blocks. -/
structure LtE where
 sl:Sl
 w:List Nat
 ws:Sl
 gb:Nat
 wb:Nat
structure LtD where
 lb:Nat
 M:Mem
 gs:List LtE
 sg:Sl
 sw:Sl
def LtD.cells (L:LtD):List Value:=[.slice L.sg.a L.sg.n L.sg.c,.slice L.sw.a L.sw.n L.sw.c]
/-- A list is somebody's own, with these bytes. -/
def OwnL (h:Hp) (sl:Sl) (gb:Nat) (w:List Nat):Prop:=(sl.a=none∧sl.n=0∧sl.c=0∧w=[]) ∨ (sl.a=some (ad gb)∧sl.n=w.length∧∃ cs,Row h gb cs∧cs.length=sl.c∧sl.n ≤ sl.c∧∀ j,j < sl.n→cs[j]?=(w.map bv)[j]?)
def LtE.blk (e:LtE) (b:Nat):Prop:=e.sl.a=some (ad b) ∨ b=e.wb
def LtD.foot (L:LtD) (b:Nat):Prop:=L.M.own b ∨ ∃ e ∈ L.gs,e.blk b
structure LtOk (h:Hp) (e:LtE):Prop where
 g:OwnL h e.sl e.gb e.w
 r:ReadsO h e.ws.a (e.w.map bv)
 rn:e.ws.n=e.w.length
 ra:e.ws.a=some (ad e.wb)
 lt:e.wb < h.size
 b8:Bytes8 e.w
 ln:e.w.length ≤ 10000000
structure Lt (h:Hp) (L:LtD):Prop where
 sep:Sep h L.M
 l0:L.M.loc 0=some L.lb
 c0:L.M.cont 0=L.cells
 s1:IsSl 1 L.M 1 L.sg (L.gs.map fun e=>slV e.sl)
 s2:IsSl 1 L.M 2 L.sw (L.gs.map fun e=>slV e.ws)
 each:∀ e ∈ L.gs,LtOk h e
 dis:∀ e ∈ L.gs,∀ b,e.blk b→¬ L.M.own b
 inj:∀ (i j:Nat) (e e':LtE),L.gs[i]?=some e→L.gs[j]?=some e'→∀ b,e.sl.a=some (ad b)→e'.blk b→(i=j∧e'.sl.a=some (ad b))
section
variable {h h' h2:Hp} {L L' L2:LtD} {d d':BkD} {R:Value→Hp→Prop}
theorem OwnL.keep {sl:Sl} {gb:Nat} {w:List Nat} {S:Nat→Prop} (o:OwnL h sl gb w) (k:Kept S h h') (hS:∀ b,sl.a=some (ad b)→¬ S b):OwnL h' sl gb w:=by
 rcases o with o | ⟨o1,o2,cs,o3,o4⟩
 ·exact .inl o
 ·exact .inr ⟨o1,o2,cs,kept_row k o3 (hS gb o1),o4⟩
theorem OwnL.reads {sl:Sl} {gb:Nat} {w:List Nat} (o:OwnL h sl gb w):ReadsO h sl.a (w.map bv)∧sl.n=w.length:=by
 rcases o with ⟨o1,o2,_,o4⟩ | ⟨o1,o2,cs,o3,o4,o5,o6⟩
 ·rw [o1,o4]; exact ⟨rfl,o2⟩
 ·rw [o1]
  refine ⟨fun j v hj=>?_,o2⟩
  have hl:=(List.getElem?_eq_some_iff.1 hj).1
  rw [List.length_map] at hl
  rw [add_ad]
  exact (cell_row o3 j).trans ((o6 j (by omega)).trans hj)
theorem OwnL.lt {sl:Sl} {gb:Nat} {w:List Nat} (o:OwnL h sl gb w) {b:Nat} (hb:sl.a=some (ad b)):b < h.size:=by
 rcases o with ⟨o1,_⟩ | ⟨o1,o2,cs,o3,_⟩
 ·rw [o1] at hb; cases hb
 ·rw [o1] at hb
  have:gb=b:=congrArg Addr.block (Option.some.inj hb)
  subst this
  exact row_lt o3
theorem LtOk.keep {e:LtE} {S:Nat→Prop} (x:LtOk h e) (k:Kept S h h') (hS:∀ b,e.blk b→¬ S b):LtOk h' e :=
 ⟨x.g.keep k fun b hb=>hS b (.inl hb),reads_kept2 k x.r fun p hp hn=>(by rw [x.ra] at hp; obtain rfl:=Option.some.inj hp; exact ⟨x.lt,hS _ (.inr rfl)⟩),x.rn,x.ra,Nat.lt_of_lt_of_le x.lt k.1,x.b8,x.ln⟩
theorem Lt.keep {S:Nat→Prop} (x:Lt h L) (k:Kept S h h') (hS:∀ b,L.foot b→¬ S b):Lt h' L :=
 ⟨x.sep.keep k fun b hb=>hS b (.inl hb),x.l0,x.c0,x.s1,x.s2,fun e he=>(x.each e he).keep k fun b hb=>hS b (.inr ⟨e,he,hb⟩),x.dis,x.inj⟩
theorem Lt.keepN (x:Lt h L) (k:Kept N h h'):Lt h' L:=x.keep k fun _ _=>_root_.id
theorem LtOk.blk_lt {e:LtE} (x:LtOk h e) {b:Nat} (hb:e.blk b):b < h.size:=by
 rcases hb with hb | hb
 ·exact x.g.lt hb
 ·rw [hb]; exact x.lt
theorem Lt.foot_lt (x:Lt h L) {b:Nat} (hb:L.foot b):b < h.size:=by
 rcases hb with hb | ⟨e,he,hb⟩
 ·exact x.sep.own_lt hb
 ·exact (x.each e he).blk_lt hb
theorem Lt.cell (x:Lt h L) (k:Nat):Go.Ev.cell h ((ad L.lb).add k)=L.cells[k]?:=by rw [x.sep.cellA x.l0 k,x.c0]
theorem Lt.cell0 (x:Lt h L):Go.Ev.cell h (ad L.lb)=L.cells[0]?:=x.cell 0
/-- The copy of a text in a block of its own. -/
theorem text_made {w:List Nat} (b8:Bytes8 w) {nc:Nat} (hn:(ofL w).size ≤ nc) {h1:Hp} (e1:h1=h.push (.cells (((ofL w).data.map fun b=>Value.int .u8 b.toNat) ++ Array.replicate (nc - (ofL w).size) (.int .u8 0)) 5 (nc,nc + 1))) :
  Kept N h h1∧ReadsO h1 (some (ad h.size)) (w.map bv)∧h.size < h1.size:=by
 subst e1
 refine ⟨kept_push _ _ _,fun j v hj=>?_,by simp⟩
 have hl:=(List.getElem?_eq_some_iff.1 hj).1
 rw [add_ad]
 unfold Go.Ev.cell
 show (match (h.push _)[h.size]? with | some (.cells c _ _)=>if (none:Option _).isSome then none else c[j]? | _=>none)=_
 rw [Array.getElem?_push_size]
 rw [ofL_arr b8]
 show ((w.map bv).toArray ++ _)[j]?=_
 rw [Array.getElem?_append_left (by simpa using hl)]
 simpa using hj
/-- Add: an answer, and what it must hold. -/
theorem ladd_ok (x:Lt h L) {sl a2:Sl} {gb:Nat} {w:List Nat} (o:OwnL h sl gb w) (hL:∀ b,sl.a=some (ad b)→¬ L.foot b) (rd:ReadsO h a2.a (w.map bv)) (na:a2.n=w.length) (old:∀ p,a2.a=some p→w ≠ []→¬ L.foot p.block∧p.block < h.size) (b8:Bytes8 w) (hw:w.length ≤ 10000000) (hlen:L.gs.length < 100000)
  (hR:∀ h' L',Lt h' L'→L'.lb=L.lb→L'.gs.length=L.gs.length + 1→Kept L.foot h h'→(∀ b,L'.foot b→L.foot b ∨ sl.a=some (ad b) ∨ h.size ≤ b)→R (.tuple #[]) h') :
  CallTo Tryz.prog 97 #[.pointer (some (ad L.lb)),.slice sl.a sl.n sl.c,.slice a2.a a2.n a2.c] h R:=by
 have ln:L.sg.n=L.gs.length:=by have:=x.s1.len; rw [List.length_map] at this; omega
 have lo:L.sw.n=L.gs.length:=by have:=x.s2.len; rw [List.length_map] at this; omega
 refine f97F_ok ?_
 unfold f97F
 refine PtrOk_mk ⟨L.sg,x.cell0,?_⟩
 refine x.s1.app1 x.sep rfl rfl (fun v hv=>by simp at hv; rw [hv]; rfl) (by omega) (by omega) fun a1 c1 h1 ob1 cc1 sep1 sl1 ch1=>?_
 have z0:(L.M.upd 1 ob1 cc1).loc 0=some L.lb:=by rw [Mem.loc_ne _ _ _ (by omega)]; exact x.l0
 have z0c:(L.M.upd 1 ob1 cc1).cont 0=L.cells:=by rw [Mem.cont_ne _ _ _ (by omega)]; exact x.c0
 refine PtrOk_mk (sep1.st z0 (o:=0) rfl (by rw [z0c]; show 0 < 2; omega) fun h2 sep2 ch2=>?_)
 rw [z0c] at sep2 ch2
 have sl2:=sl1.other (x:=0) (b:=some L.lb) (c:=L.cells.set 0 (.slice a1 (L.sg.n + 1) c1)) (by omega)
 have ch02:=ch1.trans ch2
 generalize hM2:(L.M.upd 1 ob1 cc1).upd 0 (some L.lb) (L.cells.set 0 (.slice a1 (L.sg.n + 1) c1))=M2 at sep2 ch02 sl2
 have y0:M2.loc 0=some L.lb:=by rw [← hM2,Mem.loc_self]
 have y0c:M2.cont 0=L.cells.set 0 (.slice a1 (L.sg.n + 1) c1):=by rw [← hM2,Mem.cont_self]
 have s22:IsSl 1 M2 2 L.sw (L.gs.map fun e=>slV e.ws):=by rw [← hM2]; exact (x.s2.other (by omega)).other (by omega)
 have cW:∀ h',Kept N h2 h'→Go.Ev.cell h' ((ad L.lb).add 1)=some (.slice L.sw.a L.sw.n L.sw.c):=fun h' k=>by rw [(sep2.keepN k).cellA y0 1,y0c]; rfl
 have rd2:ReadsO h2 a2.a (w.map bv):=reads_kept2 ch02.1 rd fun p hp hn=>(have:=old p hp (fun e=>hn (by rw [e]; rfl)); ⟨this.2,fun ho=>this.1 (.inl ho)⟩)
 refine PtrOk_mk ⟨L.sw,cW h2 (Kept.refl _ _),ofL w,spells_of rd2 na b8,by rw [ofL_size]; omega,fun nc hnc1 hnc2=>Let_mk fun h3 e3=>?_⟩
 obtain ⟨k3,rd3,lt3⟩:=text_made b8 hnc1 e3
 refine ⟨⟨L.sw,cW h3 k3,rfl⟩,Let_mk fun h4 e4=>?_⟩
 have k4:Kept N h3 h4:=e4 ▸ kept_push _ _ _
 have row4:Row h4 h3.size [.slice (some (ad h2.size)) w.length nc]:=by
  have:=row_new h3 #[.slice (some (nb h2)) (ofL w).size nc] 33
  rw [ofL_size] at this e4
  exact e4 ▸ this
 have k24:Kept N h2 h4:=k3.trans k4
 refine ⟨⟨L.sw,cW h4 k24,rfl⟩,[.slice (some (ad h2.size)) w.length nc],reads_row row4 (fun j v hj=>by rw [Nat.zero_add]; exact hj),rfl,?_⟩
 refine s22.app (sep2.keepN k24) rfl rfl (fun v hv=>by simp at hv; rw [hv]; rfl) (by omega) (by omega) fun a5 c5 h5 ob5 cc5 sep5 sl5 ch5=>?_
 have w0:(M2.upd 2 ob5 cc5).loc 0=some L.lb:=by rw [Mem.loc_ne _ _ _ (by omega)]; exact y0
 have w0c:(M2.upd 2 ob5 cc5).cont 0=L.cells.set 0 (.slice a1 (L.sg.n + 1) c1):=by rw [Mem.cont_ne _ _ _ (by omega)]; exact y0c
 refine PtrOk_mk (sep5.st w0 (o:=1) (add_ad _ _) (by rw [w0c,List.length_set]; show 1 < 2; omega) fun h6 sep6 ch6=>?_)
 rw [w0c] at sep6 ch6
 have ch46:=ch5.trans ch6
 have ch06:Chg h L.M h6 _:=(ch02.trans (Chg.of_kept k24)).trans ch46
 have sl6:=(sl2.other (x:=2) (b:=ob5) (c:=cc5) (by omega)).other (x:=0) (b:=some L.lb) (c:=(L.cells.set 0 (.slice a1 (L.sg.n + 1) c1)).set 1 (.slice a5 (L.sw.n + 1) c5)) (by omega)
 have sl7:=sl5.other (x:=0) (b:=some L.lb) (c:=(L.cells.set 0 (.slice a1 (L.sg.n + 1) c1)).set 1 (.slice a5 (L.sw.n + 1) c5)) (by omega)
 have m26:∀ b,M2.own b→L.M.own b ∨ h.size ≤ b:=ch02.2
 generalize hM6:(M2.upd 2 ob5 cc5).upd 0 (some L.lb) ((L.cells.set 0 (.slice a1 (L.sg.n + 1) c1)).set 1 (.slice a5 (L.sw.n + 1) c5))=M6 at sep6 ch06 ch46 sl6 sl7
 have hz2:h.size ≤ h2.size:=ch02.1.1
 have wnot:¬ M6.own h2.size:=fun ho=>by
  rcases ch46.2 _ ho with z | z
  ·have:=sep2.own_lt z; omega
  ·have:=k4.1; omega
 have wN:∀ b,L.foot b ∨ b < h.size→b ≠ h2.size:=fun b hb e=>by
  rcases hb with hb | hb
  ·have:=x.foot_lt hb; omega
  ·omega
 have hn6:∀ b,b < h.size→¬ L.M.own b→¬ M6.own b:=fun b hb hn ho=>(ch06.2 b ho).elim hn fun z=>by omega
 have e':LtE:=⟨sl,w,⟨some (ad h2.size),w.length,nc⟩,gb,h2.size⟩
 refine hR h6 ⟨L.lb,M6,L.gs ++ [⟨sl,w,⟨some (ad h2.size),w.length,nc⟩,gb,h2.size⟩],⟨a1,L.sg.n + 1,c1⟩,⟨a5,L.sw.n + 1,c5⟩⟩ ⟨sep6,by rw [← hM6,Mem.loc_self],by rw [← hM6,Mem.cont_self]; rfl,?_,?_,fun e he=>?_,fun e he b hb=>?_,fun i j e e2 hi hj b hb hb2=>?_⟩ rfl (by rw [List.length_append]; rfl) (ch06.1.mono fun b _ hb=>.inl hb) fun b hb=>?_
 ·have q:(L.gs ++ [(⟨sl,w,⟨some (ad h2.size),w.length,nc⟩,gb,h2.size⟩:LtE)]).map (fun e=>slV e.sl)=(L.gs.map fun e=>slV e.sl) ++ #[Value.slice sl.a sl.n sl.c].toList:=by rw [List.map_append]; rfl
  rw [q]
  exact sl6
 ·have q:(L.gs ++ [(⟨sl,w,⟨some (ad h2.size),w.length,nc⟩,gb,h2.size⟩:LtE)]).map (fun e=>slV e.ws)=(L.gs.map fun e=>slV e.ws) ++ [Value.slice (some (ad h2.size)) w.length nc]:=by rw [List.map_append]; rfl
  rw [q]
  exact sl7
 ·rcases List.mem_append.1 he with he | he
  ·exact (x.each e he).keep ch06.1 fun b hb=>x.dis e he b hb
  ·obtain rfl:=List.mem_singleton.1 he
   have k26:Kept M2.own h2 h6:=(k24.mono fun _ _ z=>z.elim).trans ch46.1
   exact ⟨o.keep ch06.1 fun b hb ho=>hL b hb (.inl ho),by
    have r4:=reads_keptN k4 rd3
    refine reads_kept2 ch46.1 r4 fun p hp hn=>(by obtain rfl:=Option.some.inj hp; exact ⟨by show h2.size < h4.size; have:=k4.1; omega,fun ho=>by have:=sep2.own_lt ho; exact Nat.lt_irrefl _ this⟩),rfl,rfl,by show h2.size < h6.size; have:=ch46.1.1; have:=k4.1; omega,b8,hw⟩
 ·rcases List.mem_append.1 he with he | he
  ·exact hn6 b ((x.each e he).blk_lt hb) (x.dis e he b hb)
  ·obtain rfl:=List.mem_singleton.1 he
   rcases hb with hb | hb
   ·exact hn6 b (o.lt hb) fun ho=>hL b hb (.inl ho)
   ·rw [hb]; exact wnot
 ·have gi:∀ {k:Nat} {e:LtE},(L.gs ++ [(⟨sl,w,⟨some (ad h2.size),w.length,nc⟩,gb,h2.size⟩:LtE)])[k]?=some e→(k < L.gs.length∧L.gs[k]?=some e) ∨ (k=L.gs.length∧e=⟨sl,w,⟨some (ad h2.size),w.length,nc⟩,gb,h2.size⟩):=fun {k e} hk=>by
   by_cases hkl:k < L.gs.length
   ·rw [List.getElem?_append_left hkl] at hk; exact .inl ⟨hkl,hk⟩
   ·have hlt:=(List.getElem?_eq_some_iff.1 hk).1
    rw [List.length_append] at hlt
    have hlt:k < L.gs.length + 1:=hlt
    have hke:k=L.gs.length:=by omega
    subst hke
    rw [List.getElem?_append_right (Nat.le_refl _),Nat.sub_self] at hk
    exact .inr ⟨rfl,(Option.some.inj hk).symm⟩
  rcases gi hi with ⟨i1,i2⟩ | ⟨i1,rfl⟩ <;> rcases gi hj with ⟨j1,j2⟩ | ⟨j1,rfl⟩
  ·exact x.inj i j e e2 i2 j2 b hb hb2
  ·have hm:=List.mem_of_getElem? i2
   rcases hb2 with hb2 | hb2
   ·exact absurd (.inr ⟨e,hm,.inl hb⟩) (hL b hb2)
   ·exact absurd hb2 (wN b (.inl (.inr ⟨e,hm,.inl hb⟩)))
  ·have hm:=List.mem_of_getElem? j2
   exact absurd (.inr ⟨e2,hm,hb2⟩) (hL b hb)
  ·exact ⟨by omega,hb⟩
 ·rcases hb with hb | ⟨e,he,hb⟩
  ·rcases ch06.2 b hb with z | z
   ·exact .inl (.inl z)
   ·exact .inr (.inr z)
  ·rcases List.mem_append.1 he with he | he
   ·exact .inl (.inr ⟨e,he,hb⟩)
   ·obtain rfl:=List.mem_singleton.1 he
    rcases hb with hb | hb
    ·exact .inr (.inl hb)
    ·have hb:b=h2.size:=hb
     exact .inr (.inr (by omega))
end
end Go.Ev
set_option linter.all false
set_option maxRecDepth 1000000
namespace Go.Ev
open Go.Proofs
def BLfoot (d:BkD) (L:LtD) (b:Nat):Prop:=d.foot b ∨ L.foot b
structure BL (h:Hp) (d:BkD) (L:LtD):Prop where
 bk:Bk h d
 tp:d.Top
 lt:Lt h L
 sep:∀ b,L.foot b→¬ d.foot b
structure BLT (h:Hp) (d:BkD) (L:LtD) (h':Hp) (d':BkD) (L':LtD):Prop where
 bb:d'.bb=d.bb
 lb:L'.lb=L.lb
 k:Kept (BLfoot d L) h h'
 f:∀ b,BLfoot d' L' b→BLfoot d L b ∨ h.size ≤ b
section
variable {h h' h2:Hp} {L L' L2:LtD} {d d' d2:BkD} {R:Value→Hp→Prop}
theorem BLT.refl (h:Hp) (d:BkD) (L:LtD):BLT h d L h d L:=⟨rfl,rfl,Kept.refl _ _,fun _=>.inl⟩
theorem BLT.trans (a:BLT h d L h' d' L') (b:BLT h' d' L' h2 d2 L2):BLT h d L h2 d2 L2 :=
 ⟨b.bb.trans a.bb,b.lb.trans a.lb,⟨Nat.le_trans a.k.1 b.k.1,fun i hi hn=>(b.k.2 i (Nat.lt_of_lt_of_le hi a.k.1) fun o=>(a.f i o).elim hn fun h=>by omega).trans (a.k.2 i hi hn)⟩,
  fun i o=>(b.f i o).elim (a.f i) fun h=>.inr (Nat.le_trans a.k.1 h)⟩
theorem BL.keep {S:Nat→Prop} (x:BL h d L) (k:Kept S h h') (hS:∀ b,BLfoot d L b→¬ S b):BL h' d L:=⟨x.bk.keep k fun b hb=>hS b (.inl hb),x.tp,x.lt.keep k fun b hb=>hS b (.inr hb),x.sep⟩
theorem BL.keepN (x:BL h d L) (k:Kept N h h'):BL h' d L:=x.keep k fun _ _=>_root_.id
theorem BL.foot_lt (x:BL h d L) {b:Nat} (hb:BLfoot d L b):b < h.size:=hb.elim x.bk.foot_lt x.lt.foot_lt
theorem OwnL.taken {sl:Sl} {gb:Nat} {w:List Nat} (o:OwnL h sl gb w) (hf:∀ b,sl.a=some (ad b)→¬ d.foot b):Taken h d sl:=by
 rcases o with ⟨o1,o2,o3,_⟩ | ⟨o1,o2,cs,o3,o4,o5,_⟩
 ·exact .inl ⟨o1,o2,o3⟩
 ·exact .inr ⟨gb,cs,o1,o3,o4,o5,hf gb o1⟩
/-- Look, of a book with answers that are left beside it. -/
theorem look2_ok (x:BL h d L) (ht:d.turn < 1000000) (hR:∀ h' d',BL h' d' L→BLT h d L h' d' L→d'.turn=d.turn→R (.bool true) h'):CallTo Tryz.prog 13 #[.pointer (some (ad d.bb))] h R :=
 blook_ok x.bk x.tp ht fun h' d' x' tp' t' tu=>hR h' d' ⟨x',tp',x.lt.keep t'.2.1 x.sep,fun b hb hf=>(t'.2.2 b hf).elim (x.sep b hb) fun hs=>by have:=x.lt.foot_lt hb; omega⟩
  ⟨t'.1,rfl,t'.2.1.mono fun b _=>.inl,fun b hb=>hb.elim (fun hb=>(t'.2.2 b hb).imp_left .inl) fun hb=>.inl (.inr hb)⟩ tu
theorem settle_ok (x:BL h d L) {n:Nat} (hn:n < 1000000) (hl:L.gs.length < 100000) (ht:d.turn < 100000)
  (hR:∀ h' d' L',BL h' d' L'→BLT h d L h' d' L'→d'.turn + L'.gs.length=d.turn + L.gs.length→R (.bool true) h'):CallTo Tryz.prog 14 #[.pointer (some (ad L.lb)),.pointer (some (ad d.bb)),.int .i64 (n:Nat)] h R:=by
 obtain ⟨bk,tp,lt,sp⟩:=x
 have ln:L.sg.n=L.gs.length:=by have:=lt.s1.len; rw [List.length_map] at this; omega
 have lo:L.sw.n=L.gs.length:=by have:=lt.s2.len; rw [List.length_map] at this; omega
 have rg:=slAt_reads (lt.s1.slAt lt.sep)
 have rw_:=slAt_reads (lt.s2.slAt lt.sep)
 have cG:Go.Ev.cell h (ad L.lb)=some (.slice L.sg.a L.sg.n L.sg.c):=lt.cell0
 have cW:Go.Ev.cell h ((ad L.lb).add 1)=some (.slice L.sw.a L.sw.n L.sw.c):=lt.cell 1
 refine f14F_ok ?_
 unfold f14F
 refine PtrOk_mk ⟨L.sg,cG,Cond_dec (fun _=>hR h d L ⟨bk,tp,lt,sp⟩ (BLT.refl _ _ _) rfl) fun _=>?_⟩
 refine f14L1_rule (fun m s0 s1 s7 h'=>∃ i:Nat,i ≤ L.gs.length∧m=L.gs.length - i∧s0=some (ad L.lb)∧s1=some (ad d.bb)∧s7=(i:Int)∧h=h') L.gs.length ⟨0,Nat.zero_le _,rfl,rfl,rfl,rfl,rfl⟩ ?_
 rintro m s0 s1 s7 g h1 ⟨i,hi,rfl,rfl,rfl,rfl,rfl⟩
 unfold f14L1
 refine PtrOk_mk ⟨L.sg,cG,Cond_dec (fun hlt=>?_) fun hge=>?_⟩
 ·have hil:i < L.gs.length:=by omega
  obtain ⟨e,he⟩:∃ e,L.gs[i]?=some e:=⟨_,List.getElem?_eq_getElem hil⟩
  have eo:=lt.each e (List.mem_of_getElem? he)
  obtain ⟨pg,hpg,cg⟩:=readsO_get rg (i:=i) (v:=slV e.sl) (by rw [List.getElem?_map,he]; rfl)
  obtain ⟨pw,hpw,cw⟩:=readsO_get rw_ (i:=i) (v:=slV e.ws) (by rw [List.getElem?_map,he]; rfl)
  rw [Int.toNat_natCast,Nat.mul_one]
  obtain ⟨g1,g2⟩:=eo.g.reads
  refine PtrOk_mk ⟨L.sg,cG,⟨by omega,by omega⟩,PtrOk_of hpg ⟨e.sl,cg,ofL e.w,spells_of g1 g2 eo.b8,PtrOk_mk ⟨L.sw,cW,⟨by omega,by omega⟩,PtrOk_of hpw ⟨e.ws,cw,ofL e.w,spells_of eo.r eo.rn eo.b8,?_⟩⟩⟩⟩
  rw [ofL_beq]
  exact Cond_f rfl ⟨L.gs.length - (i + 1),by omega,i + 1,by omega,rfl,rfl,rfl,by rw [wrap_i64' (by omega) (by omega)]; rfl,rfl⟩
 ·clear hge hi i
  refine f14L2_rule (fun m s0 s1 s8 h'=>∃ (i:Nat) (d':BkD),i ≤ L.gs.length∧m=L.gs.length - i∧s0=some (ad L.lb)∧s1=some (ad d.bb)∧s8=(i:Int)∧Bk h' d'∧d'.Top∧d'.bb=d.bb∧d'.turn=d.turn + i ∧
    Kept (fun b=>d.foot b ∨ ∃ k e,k < i∧L.gs[k]?=some e∧e.sl.a=some (ad b)) h h'∧∀ b,d'.foot b→(d.foot b ∨ ∃ k e,k < i∧L.gs[k]?=some e∧e.sl.a=some (ad b)) ∨ h.size ≤ b) L.gs.length
   ⟨0,d,Nat.zero_le _,rfl,rfl,rfl,rfl,bk,tp,rfl,rfl,Kept.refl _ _,fun b hb=>.inl (.inl hb)⟩ ?_
  rintro m s0 s1 s8 g h1 ⟨i,d1,hi,rfl,rfl,rfl,rfl,x1,tp1,eb1,tu1,k1,f1⟩
  have sepM:∀ b,L.M.own b→¬ (d.foot b ∨ ∃ k e,k < i∧L.gs[k]?=some e∧e.sl.a=some (ad b)):=fun b hb hx=>by
   rcases hx with hx | ⟨k,e,_,he,ha⟩
   ·exact sp b (.inl hb) hx
   ·exact lt.dis e (List.mem_of_getElem? he) b (.inl ha) hb
  have sep1:Sep h1 L.M:=lt.sep.keep k1 sepM
  have cG1:Go.Ev.cell h1 (ad L.lb)=some (.slice L.sg.a L.sg.n L.sg.c):=by rw [show ad L.lb=(ad L.lb).add 0 from rfl,sep1.cellA lt.l0 0,lt.c0]; rfl
  unfold f14L2
  refine PtrOk_mk ⟨L.sg,cG1,Cond_dec (fun hlt=>?_) fun hge=>?_⟩
  ·have hil:i < L.gs.length:=by omega
   obtain ⟨e,he⟩:∃ e,L.gs[i]?=some e:=⟨_,List.getElem?_eq_getElem hil⟩
   have hmem:=List.mem_of_getElem? he
   have eo:=lt.each e hmem
   have notE:∀ b,e.sl.a=some (ad b)→¬ (d.foot b ∨ ∃ k e,k < i∧L.gs[k]?=some e∧e.sl.a=some (ad b)):=fun b hb hx=>by
    rcases hx with hx | ⟨k,e2,hk,he2,ha⟩
    ·exact sp b (.inr ⟨e,hmem,.inl hb⟩) hx
    ·have:=(lt.inj i k e e2 he he2 b hb (.inl ha)).1
     omega
   have o1:=eo.g.keep k1 notE
   have tk:Taken h1 d1 e.sl:=o1.taken fun b hb hf=>(f1 b hf).elim (notE b hb) fun hs=>by have:=eo.g.lt hb; omega
   obtain ⟨pg,hpg,cg⟩:=readsO_get (slAt_reads (lt.s1.slAt sep1)) (i:=i) (v:=slV e.sl) (by rw [List.getElem?_map,he]; rfl)
   rw [Int.toNat_natCast,Nat.mul_one,← eb1]
   have hen:e.sl.n ≤ 10000000:=by have:=eo.g.reads.2; have:=eo.ln; omega
   refine PtrOk_mk ⟨L.sg,cG1,⟨by omega,by omega⟩,PtrOk_of hpg ⟨e.sl,cg,bytes2_ok x1 tp1 hen tk (by omega) fun h2 d2 x2 tp2 t2 tu2=>⟨rfl,L.gs.length - (i + 1),by omega,i + 1,d2,by omega,rfl,rfl,by rw [eb1],by rw [wrap_i64' (by omega) (by omega)]; rfl,x2,tp2,t2.1,by omega,?_,?_⟩⟩⟩
   ·refine ⟨Nat.le_trans k1.1 t2.2.1.1,fun j hj hn'=>(t2.2.1.2 j (Nat.lt_of_lt_of_le hj k1.1) fun hf=>?_).trans (k1.2 j hj fun hx=>hn' (hx.imp_right fun ⟨k,e2,a,b,c⟩=>⟨k,e2,by omega,b,c⟩))⟩
    rcases hf with hf | hf
    ·rcases f1 j hf with z | z
     ·exact hn' (z.imp_right fun ⟨k,e2,a,b,c⟩=>⟨k,e2,by omega,b,c⟩)
     ·omega
    ·exact hn' (.inr ⟨i,e,by omega,he,hf⟩)
   ·intro b hb
    rcases t2.2.2 b hb with (z | z) | z
    ·exact (f1 b z).imp_left fun z=>z.imp_right fun ⟨k,e2,a,b,c⟩=>⟨k,e2,by omega,b,c⟩
    ·exact .inl (.inr ⟨i,e,by omega,he,z⟩)
    ·exact .inr (Nat.le_trans k1.1 z)
  ·have hie:i=L.gs.length:=by omega
   subst hie
   refine PtrOk_mk (sep1.st lt.l0 (o:=0) rfl (by rw [lt.c0]; show 0 < 2; omega) fun h2 sep2 ch2=>?_)
   rw [lt.c0] at sep2 ch2
   have y0:=Mem.loc_self L.M 0 (some L.lb) (L.cells.set 0 (.slice none 0 0))
   refine PtrOk_mk (sep2.st y0 (o:=1) (add_ad _ _) (by rw [Mem.cont_self,List.length_set]; show 1 < 2; omega) fun h3 sep3 ch3=>?_)
   rw [Mem.cont_self] at sep3 ch3
   have ch:=ch2.trans ch3
   generalize hM3:(L.M.upd 0 (some L.lb) (L.cells.set 0 (.slice none 0 0))).upd 0 (some L.lb) ((L.cells.set 0 (.slice none 0 0)).set 1 (.slice none 0 0))=M3 at sep3 ch
   have w0:M3.loc 0=some L.lb:=by rw [← hM3,Mem.loc_self]
   have w0c:M3.cont 0=[.slice none 0 0,.slice none 0 0]:=by rw [← hM3,Mem.cont_self]; rfl
   obtain ⟨s4,c4⟩:=sep3.drop 1 []
   obtain ⟨s5,c5⟩:=s4.drop 2 []
   have ch5:=(ch.trans c4).trans c5
   have nM:∀ b,d1.foot b→¬ L.M.own b:=fun b hf ho=>(f1 b hf).elim (fun z=>sepM b ho z) fun hs=>by have:=lt.sep.own_lt ho; omega
   have x3:Bk h3 d1:=x1.keep ch5.1 nM
   have lt3:Lt h3 ⟨L.lb,(M3.upd 1 none []).upd 2 none [],[],⟨none,0,0⟩,⟨none,0,0⟩⟩:=⟨s5,by rw [Mem.loc_ne _ _ _ (by omega),Mem.loc_ne _ _ _ (by omega)]; exact w0,by rw [Mem.cont_ne _ _ _ (by omega),Mem.cont_ne _ _ _ (by omega)]; exact w0c,(IsSl.nilSl M3 1 1 []).other (by omega),IsSl.nilSl _ 1 2 [],(fun e he=>by cases he),(fun e he=>by cases he),fun i j e e' hi=>by cases hi⟩
   have fL:∀ b,LtD.foot ⟨L.lb,(M3.upd 1 none []).upd 2 none [],[],⟨none,0,0⟩,⟨none,0,0⟩⟩ b→L.M.own b ∨ h1.size ≤ b:=fun b hb=>by
    rcases hb with hb | ⟨e,he,_⟩
    ·exact ch5.2 b hb
    ·cases he
   have x13:BL h3 d1 ⟨L.lb,(M3.upd 1 none []).upd 2 none [],[],⟨none,0,0⟩,⟨none,0,0⟩⟩:=⟨x3,tp1,lt3,fun b hb hf=>(fL b hb).elim (nM b hf) fun hs=>by have:=x1.foot_lt hf; omega⟩
   rw [← eb1]
   refine look2_ok x13 (by omega) fun h4 d4 x4 t4 tu4=>⟨true,rfl,hR h4 d4 _ x4 ⟨t4.bb.trans eb1,t4.lb,?_,fun b hb=>?_⟩ (by show d4.turn + 0=_; omega)⟩
   ·refine ⟨Nat.le_trans k1.1 (Nat.le_trans ch5.1.1 t4.k.1),fun j hj hn'=>(t4.k.2 j (Nat.lt_of_lt_of_le hj (Nat.le_trans k1.1 ch5.1.1)) fun hf=>?_).trans ((ch5.1.2 j (Nat.lt_of_lt_of_le hj k1.1) fun ho=>hn' (.inr (.inl ho))).trans (k1.2 j hj fun hx=>hn' ?_))⟩
    ·rcases hf with hf | hf
     ·rcases f1 j hf with z | z
      ·rcases z with z | ⟨k,e,_,he,ha⟩
       ·exact hn' (.inl z)
       ·exact hn' (.inr (.inr ⟨e,List.mem_of_getElem? he,.inl ha⟩))
      ·omega
     ·rcases fL j hf with z | z
      ·exact hn' (.inr (.inl z))
      ·have:=k1.1; omega
    ·rcases hx with z | ⟨k,e,_,he,ha⟩
     ·exact .inl z
     ·exact .inr (.inr ⟨e,List.mem_of_getElem? he,.inl ha⟩)
   ·have hs1:=k1.1
    have hs3:=ch5.1.1
    rcases t4.f b hb with z | z
    ·rcases z with z | z
     ·rcases f1 b z with y | y
      ·rcases y with y | ⟨k,e,_,he,ha⟩
       ·exact .inl (.inl y)
       ·exact .inl (.inr (.inr ⟨e,List.mem_of_getElem? he,.inl ha⟩))
      ·exact .inr y
     ·rcases fL b z with y | y
      ·exact .inl (.inr (.inl y))
      ·exact .inr (by omega)
    ·exact .inr (by omega)
end
end Go.Ev
set_option linter.all false
set_option maxRecDepth 1000000
namespace Go.Ev
open Go.Proofs
/-- Lists of bytes, wherever they lie. -/
structure Lists (h:Hp) (a:Sl) (sls:List Sl) (parts:List (List Nat)):Prop where
 rd:ReadsO h a.a (sls.map slV)
 n:a.n=sls.length
 len:sls.length=parts.length
 each:∀ (i:Nat) (c:Sl) (p:List Nat),sls[i]?=some c→parts[i]?=some p→ReadsO h c.a (p.map bv)∧c.n=p.length∧Bytes8 p∧p.length < 140737488355328∧∀ a:Addr,c.a=some a→p ≠ []→a.block < h.size
section
variable {h h' h2:Hp} {M M':Mem} {d d':BkD} {R:Value→Hp→Prop} {sz x y:Nat} {s:Sl} {vs:List Value} {parts:List (List Nat)}
theorem Lists.keepN {a:Sl} {sls:List Sl} (l:Lists h a sls parts) (k:Kept N h h'):Lists h' a sls parts :=
 ⟨reads_keptN k l.rd,l.n,l.len,fun i c p hc hp=>(have e:=l.each i c p hc hp; ⟨reads_keptN k e.1,e.2.1,e.2.2.1,e.2.2.2.1,fun a ha hn=>Nat.lt_of_lt_of_le (e.2.2.2.2 a ha hn) k.1⟩)⟩
theorem flat_mem:∀ {parts:List (List Nat)} {p:List Nat},p ∈ parts→p.length ≤ parts.flatten.length
 | q :: parts,p,hp=>by
  rw [List.flatten_cons,List.length_append]
  rcases List.mem_cons.1 hp with rfl | hp
  ·omega
  ·have:=flat_mem hp; omega
theorem IsSl.cong (i:IsSl sz M x s vs) (hl:M'.loc x=M.loc x) (hc:M'.cont x=M.cont x):IsSl sz M' x s vs :=
 ⟨i.len,fun e=>i.nil (hl.symm.trans e),fun b e=>by rw [hc]; exact i.row b (hl.symm.trans e)⟩
/-- A value is appended to a list whose slice stands in cell k of part 0. -/
theorem fld_app2 (p:Sep h M) {pb:Nat} {C:List Value} (l0:M.loc 0=some pb) (c0:M.cont 0=C) {k:Nat} (hk:k < C.length) (hy:y ≠ 0) (sl:IsSl 1 M y s vs) (hn:s.n < 10000000) {v:Value} (hv:isCell v=true) {src:Option Addr} (rd:ReadsO h src [v]) {K:Hp→Prop}
  (hK:∀ h' M' s',Sep h' M'→M'.loc 0=some pb→M'.cont 0=C.set k (slV s')→IsSl 1 M' y s' (vs ++ [v])→(∀ z,z ≠ 0→z ≠ y→M'.loc z=M.loc z∧M'.cont z=M.cont z)→Chg h M h' M'→K h') :
  appSl 33 1 24 #[.slice none 0 0] s.a s.n s.c src 1 h fun ra rn rc h4=>stOk h4 ((ad pb).add k)∧Let (setc h4 ((ad pb).add k) (.slice ra rn rc)) fun h5=>K h5:=by
 refine ⟨[v],rd,rfl,sl.app p rfl rfl (fun w hw=>by rw [List.mem_singleton.1 hw]; exact hv) (by omega) (by omega) fun a' c' h4 ob cc sep4 sl4 ch4=>?_⟩
 have z0:(M.upd y ob cc).loc 0=some pb:=by rw [Mem.loc_ne _ _ _ (Ne.symm hy)]; exact l0
 have z0c:(M.upd y ob cc).cont 0=C:=by rw [Mem.cont_ne _ _ _ (Ne.symm hy)]; exact c0
 refine sep4.st z0 (add_ad _ _) (by rw [z0c]; exact hk) fun h5 sep5 ch5=>?_
 rw [z0c] at sep5 ch5
 exact hK h5 _ ⟨a',s.n + 1,c'⟩ sep5 (Mem.loc_self _ _ _ _) (Mem.cont_self _ _ _ _) (sl4.other hy) (fun z hz hzy=>⟨by rw [Mem.loc_ne _ _ _ hz,Mem.loc_ne _ _ _ hzy],by rw [Mem.cont_ne _ _ _ hz,Mem.cont_ne _ _ _ hzy]⟩) (ch4.trans ch5)
theorem fld_app (p:Sep h M) {pb:Nat} {C:List Value} (l0:M.loc 0=some pb) (c0:M.cont 0=C) {k:Nat} (hk:C[k]?=some (slV s)) (hy:y ≠ 0) (sl:IsSl 1 M y s vs) (hn:s.n < 10000000) {v:Value} (hv:isCell v=true) {K:Hp→Prop}
  (hK:∀ h' M' s',Sep h' M'→M'.loc 0=some pb→M'.cont 0=C.set k (slV s')→IsSl 1 M' y s' (vs ++ [v])→(∀ z,z ≠ 0→z ≠ y→M'.loc z=M.loc z∧M'.cont z=M.cont z)→Chg h M h' M'→K h') :
  ∃ t:Sl,cell h ((ad pb).add k)=some (.slice t.a t.n t.c)∧Let (h.push (.cells #[v] 33)) fun h3=>appSl 33 1 24 #[.slice none 0 0] t.a t.n t.c (some (nb h)) 1 h3 fun ra rn rc h4=>stOk h4 ((ad pb).add k)∧Let (setc h4 ((ad pb).add k) (.slice ra rn rc)) fun h5=>K h5:=by
 refine ⟨s,by rw [p.cellA l0 k,c0]; exact hk,Let_mk fun h3 e3=>?_⟩
 have k3:Kept N h h3:=e3 ▸ kept_push _ _ _
 have row3:Row h3 h.size [v]:=e3 ▸ row_new h #[v] 33
 exact fld_app2 (p.keepN k3) l0 c0 (List.getElem?_eq_some_iff.1 hk).1 hy sl hn hv (row_reads row3) fun h' M' s' q1 q2 q3 q4 q5 q6=>hK h' M' s' q1 q2 q3 q4 q5 ((Chg.of_kept k3).trans q6)
/-- What LendAll has given, at its i-th list. -/
structure LnI (h:Hp) (M:Mem) (i:Nat) (l w:Sl) (p:List Nat):Prop where
 c:∃ c,l.a=some (ad c)∧M.loc (4 + i)=some c
 n:l.n=p.length
 cont:∃ junk,M.cont (4 + i)=p.map bv ++ marks ++ junk∧l.c=p.length + 3 + junk.length
 wr:ReadsO h w.a (p.map bv)
 wn:w.n=p.length
 wo:∀ q,w.a=some q→q.block < h.size∧¬ M.own q.block
structure LnC (h:Hp) (h0:Hp) (pb:Nat) (M:Mem) (parts:List (List Nat)) (i:Nat) (ls ws:List Sl) (sa sf sw:Sl) (v0:Value):Prop where
 sep:Sep h M
 l0:M.loc 0=some pb
 c0:M.cont 0=[v0,slV sa,slV sf,slV sw]
 s2:IsSl 1 M 2 sf (ls.map slV)
 s3:IsSl 1 M 3 sw (ws.map slV)
 ll:ls.length=i
 wl:ws.length=i
 each:∀ (k:Nat) (l w:Sl) (p:List Nat),ls[k]?=some l→ws[k]?=some w→parts[k]?=some p→LnI h M k l w p
 non:∀ y,4 + i ≤ y→M.loc y=none
 own:∀ b,M.own b→h0.size ≤ b
 neww:∀ w ∈ ws,∀ q,w.a=some q→h0.size ≤ q.block
 k:Kept N h0 h
theorem LnI.keep {i:Nat} {l w:Sl} {p:List Nat} (x:LnI h M i l w p) (sp:Sep h M) (hl:M'.loc (4 + i)=M.loc (4 + i)) (hc:M'.cont (4 + i)=M.cont (4 + i)) (ch:Chg h M h' M'):LnI h' M' i l w p :=
 ⟨by obtain ⟨c,c1,c2⟩:=x.c; exact ⟨c,c1,hl.trans c2⟩,x.n,by rw [hc]; exact x.cont,reads_kept2 ch.1 x.wr fun q hq _=>x.wo q hq,x.wn,fun q hq=>(have:=x.wo q hq; ⟨Nat.lt_of_lt_of_le this.1 ch.1.1,fun ho=>(ch.2 _ ho).elim this.2 fun hs=>by have:=this.1; omega⟩)⟩
theorem mk_get (h:Hp) (b i:Nat) (hi:i ≠ b):(markH h b)[i]?=h[i]?:=by
 unfold markH
 rw [Array.getElem?_modify,if_neg (Ne.symm hi)]
theorem mk_size (h:Hp) (b:Nat):(markH h b).size=h.size:=by unfold markH; rw [Array.size_modify]
theorem mk_cell (h:Hp) (b:Nat) (a:Addr):cell (markH h b) a=cell h a:=by
 by_cases e:b=a.block
 ·unfold cell markH
  rw [Array.getElem?_modify,if_pos e]
  cases h[a.block]? with
  | none=>rfl
  | some o=>cases o <;> rfl
 ·unfold cell
  rw [mk_get h b _ (Ne.symm e)]
/-- A text that stands in the program, in new memory. -/
theorem mk_made {l:List Nat} {arr:Array Value} (e:arr.toList=l.map bv) {h1 h2:Hp} (e1:h1=h.push (.cells arr 5)) (e2:h2=markH h1 h.size):Kept N h h2∧ReadsO h2 (some (ad h.size)) (l.map bv)∧h.size < h2.size:=by
 have k1:Kept N h h1:=e1 ▸ kept_push _ _ _
 have row:Row h1 h.size (l.map bv):=e ▸ (e1 ▸ row_new h arr 5)
 have hz:=row_lt row
 subst e2
 refine ⟨⟨by rw [mk_size]; exact k1.1,fun i hi _=>(mk_get _ _ _ (by omega)).trans (k1.2 i hi id)⟩,fun j v hj=>?_,by rw [mk_size]; exact hz⟩
 rw [mk_cell]
 exact row_reads row j v hj
def markL:List Nat:=[109,97,114,107]
structure LnA (h:Hp) (h0:Hp) (pb:Nat) (M:Mem) (parts:List (List Nat)) (ls ws:List Sl) (sa sf sw mk:Sl):Prop where
 sep:Sep h M
 l0:M.loc 0=some pb
 c0:M.cont 0=[.slice sa.a parts.length sa.c,slV sa,slV sf,slV sw]
 s1:IsSl 1 M 1 sa (ls.map slV ++ [slV mk])
 s2:IsSl 1 M 2 sf (ls.map slV)
 s3:IsSl 1 M 3 sw (ws.map slV)
 ll:ls.length=parts.length
 wl:ws.length=parts.length
 each:∀ (k:Nat) (l w:Sl) (p:List Nat),ls[k]?=some l→ws[k]?=some w→parts[k]?=some p→LnI h M k l w p
 mr:ReadsO h mk.a (markL.map bv)
 mn:mk.n=4
 mo:∀ q,mk.a=some q→q.block < h.size∧¬ M.own q.block
 own:∀ b,M.own b→h0.size ≤ b
 neww:∀ q,(mk.a=some q ∨ ∃ w ∈ ws,w.a=some q)→h0.size ≤ q.block
theorem lendAll_ok {a:Sl} {sls:List Sl} (L:Lists h a sls parts) (hsum:parts.flatten.length < 10000000) (hmany:sls.length < 9999990) (hR:∀ h' pb M ls ws sa sf sw mk,LnA h' h pb M parts ls ws sa sf sw mk→Kept N h h'→R (.pointer (some (ad pb))) h') :
  CallTo Tryz.prog 40 #[.slice a.a a.n a.c] h R:=by
 have hsl:=L.len
 have han:=L.n
 refine f40F_ok ?_
 unfold f40F
 refine Let_mk fun h1 e1=>?_
 have k1:Kept N h h1:=e1 ▸ kept_push _ _ _
 have row1:Row h1 h.size [.slice none 0 0,.slice none 0 0,.slice none 0 0,.slice none 0 0]:=e1 ▸ row_new h _ 102
 have enb:nb h=ad h.size:=rfl
 rw [enb]
 let M0:Mem:=⟨fun y=>if y=0 then some h.size else none,fun y=>if y=0 then [.slice none 0 0,.slice none 0 0,.slice none 0 0,.slice none 0 0] else []⟩
 have key:∀ y d,M0.loc y=some d→y=0∧d=h.size:=fun y d hy=>by
  have hy:(if y=0 then some h.size else none)=some d:=hy
  split at hy
  ·rename_i e; exact ⟨e,(Option.some.inj hy).symm⟩
  ·cases hy
 have sep0:Sep h1 M0:=⟨fun y d hy=>by obtain ⟨rfl,rfl⟩:=key y d hy; exact row1,fun y z d hy hz=>(key y d hy).1.trans (key z d hz).1.symm⟩
 have nilM:∀ y,y ≠ 0→IsSl 1 M0 y ⟨none,0,0⟩ []:=fun y hy=>⟨rfl,fun _=>⟨rfl,rfl,rfl⟩,fun b hb=>absurd (key y b hb).1 hy⟩
 refine f40L1_rule (fun m s0 s3 s4 h'=>∃ (i:Nat) (M:Mem) (ls ws:List Sl) (sa sf sw:Sl),i ≤ parts.length∧m=parts.length - i∧a=s0∧s3=ad h.size∧s4=(i:Int)∧LnC h' h h.size M parts i ls ws sa sf sw (.slice none 0 0)∧IsSl 1 M 1 sa (ls.map slV)) parts.length
  ⟨0,M0,[],[],⟨none,0,0⟩,⟨none,0,0⟩,⟨none,0,0⟩,Nat.zero_le _,rfl,rfl,rfl,rfl,⟨sep0,rfl,rfl,nilM 2 (by omega),nilM 3 (by omega),rfl,rfl,(fun k l w p hl=>by cases hl),(fun y hy=>by show (if y=0 then some h.size else none)=none; rw [if_neg (by omega)]),(fun b ⟨y,hy⟩=>by rw [(key y b hy).2]; exact Nat.le_refl _),(fun w hw=>by cases hw),k1⟩,nilM 1 (by omega)⟩ ?_
 rintro m s0 s3 s4 g h2 ⟨i,M,ls,ws,sa,sf,sw,hi,rfl,rfl,rfl,rfl,x,s1⟩
 unfold f40L1
 have lna:sa.n=ls.length:=by have:=s1.len; rw [List.length_map] at this; omega
 have lnf:sf.n=ls.length:=by have:=x.s2.len; rw [List.length_map] at this; omega
 have lnw:sw.n=ws.length:=by have:=x.s3.len; rw [List.length_map] at this; omega
 have ll:=x.ll; have wl:=x.wl
 refine Cond_dec (fun hlt=>?_) fun hge=>?_
 ·have hil:i < parts.length:=by omega
  obtain ⟨c,hc⟩:∃ c,sls[i]?=some c:=⟨_,List.getElem?_eq_getElem (by omega)⟩
  obtain ⟨p,hp⟩:∃ p,parts[i]?=some p:=⟨_,List.getElem?_eq_getElem hil⟩
  obtain ⟨rdc,nc,b8,_,oc⟩:=L.each i c p hc hp
  have hpl:=flat_mem (List.mem_of_getElem? hp)
  obtain ⟨pa,hpa,hcell⟩:=readsO_get L.rd (i:=i) (v:=slV c) (by rw [List.getElem?_map,hc]; rfl)
  have cellAt:∀ {h'},Kept N h h'→cell h' (pa.add i)=some (.slice c.a c.n c.c):=fun {h'} k=>by
   obtain ⟨pa',hpa',hc'⟩:=readsO_get (reads_keptN k L.rd) (i:=i) (v:=slV c) (by rw [List.getElem?_map,hc]; rfl)
   rw [hpa] at hpa'
   obtain rfl:=Option.some.inj hpa'
   exact hc'
  rw [Int.toNat_natCast,Nat.mul_one]
  refine ⟨⟨by omega,hlt⟩,PtrOk_of hpa ⟨c,cellAt x.k,lend_ok (reads_keptN x.k rdc) nc b8 (by omega) fun cb cap h3 le hcb k3=>⟨⟨some (ad cb),p.length,cap⟩,rfl,?_⟩⟩⟩
  obtain ⟨junk,rowc,ecap⟩:=le.row
  have nonX:=x.non (4 + i) (Nat.le_refl _)
  obtain ⟨sep3,ch3⟩:=x.sep.renew (x:=4 + i) (ob:=some cb) (c:=p.map bv ++ marks ++ junk) (k3.mono fun _ _ z=>z.elim) (fun b e=>by obtain rfl:=Option.some.inj e; exact rowc) (fun b e=>.inr (by obtain rfl:=Option.some.inj e; exact hcb))
  have c3:∀ z,z ≠ 4 + i→(M.upd (4 + i) (some cb) (p.map bv ++ marks ++ junk)).loc z=M.loc z∧(M.upd (4 + i) (some cb) (p.map bv ++ marks ++ junk)).cont z=M.cont z:=fun z hz=>⟨Mem.loc_ne _ _ _ hz,Mem.cont_ne _ _ _ hz⟩
  have c3s:=Mem.loc_self M (4 + i) (some cb) (p.map bv ++ marks ++ junk)
  have c3c:=Mem.cont_self M (4 + i) (some cb) (p.map bv ++ marks ++ junk)
  generalize M.upd (4 + i) (some cb) (p.map bv ++ marks ++ junk)=M3 at sep3 ch3 c3 c3s c3c
  have s13:=s1.cong (c3 1 (by omega)).1 (c3 1 (by omega)).2
  have s23:=x.s2.cong (c3 2 (by omega)).1 (c3 2 (by omega)).2
  have s33:=x.s3.cong (c3 3 (by omega)).1 (c3 3 (by omega)).2
  refine fld_app (y:=1) sep3 ((c3 0 (by omega)).1.trans x.l0) ((c3 0 (by omega)).2.trans x.c0) rfl (by omega) s13 (by omega) rfl fun h5 M5 sa5 sep5 l5 c5 sl5 o5 ch5=>?_
  have s25:=s23.cong (o5 2 (by omega) (by omega)).1 (o5 2 (by omega) (by omega)).2
  have s35:=s33.cong (o5 3 (by omega) (by omega)).1 (o5 3 (by omega) (by omega)).2
  refine fld_app (y:=2) sep5 l5 c5 rfl (by omega) s25 (by omega) rfl fun h8 M8 sf8 sep8 l8 c8 sl8 o8 ch8=>?_
  have s18:=sl5.cong (o8 1 (by omega) (by omega)).1 (o8 1 (by omega) (by omega)).2
  have s38:=s35.cong (o8 3 (by omega) (by omega)).1 (o8 3 (by omega) (by omega)).2
  have chM8:=(ch3.trans ch5).trans ch8
  have k28:Kept N h h8:=⟨Nat.le_trans x.k.1 chM8.1.1,fun j hj _=>(chM8.1.2 j (Nat.lt_of_lt_of_le hj x.k.1) fun ho=>by have:=x.own j ho; omega).trans (x.k.2 j hj _root_.id)⟩
  have cS:∀ {h'},Kept N h8 h'→cell h' ((ad h.size).add 3)=some (.slice sw.a sw.n sw.c):=fun {h'} k=>by rw [(sep8.keepN k).cellA l8 3,c8]; rfl
  refine ⟨sw,cS (Kept.refl _ _),⟨by omega,hlt⟩,PtrOk_of hpa ⟨c,cellAt k28,ofL p,spells_of (reads_keptN k28 rdc) nc b8,by rw [ofL_size]; omega,fun tc htc1 htc2=>Let_mk fun h9 e9=>?_⟩⟩
  obtain ⟨k9,rd9,lt9⟩:=text_made b8 htc1 e9
  refine ⟨⟨sw,cS k9,rfl⟩,Let_mk fun h10 e10=>?_⟩
  have k10:Kept N h9 h10:=e10 ▸ kept_push _ _ _
  have row10:Row h10 h9.size [.slice (some (ad h8.size)) p.length tc]:=by
   have:=row_new h9 #[.slice (some (nb h8)) (ofL p).size tc] 33
   rw [ofL_size] at this e10
   exact e10 ▸ this
  have k810:Kept N h8 h10:=k9.trans k10
  refine ⟨⟨sw,cS k810,rfl⟩,?_⟩
  refine fld_app2 (y:=3) (v:=.slice (some (ad h8.size)) p.length tc) (sep8.keepN k810) l8 c8 (k:=3) (by show 3 < 4; omega) (by omega) s38 (by omega) rfl (row_reads row10) fun h12 M12 sw12 sep12 l12 c12 sl12 o12 ch12=>?_
  have chA:=chM8.trans ((Chg.of_kept k810).trans ch12)
  have own12:∀ b,M12.own b→h.size ≤ b:=fun b hb=>(chA.2 b hb).elim (x.own b) fun z=>Nat.le_trans x.k.1 z
  have rest:∀ z,z ≠ 0→z ≠ 1→z ≠ 2→z ≠ 3→z ≠ 4 + i→M12.loc z=M.loc z∧M12.cont z=M.cont z:=fun z z0 z1 z2 z3 z4 =>
   ⟨(o12 z z0 z3).1.trans ((o8 z z0 z2).1.trans ((o5 z z0 z1).1.trans (c3 z z4).1)),(o12 z z0 z3).2.trans ((o8 z z0 z2).2.trans ((o5 z z0 z1).2.trans (c3 z z4).2))⟩
  have own8:∀ b,M8.own b→b < h8.size:=fun b hb=>sep8.own_lt hb
  refine ⟨parts.length - (i + 1),by omega,i + 1,M12,ls ++ [⟨some (ad cb),p.length,cap⟩],ws ++ [⟨some (ad h8.size),p.length,tc⟩],sa5,sf8,sw12,hil,rfl,rfl,rfl,by rw [wrap_i64' (by omega) (by omega)]; rfl,⟨sep12,l12,by rw [c12]; rfl,?_,?_,by rw [List.length_append,ll]; rfl,by rw [List.length_append,wl]; rfl,fun k l w p' hl hw hp'=>?_,fun y hy=>?_,own12,fun w hw q hq=>?_,⟨Nat.le_trans x.k.1 chA.1.1,fun j hj _=>(chA.1.2 j (Nat.lt_of_lt_of_le hj x.k.1) fun ho=>by have:=x.own j ho; omega).trans (x.k.2 j hj _root_.id)⟩⟩,?_⟩
  ·rw [List.map_append]; exact sl8.cong (o12 2 (by omega) (by omega)).1 (o12 2 (by omega) (by omega)).2
  ·rw [List.map_append]; exact sl12
  ·by_cases hki:k < i
   ·rw [List.getElem?_append_left (by omega)] at hl hw
    have r:=rest (4 + k) (by omega) (by omega) (by omega) (by omega) (by omega)
    exact (x.each k l w p' hl hw hp').keep x.sep r.1 r.2 chA
   ·have hke:k=i:=by have:=(List.getElem?_eq_some_iff.1 hl).1; rw [List.length_append,ll] at this; simp at this; omega
    subst hke
    rw [List.getElem?_append_right (by omega),ll,Nat.sub_self] at hl
    rw [List.getElem?_append_right (by omega),wl,Nat.sub_self] at hw
    obtain rfl:=Option.some.inj hl
    obtain rfl:=Option.some.inj hw
    rw [hp] at hp'
    obtain rfl:=Option.some.inj hp'
    have z4:M12.loc (4 + k)=some cb∧M12.cont (4 + k)=p.map bv ++ marks ++ junk:=⟨(o12 _ (by omega) (by omega)).1.trans ((o8 _ (by omega) (by omega)).1.trans ((o5 _ (by omega) (by omega)).1.trans c3s)),(o12 _ (by omega) (by omega)).2.trans ((o8 _ (by omega) (by omega)).2.trans ((o5 _ (by omega) (by omega)).2.trans c3c))⟩
    have h8n:¬ M8.own h8.size:=fun ho=>Nat.lt_irrefl _ (own8 _ ho)
    refine ⟨⟨cb,rfl,z4.1⟩,rfl,⟨junk,z4.2,ecap⟩,?_,rfl,fun q hq=>?_⟩
    ·exact reads_kept2 ch12.1 (reads_keptN k10 rd9) fun q hq hn=>(by obtain rfl:=Option.some.inj hq; exact ⟨by show h8.size < h10.size; have:=k10.1; omega,h8n⟩)
    ·obtain rfl:=Option.some.inj hq
     exact ⟨by show h8.size < h12.size; have:=ch12.1.1; have:=k10.1; omega,fun ho=>(ch12.2 _ ho).elim h8n fun z=>by have z:h10.size ≤ h8.size:=z; have:=k10.1; omega⟩
  ·rw [(rest y (by omega) (by omega) (by omega) (by omega) (by omega)).1]
   exact x.non y (by omega)
  ·rcases List.mem_append.1 hw with hw | hw
   ·exact x.neww w hw q hq
   ·obtain rfl:=List.mem_singleton.1 hw
    obtain rfl:=Option.some.inj hq
    exact k28.1
  ·rw [List.map_append]
   exact (s18.cong (o12 1 (by omega) (by omega)).1 (o12 1 (by omega) (by omega)).2)
 ·have hie:i=parts.length:=by omega
  subst hie
  have cA:∀ {h'},Kept N h2 h'→cell h' ((ad h.size).add 1)=some (.slice sa.a sa.n sa.c):=fun {h'} k=>by rw [(x.sep.keepN k).cellA x.l0 1,x.c0]; rfl
  refine ⟨sa,cA (Kept.refl _ _),Let_mk fun h3 e3=>PtrOk_mk (Let_mk fun h4 e4=>Let_mk fun h5 e5=>?_)⟩
  obtain ⟨k4,rd4,lt4⟩:=mk_made (l:=markL) rfl e3 e4
  have k5:Kept N h4 h5:=e5 ▸ kept_push _ _ _
  have row5:Row h5 h4.size [.slice (some (ad h2.size)) 4 4]:=e5 ▸ row_new h4 #[.slice (some (nb h2)) 4 4] 33
  have k25:=k4.trans k5
  refine fld_app2 (y:=1) (x.sep.keepN k25) x.l0 x.c0 (k:=1) (by show 1 < 4; omega) (by omega) s1 (by omega) rfl (row_reads row5) fun h7 M7 sa7 sep7 l7 c7 sl7 o7 ch7=>?_
  have lna7:sa7.n=parts.length + 1:=by have:=sl7.len; rw [List.length_append,List.length_map,ll] at this; simp at this; omega
  obtain ⟨ab,hab,haa⟩:=sl7.some_of (fun e=>by have:=congrArg List.length e; simp at this)
  obtain ⟨_,hcap,_⟩:=sl7.row ab hab
  have hsls:a.n=parts.length:=by omega
  refine ⟨sa7,by rw [sep7.cellA l7 1,c7]; rfl,⟨by omega,by omega⟩,⟨by omega,by omega⟩,?_⟩
  rw [haa,sl0,hsls,Int.toNat_natCast]
  refine sep7.st l7 (o:=0) rfl (by rw [c7]; show 0 < 4; omega) fun h8 sep8 ch8=>?_
  rw [c7] at sep8 ch8
  have chA:=(Chg.of_kept k25).trans (ch7.trans ch8)
  have o8:∀ z,z ≠ 0→_:=fun z hz=>And.intro (Mem.loc_ne M7 (x:=0) (some h.size) (([.slice none 0 0,slV sa,slV sf,slV sw].set 1 (slV sa7)).set 0 (.slice (some (ad ab)) (parts.length - (0:Int).toNat) (sa7.c - (0:Int).toNat))) hz) (Mem.cont_ne M7 (x:=0) (some h.size) (([.slice none 0 0,slV sa,slV sf,slV sw].set 1 (slV sa7)).set 0 (.slice (some (ad ab)) (parts.length - (0:Int).toNat) (sa7.c - (0:Int).toNat))) hz)
  have l8:=Mem.loc_self M7 0 (some h.size) (([.slice none 0 0,slV sa,slV sf,slV sw].set 1 (slV sa7)).set 0 (.slice (some (ad ab)) (parts.length - (0:Int).toNat) (sa7.c - (0:Int).toNat)))
  have c8:=Mem.cont_self M7 0 (some h.size) (([.slice none 0 0,slV sa,slV sf,slV sw].set 1 (slV sa7)).set 0 (.slice (some (ad ab)) (parts.length - (0:Int).toNat) (sa7.c - (0:Int).toNat)))
  generalize M7.upd 0 (some h.size) (([.slice none 0 0,slV sa,slV sf,slV sw].set 1 (slV sa7)).set 0 (.slice (some (ad ab)) (parts.length - (0:Int).toNat) (sa7.c - (0:Int).toNat)))=M8 at sep8 ch8 chA o8 l8 c8
  have h2n:¬ M.own h2.size:=fun ho=>Nat.lt_irrefl _ (x.sep.own_lt ho)
  have ch78:=ch7.trans ch8
  refine hR h8 h.size M8 ls ws sa7 sf sw ⟨some (ad h2.size),4,4⟩ ⟨sep8,l8,by rw [c8,haa]; rfl,?_,(x.s2.cong (o7 2 (by omega) (by omega)).1 (o7 2 (by omega) (by omega)).2).cong (o8 2 (by omega)).1 (o8 2 (by omega)).2,(x.s3.cong (o7 3 (by omega) (by omega)).1 (o7 3 (by omega) (by omega)).2).cong (o8 3 (by omega)).1 (o8 3 (by omega)).2,ll,wl,fun k l w p hl hw hp=>?_,?_,rfl,fun q hq=>?_,fun b hb=>(chA.2 b hb).elim (x.own b) fun z=>Nat.le_trans x.k.1 z,fun q hq=>hq.elim (fun hq=>by obtain rfl:=Option.some.inj hq; exact x.k.1) fun ⟨w,hw,hq⟩=>x.neww w hw q hq⟩ ⟨Nat.le_trans x.k.1 chA.1.1,fun j hj _=>(chA.1.2 j (Nat.lt_of_lt_of_le hj x.k.1) fun ho=>by have:=x.own j ho; omega).trans (x.k.2 j hj _root_.id)⟩
  ·have:=sl7.cong (o8 1 (by omega)).1 (o8 1 (by omega)).2
   exact this
  ·exact (x.each k l w p hl hw hp).keep x.sep ((o8 (4 + k) (by omega)).1.trans (o7 (4 + k) (by omega) (by omega)).1) ((o8 (4 + k) (by omega)).2.trans (o7 (4 + k) (by omega) (by omega)).2) chA
  ·exact reads_kept2 ch78.1 (reads_keptN k5 rd4) fun q hq hn=>(by obtain rfl:=Option.some.inj hq; exact ⟨by show h2.size < h5.size; have:=k5.1; omega,h2n⟩)
  ·obtain rfl:=Option.some.inj hq
   exact ⟨by show h2.size < h8.size; have:=ch78.1.1; have:=k5.1; omega,fun ho=>(ch78.2 _ ho).elim h2n fun z=>by have z:h5.size ≤ h2.size:=z; have:=k5.1; omega⟩
end
end Go.Ev
