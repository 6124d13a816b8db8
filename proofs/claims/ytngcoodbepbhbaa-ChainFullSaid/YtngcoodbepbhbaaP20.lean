/- Printed by a program (own work) out of the loaded functions: what each says of the heap, and that the evaluator says the same. No condition but that these are ones. -/
import Derived.Test.YtngcoodbepbhbaaP4
set_option linter.all false
set_option maxRecDepth 100000
namespace Go.Ev
open Go.Proofs
/- larder/larderlaw5.ChainFull -/
noncomputable def body3:Code:=(Try.f3.body).getD .skip
def lv3 (m:Nat):List Nat:=if m=12 then [1,3,5,7,8,9] else if m=15 then [1,3,5,7,8,9,10] else if m=27 then [1,3,5,7,8,9,10,13,15] else []
def f3I1 (J:Nat→Addr→Option Addr→Option Addr→Sl→Addr→Int→Hp→Prop) (n:Nat) (env:List Value) (h:Hp):Prop:=lenIs env 136 (DecA env 1 fun s1=>DecP env 3 fun s3=>DecP env 5 fun s5=>DecL env 7 fun s7=>DecA env 8 fun s8=>DecI .i64 env 9 fun s9=>J n s1 s3 s5 s7 s8 s9 h)
def f3I2 (J:Nat→Addr→Option Addr→Option Addr→Sl→Addr→Int→Int→Hp→Prop) (n:Nat) (env:List Value) (h:Hp):Prop:=lenIs env 136 (DecA env 1 fun s1=>DecP env 3 fun s3=>DecP env 5 fun s5=>DecL env 7 fun s7=>DecA env 8 fun s8=>DecI .i64 env 9 fun s9=>DecI .i64 env 10 fun s10=>J n s1 s3 s5 s7 s8 s9 s10 h)
def f3I3 (J:Nat→Addr→Option Addr→Option Addr→Sl→Addr→Int→Int→Sl→Int→Hp→Prop) (n:Nat) (env:List Value) (h:Hp):Prop:=lenIs env 136 (DecA env 1 fun s1=>DecP env 3 fun s3=>DecP env 5 fun s5=>DecL env 7 fun s7=>DecA env 8 fun s8=>DecI .i64 env 9 fun s9=>DecI .i64 env 10 fun s10=>DecL env 13 fun s13=>DecI .i64 env 15 fun s15=>J n s1 s3 s5 s7 s8 s9 s10 s13 s15 h)
def f3K5 (J1:Nat→Addr→Option Addr→Option Addr→Sl→Addr→Int→Hp→Prop) (n1:Nat) (x1:Addr) (x3:Option Addr) (x5:Option Addr) (x7:Sl) (x8:Addr) (x9:Int) (x10:Int) (x13:Sl) (x107:Bool) (h:Hp) (R:Value→Hp→Prop):Prop :=
 Cond x107 (R (.bool false:Value) h) (LoopEv (evC Try.prog tab lv3 (sub [1,1,1,1,1,1,1,1,0,1,0,0,1,0,0,1,1,1,1,1,1,0,1,0,0] body3)) (contAt Try.prog tab lv3 [1,1,1,1,1,1,1,1,0,1,0,0,1,0,0,1,1,1,1,1,1,0,1,0] body3 [loopK (f3I1 J1) n1] (bodyK Try.prog Try.f3 [] R)) [(1,.pointer (some x1)),(3,.pointer x3),(5,.pointer x5),(7,.slice x7.a x7.n x7.c),(8,.pointer (some x8)),(9,.int .i64 x9),(10,.int .i64 x10),(13,.slice x13.a x13.n x13.c),(15,.int .i64 0)] 136 h)
def f3K4 (J1:Nat→Addr→Option Addr→Option Addr→Sl→Addr→Int→Hp→Prop) (n1:Nat) (x1:Addr) (x3:Option Addr) (x5:Option Addr) (x7:Sl) (x8:Addr) (x9:Int) (x10:Int) (h:Hp) (R:Value→Hp→Prop):Prop :=
 (0 ≤ x9∧x9 < ((2:Nat):Int))∧stOk h (x8.add (x9.toNat * 1))∧Let (setc h (x8.add (x9.toNat * 1)) (.int .i64 x10)) fun h10=>(2:Int) ≠ 0∧CallTo Try.prog 14 #[.pointer x5,.int .i64 (IntKind.wrap .i64 (Int.tdiv x10 (2:Int))),.slice x7.a x7.n x7.c] h10 fun r h11=>∃ t77:Int,r=.int .i64 t77∧CallTo Try.prog 15 #[.pointer x5,.int .i64 0,.int .i64 x10] h11 fun r h12=>∃ t81_0:Sl,∃ t81_1:Int,r=.tuple #[.slice t81_0.a t81_0.n t81_0.c,.int .i64 t81_1]∧Cond (x10 == (1000:Int)) (f3K5 J1 n1 x1 x3 x5 x7 x8 x9 x10 t81_0 true h12 R) (CallTo Try.prog 11 #[.int .i64 t77] h12 fun r h17=>∃ t88:Int,r=.int .i64 t88∧Cond (t88 != (31:Int)) (f3K5 J1 n1 x1 x3 x5 x7 x8 x9 x10 t81_0 true h17 R) (CallTo Try.prog 11 #[.int .i64 t81_1] h17 fun r h18=>∃ t93:Int,r=.int .i64 t93∧Cond (t93 != (0:Int)) (f3K5 J1 n1 x1 x3 x5 x7 x8 x9 x10 t81_0 true h18 R) (CallTo Try.prog 16 #[.pointer x5] h18 fun r h19=>∃ t98:Int,r=.int .i64 t98∧Cond (t98 != x10) (f3K5 J1 n1 x1 x3 x5 x7 x8 x9 x10 t81_0 true h19 R) (CallTo Try.prog 17 #[.pointer x3] h19 fun r h20=>∃ t104_0:Int,∃ t104_1:Int,∃ t104_2:Int,∃ t104_3:Int,∃ t104_4:Int,∃ t104_5:Int,∃ t104_6:Int,∃ t104_7:Int,∃ t104_8:Int,r=.agg #[.int .i64 t104_0,.int .i64 t104_1,.int .i64 t104_2,.int .i64 t104_3,.int .i64 t104_4,.int .i64 t104_5,.int .i64 t104_6,.int .i64 t104_7,.int .i64 t104_8]∧f3K5 J1 n1 x1 x3 x5 x7 x8 x9 x10 t81_0 (t104_5 != (1:Int)) h20 R))))
def f3K3  (x1:Addr) (x3:Option Addr) (x5:Option Addr) (x7:Sl) (h:Hp) (R:Value→Hp→Prop):Prop :=
 Let (h.push (.cells #[.int .i64 0,.int .i64 0] 35)) fun h7=>LoopEv (evC Try.prog tab lv3 (sub [1,1,1,1,1,1,1,1,0,1,0,0] body3)) (contAt Try.prog tab lv3 [1,1,1,1,1,1,1,1,0,1,0] body3 [] (bodyK Try.prog Try.f3 [] R)) [(1,.pointer (some x1)),(3,.pointer x3),(5,.pointer x5),(7,.slice x7.a x7.n x7.c),(8,.pointer (some (nb h))),(9,.int .i64 0)] 136 h7
def f3K2  (x1:Addr) (x3:Option Addr) (x5:Option Addr) (x43:Bool) (h:Hp) (R:Value→Hp→Prop):Prop :=
 Cond x43 (R (.bool false:Value) h) (∃ t45:Sl,cell h (x1.add 3)=some (.slice t45.a t45.n t45.c)∧Cond (decide ((((t45.n:Nat):Int)) > (200:Int))) ((0 ≤ (200:Int)∧(200:Int) ≤ ((t45.c:Nat):Int))∧(0 ≤ (0:Int)∧(0:Int) ≤ (200:Int))∧f3K3  x1 x3 x5 ⟨if t45.c=(0:Int).toNat then t45.a else Option.map (fun x=>x.add ((0:Int).toNat * 1)) t45.a,(200:Int).toNat - (0:Int).toNat,t45.c - (0:Int).toNat⟩ h R) (f3K3  x1 x3 x5 t45 h R))
def f3K1  (x1:Addr) (x3:Option Addr) (x31:Bool) (h:Hp) (R:Value→Hp→Prop):Prop :=
 Cond x31 (R (.bool false:Value) h) (CallTo Try.prog 12 #[.pointer x3] h fun r h5=>∃ t34_0:Option Addr,∃ t34_1:Int,r=.tuple #[.pointer t34_0,.int .i64 t34_1]∧CallTo Try.prog 11 #[.int .i64 t34_1] h5 fun r h6=>∃ t38:Int,r=.int .i64 t38∧Cond (t38 != (0:Int)) (f3K2  x1 x3 t34_0 true h6 R) (f3K2  x1 x3 t34_0 (Option.isNone t34_0) h6 R))
def f3L1 (J1:Nat→Addr→Option Addr→Option Addr→Sl→Addr→Int→Hp→Prop) (n1:Nat) (s1:Addr) (s3:Option Addr) (s5:Option Addr) (s7:Sl) (s8:Addr) (s9:Int) (g:Nat→Value) (h:Hp) (R:Value→Hp→Prop):Prop :=
 Cond (decide (s9 < (2:Int))) (LoopEv (evC Try.prog tab lv3 (sub [1,1,1,1,1,1,1,1,0,1,0,0,1,0,0,1,0,0,0] body3)) (contAt Try.prog tab lv3 [1,1,1,1,1,1,1,1,0,1,0,0,1,0,0,1,0,0] body3 [loopK (f3I1 J1) n1] (bodyK Try.prog Try.f3 [] R)) [(1,.pointer (some s1)),(3,.pointer s3),(5,.pointer s5),(7,.slice s7.a s7.n s7.c),(8,.pointer (some s8)),(9,.int .i64 s9),(10,.int .i64 0)] 136 h) ((0 ≤ (0:Int)∧(0:Int) < ((2:Nat):Int))∧∃ t132:Int,cell h (s8.add ((0:Int).toNat * 1))=some (.int .i64 t132)∧(0 ≤ (1:Int)∧(1:Int) < ((2:Nat):Int))∧∃ t134:Int,cell h (s8.add ((1:Int).toNat * 1))=some (.int .i64 t134)∧R ((.bool (t132 == t134):Value)) h)
theorem f3L1_eq (J1:Nat→Addr→Option Addr→Option Addr→Sl→Addr→Int→Hp→Prop) (n1:Nat) (s1:Addr) (s3:Option Addr) (s5:Option Addr) (s7:Sl) (s8:Addr) (s9:Int) (g:Nat→Value) (h:Hp) (R:Value→Hp→Prop):(evC Try.prog tab lv3 (sub [1,1,1,1,1,1,1,1,0,1,0,0] body3)) (loopK (f3I1 J1) n1 (contAt Try.prog tab lv3 [1,1,1,1,1,1,1,1,0,1,0] body3 [] (bodyK Try.prog Try.f3 [] R))) (mkEnv 136 [(1,.pointer (some s1)),(3,.pointer s3),(5,.pointer s5),(7,.slice s7.a s7.n s7.c),(8,.pointer (some s8)),(9,.int .i64 s9)] g) h=f3L1 J1 n1 s1 s3 s5 s7 s8 s9 g h R:=by kernel_rfl
theorem f3I1_at (J:Nat→Addr→Option Addr→Option Addr→Sl→Addr→Int→Hp→Prop) (n:Nat) (s1:Addr) (s3:Option Addr) (s5:Option Addr) (s7:Sl) (s8:Addr) (s9:Int) (g:Nat→Value) (h:Hp):f3I1 J n (mkEnv 136 [(1,.pointer (some s1)),(3,.pointer s3),(5,.pointer s5),(7,.slice s7.a s7.n s7.c),(8,.pointer (some s8)),(9,.int .i64 s9)] g) h=J n s1 s3 s5 s7 s8 s9 h:=by kernel_rfl
theorem f3L1_rule  {R:Value→Hp→Prop} {s1:Addr} {s3:Option Addr} {s5:Option Addr} {s7:Sl} {s8:Addr} {s9:Int} {h0:Hp} (J:Nat→Addr→Option Addr→Option Addr→Sl→Addr→Int→Hp→Prop) (n0:Nat) (hi:J n0 s1 s3 s5 s7 s8 s9 h0)
  (hr:∀ n s1 s3 s5 s7 s8 s9 g h,J n s1 s3 s5 s7 s8 s9 h→f3L1  J n s1 s3 s5 s7 s8 s9 g h R):LoopEv (evC Try.prog tab lv3 (sub [1,1,1,1,1,1,1,1,0,1,0,0] body3)) (contAt Try.prog tab lv3 [1,1,1,1,1,1,1,1,0,1,0] body3 [] (bodyK Try.prog Try.f3 [] R)) [(1,.pointer (some s1)),(3,.pointer s3),(5,.pointer s5),(7,.slice s7.a s7.n s7.c),(8,.pointer (some s8)),(9,.int .i64 s9)] 136 h0:=by
 refine ⟨f3I1 J,n0,fun g=>by rw [f3I1_at]; exact hi,fun n env h hI=>?_⟩
 clear hi
 clear s1 s3 s5 s7 s8 s9
 obtain ⟨hlen,hI⟩:=Cond_true' hI
 have hlen:env.length=136:=by simpa using hlen
 obtain ⟨s1,es1,hI⟩:=DecA.out hI
 obtain ⟨s3,es3,hI⟩:=DecP.out hI
 obtain ⟨s5,es5,hI⟩:=DecP.out hI
 obtain ⟨s7,es7,hI⟩:=DecL.out hI
 obtain ⟨s8,es8,hI⟩:=DecA.out hI
 obtain ⟨s9,es9,hI⟩:=DecI.out hI
 rw [mkEnv_of (l:=[(1,.pointer (some s1)),(3,.pointer s3),(5,.pointer s5),(7,.slice s7.a s7.n s7.c),(8,.pointer (some s8)),(9,.int .i64 s9)]) hlen (by simp only [List.mem_cons,List.not_mem_nil,or_false,forall_eq_or_imp,forall_eq]; exact ⟨es1,es3,es5,es7,es8,es9⟩)]
 rw [f3L1_eq]
 exact hr n s1 s3 s5 s7 s8 s9 _ h hI
def f3L2 (J1:Nat→Addr→Option Addr→Option Addr→Sl→Addr→Int→Hp→Prop) (n1:Nat) (J2:Nat→Addr→Option Addr→Option Addr→Sl→Addr→Int→Int→Hp→Prop) (n2:Nat) (s1:Addr) (s3:Option Addr) (s5:Option Addr) (s7:Sl) (s8:Addr) (s9:Int) (s10:Int) (g:Nat→Value) (h:Hp) (R:Value→Hp→Prop):Prop :=
 Cond (decide (s10 < (1000:Int))) (∃ t59:Bool,cell h (s1.add 4)=some (.bool t59)∧CallTo Try.prog 13 #[.pointer s5,.bool t59,.slice s7.a s7.n s7.c] h fun r h8=>∃ t61:Int,r=.int .i64 t61∧CallTo Try.prog 11 #[.int .i64 t61] h8 fun r h9=>∃ t63:Int,r=.int .i64 t63∧Cond (t63 == (31:Int)) (f3K4 J1 n1 s1 s3 s5 s7 s8 s9 s10 h9 R) (CallTo Try.prog 11 #[.int .i64 t61] h9 fun r h21=>∃ t66:Int,r=.int .i64 t66∧Cond (t66 != (0:Int)) (R (.bool false:Value) h21) (∃ m,m < n2∧J2 m s1 s3 s5 s7 s8 s9 (IntKind.wrap .i64 (s10 + (1:Int))) h21))) (f3K4 J1 n1 s1 s3 s5 s7 s8 s9 s10 h R)
theorem f3L2_eq (J1:Nat→Addr→Option Addr→Option Addr→Sl→Addr→Int→Hp→Prop) (n1:Nat) (J2:Nat→Addr→Option Addr→Option Addr→Sl→Addr→Int→Int→Hp→Prop) (n2:Nat) (s1:Addr) (s3:Option Addr) (s5:Option Addr) (s7:Sl) (s8:Addr) (s9:Int) (s10:Int) (g:Nat→Value) (h:Hp) (R:Value→Hp→Prop):(evC Try.prog tab lv3 (sub [1,1,1,1,1,1,1,1,0,1,0,0,1,0,0,1,0,0,0] body3)) (loopK (f3I2 J2) n2 (contAt Try.prog tab lv3 [1,1,1,1,1,1,1,1,0,1,0,0,1,0,0,1,0,0] body3 [loopK (f3I1 J1) n1] (bodyK Try.prog Try.f3 [] R))) (mkEnv 136 [(1,.pointer (some s1)),(3,.pointer s3),(5,.pointer s5),(7,.slice s7.a s7.n s7.c),(8,.pointer (some s8)),(9,.int .i64 s9),(10,.int .i64 s10)] g) h=f3L2 J1 n1 J2 n2 s1 s3 s5 s7 s8 s9 s10 g h R:=by kernel_rfl
theorem f3I2_at (J:Nat→Addr→Option Addr→Option Addr→Sl→Addr→Int→Int→Hp→Prop) (n:Nat) (s1:Addr) (s3:Option Addr) (s5:Option Addr) (s7:Sl) (s8:Addr) (s9:Int) (s10:Int) (g:Nat→Value) (h:Hp):f3I2 J n (mkEnv 136 [(1,.pointer (some s1)),(3,.pointer s3),(5,.pointer s5),(7,.slice s7.a s7.n s7.c),(8,.pointer (some s8)),(9,.int .i64 s9),(10,.int .i64 s10)] g) h=J n s1 s3 s5 s7 s8 s9 s10 h:=by kernel_rfl
theorem f3L2_rule {J1:Nat→Addr→Option Addr→Option Addr→Sl→Addr→Int→Hp→Prop} {n1:Nat} {R:Value→Hp→Prop} {s1:Addr} {s3:Option Addr} {s5:Option Addr} {s7:Sl} {s8:Addr} {s9:Int} {s10:Int} {h0:Hp} (J:Nat→Addr→Option Addr→Option Addr→Sl→Addr→Int→Int→Hp→Prop) (n0:Nat) (hi:J n0 s1 s3 s5 s7 s8 s9 s10 h0)
  (hr:∀ n s1 s3 s5 s7 s8 s9 s10 g h,J n s1 s3 s5 s7 s8 s9 s10 h→f3L2 J1 n1 J n s1 s3 s5 s7 s8 s9 s10 g h R):LoopEv (evC Try.prog tab lv3 (sub [1,1,1,1,1,1,1,1,0,1,0,0,1,0,0,1,0,0,0] body3)) (contAt Try.prog tab lv3 [1,1,1,1,1,1,1,1,0,1,0,0,1,0,0,1,0,0] body3 [loopK (f3I1 J1) n1] (bodyK Try.prog Try.f3 [] R)) [(1,.pointer (some s1)),(3,.pointer s3),(5,.pointer s5),(7,.slice s7.a s7.n s7.c),(8,.pointer (some s8)),(9,.int .i64 s9),(10,.int .i64 s10)] 136 h0:=by
 refine ⟨f3I2 J,n0,fun g=>by rw [f3I2_at]; exact hi,fun n env h hI=>?_⟩
 clear hi
 clear s1 s3 s5 s7 s8 s9 s10
 obtain ⟨hlen,hI⟩:=Cond_true' hI
 have hlen:env.length=136:=by simpa using hlen
 obtain ⟨s1,es1,hI⟩:=DecA.out hI
 obtain ⟨s3,es3,hI⟩:=DecP.out hI
 obtain ⟨s5,es5,hI⟩:=DecP.out hI
 obtain ⟨s7,es7,hI⟩:=DecL.out hI
 obtain ⟨s8,es8,hI⟩:=DecA.out hI
 obtain ⟨s9,es9,hI⟩:=DecI.out hI
 obtain ⟨s10,es10,hI⟩:=DecI.out hI
 rw [mkEnv_of (l:=[(1,.pointer (some s1)),(3,.pointer s3),(5,.pointer s5),(7,.slice s7.a s7.n s7.c),(8,.pointer (some s8)),(9,.int .i64 s9),(10,.int .i64 s10)]) hlen (by simp only [List.mem_cons,List.not_mem_nil,or_false,forall_eq_or_imp,forall_eq]; exact ⟨es1,es3,es5,es7,es8,es9,es10⟩)]
 rw [f3L2_eq]
 exact hr n s1 s3 s5 s7 s8 s9 s10 _ h hI
def f3L3 (J1:Nat→Addr→Option Addr→Option Addr→Sl→Addr→Int→Hp→Prop) (n1:Nat) (J3:Nat→Addr→Option Addr→Option Addr→Sl→Addr→Int→Int→Sl→Int→Hp→Prop) (n3:Nat) (s1:Addr) (s3:Option Addr) (s5:Option Addr) (s7:Sl) (s8:Addr) (s9:Int) (s10:Int) (s13:Sl) (s15:Int) (g:Nat→Value) (h:Hp) (R:Value→Hp→Prop):Prop :=
 Cond (decide (s15 < s10)) ((0 ≤ s15∧s15 < ((s13.n:Nat):Int))∧PtrOk s13.a fun p115=>∃ t116:Sl,cell h (p115.add (s15.toNat * 1))=some (.slice t116.a t116.n t116.c)∧CallTo Try.prog 18 #[.slice t116.a t116.n t116.c,.slice s7.a s7.n s7.c] h fun r h13=>∃ t118:Bool,r=.bool t118∧Cond (!t118) (R (.bool false:Value) h13) (∃ m,m < n3∧J3 m s1 s3 s5 s7 s8 s9 s10 s13 (IntKind.wrap .i64 (s15 + (1:Int))) h13)) (CallTo Try.prog 19 #[.pointer s5,.int .i64 0,.int .i64 s10] h fun r h14=>∃ t122:Int,r=.int .i64 t122∧CallTo Try.prog 11 #[.int .i64 t122] h14 fun r h15=>∃ t124:Int,r=.int .i64 t124∧Cond (t124 != (0:Int)) (R (.bool false:Value) h15) (CallTo Try.prog 16 #[.pointer s5] h15 fun r h16=>∃ t128:Int,r=.int .i64 t128∧Cond (t128 != (0:Int)) (R (.bool false:Value) h16) (∃ m,m < n1∧J1 m s1 s3 s5 s7 s8 (IntKind.wrap .i64 (s9 + (1:Int))) h16)))
theorem f3L3_eq (J1:Nat→Addr→Option Addr→Option Addr→Sl→Addr→Int→Hp→Prop) (n1:Nat) (J3:Nat→Addr→Option Addr→Option Addr→Sl→Addr→Int→Int→Sl→Int→Hp→Prop) (n3:Nat) (s1:Addr) (s3:Option Addr) (s5:Option Addr) (s7:Sl) (s8:Addr) (s9:Int) (s10:Int) (s13:Sl) (s15:Int) (g:Nat→Value) (h:Hp) (R:Value→Hp→Prop):(evC Try.prog tab lv3 (sub [1,1,1,1,1,1,1,1,0,1,0,0,1,0,0,1,1,1,1,1,1,0,1,0,0] body3)) (loopK (f3I3 J3) n3 (contAt Try.prog tab lv3 [1,1,1,1,1,1,1,1,0,1,0,0,1,0,0,1,1,1,1,1,1,0,1,0] body3 [loopK (f3I1 J1) n1] (bodyK Try.prog Try.f3 [] R))) (mkEnv 136 [(1,.pointer (some s1)),(3,.pointer s3),(5,.pointer s5),(7,.slice s7.a s7.n s7.c),(8,.pointer (some s8)),(9,.int .i64 s9),(10,.int .i64 s10),(13,.slice s13.a s13.n s13.c),(15,.int .i64 s15)] g) h=f3L3 J1 n1 J3 n3 s1 s3 s5 s7 s8 s9 s10 s13 s15 g h R:=by kernel_rfl
theorem f3I3_at (J:Nat→Addr→Option Addr→Option Addr→Sl→Addr→Int→Int→Sl→Int→Hp→Prop) (n:Nat) (s1:Addr) (s3:Option Addr) (s5:Option Addr) (s7:Sl) (s8:Addr) (s9:Int) (s10:Int) (s13:Sl) (s15:Int) (g:Nat→Value) (h:Hp):f3I3 J n (mkEnv 136 [(1,.pointer (some s1)),(3,.pointer s3),(5,.pointer s5),(7,.slice s7.a s7.n s7.c),(8,.pointer (some s8)),(9,.int .i64 s9),(10,.int .i64 s10),(13,.slice s13.a s13.n s13.c),(15,.int .i64 s15)] g) h=J n s1 s3 s5 s7 s8 s9 s10 s13 s15 h:=by kernel_rfl
theorem f3L3_rule {J1:Nat→Addr→Option Addr→Option Addr→Sl→Addr→Int→Hp→Prop} {n1:Nat} {R:Value→Hp→Prop} {s1:Addr} {s3:Option Addr} {s5:Option Addr} {s7:Sl} {s8:Addr} {s9:Int} {s10:Int} {s13:Sl} {s15:Int} {h0:Hp} (J:Nat→Addr→Option Addr→Option Addr→Sl→Addr→Int→Int→Sl→Int→Hp→Prop) (n0:Nat) (hi:J n0 s1 s3 s5 s7 s8 s9 s10 s13 s15 h0)
  (hr:∀ n s1 s3 s5 s7 s8 s9 s10 s13 s15 g h,J n s1 s3 s5 s7 s8 s9 s10 s13 s15 h→f3L3 J1 n1 J n s1 s3 s5 s7 s8 s9 s10 s13 s15 g h R):LoopEv (evC Try.prog tab lv3 (sub [1,1,1,1,1,1,1,1,0,1,0,0,1,0,0,1,1,1,1,1,1,0,1,0,0] body3)) (contAt Try.prog tab lv3 [1,1,1,1,1,1,1,1,0,1,0,0,1,0,0,1,1,1,1,1,1,0,1,0] body3 [loopK (f3I1 J1) n1] (bodyK Try.prog Try.f3 [] R)) [(1,.pointer (some s1)),(3,.pointer s3),(5,.pointer s5),(7,.slice s7.a s7.n s7.c),(8,.pointer (some s8)),(9,.int .i64 s9),(10,.int .i64 s10),(13,.slice s13.a s13.n s13.c),(15,.int .i64 s15)] 136 h0:=by
 refine ⟨f3I3 J,n0,fun g=>by rw [f3I3_at]; exact hi,fun n env h hI=>?_⟩
 clear hi
 clear s1 s3 s5 s7 s8 s9 s10 s13 s15
 obtain ⟨hlen,hI⟩:=Cond_true' hI
 have hlen:env.length=136:=by simpa using hlen
 obtain ⟨s1,es1,hI⟩:=DecA.out hI
 obtain ⟨s3,es3,hI⟩:=DecP.out hI
 obtain ⟨s5,es5,hI⟩:=DecP.out hI
 obtain ⟨s7,es7,hI⟩:=DecL.out hI
 obtain ⟨s8,es8,hI⟩:=DecA.out hI
 obtain ⟨s9,es9,hI⟩:=DecI.out hI
 obtain ⟨s10,es10,hI⟩:=DecI.out hI
 obtain ⟨s13,es13,hI⟩:=DecL.out hI
 obtain ⟨s15,es15,hI⟩:=DecI.out hI
 rw [mkEnv_of (l:=[(1,.pointer (some s1)),(3,.pointer s3),(5,.pointer s5),(7,.slice s7.a s7.n s7.c),(8,.pointer (some s8)),(9,.int .i64 s9),(10,.int .i64 s10),(13,.slice s13.a s13.n s13.c),(15,.int .i64 s15)]) hlen (by simp only [List.mem_cons,List.not_mem_nil,or_false,forall_eq_or_imp,forall_eq]; exact ⟨es1,es3,es5,es7,es8,es9,es10,es13,es15⟩)]
 rw [f3L3_eq]
 exact hr n s1 s3 s5 s7 s8 s9 s10 s13 s15 _ h hI
def f3F (a0_0:Sl) (a0_1:Int) (a0_2:Int) (a0_3:Sl) (a0_4:Bool) (h:Hp) (R:Value→Hp→Prop):Prop :=
 Let (h.push (.cells #[.slice a0_0.a a0_0.n a0_0.c,.int .i64 a0_1,.int .i64 a0_2,.slice a0_3.a a0_3.n a0_3.c,.bool a0_4] 25)) fun h1=>∃ t19:Int,cell h1 ((nb h).add 2)=some (.int .i64 t19)∧CallTo Try.prog 10 #[.int .i64 t19,.int .i64 400] h1 fun r h2=>∃ t20:Int,r=.int .i64 t20∧CallTo Try.prog 9 #[.int .i64 (IntKind.wrap .i64 ((128:Int) + t20))] h2 fun r h3=>∃ t22_0:Option Addr,∃ t22_1:Int,r=.tuple #[.pointer t22_0,.int .i64 t22_1]∧CallTo Try.prog 11 #[.int .i64 t22_1] h3 fun r h4=>∃ t26:Int,r=.int .i64 t26∧Cond (t26 != (0:Int)) (f3K1  (nb h) t22_0 true h4 R) (f3K1  (nb h) t22_0 (Option.isNone t22_0) h4 R)
theorem f3F_eq (a0_0:Sl) (a0_1:Int) (a0_2:Int) (a0_3:Sl) (a0_4:Bool) (h:Hp) (R:Value→Hp→Prop):evF Try.prog tab lv3 Try.f3 body3 [] [.agg #[.slice a0_0.a a0_0.n a0_0.c,.int .i64 a0_1,.int .i64 a0_2,.slice a0_3.a a0_3.n a0_3.c,.bool a0_4]] h R=f3F a0_0 a0_1 a0_2 a0_3 a0_4 h R:=by kernel_rfl
theorem f3F_ok {a0_0:Sl} {a0_1:Int} {a0_2:Int} {a0_3:Sl} {a0_4:Bool} {h:Hp} {R:Value→Hp→Prop} (hF:f3F a0_0 a0_1 a0_2 a0_3 a0_4 h R):CallTo Try.prog 3 #[.agg #[.slice a0_0.a a0_0.n a0_0.c,.int .i64 a0_1,.int .i64 a0_2,.slice a0_3.a a0_3.n a0_3.c,.bool a0_4]] h R :=
 callTo_of_ev (lv:=lv3) (hints:=[]) (c:=body3) (args:=[.agg #[.slice a0_0.a a0_0.n a0_0.c,.int .i64 a0_1,.int .i64 a0_2,.slice a0_3.a a0_3.n a0_3.c,.bool a0_4]]) mixed tab_ok Try.func3 (by kernel_rfl) (by kernel_rfl) (by rw [f3F_eq]; exact hF)
/- larder/larderlaw5.ChainTurns -/
noncomputable def body4:Code:=(Try.f4.body).getD .skip
def lv4 (m:Nat):List Nat:=if m=25 then [1,4,5,12,13] else if m=35 then [1,4,5,12,14] else if m=42 then [4,5,15,16] else []
def f4I1 (J:Nat→Addr→Option Addr→Sl→Sl→Int→Hp→Prop) (n:Nat) (env:List Value) (h:Hp):Prop:=lenIs env 230 (DecA env 1 fun s1=>DecP env 4 fun s4=>DecL env 5 fun s5=>DecL env 12 fun s12=>DecI .i64 env 13 fun s13=>J n s1 s4 s5 s12 s13 h)
def f4I2 (J:Nat→Addr→Option Addr→Sl→Sl→Int→Hp→Prop) (n:Nat) (env:List Value) (h:Hp):Prop:=lenIs env 230 (DecA env 1 fun s1=>DecP env 4 fun s4=>DecL env 5 fun s5=>DecL env 12 fun s12=>DecI .i64 env 14 fun s14=>J n s1 s4 s5 s12 s14 h)
def f4I3 (J:Nat→Option Addr→Sl→Sl→Int→Hp→Prop) (n:Nat) (env:List Value) (h:Hp):Prop:=lenIs env 230 (DecP env 4 fun s4=>DecL env 5 fun s5=>DecL env 15 fun s15=>DecI .i64 env 16 fun s16=>J n s4 s5 s15 s16 h)
def f4K3  (x1:Addr) (x4:Option Addr) (x5:Sl) (x6:Sl) (x70:Bool) (h:Hp) (R:Value→Hp→Prop):Prop :=
 Cond x70 (R (.bool false:Value) h) (∃ t72:Int,cell h (x1.add 1)=some (.int .i64 t72)∧CallTo Try.prog 10 #[.int .i64 t72,.int .i64 (IntKind.wrap .i64 ((((x5.n:Nat):Int)) + (1:Int)))] h fun r h6=>∃ t76:Int,r=.int .i64 t76∧CallTo Try.prog 14 #[.pointer x4,.int .i64 t76,.slice x6.a x6.n x6.c] h6 fun r h7=>∃ t80:Int,r=.int .i64 t80∧CallTo Try.prog 23 #[.pointer x4,.int .i64 t76] h7 fun r h8=>∃ t84_0:Sl,∃ t84_1:Int,r=.tuple #[.slice t84_0.a t84_0.n t84_0.c,.int .i64 t84_1]∧CallTo Try.prog 19 #[.pointer x4,.int .i64 t76,.int .i64 1] h8 fun r h9=>∃ t89:Int,r=.int .i64 t89∧CallTo Try.prog 11 #[.int .i64 t80] h9 fun r h10=>∃ t91:Int,r=.int .i64 t91∧Cond (t91 != (0:Int)) (R (.bool false:Value) h10) (CallTo Try.prog 11 #[.int .i64 t84_1] h10 fun r h11=>∃ t95:Int,r=.int .i64 t95∧Cond (t95 != (0:Int)) (R (.bool false:Value) h11) (CallTo Try.prog 11 #[.int .i64 t89] h11 fun r h12=>∃ t100:Int,r=.int .i64 t100∧Cond (t100 != (0:Int)) (R (.bool false:Value) h12) (CallTo Try.prog 18 #[.slice x6.a x6.n x6.c,.slice t84_0.a t84_0.n t84_0.c] h12 fun r h13=>∃ t106:Bool,r=.bool t106∧Cond (!t106) (R (.bool false:Value) h13) (CallTo Try.prog 21 #[.pointer x4,.slice x5.a x5.n x5.c] h13 fun r h14=>∃ t112:Bool,r=.bool t112∧Cond (!t112) (R (.bool false:Value) h14) (Cond (decide (t76 < (((x5.n:Nat):Int)))) (CallTo Try.prog 24 #[.pointer x4,.int .i64 t76,.slice x6.a x6.n x6.c] h14 fun r h15=>∃ t122:Int,r=.int .i64 t122∧CallTo Try.prog 23 #[.pointer x4,.int .i64 t76] h15 fun r h16=>∃ t126_0:Sl,∃ t126_1:Int,r=.tuple #[.slice t126_0.a t126_0.n t126_0.c,.int .i64 t126_1]∧(0 ≤ t76∧t76 < ((x5.n:Nat):Int))∧PtrOk x5.a fun p133=>∃ t134:Sl,cell h16 (p133.add (t76.toNat * 1))=some (.slice t134.a t134.n t134.c)∧CallTo Try.prog 24 #[.pointer x4,.int .i64 t76,.slice t134.a t134.n t134.c] h16 fun r h17=>∃ t135:Int,r=.int .i64 t135∧CallTo Try.prog 11 #[.int .i64 t122] h17 fun r h18=>∃ t137:Int,r=.int .i64 t137∧Cond (t137 != (0:Int)) (R (.bool false:Value) h18) (CallTo Try.prog 11 #[.int .i64 t126_1] h18 fun r h19=>∃ t141:Int,r=.int .i64 t141∧Cond (t141 != (0:Int)) (R (.bool false:Value) h19) (CallTo Try.prog 11 #[.int .i64 t135] h19 fun r h20=>∃ t146:Int,r=.int .i64 t146∧Cond (t146 != (0:Int)) (R (.bool false:Value) h20) (CallTo Try.prog 18 #[.slice x6.a x6.n x6.c,.slice t126_0.a t126_0.n t126_0.c] h20 fun r h21=>∃ t152:Bool,r=.bool t152∧Cond (!t152) (R (.bool false:Value) h21) (CallTo Try.prog 21 #[.pointer x4,.slice x5.a x5.n x5.c] h21 fun r h22=>∃ t158:Bool,r=.bool t158∧Cond (!t158) (R (.bool false:Value) h22) (LoopEv (evC Try.prog tab lv4 (sub [1,1,1,1,1,1,1,1,1,1,1,1,1,1,1,0,1,0,0] body4)) (contAt Try.prog tab lv4 [1,1,1,1,1,1,1,1,1,1,1,1,1,1,1,0,1,0] body4 [] (bodyK Try.prog Try.f4 [] R)) [(1,.pointer (some x1)),(4,.pointer x4),(5,.slice x5.a x5.n x5.c),(12,.slice none 0 0),(13,.int .i64 0)] 230 h22)))))) (LoopEv (evC Try.prog tab lv4 (sub [1,1,1,1,1,1,1,1,1,1,1,1,1,1,1,0,1,0,0] body4)) (contAt Try.prog tab lv4 [1,1,1,1,1,1,1,1,1,1,1,1,1,1,1,0,1,0] body4 [] (bodyK Try.prog Try.f4 [] R)) [(1,.pointer (some x1)),(4,.pointer x4),(5,.slice x5.a x5.n x5.c),(12,.slice none 0 0),(13,.int .i64 0)] 230 h14)))))))
def f4K2  (x1:Addr) (x4:Option Addr) (x5:Sl) (x6:Sl) (h:Hp) (R:Value→Hp→Prop):Prop :=
 ∃ t41:Bool,cell h (x1.add 4)=some (.bool t41)∧CallTo Try.prog 13 #[.pointer x4,.bool t41,.slice x6.a x6.n x6.c] h fun r h3=>∃ t43:Int,r=.int .i64 t43∧∃ t47:Bool,cell h3 (x1.add 4)=some (.bool t47)∧CallTo Try.prog 22 #[.pointer x4,.bool t47] h3 fun r h4=>∃ t48_0:Sl,∃ t48_1:Int,r=.tuple #[.slice t48_0.a t48_0.n t48_0.c,.int .i64 t48_1]∧CallTo Try.prog 11 #[.int .i64 t43] h4 fun r h5=>∃ t52:Int,r=.int .i64 t52∧Cond (t52 != (0:Int)) (f4K3  x1 x4 x5 x6 true h5 R) (CallTo Try.prog 11 #[.int .i64 t48_1] h5 fun r h35=>∃ t56:Int,r=.int .i64 t56∧Cond (t56 != (0:Int)) (f4K3  x1 x4 x5 x6 true h35 R) (CallTo Try.prog 18 #[.slice x6.a x6.n x6.c,.slice t48_0.a t48_0.n t48_0.c] h35 fun r h36=>∃ t62:Bool,r=.bool t62∧Cond (!t62) (f4K3  x1 x4 x5 x6 true h36 R) (CallTo Try.prog 21 #[.pointer x4,.slice x5.a x5.n x5.c] h36 fun r h37=>∃ t68:Bool,r=.bool t68∧f4K3  x1 x4 x5 x6 (!t68) h37 R)))
def f4K1  (x1:Addr) (x4:Option Addr) (x5:Sl) (x31:Bool) (h:Hp) (R:Value→Hp→Prop):Prop :=
 Cond x31 (R (.bool false:Value) h) (∃ t33:Sl,cell h (x1.add 3)=some (.slice t33.a t33.n t33.c)∧Cond (decide ((((t33.n:Nat):Int)) > (40:Int))) ((0 ≤ (40:Int)∧(40:Int) ≤ ((t33.c:Nat):Int))∧(0 ≤ (0:Int)∧(0:Int) ≤ (40:Int))∧f4K2  x1 x4 x5 ⟨if t33.c=(0:Int).toNat then t33.a else Option.map (fun x=>x.add ((0:Int).toNat * 1)) t33.a,(40:Int).toNat - (0:Int).toNat,t33.c - (0:Int).toNat⟩ h R) (f4K2  x1 x4 x5 t33 h R))
def f4L1 (J1:Nat→Addr→Option Addr→Sl→Sl→Int→Hp→Prop) (n1:Nat) (s1:Addr) (s4:Option Addr) (s5:Sl) (s12:Sl) (s13:Int) (g:Nat→Value) (h:Hp) (R:Value→Hp→Prop):Prop :=
 Cond (decide (s13 < (((s5.n:Nat):Int)))) (∃ t170:Bool,cell h (s1.add 4)=some (.bool t170)∧CallTo Try.prog 22 #[.pointer s4,.bool t170] h fun r h23=>∃ t171_0:Sl,∃ t171_1:Int,r=.tuple #[.slice t171_0.a t171_0.n t171_0.c,.int .i64 t171_1]∧CallTo Try.prog 11 #[.int .i64 t171_1] h23 fun r h24=>∃ t175:Int,r=.int .i64 t175∧Cond (t175 != (0:Int)) (R (.bool false:Value) h24) (Let (h24.push (.cells #[.slice t171_0.a t171_0.n t171_0.c] 23)) fun h25=>appSl 23 1 24 #[.slice none 0 0] s12.a s12.n s12.c (some (nb h24)) 1 h25 fun ra26 rn26 rc26 h26=>∃ m,m < n1∧J1 m s1 s4 s5 ⟨ra26,rn26,rc26⟩ (IntKind.wrap .i64 (s13 + (1:Int))) h26)) (∃ t184:Bool,cell h (s1.add 4)=some (.bool t184)∧CallTo Try.prog 22 #[.pointer s4,.bool t184] h fun r h27=>∃ t185_0:Sl,∃ t185_1:Int,r=.tuple #[.slice t185_0.a t185_0.n t185_0.c,.int .i64 t185_1]∧CallTo Try.prog 11 #[.int .i64 t185_1] h27 fun r h28=>∃ t189:Int,r=.int .i64 t189∧Cond (t189 != (53:Int)) (R (.bool false:Value) h28) (CallTo Try.prog 16 #[.pointer s4] h28 fun r h29=>∃ t193:Int,r=.int .i64 t193∧Cond (t193 != (0:Int)) (R (.bool false:Value) h29) (LoopEv (evC Try.prog tab lv4 (sub [1,1,1,1,1,1,1,1,1,1,1,1,1,1,1,1,1,1,0,1,0,0] body4)) (contAt Try.prog tab lv4 [1,1,1,1,1,1,1,1,1,1,1,1,1,1,1,1,1,1,0,1,0] body4 [] (bodyK Try.prog Try.f4 [] R)) [(1,.pointer (some s1)),(4,.pointer s4),(5,.slice s5.a s5.n s5.c),(12,.slice s12.a s12.n s12.c),(14,.int .i64 0)] 230 h29)))
theorem f4L1_eq (J1:Nat→Addr→Option Addr→Sl→Sl→Int→Hp→Prop) (n1:Nat) (s1:Addr) (s4:Option Addr) (s5:Sl) (s12:Sl) (s13:Int) (g:Nat→Value) (h:Hp) (R:Value→Hp→Prop):(evC Try.prog tab lv4 (sub [1,1,1,1,1,1,1,1,1,1,1,1,1,1,1,0,1,0,0] body4)) (loopK (f4I1 J1) n1 (contAt Try.prog tab lv4 [1,1,1,1,1,1,1,1,1,1,1,1,1,1,1,0,1,0] body4 [] (bodyK Try.prog Try.f4 [] R))) (mkEnv 230 [(1,.pointer (some s1)),(4,.pointer s4),(5,.slice s5.a s5.n s5.c),(12,.slice s12.a s12.n s12.c),(13,.int .i64 s13)] g) h=f4L1 J1 n1 s1 s4 s5 s12 s13 g h R:=by kernel_rfl
theorem f4I1_at (J:Nat→Addr→Option Addr→Sl→Sl→Int→Hp→Prop) (n:Nat) (s1:Addr) (s4:Option Addr) (s5:Sl) (s12:Sl) (s13:Int) (g:Nat→Value) (h:Hp):f4I1 J n (mkEnv 230 [(1,.pointer (some s1)),(4,.pointer s4),(5,.slice s5.a s5.n s5.c),(12,.slice s12.a s12.n s12.c),(13,.int .i64 s13)] g) h=J n s1 s4 s5 s12 s13 h:=by kernel_rfl
theorem f4L1_rule  {R:Value→Hp→Prop} {s1:Addr} {s4:Option Addr} {s5:Sl} {s12:Sl} {s13:Int} {h0:Hp} (J:Nat→Addr→Option Addr→Sl→Sl→Int→Hp→Prop) (n0:Nat) (hi:J n0 s1 s4 s5 s12 s13 h0)
  (hr:∀ n s1 s4 s5 s12 s13 g h,J n s1 s4 s5 s12 s13 h→f4L1  J n s1 s4 s5 s12 s13 g h R):LoopEv (evC Try.prog tab lv4 (sub [1,1,1,1,1,1,1,1,1,1,1,1,1,1,1,0,1,0,0] body4)) (contAt Try.prog tab lv4 [1,1,1,1,1,1,1,1,1,1,1,1,1,1,1,0,1,0] body4 [] (bodyK Try.prog Try.f4 [] R)) [(1,.pointer (some s1)),(4,.pointer s4),(5,.slice s5.a s5.n s5.c),(12,.slice s12.a s12.n s12.c),(13,.int .i64 s13)] 230 h0:=by
 refine ⟨f4I1 J,n0,fun g=>by rw [f4I1_at]; exact hi,fun n env h hI=>?_⟩
 clear hi
 clear s1 s4 s5 s12 s13
 obtain ⟨hlen,hI⟩:=Cond_true' hI
 have hlen:env.length=230:=by simpa using hlen
 obtain ⟨s1,es1,hI⟩:=DecA.out hI
 obtain ⟨s4,es4,hI⟩:=DecP.out hI
 obtain ⟨s5,es5,hI⟩:=DecL.out hI
 obtain ⟨s12,es12,hI⟩:=DecL.out hI
 obtain ⟨s13,es13,hI⟩:=DecI.out hI
 rw [mkEnv_of (l:=[(1,.pointer (some s1)),(4,.pointer s4),(5,.slice s5.a s5.n s5.c),(12,.slice s12.a s12.n s12.c),(13,.int .i64 s13)]) hlen (by simp only [List.mem_cons,List.not_mem_nil,or_false,forall_eq_or_imp,forall_eq]; exact ⟨es1,es4,es5,es12,es13⟩)]
 rw [f4L1_eq]
 exact hr n s1 s4 s5 s12 s13 _ h hI
def f4L2 (J2:Nat→Addr→Option Addr→Sl→Sl→Int→Hp→Prop) (n2:Nat) (s1:Addr) (s4:Option Addr) (s5:Sl) (s12:Sl) (s14:Int) (g:Nat→Value) (h:Hp) (R:Value→Hp→Prop):Prop :=
 Cond (decide (s14 < (((s12.n:Nat):Int)))) (∃ t204:Bool,cell h (s1.add 4)=some (.bool t204)∧(0 ≤ s14∧s14 < ((s12.n:Nat):Int))∧PtrOk s12.a fun p207=>∃ t208:Sl,cell h (p207.add (s14.toNat * 1))=some (.slice t208.a t208.n t208.c)∧CallTo Try.prog 13 #[.pointer s4,.bool t204,.slice t208.a t208.n t208.c] h fun r h30=>∃ t209:Int,r=.int .i64 t209∧CallTo Try.prog 11 #[.int .i64 t209] h30 fun r h31=>∃ t211:Int,r=.int .i64 t211∧Cond (t211 != (0:Int)) (R (.bool false:Value) h31) (∃ m,m < n2∧J2 m s1 s4 s5 s12 (IntKind.wrap .i64 (s14 + (1:Int))) h31)) (LoopEv (evC Try.prog tab lv4 (sub [1,1,1,1,1,1,1,1,1,1,1,1,1,1,1,1,1,1,1,1,0,1,0,0] body4)) (contAt Try.prog tab lv4 [1,1,1,1,1,1,1,1,1,1,1,1,1,1,1,1,1,1,1,1,0,1,0] body4 [] (bodyK Try.prog Try.f4 [] R)) [(4,.pointer s4),(5,.slice s5.a s5.n s5.c),(15,.slice none 0 0),(16,.int .i64 (IntKind.wrap .i64 ((((s5.n:Nat):Int)) - (1:Int))))] 230 h)
theorem f4L2_eq (J2:Nat→Addr→Option Addr→Sl→Sl→Int→Hp→Prop) (n2:Nat) (s1:Addr) (s4:Option Addr) (s5:Sl) (s12:Sl) (s14:Int) (g:Nat→Value) (h:Hp) (R:Value→Hp→Prop):(evC Try.prog tab lv4 (sub [1,1,1,1,1,1,1,1,1,1,1,1,1,1,1,1,1,1,0,1,0,0] body4)) (loopK (f4I2 J2) n2 (contAt Try.prog tab lv4 [1,1,1,1,1,1,1,1,1,1,1,1,1,1,1,1,1,1,0,1,0] body4 [] (bodyK Try.prog Try.f4 [] R))) (mkEnv 230 [(1,.pointer (some s1)),(4,.pointer s4),(5,.slice s5.a s5.n s5.c),(12,.slice s12.a s12.n s12.c),(14,.int .i64 s14)] g) h=f4L2 J2 n2 s1 s4 s5 s12 s14 g h R:=by kernel_rfl
theorem f4I2_at (J:Nat→Addr→Option Addr→Sl→Sl→Int→Hp→Prop) (n:Nat) (s1:Addr) (s4:Option Addr) (s5:Sl) (s12:Sl) (s14:Int) (g:Nat→Value) (h:Hp):f4I2 J n (mkEnv 230 [(1,.pointer (some s1)),(4,.pointer s4),(5,.slice s5.a s5.n s5.c),(12,.slice s12.a s12.n s12.c),(14,.int .i64 s14)] g) h=J n s1 s4 s5 s12 s14 h:=by kernel_rfl
theorem f4L2_rule  {R:Value→Hp→Prop} {s1:Addr} {s4:Option Addr} {s5:Sl} {s12:Sl} {s14:Int} {h0:Hp} (J:Nat→Addr→Option Addr→Sl→Sl→Int→Hp→Prop) (n0:Nat) (hi:J n0 s1 s4 s5 s12 s14 h0)
  (hr:∀ n s1 s4 s5 s12 s14 g h,J n s1 s4 s5 s12 s14 h→f4L2  J n s1 s4 s5 s12 s14 g h R):LoopEv (evC Try.prog tab lv4 (sub [1,1,1,1,1,1,1,1,1,1,1,1,1,1,1,1,1,1,0,1,0,0] body4)) (contAt Try.prog tab lv4 [1,1,1,1,1,1,1,1,1,1,1,1,1,1,1,1,1,1,0,1,0] body4 [] (bodyK Try.prog Try.f4 [] R)) [(1,.pointer (some s1)),(4,.pointer s4),(5,.slice s5.a s5.n s5.c),(12,.slice s12.a s12.n s12.c),(14,.int .i64 s14)] 230 h0:=by
 refine ⟨f4I2 J,n0,fun g=>by rw [f4I2_at]; exact hi,fun n env h hI=>?_⟩
 clear hi
 clear s1 s4 s5 s12 s14
 obtain ⟨hlen,hI⟩:=Cond_true' hI
 have hlen:env.length=230:=by simpa using hlen
 obtain ⟨s1,es1,hI⟩:=DecA.out hI
 obtain ⟨s4,es4,hI⟩:=DecP.out hI
 obtain ⟨s5,es5,hI⟩:=DecL.out hI
 obtain ⟨s12,es12,hI⟩:=DecL.out hI
 obtain ⟨s14,es14,hI⟩:=DecI.out hI
 rw [mkEnv_of (l:=[(1,.pointer (some s1)),(4,.pointer s4),(5,.slice s5.a s5.n s5.c),(12,.slice s12.a s12.n s12.c),(14,.int .i64 s14)]) hlen (by simp only [List.mem_cons,List.not_mem_nil,or_false,forall_eq_or_imp,forall_eq]; exact ⟨es1,es4,es5,es12,es14⟩)]
 rw [f4L2_eq]
 exact hr n s1 s4 s5 s12 s14 _ h hI
def f4L3 (J3:Nat→Option Addr→Sl→Sl→Int→Hp→Prop) (n3:Nat) (s4:Option Addr) (s5:Sl) (s15:Sl) (s16:Int) (g:Nat→Value) (h:Hp) (R:Value→Hp→Prop):Prop :=
 Cond (decide (s16 ≥ (0:Int))) ((0 ≤ s16∧s16 < ((s5.n:Nat):Int))∧PtrOk s5.a fun p223=>∃ t224:Sl,cell h (p223.add (s16.toNat * 1))=some (.slice t224.a t224.n t224.c)∧Let (h.push (.cells #[.slice t224.a t224.n t224.c] 23)) fun h32=>appSl 23 1 24 #[.slice none 0 0] s15.a s15.n s15.c (some (nb h)) 1 h32 fun ra33 rn33 rc33 h33=>∃ m,m < n3∧J3 m s4 s5 ⟨ra33,rn33,rc33⟩ (IntKind.wrap .i64 (s16 - (1:Int))) h33) (CallTo Try.prog 21 #[.pointer s4,.slice s15.a s15.n s15.c] h fun r h34=>∃ t229:Bool,r=.bool t229∧R (.bool t229:Value) h34)
theorem f4L3_eq (J3:Nat→Option Addr→Sl→Sl→Int→Hp→Prop) (n3:Nat) (s4:Option Addr) (s5:Sl) (s15:Sl) (s16:Int) (g:Nat→Value) (h:Hp) (R:Value→Hp→Prop):(evC Try.prog tab lv4 (sub [1,1,1,1,1,1,1,1,1,1,1,1,1,1,1,1,1,1,1,1,0,1,0,0] body4)) (loopK (f4I3 J3) n3 (contAt Try.prog tab lv4 [1,1,1,1,1,1,1,1,1,1,1,1,1,1,1,1,1,1,1,1,0,1,0] body4 [] (bodyK Try.prog Try.f4 [] R))) (mkEnv 230 [(4,.pointer s4),(5,.slice s5.a s5.n s5.c),(15,.slice s15.a s15.n s15.c),(16,.int .i64 s16)] g) h=f4L3 J3 n3 s4 s5 s15 s16 g h R:=by kernel_rfl
theorem f4I3_at (J:Nat→Option Addr→Sl→Sl→Int→Hp→Prop) (n:Nat) (s4:Option Addr) (s5:Sl) (s15:Sl) (s16:Int) (g:Nat→Value) (h:Hp):f4I3 J n (mkEnv 230 [(4,.pointer s4),(5,.slice s5.a s5.n s5.c),(15,.slice s15.a s15.n s15.c),(16,.int .i64 s16)] g) h=J n s4 s5 s15 s16 h:=by kernel_rfl
theorem f4L3_rule  {R:Value→Hp→Prop} {s4:Option Addr} {s5:Sl} {s15:Sl} {s16:Int} {h0:Hp} (J:Nat→Option Addr→Sl→Sl→Int→Hp→Prop) (n0:Nat) (hi:J n0 s4 s5 s15 s16 h0)
  (hr:∀ n s4 s5 s15 s16 g h,J n s4 s5 s15 s16 h→f4L3  J n s4 s5 s15 s16 g h R):LoopEv (evC Try.prog tab lv4 (sub [1,1,1,1,1,1,1,1,1,1,1,1,1,1,1,1,1,1,1,1,0,1,0,0] body4)) (contAt Try.prog tab lv4 [1,1,1,1,1,1,1,1,1,1,1,1,1,1,1,1,1,1,1,1,0,1,0] body4 [] (bodyK Try.prog Try.f4 [] R)) [(4,.pointer s4),(5,.slice s5.a s5.n s5.c),(15,.slice s15.a s15.n s15.c),(16,.int .i64 s16)] 230 h0:=by
 refine ⟨f4I3 J,n0,fun g=>by rw [f4I3_at]; exact hi,fun n env h hI=>?_⟩
 clear hi
 clear s4 s5 s15 s16
 obtain ⟨hlen,hI⟩:=Cond_true' hI
 have hlen:env.length=230:=by simpa using hlen
 obtain ⟨s4,es4,hI⟩:=DecP.out hI
 obtain ⟨s5,es5,hI⟩:=DecL.out hI
 obtain ⟨s15,es15,hI⟩:=DecL.out hI
 obtain ⟨s16,es16,hI⟩:=DecI.out hI
 rw [mkEnv_of (l:=[(4,.pointer s4),(5,.slice s5.a s5.n s5.c),(15,.slice s15.a s15.n s15.c),(16,.int .i64 s16)]) hlen (by simp only [List.mem_cons,List.not_mem_nil,or_false,forall_eq_or_imp,forall_eq]; exact ⟨es4,es5,es15,es16⟩)]
 rw [f4L3_eq]
 exact hr n s4 s5 s15 s16 _ h hI
def f4F (a0_0:Sl) (a0_1:Int) (a0_2:Int) (a0_3:Sl) (a0_4:Bool) (h:Hp) (R:Value→Hp→Prop):Prop :=
 Let (h.push (.cells #[.slice a0_0.a a0_0.n a0_0.c,.int .i64 a0_1,.int .i64 a0_2,.slice a0_3.a a0_3.n a0_3.c,.bool a0_4] 25)) fun h1=>∃ t19:Sl,cell h1 (nb h)=some (.slice t19.a t19.n t19.c)∧CallTo Try.prog 20 #[.slice t19.a t19.n t19.c] h1 fun r h2=>∃ t20_0:Option Addr,∃ t20_1:Option Addr,∃ t20_2:Sl,r=.tuple #[.pointer t20_0,.pointer t20_1,.slice t20_2.a t20_2.n t20_2.c]∧Cond (Option.isNone t20_1) (f4K1  (nb h) t20_1 t20_2 true h2 R) (CallTo Try.prog 21 #[.pointer t20_1,.slice t20_2.a t20_2.n t20_2.c] h2 fun r h38=>∃ t29:Bool,r=.bool t29∧f4K1  (nb h) t20_1 t20_2 (!t29) h38 R)
theorem f4F_eq (a0_0:Sl) (a0_1:Int) (a0_2:Int) (a0_3:Sl) (a0_4:Bool) (h:Hp) (R:Value→Hp→Prop):evF Try.prog tab lv4 Try.f4 body4 [] [.agg #[.slice a0_0.a a0_0.n a0_0.c,.int .i64 a0_1,.int .i64 a0_2,.slice a0_3.a a0_3.n a0_3.c,.bool a0_4]] h R=f4F a0_0 a0_1 a0_2 a0_3 a0_4 h R:=by kernel_rfl
theorem f4F_ok {a0_0:Sl} {a0_1:Int} {a0_2:Int} {a0_3:Sl} {a0_4:Bool} {h:Hp} {R:Value→Hp→Prop} (hF:f4F a0_0 a0_1 a0_2 a0_3 a0_4 h R):CallTo Try.prog 4 #[.agg #[.slice a0_0.a a0_0.n a0_0.c,.int .i64 a0_1,.int .i64 a0_2,.slice a0_3.a a0_3.n a0_3.c,.bool a0_4]] h R :=
 callTo_of_ev (lv:=lv4) (hints:=[]) (c:=body4) (args:=[.agg #[.slice a0_0.a a0_0.n a0_0.c,.int .i64 a0_1,.int .i64 a0_2,.slice a0_3.a a0_3.n a0_3.c,.bool a0_4]]) mixed tab_ok Try.func4 (by kernel_rfl) (by kernel_rfl) (by rw [f4F_eq]; exact hF)
/- larder/larderlaw5.ChainStrikes -/
noncomputable def body5:Code:=(Try.f5.body).getD .skip
def lv5 (m:Nat):List Nat:=if m=16 then [4,13] else []
def f5I1 (J:Nat→Option Addr→Sl→Hp→Prop) (n:Nat) (env:List Value) (h:Hp):Prop:=lenIs env 130 (DecP env 4 fun s4=>DecL env 13 fun s13=>J n s4 s13 h)
def f5K1  (x1:Addr) (x4:Option Addr) (x6:Sl) (x60:Bool) (h:Hp) (R:Value→Hp→Prop):Prop :=
 Cond x60 (R (.bool false:Value) h) (∃ t62:Int,cell h (x1.add 1)=some (.int .i64 t62)∧CallTo Try.prog 10 #[.int .i64 t62,.int .i64 (IntKind.wrap .i64 ((((x6.n:Nat):Int)) + (1:Int)))] h fun r h6=>∃ t66:Int,r=.int .i64 t66∧∃ t68:Int,cell h6 (x1.add 2)=some (.int .i64 t68)∧CallTo Try.prog 10 #[.int .i64 t68,.int .i64 (IntKind.wrap .i64 ((IntKind.wrap .i64 ((((x6.n:Nat):Int)) - t66)) + (1:Int)))] h6 fun r h7=>∃ t74:Int,r=.int .i64 t74∧CallTo Try.prog 19 #[.pointer x4,.int .i64 t66,.int .i64 t74] h7 fun r h8=>∃ t78:Int,r=.int .i64 t78∧(0 ≤ t66∧t66 ≤ ((x6.c:Nat):Int))∧(0 ≤ (0:Int)∧(0:Int) ≤ t66)∧appSl 23 1 24 #[.slice none 0 0] none 0 0 (if x6.c=(0:Int).toNat then x6.a else Option.map (fun x=>x.add ((0:Int).toNat * 1)) x6.a) (t66.toNat - (0:Int).toNat) h8 fun ra9 rn9 rc9 h9=>(0 ≤ (IntKind.wrap .i64 (t66 + t74))∧(IntKind.wrap .i64 (t66 + t74)) ≤ ((x6.n:Nat):Int))∧appSl 23 1 24 #[.slice none 0 0] ra9 rn9 rc9 (if x6.c=(IntKind.wrap .i64 (t66 + t74)).toNat then x6.a else Option.map (fun x=>x.add ((IntKind.wrap .i64 (t66 + t74)).toNat * 1)) x6.a) (x6.n - (IntKind.wrap .i64 (t66 + t74)).toNat) h9 fun ra10 rn10 rc10 h10=>CallTo Try.prog 11 #[.int .i64 t78] h10 fun r h11=>∃ t92:Int,r=.int .i64 t92∧Cond (t92 != (0:Int)) (R (.bool false:Value) h11) (CallTo Try.prog 21 #[.pointer x4,.slice ra10 rn10 rc10] h11 fun r h12=>∃ t97:Bool,r=.bool t97∧Cond (!t97) (R (.bool false:Value) h12) (LoopEv (evC Try.prog tab lv5 (sub [1,1,1,1,1,1,1,1,1,1,1,1,1,0,0,0] body5)) (contAt Try.prog tab lv5 [1,1,1,1,1,1,1,1,1,1,1,1,1,0,0] body5 [] (bodyK Try.prog Try.f5 [] R)) [(4,.pointer x4),(13,.slice ra10 rn10 rc10)] 130 h12)))
def f5L1 (J1:Nat→Option Addr→Sl→Hp→Prop) (n1:Nat) (s4:Option Addr) (s13:Sl) (g:Nat→Value) (h:Hp) (R:Value→Hp→Prop):Prop :=
 Cond (decide ((((s13.n:Nat):Int)) > (0:Int))) (CallTo Try.prog 22 #[.pointer s4,.bool false] h fun r h13=>∃ t105_0:Sl,∃ t105_1:Int,r=.tuple #[.slice t105_0.a t105_0.n t105_0.c,.int .i64 t105_1]∧CallTo Try.prog 11 #[.int .i64 t105_1] h13 fun r h14=>∃ t109:Int,r=.int .i64 t109∧Cond (t109 != (0:Int)) (R (.bool false:Value) h14) ((0 ≤ (IntKind.wrap .i64 ((((s13.n:Nat):Int)) - (1:Int)))∧(IntKind.wrap .i64 ((((s13.n:Nat):Int)) - (1:Int))) < ((s13.n:Nat):Int))∧PtrOk s13.a fun p117=>∃ t118:Sl,cell h14 (p117.add ((IntKind.wrap .i64 ((((s13.n:Nat):Int)) - (1:Int))).toNat * 1))=some (.slice t118.a t118.n t118.c)∧CallTo Try.prog 18 #[.slice t105_0.a t105_0.n t105_0.c,.slice t118.a t118.n t118.c] h14 fun r h15=>∃ t119:Bool,r=.bool t119∧Cond (!t119) (R (.bool false:Value) h15) ((0 ≤ (IntKind.wrap .i64 ((((s13.n:Nat):Int)) - (1:Int)))∧(IntKind.wrap .i64 ((((s13.n:Nat):Int)) - (1:Int))) ≤ ((s13.c:Nat):Int))∧(0 ≤ (0:Int)∧(0:Int) ≤ (IntKind.wrap .i64 ((((s13.n:Nat):Int)) - (1:Int))))∧∃ m,m < n1∧J1 m s4 ⟨if s13.c=(0:Int).toNat then s13.a else Option.map (fun x=>x.add ((0:Int).toNat * 1)) s13.a,(IntKind.wrap .i64 ((((s13.n:Nat):Int)) - (1:Int))).toNat - (0:Int).toNat,s13.c - (0:Int).toNat⟩ h15))) (CallTo Try.prog 16 #[.pointer s4] h fun r h16=>∃ t128:Int,r=.int .i64 t128∧R ((.bool (t128 == (0:Int)):Value)) h16)
theorem f5L1_eq (J1:Nat→Option Addr→Sl→Hp→Prop) (n1:Nat) (s4:Option Addr) (s13:Sl) (g:Nat→Value) (h:Hp) (R:Value→Hp→Prop):(evC Try.prog tab lv5 (sub [1,1,1,1,1,1,1,1,1,1,1,1,1,0,0,0] body5)) (loopK (f5I1 J1) n1 (contAt Try.prog tab lv5 [1,1,1,1,1,1,1,1,1,1,1,1,1,0,0] body5 [] (bodyK Try.prog Try.f5 [] R))) (mkEnv 130 [(4,.pointer s4),(13,.slice s13.a s13.n s13.c)] g) h=f5L1 J1 n1 s4 s13 g h R:=by kernel_rfl
theorem f5I1_at (J:Nat→Option Addr→Sl→Hp→Prop) (n:Nat) (s4:Option Addr) (s13:Sl) (g:Nat→Value) (h:Hp):f5I1 J n (mkEnv 130 [(4,.pointer s4),(13,.slice s13.a s13.n s13.c)] g) h=J n s4 s13 h:=by kernel_rfl
theorem f5L1_rule  {R:Value→Hp→Prop} {s4:Option Addr} {s13:Sl} {h0:Hp} (J:Nat→Option Addr→Sl→Hp→Prop) (n0:Nat) (hi:J n0 s4 s13 h0)
  (hr:∀ n s4 s13 g h,J n s4 s13 h→f5L1  J n s4 s13 g h R):LoopEv (evC Try.prog tab lv5 (sub [1,1,1,1,1,1,1,1,1,1,1,1,1,0,0,0] body5)) (contAt Try.prog tab lv5 [1,1,1,1,1,1,1,1,1,1,1,1,1,0,0] body5 [] (bodyK Try.prog Try.f5 [] R)) [(4,.pointer s4),(13,.slice s13.a s13.n s13.c)] 130 h0:=by
 refine ⟨f5I1 J,n0,fun g=>by rw [f5I1_at]; exact hi,fun n env h hI=>?_⟩
 clear hi
 clear s4 s13
 obtain ⟨hlen,hI⟩:=Cond_true' hI
 have hlen:env.length=130:=by simpa using hlen
 obtain ⟨s4,es4,hI⟩:=DecP.out hI
 obtain ⟨s13,es13,hI⟩:=DecL.out hI
 rw [mkEnv_of (l:=[(4,.pointer s4),(13,.slice s13.a s13.n s13.c)]) hlen (by simp only [List.mem_cons,List.not_mem_nil,or_false,forall_eq_or_imp,forall_eq]; exact ⟨es4,es13⟩)]
 rw [f5L1_eq]
 exact hr n s4 s13 _ h hI
def f5F (a0_0:Sl) (a0_1:Int) (a0_2:Int) (a0_3:Sl) (a0_4:Bool) (h:Hp) (R:Value→Hp→Prop):Prop :=
 Let (h.push (.cells #[.slice a0_0.a a0_0.n a0_0.c,.int .i64 a0_1,.int .i64 a0_2,.slice a0_3.a a0_3.n a0_3.c,.bool a0_4] 25)) fun h1=>∃ t18:Sl,cell h1 (nb h)=some (.slice t18.a t18.n t18.c)∧CallTo Try.prog 20 #[.slice t18.a t18.n t18.c] h1 fun r h2=>∃ t19_0:Option Addr,∃ t19_1:Option Addr,∃ t19_2:Sl,r=.tuple #[.pointer t19_0,.pointer t19_1,.slice t19_2.a t19_2.n t19_2.c]∧Cond (Option.isNone t19_1) (R (.bool false:Value) h2) (∃ t28:Bool,cell h2 ((nb h).add 4)=some (.bool t28)∧∃ t30:Int,cell h2 ((nb h).add 2)=some (.int .i64 t30)∧∃ t32:Sl,cell h2 ((nb h).add 3)=some (.slice t32.a t32.n t32.c)∧CallTo Try.prog 25 #[.slice t19_2.a t19_2.n t19_2.c,.bool t28,.int .i64 t30,.slice t32.a t32.n t32.c] h2 fun r h3=>∃ t33_0:Sl,∃ t33_1:Int,r=.tuple #[.slice t33_0.a t33_0.n t33_0.c,.int .i64 t33_1]∧∃ t39:Bool,cell h3 ((nb h).add 4)=some (.bool t39)∧∃ t41:Int,cell h3 ((nb h).add 2)=some (.int .i64 t41)∧∃ t43:Sl,cell h3 ((nb h).add 3)=some (.slice t43.a t43.n t43.c)∧CallTo Try.prog 26 #[.pointer t19_1,.bool t39,.int .i64 t41,.slice t43.a t43.n t43.c] h3 fun r h4=>∃ t44_0:Int,∃ t44_1:Int,r=.tuple #[.int .i64 t44_0,.int .i64 t44_1]∧CallTo Try.prog 11 #[.int .i64 t44_1] h4 fun r h5=>∃ t48:Int,r=.int .i64 t48∧Cond (t48 != (0:Int)) (f5K1  (nb h) t19_1 t33_0 true h5 R) (Cond (t44_0 != t33_1) (f5K1  (nb h) t19_1 t33_0 true h5 R) (CallTo Try.prog 21 #[.pointer t19_1,.slice t33_0.a t33_0.n t33_0.c] h5 fun r h17=>∃ t58:Bool,r=.bool t58∧f5K1  (nb h) t19_1 t33_0 (!t58) h17 R)))
theorem f5F_eq (a0_0:Sl) (a0_1:Int) (a0_2:Int) (a0_3:Sl) (a0_4:Bool) (h:Hp) (R:Value→Hp→Prop):evF Try.prog tab lv5 Try.f5 body5 [] [.agg #[.slice a0_0.a a0_0.n a0_0.c,.int .i64 a0_1,.int .i64 a0_2,.slice a0_3.a a0_3.n a0_3.c,.bool a0_4]] h R=f5F a0_0 a0_1 a0_2 a0_3 a0_4 h R:=by kernel_rfl
theorem f5F_ok {a0_0:Sl} {a0_1:Int} {a0_2:Int} {a0_3:Sl} {a0_4:Bool} {h:Hp} {R:Value→Hp→Prop} (hF:f5F a0_0 a0_1 a0_2 a0_3 a0_4 h R):CallTo Try.prog 5 #[.agg #[.slice a0_0.a a0_0.n a0_0.c,.int .i64 a0_1,.int .i64 a0_2,.slice a0_3.a a0_3.n a0_3.c,.bool a0_4]] h R :=
 callTo_of_ev (lv:=lv5) (hints:=[]) (c:=body5) (args:=[.agg #[.slice a0_0.a a0_0.n a0_0.c,.int .i64 a0_1,.int .i64 a0_2,.slice a0_3.a a0_3.n a0_3.c,.bool a0_4]]) mixed tab_ok Try.func5 (by kernel_rfl) (by kernel_rfl) (by rw [f5F_eq]; exact hF)
/- larder/larderlaw5.ChainGreat -/
/- larder/larderlaw5.ChainShaken -/
/- larder/larderlaw5.within -/
noncomputable def body10:Code:=(Try.f10.body).getD .skip
def lv10 (m:Nat):List Nat:=[]
def f10F (a0:Int) (a1:Int) (h:Hp) (R:Value→Hp→Prop):Prop :=
 a1 ≠ 0∧a1 ≠ 0∧R ((.int .i64 (Int.tmod (IntKind.wrap .i64 ((Int.tmod a0 a1) + a1)) a1):Value)) h
theorem f10F_eq (a0:Int) (a1:Int) (h:Hp) (R:Value→Hp→Prop):evF Try.prog tab lv10 Try.f10 body10 [] [.int .i64 a0,.int .i64 a1] h R=f10F a0 a1 h R:=by kernel_rfl
theorem f10F_ok {a0:Int} {a1:Int} {h:Hp} {R:Value→Hp→Prop} (hF:f10F a0 a1 h R):CallTo Try.prog 10 #[.int .i64 a0,.int .i64 a1] h R :=
 callTo_of_ev (lv:=lv10) (hints:=[]) (c:=body10) (args:=[.int .i64 a0,.int .i64 a1]) mixed tab_ok Try.func10 (by kernel_rfl) (by kernel_rfl) (by rw [f10F_eq]; exact hF)
/- larder/larderlaw5.num -/
noncomputable def body11:Code:=(Try.f11.body).getD .skip
def lv11 (m:Nat):List Nat:=[]
def f11F (a0:Int) (h:Hp) (R:Value→Hp→Prop):Prop :=
 R (.int .i64 a0:Value) h
theorem f11F_eq (a0:Int) (h:Hp) (R:Value→Hp→Prop):evF Try.prog tab lv11 Try.f11 body11 [] [.int .i64 a0] h R=f11F a0 h R:=by kernel_rfl
theorem f11F_ok {a0:Int} {h:Hp} {R:Value→Hp→Prop} (hF:f11F a0 h R):CallTo Try.prog 11 #[.int .i64 a0] h R :=
 callTo_of_ev (lv:=lv11) (hints:=[]) (c:=body11) (args:=[.int .i64 a0]) mixed tab_ok Try.func11 (by kernel_rfl) (by kernel_rfl) (by rw [f11F_eq]; exact hF)
/- larder/larderlaw5.make1 -/
noncomputable def body20:Code:=(Try.f20.body).getD .skip
def lv20 (m:Nat):List Nat:=if m=9 then [0,5,7,9,10] else if m=17 then [5,7,9,12,13] else if m=23 then [5,7,9,15] else []
def f20I1 (J:Nat→Sl→Option Addr→Option Addr→Sl→Int→Hp→Prop) (n:Nat) (env:List Value) (h:Hp):Prop:=lenIs env 100 (DecL env 0 fun s0=>DecP env 5 fun s5=>DecP env 7 fun s7=>DecL env 9 fun s9=>DecI .i64 env 10 fun s10=>J n s0 s5 s7 s9 s10 h)
def f20I2 (J:Nat→Option Addr→Option Addr→Sl→Int→Int→Hp→Prop) (n:Nat) (env:List Value) (h:Hp):Prop:=lenIs env 100 (DecP env 5 fun s5=>DecP env 7 fun s7=>DecL env 9 fun s9=>DecI .i64 env 12 fun s12=>DecI .i64 env 13 fun s13=>J n s5 s7 s9 s12 s13 h)
def f20I3 (J:Nat→Option Addr→Option Addr→Sl→Int→Hp→Prop) (n:Nat) (env:List Value) (h:Hp):Prop:=lenIs env 100 (DecP env 5 fun s5=>DecP env 7 fun s7=>DecL env 9 fun s9=>DecI .i64 env 15 fun s15=>J n s5 s7 s9 s15 h)
def f20K4 (J1:Nat→Sl→Option Addr→Option Addr→Sl→Int→Hp→Prop) (n1:Nat) (x0:Sl) (x5:Option Addr) (x7:Option Addr) (x9:Sl) (x10:Int) (x11:Sl) (h:Hp) (R:Value→Hp→Prop):Prop :=
 Let (h.push (.cells #[.slice x11.a x11.n x11.c] 23)) fun h5=>appSl 23 1 24 #[.slice none 0 0] x9.a x9.n x9.c (some (nb h)) 1 h5 fun ra6 rn6 rc6 h6=>∃ m,m < n1∧J1 m x0 x5 x7 ⟨ra6,rn6,rc6⟩ (IntKind.wrap .i64 (x10 + (1:Int))) h6
def f20K3 (J1:Nat→Sl→Option Addr→Option Addr→Sl→Int→Hp→Prop) (n1:Nat) (x0:Sl) (x5:Option Addr) (x7:Option Addr) (x9:Sl) (x10:Int) (x47:Bool) (h:Hp) (R:Value→Hp→Prop):Prop :=
 Cond x47 ((0 ≤ x10∧x10 < ((x0.n:Nat):Int))∧PtrOk x0.a fun p52=>∃ t53:Sl,cell h (p52.add (x10.toNat * 1))=some (.slice t53.a t53.n t53.c)∧Cond (decide ((((t53.n:Nat):Int)) > (40:Int))) ((0 ≤ (40:Int)∧(40:Int) ≤ ((t53.c:Nat):Int))∧(0 ≤ (0:Int)∧(0:Int) ≤ (40:Int))∧f20K4 J1 n1 x0 x5 x7 x9 x10 ⟨if t53.c=(0:Int).toNat then t53.a else Option.map (fun x=>x.add ((0:Int).toNat * 1)) t53.a,(40:Int).toNat - (0:Int).toNat,t53.c - (0:Int).toNat⟩ h R) (f20K4 J1 n1 x0 x5 x7 x9 x10 t53 h R)) ((2:Int) ≠ 0∧LoopEv (evC Try.prog tab lv20 (sub [1,1,1,1,1,1,1,1,0,1,0,0] body20)) (contAt Try.prog tab lv20 [1,1,1,1,1,1,1,1,0,1,0] body20 [] (bodyK Try.prog Try.f20 [] R)) [(5,.pointer x5),(7,.pointer x7),(9,.slice x9.a x9.n x9.c),(12,.int .i64 (IntKind.wrap .i64 (Int.tdiv (((x9.n:Nat):Int)) (2:Int)))),(13,.int .i64 (IntKind.wrap .i64 ((IntKind.wrap .i64 (Int.tdiv (((x9.n:Nat):Int)) (2:Int))) - (1:Int))))] 100 h)
def f20K2  (x0:Sl) (x5:Option Addr) (x7:Option Addr) (x39:Bool) (h:Hp) (R:Value→Hp→Prop):Prop :=
 Cond x39 (R (.tuple #[.pointer none,.pointer none,.slice none 0 0]:Value) h) (LoopEv (evC Try.prog tab lv20 (sub [1,1,1,1,1,1,0,1,0,0] body20)) (contAt Try.prog tab lv20 [1,1,1,1,1,1,0,1,0] body20 [] (bodyK Try.prog Try.f20 [] R)) [(0,.slice x0.a x0.n x0.c),(5,.pointer x5),(7,.pointer x7),(9,.slice none 0 0),(10,.int .i64 0)] 100 h)
def f20K1  (x0:Sl) (x5:Option Addr) (x27:Bool) (h:Hp) (R:Value→Hp→Prop):Prop :=
 Cond x27 (R (.tuple #[.pointer none,.pointer none,.slice none 0 0]:Value) h) (CallTo Try.prog 12 #[.pointer x5] h fun r h3=>∃ t30_0:Option Addr,∃ t30_1:Int,r=.tuple #[.pointer t30_0,.int .i64 t30_1]∧CallTo Try.prog 11 #[.int .i64 t30_1] h3 fun r h4=>∃ t34:Int,r=.int .i64 t34∧Cond (t34 != (0:Int)) (f20K2  x0 x5 t30_0 true h4 R) (f20K2  x0 x5 t30_0 (Option.isNone t30_0) h4 R))
def f20L1 (J1:Nat→Sl→Option Addr→Option Addr→Sl→Int→Hp→Prop) (n1:Nat) (s0:Sl) (s5:Option Addr) (s7:Option Addr) (s9:Sl) (s10:Int) (g:Nat→Value) (h:Hp) (R:Value→Hp→Prop):Prop :=
 Cond (decide (s10 < (((s0.n:Nat):Int)))) (f20K3 J1 n1 s0 s5 s7 s9 s10 (decide (s10 < (300:Int))) h R) (f20K3 J1 n1 s0 s5 s7 s9 s10 false h R)
theorem f20L1_eq (J1:Nat→Sl→Option Addr→Option Addr→Sl→Int→Hp→Prop) (n1:Nat) (s0:Sl) (s5:Option Addr) (s7:Option Addr) (s9:Sl) (s10:Int) (g:Nat→Value) (h:Hp) (R:Value→Hp→Prop):(evC Try.prog tab lv20 (sub [1,1,1,1,1,1,0,1,0,0] body20)) (loopK (f20I1 J1) n1 (contAt Try.prog tab lv20 [1,1,1,1,1,1,0,1,0] body20 [] (bodyK Try.prog Try.f20 [] R))) (mkEnv 100 [(0,.slice s0.a s0.n s0.c),(5,.pointer s5),(7,.pointer s7),(9,.slice s9.a s9.n s9.c),(10,.int .i64 s10)] g) h=f20L1 J1 n1 s0 s5 s7 s9 s10 g h R:=by kernel_rfl
theorem f20I1_at (J:Nat→Sl→Option Addr→Option Addr→Sl→Int→Hp→Prop) (n:Nat) (s0:Sl) (s5:Option Addr) (s7:Option Addr) (s9:Sl) (s10:Int) (g:Nat→Value) (h:Hp):f20I1 J n (mkEnv 100 [(0,.slice s0.a s0.n s0.c),(5,.pointer s5),(7,.pointer s7),(9,.slice s9.a s9.n s9.c),(10,.int .i64 s10)] g) h=J n s0 s5 s7 s9 s10 h:=by kernel_rfl
theorem f20L1_rule  {R:Value→Hp→Prop} {s0:Sl} {s5:Option Addr} {s7:Option Addr} {s9:Sl} {s10:Int} {h0:Hp} (J:Nat→Sl→Option Addr→Option Addr→Sl→Int→Hp→Prop) (n0:Nat) (hi:J n0 s0 s5 s7 s9 s10 h0)
  (hr:∀ n s0 s5 s7 s9 s10 g h,J n s0 s5 s7 s9 s10 h→f20L1  J n s0 s5 s7 s9 s10 g h R):LoopEv (evC Try.prog tab lv20 (sub [1,1,1,1,1,1,0,1,0,0] body20)) (contAt Try.prog tab lv20 [1,1,1,1,1,1,0,1,0] body20 [] (bodyK Try.prog Try.f20 [] R)) [(0,.slice s0.a s0.n s0.c),(5,.pointer s5),(7,.pointer s7),(9,.slice s9.a s9.n s9.c),(10,.int .i64 s10)] 100 h0:=by
 refine ⟨f20I1 J,n0,fun g=>by rw [f20I1_at]; exact hi,fun n env h hI=>?_⟩
 clear hi
 clear s0 s5 s7 s9 s10
 obtain ⟨hlen,hI⟩:=Cond_true' hI
 have hlen:env.length=100:=by simpa using hlen
 obtain ⟨s0,es0,hI⟩:=DecL.out hI
 obtain ⟨s5,es5,hI⟩:=DecP.out hI
 obtain ⟨s7,es7,hI⟩:=DecP.out hI
 obtain ⟨s9,es9,hI⟩:=DecL.out hI
 obtain ⟨s10,es10,hI⟩:=DecI.out hI
 rw [mkEnv_of (l:=[(0,.slice s0.a s0.n s0.c),(5,.pointer s5),(7,.pointer s7),(9,.slice s9.a s9.n s9.c),(10,.int .i64 s10)]) hlen (by simp only [List.mem_cons,List.not_mem_nil,or_false,forall_eq_or_imp,forall_eq]; exact ⟨es0,es5,es7,es9,es10⟩)]
 rw [f20L1_eq]
 exact hr n s0 s5 s7 s9 s10 _ h hI
def f20L2 (J2:Nat→Option Addr→Option Addr→Sl→Int→Int→Hp→Prop) (n2:Nat) (s5:Option Addr) (s7:Option Addr) (s9:Sl) (s12:Int) (s13:Int) (g:Nat→Value) (h:Hp) (R:Value→Hp→Prop):Prop :=
 Cond (decide (s13 ≥ (0:Int))) ((0 ≤ s13∧s13 < ((s9.n:Nat):Int))∧PtrOk s9.a fun p75=>∃ t76:Sl,cell h (p75.add (s13.toNat * 1))=some (.slice t76.a t76.n t76.c)∧CallTo Try.prog 13 #[.pointer s7,.bool true,.slice t76.a t76.n t76.c] h fun r h7=>∃ t77:Int,r=.int .i64 t77∧CallTo Try.prog 11 #[.int .i64 t77] h7 fun r h8=>∃ t79:Int,r=.int .i64 t79∧Cond (t79 != (0:Int)) (R (.tuple #[.pointer none,.pointer none,.slice none 0 0]:Value) h8) (∃ m,m < n2∧J2 m s5 s7 s9 s12 (IntKind.wrap .i64 (s13 - (1:Int))) h8)) (LoopEv (evC Try.prog tab lv20 (sub [1,1,1,1,1,1,1,1,1,0,1,0,0] body20)) (contAt Try.prog tab lv20 [1,1,1,1,1,1,1,1,1,0,1,0] body20 [] (bodyK Try.prog Try.f20 [] R)) [(5,.pointer s5),(7,.pointer s7),(9,.slice s9.a s9.n s9.c),(15,.int .i64 s12)] 100 h)
theorem f20L2_eq (J2:Nat→Option Addr→Option Addr→Sl→Int→Int→Hp→Prop) (n2:Nat) (s5:Option Addr) (s7:Option Addr) (s9:Sl) (s12:Int) (s13:Int) (g:Nat→Value) (h:Hp) (R:Value→Hp→Prop):(evC Try.prog tab lv20 (sub [1,1,1,1,1,1,1,1,0,1,0,0] body20)) (loopK (f20I2 J2) n2 (contAt Try.prog tab lv20 [1,1,1,1,1,1,1,1,0,1,0] body20 [] (bodyK Try.prog Try.f20 [] R))) (mkEnv 100 [(5,.pointer s5),(7,.pointer s7),(9,.slice s9.a s9.n s9.c),(12,.int .i64 s12),(13,.int .i64 s13)] g) h=f20L2 J2 n2 s5 s7 s9 s12 s13 g h R:=by kernel_rfl
theorem f20I2_at (J:Nat→Option Addr→Option Addr→Sl→Int→Int→Hp→Prop) (n:Nat) (s5:Option Addr) (s7:Option Addr) (s9:Sl) (s12:Int) (s13:Int) (g:Nat→Value) (h:Hp):f20I2 J n (mkEnv 100 [(5,.pointer s5),(7,.pointer s7),(9,.slice s9.a s9.n s9.c),(12,.int .i64 s12),(13,.int .i64 s13)] g) h=J n s5 s7 s9 s12 s13 h:=by kernel_rfl
theorem f20L2_rule  {R:Value→Hp→Prop} {s5:Option Addr} {s7:Option Addr} {s9:Sl} {s12:Int} {s13:Int} {h0:Hp} (J:Nat→Option Addr→Option Addr→Sl→Int→Int→Hp→Prop) (n0:Nat) (hi:J n0 s5 s7 s9 s12 s13 h0)
  (hr:∀ n s5 s7 s9 s12 s13 g h,J n s5 s7 s9 s12 s13 h→f20L2  J n s5 s7 s9 s12 s13 g h R):LoopEv (evC Try.prog tab lv20 (sub [1,1,1,1,1,1,1,1,0,1,0,0] body20)) (contAt Try.prog tab lv20 [1,1,1,1,1,1,1,1,0,1,0] body20 [] (bodyK Try.prog Try.f20 [] R)) [(5,.pointer s5),(7,.pointer s7),(9,.slice s9.a s9.n s9.c),(12,.int .i64 s12),(13,.int .i64 s13)] 100 h0:=by
 refine ⟨f20I2 J,n0,fun g=>by rw [f20I2_at]; exact hi,fun n env h hI=>?_⟩
 clear hi
 clear s5 s7 s9 s12 s13
 obtain ⟨hlen,hI⟩:=Cond_true' hI
 have hlen:env.length=100:=by simpa using hlen
 obtain ⟨s5,es5,hI⟩:=DecP.out hI
 obtain ⟨s7,es7,hI⟩:=DecP.out hI
 obtain ⟨s9,es9,hI⟩:=DecL.out hI
 obtain ⟨s12,es12,hI⟩:=DecI.out hI
 obtain ⟨s13,es13,hI⟩:=DecI.out hI
 rw [mkEnv_of (l:=[(5,.pointer s5),(7,.pointer s7),(9,.slice s9.a s9.n s9.c),(12,.int .i64 s12),(13,.int .i64 s13)]) hlen (by simp only [List.mem_cons,List.not_mem_nil,or_false,forall_eq_or_imp,forall_eq]; exact ⟨es5,es7,es9,es12,es13⟩)]
 rw [f20L2_eq]
 exact hr n s5 s7 s9 s12 s13 _ h hI
def f20L3 (J3:Nat→Option Addr→Option Addr→Sl→Int→Hp→Prop) (n3:Nat) (s5:Option Addr) (s7:Option Addr) (s9:Sl) (s15:Int) (g:Nat→Value) (h:Hp) (R:Value→Hp→Prop):Prop :=
 Cond (decide (s15 < (((s9.n:Nat):Int)))) ((0 ≤ s15∧s15 < ((s9.n:Nat):Int))∧PtrOk s9.a fun p91=>∃ t92:Sl,cell h (p91.add (s15.toNat * 1))=some (.slice t92.a t92.n t92.c)∧CallTo Try.prog 13 #[.pointer s7,.bool false,.slice t92.a t92.n t92.c] h fun r h9=>∃ t93:Int,r=.int .i64 t93∧CallTo Try.prog 11 #[.int .i64 t93] h9 fun r h10=>∃ t95:Int,r=.int .i64 t95∧Cond (t95 != (0:Int)) (R (.tuple #[.pointer none,.pointer none,.slice none 0 0]:Value) h10) (∃ m,m < n3∧J3 m s5 s7 s9 (IntKind.wrap .i64 (s15 + (1:Int))) h10)) (R (.tuple #[.pointer s5,.pointer s7,.slice s9.a s9.n s9.c]:Value) h)
theorem f20L3_eq (J3:Nat→Option Addr→Option Addr→Sl→Int→Hp→Prop) (n3:Nat) (s5:Option Addr) (s7:Option Addr) (s9:Sl) (s15:Int) (g:Nat→Value) (h:Hp) (R:Value→Hp→Prop):(evC Try.prog tab lv20 (sub [1,1,1,1,1,1,1,1,1,0,1,0,0] body20)) (loopK (f20I3 J3) n3 (contAt Try.prog tab lv20 [1,1,1,1,1,1,1,1,1,0,1,0] body20 [] (bodyK Try.prog Try.f20 [] R))) (mkEnv 100 [(5,.pointer s5),(7,.pointer s7),(9,.slice s9.a s9.n s9.c),(15,.int .i64 s15)] g) h=f20L3 J3 n3 s5 s7 s9 s15 g h R:=by kernel_rfl
theorem f20I3_at (J:Nat→Option Addr→Option Addr→Sl→Int→Hp→Prop) (n:Nat) (s5:Option Addr) (s7:Option Addr) (s9:Sl) (s15:Int) (g:Nat→Value) (h:Hp):f20I3 J n (mkEnv 100 [(5,.pointer s5),(7,.pointer s7),(9,.slice s9.a s9.n s9.c),(15,.int .i64 s15)] g) h=J n s5 s7 s9 s15 h:=by kernel_rfl
theorem f20L3_rule  {R:Value→Hp→Prop} {s5:Option Addr} {s7:Option Addr} {s9:Sl} {s15:Int} {h0:Hp} (J:Nat→Option Addr→Option Addr→Sl→Int→Hp→Prop) (n0:Nat) (hi:J n0 s5 s7 s9 s15 h0)
  (hr:∀ n s5 s7 s9 s15 g h,J n s5 s7 s9 s15 h→f20L3  J n s5 s7 s9 s15 g h R):LoopEv (evC Try.prog tab lv20 (sub [1,1,1,1,1,1,1,1,1,0,1,0,0] body20)) (contAt Try.prog tab lv20 [1,1,1,1,1,1,1,1,1,0,1,0] body20 [] (bodyK Try.prog Try.f20 [] R)) [(5,.pointer s5),(7,.pointer s7),(9,.slice s9.a s9.n s9.c),(15,.int .i64 s15)] 100 h0:=by
 refine ⟨f20I3 J,n0,fun g=>by rw [f20I3_at]; exact hi,fun n env h hI=>?_⟩
 clear hi
 clear s5 s7 s9 s15
 obtain ⟨hlen,hI⟩:=Cond_true' hI
 have hlen:env.length=100:=by simpa using hlen
 obtain ⟨s5,es5,hI⟩:=DecP.out hI
 obtain ⟨s7,es7,hI⟩:=DecP.out hI
 obtain ⟨s9,es9,hI⟩:=DecL.out hI
 obtain ⟨s15,es15,hI⟩:=DecI.out hI
 rw [mkEnv_of (l:=[(5,.pointer s5),(7,.pointer s7),(9,.slice s9.a s9.n s9.c),(15,.int .i64 s15)]) hlen (by simp only [List.mem_cons,List.not_mem_nil,or_false,forall_eq_or_imp,forall_eq]; exact ⟨es5,es7,es9,es15⟩)]
 rw [f20L3_eq]
 exact hr n s5 s7 s9 s15 _ h hI
def f20F (a0:Sl) (h:Hp) (R:Value→Hp→Prop):Prop :=
 CallTo Try.prog 9 #[.int .i64 1048576] h fun r h1=>∃ t18_0:Option Addr,∃ t18_1:Int,r=.tuple #[.pointer t18_0,.int .i64 t18_1]∧CallTo Try.prog 11 #[.int .i64 t18_1] h1 fun r h2=>∃ t22:Int,r=.int .i64 t22∧Cond (t22 != (0:Int)) (f20K1  a0 t18_0 true h2 R) (f20K1  a0 t18_0 (Option.isNone t18_0) h2 R)
theorem f20F_eq (a0:Sl) (h:Hp) (R:Value→Hp→Prop):evF Try.prog tab lv20 Try.f20 body20 [] [.slice a0.a a0.n a0.c] h R=f20F a0 h R:=by kernel_rfl
theorem f20F_ok {a0:Sl} {h:Hp} {R:Value→Hp→Prop} (hF:f20F a0 h R):CallTo Try.prog 20 #[.slice a0.a a0.n a0.c] h R :=
 callTo_of_ev (lv:=lv20) (hints:=[]) (c:=body20) (args:=[.slice a0.a a0.n a0.c]) mixed tab_ok Try.func20 (by kernel_rfl) (by kernel_rfl) (by rw [f20F_eq]; exact hF)
/- larder/larderlaw5.holds -/
noncomputable def body21:Code:=(Try.f21.body).getD .skip
def lv21 (m:Nat):List Nat:=if m=5 then [0,1,7] else []
def f21I1 (J:Nat→Option Addr→Sl→Int→Hp→Prop) (n:Nat) (env:List Value) (h:Hp):Prop:=lenIs env 69 (DecP env 0 fun s0=>DecL env 1 fun s1=>DecI .i64 env 7 fun s7=>J n s0 s1 s7 h)
def f21K1  (x0:Option Addr) (x1:Sl) (x34:Bool) (h:Hp) (R:Value→Hp→Prop):Prop :=
 Cond x34 (R (.bool false:Value) h) (LoopEv (evC Try.prog tab lv21 (sub [1,1,1,0,1,0,0] body21)) (contAt Try.prog tab lv21 [1,1,1,0,1,0] body21 [] (bodyK Try.prog Try.f21 [] R)) [(0,.pointer x0),(1,.slice x1.a x1.n x1.c),(7,.int .i64 0)] 69 h)
def f21L1 (J1:Nat→Option Addr→Sl→Int→Hp→Prop) (n1:Nat) (s0:Option Addr) (s1:Sl) (s7:Int) (g:Nat→Value) (h:Hp) (R:Value→Hp→Prop):Prop :=
 Cond (decide (s7 < (((s1.n:Nat):Int)))) (CallTo Try.prog 23 #[.pointer s0,.int .i64 s7] h fun r h3=>∃ t44_0:Sl,∃ t44_1:Int,r=.tuple #[.slice t44_0.a t44_0.n t44_0.c,.int .i64 t44_1]∧CallTo Try.prog 11 #[.int .i64 t44_1] h3 fun r h4=>∃ t48:Int,r=.int .i64 t48∧Cond (t48 != (0:Int)) (R (.bool false:Value) h4) ((0 ≤ s7∧s7 < ((s1.n:Nat):Int))∧PtrOk s1.a fun p54=>∃ t55:Sl,cell h4 (p54.add (s7.toNat * 1))=some (.slice t55.a t55.n t55.c)∧CallTo Try.prog 18 #[.slice t44_0.a t44_0.n t44_0.c,.slice t55.a t55.n t55.c] h4 fun r h5=>∃ t56:Bool,r=.bool t56∧Cond (!t56) (R (.bool false:Value) h5) (∃ m,m < n1∧J1 m s0 s1 (IntKind.wrap .i64 (s7 + (1:Int))) h5))) (CallTo Try.prog 23 #[.pointer s0,.int .i64 (((s1.n:Nat):Int))] h fun r h6=>∃ t63_0:Sl,∃ t63_1:Int,r=.tuple #[.slice t63_0.a t63_0.n t63_0.c,.int .i64 t63_1]∧CallTo Try.prog 11 #[.int .i64 t63_1] h6 fun r h7=>∃ t67:Int,r=.int .i64 t67∧R ((.bool (t67 == (52:Int)):Value)) h7)
theorem f21L1_eq (J1:Nat→Option Addr→Sl→Int→Hp→Prop) (n1:Nat) (s0:Option Addr) (s1:Sl) (s7:Int) (g:Nat→Value) (h:Hp) (R:Value→Hp→Prop):(evC Try.prog tab lv21 (sub [1,1,1,0,1,0,0] body21)) (loopK (f21I1 J1) n1 (contAt Try.prog tab lv21 [1,1,1,0,1,0] body21 [] (bodyK Try.prog Try.f21 [] R))) (mkEnv 69 [(0,.pointer s0),(1,.slice s1.a s1.n s1.c),(7,.int .i64 s7)] g) h=f21L1 J1 n1 s0 s1 s7 g h R:=by kernel_rfl
theorem f21I1_at (J:Nat→Option Addr→Sl→Int→Hp→Prop) (n:Nat) (s0:Option Addr) (s1:Sl) (s7:Int) (g:Nat→Value) (h:Hp):f21I1 J n (mkEnv 69 [(0,.pointer s0),(1,.slice s1.a s1.n s1.c),(7,.int .i64 s7)] g) h=J n s0 s1 s7 h:=by kernel_rfl
theorem f21L1_rule  {R:Value→Hp→Prop} {s0:Option Addr} {s1:Sl} {s7:Int} {h0:Hp} (J:Nat→Option Addr→Sl→Int→Hp→Prop) (n0:Nat) (hi:J n0 s0 s1 s7 h0)
  (hr:∀ n s0 s1 s7 g h,J n s0 s1 s7 h→f21L1  J n s0 s1 s7 g h R):LoopEv (evC Try.prog tab lv21 (sub [1,1,1,0,1,0,0] body21)) (contAt Try.prog tab lv21 [1,1,1,0,1,0] body21 [] (bodyK Try.prog Try.f21 [] R)) [(0,.pointer s0),(1,.slice s1.a s1.n s1.c),(7,.int .i64 s7)] 69 h0:=by
 refine ⟨f21I1 J,n0,fun g=>by rw [f21I1_at]; exact hi,fun n env h hI=>?_⟩
 clear hi
 clear s0 s1 s7
 obtain ⟨hlen,hI⟩:=Cond_true' hI
 have hlen:env.length=69:=by simpa using hlen
 obtain ⟨s0,es0,hI⟩:=DecP.out hI
 obtain ⟨s1,es1,hI⟩:=DecL.out hI
 obtain ⟨s7,es7,hI⟩:=DecI.out hI
 rw [mkEnv_of (l:=[(0,.pointer s0),(1,.slice s1.a s1.n s1.c),(7,.int .i64 s7)]) hlen (by simp only [List.mem_cons,List.not_mem_nil,or_false,forall_eq_or_imp,forall_eq]; exact ⟨es0,es1,es7⟩)]
 rw [f21L1_eq]
 exact hr n s0 s1 s7 _ h hI
def f21F (a0:Option Addr) (a1:Sl) (h:Hp) (R:Value→Hp→Prop):Prop :=
 CallTo Try.prog 15 #[.pointer a0,.int .i64 0,.int .i64 (((a1.n:Nat):Int))] h fun r h1=>∃ t16_0:Sl,∃ t16_1:Int,r=.tuple #[.slice t16_0.a t16_0.n t16_0.c,.int .i64 t16_1]∧CallTo Try.prog 11 #[.int .i64 t16_1] h1 fun r h2=>∃ t20:Int,r=.int .i64 t20∧Cond (t20 != (0:Int)) (f21K1  a0 a1 true h2 R) (CallTo Try.prog 16 #[.pointer a0] h2 fun r h8=>∃ t24:Int,r=.int .i64 t24∧Cond (t24 != (((a1.n:Nat):Int))) (f21K1  a0 a1 true h8 R) (CallTo Try.prog 30 #[.slice t16_0.a t16_0.n t16_0.c,.slice a1.a a1.n a1.c] h8 fun r h9=>∃ t32:Bool,r=.bool t32∧f21K1  a0 a1 (!t32) h9 R))
theorem f21F_eq (a0:Option Addr) (a1:Sl) (h:Hp) (R:Value→Hp→Prop):evF Try.prog tab lv21 Try.f21 body21 [] [.pointer a0,.slice a1.a a1.n a1.c] h R=f21F a0 a1 h R:=by kernel_rfl
theorem f21F_ok {a0:Option Addr} {a1:Sl} {h:Hp} {R:Value→Hp→Prop} (hF:f21F a0 a1 h R):CallTo Try.prog 21 #[.pointer a0,.slice a1.a a1.n a1.c] h R :=
 callTo_of_ev (lv:=lv21) (hints:=[]) (c:=body21) (args:=[.pointer a0,.slice a1.a a1.n a1.c]) mixed tab_ok Try.func21 (by kernel_rfl) (by kernel_rfl) (by rw [f21F_eq]; exact hF)
/- larder/larderlaw5.rest -/
noncomputable def body25:Code:=(Try.f25.body).getD .skip
def lv25 (m:Nat):List Nat:=if m=4 then [0,1,2,3,10,11,12] else if m=14 then [0,10,11,14,15] else []
def f25I1 (J:Nat→Sl→Bool→Int→Sl→Sl→Int→Int→Hp→Prop) (n:Nat) (env:List Value) (h:Hp):Prop:=lenIs env 71 (DecL env 0 fun s0=>DecB env 1 fun s1=>DecI .i64 env 2 fun s2=>DecL env 3 fun s3=>DecL env 10 fun s10=>DecI .i64 env 11 fun s11=>DecI .i64 env 12 fun s12=>J n s0 s1 s2 s3 s10 s11 s12 h)
def f25I2 (J:Nat→Sl→Sl→Int→Sl→Int→Hp→Prop) (n:Nat) (env:List Value) (h:Hp):Prop:=lenIs env 71 (DecL env 0 fun s0=>DecL env 10 fun s10=>DecI .i64 env 11 fun s11=>DecL env 14 fun s14=>DecI .i64 env 15 fun s15=>J n s0 s10 s11 s14 s15 h)
def f25K3 (J1:Nat→Sl→Bool→Int→Sl→Sl→Int→Int→Hp→Prop) (n1:Nat) (x0:Sl) (x1:Bool) (x2:Int) (x3:Sl) (x10:Sl) (x11:Int) (x12:Int) (h:Hp) (R:Value→Hp→Prop):Prop :=
 ∃ m,m < n1∧J1 m x0 x1 x2 x3 x10 x11 (IntKind.wrap .i64 (x12 + (1:Int))) h
def f25K2 (J1:Nat→Sl→Bool→Int→Sl→Sl→Int→Int→Hp→Prop) (n1:Nat) (x0:Sl) (x1:Bool) (x2:Int) (x3:Sl) (x10:Sl) (x11:Int) (x12:Int) (x13:Int) (x45:Bool) (h:Hp) (R:Value→Hp→Prop):Prop :=
 Cond x45 ((0 ≤ x13∧x13 < ((x10.n:Nat):Int))∧PtrOk x10.a fun p48=>stOk h (p48.add (x13.toNat * 1))∧Let (setc h (p48.add (x13.toNat * 1)) (.bool true)) fun h2=>f25K3 J1 n1 x0 x1 x2 x3 x10 (IntKind.wrap .i64 (x11 + (1:Int))) x12 h2 R) (f25K3 J1 n1 x0 x1 x2 x3 x10 x11 x12 h R)
def f25K1 (J1:Nat→Sl→Bool→Int→Sl→Sl→Int→Int→Hp→Prop) (n1:Nat) (x0:Sl) (x1:Bool) (x2:Int) (x3:Sl) (x10:Sl) (x11:Int) (x12:Int) (x13:Int) (h:Hp) (R:Value→Hp→Prop):Prop :=
 Cond (decide (x11 < x2)) ((0 ≤ x13∧x13 < ((x0.n:Nat):Int))∧PtrOk x0.a fun p39=>∃ t40:Sl,cell h (p39.add (x13.toNat * 1))=some (.slice t40.a t40.n t40.c)∧∃ t41:ByteArray,Spells h t40.a t40.n t41∧∃ t43:ByteArray,Spells h x3.a x3.n t43∧f25K2 J1 n1 x0 x1 x2 x3 x10 x11 x12 x13 ((ByteArray.toList t41) == (ByteArray.toList t43)) h R) (f25K2 J1 n1 x0 x1 x2 x3 x10 x11 x12 x13 false h R)
def f25K4 (J2:Nat→Sl→Sl→Int→Sl→Int→Hp→Prop) (n2:Nat) (x0:Sl) (x10:Sl) (x11:Int) (x14:Sl) (x15:Int) (h:Hp) (R:Value→Hp→Prop):Prop :=
 ∃ m,m < n2∧J2 m x0 x10 x11 x14 (IntKind.wrap .i64 (x15 + (1:Int))) h
def f25L1 (J1:Nat→Sl→Bool→Int→Sl→Sl→Int→Int→Hp→Prop) (n1:Nat) (s0:Sl) (s1:Bool) (s2:Int) (s3:Sl) (s10:Sl) (s11:Int) (s12:Int) (g:Nat→Value) (h:Hp) (R:Value→Hp→Prop):Prop :=
 Cond (decide (s12 < (((s0.n:Nat):Int)))) (Cond (!s1) (f25K1 J1 n1 s0 s1 s2 s3 s10 s11 s12 (IntKind.wrap .i64 ((IntKind.wrap .i64 ((((s0.n:Nat):Int)) - (1:Int))) - s12)) h R) (f25K1 J1 n1 s0 s1 s2 s3 s10 s11 s12 s12 h R)) (LoopEv (evC Try.prog tab lv25 (sub [1,1,1,1,1,0,1,0,0] body25)) (contAt Try.prog tab lv25 [1,1,1,1,1,0,1,0] body25 [] (bodyK Try.prog Try.f25 [] R)) [(0,.slice s0.a s0.n s0.c),(10,.slice s10.a s10.n s10.c),(11,.int .i64 s11),(14,.slice none 0 0),(15,.int .i64 0)] 71 h)
theorem f25L1_eq (J1:Nat→Sl→Bool→Int→Sl→Sl→Int→Int→Hp→Prop) (n1:Nat) (s0:Sl) (s1:Bool) (s2:Int) (s3:Sl) (s10:Sl) (s11:Int) (s12:Int) (g:Nat→Value) (h:Hp) (R:Value→Hp→Prop):(evC Try.prog tab lv25 (sub [1,1,1,0,1,0,0] body25)) (loopK (f25I1 J1) n1 (contAt Try.prog tab lv25 [1,1,1,0,1,0] body25 [] (bodyK Try.prog Try.f25 [] R))) (mkEnv 71 [(0,.slice s0.a s0.n s0.c),(1,.bool s1),(2,.int .i64 s2),(3,.slice s3.a s3.n s3.c),(10,.slice s10.a s10.n s10.c),(11,.int .i64 s11),(12,.int .i64 s12)] g) h=f25L1 J1 n1 s0 s1 s2 s3 s10 s11 s12 g h R:=by kernel_rfl
theorem f25I1_at (J:Nat→Sl→Bool→Int→Sl→Sl→Int→Int→Hp→Prop) (n:Nat) (s0:Sl) (s1:Bool) (s2:Int) (s3:Sl) (s10:Sl) (s11:Int) (s12:Int) (g:Nat→Value) (h:Hp):f25I1 J n (mkEnv 71 [(0,.slice s0.a s0.n s0.c),(1,.bool s1),(2,.int .i64 s2),(3,.slice s3.a s3.n s3.c),(10,.slice s10.a s10.n s10.c),(11,.int .i64 s11),(12,.int .i64 s12)] g) h=J n s0 s1 s2 s3 s10 s11 s12 h:=by kernel_rfl
theorem f25L1_rule  {R:Value→Hp→Prop} {s0:Sl} {s1:Bool} {s2:Int} {s3:Sl} {s10:Sl} {s11:Int} {s12:Int} {h0:Hp} (J:Nat→Sl→Bool→Int→Sl→Sl→Int→Int→Hp→Prop) (n0:Nat) (hi:J n0 s0 s1 s2 s3 s10 s11 s12 h0)
  (hr:∀ n s0 s1 s2 s3 s10 s11 s12 g h,J n s0 s1 s2 s3 s10 s11 s12 h→f25L1  J n s0 s1 s2 s3 s10 s11 s12 g h R):LoopEv (evC Try.prog tab lv25 (sub [1,1,1,0,1,0,0] body25)) (contAt Try.prog tab lv25 [1,1,1,0,1,0] body25 [] (bodyK Try.prog Try.f25 [] R)) [(0,.slice s0.a s0.n s0.c),(1,.bool s1),(2,.int .i64 s2),(3,.slice s3.a s3.n s3.c),(10,.slice s10.a s10.n s10.c),(11,.int .i64 s11),(12,.int .i64 s12)] 71 h0:=by
 refine ⟨f25I1 J,n0,fun g=>by rw [f25I1_at]; exact hi,fun n env h hI=>?_⟩
 clear hi
 clear s0 s1 s2 s3 s10 s11 s12
 obtain ⟨hlen,hI⟩:=Cond_true' hI
 have hlen:env.length=71:=by simpa using hlen
 obtain ⟨s0,es0,hI⟩:=DecL.out hI
 obtain ⟨s1,es1,hI⟩:=DecB.out hI
 obtain ⟨s2,es2,hI⟩:=DecI.out hI
 obtain ⟨s3,es3,hI⟩:=DecL.out hI
 obtain ⟨s10,es10,hI⟩:=DecL.out hI
 obtain ⟨s11,es11,hI⟩:=DecI.out hI
 obtain ⟨s12,es12,hI⟩:=DecI.out hI
 rw [mkEnv_of (l:=[(0,.slice s0.a s0.n s0.c),(1,.bool s1),(2,.int .i64 s2),(3,.slice s3.a s3.n s3.c),(10,.slice s10.a s10.n s10.c),(11,.int .i64 s11),(12,.int .i64 s12)]) hlen (by simp only [List.mem_cons,List.not_mem_nil,or_false,forall_eq_or_imp,forall_eq]; exact ⟨es0,es1,es2,es3,es10,es11,es12⟩)]
 rw [f25L1_eq]
 exact hr n s0 s1 s2 s3 s10 s11 s12 _ h hI
def f25L2 (J2:Nat→Sl→Sl→Int→Sl→Int→Hp→Prop) (n2:Nat) (s0:Sl) (s10:Sl) (s11:Int) (s14:Sl) (s15:Int) (g:Nat→Value) (h:Hp) (R:Value→Hp→Prop):Prop :=
 Cond (decide (s15 < (((s0.n:Nat):Int)))) ((0 ≤ s15∧s15 < ((s10.n:Nat):Int))∧PtrOk s10.a fun p59=>∃ t60:Bool,cell h (p59.add (s15.toNat * 1))=some (.bool t60)∧Cond (!t60) ((0 ≤ s15∧s15 < ((s0.n:Nat):Int))∧PtrOk s0.a fun p65=>∃ t66:Sl,cell h (p65.add (s15.toNat * 1))=some (.slice t66.a t66.n t66.c)∧Let (h.push (.cells #[.slice t66.a t66.n t66.c] 23)) fun h3=>appSl 23 1 24 #[.slice none 0 0] s14.a s14.n s14.c (some (nb h)) 1 h3 fun ra4 rn4 rc4 h4=>f25K4 J2 n2 s0 s10 s11 ⟨ra4,rn4,rc4⟩ s15 h4 R) (f25K4 J2 n2 s0 s10 s11 s14 s15 h R)) (R (.tuple #[.slice s14.a s14.n s14.c,.int .i64 s11]:Value) h)
theorem f25L2_eq (J2:Nat→Sl→Sl→Int→Sl→Int→Hp→Prop) (n2:Nat) (s0:Sl) (s10:Sl) (s11:Int) (s14:Sl) (s15:Int) (g:Nat→Value) (h:Hp) (R:Value→Hp→Prop):(evC Try.prog tab lv25 (sub [1,1,1,1,1,0,1,0,0] body25)) (loopK (f25I2 J2) n2 (contAt Try.prog tab lv25 [1,1,1,1,1,0,1,0] body25 [] (bodyK Try.prog Try.f25 [] R))) (mkEnv 71 [(0,.slice s0.a s0.n s0.c),(10,.slice s10.a s10.n s10.c),(11,.int .i64 s11),(14,.slice s14.a s14.n s14.c),(15,.int .i64 s15)] g) h=f25L2 J2 n2 s0 s10 s11 s14 s15 g h R:=by kernel_rfl
theorem f25I2_at (J:Nat→Sl→Sl→Int→Sl→Int→Hp→Prop) (n:Nat) (s0:Sl) (s10:Sl) (s11:Int) (s14:Sl) (s15:Int) (g:Nat→Value) (h:Hp):f25I2 J n (mkEnv 71 [(0,.slice s0.a s0.n s0.c),(10,.slice s10.a s10.n s10.c),(11,.int .i64 s11),(14,.slice s14.a s14.n s14.c),(15,.int .i64 s15)] g) h=J n s0 s10 s11 s14 s15 h:=by kernel_rfl
theorem f25L2_rule  {R:Value→Hp→Prop} {s0:Sl} {s10:Sl} {s11:Int} {s14:Sl} {s15:Int} {h0:Hp} (J:Nat→Sl→Sl→Int→Sl→Int→Hp→Prop) (n0:Nat) (hi:J n0 s0 s10 s11 s14 s15 h0)
  (hr:∀ n s0 s10 s11 s14 s15 g h,J n s0 s10 s11 s14 s15 h→f25L2  J n s0 s10 s11 s14 s15 g h R):LoopEv (evC Try.prog tab lv25 (sub [1,1,1,1,1,0,1,0,0] body25)) (contAt Try.prog tab lv25 [1,1,1,1,1,0,1,0] body25 [] (bodyK Try.prog Try.f25 [] R)) [(0,.slice s0.a s0.n s0.c),(10,.slice s10.a s10.n s10.c),(11,.int .i64 s11),(14,.slice s14.a s14.n s14.c),(15,.int .i64 s15)] 71 h0:=by
 refine ⟨f25I2 J,n0,fun g=>by rw [f25I2_at]; exact hi,fun n env h hI=>?_⟩
 clear hi
 clear s0 s10 s11 s14 s15
 obtain ⟨hlen,hI⟩:=Cond_true' hI
 have hlen:env.length=71:=by simpa using hlen
 obtain ⟨s0,es0,hI⟩:=DecL.out hI
 obtain ⟨s10,es10,hI⟩:=DecL.out hI
 obtain ⟨s11,es11,hI⟩:=DecI.out hI
 obtain ⟨s14,es14,hI⟩:=DecL.out hI
 obtain ⟨s15,es15,hI⟩:=DecI.out hI
 rw [mkEnv_of (l:=[(0,.slice s0.a s0.n s0.c),(10,.slice s10.a s10.n s10.c),(11,.int .i64 s11),(14,.slice s14.a s14.n s14.c),(15,.int .i64 s15)]) hlen (by simp only [List.mem_cons,List.not_mem_nil,or_false,forall_eq_or_imp,forall_eq]; exact ⟨es0,es10,es11,es14,es15⟩)]
 rw [f25L2_eq]
 exact hr n s0 s10 s11 s14 s15 _ h hI
def f25F (a0:Sl) (a1:Bool) (a2:Int) (a3:Sl) (h:Hp) (R:Value→Hp→Prop):Prop :=
 (0 ≤ (((a0.n:Nat):Int))∧(((a0.n:Nat):Int)) ≤ (((a0.n:Nat):Int)))∧(((a0.n:Nat):Int)) < 2 ^ 62∧(1:Nat) * (((a0.n:Nat):Int)) ≤ 2 ^ 48∧Let (h.push (.cells (zrow #[.bool false] ((((a0.n:Nat):Int)).toNat * 1)) 4)) fun h1=>LoopEv (evC Try.prog tab lv25 (sub [1,1,1,0,1,0,0] body25)) (contAt Try.prog tab lv25 [1,1,1,0,1,0] body25 [] (bodyK Try.prog Try.f25 [] R)) [(0,.slice a0.a a0.n a0.c),(1,.bool a1),(2,.int .i64 a2),(3,.slice a3.a a3.n a3.c),(10,.slice (some (nb h)) ((((a0.n:Nat):Int)).toNat) ((((a0.n:Nat):Int)).toNat)),(11,.int .i64 0),(12,.int .i64 0)] 71 h1
theorem f25F_eq (a0:Sl) (a1:Bool) (a2:Int) (a3:Sl) (h:Hp) (R:Value→Hp→Prop):evF Try.prog tab lv25 Try.f25 body25 [] [.slice a0.a a0.n a0.c,.bool a1,.int .i64 a2,.slice a3.a a3.n a3.c] h R=f25F a0 a1 a2 a3 h R:=by kernel_rfl
theorem f25F_ok {a0:Sl} {a1:Bool} {a2:Int} {a3:Sl} {h:Hp} {R:Value→Hp→Prop} (hF:f25F a0 a1 a2 a3 h R):CallTo Try.prog 25 #[.slice a0.a a0.n a0.c,.bool a1,.int .i64 a2,.slice a3.a a3.n a3.c] h R :=
 callTo_of_ev (lv:=lv25) (hints:=[]) (c:=body25) (args:=[.slice a0.a a0.n a0.c,.bool a1,.int .i64 a2,.slice a3.a a3.n a3.c]) mixed tab_ok Try.func25 (by kernel_rfl) (by kernel_rfl) (by rw [f25F_eq]; exact hF)
end Go.Ev
