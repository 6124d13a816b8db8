/- Printed by a program (own work) out of the loaded functions: what each says of the heap, and that the evaluator says the same / The outright statements' helpers: into, at, made, waste, Eq / The outright statements' helpers on lists: num, within, lists of bytes in memory, Eq, EqLists, holds. No condition but that these are ones. -/
import Derived.Test.YtngcoodbepbhbaaS4
import Derived.Test.YtngcoodbepbhbaaS19
import Derived.Test.YtngcoodbepbhbaaS15
set_option linter.all false
set_option maxRecDepth 100000
namespace Go.Ev
open Go.Proofs
/- larder/larderlaw5.ChainFull -/
def lv3 (m:Nat):List Nat:=if m=12 then [1,3,5,7,8,9] else if m=15 then [1,3,5,7,8,9,10] else if m=27 then [1,3,5,7,8,9,10,13,15] else []
/- larder/larderlaw5.ChainTurns -/
/- larder/larderlaw5.ChainStrikes -/
/- larder/larderlaw5.ChainGreat -/
/- larder/larderlaw5.ChainShaken -/
noncomputable def body7:Code:=(Try.f7.body).getD .skip
def lv7 (m:Nat):List Nat:=if m=7 then [1,3,4,5,7,9] else if m=23 then [1,3,4,5,7,14,15] else if m=40 then [3,4,5,7,21] else []
def f7I1 (J:Nat→Addr→Addr→Addr→Option Addr→Option Addr→Int→Hp→Prop) (n:Nat) (env:List Value) (h:Hp):Prop:=lenIs env 232 (DecA env 1 fun s1=>DecA env 3 fun s3=>DecA env 4 fun s4=>DecP env 5 fun s5=>DecP env 7 fun s7=>DecI .i64 env 9 fun s9=>J n s1 s3 s4 s5 s7 s9 h)
def f7I2 (J:Nat→Addr→Addr→Addr→Option Addr→Option Addr→Int→Int→Hp→Prop) (n:Nat) (env:List Value) (h:Hp):Prop:=lenIs env 232 (DecA env 1 fun s1=>DecA env 3 fun s3=>DecA env 4 fun s4=>DecP env 5 fun s5=>DecP env 7 fun s7=>DecI .i64 env 14 fun s14=>DecI .i64 env 15 fun s15=>J n s1 s3 s4 s5 s7 s14 s15 h)
def f7I3 (J:Nat→Addr→Addr→Option Addr→Option Addr→Int→Hp→Prop) (n:Nat) (env:List Value) (h:Hp):Prop:=lenIs env 232 (DecA env 3 fun s3=>DecA env 4 fun s4=>DecP env 5 fun s5=>DecP env 7 fun s7=>DecI .i64 env 21 fun s21=>J n s3 s4 s5 s7 s21 h)
def f7K1  (x1:Addr) (x3:Addr) (x4:Addr) (x5:Option Addr) (x7:Option Addr) (x50:Bool) (h:Hp) (R:Value→Hp→Prop):Prop :=
 Cond x50 (R (.bool false:Value) h) (LoopEv (evC Try.prog tab lv7 (sub [1,1,1,1,1,0,1,0,0] body7)) (contAt Try.prog tab lv7 [1,1,1,1,1,0,1,0] body7 [] (bodyK Try.prog Try.f7 [] R)) [(1,.pointer (some x1)),(3,.pointer (some x3)),(4,.pointer (some x4)),(5,.pointer x5),(7,.pointer x7),(9,.int .i64 0)] 232 h)
def f7L1 (J1:Nat→Addr→Addr→Addr→Option Addr→Option Addr→Int→Hp→Prop) (n1:Nat) (s1:Addr) (s3:Addr) (s4:Addr) (s5:Option Addr) (s7:Option Addr) (s9:Int) (g:Nat→Value) (h:Hp) (R:Value→Hp→Prop):Prop :=
 Cond (decide (s9 < (2:Int))) (CallTo Try.prog 12 #[.pointer s5] h fun r h7=>∃ t57_0:Option Addr,∃ t57_1:Int,r=.tuple #[.pointer t57_0,.int .i64 t57_1]∧CallTo Try.prog 12 #[.pointer s7] h7 fun r h8=>∃ t62_0:Option Addr,∃ t62_1:Int,r=.tuple #[.pointer t62_0,.int .i64 t62_1]∧(0 ≤ s9∧s9 < ((2:Nat):Int))∧stOk h8 (s3.add (s9.toNat * 1))∧Let (setc h8 (s3.add (s9.toNat * 1)) (.pointer t57_0)) fun h9=>(0 ≤ s9∧s9 < ((2:Nat):Int))∧stOk h9 (s4.add (s9.toNat * 1))∧Let (setc h9 (s4.add (s9.toNat * 1)) (.pointer t62_0)) fun h10=>CallTo Try.prog 11 #[.int .i64 t57_1] h10 fun r h11=>∃ t74:Int,r=.int .i64 t74∧Cond (t74 != (0:Int)) (R (.bool false:Value) h11) (CallTo Try.prog 11 #[.int .i64 t62_1] h11 fun r h12=>∃ t78:Int,r=.int .i64 t78∧Cond (t78 != (0:Int)) (R (.bool false:Value) h12) ((0 ≤ s9∧s9 < ((2:Nat):Int))∧∃ t84:Option Addr,cell h12 (s3.add (s9.toNat * 1))=some (.pointer t84)∧Cond (Option.isNone t84) (R (.bool false:Value) h12) ((0 ≤ s9∧s9 < ((2:Nat):Int))∧∃ t90:Option Addr,cell h12 (s4.add (s9.toNat * 1))=some (.pointer t90)∧Cond (Option.isNone t90) (R (.bool false:Value) h12) ((0 ≤ s9∧s9 < ((2:Nat):Int))∧∃ t95:Option Addr,cell h12 (s3.add (s9.toNat * 1))=some (.pointer t95)∧Let (h12.push (.cells #[.int .u8 (IntKind.wrap .u8 s9)] 5)) fun h13=>CallTo Try.prog 13 #[.pointer t95,.bool true,.slice (some (nb h12)) 1 1] h13 fun r h14=>∃ t99:Int,r=.int .i64 t99∧(0 ≤ s9∧s9 < ((2:Nat):Int))∧∃ t102:Option Addr,cell h14 (s4.add (s9.toNat * 1))=some (.pointer t102)∧Let (h14.push (.cells #[.int .u8 (IntKind.wrap .u8 s9)] 5)) fun h15=>CallTo Try.prog 13 #[.pointer t102,.bool true,.slice (some (nb h14)) 1 1] h15 fun r h16=>∃ t106:Int,r=.int .i64 t106∧CallTo Try.prog 11 #[.int .i64 t106] h16 fun r h17=>∃ t108:Int,r=.int .i64 t108∧Cond (t108 != (0:Int)) (R (.bool false:Value) h17) (CallTo Try.prog 11 #[.int .i64 t99] h17 fun r h18=>∃ t112:Int,r=.int .i64 t112∧Cond (t112 != (0:Int)) (R (.bool false:Value) h18) (∃ m,m < n1∧J1 m s1 s3 s4 s5 s7 (IntKind.wrap .i64 (s9 + (1:Int))) h18))))))) (LoopEv (evC Try.prog tab lv7 (sub [1,1,1,1,1,1,1,0,1,0,0] body7)) (contAt Try.prog tab lv7 [1,1,1,1,1,1,1,0,1,0] body7 [] (bodyK Try.prog Try.f7 [] R)) [(1,.pointer (some s1)),(3,.pointer (some s3)),(4,.pointer (some s4)),(5,.pointer s5),(7,.pointer s7),(14,.int .i64 0),(15,.int .i64 0)] 232 h)
theorem f7L1_eq (J1:Nat→Addr→Addr→Addr→Option Addr→Option Addr→Int→Hp→Prop) (n1:Nat) (s1:Addr) (s3:Addr) (s4:Addr) (s5:Option Addr) (s7:Option Addr) (s9:Int) (g:Nat→Value) (h:Hp) (R:Value→Hp→Prop):(evC Try.prog tab lv7 (sub [1,1,1,1,1,0,1,0,0] body7)) (loopK (f7I1 J1) n1 (contAt Try.prog tab lv7 [1,1,1,1,1,0,1,0] body7 [] (bodyK Try.prog Try.f7 [] R))) (mkEnv 232 [(1,.pointer (some s1)),(3,.pointer (some s3)),(4,.pointer (some s4)),(5,.pointer s5),(7,.pointer s7),(9,.int .i64 s9)] g) h=f7L1 J1 n1 s1 s3 s4 s5 s7 s9 g h R:=by kernel_rfl
theorem f7I1_at (J:Nat→Addr→Addr→Addr→Option Addr→Option Addr→Int→Hp→Prop) (n:Nat) (s1:Addr) (s3:Addr) (s4:Addr) (s5:Option Addr) (s7:Option Addr) (s9:Int) (g:Nat→Value) (h:Hp):f7I1 J n (mkEnv 232 [(1,.pointer (some s1)),(3,.pointer (some s3)),(4,.pointer (some s4)),(5,.pointer s5),(7,.pointer s7),(9,.int .i64 s9)] g) h=J n s1 s3 s4 s5 s7 s9 h:=by kernel_rfl
theorem f7L1_rule  {R:Value→Hp→Prop} {s1:Addr} {s3:Addr} {s4:Addr} {s5:Option Addr} {s7:Option Addr} {s9:Int} {h0:Hp} (J:Nat→Addr→Addr→Addr→Option Addr→Option Addr→Int→Hp→Prop) (n0:Nat) (hi:J n0 s1 s3 s4 s5 s7 s9 h0)
  (hr:∀ n s1 s3 s4 s5 s7 s9 g h,J n s1 s3 s4 s5 s7 s9 h→f7L1  J n s1 s3 s4 s5 s7 s9 g h R):LoopEv (evC Try.prog tab lv7 (sub [1,1,1,1,1,0,1,0,0] body7)) (contAt Try.prog tab lv7 [1,1,1,1,1,0,1,0] body7 [] (bodyK Try.prog Try.f7 [] R)) [(1,.pointer (some s1)),(3,.pointer (some s3)),(4,.pointer (some s4)),(5,.pointer s5),(7,.pointer s7),(9,.int .i64 s9)] 232 h0:=by
 refine ⟨f7I1 J,n0,fun g=>by rw [f7I1_at]; exact hi,fun n env h hI=>?_⟩
 clear hi
 clear s1 s3 s4 s5 s7 s9
 obtain ⟨hlen,hI⟩:=Cond_true' hI
 have hlen:env.length=232:=by simpa using hlen
 obtain ⟨s1,es1,hI⟩:=DecA.out hI
 obtain ⟨s3,es3,hI⟩:=DecA.out hI
 obtain ⟨s4,es4,hI⟩:=DecA.out hI
 obtain ⟨s5,es5,hI⟩:=DecP.out hI
 obtain ⟨s7,es7,hI⟩:=DecP.out hI
 obtain ⟨s9,es9,hI⟩:=DecI.out hI
 rw [mkEnv_of (l:=[(1,.pointer (some s1)),(3,.pointer (some s3)),(4,.pointer (some s4)),(5,.pointer s5),(7,.pointer s7),(9,.int .i64 s9)]) hlen (by simp only [List.mem_cons,List.not_mem_nil,or_false,forall_eq_or_imp,forall_eq]; exact ⟨es1,es3,es4,es5,es7,es9⟩)]
 rw [f7L1_eq]
 exact hr n s1 s3 s4 s5 s7 s9 _ h hI
def f7L2 (J2:Nat→Addr→Addr→Addr→Option Addr→Option Addr→Int→Int→Hp→Prop) (n2:Nat) (s1:Addr) (s3:Addr) (s4:Addr) (s5:Option Addr) (s7:Option Addr) (s14:Int) (s15:Int) (g:Nat→Value) (h:Hp) (R:Value→Hp→Prop):Prop :=
 ∃ t117:Sl,cell h s1=some (.slice t117.a t117.n t117.c)∧Cond (decide (s15 < (((t117.n:Nat):Int)))) (Cond (decide (s15 < (4096:Int))) (∃ t127:Sl,cell h s1=some (.slice t127.a t127.n t127.c)∧(0 ≤ s15∧s15 < ((t127.n:Nat):Int))∧PtrOk t127.a fun p129=>∃ t130_0:Int,cell h (p129.add (s15.toNat * 7))=some (.int .i64 t130_0)∧∃ t130_1:Int,cell h ((p129.add (s15.toNat * 7)).add 1)=some (.int .i64 t130_1)∧∃ t130_2:Int,cell h ((p129.add (s15.toNat * 7)).add 2)=some (.int .i64 t130_2)∧∃ t130_3:Bool,cell h ((p129.add (s15.toNat * 7)).add 3)=some (.bool t130_3)∧∃ t130_4:Int,cell h ((p129.add (s15.toNat * 7)).add 4)=some (.int .i64 t130_4)∧∃ t130_5:Int,cell h ((p129.add (s15.toNat * 7)).add 5)=some (.int .i64 t130_5)∧∃ t130_6:Sl,cell h ((p129.add (s15.toNat * 7)).add 6)=some (.slice t130_6.a t130_6.n t130_6.c)∧Let (h.push (.cells #[.int .i64 0,.int .i64 0,.int .i64 0,.bool false,.int .i64 0,.int .i64 0,.slice none 0 0] 68)) fun h19=>stOk h19 (nb h)∧Let (setc h19 (nb h) (.int .i64 t130_0)) fun h20=>stOk h20 ((nb h).add 1)∧Let (setc h20 ((nb h).add 1) (.int .i64 t130_1)) fun h21=>stOk h21 ((nb h).add 2)∧Let (setc h21 ((nb h).add 2) (.int .i64 t130_2)) fun h22=>stOk h22 ((nb h).add 3)∧Let (setc h22 ((nb h).add 3) (.bool t130_3)) fun h23=>stOk h23 ((nb h).add 4)∧Let (setc h23 ((nb h).add 4) (.int .i64 t130_4)) fun h24=>stOk h24 ((nb h).add 5)∧Let (setc h24 ((nb h).add 5) (.int .i64 t130_5)) fun h25=>stOk h25 ((nb h).add 6)∧Let (setc h25 ((nb h).add 6) (.slice t130_6.a t130_6.n t130_6.c)) fun h26=>∃ t134:Sl,cell h26 ((nb h).add 6)=some (.slice t134.a t134.n t134.c)∧(8:Int) ≠ 0∧Cond (decide ((IntKind.wrap .i64 ((IntKind.wrap .i64 (s14 + (16:Int))) + (IntKind.wrap .i64 (Int.tdiv (((t134.n:Nat):Int)) (8:Int))))) > (131072:Int))) (LoopEv (evC Try.prog tab lv7 (sub [1,1,1,1,1,1,1,1,0,1,0,0] body7)) (contAt Try.prog tab lv7 [1,1,1,1,1,1,1,1,0,1,0] body7 [] (bodyK Try.prog Try.f7 [] R)) [(3,.pointer (some s3)),(4,.pointer (some s4)),(5,.pointer s5),(7,.pointer s7),(21,.int .i64 0)] 232 h26) (∃ t142:Sl,cell h26 (s1.add 1)=some (.slice t142.a t142.n t142.c)∧Cond (decide (s15 < (((t142.n:Nat):Int)))) (∃ t146:Sl,cell h26 (s1.add 1)=some (.slice t146.a t146.n t146.c)∧(0 ≤ s15∧s15 < ((t146.n:Nat):Int))∧PtrOk t146.a fun p148=>∃ t149:Int,cell h26 (p148.add (s15.toNat * 1))=some (.int .i64 t149)∧Cond (decide (t149 < (0:Int))) (CallTo Try.prog 31 #[.pointer s7] h26 fun r h36=>r=.tuple #[]∧∃ t160:Int,cell h36 ((nb h).add 1)=some (.int .i64 t160)∧CallTo Try.prog 10 #[.int .i64 t160,.int .i64 2] h36 fun r h37=>∃ t161:Int,r=.int .i64 t161∧(0 ≤ t161∧t161 < ((2:Nat):Int))∧∃ t164:Option Addr,cell h37 (s3.add (t161.toNat * 1))=some (.pointer t164)∧∃ t165_0:Int,cell h37 (nb h)=some (.int .i64 t165_0)∧∃ t165_1:Int,cell h37 ((nb h).add 1)=some (.int .i64 t165_1)∧∃ t165_2:Int,cell h37 ((nb h).add 2)=some (.int .i64 t165_2)∧∃ t165_3:Bool,cell h37 ((nb h).add 3)=some (.bool t165_3)∧∃ t165_4:Int,cell h37 ((nb h).add 4)=some (.int .i64 t165_4)∧∃ t165_5:Int,cell h37 ((nb h).add 5)=some (.int .i64 t165_5)∧∃ t165_6:Sl,cell h37 ((nb h).add 6)=some (.slice t165_6.a t165_6.n t165_6.c)∧CallTo Try.prog 33 #[.pointer t164,.agg #[.int .i64 t165_0,.int .i64 t165_1,.int .i64 t165_2,.bool t165_3,.int .i64 t165_4,.int .i64 t165_5,.slice t165_6.a t165_6.n t165_6.c]] h37 fun r h38=>∃ t166:Sl,r=.slice t166.a t166.n t166.c∧(0 ≤ t161∧t161 < ((2:Nat):Int))∧∃ t169:Option Addr,cell h38 (s4.add (t161.toNat * 1))=some (.pointer t169)∧∃ t170_0:Int,cell h38 (nb h)=some (.int .i64 t170_0)∧∃ t170_1:Int,cell h38 ((nb h).add 1)=some (.int .i64 t170_1)∧∃ t170_2:Int,cell h38 ((nb h).add 2)=some (.int .i64 t170_2)∧∃ t170_3:Bool,cell h38 ((nb h).add 3)=some (.bool t170_3)∧∃ t170_4:Int,cell h38 ((nb h).add 4)=some (.int .i64 t170_4)∧∃ t170_5:Int,cell h38 ((nb h).add 5)=some (.int .i64 t170_5)∧∃ t170_6:Sl,cell h38 ((nb h).add 6)=some (.slice t170_6.a t170_6.n t170_6.c)∧CallTo Try.prog 33 #[.pointer t169,.agg #[.int .i64 t170_0,.int .i64 t170_1,.int .i64 t170_2,.bool t170_3,.int .i64 t170_4,.int .i64 t170_5,.slice t170_6.a t170_6.n t170_6.c]] h38 fun r h39=>∃ t171:Sl,r=.slice t171.a t171.n t171.c∧CallTo Try.prog 18 #[.slice t166.a t166.n t166.c,.slice t171.a t171.n t171.c] h39 fun r h40=>∃ t174:Bool,r=.bool t174∧Cond (!t174) (R (.bool false:Value) h40) (∃ m,m < n2∧J2 m s1 s3 s4 s5 s7 (IntKind.wrap .i64 ((IntKind.wrap .i64 (s14 + (16:Int))) + (IntKind.wrap .i64 (Int.tdiv (((t134.n:Nat):Int)) (8:Int))))) (IntKind.wrap .i64 (s15 + (1:Int))) h40)) ((5000:Int) ≠ 0∧CallTo Try.prog 32 #[.pointer s7,.int .i64 (IntKind.wrap .i64 ((64:Int) + (Int.tmod t149 (5000:Int))))] h26 fun r h41=>∃ t158:Int,r=.int .i64 t158∧∃ t160:Int,cell h41 ((nb h).add 1)=some (.int .i64 t160)∧CallTo Try.prog 10 #[.int .i64 t160,.int .i64 2] h41 fun r h42=>∃ t161:Int,r=.int .i64 t161∧(0 ≤ t161∧t161 < ((2:Nat):Int))∧∃ t164:Option Addr,cell h42 (s3.add (t161.toNat * 1))=some (.pointer t164)∧∃ t165_0:Int,cell h42 (nb h)=some (.int .i64 t165_0)∧∃ t165_1:Int,cell h42 ((nb h).add 1)=some (.int .i64 t165_1)∧∃ t165_2:Int,cell h42 ((nb h).add 2)=some (.int .i64 t165_2)∧∃ t165_3:Bool,cell h42 ((nb h).add 3)=some (.bool t165_3)∧∃ t165_4:Int,cell h42 ((nb h).add 4)=some (.int .i64 t165_4)∧∃ t165_5:Int,cell h42 ((nb h).add 5)=some (.int .i64 t165_5)∧∃ t165_6:Sl,cell h42 ((nb h).add 6)=some (.slice t165_6.a t165_6.n t165_6.c)∧CallTo Try.prog 33 #[.pointer t164,.agg #[.int .i64 t165_0,.int .i64 t165_1,.int .i64 t165_2,.bool t165_3,.int .i64 t165_4,.int .i64 t165_5,.slice t165_6.a t165_6.n t165_6.c]] h42 fun r h43=>∃ t166:Sl,r=.slice t166.a t166.n t166.c∧(0 ≤ t161∧t161 < ((2:Nat):Int))∧∃ t169:Option Addr,cell h43 (s4.add (t161.toNat * 1))=some (.pointer t169)∧∃ t170_0:Int,cell h43 (nb h)=some (.int .i64 t170_0)∧∃ t170_1:Int,cell h43 ((nb h).add 1)=some (.int .i64 t170_1)∧∃ t170_2:Int,cell h43 ((nb h).add 2)=some (.int .i64 t170_2)∧∃ t170_3:Bool,cell h43 ((nb h).add 3)=some (.bool t170_3)∧∃ t170_4:Int,cell h43 ((nb h).add 4)=some (.int .i64 t170_4)∧∃ t170_5:Int,cell h43 ((nb h).add 5)=some (.int .i64 t170_5)∧∃ t170_6:Sl,cell h43 ((nb h).add 6)=some (.slice t170_6.a t170_6.n t170_6.c)∧CallTo Try.prog 33 #[.pointer t169,.agg #[.int .i64 t170_0,.int .i64 t170_1,.int .i64 t170_2,.bool t170_3,.int .i64 t170_4,.int .i64 t170_5,.slice t170_6.a t170_6.n t170_6.c]] h43 fun r h44=>∃ t171:Sl,r=.slice t171.a t171.n t171.c∧CallTo Try.prog 18 #[.slice t166.a t166.n t166.c,.slice t171.a t171.n t171.c] h44 fun r h45=>∃ t174:Bool,r=.bool t174∧Cond (!t174) (R (.bool false:Value) h45) (∃ m,m < n2∧J2 m s1 s3 s4 s5 s7 (IntKind.wrap .i64 ((IntKind.wrap .i64 (s14 + (16:Int))) + (IntKind.wrap .i64 (Int.tdiv (((t134.n:Nat):Int)) (8:Int))))) (IntKind.wrap .i64 (s15 + (1:Int))) h45))) (Cond (decide ((-1) < (0:Int))) (CallTo Try.prog 31 #[.pointer s7] h26 fun r h46=>r=.tuple #[]∧∃ t160:Int,cell h46 ((nb h).add 1)=some (.int .i64 t160)∧CallTo Try.prog 10 #[.int .i64 t160,.int .i64 2] h46 fun r h47=>∃ t161:Int,r=.int .i64 t161∧(0 ≤ t161∧t161 < ((2:Nat):Int))∧∃ t164:Option Addr,cell h47 (s3.add (t161.toNat * 1))=some (.pointer t164)∧∃ t165_0:Int,cell h47 (nb h)=some (.int .i64 t165_0)∧∃ t165_1:Int,cell h47 ((nb h).add 1)=some (.int .i64 t165_1)∧∃ t165_2:Int,cell h47 ((nb h).add 2)=some (.int .i64 t165_2)∧∃ t165_3:Bool,cell h47 ((nb h).add 3)=some (.bool t165_3)∧∃ t165_4:Int,cell h47 ((nb h).add 4)=some (.int .i64 t165_4)∧∃ t165_5:Int,cell h47 ((nb h).add 5)=some (.int .i64 t165_5)∧∃ t165_6:Sl,cell h47 ((nb h).add 6)=some (.slice t165_6.a t165_6.n t165_6.c)∧CallTo Try.prog 33 #[.pointer t164,.agg #[.int .i64 t165_0,.int .i64 t165_1,.int .i64 t165_2,.bool t165_3,.int .i64 t165_4,.int .i64 t165_5,.slice t165_6.a t165_6.n t165_6.c]] h47 fun r h48=>∃ t166:Sl,r=.slice t166.a t166.n t166.c∧(0 ≤ t161∧t161 < ((2:Nat):Int))∧∃ t169:Option Addr,cell h48 (s4.add (t161.toNat * 1))=some (.pointer t169)∧∃ t170_0:Int,cell h48 (nb h)=some (.int .i64 t170_0)∧∃ t170_1:Int,cell h48 ((nb h).add 1)=some (.int .i64 t170_1)∧∃ t170_2:Int,cell h48 ((nb h).add 2)=some (.int .i64 t170_2)∧∃ t170_3:Bool,cell h48 ((nb h).add 3)=some (.bool t170_3)∧∃ t170_4:Int,cell h48 ((nb h).add 4)=some (.int .i64 t170_4)∧∃ t170_5:Int,cell h48 ((nb h).add 5)=some (.int .i64 t170_5)∧∃ t170_6:Sl,cell h48 ((nb h).add 6)=some (.slice t170_6.a t170_6.n t170_6.c)∧CallTo Try.prog 33 #[.pointer t169,.agg #[.int .i64 t170_0,.int .i64 t170_1,.int .i64 t170_2,.bool t170_3,.int .i64 t170_4,.int .i64 t170_5,.slice t170_6.a t170_6.n t170_6.c]] h48 fun r h49=>∃ t171:Sl,r=.slice t171.a t171.n t171.c∧CallTo Try.prog 18 #[.slice t166.a t166.n t166.c,.slice t171.a t171.n t171.c] h49 fun r h50=>∃ t174:Bool,r=.bool t174∧Cond (!t174) (R (.bool false:Value) h50) (∃ m,m < n2∧J2 m s1 s3 s4 s5 s7 (IntKind.wrap .i64 ((IntKind.wrap .i64 (s14 + (16:Int))) + (IntKind.wrap .i64 (Int.tdiv (((t134.n:Nat):Int)) (8:Int))))) (IntKind.wrap .i64 (s15 + (1:Int))) h50)) ((5000:Int) ≠ 0∧CallTo Try.prog 32 #[.pointer s7,.int .i64 (IntKind.wrap .i64 ((64:Int) + (Int.tmod (-1) (5000:Int))))] h26 fun r h51=>∃ t158:Int,r=.int .i64 t158∧∃ t160:Int,cell h51 ((nb h).add 1)=some (.int .i64 t160)∧CallTo Try.prog 10 #[.int .i64 t160,.int .i64 2] h51 fun r h52=>∃ t161:Int,r=.int .i64 t161∧(0 ≤ t161∧t161 < ((2:Nat):Int))∧∃ t164:Option Addr,cell h52 (s3.add (t161.toNat * 1))=some (.pointer t164)∧∃ t165_0:Int,cell h52 (nb h)=some (.int .i64 t165_0)∧∃ t165_1:Int,cell h52 ((nb h).add 1)=some (.int .i64 t165_1)∧∃ t165_2:Int,cell h52 ((nb h).add 2)=some (.int .i64 t165_2)∧∃ t165_3:Bool,cell h52 ((nb h).add 3)=some (.bool t165_3)∧∃ t165_4:Int,cell h52 ((nb h).add 4)=some (.int .i64 t165_4)∧∃ t165_5:Int,cell h52 ((nb h).add 5)=some (.int .i64 t165_5)∧∃ t165_6:Sl,cell h52 ((nb h).add 6)=some (.slice t165_6.a t165_6.n t165_6.c)∧CallTo Try.prog 33 #[.pointer t164,.agg #[.int .i64 t165_0,.int .i64 t165_1,.int .i64 t165_2,.bool t165_3,.int .i64 t165_4,.int .i64 t165_5,.slice t165_6.a t165_6.n t165_6.c]] h52 fun r h53=>∃ t166:Sl,r=.slice t166.a t166.n t166.c∧(0 ≤ t161∧t161 < ((2:Nat):Int))∧∃ t169:Option Addr,cell h53 (s4.add (t161.toNat * 1))=some (.pointer t169)∧∃ t170_0:Int,cell h53 (nb h)=some (.int .i64 t170_0)∧∃ t170_1:Int,cell h53 ((nb h).add 1)=some (.int .i64 t170_1)∧∃ t170_2:Int,cell h53 ((nb h).add 2)=some (.int .i64 t170_2)∧∃ t170_3:Bool,cell h53 ((nb h).add 3)=some (.bool t170_3)∧∃ t170_4:Int,cell h53 ((nb h).add 4)=some (.int .i64 t170_4)∧∃ t170_5:Int,cell h53 ((nb h).add 5)=some (.int .i64 t170_5)∧∃ t170_6:Sl,cell h53 ((nb h).add 6)=some (.slice t170_6.a t170_6.n t170_6.c)∧CallTo Try.prog 33 #[.pointer t169,.agg #[.int .i64 t170_0,.int .i64 t170_1,.int .i64 t170_2,.bool t170_3,.int .i64 t170_4,.int .i64 t170_5,.slice t170_6.a t170_6.n t170_6.c]] h53 fun r h54=>∃ t171:Sl,r=.slice t171.a t171.n t171.c∧CallTo Try.prog 18 #[.slice t166.a t166.n t166.c,.slice t171.a t171.n t171.c] h54 fun r h55=>∃ t174:Bool,r=.bool t174∧Cond (!t174) (R (.bool false:Value) h55) (∃ m,m < n2∧J2 m s1 s3 s4 s5 s7 (IntKind.wrap .i64 ((IntKind.wrap .i64 (s14 + (16:Int))) + (IntKind.wrap .i64 (Int.tdiv (((t134.n:Nat):Int)) (8:Int))))) (IntKind.wrap .i64 (s15 + (1:Int))) h55))))) (LoopEv (evC Try.prog tab lv7 (sub [1,1,1,1,1,1,1,1,0,1,0,0] body7)) (contAt Try.prog tab lv7 [1,1,1,1,1,1,1,1,0,1,0] body7 [] (bodyK Try.prog Try.f7 [] R)) [(3,.pointer (some s3)),(4,.pointer (some s4)),(5,.pointer s5),(7,.pointer s7),(21,.int .i64 0)] 232 h)) (LoopEv (evC Try.prog tab lv7 (sub [1,1,1,1,1,1,1,1,0,1,0,0] body7)) (contAt Try.prog tab lv7 [1,1,1,1,1,1,1,1,0,1,0] body7 [] (bodyK Try.prog Try.f7 [] R)) [(3,.pointer (some s3)),(4,.pointer (some s4)),(5,.pointer s5),(7,.pointer s7),(21,.int .i64 0)] 232 h)
theorem f7L2_eq (J2:Nat→Addr→Addr→Addr→Option Addr→Option Addr→Int→Int→Hp→Prop) (n2:Nat) (s1:Addr) (s3:Addr) (s4:Addr) (s5:Option Addr) (s7:Option Addr) (s14:Int) (s15:Int) (g:Nat→Value) (h:Hp) (R:Value→Hp→Prop):(evC Try.prog tab lv7 (sub [1,1,1,1,1,1,1,0,1,0,0] body7)) (loopK (f7I2 J2) n2 (contAt Try.prog tab lv7 [1,1,1,1,1,1,1,0,1,0] body7 [] (bodyK Try.prog Try.f7 [] R))) (mkEnv 232 [(1,.pointer (some s1)),(3,.pointer (some s3)),(4,.pointer (some s4)),(5,.pointer s5),(7,.pointer s7),(14,.int .i64 s14),(15,.int .i64 s15)] g) h=f7L2 J2 n2 s1 s3 s4 s5 s7 s14 s15 g h R:=by kernel_rfl
theorem f7I2_at (J:Nat→Addr→Addr→Addr→Option Addr→Option Addr→Int→Int→Hp→Prop) (n:Nat) (s1:Addr) (s3:Addr) (s4:Addr) (s5:Option Addr) (s7:Option Addr) (s14:Int) (s15:Int) (g:Nat→Value) (h:Hp):f7I2 J n (mkEnv 232 [(1,.pointer (some s1)),(3,.pointer (some s3)),(4,.pointer (some s4)),(5,.pointer s5),(7,.pointer s7),(14,.int .i64 s14),(15,.int .i64 s15)] g) h=J n s1 s3 s4 s5 s7 s14 s15 h:=by kernel_rfl
theorem f7L2_rule  {R:Value→Hp→Prop} {s1:Addr} {s3:Addr} {s4:Addr} {s5:Option Addr} {s7:Option Addr} {s14:Int} {s15:Int} {h0:Hp} (J:Nat→Addr→Addr→Addr→Option Addr→Option Addr→Int→Int→Hp→Prop) (n0:Nat) (hi:J n0 s1 s3 s4 s5 s7 s14 s15 h0)
  (hr:∀ n s1 s3 s4 s5 s7 s14 s15 g h,J n s1 s3 s4 s5 s7 s14 s15 h→f7L2  J n s1 s3 s4 s5 s7 s14 s15 g h R):LoopEv (evC Try.prog tab lv7 (sub [1,1,1,1,1,1,1,0,1,0,0] body7)) (contAt Try.prog tab lv7 [1,1,1,1,1,1,1,0,1,0] body7 [] (bodyK Try.prog Try.f7 [] R)) [(1,.pointer (some s1)),(3,.pointer (some s3)),(4,.pointer (some s4)),(5,.pointer s5),(7,.pointer s7),(14,.int .i64 s14),(15,.int .i64 s15)] 232 h0:=by
 refine ⟨f7I2 J,n0,fun g=>by rw [f7I2_at]; exact hi,fun n env h hI=>?_⟩
 clear hi
 clear s1 s3 s4 s5 s7 s14 s15
 obtain ⟨hlen,hI⟩:=Cond_true' hI
 have hlen:env.length=232:=by simpa using hlen
 obtain ⟨s1,es1,hI⟩:=DecA.out hI
 obtain ⟨s3,es3,hI⟩:=DecA.out hI
 obtain ⟨s4,es4,hI⟩:=DecA.out hI
 obtain ⟨s5,es5,hI⟩:=DecP.out hI
 obtain ⟨s7,es7,hI⟩:=DecP.out hI
 obtain ⟨s14,es14,hI⟩:=DecI.out hI
 obtain ⟨s15,es15,hI⟩:=DecI.out hI
 rw [mkEnv_of (l:=[(1,.pointer (some s1)),(3,.pointer (some s3)),(4,.pointer (some s4)),(5,.pointer s5),(7,.pointer s7),(14,.int .i64 s14),(15,.int .i64 s15)]) hlen (by simp only [List.mem_cons,List.not_mem_nil,or_false,forall_eq_or_imp,forall_eq]; exact ⟨es1,es3,es4,es5,es7,es14,es15⟩)]
 rw [f7L2_eq]
 exact hr n s1 s3 s4 s5 s7 s14 s15 _ h hI
def f7L3 (J3:Nat→Addr→Addr→Option Addr→Option Addr→Int→Hp→Prop) (n3:Nat) (s3:Addr) (s4:Addr) (s5:Option Addr) (s7:Option Addr) (s21:Int) (g:Nat→Value) (h:Hp) (R:Value→Hp→Prop):Prop :=
 Cond (decide (s21 < (2:Int))) ((0 ≤ s21∧s21 < ((2:Nat):Int))∧∃ t182:Option Addr,cell h (s3.add (s21.toNat * 1))=some (.pointer t182)∧CallTo Try.prog 16 #[.pointer t182] h fun r h27=>∃ t183:Int,r=.int .i64 t183∧(0 ≤ s21∧s21 < ((2:Nat):Int))∧∃ t187:Option Addr,cell h27 (s3.add (s21.toNat * 1))=some (.pointer t187)∧CallTo Try.prog 15 #[.pointer t187,.int .i64 0,.int .i64 t183] h27 fun r h28=>∃ t189_0:Sl,∃ t189_1:Int,r=.tuple #[.slice t189_0.a t189_0.n t189_0.c,.int .i64 t189_1]∧(0 ≤ s21∧s21 < ((2:Nat):Int))∧∃ t195:Option Addr,cell h28 (s4.add (s21.toNat * 1))=some (.pointer t195)∧CallTo Try.prog 15 #[.pointer t195,.int .i64 0,.int .i64 t183] h28 fun r h29=>∃ t197_0:Sl,∃ t197_1:Int,r=.tuple #[.slice t197_0.a t197_0.n t197_0.c,.int .i64 t197_1]∧CallTo Try.prog 11 #[.int .i64 t189_1] h29 fun r h30=>∃ t201:Int,r=.int .i64 t201∧Cond (t201 != (0:Int)) (R (.bool false:Value) h30) (CallTo Try.prog 11 #[.int .i64 t197_1] h30 fun r h31=>∃ t205:Int,r=.int .i64 t205∧Cond (t205 != (0:Int)) (R (.bool false:Value) h31) (CallTo Try.prog 30 #[.slice t189_0.a t189_0.n t189_0.c,.slice t197_0.a t197_0.n t197_0.c] h31 fun r h32=>∃ t211:Bool,r=.bool t211∧Cond (!t211) (R (.bool false:Value) h32) ((0 ≤ s21∧s21 < ((2:Nat):Int))∧∃ t217:Option Addr,cell h32 (s4.add (s21.toNat * 1))=some (.pointer t217)∧CallTo Try.prog 16 #[.pointer t217] h32 fun r h33=>∃ t218:Int,r=.int .i64 t218∧Cond (t218 != t183) (R (.bool false:Value) h33) (∃ m,m < n3∧J3 m s3 s4 s5 s7 (IntKind.wrap .i64 (s21 + (1:Int))) h33))))) (CallTo Try.prog 17 #[.pointer s5] h fun r h34=>∃ t223_0:Int,∃ t223_1:Int,∃ t223_2:Int,∃ t223_3:Int,∃ t223_4:Int,∃ t223_5:Int,∃ t223_6:Int,∃ t223_7:Int,∃ t223_8:Int,r=.agg #[.int .i64 t223_0,.int .i64 t223_1,.int .i64 t223_2,.int .i64 t223_3,.int .i64 t223_4,.int .i64 t223_5,.int .i64 t223_6,.int .i64 t223_7,.int .i64 t223_8]∧Cond (t223_5 == (2:Int)) (CallTo Try.prog 17 #[.pointer s7] h34 fun r h35=>∃ t228_0:Int,∃ t228_1:Int,∃ t228_2:Int,∃ t228_3:Int,∃ t228_4:Int,∃ t228_5:Int,∃ t228_6:Int,∃ t228_7:Int,∃ t228_8:Int,r=.agg #[.int .i64 t228_0,.int .i64 t228_1,.int .i64 t228_2,.int .i64 t228_3,.int .i64 t228_4,.int .i64 t228_5,.int .i64 t228_6,.int .i64 t228_7,.int .i64 t228_8]∧R ((.bool (t228_5 == (2:Int)):Value)) h35) (R (.bool false:Value) h34))
theorem f7L3_eq (J3:Nat→Addr→Addr→Option Addr→Option Addr→Int→Hp→Prop) (n3:Nat) (s3:Addr) (s4:Addr) (s5:Option Addr) (s7:Option Addr) (s21:Int) (g:Nat→Value) (h:Hp) (R:Value→Hp→Prop):(evC Try.prog tab lv7 (sub [1,1,1,1,1,1,1,1,0,1,0,0] body7)) (loopK (f7I3 J3) n3 (contAt Try.prog tab lv7 [1,1,1,1,1,1,1,1,0,1,0] body7 [] (bodyK Try.prog Try.f7 [] R))) (mkEnv 232 [(3,.pointer (some s3)),(4,.pointer (some s4)),(5,.pointer s5),(7,.pointer s7),(21,.int .i64 s21)] g) h=f7L3 J3 n3 s3 s4 s5 s7 s21 g h R:=by kernel_rfl
theorem f7I3_at (J:Nat→Addr→Addr→Option Addr→Option Addr→Int→Hp→Prop) (n:Nat) (s3:Addr) (s4:Addr) (s5:Option Addr) (s7:Option Addr) (s21:Int) (g:Nat→Value) (h:Hp):f7I3 J n (mkEnv 232 [(3,.pointer (some s3)),(4,.pointer (some s4)),(5,.pointer s5),(7,.pointer s7),(21,.int .i64 s21)] g) h=J n s3 s4 s5 s7 s21 h:=by kernel_rfl
theorem f7L3_rule  {R:Value→Hp→Prop} {s3:Addr} {s4:Addr} {s5:Option Addr} {s7:Option Addr} {s21:Int} {h0:Hp} (J:Nat→Addr→Addr→Option Addr→Option Addr→Int→Hp→Prop) (n0:Nat) (hi:J n0 s3 s4 s5 s7 s21 h0)
  (hr:∀ n s3 s4 s5 s7 s21 g h,J n s3 s4 s5 s7 s21 h→f7L3  J n s3 s4 s5 s7 s21 g h R):LoopEv (evC Try.prog tab lv7 (sub [1,1,1,1,1,1,1,1,0,1,0,0] body7)) (contAt Try.prog tab lv7 [1,1,1,1,1,1,1,1,0,1,0] body7 [] (bodyK Try.prog Try.f7 [] R)) [(3,.pointer (some s3)),(4,.pointer (some s4)),(5,.pointer s5),(7,.pointer s7),(21,.int .i64 s21)] 232 h0:=by
 refine ⟨f7I3 J,n0,fun g=>by rw [f7I3_at]; exact hi,fun n env h hI=>?_⟩
 clear hi
 clear s3 s4 s5 s7 s21
 obtain ⟨hlen,hI⟩:=Cond_true' hI
 have hlen:env.length=232:=by simpa using hlen
 obtain ⟨s3,es3,hI⟩:=DecA.out hI
 obtain ⟨s4,es4,hI⟩:=DecA.out hI
 obtain ⟨s5,es5,hI⟩:=DecP.out hI
 obtain ⟨s7,es7,hI⟩:=DecP.out hI
 obtain ⟨s21,es21,hI⟩:=DecI.out hI
 rw [mkEnv_of (l:=[(3,.pointer (some s3)),(4,.pointer (some s4)),(5,.pointer s5),(7,.pointer s7),(21,.int .i64 s21)]) hlen (by simp only [List.mem_cons,List.not_mem_nil,or_false,forall_eq_or_imp,forall_eq]; exact ⟨es3,es4,es5,es7,es21⟩)]
 rw [f7L3_eq]
 exact hr n s3 s4 s5 s7 s21 _ h hI
def f7F (a0_0:Sl) (a0_1:Sl) (h:Hp) (R:Value→Hp→Prop):Prop :=
 Let (h.push (.cells #[.slice a0_0.a a0_0.n a0_0.c,.slice a0_1.a a0_1.n a0_1.c] 65)) fun h1=>Let (h1.push (.cells #[.pointer none,.pointer none] 66)) fun h2=>Let (h2.push (.cells #[.pointer none,.pointer none] 66)) fun h3=>CallTo Try.prog 9 #[.int .i64 1048576] h3 fun r h4=>∃ t28_0:Option Addr,∃ t28_1:Int,r=.tuple #[.pointer t28_0,.int .i64 t28_1]∧CallTo Try.prog 9 #[.int .i64 1048576] h4 fun r h5=>∃ t32_0:Option Addr,∃ t32_1:Int,r=.tuple #[.pointer t32_0,.int .i64 t32_1]∧CallTo Try.prog 11 #[.int .i64 t28_1] h5 fun r h6=>∃ t36:Int,r=.int .i64 t36∧Cond (t36 != (0:Int)) (f7K1  (nb h) (nb h1) (nb h2) t28_0 t32_0 true h6 R) (CallTo Try.prog 11 #[.int .i64 t32_1] h6 fun r h56=>∃ t40:Int,r=.int .i64 t40∧Cond (t40 != (0:Int)) (f7K1  (nb h) (nb h1) (nb h2) t28_0 t32_0 true h56 R) (Cond (Option.isNone t28_0) (f7K1  (nb h) (nb h1) (nb h2) t28_0 t32_0 true h56 R) (f7K1  (nb h) (nb h1) (nb h2) t28_0 t32_0 (Option.isNone t32_0) h56 R)))
theorem f7F_eq (a0_0:Sl) (a0_1:Sl) (h:Hp) (R:Value→Hp→Prop):evF Try.prog tab lv7 Try.f7 body7 [] [.agg #[.slice a0_0.a a0_0.n a0_0.c,.slice a0_1.a a0_1.n a0_1.c]] h R=f7F a0_0 a0_1 h R:=by kernel_rfl
theorem f7F_ok {a0_0:Sl} {a0_1:Sl} {h:Hp} {R:Value→Hp→Prop} (hF:f7F a0_0 a0_1 h R):CallTo Try.prog 7 #[.agg #[.slice a0_0.a a0_0.n a0_0.c,.slice a0_1.a a0_1.n a0_1.c]] h R :=
 callTo_of_ev (lv:=lv7) (hints:=[]) (c:=body7) (args:=[.agg #[.slice a0_0.a a0_0.n a0_0.c,.slice a0_1.a a0_1.n a0_1.c]]) mixed tab_ok Try.func7 (by kernel_rfl) (by kernel_rfl) (by rw [f7F_eq]; exact hF)
/- larder/larderlaw5.within -/
noncomputable def body10:Code:=(Try.f10.body).getD .skip
def lv10 (m:Nat):List Nat:=[]
def f10F (a0:Int) (a1:Int) (h:Hp) (R:Value→Hp→Prop):Prop :=
 a1 ≠ 0∧a1 ≠ 0∧R ((.int .i64 (Int.tmod (IntKind.wrap .i64 ((Int.tmod a0 a1) + a1)) a1):Value)) h
theorem f10F_eq (a0:Int) (a1:Int) (h:Hp) (R:Value→Hp→Prop):evF Try.prog tab lv10 Try.f10 body10 [] [.int .i64 a0,.int .i64 a1] h R=f10F a0 a1 h R:=by kernel_rfl
theorem f10F_ok {a0:Int} {a1:Int} {h:Hp} {R:Value→Hp→Prop} (hF:f10F a0 a1 h R):CallTo Try.prog 10 #[.int .i64 a0,.int .i64 a1] h R :=
 callTo_of_ev (lv:=lv10) (hints:=[]) (c:=body10) (args:=[.int .i64 a0,.int .i64 a1]) mixed tab_ok Try.func10 (by kernel_rfl) (by kernel_rfl) (by rw [f10F_eq]; exact hF)
/- larder/larderlaw5.num -/
noncomputable def body11:Code:=(Try.f11.body).getD .skip
def lv11 (m:Nat):List Nat:=[]
def f11F (a0:Int) (h:Hp) (R:Value→Hp→Prop):Prop :=
 R (.int .i64 a0:Value) h
theorem f11F_eq (a0:Int) (h:Hp) (R:Value→Hp→Prop):evF Try.prog tab lv11 Try.f11 body11 [] [.int .i64 a0] h R=f11F a0 h R:=by kernel_rfl
theorem f11F_ok {a0:Int} {h:Hp} {R:Value→Hp→Prop} (hF:f11F a0 h R):CallTo Try.prog 11 #[.int .i64 a0] h R :=
 callTo_of_ev (lv:=lv11) (hints:=[]) (c:=body11) (args:=[.int .i64 a0]) mixed tab_ok Try.func11 (by kernel_rfl) (by kernel_rfl) (by rw [f11F_eq]; exact hF)
/- larder/larderlaw5.make1 -/
/- larder/larderlaw5.holds -/
/- larder/larderlaw5.rest -/
/- larder/larderlaw5.told -/
noncomputable def body33:Code:=(Try.f33.body).getD .skip
def lv33 (m:Nat):List Nat:=if m=30 then [5,16,18] else []
def f33I1 (J:Nat→Sl→Sl→Int→Hp→Prop) (n:Nat) (env:List Value) (h:Hp):Prop:=lenIs env 207 (DecL env 5 fun s5=>DecL env 16 fun s16=>DecI .i64 env 18 fun s18=>J n s5 s16 s18 h)
def f33L1 (J1:Nat→Sl→Sl→Int→Hp→Prop) (n1:Nat) (s5:Sl) (s16:Sl) (s18:Int) (g:Nat→Value) (h:Hp) (R:Value→Hp→Prop):Prop :=
 Cond (decide (s18 < (((s16.n:Nat):Int)))) ((0 ≤ s18∧s18 < ((s16.n:Nat):Int))∧PtrOk s16.a fun p175=>∃ t176:Sl,cell h (p175.add (s18.toNat * 1))=some (.slice t176.a t176.n t176.c)∧(0 ≤ s18∧s18 < ((s16.n:Nat):Int))∧PtrOk s16.a fun p181=>∃ t182:Sl,cell h (p181.add (s18.toNat * 1))=some (.slice t182.a t182.n t182.c)∧0 ≤ (8:Int)∧Let (h.push (.cells #[.int .u8 (IntKind.wrap .u8 (((t176.n:Nat):Int))),.int .u8 (IntKind.wrap .u8 (Int.fdiv (((t182.n:Nat):Int)) (2 ^ (min (8:Int).toNat (IntKind.bits .i64)))))] 5)) fun h37=>appSl 5 1 1 #[.int .u8 0] s5.a s5.n s5.c (some (nb h)) 2 h37 fun ra38 rn38 rc38 h38=>(0 ≤ s18∧s18 < ((s16.n:Nat):Int))∧PtrOk s16.a fun p191=>∃ t192:Sl,cell h38 (p191.add (s18.toNat * 1))=some (.slice t192.a t192.n t192.c)∧appSl 5 1 1 #[.int .u8 0] ra38 rn38 rc38 t192.a t192.n h38 fun ra39 rn39 rc39 h39=>∃ m,m < n1∧J1 m ⟨ra39,rn39,rc39⟩ s16 (IntKind.wrap .i64 (s18 + (1:Int))) h39) (R (.slice s5.a s5.n s5.c:Value) h)
theorem f33L1_eq (J1:Nat→Sl→Sl→Int→Hp→Prop) (n1:Nat) (s5:Sl) (s16:Sl) (s18:Int) (g:Nat→Value) (h:Hp) (R:Value→Hp→Prop):(evC Try.prog tab lv33 (sub [1,1,0,1,0,1,1,1,1,1,1,1,1,1,1,1,1,1,1,1,0,1,1,1,0,0] body33)) (loopK (f33I1 J1) n1 (contAt Try.prog tab lv33 [1,1,0,1,0,1,1,1,1,1,1,1,1,1,1,1,1,1,1,1,0,1,1,1,0] body33 [] (bodyK Try.prog Try.f33 [] R))) (mkEnv 207 [(5,.slice s5.a s5.n s5.c),(16,.slice s16.a s16.n s16.c),(18,.int .i64 s18)] g) h=f33L1 J1 n1 s5 s16 s18 g h R:=by kernel_rfl
theorem f33I1_at (J:Nat→Sl→Sl→Int→Hp→Prop) (n:Nat) (s5:Sl) (s16:Sl) (s18:Int) (g:Nat→Value) (h:Hp):f33I1 J n (mkEnv 207 [(5,.slice s5.a s5.n s5.c),(16,.slice s16.a s16.n s16.c),(18,.int .i64 s18)] g) h=J n s5 s16 s18 h:=by kernel_rfl
theorem f33L1_rule  {R:Value→Hp→Prop} {s5:Sl} {s16:Sl} {s18:Int} {h0:Hp} (J:Nat→Sl→Sl→Int→Hp→Prop) (n0:Nat) (hi:J n0 s5 s16 s18 h0)
  (hr:∀ n s5 s16 s18 g h,J n s5 s16 s18 h→f33L1  J n s5 s16 s18 g h R):LoopEv (evC Try.prog tab lv33 (sub [1,1,0,1,0,1,1,1,1,1,1,1,1,1,1,1,1,1,1,1,0,1,1,1,0,0] body33)) (contAt Try.prog tab lv33 [1,1,0,1,0,1,1,1,1,1,1,1,1,1,1,1,1,1,1,1,0,1,1,1,0] body33 [] (bodyK Try.prog Try.f33 [] R)) [(5,.slice s5.a s5.n s5.c),(16,.slice s16.a s16.n s16.c),(18,.int .i64 s18)] 207 h0:=by
 refine ⟨f33I1 J,n0,fun g=>by rw [f33I1_at]; exact hi,fun n env h hI=>?_⟩
 clear hi
 clear s5 s16 s18
 obtain ⟨hlen,hI⟩:=Cond_true' hI
 have hlen:env.length=207:=by simpa using hlen
 obtain ⟨s5,es5,hI⟩:=DecL.out hI
 obtain ⟨s16,es16,hI⟩:=DecL.out hI
 obtain ⟨s18,es18,hI⟩:=DecI.out hI
 rw [mkEnv_of (l:=[(5,.slice s5.a s5.n s5.c),(16,.slice s16.a s16.n s16.c),(18,.int .i64 s18)]) hlen (by simp only [List.mem_cons,List.not_mem_nil,or_false,forall_eq_or_imp,forall_eq]; exact ⟨es5,es16,es18⟩)]
 rw [f33L1_eq]
 exact hr n s5 s16 s18 _ h hI
def f33F (a0:Option Addr) (a1_0:Int) (a1_1:Int) (a1_2:Int) (a1_3:Bool) (a1_4:Int) (a1_5:Int) (a1_6:Sl) (h:Hp) (R:Value→Hp→Prop):Prop :=
 Let (h.push (.cells #[.int .i64 a1_0,.int .i64 a1_1,.int .i64 a1_2,.bool a1_3,.int .i64 a1_4,.int .i64 a1_5,.slice a1_6.a a1_6.n a1_6.c] 68)) fun h1=>∃ t21:Int,cell h1 (nb h)=some (.int .i64 t21)∧Let (h1.push (.cells #[.int .u8 (IntKind.wrap .u8 t21)] 5)) fun h2=>∃ t25:Int,cell h2 (nb h)=some (.int .i64 t25)∧Cond (t25 == (5:Int)) (∃ t30:Bool,cell h2 ((nb h).add 3)=some (.bool t30)∧∃ t32:Sl,cell h2 ((nb h).add 6)=some (.slice t32.a t32.n t32.c)∧CallTo Try.prog 13 #[.pointer a0,.bool t30,.slice t32.a t32.n t32.c] h2 fun r h3=>∃ t33:Int,r=.int .i64 t33∧CallTo Try.prog 11 #[.int .i64 t33] h3 fun r h4=>∃ t36:Int,r=.int .i64 t36∧Let (h4.push (.cells #[.int .u8 (IntKind.wrap .u8 t36)] 5)) fun h5=>appSl 5 1 1 #[.int .u8 0] (some (nb h1)) 1 1 (some (nb h4)) 1 h5 fun ra6 rn6 rc6 h6=>R (.slice ra6 rn6 rc6:Value) h6) (Cond (t25 == (8:Int)) (∃ t44:Int,cell h2 ((nb h).add 4)=some (.int .i64 t44)∧∃ t46:Sl,cell h2 ((nb h).add 6)=some (.slice t46.a t46.n t46.c)∧CallTo Try.prog 24 #[.pointer a0,.int .i64 t44,.slice t46.a t46.n t46.c] h2 fun r h7=>∃ t47:Int,r=.int .i64 t47∧CallTo Try.prog 11 #[.int .i64 t47] h7 fun r h8=>∃ t50:Int,r=.int .i64 t50∧Let (h8.push (.cells #[.int .u8 (IntKind.wrap .u8 t50)] 5)) fun h9=>appSl 5 1 1 #[.int .u8 0] (some (nb h1)) 1 1 (some (nb h8)) 1 h9 fun ra10 rn10 rc10 h10=>R (.slice ra10 rn10 rc10:Value) h10) (Cond (t25 == (9:Int)) (∃ t58:Int,cell h2 ((nb h).add 4)=some (.int .i64 t58)∧∃ t60:Sl,cell h2 ((nb h).add 6)=some (.slice t60.a t60.n t60.c)∧CallTo Try.prog 14 #[.pointer a0,.int .i64 t58,.slice t60.a t60.n t60.c] h2 fun r h11=>∃ t61:Int,r=.int .i64 t61∧CallTo Try.prog 11 #[.int .i64 t61] h11 fun r h12=>∃ t64:Int,r=.int .i64 t64∧Let (h12.push (.cells #[.int .u8 (IntKind.wrap .u8 t64)] 5)) fun h13=>appSl 5 1 1 #[.int .u8 0] (some (nb h1)) 1 1 (some (nb h12)) 1 h13 fun ra14 rn14 rc14 h14=>R (.slice ra14 rn14 rc14:Value) h14) (Cond (t25 == (10:Int)) (∃ t72:Int,cell h2 ((nb h).add 4)=some (.int .i64 t72)∧∃ t74:Int,cell h2 ((nb h).add 5)=some (.int .i64 t74)∧CallTo Try.prog 19 #[.pointer a0,.int .i64 t72,.int .i64 t74] h2 fun r h15=>∃ t75:Int,r=.int .i64 t75∧CallTo Try.prog 11 #[.int .i64 t75] h15 fun r h16=>∃ t78:Int,r=.int .i64 t78∧Let (h16.push (.cells #[.int .u8 (IntKind.wrap .u8 t78)] 5)) fun h17=>appSl 5 1 1 #[.int .u8 0] (some (nb h1)) 1 1 (some (nb h16)) 1 h17 fun ra18 rn18 rc18 h18=>R (.slice ra18 rn18 rc18:Value) h18) (Cond (t25 == (6:Int)) (∃ t87:Bool,cell h2 ((nb h).add 3)=some (.bool t87)∧CallTo Try.prog 22 #[.pointer a0,.bool t87] h2 fun r h19=>∃ t88_0:Sl,∃ t88_1:Int,r=.tuple #[.slice t88_0.a t88_0.n t88_0.c,.int .i64 t88_1]∧CallTo Try.prog 11 #[.int .i64 t88_1] h19 fun r h20=>∃ t93:Int,r=.int .i64 t93∧Let (h20.push (.cells #[.int .u8 (IntKind.wrap .u8 t93)] 5)) fun h21=>appSl 5 1 1 #[.int .u8 0] (some (nb h1)) 1 1 (some (nb h20)) 1 h21 fun ra22 rn22 rc22 h22=>appSl 5 1 1 #[.int .u8 0] ra22 rn22 rc22 t88_0.a t88_0.n h22 fun ra23 rn23 rc23 h23=>R (.slice ra23 rn23 rc23:Value) h23) (Cond (t25 == (7:Int)) (∃ t105:Int,cell h2 ((nb h).add 4)=some (.int .i64 t105)∧CallTo Try.prog 23 #[.pointer a0,.int .i64 t105] h2 fun r h24=>∃ t106_0:Sl,∃ t106_1:Int,r=.tuple #[.slice t106_0.a t106_0.n t106_0.c,.int .i64 t106_1]∧CallTo Try.prog 11 #[.int .i64 t106_1] h24 fun r h25=>∃ t111:Int,r=.int .i64 t111∧Let (h25.push (.cells #[.int .u8 (IntKind.wrap .u8 t111)] 5)) fun h26=>appSl 5 1 1 #[.int .u8 0] (some (nb h1)) 1 1 (some (nb h25)) 1 h26 fun ra27 rn27 rc27 h27=>appSl 5 1 1 #[.int .u8 0] ra27 rn27 rc27 t106_0.a t106_0.n h27 fun ra28 rn28 rc28 h28=>R (.slice ra28 rn28 rc28:Value) h28) (Cond (t25 == (11:Int)) (∃ t123:Bool,cell h2 ((nb h).add 3)=some (.bool t123)∧∃ t125:Int,cell h2 ((nb h).add 5)=some (.int .i64 t125)∧∃ t127:Sl,cell h2 ((nb h).add 6)=some (.slice t127.a t127.n t127.c)∧CallTo Try.prog 26 #[.pointer a0,.bool t123,.int .i64 t125,.slice t127.a t127.n t127.c] h2 fun r h29=>∃ t128_0:Int,∃ t128_1:Int,r=.tuple #[.int .i64 t128_0,.int .i64 t128_1]∧CallTo Try.prog 11 #[.int .i64 t128_1] h29 fun r h30=>∃ t133:Int,r=.int .i64 t133∧0 ≤ (8:Int)∧Let (h30.push (.cells #[.int .u8 (IntKind.wrap .u8 t133),.int .u8 (IntKind.wrap .u8 t128_0),.int .u8 (IntKind.wrap .u8 (Int.fdiv t128_0 (2 ^ (min (8:Int).toNat (IntKind.bits .i64)))))] 5)) fun h31=>appSl 5 1 1 #[.int .u8 0] (some (nb h1)) 1 1 (some (nb h30)) 3 h31 fun ra32 rn32 rc32 h32=>R (.slice ra32 rn32 rc32:Value) h32) (Cond (t25 == (12:Int)) (∃ t147:Int,cell h2 ((nb h).add 4)=some (.int .i64 t147)∧∃ t149:Int,cell h2 ((nb h).add 5)=some (.int .i64 t149)∧CallTo Try.prog 15 #[.pointer a0,.int .i64 t147,.int .i64 t149] h2 fun r h33=>∃ t150_0:Sl,∃ t150_1:Int,r=.tuple #[.slice t150_0.a t150_0.n t150_0.c,.int .i64 t150_1]∧CallTo Try.prog 11 #[.int .i64 t150_1] h33 fun r h34=>∃ t155:Int,r=.int .i64 t155∧0 ≤ (8:Int)∧Let (h34.push (.cells #[.int .u8 (IntKind.wrap .u8 t155),.int .u8 (IntKind.wrap .u8 (((t150_0.n:Nat):Int))),.int .u8 (IntKind.wrap .u8 (Int.fdiv (((t150_0.n:Nat):Int)) (2 ^ (min (8:Int).toNat (IntKind.bits .i64)))))] 5)) fun h35=>appSl 5 1 1 #[.int .u8 0] (some (nb h1)) 1 1 (some (nb h34)) 3 h35 fun ra36 rn36 rc36 h36=>LoopEv (evC Try.prog tab lv33 (sub [1,1,0,1,0,1,1,1,1,1,1,1,1,1,1,1,1,1,1,1,0,1,1,1,0,0] body33)) (contAt Try.prog tab lv33 [1,1,0,1,0,1,1,1,1,1,1,1,1,1,1,1,1,1,1,1,0,1,1,1,0] body33 [] (bodyK Try.prog Try.f33 [] R)) [(5,.slice ra36 rn36 rc36),(16,.slice t150_0.a t150_0.n t150_0.c),(18,.int .i64 0)] 207 h36) (Cond (t25 == (4:Int)) (CallTo Try.prog 16 #[.pointer a0] h2 fun r h40=>∃ t197:Int,r=.int .i64 t197∧0 ≤ (8:Int)∧Let (h40.push (.cells #[.int .u8 (IntKind.wrap .u8 t197),.int .u8 (IntKind.wrap .u8 (Int.fdiv t197 (2 ^ (min (8:Int).toNat (IntKind.bits .i64)))))] 5)) fun h41=>appSl 5 1 1 #[.int .u8 0] (some (nb h1)) 1 1 (some (nb h40)) 2 h41 fun ra42 rn42 rc42 h42=>R (.slice ra42 rn42 rc42:Value) h42) (R ((.slice (some (nb h1)) 1 1:Value)) h2)))))))))
theorem f33F_eq (a0:Option Addr) (a1_0:Int) (a1_1:Int) (a1_2:Int) (a1_3:Bool) (a1_4:Int) (a1_5:Int) (a1_6:Sl) (h:Hp) (R:Value→Hp→Prop):evF Try.prog tab lv33 Try.f33 body33 [] [.pointer a0,.agg #[.int .i64 a1_0,.int .i64 a1_1,.int .i64 a1_2,.bool a1_3,.int .i64 a1_4,.int .i64 a1_5,.slice a1_6.a a1_6.n a1_6.c]] h R=f33F a0 a1_0 a1_1 a1_2 a1_3 a1_4 a1_5 a1_6 h R:=by kernel_rfl
theorem f33F_ok {a0:Option Addr} {a1_0:Int} {a1_1:Int} {a1_2:Int} {a1_3:Bool} {a1_4:Int} {a1_5:Int} {a1_6:Sl} {h:Hp} {R:Value→Hp→Prop} (hF:f33F a0 a1_0 a1_1 a1_2 a1_3 a1_4 a1_5 a1_6 h R):CallTo Try.prog 33 #[.pointer a0,.agg #[.int .i64 a1_0,.int .i64 a1_1,.int .i64 a1_2,.bool a1_3,.int .i64 a1_4,.int .i64 a1_5,.slice a1_6.a a1_6.n a1_6.c]] h R :=
 callTo_of_ev (lv:=lv33) (hints:=[]) (c:=body33) (args:=[.pointer a0,.agg #[.int .i64 a1_0,.int .i64 a1_1,.int .i64 a1_2,.bool a1_3,.int .i64 a1_4,.int .i64 a1_5,.slice a1_6.a a1_6.n a1_6.c]]) mixed tab_ok Try.func33 (by kernel_rfl) (by kernel_rfl) (by rw [f33F_eq]; exact hF)
end Go.Ev
set_option linter.all false
set_option maxRecDepth 100000
namespace Go.Ev
open Go.Proofs
/- larder/larderref0.Eq -/
noncomputable def body18:Code:=(Try.f18.body).getD .skip
def lv18 (m:Nat):List Nat:=[]
def f18F (a0:Sl) (a1:Sl) (h:Hp) (R:Value→Hp→Prop):Prop :=
 CallTo Try.prog 51 #[.slice a0.a a0.n a0.c,.slice a1.a a1.n a1.c] h fun r h1=>∃ t7:Int,r=.int .i64 t7∧R ((.bool (t7 == (0:Int)):Value)) h1
theorem f18F_eq (a0:Sl) (a1:Sl) (h:Hp) (R:Value→Hp→Prop):evF Try.prog tab lv18 Try.f18 body18 [] [.slice a0.a a0.n a0.c,.slice a1.a a1.n a1.c] h R=f18F a0 a1 h R:=by kernel_rfl
theorem f18F_ok {a0:Sl} {a1:Sl} {h:Hp} {R:Value→Hp→Prop} (hF:f18F a0 a1 h R):CallTo Try.prog 18 #[.slice a0.a a0.n a0.c,.slice a1.a a1.n a1.c] h R :=
 callTo_of_ev (lv:=lv18) (hints:=[]) (c:=body18) (args:=[.slice a0.a a0.n a0.c,.slice a1.a a1.n a1.c]) mixed tab_ok Try.func18 (by kernel_rfl) (by kernel_rfl) (by rw [f18F_eq]; exact hF)
/- larder/larderref0.EqLists -/
noncomputable def body30:Code:=(Try.f30.body).getD .skip
def lv30 (m:Nat):List Nat:=if m=4 then [0,1,5] else []
def f30I1 (J:Nat→Sl→Sl→Int→Hp→Prop) (n:Nat) (env:List Value) (h:Hp):Prop:=lenIs env 27 (DecL env 0 fun s0=>DecL env 1 fun s1=>DecI .i64 env 5 fun s5=>J n s0 s1 s5 h)
def f30L1 (J1:Nat→Sl→Sl→Int→Hp→Prop) (n1:Nat) (s0:Sl) (s1:Sl) (s5:Int) (g:Nat→Value) (h:Hp) (R:Value→Hp→Prop):Prop :=
 Cond (decide (s5 < (((s0.n:Nat):Int)))) ((0 ≤ s5∧s5 < ((s0.n:Nat):Int))∧PtrOk s0.a fun p19=>∃ t20:Sl,cell h (p19.add (s5.toNat * 1))=some (.slice t20.a t20.n t20.c)∧(0 ≤ s5∧s5 < ((s1.n:Nat):Int))∧PtrOk s1.a fun p23=>∃ t24:Sl,cell h (p23.add (s5.toNat * 1))=some (.slice t24.a t24.n t24.c)∧∃ t25:Int,CallTo Try.prog 51 #[.slice t20.a t20.n t20.c,.slice t24.a t24.n t24.c] h (fun v h'=>v=(.int .i64 t25)∧h'=h)∧Cond (t25 != (0:Int)) (R (.bool false:Value) h) (∃ m,m < n1∧J1 m s0 s1 (IntKind.wrap .i64 (s5 + (1:Int))) h)) (R (.bool true:Value) h)
theorem f30L1_eq (J1:Nat→Sl→Sl→Int→Hp→Prop) (n1:Nat) (s0:Sl) (s1:Sl) (s5:Int) (g:Nat→Value) (h:Hp) (R:Value→Hp→Prop):(evC Try.prog tab lv30 (sub [1,1,0,1,0,0] body30)) (loopK (f30I1 J1) n1 (contAt Try.prog tab lv30 [1,1,0,1,0] body30 [] (bodyK Try.prog Try.f30 [] R))) (mkEnv 27 [(0,.slice s0.a s0.n s0.c),(1,.slice s1.a s1.n s1.c),(5,.int .i64 s5)] g) h=f30L1 J1 n1 s0 s1 s5 g h R:=by kernel_rfl
theorem f30I1_at (J:Nat→Sl→Sl→Int→Hp→Prop) (n:Nat) (s0:Sl) (s1:Sl) (s5:Int) (g:Nat→Value) (h:Hp):f30I1 J n (mkEnv 27 [(0,.slice s0.a s0.n s0.c),(1,.slice s1.a s1.n s1.c),(5,.int .i64 s5)] g) h=J n s0 s1 s5 h:=by kernel_rfl
theorem f30L1_rule  {R:Value→Hp→Prop} {s0:Sl} {s1:Sl} {s5:Int} {h0:Hp} (J:Nat→Sl→Sl→Int→Hp→Prop) (n0:Nat) (hi:J n0 s0 s1 s5 h0)
  (hr:∀ n s0 s1 s5 g h,J n s0 s1 s5 h→f30L1  J n s0 s1 s5 g h R):LoopEv (evC Try.prog tab lv30 (sub [1,1,0,1,0,0] body30)) (contAt Try.prog tab lv30 [1,1,0,1,0] body30 [] (bodyK Try.prog Try.f30 [] R)) [(0,.slice s0.a s0.n s0.c),(1,.slice s1.a s1.n s1.c),(5,.int .i64 s5)] 27 h0:=by
 refine ⟨f30I1 J,n0,fun g=>by rw [f30I1_at]; exact hi,fun n env h hI=>?_⟩
 clear hi
 clear s0 s1 s5
 obtain ⟨hlen,hI⟩:=Cond_true' hI
 have hlen:env.length=27:=by simpa using hlen
 obtain ⟨s0,es0,hI⟩:=DecL.out hI
 obtain ⟨s1,es1,hI⟩:=DecL.out hI
 obtain ⟨s5,es5,hI⟩:=DecI.out hI
 rw [mkEnv_of (l:=[(0,.slice s0.a s0.n s0.c),(1,.slice s1.a s1.n s1.c),(5,.int .i64 s5)]) hlen (by simp only [List.mem_cons,List.not_mem_nil,or_false,forall_eq_or_imp,forall_eq]; exact ⟨es0,es1,es5⟩)]
 rw [f30L1_eq]
 exact hr n s0 s1 s5 _ h hI
def f30F (a0:Sl) (a1:Sl) (h:Hp) (R:Value→Hp→Prop):Prop :=
 Cond ((((a0.n:Nat):Int)) != (((a1.n:Nat):Int))) (R (.bool false:Value) h) (LoopEv (evC Try.prog tab lv30 (sub [1,1,0,1,0,0] body30)) (contAt Try.prog tab lv30 [1,1,0,1,0] body30 [] (bodyK Try.prog Try.f30 [] R)) [(0,.slice a0.a a0.n a0.c),(1,.slice a1.a a1.n a1.c),(5,.int .i64 0)] 27 h)
theorem f30F_eq (a0:Sl) (a1:Sl) (h:Hp) (R:Value→Hp→Prop):evF Try.prog tab lv30 Try.f30 body30 [] [.slice a0.a a0.n a0.c,.slice a1.a a1.n a1.c] h R=f30F a0 a1 h R:=by kernel_rfl
theorem f30F_ok {a0:Sl} {a1:Sl} {h:Hp} {R:Value→Hp→Prop} (hF:f30F a0 a1 h R):CallTo Try.prog 30 #[.slice a0.a a0.n a0.c,.slice a1.a a1.n a1.c] h R :=
 callTo_of_ev (lv:=lv30) (hints:=[]) (c:=body30) (args:=[.slice a0.a a0.n a0.c,.slice a1.a a1.n a1.c]) mixed tab_ok Try.func30 (by kernel_rfl) (by kernel_rfl) (by rw [f30F_eq]; exact hF)
/- larder/larderref0.Cmp -/
noncomputable def body51:Code:=(Try.f51.body).getD .skip
def lv51 (m:Nat):List Nat:=if m=2 then [0,1,5] else []
def f51I1 (J:Nat→Sl→Sl→Int→Hp→Prop) (n:Nat) (env:List Value) (h:Hp):Prop:=lenIs env 46 (DecL env 0 fun s0=>DecL env 1 fun s1=>DecI .i64 env 5 fun s5=>J n s0 s1 s5 h)
def f51K1 (J1:Nat→Sl→Sl→Int→Hp→Prop) (n1:Nat) (x0:Sl) (x1:Sl) (x5:Int) (x15:Bool) (h:Hp) (R:Value→Hp→Prop):Prop :=
 Cond x15 ((0 ≤ x5∧x5 < ((x0.n:Nat):Int))∧PtrOk x0.a fun p20=>∃ t21:Int,cell h (p20.add (x5.toNat * 1))=some (.int .u8 t21)∧(0 ≤ x5∧x5 < ((x1.n:Nat):Int))∧PtrOk x1.a fun p24=>∃ t25:Int,cell h (p24.add (x5.toNat * 1))=some (.int .u8 t25)∧Cond (decide (t21 < t25)) (R ((.int .i64 (-1):Value)) h) ((0 ≤ x5∧x5 < ((x0.n:Nat):Int))∧PtrOk x0.a fun p29=>∃ t30:Int,cell h (p29.add (x5.toNat * 1))=some (.int .u8 t30)∧(0 ≤ x5∧x5 < ((x1.n:Nat):Int))∧PtrOk x1.a fun p33=>∃ t34:Int,cell h (p33.add (x5.toNat * 1))=some (.int .u8 t34)∧Cond (decide (t30 > t34)) (R (.int .i64 1:Value) h) (∃ m,m < n1∧J1 m x0 x1 (IntKind.wrap .i64 (x5 + (1:Int))) h))) (Cond (decide ((((x0.n:Nat):Int)) < (((x1.n:Nat):Int)))) (R ((.int .i64 (-1):Value)) h) (Cond (decide ((((x0.n:Nat):Int)) > (((x1.n:Nat):Int)))) (R (.int .i64 1:Value) h) (R (.int .i64 0:Value) h)))
def f51L1 (J1:Nat→Sl→Sl→Int→Hp→Prop) (n1:Nat) (s0:Sl) (s1:Sl) (s5:Int) (g:Nat→Value) (h:Hp) (R:Value→Hp→Prop):Prop :=
 Cond (decide (s5 < (((s0.n:Nat):Int)))) (f51K1 J1 n1 s0 s1 s5 (decide (s5 < (((s1.n:Nat):Int)))) h R) (f51K1 J1 n1 s0 s1 s5 false h R)
theorem f51L1_eq (J1:Nat→Sl→Sl→Int→Hp→Prop) (n1:Nat) (s0:Sl) (s1:Sl) (s5:Int) (g:Nat→Value) (h:Hp) (R:Value→Hp→Prop):(evC Try.prog tab lv51 (sub [1,0,1,0,0] body51)) (loopK (f51I1 J1) n1 (contAt Try.prog tab lv51 [1,0,1,0] body51 [] (bodyK Try.prog Try.f51 [] R))) (mkEnv 46 [(0,.slice s0.a s0.n s0.c),(1,.slice s1.a s1.n s1.c),(5,.int .i64 s5)] g) h=f51L1 J1 n1 s0 s1 s5 g h R:=by kernel_rfl
theorem f51I1_at (J:Nat→Sl→Sl→Int→Hp→Prop) (n:Nat) (s0:Sl) (s1:Sl) (s5:Int) (g:Nat→Value) (h:Hp):f51I1 J n (mkEnv 46 [(0,.slice s0.a s0.n s0.c),(1,.slice s1.a s1.n s1.c),(5,.int .i64 s5)] g) h=J n s0 s1 s5 h:=by kernel_rfl
theorem f51L1_rule  {R:Value→Hp→Prop} {s0:Sl} {s1:Sl} {s5:Int} {h0:Hp} (J:Nat→Sl→Sl→Int→Hp→Prop) (n0:Nat) (hi:J n0 s0 s1 s5 h0)
  (hr:∀ n s0 s1 s5 g h,J n s0 s1 s5 h→f51L1  J n s0 s1 s5 g h R):LoopEv (evC Try.prog tab lv51 (sub [1,0,1,0,0] body51)) (contAt Try.prog tab lv51 [1,0,1,0] body51 [] (bodyK Try.prog Try.f51 [] R)) [(0,.slice s0.a s0.n s0.c),(1,.slice s1.a s1.n s1.c),(5,.int .i64 s5)] 46 h0:=by
 refine ⟨f51I1 J,n0,fun g=>by rw [f51I1_at]; exact hi,fun n env h hI=>?_⟩
 clear hi
 clear s0 s1 s5
 obtain ⟨hlen,hI⟩:=Cond_true' hI
 have hlen:env.length=46:=by simpa using hlen
 obtain ⟨s0,es0,hI⟩:=DecL.out hI
 obtain ⟨s1,es1,hI⟩:=DecL.out hI
 obtain ⟨s5,es5,hI⟩:=DecI.out hI
 rw [mkEnv_of (l:=[(0,.slice s0.a s0.n s0.c),(1,.slice s1.a s1.n s1.c),(5,.int .i64 s5)]) hlen (by simp only [List.mem_cons,List.not_mem_nil,or_false,forall_eq_or_imp,forall_eq]; exact ⟨es0,es1,es5⟩)]
 rw [f51L1_eq]
 exact hr n s0 s1 s5 _ h hI
def f51F (a0:Sl) (a1:Sl) (h:Hp) (R:Value→Hp→Prop):Prop :=
 LoopEv (evC Try.prog tab lv51 (sub [1,0,1,0,0] body51)) (contAt Try.prog tab lv51 [1,0,1,0] body51 [] (bodyK Try.prog Try.f51 [] R)) [(0,.slice a0.a a0.n a0.c),(1,.slice a1.a a1.n a1.c),(5,.int .i64 0)] 46 h
theorem f51F_eq (a0:Sl) (a1:Sl) (h:Hp) (R:Value→Hp→Prop):evF Try.prog tab lv51 Try.f51 body51 [] [.slice a0.a a0.n a0.c,.slice a1.a a1.n a1.c] h R=f51F a0 a1 h R:=by kernel_rfl
theorem f51F_ok {a0:Sl} {a1:Sl} {h:Hp} {R:Value→Hp→Prop} (hF:f51F a0 a1 h R):CallTo Try.prog 51 #[.slice a0.a a0.n a0.c,.slice a1.a a1.n a1.c] h R :=
 callTo_of_ev (lv:=lv51) (hints:=[]) (c:=body51) (args:=[.slice a0.a a0.n a0.c,.slice a1.a a1.n a1.c]) mixed tab_ok Try.func51 (by kernel_rfl) (by kernel_rfl) (by rw [f51F_eq]; exact hF)
end Go.Ev
set_option linter.all false
set_option maxRecDepth 1000000
namespace Go.Ev
open Go.Proofs
def I64 (n:Int):Prop:=-9223372036854775808 ≤ n∧n < 9223372036854775808
section
variable {h h' h2:Hp} {q q' q2:HQ} {s s':RS} {nd:List NodeD} {b t:List Nat} {id:Nat} {R:Value→Hp→Prop}
theorem cmp_ok {a c:Sl} {l:List Nat} (ha:ReadsO h a.a (l.map bv)) (hb:ReadsO h c.a (l.map bv)) (na:a.n=l.length) (nb:c.n=l.length) (hn:l.length < 9223372036854775807) (hR:R (.int .i64 0) h) :
  CallTo Try.prog 51 #[.slice a.a a.n a.c,.slice c.a c.n c.c] h R:=by
 refine f51F_ok ?_
 unfold f51F
 refine f51L1_rule (s0:=a) (s1:=c) (fun q s0 s1 s5 h'=>∃ i:Nat,i ≤ l.length∧q=l.length - i∧a=s0∧c=s1∧s5=(i:Int)∧h=h') l.length ⟨0,Nat.zero_le _,rfl,rfl,rfl,rfl,rfl⟩ ?_
 rintro q s0 s1 s5 g0 h2 ⟨i,hi,rfl,rfl,rfl,rfl,rfl⟩
 have hend:∀ J,¬ i < l.length→f51K1 J (l.length - i) a c (i:Int) false h R:=fun J _=>by
  unfold f51K1
  refine Cond_f rfl (Cond_f (by rw [na,nb]; simp) (Cond_f (by rw [na,nb]; simp) hR))
 unfold f51L1
 refine Cond_dec (fun hlt=>?_) (fun hlt=>hend _ (by rw [na] at hlt; omega))
 have hil:i < l.length:=by rw [na] at hlt; omega
 have e0:(l.map bv)[i]?=some (bv l[i]):=by rw [List.getElem?_map,List.getElem?_eq_getElem hil]; rfl
 obtain ⟨p,hp,cp⟩:=readsO_get ha e0
 obtain ⟨p',hp',cp'⟩:=readsO_get hb e0
 unfold f51K1
 refine Cond_t (by rw [nb]; exact decide_eq_true (by omega)) ?_
 refine ⟨⟨by omega,hlt⟩,PtrOk_mk' hp ⟨_,by rw [Int.toNat_natCast,Nat.mul_one]; exact cp,⟨by omega,by rw [nb]; omega⟩,PtrOk_mk' hp' ⟨_,by rw [Int.toNat_natCast,Nat.mul_one]; exact cp',Cond_f (by simp) ?_⟩⟩⟩
 refine ⟨⟨by omega,hlt⟩,PtrOk_mk' hp ⟨_,by rw [Int.toNat_natCast,Nat.mul_one]; exact cp,⟨by omega,by rw [nb]; omega⟩,PtrOk_mk' hp' ⟨_,by rw [Int.toNat_natCast,Nat.mul_one]; exact cp',Cond_f (by simp) ?_⟩⟩⟩
 refine ⟨l.length - (i + 1),by omega,i + 1,hil,rfl,rfl,rfl,?_,rfl⟩
 rw [wrap_i64' (by omega) (by omega)]; rfl
/-- The graph only grows. -/
def Gr (nd nd':List NodeD):Prop:=∀ (i:Nat) (n:NodeD),nd[i]?=some n→nd'[i]?=some n
theorem Gr.refl (nd:List NodeD):Gr nd nd:=fun _ _ h=>h
theorem Gr.trans {a b c:List NodeD} (x:Gr a b) (y:Gr b c):Gr a c:=fun i n h=>y i n (x i n h)
theorem Gr.app (nd l:List NodeD):Gr nd (nd ++ l):=fun i n h=>by rw [List.getElem?_append_left (List.getElem?_eq_some_iff.1 h).1]; exact h
/-- Something comes or goes that no handle holds. -/
structure Idle (s:RS) (nd:List NodeD) (s':RS) (nd':List NodeD):Prop where
 sh:s'.Shd nd'
 gr:Gr nd nd'
 rt:s'.roots=s.roots
 lm:s'.limit=s.limit
theorem Idle.refl (sh:s.Shd nd):Idle s nd s nd:=⟨sh,Gr.refl _,rfl,rfl⟩
theorem Idle.trans {s2:RS} {nd' nd2:List NodeD} (a:Idle s nd s' nd') (b:Idle s' nd' s2 nd2):Idle s nd s2 nd2:=⟨b.sh,a.gr.trans b.gr,b.rt.trans a.rt,b.lm.trans a.lm⟩
theorem Idle.collect (v:s.Inv) (sh:s.Shd nd):Idle s nd s.collect nd:=⟨sh.sub (RS.Sub.collect v),Gr.refl _,(RS.Sub.collect v).roots,RS.collect_lim⟩
theorem Idle.alloc (v:s.Inv) (sh:s.Shd nd) (k r w:Int):∃ nd',Idle s nd (s.alloc k r w).1 nd':=by
 have lm:=RS.alloc_lim (s:=s) k r w
 rcases RS.alloc_cases v k r w with ⟨_,e⟩ | ⟨_,t,st,vt,e | ⟨t',ref,e,n⟩⟩
 ·rw [e]; exact ⟨nd,Idle.refl sh⟩
 ·rw [e] at lm ⊢; exact ⟨nd,sh.sub st,Gr.refl _,st.roots,lm⟩
 ·rw [e] at lm ⊢; exact ⟨_,n.shd vt (sh.sub st),Gr.app _ _,n.roots.trans st.roots,lm⟩
end
end Go.Ev
set_option linter.all false
set_option maxRecDepth 1000000
namespace Go.Ev
open Go.Proofs
/-- Lists of bytes, where they lie: none of the heap's own memory. -/
structure RL (h:Hp) (q:HQ) (a:Sl) (sls:List Sl) (rows:List (List Nat)):Prop where
 rd:ReadsO h a.a (sls.map slV)
 n:a.n=sls.length
 len:sls.length=rows.length
 each:∀ (i:Nat) (c:Sl) (r:List Nat),sls[i]?=some c→rows[i]?=some r→Src h q c r∧c.n ≤ c.c∧r.length < 140737488355328
 out:∀ p,a.a=some p→sls ≠ []→q.role p.block=.out∧p.block < h.size
section
variable {h h' h2 h0:Hp} {q q' q2:HQ} {s s' s2:RS} {nd nd' nd2:List NodeD} {n:NodeD} {id lb hn:Nat} {L L' L2:LD} {R:Value→Hp→Prop} {b:List Nat} {ids:List Nat} {lim:Nat} {a:Sl} {sls:List Sl} {rows:List (List Nat)}
theorem RL.ex (x:RL h q a sls rows) (e:Ex h q h' q'):RL h' q' a sls rows :=
 ⟨reads_kept2 e.kept x.rd fun p hp hn=>(have hn':sls ≠ []:=fun z=>hn (by rw [z]; rfl); ⟨(x.out p hp hn').2,fun hx=>hx (x.out p hp hn').1⟩),x.n,x.len,
  fun i c r hc hr=>(have z:=x.each i c r hc hr; ⟨z.1.ex e,z.2⟩),fun p hp hn=>⟨e.out (x.out p hp hn).2 (x.out p hp hn).1,Nat.lt_of_lt_of_le (x.out p hp hn).2 e.2.1⟩⟩
theorem RL.keepN (x:RL h q a sls rows) (k:Kept N h h') (fr:∀ b,h.size ≤ b→q.role b=.out):RL h' q a sls rows:=x.ex (Ex.of_kept k fr)
theorem RL.get (x:RL h q a sls rows) {i:Nat} {r:List Nat} (hr:rows[i]?=some r):∃ c p,sls[i]?=some c∧a.a=some p∧cell h (p.add (i * 1))=some (.slice c.a c.n c.c)∧Src h q c r∧c.n ≤ c.c∧r.length < 140737488355328∧i < a.n:=by
 have hi:=(List.getElem?_eq_some_iff.1 hr).1
 have hs:sls[i]?=some (sls[i]'(by rw [x.len]; exact hi)):=List.getElem?_eq_getElem _
 obtain ⟨p,hp,hc⟩:=readsO_get x.rd (i:=i) (v:=slV (sls[i]'(by rw [x.len]; exact hi))) (by rw [List.getElem?_map,hs]; rfl)
 obtain ⟨e1,e2,e3⟩:=x.each i _ r hs hr
 exact ⟨_,p,hs,hp,by rw [Nat.mul_one]; exact hc,e1,e2,e3,by rw [x.n,x.len]; exact hi⟩
theorem lnum {n:Int} (hR:R (.int .i64 n) h):CallTo Try.prog 11 #[.int .i64 n] h R:=f11F_ok (by unfold f11F; exact hR)
theorem lwithin {i:Int} {m:Nat} (hm:0 < m) (hm2:m < 100000000) (hi:-9223372036854775808 ≤ i∧i < 9223372036854775808) (hR:R (.int .i64 (i % (m:Int))) h):CallTo Try.prog 10 #[.int .i64 i,.int .i64 (m:Int)] h R:=by
 refine f10F_ok ?_
 unfold f10F
 have m1:=Int.emod_nonneg i (b:=(m:Int)) (by omega)
 have m2:=Int.emod_lt_of_pos i (b:=(m:Int)) (by omega)
 have h1:=Int.tmod_eq_emod (a:=i) (b:=(m:Int))
 refine ⟨by omega,by omega,?_⟩
 have e:Int.tmod (IntKind.wrap .i64 (Int.tmod i (m:Int) + (m:Int))) (m:Int)=i % (m:Int):=by
  have b1:-(m:Int) < Int.tmod i (m:Int)∧Int.tmod i (m:Int) < m:=by split at h1 <;> omega
  rw [wrap_i64' (by omega) (by omega),Int.tmod_eq_emod_of_nonneg (by omega)]
  split at h1
  ·have e0:Int.tmod i (m:Int)=i % (m:Int):=by omega
   rw [e0,Int.add_emod_right,Int.emod_emod_of_dvd _ (Int.dvd_refl _)]
  ·have:Int.tmod i (m:Int) + (m:Int)=i % (m:Int):=by omega
   rw [this,Int.emod_emod_of_dvd _ (Int.dvd_refl _)]
 rw [e]
 exact hR
/-! ### Eq, EqLists -/
theorem leq {a c:Sl} {l:List Nat} (ha:ReadsO h a.a (l.map bv)) (hb:ReadsO h c.a (l.map bv)) (na:a.n=l.length) (nc:c.n=l.length) (hl:l.length < 9223372036854775807) (hR:R (.bool true) h) :
  CallTo Try.prog 18 #[.slice a.a a.n a.c,.slice c.a c.n c.c] h R:=by
 refine f18F_ok ?_
 unfold f18F
 exact cmp_ok ha hb na nc hl ⟨_,rfl,hR⟩
theorem RowsAt.get {M:Mem} {cs:List Nat} (x:RowsAt h0 h a M cs rows) {i:Nat} {r:List Nat} (hr:rows[i]?=some r):∃ c b,cs[i]?=some c∧a.a=some (ad b)∧cell h ((ad b).add (i * 1))=some (.slice (some (ad c)) r.length r.length)∧Row h c (r.map bv)∧i < a.n:=by
 have hi:=(List.getElem?_eq_some_iff.1 hr).1
 have hc:cs[i]?=some (cs[i]'(by rw [x.len]; exact hi)):=List.getElem?_eq_getElem _
 obtain ⟨b,h1,h2,h3,h4⟩:=sl_at x.sl x.sep (rowSls_get hc hr)
 obtain ⟨e1,e2⟩:=x.el i _ r hc hr
 have row:=x.sep.row (i + 1) _ e1
 rw [e2] at row
 exact ⟨_,b,hc,h2,h3,row,by omega⟩
theorem RowsAt.n_eq {M:Mem} {cs:List Nat} (x:RowsAt h0 h a M cs rows):a.n=rows.length:=by have:=x.sl.len; rw [List.length_map,rowSls_len x.len] at this; omega
theorem leqlists {M:Mem} {cs:List Nat} {a c:Sl} (x:RowsAt h0 h a M cs rows) (y:RL h q c sls rows) (hbig:rows.length < 1000000000) (hR:R (.bool true) h) :
  CallTo Try.prog 30 #[.slice a.a a.n a.c,.slice c.a c.n c.c] h R:=by
 have xn:=x.n_eq
 have yn:=y.n
 have yl:=y.len
 refine f30F_ok ?_
 unfold f30F
 refine Cond_f (by rw [xn,yn,yl]; exact bne_self_eq_false _) ?_
 refine f30L1_rule (s0:=a) (s1:=c) (fun m s0 s1 s5 h1=>∃ k:Nat,k ≤ rows.length∧m=rows.length - k∧a=s0∧c=s1∧s5=(k:Int)∧h=h1) rows.length ⟨0,Nat.zero_le _,rfl,rfl,rfl,rfl,rfl⟩ ?_
 rintro m s0 s1 s5 g h1 ⟨k,hk,rfl,rfl,rfl,rfl,rfl⟩
 unfold f30L1
 refine Cond_dec (fun hlt=>?_) fun _=>hR
 have hkr:k < rows.length:=by omega
 have hr:rows[k]?=some (rows[k]'hkr):=List.getElem?_eq_getElem hkr
 obtain ⟨d,bk,_,ha,hc1,row,_⟩:=x.get hr
 obtain ⟨e,p,_,hp,hc2,src,_,hl,_⟩:=y.get hr
 refine ⟨⟨by omega,by omega⟩,PtrOk_of ha ⟨⟨_,_,_⟩,by rw [Int.toNat_natCast]; exact hc1,⟨by omega,by omega⟩,PtrOk_of hp ⟨e,by rw [Int.toNat_natCast]; exact hc2,_,cmp_ok (a:=⟨some (ad d),_,_⟩) (row_reads row) src.rd rfl src.n (by omega) ⟨rfl,rfl⟩,Cond_f rfl ?_⟩⟩⟩
 exact ⟨rows.length - (k + 1),by omega,k + 1,by omega,rfl,rfl,rfl,by rw [wrap_i64' (by omega) (by omega)]; rfl,rfl⟩
/-! ### holds -/
/-! ### A great heap with one list of short elements -/
theorem wordsN_le (n:Nat):wordsN n ≤ n / 8 + 1:=by unfold wordsN; omega
end
end Go.Ev
