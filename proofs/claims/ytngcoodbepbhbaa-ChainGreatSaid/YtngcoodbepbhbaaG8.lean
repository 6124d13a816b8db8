/- Printed by a program (own work) out of the loaded functions: what each says of the heap, and that the evaluator says the same. No condition but that these are ones. -/
import Derived.Test.YtngcoodbepbhbaaG4
import Derived.Test.YtngcoodbepbhbaaG7
set_option linter.all false
set_option maxRecDepth 100000
namespace Go.Ev
open Go.Proofs
/- larder/heap.New -/
noncomputable def body9:Code:=(Try.f9.body).getD .skip
def lv9 (m:Nat):List Nat:=[]
def f9K1  (x0:Int) (x10:Bool) (h:Hp) (R:Value→Hp→Prop):Prop :=
 Cond x10 (R (.tuple #[.pointer none,.int .i64 30]:Value) h) (Let (h.push (.cells #[.int .i64 x0,.pointer none,.pointer none,.slice none 0 0,.slice none 0 0,.slice none 0 0,.int .i64 0,.int .i64 0,.int .i64 0,.slice none 0 0,.int .i64 0,.int .i64 0,.int .i64 0,.int .i64 0,.int .i64 0,.int .i64 0,.int .i64 0,.int .i64 0,.int .i64 0] 103)) fun h1=>CallTo Try.prog 39 #[.int .i64 64] h1 fun r h2=>∃ t16_0:Option Addr,∃ t16_1:Int,r=.tuple #[.pointer t16_0,.int .i64 t16_1]∧stOk h2 ((nb h).add 1)∧Let (setc h2 ((nb h).add 1) (.pointer t16_0)) fun h3=>CallTo Try.prog 39 #[.int .i64 64] h3 fun r h4=>∃ t23_0:Option Addr,∃ t23_1:Int,r=.tuple #[.pointer t23_0,.int .i64 t23_1]∧stOk h4 ((nb h).add 2)∧Let (setc h4 ((nb h).add 2) (.pointer t23_0)) fun h5=>R ((.tuple #[.pointer (some (nb h)),.int .i64 0]:Value)) h5)
def f9F (a0:Int) (h:Hp) (R:Value→Hp→Prop):Prop :=
 Cond (decide (a0 < (128:Int))) (f9K1  a0 true h R) (f9K1  a0 (decide (a0 > (1048576:Int))) h R)
theorem f9F_eq (a0:Int) (h:Hp) (R:Value→Hp→Prop):evF Try.prog tab lv9 Try.f9 body9 [] [.int .i64 a0] h R=f9F a0 h R:=by kernel_rfl
theorem f9F_ok {a0:Int} {h:Hp} {R:Value→Hp→Prop} (hF:f9F a0 h R):CallTo Try.prog 9 #[.int .i64 a0] h R :=
 callTo_of_ev (lv:=lv9) (hints:=[]) (c:=body9) (args:=[.int .i64 a0]) mixed tab_ok Try.func9 (by kernel_rfl) (by kernel_rfl) (by rw [f9F_eq]; exact hF)
/- (*larder/heap.Heap).Stats -/
/- (*larder/heap.Heap).Collect -/
/- (*larder/heap.Heap).Resize -/
/- (*larder/heap.Heap).Alloc -/
noncomputable def body40:Code:=(Try.f40.body).getD .skip
def lv40 (m:Nat):List Nat:=[]
def f40K1  (x0:Option Addr) (x1:Int) (x2:Int) (x3:Int) (x34:Bool) (h:Hp) (R:Value→Hp→Prop):Prop :=
 Cond x34 (R (.tuple #[.int .u64 0,.int .i64 34]:Value) h) (Cond (decide ((IntKind.wrap .i64 ((IntKind.wrap .i64 ((1:Int) + x2)) + x3)) > (64:Int))) (CallTo Try.prog 64 #[.pointer x0,.int .i64 x1,.int .i64 x2,.int .i64 x3,.int .i64 (IntKind.wrap .i64 ((IntKind.wrap .i64 ((1:Int) + x2)) + x3))] h fun r h1=>∃ t46_0:Int,∃ t46_1:Int,r=.tuple #[.int .u64 t46_0,.int .i64 t46_1]∧R (.tuple #[.int .u64 t46_0,.int .i64 t46_1]:Value) h1) (PtrOk x0 fun p50=>∃ t52:Option Addr,cell h (p50.add 1)=some (.pointer t52)∧∃ t53:Int,CallTo Try.prog 50 #[.pointer t52] h (fun v h'=>v=(.int .i64 t53)∧h'=h)∧PtrOk x0 fun p57=>∃ t59:Option Addr,cell h (p57.add 1)=some (.pointer t59)∧∃ t60:Int,CallTo Try.prog 49 #[.pointer t59] h (fun v h'=>v=(.int .i64 t60)∧h'=h)∧Cond (decide ((IntKind.wrap .i64 (t53 + (IntKind.wrap .i64 ((IntKind.wrap .i64 ((1:Int) + x2)) + x3)))) > t60)) (CallTo Try.prog 56 #[.pointer x0] h fun r h4=>r=.tuple #[]∧CallTo Try.prog 57 #[.pointer x0,.int .i64 (IntKind.wrap .i64 ((IntKind.wrap .i64 ((1:Int) + x2)) + x3))] h4 fun r h5=>r=.tuple #[]∧PtrOk x0 fun p69=>∃ t71:Option Addr,cell h5 (p69.add 1)=some (.pointer t71)∧CallTo Try.prog 65 #[.pointer t71,.int .i64 x1,.int .i64 x2,.int .i64 x3] h5 fun r h6=>∃ t75_0:Int,∃ t75_1:Int,r=.tuple #[.int .i64 t75_0,.int .i64 t75_1]∧Cond (t75_1 != (0:Int)) (R (.tuple #[.int .u64 0,.int .i64 31]:Value) h6) (R ((.tuple #[.int .u64 (IntKind.wrap .u64 t75_0),.int .i64 0]:Value)) h6)) (PtrOk x0 fun p69=>∃ t71:Option Addr,cell h (p69.add 1)=some (.pointer t71)∧CallTo Try.prog 65 #[.pointer t71,.int .i64 x1,.int .i64 x2,.int .i64 x3] h fun r h7=>∃ t75_0:Int,∃ t75_1:Int,r=.tuple #[.int .i64 t75_0,.int .i64 t75_1]∧Cond (t75_1 != (0:Int)) (R (.tuple #[.int .u64 0,.int .i64 31]:Value) h7) (R ((.tuple #[.int .u64 (IntKind.wrap .u64 t75_0),.int .i64 0]:Value)) h7))))
def f40F (a0:Option Addr) (a1:Int) (a2:Int) (a3:Int) (h:Hp) (R:Value→Hp→Prop):Prop :=
 Cond (decide (a1 < (1:Int))) (f40K1  a0 a1 a2 a3 true h R) (Cond (decide (a1 > (255:Int))) (f40K1  a0 a1 a2 a3 true h R) (Cond (decide (a2 < (0:Int))) (f40K1  a0 a1 a2 a3 true h R) (Cond (decide (a2 > (1048576:Int))) (f40K1  a0 a1 a2 a3 true h R) (Cond (decide (a3 < (0:Int))) (f40K1  a0 a1 a2 a3 true h R) (f40K1  a0 a1 a2 a3 (decide (a3 > (1048576:Int))) h R)))))
theorem f40F_eq (a0:Option Addr) (a1:Int) (a2:Int) (a3:Int) (h:Hp) (R:Value→Hp→Prop):evF Try.prog tab lv40 Try.f40 body40 [] [.pointer a0,.int .i64 a1,.int .i64 a2,.int .i64 a3] h R=f40F a0 a1 a2 a3 h R:=by kernel_rfl
theorem f40F_ok {a0:Option Addr} {a1:Int} {a2:Int} {a3:Int} {h:Hp} {R:Value→Hp→Prop} (hF:f40F a0 a1 a2 a3 h R):CallTo Try.prog 40 #[.pointer a0,.int .i64 a1,.int .i64 a2,.int .i64 a3] h R :=
 callTo_of_ev (lv:=lv40) (hints:=[]) (c:=body40) (args:=[.pointer a0,.int .i64 a1,.int .i64 a2,.int .i64 a3]) mixed tab_ok Try.func40 (by kernel_rfl) (by kernel_rfl) (by rw [f40F_eq]; exact hF)
/- (*larder/heap.Heap).collect -/
noncomputable def body56:Code:=(Try.f56.body).getD .skip
def lv56 (m:Nat):List Nat:=if m=2 then [0,15,16] else if m=8 then [0,3] else if m=17 then [0,122,123] else []
def f56I1 (J:Nat→Option Addr→Int→Int→Hp→Prop) (n:Nat) (env:List Value) (h:Hp):Prop:=lenIs env 192 (DecP env 0 fun s0=>DecI .i64 env 15 fun s15=>DecI .i64 env 16 fun s16=>J n s0 s15 s16 h)
def f56I2 (J:Nat→Option Addr→Int→Hp→Prop) (n:Nat) (env:List Value) (h:Hp):Prop:=lenIs env 192 (DecP env 0 fun s0=>DecI .i64 env 3 fun s3=>J n s0 s3 h)
def f56I3 (J:Nat→Option Addr→Int→Int→Hp→Prop) (n:Nat) (env:List Value) (h:Hp):Prop:=lenIs env 192 (DecP env 0 fun s0=>DecI .i64 env 122 fun s122=>DecI .i64 env 123 fun s123=>J n s0 s122 s123 h)
def f56K1 (J1:Nat→Option Addr→Int→Int→Hp→Prop) (n1:Nat) (x0:Option Addr) (x15:Int) (x16:Int) (h:Hp) (R:Value→Hp→Prop):Prop :=
 ∃ m,m < n1∧J1 m x0 x15 (IntKind.wrap .i64 (x16 + (1:Int))) h
def f56K2 (J2:Nat→Option Addr→Int→Hp→Prop) (n2:Nat) (x0:Option Addr) (x3:Int) (x59:Bool) (h:Hp) (R:Value→Hp→Prop):Prop :=
 Cond x59 (PtrOk x0 fun p62=>∃ t64:Option Addr,cell h (p62.add 2)=some (.pointer t64)∧CallTo Try.prog 50 #[.pointer t64] h fun r h5=>∃ t65:Int,r=.int .i64 t65∧Cond (decide (x3 < t65)) (PtrOk x0 fun p70=>∃ t72:Option Addr,cell h5 (p70.add 2)=some (.pointer t72)∧CallTo Try.prog 74 #[.pointer x0,.iface 98 (.pointer t72),.int .i64 x3] h5 fun r h6=>∃ t75:Int,r=.int .i64 t75∧∃ m,m < n2∧J2 m x0 (IntKind.wrap .i64 (x3 + t75)) h6) (PtrOk x0 fun p78=>∃ t80:Sl,cell h5 (p78.add 5)=some (.slice t80.a t80.n t80.c)∧(0 ≤ (0:Int)∧(0:Int) < ((t80.n:Nat):Int))∧PtrOk t80.a fun p81=>∃ t82:Int,cell h5 (p81.add ((0:Int).toNat * 1))=some (.int .i64 t82)∧PtrOk x0 fun p85=>∃ t87:Sl,cell h5 (p85.add 5)=some (.slice t87.a t87.n t87.c)∧(0 ≤ (1:Int)∧(1:Int) ≤ ((t87.n:Nat):Int))∧PtrOk x0 fun p89=>stOk h5 (p89.add 5)∧Let (setc h5 (p89.add 5) (.slice (if t87.c=(1:Int).toNat then t87.a else Option.map (fun x=>x.add ((1:Int).toNat * 1)) t87.a) (t87.n - (1:Int).toNat) (t87.c - (1:Int).toNat))) fun h7=>PtrOk x0 fun p93=>∃ t95:Sl,cell h7 (p93.add 3)=some (.slice t95.a t95.n t95.c)∧(0 ≤ t82∧t82 < ((t95.n:Nat):Int))∧PtrOk t95.a fun p97=>∃ t98:Option Addr,cell h7 (p97.add (t82.toNat * 1))=some (.pointer t98)∧CallTo Try.prog 74 #[.pointer x0,.iface 98 (.pointer t98),.int .i64 1] h7 fun r h8=>∃ t100:Int,r=.int .i64 t100∧∃ m,m < n2∧J2 m x0 x3 h8)) (PtrOk x0 fun p104=>∃ t106:Option Addr,cell h (p104.add 2)=some (.pointer t106)∧PtrOk x0 fun p108=>∃ t110:Option Addr,cell h (p108.add 1)=some (.pointer t110)∧PtrOk x0 fun p111=>stOk h (p111.add 1)∧Let (setc h (p111.add 1) (.pointer t106)) fun h9=>PtrOk x0 fun p113=>stOk h9 (p113.add 2)∧Let (setc h9 (p113.add 2) (.pointer t110)) fun h10=>PtrOk x0 fun p116=>stOk h10 (p116.add 6)∧Let (setc h10 (p116.add 6) (.int .i64 0)) fun h11=>PtrOk x0 fun p119=>∃ t121:Sl,cell h11 (p119.add 3)=some (.slice t121.a t121.n t121.c)∧LoopEv (evC Try.prog tab lv56 (sub [1,1,1,1,1,1,0,1,0,0] body56)) (contAt Try.prog tab lv56 [1,1,1,1,1,1,0,1,0] body56 [] (bodyK Try.prog Try.f56 [] R)) [(0,.pointer x0),(122,.int .i64 (((t121.n:Nat):Int))),(123,.int .i64 0)] 192 h11)
def f56L1 (J1:Nat→Option Addr→Int→Int→Hp→Prop) (n1:Nat) (s0:Option Addr) (s15:Int) (s16:Int) (g:Nat→Value) (h:Hp) (R:Value→Hp→Prop):Prop :=
 Cond (decide (s16 < s15)) (PtrOk s0 fun p20=>∃ t22:Sl,cell h (p20.add 9)=some (.slice t22.a t22.n t22.c)∧(0 ≤ s16∧s16 < ((t22.n:Nat):Int))∧PtrOk t22.a fun p24=>∃ t26:Bool,cell h (p24.add (s16.toNat * 2))=some (.bool t26)∧Cond t26 (PtrOk s0 fun p28=>∃ t30:Sl,cell h (p28.add 9)=some (.slice t30.a t30.n t30.c)∧PtrOk s0 fun p34=>∃ t36:Sl,cell h (p34.add 9)=some (.slice t36.a t36.n t36.c)∧(0 ≤ s16∧s16 < ((t36.n:Nat):Int))∧PtrOk t36.a fun p38=>∃ t40:Int,cell h ((p38.add (s16.toNat * 2)).add 1)=some (.int .u64 t40)∧CallTo Try.prog 73 #[.pointer s0,.int .u64 t40] h fun r h2=>∃ t41:Int,r=.int .u64 t41∧(∃ y0:Sl,cell h2 (p28.add 9)=some (.slice y0.a y0.n y0.c)∧Next.value (.slice y0.a y0.n y0.c)=Next.value (.slice t30.a t30.n t30.c))∧(0 ≤ s16∧s16 < ((t30.n:Nat):Int))∧PtrOk t30.a fun p42=>stOk h2 ((p42.add (s16.toNat * 2)).add 1)∧Let (setc h2 ((p42.add (s16.toNat * 2)).add 1) (.int .u64 t41)) fun h3=>f56K1 J1 n1 s0 s15 s16 h3 R) (f56K1 J1 n1 s0 s15 s16 h R)) (LoopEv (evC Try.prog tab lv56 (sub [1,1,1,0,0,0] body56)) (contAt Try.prog tab lv56 [1,1,1,0,0] body56 [] (bodyK Try.prog Try.f56 [] R)) [(0,.pointer s0),(3,.int .i64 1)] 192 h)
theorem f56L1_eq (J1:Nat→Option Addr→Int→Int→Hp→Prop) (n1:Nat) (s0:Option Addr) (s15:Int) (s16:Int) (g:Nat→Value) (h:Hp) (R:Value→Hp→Prop):(evC Try.prog tab lv56 (sub [1,0,1,0,0] body56)) (loopK (f56I1 J1) n1 (contAt Try.prog tab lv56 [1,0,1,0] body56 [] (bodyK Try.prog Try.f56 [] R))) (mkEnv 192 [(0,.pointer s0),(15,.int .i64 s15),(16,.int .i64 s16)] g) h=f56L1 J1 n1 s0 s15 s16 g h R:=by kernel_rfl
theorem f56I1_at (J:Nat→Option Addr→Int→Int→Hp→Prop) (n:Nat) (s0:Option Addr) (s15:Int) (s16:Int) (g:Nat→Value) (h:Hp):f56I1 J n (mkEnv 192 [(0,.pointer s0),(15,.int .i64 s15),(16,.int .i64 s16)] g) h=J n s0 s15 s16 h:=by kernel_rfl
theorem f56L1_rule  {R:Value→Hp→Prop} {s0:Option Addr} {s15:Int} {s16:Int} {h0:Hp} (J:Nat→Option Addr→Int→Int→Hp→Prop) (n0:Nat) (hi:J n0 s0 s15 s16 h0)
  (hr:∀ n s0 s15 s16 g h,J n s0 s15 s16 h→f56L1  J n s0 s15 s16 g h R):LoopEv (evC Try.prog tab lv56 (sub [1,0,1,0,0] body56)) (contAt Try.prog tab lv56 [1,0,1,0] body56 [] (bodyK Try.prog Try.f56 [] R)) [(0,.pointer s0),(15,.int .i64 s15),(16,.int .i64 s16)] 192 h0:=by
 refine ⟨f56I1 J,n0,fun g=>by rw [f56I1_at]; exact hi,fun n env h hI=>?_⟩
 clear hi
 clear s0 s15 s16
 obtain ⟨hlen,hI⟩:=Cond_true' hI
 have hlen:env.length=192:=by simpa using hlen
 obtain ⟨s0,es0,hI⟩:=DecP.out hI
 obtain ⟨s15,es15,hI⟩:=DecI.out hI
 obtain ⟨s16,es16,hI⟩:=DecI.out hI
 rw [mkEnv_of (l:=[(0,.pointer s0),(15,.int .i64 s15),(16,.int .i64 s16)]) hlen (by simp only [List.mem_cons,List.not_mem_nil,or_false,forall_eq_or_imp,forall_eq]; exact ⟨es0,es15,es16⟩)]
 rw [f56L1_eq]
 exact hr n s0 s15 s16 _ h hI
def f56L2 (J2:Nat→Option Addr→Int→Hp→Prop) (n2:Nat) (s0:Option Addr) (s3:Int) (g:Nat→Value) (h:Hp) (R:Value→Hp→Prop):Prop :=
 PtrOk s0 fun p47=>∃ t49:Option Addr,cell h (p47.add 2)=some (.pointer t49)∧CallTo Try.prog 50 #[.pointer t49] h fun r h4=>∃ t50:Int,r=.int .i64 t50∧Cond (decide (s3 < t50)) (f56K2 J2 n2 s0 s3 true h4 R) (PtrOk s0 fun p54=>∃ t56:Sl,cell h4 (p54.add 5)=some (.slice t56.a t56.n t56.c)∧f56K2 J2 n2 s0 s3 (decide ((((t56.n:Nat):Int)) > (0:Int))) h4 R)
theorem f56L2_eq (J2:Nat→Option Addr→Int→Hp→Prop) (n2:Nat) (s0:Option Addr) (s3:Int) (g:Nat→Value) (h:Hp) (R:Value→Hp→Prop):(evC Try.prog tab lv56 (sub [1,1,1,0,0,0] body56)) (loopK (f56I2 J2) n2 (contAt Try.prog tab lv56 [1,1,1,0,0] body56 [] (bodyK Try.prog Try.f56 [] R))) (mkEnv 192 [(0,.pointer s0),(3,.int .i64 s3)] g) h=f56L2 J2 n2 s0 s3 g h R:=by kernel_rfl
theorem f56I2_at (J:Nat→Option Addr→Int→Hp→Prop) (n:Nat) (s0:Option Addr) (s3:Int) (g:Nat→Value) (h:Hp):f56I2 J n (mkEnv 192 [(0,.pointer s0),(3,.int .i64 s3)] g) h=J n s0 s3 h:=by kernel_rfl
theorem f56L2_rule  {R:Value→Hp→Prop} {s0:Option Addr} {s3:Int} {h0:Hp} (J:Nat→Option Addr→Int→Hp→Prop) (n0:Nat) (hi:J n0 s0 s3 h0)
  (hr:∀ n s0 s3 g h,J n s0 s3 h→f56L2  J n s0 s3 g h R):LoopEv (evC Try.prog tab lv56 (sub [1,1,1,0,0,0] body56)) (contAt Try.prog tab lv56 [1,1,1,0,0] body56 [] (bodyK Try.prog Try.f56 [] R)) [(0,.pointer s0),(3,.int .i64 s3)] 192 h0:=by
 refine ⟨f56I2 J,n0,fun g=>by rw [f56I2_at]; exact hi,fun n env h hI=>?_⟩
 clear hi
 clear s0 s3
 obtain ⟨hlen,hI⟩:=Cond_true' hI
 have hlen:env.length=192:=by simpa using hlen
 obtain ⟨s0,es0,hI⟩:=DecP.out hI
 obtain ⟨s3,es3,hI⟩:=DecI.out hI
 rw [mkEnv_of (l:=[(0,.pointer s0),(3,.int .i64 s3)]) hlen (by simp only [List.mem_cons,List.not_mem_nil,or_false,forall_eq_or_imp,forall_eq]; exact ⟨es0,es3⟩)]
 rw [f56L2_eq]
 exact hr n s0 s3 _ h hI
def f56L3 (J3:Nat→Option Addr→Int→Int→Hp→Prop) (n3:Nat) (s0:Option Addr) (s122:Int) (s123:Int) (g:Nat→Value) (h:Hp) (R:Value→Hp→Prop):Prop :=
 Cond (decide (s123 < s122)) (PtrOk s0 fun p127=>∃ t129:Sl,cell h (p127.add 4)=some (.slice t129.a t129.n t129.c)∧(0 ≤ s123∧s123 < ((t129.n:Nat):Int))∧PtrOk t129.a fun p131=>∃ t132:Bool,cell h (p131.add (s123.toNat * 1))=some (.bool t132)∧Cond (!t132) (PtrOk s0 fun p135=>∃ t137:Sl,cell h (p135.add 3)=some (.slice t137.a t137.n t137.c)∧(0 ≤ s123∧s123 < ((t137.n:Nat):Int))∧PtrOk t137.a fun p139=>stOk h (p139.add (s123.toNat * 1))∧Let (setc h (p139.add (s123.toNat * 1)) (.pointer none)) fun h12=>∃ m,m < n3∧J3 m s0 s122 (IntKind.wrap .i64 (s123 + (1:Int))) h12) (PtrOk s0 fun p141=>∃ t143:Int,cell h (p141.add 6)=some (.int .i64 t143)∧PtrOk s0 fun p145=>∃ t147:Sl,cell h (p145.add 3)=some (.slice t147.a t147.n t147.c)∧(0 ≤ s123∧s123 < ((t147.n:Nat):Int))∧PtrOk t147.a fun p149=>∃ t150:Option Addr,cell h (p149.add (s123.toNat * 1))=some (.pointer t150)∧∃ t151:Int,CallTo Try.prog 49 #[.pointer t150] h (fun v h'=>v=(.int .i64 t151)∧h'=h)∧PtrOk s0 fun p153=>stOk h (p153.add 6)∧Let (setc h (p153.add 6) (.int .i64 (IntKind.wrap .i64 (t143 + t151)))) fun h14=>∃ m,m < n3∧J3 m s0 s122 (IntKind.wrap .i64 (s123 + (1:Int))) h14)) (PtrOk s0 fun p157=>∃ t159:Sl,cell h (p157.add 4)=some (.slice t159.a t159.n t159.c)∧clrO #[.bool false] t159.a t159.n h fun h15=>PtrOk s0 fun p164=>∃ t166:Int,cell h15 (p164.add 6)=some (.int .i64 t166)∧PtrOk s0 fun p167=>stOk h15 (p167.add 7)∧Let (setc h15 (p167.add 7) (.int .i64 0)) fun h16=>PtrOk s0 fun p169=>stOk h16 (p169.add 8)∧Let (setc h16 (p169.add 8) (.int .i64 t166)) fun h17=>PtrOk s0 fun p171=>stOk h17 (p171.add 5)∧Let (setc h17 (p171.add 5) (.slice none 0 0)) fun h18=>PtrOk s0 fun p174=>∃ t177:Int,cell h18 ((p174.add 10).add 6)=some (.int .i64 t177)∧PtrOk s0 fun p179=>stOk h18 ((p179.add 10).add 6)∧Let (setc h18 ((p179.add 10).add 6) (.int .i64 (IntKind.wrap .i64 (t177 + (1:Int))))) fun h19=>PtrOk s0 fun p184=>∃ t186:Option Addr,cell h19 (p184.add 1)=some (.pointer t186)∧CallTo Try.prog 50 #[.pointer t186] h19 fun r h20=>∃ t187:Int,r=.int .i64 t187∧PtrOk s0 fun p189=>stOk h20 ((p189.add 10).add 8)∧Let (setc h20 ((p189.add 10).add 8) (.int .i64 (IntKind.wrap .i64 (t187 - (1:Int))))) fun h21=>R (.tuple #[]:Value) h21)
theorem f56L3_eq (J3:Nat→Option Addr→Int→Int→Hp→Prop) (n3:Nat) (s0:Option Addr) (s122:Int) (s123:Int) (g:Nat→Value) (h:Hp) (R:Value→Hp→Prop):(evC Try.prog tab lv56 (sub [1,1,1,1,1,1,0,1,0,0] body56)) (loopK (f56I3 J3) n3 (contAt Try.prog tab lv56 [1,1,1,1,1,1,0,1,0] body56 [] (bodyK Try.prog Try.f56 [] R))) (mkEnv 192 [(0,.pointer s0),(122,.int .i64 s122),(123,.int .i64 s123)] g) h=f56L3 J3 n3 s0 s122 s123 g h R:=by kernel_rfl
theorem f56I3_at (J:Nat→Option Addr→Int→Int→Hp→Prop) (n:Nat) (s0:Option Addr) (s122:Int) (s123:Int) (g:Nat→Value) (h:Hp):f56I3 J n (mkEnv 192 [(0,.pointer s0),(122,.int .i64 s122),(123,.int .i64 s123)] g) h=J n s0 s122 s123 h:=by kernel_rfl
theorem f56L3_rule  {R:Value→Hp→Prop} {s0:Option Addr} {s122:Int} {s123:Int} {h0:Hp} (J:Nat→Option Addr→Int→Int→Hp→Prop) (n0:Nat) (hi:J n0 s0 s122 s123 h0)
  (hr:∀ n s0 s122 s123 g h,J n s0 s122 s123 h→f56L3  J n s0 s122 s123 g h R):LoopEv (evC Try.prog tab lv56 (sub [1,1,1,1,1,1,0,1,0,0] body56)) (contAt Try.prog tab lv56 [1,1,1,1,1,1,0,1,0] body56 [] (bodyK Try.prog Try.f56 [] R)) [(0,.pointer s0),(122,.int .i64 s122),(123,.int .i64 s123)] 192 h0:=by
 refine ⟨f56I3 J,n0,fun g=>by rw [f56I3_at]; exact hi,fun n env h hI=>?_⟩
 clear hi
 clear s0 s122 s123
 obtain ⟨hlen,hI⟩:=Cond_true' hI
 have hlen:env.length=192:=by simpa using hlen
 obtain ⟨s0,es0,hI⟩:=DecP.out hI
 obtain ⟨s122,es122,hI⟩:=DecI.out hI
 obtain ⟨s123,es123,hI⟩:=DecI.out hI
 rw [mkEnv_of (l:=[(0,.pointer s0),(122,.int .i64 s122),(123,.int .i64 s123)]) hlen (by simp only [List.mem_cons,List.not_mem_nil,or_false,forall_eq_or_imp,forall_eq]; exact ⟨es0,es122,es123⟩)]
 rw [f56L3_eq]
 exact hr n s0 s122 s123 _ h hI
def f56F (a0:Option Addr) (h:Hp) (R:Value→Hp→Prop):Prop :=
 PtrOk a0 fun p7=>∃ t9:Option Addr,cell h (p7.add 2)=some (.pointer t9)∧CallTo Try.prog 72 #[.pointer t9] h fun r h1=>r=.tuple #[]∧PtrOk a0 fun p12=>∃ t14:Sl,cell h1 (p12.add 9)=some (.slice t14.a t14.n t14.c)∧LoopEv (evC Try.prog tab lv56 (sub [1,0,1,0,0] body56)) (contAt Try.prog tab lv56 [1,0,1,0] body56 [] (bodyK Try.prog Try.f56 [] R)) [(0,.pointer a0),(15,.int .i64 (((t14.n:Nat):Int))),(16,.int .i64 0)] 192 h1
theorem f56F_eq (a0:Option Addr) (h:Hp) (R:Value→Hp→Prop):evF Try.prog tab lv56 Try.f56 body56 [] [.pointer a0] h R=f56F a0 h R:=by kernel_rfl
theorem f56F_ok {a0:Option Addr} {h:Hp} {R:Value→Hp→Prop} (hF:f56F a0 h R):CallTo Try.prog 56 #[.pointer a0] h R :=
 callTo_of_ev (lv:=lv56) (hints:=[]) (c:=body56) (args:=[.pointer a0]) mixed tab_ok Try.func56 (by kernel_rfl) (by kernel_rfl) (by rw [f56F_eq]; exact hF)
/- (*larder/heap.Heap).fit -/
noncomputable def body57:Code:=(Try.f57.body).getD .skip
def lv57 (m:Nat):List Nat:=[]
def f57K1  (x0:Option Addr) (x4:Int) (x50:Bool) (h:Hp) (R:Value→Hp→Prop):Prop :=
 Cond x50 (CallTo Try.prog 75 #[.int .i64 x4] h fun r h5=>∃ t53:Int,r=.int .i64 t53∧CallTo Try.prog 58 #[.pointer x0,.int .i64 t53] h5 fun r h6=>r=.tuple #[]∧R (.tuple #[]:Value) h6) (R (.tuple #[]:Value) h)
def f57F (a0:Option Addr) (a1:Int) (h:Hp) (R:Value→Hp→Prop):Prop :=
 PtrOk a0 fun p8=>∃ t10:Option Addr,cell h (p8.add 1)=some (.pointer t10)∧∃ t11:Int,CallTo Try.prog 50 #[.pointer t10] h (fun v h'=>v=(.int .i64 t11)∧h'=h)∧PtrOk a0 fun p15=>∃ t17:Option Addr,cell h (p15.add 1)=some (.pointer t17)∧∃ t18:Int,CallTo Try.prog 49 #[.pointer t17] h (fun v h'=>v=(.int .i64 t18)∧h'=h)∧Cond (decide ((IntKind.wrap .i64 ((4:Int) * (IntKind.wrap .i64 (t11 + a1)))) > (IntKind.wrap .i64 ((3:Int) * t18)))) (∃ t25:Int,CallTo Try.prog 75 #[.int .i64 (IntKind.wrap .i64 (t11 + a1))] h (fun v h'=>v=(.int .i64 t25)∧h'=h)∧PtrOk a0 fun p27=>∃ t29:Int,cell h p27=some (.int .i64 t29)∧PtrOk a0 fun p31=>∃ t33:Int,cell h (p31.add 6)=some (.int .i64 t33)∧(2:Int) ≠ 0∧Cond (decide ((if (IntKind.wrap .i64 (Int.tdiv (IntKind.wrap .i64 (t29 - t33)) (2:Int))) < t25 then (IntKind.wrap .i64 (Int.tdiv (IntKind.wrap .i64 (t29 - t33)) (2:Int))) else t25) > t18)) (CallTo Try.prog 58 #[.pointer a0,.int .i64 (if (IntKind.wrap .i64 (Int.tdiv (IntKind.wrap .i64 (t29 - t33)) (2:Int))) < t25 then (IntKind.wrap .i64 (Int.tdiv (IntKind.wrap .i64 (t29 - t33)) (2:Int))) else t25)] h fun r h4=>r=.tuple #[]∧R (.tuple #[]:Value) h4) (R (.tuple #[]:Value) h)) (Cond (decide (t18 > (64:Int))) (f57K1  a0 (IntKind.wrap .i64 (t11 + a1)) (decide ((IntKind.wrap .i64 ((8:Int) * (IntKind.wrap .i64 (t11 + a1)))) < t18)) h R) (f57K1  a0 (IntKind.wrap .i64 (t11 + a1)) false h R))
theorem f57F_eq (a0:Option Addr) (a1:Int) (h:Hp) (R:Value→Hp→Prop):evF Try.prog tab lv57 Try.f57 body57 [] [.pointer a0,.int .i64 a1] h R=f57F a0 a1 h R:=by kernel_rfl
theorem f57F_ok {a0:Option Addr} {a1:Int} {h:Hp} {R:Value→Hp→Prop} (hF:f57F a0 a1 h R):CallTo Try.prog 57 #[.pointer a0,.int .i64 a1] h R :=
 callTo_of_ev (lv:=lv57) (hints:=[]) (c:=body57) (args:=[.pointer a0,.int .i64 a1]) mixed tab_ok Try.func57 (by kernel_rfl) (by kernel_rfl) (by rw [f57F_eq]; exact hF)
/- (*larder/heap.Heap).become -/
noncomputable def body58:Code:=(Try.f58.body).getD .skip
def lv58 (m:Nat):List Nat:=if m=5 then [0,1,4,5] else []
def f58I1 (J:Nat→Option Addr→Int→Option Addr→Int→Hp→Prop) (n:Nat) (env:List Value) (h:Hp):Prop:=lenIs env 74 (DecP env 0 fun s0=>DecI .i64 env 1 fun s1=>DecP env 4 fun s4=>DecI .i64 env 5 fun s5=>J n s0 s1 s4 s5 h)
def f58L1 (J1:Nat→Option Addr→Int→Option Addr→Int→Hp→Prop) (n1:Nat) (s0:Option Addr) (s1:Int) (s4:Option Addr) (s5:Int) (g:Nat→Value) (h:Hp) (R:Value→Hp→Prop):Prop :=
 CallTo Try.prog 50 #[.pointer s4] h fun r h5=>∃ t34:Int,r=.int .i64 t34∧Cond (decide (s5 < t34)) (CallTo Try.prog 76 #[.pointer s4,.int .i64 s5] h5 fun r h6=>∃ t39_0:Int,∃ t39_1:Int,∃ t39_2:Int,∃ t39_3:Int,r=.tuple #[.int .i64 t39_0,.int .i64 t39_1,.int .i64 t39_2,.int .i64 t39_3]∧PtrOk s0 fun p45=>∃ t47:Option Addr,cell h6 (p45.add 1)=some (.pointer t47)∧CallTo Try.prog 77 #[.pointer t47,.pointer s4,.int .i64 s5] h6 fun r h7=>∃ t50_0:Int,∃ t50_1:Int,r=.tuple #[.int .i64 t50_0,.int .i64 t50_1]∧∃ m,m < n1∧J1 m s0 s1 s4 (IntKind.wrap .i64 (s5 + (IntKind.wrap .i64 ((IntKind.wrap .i64 ((1:Int) + t39_1)) + t39_2)))) h7) (CallTo Try.prog 39 #[.int .i64 s1] h5 fun r h8=>∃ t60_0:Option Addr,∃ t60_1:Int,r=.tuple #[.pointer t60_0,.int .i64 t60_1]∧PtrOk s0 fun p63=>stOk h8 (p63.add 2)∧Let (setc h8 (p63.add 2) (.pointer t60_0)) fun h9=>PtrOk s0 fun p66=>∃ t69:Int,cell h9 ((p66.add 10).add 7)=some (.int .i64 t69)∧PtrOk s0 fun p71=>stOk h9 ((p71.add 10).add 7)∧Let (setc h9 ((p71.add 10).add 7) (.int .i64 (IntKind.wrap .i64 (t69 + (1:Int))))) fun h10=>R (.tuple #[]:Value) h10)
theorem f58L1_eq (J1:Nat→Option Addr→Int→Option Addr→Int→Hp→Prop) (n1:Nat) (s0:Option Addr) (s1:Int) (s4:Option Addr) (s5:Int) (g:Nat→Value) (h:Hp) (R:Value→Hp→Prop):(evC Try.prog tab lv58 (sub [1,1,1,1,0,1,0,0] body58)) (loopK (f58I1 J1) n1 (contAt Try.prog tab lv58 [1,1,1,1,0,1,0] body58 [] (bodyK Try.prog Try.f58 [] R))) (mkEnv 74 [(0,.pointer s0),(1,.int .i64 s1),(4,.pointer s4),(5,.int .i64 s5)] g) h=f58L1 J1 n1 s0 s1 s4 s5 g h R:=by kernel_rfl
theorem f58I1_at (J:Nat→Option Addr→Int→Option Addr→Int→Hp→Prop) (n:Nat) (s0:Option Addr) (s1:Int) (s4:Option Addr) (s5:Int) (g:Nat→Value) (h:Hp):f58I1 J n (mkEnv 74 [(0,.pointer s0),(1,.int .i64 s1),(4,.pointer s4),(5,.int .i64 s5)] g) h=J n s0 s1 s4 s5 h:=by kernel_rfl
theorem f58L1_rule  {R:Value→Hp→Prop} {s0:Option Addr} {s1:Int} {s4:Option Addr} {s5:Int} {h0:Hp} (J:Nat→Option Addr→Int→Option Addr→Int→Hp→Prop) (n0:Nat) (hi:J n0 s0 s1 s4 s5 h0)
  (hr:∀ n s0 s1 s4 s5 g h,J n s0 s1 s4 s5 h→f58L1  J n s0 s1 s4 s5 g h R):LoopEv (evC Try.prog tab lv58 (sub [1,1,1,1,0,1,0,0] body58)) (contAt Try.prog tab lv58 [1,1,1,1,0,1,0] body58 [] (bodyK Try.prog Try.f58 [] R)) [(0,.pointer s0),(1,.int .i64 s1),(4,.pointer s4),(5,.int .i64 s5)] 74 h0:=by
 refine ⟨f58I1 J,n0,fun g=>by rw [f58I1_at]; exact hi,fun n env h hI=>?_⟩
 clear hi
 clear s0 s1 s4 s5
 obtain ⟨hlen,hI⟩:=Cond_true' hI
 have hlen:env.length=74:=by simpa using hlen
 obtain ⟨s0,es0,hI⟩:=DecP.out hI
 obtain ⟨s1,es1,hI⟩:=DecI.out hI
 obtain ⟨s4,es4,hI⟩:=DecP.out hI
 obtain ⟨s5,es5,hI⟩:=DecI.out hI
 rw [mkEnv_of (l:=[(0,.pointer s0),(1,.int .i64 s1),(4,.pointer s4),(5,.int .i64 s5)]) hlen (by simp only [List.mem_cons,List.not_mem_nil,or_false,forall_eq_or_imp,forall_eq]; exact ⟨es0,es1,es4,es5⟩)]
 rw [f58L1_eq]
 exact hr n s0 s1 s4 s5 _ h hI
def f58F (a0:Option Addr) (a1:Int) (h:Hp) (R:Value→Hp→Prop):Prop :=
 PtrOk a0 fun p12=>∃ t14:Option Addr,cell h (p12.add 1)=some (.pointer t14)∧CallTo Try.prog 49 #[.pointer t14] h fun r h1=>∃ t15:Int,r=.int .i64 t15∧Cond (a1 == t15) (R (.tuple #[]:Value) h1) (PtrOk a0 fun p18=>∃ t20:Option Addr,cell h1 (p18.add 1)=some (.pointer t20)∧PtrOk a0 fun p22=>stOk h1 (p22.add 2)∧Let (setc h1 (p22.add 2) (.pointer none)) fun h2=>CallTo Try.prog 39 #[.int .i64 a1] h2 fun r h3=>∃ t27_0:Option Addr,∃ t27_1:Int,r=.tuple #[.pointer t27_0,.int .i64 t27_1]∧PtrOk a0 fun p30=>stOk h3 (p30.add 1)∧Let (setc h3 (p30.add 1) (.pointer t27_0)) fun h4=>LoopEv (evC Try.prog tab lv58 (sub [1,1,1,1,0,1,0,0] body58)) (contAt Try.prog tab lv58 [1,1,1,1,0,1,0] body58 [] (bodyK Try.prog Try.f58 [] R)) [(0,.pointer a0),(1,.int .i64 a1),(4,.pointer t20),(5,.int .i64 1)] 74 h4)
theorem f58F_eq (a0:Option Addr) (a1:Int) (h:Hp) (R:Value→Hp→Prop):evF Try.prog tab lv58 Try.f58 body58 [] [.pointer a0,.int .i64 a1] h R=f58F a0 a1 h R:=by kernel_rfl
theorem f58F_ok {a0:Option Addr} {a1:Int} {h:Hp} {R:Value→Hp→Prop} (hF:f58F a0 a1 h R):CallTo Try.prog 58 #[.pointer a0,.int .i64 a1] h R :=
 callTo_of_ev (lv:=lv58) (hints:=[]) (c:=body58) (args:=[.pointer a0,.int .i64 a1]) mixed tab_ok Try.func58 (by kernel_rfl) (by kernel_rfl) (by rw [f58F_eq]; exact hF)
/- (*larder/heap.Heap).Drop -/
noncomputable def body63:Code:=(Try.f63.body).getD .skip
def lv63 (m:Nat):List Nat:=[]
def f63F (a0:Option Addr) (a1:Int) (h:Hp) (R:Value→Hp→Prop):Prop :=
 CallTo Try.prog 78 #[.pointer a0,.int .i64 a1] h fun r h1=>∃ t7:Bool,r=.bool t7∧Cond (!t7) (R (.int .i64 35:Value) h1) (PtrOk a0 fun p10=>∃ t12:Sl,cell h1 (p10.add 9)=some (.slice t12.a t12.n t12.c)∧(0 ≤ (IntKind.wrap .i64 (a1 - (1:Int)))∧(IntKind.wrap .i64 (a1 - (1:Int))) < ((t12.n:Nat):Int))∧PtrOk t12.a fun p16=>stOk h1 (p16.add ((IntKind.wrap .i64 (a1 - (1:Int))).toNat * 2))∧Let (setc h1 (p16.add ((IntKind.wrap .i64 (a1 - (1:Int))).toNat * 2)) (.bool false)) fun h2=>stOk h2 ((p16.add ((IntKind.wrap .i64 (a1 - (1:Int))).toNat * 2)).add 1)∧Let (setc h2 ((p16.add ((IntKind.wrap .i64 (a1 - (1:Int))).toNat * 2)).add 1) (.int .u64 0)) fun h3=>PtrOk a0 fun p18=>∃ t21:Int,cell h3 ((p18.add 10).add 5)=some (.int .i64 t21)∧PtrOk a0 fun p23=>stOk h3 ((p23.add 10).add 5)∧Let (setc h3 ((p23.add 10).add 5) (.int .i64 (IntKind.wrap .i64 (t21 - (1:Int))))) fun h4=>R (.int .i64 0:Value) h4)
theorem f63F_eq (a0:Option Addr) (a1:Int) (h:Hp) (R:Value→Hp→Prop):evF Try.prog tab lv63 Try.f63 body63 [] [.pointer a0,.int .i64 a1] h R=f63F a0 a1 h R:=by kernel_rfl
theorem f63F_okD {a0:Option Addr} {a1:Int} {h:Hp} {R:Value→Hp→Prop} (hF:f63F a0 a1 h R):DCallTo Try.prog 63 #[.pointer a0,.int .i64 a1] h R :=
 dcallTo_of_ev (lv:=lv63) (hints:=[]) (c:=body63) (args:=[.pointer a0,.int .i64 a1]) mixed tab_ok Try.func63 (by kernel_rfl) (by kernel_rfl) (by rw [f63F_eq]; exact hF)
/- (*larder/heap.Heap).begin -/
noncomputable def body64:Code:=(Try.f64.body).getD .skip
def lv64 (m:Nat):List Nat:=if m=19 then [0,14,158,159] else []
def f64I1 (J:Nat→Option Addr→Option Addr→Int→Int→Hp→Prop) (n:Nat) (env:List Value) (h:Hp):Prop:=lenIs env 208 (DecP env 0 fun s0=>DecP env 14 fun s14=>DecI .i64 env 158 fun s158=>DecI .i64 env 159 fun s159=>J n s0 s14 s158 s159 h)
def f64K2  (x0:Option Addr) (x1:Int) (x2:Int) (x3:Int) (x12:Int) (x13:Int) (x124:Bool) (h:Hp) (R:Value→Hp→Prop):Prop :=
 Cond x124 (R (.tuple #[.int .u64 0,.int .i64 31]:Value) h) (CallTo Try.prog 58 #[.pointer x0,.int .i64 x13] h fun r h7=>r=.tuple #[]∧CallTo Try.prog 39 #[.int .i64 x12] h7 fun r h8=>∃ t130_0:Option Addr,∃ t130_1:Int,r=.tuple #[.pointer t130_0,.int .i64 t130_1]∧CallTo Try.prog 65 #[.pointer t130_0,.int .i64 x1,.int .i64 x2,.int .i64 x3] h8 fun r h9=>∃ t137_0:Int,∃ t137_1:Int,r=.tuple #[.int .i64 t137_0,.int .i64 t137_1]∧PtrOk x0 fun p139=>∃ t141:Int,cell h9 (p139.add 6)=some (.int .i64 t141)∧PtrOk x0 fun p144=>stOk h9 (p144.add 6)∧Let (setc h9 (p144.add 6) (.int .i64 (IntKind.wrap .i64 (t141 + x12)))) fun h10=>PtrOk x0 fun p147=>∃ t149:Int,cell h10 (p147.add 7)=some (.int .i64 t149)∧PtrOk x0 fun p152=>stOk h10 (p152.add 7)∧Let (setc h10 (p152.add 7) (.int .i64 (IntKind.wrap .i64 (t149 + x12)))) fun h11=>PtrOk x0 fun p155=>∃ t157:Sl,cell h11 (p155.add 3)=some (.slice t157.a t157.n t157.c)∧LoopEv (evC Try.prog tab lv64 (sub [1,1,1,1,1,1,1,1,1,0,1,0,0] body64)) (contAt Try.prog tab lv64 [1,1,1,1,1,1,1,1,1,0,1,0] body64 [] (bodyK Try.prog Try.f64 [] R)) [(0,.pointer x0),(14,.pointer t130_0),(158,.int .i64 (((t157.n:Nat):Int))),(159,.int .i64 0)] 208 h11)
def f64K1  (x0:Option Addr) (x1:Int) (x2:Int) (x3:Int) (x12:Int) (x65:Bool) (h:Hp) (R:Value→Hp→Prop):Prop :=
 Cond x65 (CallTo Try.prog 56 #[.pointer x0] h fun r h4=>r=.tuple #[]∧CallTo Try.prog 57 #[.pointer x0,.int .i64 0] h4 fun r h5=>r=.tuple #[]∧PtrOk x0 fun p71=>∃ t73:Option Addr,cell h5 (p71.add 1)=some (.pointer t73)∧∃ t74:Int,CallTo Try.prog 49 #[.pointer t73] h5 (fun v h'=>v=(.int .i64 t74)∧h'=h5)∧PtrOk x0 fun p77=>∃ t79:Int,cell h5 (p77.add 6)=some (.int .i64 t79)∧PtrOk x0 fun p84=>∃ t86:Int,cell h5 p84=some (.int .i64 t86)∧Cond (decide ((IntKind.wrap .i64 ((IntKind.wrap .i64 ((IntKind.wrap .i64 ((2:Int) * t74)) + t79)) + x12)) > t86)) (PtrOk x0 fun p89=>∃ t91:Int,cell h5 p89=some (.int .i64 t91)∧PtrOk x0 fun p93=>∃ t95:Int,cell h5 (p93.add 6)=some (.int .i64 t95)∧(2:Int) ≠ 0∧PtrOk x0 fun p101=>∃ t103:Int,cell h5 p101=some (.int .i64 t103)∧PtrOk x0 fun p105=>∃ t107:Int,cell h5 (p105.add 6)=some (.int .i64 t107)∧Cond (decide ((IntKind.wrap .i64 ((IntKind.wrap .i64 (t103 - t107)) - x12)) < (0:Int))) (f64K2  x0 x1 x2 x3 x12 (IntKind.wrap .i64 (Int.tdiv (IntKind.wrap .i64 ((IntKind.wrap .i64 (t91 - t95)) - x12)) (2:Int))) true h5 R) (Cond (decide ((IntKind.wrap .i64 (Int.tdiv (IntKind.wrap .i64 ((IntKind.wrap .i64 (t91 - t95)) - x12)) (2:Int))) < (64:Int))) (f64K2  x0 x1 x2 x3 x12 (IntKind.wrap .i64 (Int.tdiv (IntKind.wrap .i64 ((IntKind.wrap .i64 (t91 - t95)) - x12)) (2:Int))) true h5 R) (PtrOk x0 fun p119=>∃ t121:Option Addr,cell h5 (p119.add 1)=some (.pointer t121)∧∃ t122:Int,CallTo Try.prog 50 #[.pointer t121] h5 (fun v h'=>v=(.int .i64 t122)∧h'=h5)∧f64K2  x0 x1 x2 x3 x12 (IntKind.wrap .i64 (Int.tdiv (IntKind.wrap .i64 ((IntKind.wrap .i64 (t91 - t95)) - x12)) (2:Int))) (decide ((IntKind.wrap .i64 (Int.tdiv (IntKind.wrap .i64 ((IntKind.wrap .i64 (t91 - t95)) - x12)) (2:Int))) < t122)) h5 R))) (CallTo Try.prog 39 #[.int .i64 x12] h5 fun r h20=>∃ t130_0:Option Addr,∃ t130_1:Int,r=.tuple #[.pointer t130_0,.int .i64 t130_1]∧CallTo Try.prog 65 #[.pointer t130_0,.int .i64 x1,.int .i64 x2,.int .i64 x3] h20 fun r h21=>∃ t137_0:Int,∃ t137_1:Int,r=.tuple #[.int .i64 t137_0,.int .i64 t137_1]∧PtrOk x0 fun p139=>∃ t141:Int,cell h21 (p139.add 6)=some (.int .i64 t141)∧PtrOk x0 fun p144=>stOk h21 (p144.add 6)∧Let (setc h21 (p144.add 6) (.int .i64 (IntKind.wrap .i64 (t141 + x12)))) fun h22=>PtrOk x0 fun p147=>∃ t149:Int,cell h22 (p147.add 7)=some (.int .i64 t149)∧PtrOk x0 fun p152=>stOk h22 (p152.add 7)∧Let (setc h22 (p152.add 7) (.int .i64 (IntKind.wrap .i64 (t149 + x12)))) fun h23=>PtrOk x0 fun p155=>∃ t157:Sl,cell h23 (p155.add 3)=some (.slice t157.a t157.n t157.c)∧LoopEv (evC Try.prog tab lv64 (sub [1,1,1,1,1,1,1,1,1,0,1,0,0] body64)) (contAt Try.prog tab lv64 [1,1,1,1,1,1,1,1,1,0,1,0] body64 [] (bodyK Try.prog Try.f64 [] R)) [(0,.pointer x0),(14,.pointer t130_0),(158,.int .i64 (((t157.n:Nat):Int))),(159,.int .i64 0)] 208 h23)) (PtrOk x0 fun p71=>∃ t73:Option Addr,cell h (p71.add 1)=some (.pointer t73)∧∃ t74:Int,CallTo Try.prog 49 #[.pointer t73] h (fun v h'=>v=(.int .i64 t74)∧h'=h)∧PtrOk x0 fun p77=>∃ t79:Int,cell h (p77.add 6)=some (.int .i64 t79)∧PtrOk x0 fun p84=>∃ t86:Int,cell h p84=some (.int .i64 t86)∧Cond (decide ((IntKind.wrap .i64 ((IntKind.wrap .i64 ((IntKind.wrap .i64 ((2:Int) * t74)) + t79)) + x12)) > t86)) (PtrOk x0 fun p89=>∃ t91:Int,cell h p89=some (.int .i64 t91)∧PtrOk x0 fun p93=>∃ t95:Int,cell h (p93.add 6)=some (.int .i64 t95)∧(2:Int) ≠ 0∧PtrOk x0 fun p101=>∃ t103:Int,cell h p101=some (.int .i64 t103)∧PtrOk x0 fun p105=>∃ t107:Int,cell h (p105.add 6)=some (.int .i64 t107)∧Cond (decide ((IntKind.wrap .i64 ((IntKind.wrap .i64 (t103 - t107)) - x12)) < (0:Int))) (f64K2  x0 x1 x2 x3 x12 (IntKind.wrap .i64 (Int.tdiv (IntKind.wrap .i64 ((IntKind.wrap .i64 (t91 - t95)) - x12)) (2:Int))) true h R) (Cond (decide ((IntKind.wrap .i64 (Int.tdiv (IntKind.wrap .i64 ((IntKind.wrap .i64 (t91 - t95)) - x12)) (2:Int))) < (64:Int))) (f64K2  x0 x1 x2 x3 x12 (IntKind.wrap .i64 (Int.tdiv (IntKind.wrap .i64 ((IntKind.wrap .i64 (t91 - t95)) - x12)) (2:Int))) true h R) (PtrOk x0 fun p119=>∃ t121:Option Addr,cell h (p119.add 1)=some (.pointer t121)∧∃ t122:Int,CallTo Try.prog 50 #[.pointer t121] h (fun v h'=>v=(.int .i64 t122)∧h'=h)∧f64K2  x0 x1 x2 x3 x12 (IntKind.wrap .i64 (Int.tdiv (IntKind.wrap .i64 ((IntKind.wrap .i64 (t91 - t95)) - x12)) (2:Int))) (decide ((IntKind.wrap .i64 (Int.tdiv (IntKind.wrap .i64 ((IntKind.wrap .i64 (t91 - t95)) - x12)) (2:Int))) < t122)) h R))) (CallTo Try.prog 39 #[.int .i64 x12] h fun r h26=>∃ t130_0:Option Addr,∃ t130_1:Int,r=.tuple #[.pointer t130_0,.int .i64 t130_1]∧CallTo Try.prog 65 #[.pointer t130_0,.int .i64 x1,.int .i64 x2,.int .i64 x3] h26 fun r h27=>∃ t137_0:Int,∃ t137_1:Int,r=.tuple #[.int .i64 t137_0,.int .i64 t137_1]∧PtrOk x0 fun p139=>∃ t141:Int,cell h27 (p139.add 6)=some (.int .i64 t141)∧PtrOk x0 fun p144=>stOk h27 (p144.add 6)∧Let (setc h27 (p144.add 6) (.int .i64 (IntKind.wrap .i64 (t141 + x12)))) fun h28=>PtrOk x0 fun p147=>∃ t149:Int,cell h28 (p147.add 7)=some (.int .i64 t149)∧PtrOk x0 fun p152=>stOk h28 (p152.add 7)∧Let (setc h28 (p152.add 7) (.int .i64 (IntKind.wrap .i64 (t149 + x12)))) fun h29=>PtrOk x0 fun p155=>∃ t157:Sl,cell h29 (p155.add 3)=some (.slice t157.a t157.n t157.c)∧LoopEv (evC Try.prog tab lv64 (sub [1,1,1,1,1,1,1,1,1,0,1,0,0] body64)) (contAt Try.prog tab lv64 [1,1,1,1,1,1,1,1,1,0,1,0] body64 [] (bodyK Try.prog Try.f64 [] R)) [(0,.pointer x0),(14,.pointer t130_0),(158,.int .i64 (((t157.n:Nat):Int))),(159,.int .i64 0)] 208 h29))
def f64L1 (J1:Nat→Option Addr→Option Addr→Int→Int→Hp→Prop) (n1:Nat) (s0:Option Addr) (s14:Option Addr) (s158:Int) (s159:Int) (g:Nat→Value) (h:Hp) (R:Value→Hp→Prop):Prop :=
 Cond (decide (s159 < s158)) (PtrOk s0 fun p163=>∃ t165:Sl,cell h (p163.add 3)=some (.slice t165.a t165.n t165.c)∧(0 ≤ s159∧s159 < ((t165.n:Nat):Int))∧PtrOk t165.a fun p167=>∃ t168:Option Addr,cell h (p167.add (s159.toNat * 1))=some (.pointer t168)∧Cond (Option.isNone t168) (PtrOk s0 fun p171=>∃ t173:Sl,cell h (p171.add 3)=some (.slice t173.a t173.n t173.c)∧(0 ≤ s159∧s159 < ((t173.n:Nat):Int))∧PtrOk t173.a fun p176=>stOk h (p176.add (s159.toNat * 1))∧Let (setc h (p176.add (s159.toNat * 1)) (.pointer s14)) fun h12=>R ((.tuple #[.int .u64 (orI .u64 (9223372036854775808:Int) (IntKind.wrap .u64 s159)),.int .i64 0]:Value)) h12) (∃ m,m < n1∧J1 m s0 s14 s158 (IntKind.wrap .i64 (s159 + (1:Int))) h)) (PtrOk s0 fun p183=>∃ t185:Sl,cell h (p183.add 3)=some (.slice t185.a t185.n t185.c)∧Let (h.push (.cells #[.pointer s14] 98)) fun h13=>appSl 98 1 8 #[.pointer none] t185.a t185.n t185.c (some (nb h)) 1 h13 fun ra14 rn14 rc14 h14=>PtrOk s0 fun p189=>stOk h14 (p189.add 3)∧Let (setc h14 (p189.add 3) (.slice ra14 rn14 rc14)) fun h15=>PtrOk s0 fun p193=>∃ t195:Sl,cell h15 (p193.add 4)=some (.slice t195.a t195.n t195.c)∧Let (h15.push (.cells #[.bool false] 4)) fun h16=>appSl 4 1 1 #[.bool false] t195.a t195.n t195.c (some (nb h15)) 1 h16 fun ra17 rn17 rc17 h17=>PtrOk s0 fun p198=>stOk h17 (p198.add 4)∧Let (setc h17 (p198.add 4) (.slice ra17 rn17 rc17)) fun h18=>PtrOk s0 fun p201=>∃ t203:Sl,cell h18 (p201.add 3)=some (.slice t203.a t203.n t203.c)∧R ((.tuple #[.int .u64 (orI .u64 (9223372036854775808:Int) (IntKind.wrap .u64 (IntKind.wrap .i64 ((((t203.n:Nat):Int)) - (1:Int))))),.int .i64 0]:Value)) h18)
theorem f64L1_eq (J1:Nat→Option Addr→Option Addr→Int→Int→Hp→Prop) (n1:Nat) (s0:Option Addr) (s14:Option Addr) (s158:Int) (s159:Int) (g:Nat→Value) (h:Hp) (R:Value→Hp→Prop):(evC Try.prog tab lv64 (sub [1,1,1,1,1,1,1,1,1,0,1,0,0] body64)) (loopK (f64I1 J1) n1 (contAt Try.prog tab lv64 [1,1,1,1,1,1,1,1,1,0,1,0] body64 [] (bodyK Try.prog Try.f64 [] R))) (mkEnv 208 [(0,.pointer s0),(14,.pointer s14),(158,.int .i64 s158),(159,.int .i64 s159)] g) h=f64L1 J1 n1 s0 s14 s158 s159 g h R:=by kernel_rfl
theorem f64I1_at (J:Nat→Option Addr→Option Addr→Int→Int→Hp→Prop) (n:Nat) (s0:Option Addr) (s14:Option Addr) (s158:Int) (s159:Int) (g:Nat→Value) (h:Hp):f64I1 J n (mkEnv 208 [(0,.pointer s0),(14,.pointer s14),(158,.int .i64 s158),(159,.int .i64 s159)] g) h=J n s0 s14 s158 s159 h:=by kernel_rfl
theorem f64L1_rule  {R:Value→Hp→Prop} {s0:Option Addr} {s14:Option Addr} {s158:Int} {s159:Int} {h0:Hp} (J:Nat→Option Addr→Option Addr→Int→Int→Hp→Prop) (n0:Nat) (hi:J n0 s0 s14 s158 s159 h0)
  (hr:∀ n s0 s14 s158 s159 g h,J n s0 s14 s158 s159 h→f64L1  J n s0 s14 s158 s159 g h R):LoopEv (evC Try.prog tab lv64 (sub [1,1,1,1,1,1,1,1,1,0,1,0,0] body64)) (contAt Try.prog tab lv64 [1,1,1,1,1,1,1,1,1,0,1,0] body64 [] (bodyK Try.prog Try.f64 [] R)) [(0,.pointer s0),(14,.pointer s14),(158,.int .i64 s158),(159,.int .i64 s159)] 208 h0:=by
 refine ⟨f64I1 J,n0,fun g=>by rw [f64I1_at]; exact hi,fun n env h hI=>?_⟩
 clear hi
 clear s0 s14 s158 s159
 obtain ⟨hlen,hI⟩:=Cond_true' hI
 have hlen:env.length=208:=by simpa using hlen
 obtain ⟨s0,es0,hI⟩:=DecP.out hI
 obtain ⟨s14,es14,hI⟩:=DecP.out hI
 obtain ⟨s158,es158,hI⟩:=DecI.out hI
 obtain ⟨s159,es159,hI⟩:=DecI.out hI
 rw [mkEnv_of (l:=[(0,.pointer s0),(14,.pointer s14),(158,.int .i64 s158),(159,.int .i64 s159)]) hlen (by simp only [List.mem_cons,List.not_mem_nil,or_false,forall_eq_or_imp,forall_eq]; exact ⟨es0,es14,es158,es159⟩)]
 rw [f64L1_eq]
 exact hr n s0 s14 s158 s159 _ h hI
def f64F (a0:Option Addr) (a1:Int) (a2:Int) (a3:Int) (a4:Int) (h:Hp) (R:Value→Hp→Prop):Prop :=
 PtrOk a0 fun p21=>∃ t23:Int,cell h p21=some (.int .i64 t23)∧Cond (decide ((IntKind.wrap .i64 (a4 + (1:Int))) > t23)) (CallTo Try.prog 56 #[.pointer a0] h fun r h1=>r=.tuple #[]∧CallTo Try.prog 57 #[.pointer a0,.int .i64 0] h1 fun r h2=>r=.tuple #[]∧R (.tuple #[.int .u64 0,.int .i64 31]:Value) h2) (PtrOk a0 fun p30=>∃ t32:Option Addr,cell h (p30.add 1)=some (.pointer t32)∧∃ t33:Int,CallTo Try.prog 49 #[.pointer t32] h (fun v h'=>v=(.int .i64 t33)∧h'=h)∧PtrOk a0 fun p36=>∃ t38:Int,cell h (p36.add 6)=some (.int .i64 t38)∧PtrOk a0 fun p43=>∃ t45:Int,cell h p43=some (.int .i64 t45)∧Cond (decide ((IntKind.wrap .i64 ((IntKind.wrap .i64 ((IntKind.wrap .i64 ((2:Int) * t33)) + t38)) + (IntKind.wrap .i64 (a4 + (1:Int))))) > t45)) (f64K1  a0 a1 a2 a3 (IntKind.wrap .i64 (a4 + (1:Int))) true h R) (PtrOk a0 fun p49=>∃ t51:Int,cell h (p49.add 7)=some (.int .i64 t51)∧PtrOk a0 fun p55=>∃ t57:Option Addr,cell h (p55.add 1)=some (.pointer t57)∧∃ t58:Int,CallTo Try.prog 49 #[.pointer t57] h (fun v h'=>v=(.int .i64 t58)∧h'=h)∧PtrOk a0 fun p60=>∃ t62:Int,cell h (p60.add 8)=some (.int .i64 t62)∧f64K1  a0 a1 a2 a3 (IntKind.wrap .i64 (a4 + (1:Int))) (decide ((IntKind.wrap .i64 (t51 + (IntKind.wrap .i64 (a4 + (1:Int))))) > (IntKind.wrap .i64 (t58 + t62)))) h R))
theorem f64F_eq (a0:Option Addr) (a1:Int) (a2:Int) (a3:Int) (a4:Int) (h:Hp) (R:Value→Hp→Prop):evF Try.prog tab lv64 Try.f64 body64 [] [.pointer a0,.int .i64 a1,.int .i64 a2,.int .i64 a3,.int .i64 a4] h R=f64F a0 a1 a2 a3 a4 h R:=by kernel_rfl
theorem f64F_ok {a0:Option Addr} {a1:Int} {a2:Int} {a3:Int} {a4:Int} {h:Hp} {R:Value→Hp→Prop} (hF:f64F a0 a1 a2 a3 a4 h R):CallTo Try.prog 64 #[.pointer a0,.int .i64 a1,.int .i64 a2,.int .i64 a3,.int .i64 a4] h R :=
 callTo_of_ev (lv:=lv64) (hints:=[]) (c:=body64) (args:=[.pointer a0,.int .i64 a1,.int .i64 a2,.int .i64 a3,.int .i64 a4]) mixed tab_ok Try.func64 (by kernel_rfl) (by kernel_rfl) (by rw [f64F_eq]; exact hF)
/- (*larder/heap.Heap).Root -/
noncomputable def body66:Code:=(Try.f66.body).getD .skip
def lv66 (m:Nat):List Nat:=if m=5 then [0,1,24,25] else []
def f66I1 (J:Nat→Option Addr→Int→Int→Int→Hp→Prop) (n:Nat) (env:List Value) (h:Hp):Prop:=lenIs env 64 (DecP env 0 fun s0=>DecI .u64 env 1 fun s1=>DecI .i64 env 24 fun s24=>DecI .i64 env 25 fun s25=>J n s0 s1 s24 s25 h)
def f66L1 (J1:Nat→Option Addr→Int→Int→Int→Hp→Prop) (n1:Nat) (s0:Option Addr) (s1:Int) (s24:Int) (s25:Int) (g:Nat→Value) (h:Hp) (R:Value→Hp→Prop):Prop :=
 Cond (decide (s25 < s24)) (PtrOk s0 fun p29=>∃ t31:Sl,cell h (p29.add 9)=some (.slice t31.a t31.n t31.c)∧(0 ≤ s25∧s25 < ((t31.n:Nat):Int))∧PtrOk t31.a fun p33=>∃ t35:Bool,cell h (p33.add (s25.toNat * 2))=some (.bool t35)∧Cond (!t35) (PtrOk s0 fun p38=>∃ t40:Sl,cell h (p38.add 9)=some (.slice t40.a t40.n t40.c)∧(0 ≤ s25∧s25 < ((t40.n:Nat):Int))∧PtrOk t40.a fun p44=>stOk h (p44.add (s25.toNat * 2))∧Let (setc h (p44.add (s25.toNat * 2)) (.bool true)) fun h3=>stOk h3 ((p44.add (s25.toNat * 2)).add 1)∧Let (setc h3 ((p44.add (s25.toNat * 2)).add 1) (.int .u64 s1)) fun h4=>R ((.tuple #[.int .i64 (IntKind.wrap .i64 (s25 + (1:Int))),.int .i64 0]:Value)) h4) (∃ m,m < n1∧J1 m s0 s1 s24 (IntKind.wrap .i64 (s25 + (1:Int))) h)) (PtrOk s0 fun p50=>∃ t52:Sl,cell h (p50.add 9)=some (.slice t52.a t52.n t52.c)∧Let (h.push (.cells #[.bool true,.int .u64 s1] 141)) fun h5=>appSl 141 2 16 #[.bool false,.int .u64 0] t52.a t52.n t52.c (some (nb h)) 1 h5 fun ra6 rn6 rc6 h6=>PtrOk s0 fun p57=>stOk h6 (p57.add 9)∧Let (setc h6 (p57.add 9) (.slice ra6 rn6 rc6)) fun h7=>PtrOk s0 fun p60=>∃ t62:Sl,cell h7 (p60.add 9)=some (.slice t62.a t62.n t62.c)∧R ((.tuple #[.int .i64 (((t62.n:Nat):Int)),.int .i64 0]:Value)) h7)
theorem f66L1_eq (J1:Nat→Option Addr→Int→Int→Int→Hp→Prop) (n1:Nat) (s0:Option Addr) (s1:Int) (s24:Int) (s25:Int) (g:Nat→Value) (h:Hp) (R:Value→Hp→Prop):(evC Try.prog tab lv66 (sub [1,1,1,0,1,0,0] body66)) (loopK (f66I1 J1) n1 (contAt Try.prog tab lv66 [1,1,1,0,1,0] body66 [] (bodyK Try.prog Try.f66 [] R))) (mkEnv 64 [(0,.pointer s0),(1,.int .u64 s1),(24,.int .i64 s24),(25,.int .i64 s25)] g) h=f66L1 J1 n1 s0 s1 s24 s25 g h R:=by kernel_rfl
theorem f66I1_at (J:Nat→Option Addr→Int→Int→Int→Hp→Prop) (n:Nat) (s0:Option Addr) (s1:Int) (s24:Int) (s25:Int) (g:Nat→Value) (h:Hp):f66I1 J n (mkEnv 64 [(0,.pointer s0),(1,.int .u64 s1),(24,.int .i64 s24),(25,.int .i64 s25)] g) h=J n s0 s1 s24 s25 h:=by kernel_rfl
theorem f66L1_rule  {R:Value→Hp→Prop} {s0:Option Addr} {s1:Int} {s24:Int} {s25:Int} {h0:Hp} (J:Nat→Option Addr→Int→Int→Int→Hp→Prop) (n0:Nat) (hi:J n0 s0 s1 s24 s25 h0)
  (hr:∀ n s0 s1 s24 s25 g h,J n s0 s1 s24 s25 h→f66L1  J n s0 s1 s24 s25 g h R):LoopEv (evC Try.prog tab lv66 (sub [1,1,1,0,1,0,0] body66)) (contAt Try.prog tab lv66 [1,1,1,0,1,0] body66 [] (bodyK Try.prog Try.f66 [] R)) [(0,.pointer s0),(1,.int .u64 s1),(24,.int .i64 s24),(25,.int .i64 s25)] 64 h0:=by
 refine ⟨f66I1 J,n0,fun g=>by rw [f66I1_at]; exact hi,fun n env h hI=>?_⟩
 clear hi
 clear s0 s1 s24 s25
 obtain ⟨hlen,hI⟩:=Cond_true' hI
 have hlen:env.length=64:=by simpa using hlen
 obtain ⟨s0,es0,hI⟩:=DecP.out hI
 obtain ⟨s1,es1,hI⟩:=DecI.out hI
 obtain ⟨s24,es24,hI⟩:=DecI.out hI
 obtain ⟨s25,es25,hI⟩:=DecI.out hI
 rw [mkEnv_of (l:=[(0,.pointer s0),(1,.int .u64 s1),(24,.int .i64 s24),(25,.int .i64 s25)]) hlen (by simp only [List.mem_cons,List.not_mem_nil,or_false,forall_eq_or_imp,forall_eq]; exact ⟨es0,es1,es24,es25⟩)]
 rw [f66L1_eq]
 exact hr n s0 s1 s24 s25 _ h hI
def f66F (a0:Option Addr) (a1:Int) (h:Hp) (R:Value→Hp→Prop):Prop :=
 CallTo Try.prog 81 #[.pointer a0,.int .u64 a1] h fun r h1=>∃ t9:Bool,r=.bool t9∧Cond (!t9) (R (.tuple #[.int .i64 0,.int .i64 32]:Value) h1) (PtrOk a0 fun p12=>∃ t15:Int,cell h1 ((p12.add 10).add 5)=some (.int .i64 t15)∧PtrOk a0 fun p17=>stOk h1 ((p17.add 10).add 5)∧Let (setc h1 ((p17.add 10).add 5) (.int .i64 (IntKind.wrap .i64 (t15 + (1:Int))))) fun h2=>PtrOk a0 fun p21=>∃ t23:Sl,cell h2 (p21.add 9)=some (.slice t23.a t23.n t23.c)∧LoopEv (evC Try.prog tab lv66 (sub [1,1,1,0,1,0,0] body66)) (contAt Try.prog tab lv66 [1,1,1,0,1,0] body66 [] (bodyK Try.prog Try.f66 [] R)) [(0,.pointer a0),(1,.int .u64 a1),(24,.int .i64 (((t23.n:Nat):Int))),(25,.int .i64 0)] 64 h2)
theorem f66F_eq (a0:Option Addr) (a1:Int) (h:Hp) (R:Value→Hp→Prop):evF Try.prog tab lv66 Try.f66 body66 [] [.pointer a0,.int .u64 a1] h R=f66F a0 a1 h R:=by kernel_rfl
theorem f66F_ok {a0:Option Addr} {a1:Int} {h:Hp} {R:Value→Hp→Prop} (hF:f66F a0 a1 h R):CallTo Try.prog 66 #[.pointer a0,.int .u64 a1] h R :=
 callTo_of_ev (lv:=lv66) (hints:=[]) (c:=body66) (args:=[.pointer a0,.int .u64 a1]) mixed tab_ok Try.func66 (by kernel_rfl) (by kernel_rfl) (by rw [f66F_eq]; exact hF)
/- (*larder/heap.Heap).At -/
noncomputable def body67:Code:=(Try.f67.body).getD .skip
def lv67 (m:Nat):List Nat:=[]
def f67F (a0:Option Addr) (a1:Int) (h:Hp) (R:Value→Hp→Prop):Prop :=
 CallTo Try.prog 78 #[.pointer a0,.int .i64 a1] h fun r h1=>∃ t8:Bool,r=.bool t8∧Cond (!t8) (R (.tuple #[.int .u64 0,.int .i64 35]:Value) h1) (PtrOk a0 fun p11=>∃ t13:Sl,cell h1 (p11.add 9)=some (.slice t13.a t13.n t13.c)∧(0 ≤ (IntKind.wrap .i64 (a1 - (1:Int)))∧(IntKind.wrap .i64 (a1 - (1:Int))) < ((t13.n:Nat):Int))∧PtrOk t13.a fun p16=>∃ t18:Int,cell h1 ((p16.add ((IntKind.wrap .i64 (a1 - (1:Int))).toNat * 2)).add 1)=some (.int .u64 t18)∧R (.tuple #[.int .u64 t18,.int .i64 0]:Value) h1)
theorem f67F_eq (a0:Option Addr) (a1:Int) (h:Hp) (R:Value→Hp→Prop):evF Try.prog tab lv67 Try.f67 body67 [] [.pointer a0,.int .i64 a1] h R=f67F a0 a1 h R:=by kernel_rfl
theorem f67F_ok {a0:Option Addr} {a1:Int} {h:Hp} {R:Value→Hp→Prop} (hF:f67F a0 a1 h R):CallTo Try.prog 67 #[.pointer a0,.int .i64 a1] h R :=
 callTo_of_ev (lv:=lv67) (hints:=[]) (c:=body67) (args:=[.pointer a0,.int .i64 a1]) mixed tab_ok Try.func67 (by kernel_rfl) (by kernel_rfl) (by rw [f67F_eq]; exact hF)
/- (*larder/heap.Heap).Get -/
noncomputable def body69:Code:=(Try.f69.body).getD .skip
def lv69 (m:Nat):List Nat:=[]
def f69F (a0:Option Addr) (a1:Int) (a2:Int) (h:Hp) (R:Value→Hp→Prop):Prop :=
 CallTo Try.prog 84 #[.pointer a0,.int .u64 a1] h fun r h1=>∃ t16_0:Value,∃ t16_1:Int,∃ t16_2:Bool,r=.tuple #[t16_0,.int .i64 t16_1,.bool t16_2]∧Cond (!t16_2) (R (.tuple #[.int .u64 0,.int .i64 32]:Value) h1) (∃ a26:Option Addr,(t16_0:Value)=.iface 98 (.pointer a26)∧CallTo Try.prog 122 #[.pointer a26,.int .i64 t16_1,.int .i64 a2] h1 fun r h2=>∃ t26_0:Int,∃ t26_1:Int,r=.tuple #[.int .u64 t26_0,.int .i64 t26_1]∧Cond (t26_1 != (0:Int)) (R (.tuple #[.int .u64 0,.int .i64 33]:Value) h2) (R (.tuple #[.int .u64 t26_0,.int .i64 0]:Value) h2))
theorem f69F_eq (a0:Option Addr) (a1:Int) (a2:Int) (h:Hp) (R:Value→Hp→Prop):evF Try.prog tab lv69 Try.f69 body69 [] [.pointer a0,.int .u64 a1,.int .i64 a2] h R=f69F a0 a1 a2 h R:=by kernel_rfl
theorem f69F_ok {a0:Option Addr} {a1:Int} {a2:Int} {h:Hp} {R:Value→Hp→Prop} (hF:f69F a0 a1 a2 h R):CallTo Try.prog 69 #[.pointer a0,.int .u64 a1,.int .i64 a2] h R :=
 callTo_of_ev (lv:=lv69) (hints:=[]) (c:=body69) (args:=[.pointer a0,.int .u64 a1,.int .i64 a2]) mixed tab_ok Try.func69 (by kernel_rfl) (by kernel_rfl) (by rw [f69F_eq]; exact hF)
/- (*larder/heap.Heap).Set -/
noncomputable def body71:Code:=(Try.f71.body).getD .skip
def lv71 (m:Nat):List Nat:=[]
def f71K1  (x0:Option Addr) (x2:Int) (x3:Int) (x9:Value) (x10:Int) (x13:Int) (x41:Bool) (h:Hp) (R:Value→Hp→Prop):Prop :=
 Cond x41 (R (.int .i64 33:Value) h) (Cond (decide (x2 < x13)) (CallTo Try.prog 81 #[.pointer x0,.int .u64 x3] h fun r h3=>∃ t48:Bool,r=.bool t48∧Cond (!t48) (R (.int .i64 32:Value) h3) (∃ a55:Option Addr,(x9:Value)=.iface 98 (.pointer a55)∧CallTo Try.prog 123 #[.pointer a55,.int .i64 x10,.int .i64 x2,.int .u64 x3] h3 fun r h4=>∃ t55:Int,r=.int .i64 t55∧R (.int .i64 t55:Value) h4)) (∃ a55:Option Addr,(x9:Value)=.iface 98 (.pointer a55)∧CallTo Try.prog 123 #[.pointer a55,.int .i64 x10,.int .i64 x2,.int .u64 x3] h fun r h5=>∃ t55:Int,r=.int .i64 t55∧R (.int .i64 t55:Value) h5))
def f71F (a0:Option Addr) (a1:Int) (a2:Int) (a3:Int) (h:Hp) (R:Value→Hp→Prop):Prop :=
 CallTo Try.prog 84 #[.pointer a0,.int .u64 a1] h fun r h1=>∃ t19_0:Value,∃ t19_1:Int,∃ t19_2:Bool,r=.tuple #[t19_0,.int .i64 t19_1,.bool t19_2]∧Cond (!t19_2) (R (.int .i64 32:Value) h1) (∃ a28:Option Addr,(t19_0:Value)=.iface 98 (.pointer a28)∧CallTo Try.prog 76 #[.pointer a28,.int .i64 t19_1] h1 fun r h2=>∃ t28_0:Int,∃ t28_1:Int,∃ t28_2:Int,∃ t28_3:Int,r=.tuple #[.int .i64 t28_0,.int .i64 t28_1,.int .i64 t28_2,.int .i64 t28_3]∧Cond (decide (a2 < (0:Int))) (f71K1  a0 a2 a3 t19_0 t19_1 t28_1 true h2 R) (f71K1  a0 a2 a3 t19_0 t19_1 t28_1 (decide (a2 ≥ (IntKind.wrap .i64 (t28_1 + t28_2)))) h2 R))
theorem f71F_eq (a0:Option Addr) (a1:Int) (a2:Int) (a3:Int) (h:Hp) (R:Value→Hp→Prop):evF Try.prog tab lv71 Try.f71 body71 [] [.pointer a0,.int .u64 a1,.int .i64 a2,.int .u64 a3] h R=f71F a0 a1 a2 a3 h R:=by kernel_rfl
theorem f71F_ok {a0:Option Addr} {a1:Int} {a2:Int} {a3:Int} {h:Hp} {R:Value→Hp→Prop} (hF:f71F a0 a1 a2 a3 h R):CallTo Try.prog 71 #[.pointer a0,.int .u64 a1,.int .i64 a2,.int .u64 a3] h R :=
 callTo_of_ev (lv:=lv71) (hints:=[]) (c:=body71) (args:=[.pointer a0,.int .u64 a1,.int .i64 a2,.int .u64 a3]) mixed tab_ok Try.func71 (by kernel_rfl) (by kernel_rfl) (by rw [f71F_eq]; exact hF)
/- (*larder/heap.Heap).moved -/
noncomputable def body73:Code:=(Try.f73.body).getD .skip
def lv73 (m:Nat):List Nat:=[]
def f73F (a0:Option Addr) (a1:Int) (h:Hp) (R:Value→Hp→Prop):Prop :=
 Cond (a1 == (0:Int)) (R (.int .u64 0:Value) h) (Cond ((andI .u64 a1 (9223372036854775808:Int)) != (0:Int)) (PtrOk a0 fun p17=>∃ t19:Sl,cell h (p17.add 4)=some (.slice t19.a t19.n t19.c)∧(0 ≤ (IntKind.wrap .i64 (andNotI .u64 a1 (9223372036854775808:Int)))∧(IntKind.wrap .i64 (andNotI .u64 a1 (9223372036854775808:Int))) < ((t19.n:Nat):Int))∧PtrOk t19.a fun p21=>∃ t22:Bool,cell h (p21.add ((IntKind.wrap .i64 (andNotI .u64 a1 (9223372036854775808:Int))).toNat * 1))=some (.bool t22)∧Cond (!t22) (PtrOk a0 fun p25=>∃ t27:Sl,cell h (p25.add 4)=some (.slice t27.a t27.n t27.c)∧(0 ≤ (IntKind.wrap .i64 (andNotI .u64 a1 (9223372036854775808:Int)))∧(IntKind.wrap .i64 (andNotI .u64 a1 (9223372036854775808:Int))) < ((t27.n:Nat):Int))∧PtrOk t27.a fun p29=>stOk h (p29.add ((IntKind.wrap .i64 (andNotI .u64 a1 (9223372036854775808:Int))).toNat * 1))∧Let (setc h (p29.add ((IntKind.wrap .i64 (andNotI .u64 a1 (9223372036854775808:Int))).toNat * 1)) (.bool true)) fun h1=>PtrOk a0 fun p32=>∃ t34:Sl,cell h1 (p32.add 5)=some (.slice t34.a t34.n t34.c)∧Let (h1.push (.cells #[.int .i64 (IntKind.wrap .i64 (andNotI .u64 a1 (9223372036854775808:Int)))] 3)) fun h2=>appSl 3 1 8 #[.int .i64 0] t34.a t34.n t34.c (some (nb h1)) 1 h2 fun ra3 rn3 rc3 h3=>PtrOk a0 fun p38=>stOk h3 (p38.add 5)∧Let (setc h3 (p38.add 5) (.slice ra3 rn3 rc3)) fun h4=>R (.int .u64 a1:Value) h4) (R (.int .u64 a1:Value) h)) (PtrOk a0 fun p43=>∃ t45:Option Addr,cell h (p43.add 2)=some (.pointer t45)∧PtrOk a0 fun p47=>∃ t49:Option Addr,cell h (p47.add 1)=some (.pointer t49)∧CallTo Try.prog 77 #[.pointer t45,.pointer t49,.int .i64 (IntKind.wrap .i64 a1)] h fun r h5=>∃ t52_0:Int,∃ t52_1:Int,r=.tuple #[.int .i64 t52_0,.int .i64 t52_1]∧R ((.int .u64 (IntKind.wrap .u64 t52_0):Value)) h5))
theorem f73F_eq (a0:Option Addr) (a1:Int) (h:Hp) (R:Value→Hp→Prop):evF Try.prog tab lv73 Try.f73 body73 [] [.pointer a0,.int .u64 a1] h R=f73F a0 a1 h R:=by kernel_rfl
theorem f73F_ok {a0:Option Addr} {a1:Int} {h:Hp} {R:Value→Hp→Prop} (hF:f73F a0 a1 h R):CallTo Try.prog 73 #[.pointer a0,.int .u64 a1] h R :=
 callTo_of_ev (lv:=lv73) (hints:=[]) (c:=body73) (args:=[.pointer a0,.int .u64 a1]) mixed tab_ok Try.func73 (by kernel_rfl) (by kernel_rfl) (by rw [f73F_eq]; exact hF)
/- (*larder/heap.Heap).look -/
noncomputable def body74:Code:=(Try.f74.body).getD .skip
def lv74 (m:Nat):List Nat:=if m=3 then [0,1,2,8,9,11] else []
def f74I1 (J:Nat→Option Addr→Value→Int→Int→Int→Int→Hp→Prop) (n:Nat) (env:List Value) (h:Hp):Prop:=lenIs env 48 (DecP env 0 fun s0=>DecV env 1 fun s1=>DecI .i64 env 2 fun s2=>DecI .i64 env 8 fun s8=>DecI .i64 env 9 fun s9=>DecI .i64 env 11 fun s11=>J n s0 s1 s2 s8 s9 s11 h)
def f74L1 (J1:Nat→Option Addr→Value→Int→Int→Int→Int→Hp→Prop) (n1:Nat) (s0:Option Addr) (s1:Value) (s2:Int) (s8:Int) (s9:Int) (s11:Int) (g:Nat→Value) (h:Hp) (R:Value→Hp→Prop):Prop :=
 Cond (decide (s11 < s8)) (∃ a31:Option Addr,(s1:Value)=.iface 98 (.pointer a31)∧CallTo Try.prog 122 #[.pointer a31,.int .i64 s2,.int .i64 s11] h fun r h2=>∃ t31_0:Int,∃ t31_1:Int,r=.tuple #[.int .u64 t31_0,.int .i64 t31_1]∧∃ m41:Addr,(s1:Value)=.iface 98 (.pointer (some m41))∧CallTo Try.prog 73 #[.pointer s0,.int .u64 t31_0] h2 fun r h3=>∃ t39:Int,r=.int .u64 t39∧∃ a43:Option Addr,(s1:Value)=.iface 98 (.pointer a43)∧CallTo Try.prog 123 #[.pointer a43,.int .i64 s2,.int .i64 s11,.int .u64 t39] h3 fun r h4=>∃ t43:Int,r=.int .i64 t43∧∃ m,m < n1∧J1 m s0 s1 s2 s8 s9 (IntKind.wrap .i64 (s11 + (1:Int))) h4) (R ((.int .i64 (IntKind.wrap .i64 ((IntKind.wrap .i64 ((1:Int) + s8)) + s9)):Value)) h)
theorem f74L1_eq (J1:Nat→Option Addr→Value→Int→Int→Int→Int→Hp→Prop) (n1:Nat) (s0:Option Addr) (s1:Value) (s2:Int) (s8:Int) (s9:Int) (s11:Int) (g:Nat→Value) (h:Hp) (R:Value→Hp→Prop):(evC Try.prog tab lv74 (sub [1,1,0,1,0,0] body74)) (loopK (f74I1 J1) n1 (contAt Try.prog tab lv74 [1,1,0,1,0] body74 [] (bodyK Try.prog Try.f74 [] R))) (mkEnv 48 [(0,.pointer s0),(1,s1),(2,.int .i64 s2),(8,.int .i64 s8),(9,.int .i64 s9),(11,.int .i64 s11)] g) h=f74L1 J1 n1 s0 s1 s2 s8 s9 s11 g h R:=by kernel_rfl
theorem f74I1_at (J:Nat→Option Addr→Value→Int→Int→Int→Int→Hp→Prop) (n:Nat) (s0:Option Addr) (s1:Value) (s2:Int) (s8:Int) (s9:Int) (s11:Int) (g:Nat→Value) (h:Hp):f74I1 J n (mkEnv 48 [(0,.pointer s0),(1,s1),(2,.int .i64 s2),(8,.int .i64 s8),(9,.int .i64 s9),(11,.int .i64 s11)] g) h=J n s0 s1 s2 s8 s9 s11 h:=by kernel_rfl
theorem f74L1_rule  {R:Value→Hp→Prop} {s0:Option Addr} {s1:Value} {s2:Int} {s8:Int} {s9:Int} {s11:Int} {h0:Hp} (J:Nat→Option Addr→Value→Int→Int→Int→Int→Hp→Prop) (n0:Nat) (hi:J n0 s0 s1 s2 s8 s9 s11 h0)
  (hr:∀ n s0 s1 s2 s8 s9 s11 g h,J n s0 s1 s2 s8 s9 s11 h→f74L1  J n s0 s1 s2 s8 s9 s11 g h R):LoopEv (evC Try.prog tab lv74 (sub [1,1,0,1,0,0] body74)) (contAt Try.prog tab lv74 [1,1,0,1,0] body74 [] (bodyK Try.prog Try.f74 [] R)) [(0,.pointer s0),(1,s1),(2,.int .i64 s2),(8,.int .i64 s8),(9,.int .i64 s9),(11,.int .i64 s11)] 48 h0:=by
 refine ⟨f74I1 J,n0,fun g=>by rw [f74I1_at]; exact hi,fun n env h hI=>?_⟩
 clear hi
 clear s0 s1 s2 s8 s9 s11
 obtain ⟨hlen,hI⟩:=Cond_true' hI
 have hlen:env.length=48:=by simpa using hlen
 obtain ⟨s0,es0,hI⟩:=DecP.out hI
 obtain ⟨s1,es1,hI⟩:=DecV.out hI
 obtain ⟨s2,es2,hI⟩:=DecI.out hI
 obtain ⟨s8,es8,hI⟩:=DecI.out hI
 obtain ⟨s9,es9,hI⟩:=DecI.out hI
 obtain ⟨s11,es11,hI⟩:=DecI.out hI
 rw [mkEnv_of (l:=[(0,.pointer s0),(1,s1),(2,.int .i64 s2),(8,.int .i64 s8),(9,.int .i64 s9),(11,.int .i64 s11)]) hlen (by simp only [List.mem_cons,List.not_mem_nil,or_false,forall_eq_or_imp,forall_eq]; exact ⟨es0,es1,es2,es8,es9,es11⟩)]
 rw [f74L1_eq]
 exact hr n s0 s1 s2 s8 s9 s11 _ h hI
def f74F (a0:Option Addr) (a1:Value) (a2:Int) (h:Hp) (R:Value→Hp→Prop):Prop :=
 ∃ a17:Option Addr,(a1:Value)=.iface 98 (.pointer a17)∧CallTo Try.prog 76 #[.pointer a17,.int .i64 a2] h fun r h1=>∃ t17_0:Int,∃ t17_1:Int,∃ t17_2:Int,∃ t17_3:Int,r=.tuple #[.int .i64 t17_0,.int .i64 t17_1,.int .i64 t17_2,.int .i64 t17_3]∧LoopEv (evC Try.prog tab lv74 (sub [1,1,0,1,0,0] body74)) (contAt Try.prog tab lv74 [1,1,0,1,0] body74 [] (bodyK Try.prog Try.f74 [] R)) [(0,.pointer a0),(1,a1),(2,.int .i64 a2),(8,.int .i64 t17_1),(9,.int .i64 t17_2),(11,.int .i64 0)] 48 h1
theorem f74F_eq (a0:Option Addr) (a1:Value) (a2:Int) (h:Hp) (R:Value→Hp→Prop):evF Try.prog tab lv74 Try.f74 body74 [] [.pointer a0,a1,.int .i64 a2] h R=f74F a0 a1 a2 h R:=by kernel_rfl
theorem f74F_ok {a0:Option Addr} {a1:Value} {a2:Int} {h:Hp} {R:Value→Hp→Prop} (hF:f74F a0 a1 a2 h R):CallTo Try.prog 74 #[.pointer a0,a1,.int .i64 a2] h R :=
 callTo_of_ev (lv:=lv74) (hints:=[]) (c:=body74) (args:=[.pointer a0,a1,.int .i64 a2]) mixed tab_ok Try.func74 (by kernel_rfl) (by kernel_rfl) (by rw [f74F_eq]; exact hF)
/- larder/heap.want -/
noncomputable def body75:Code:=(Try.f75.body).getD .skip
def lv75 (m:Nat):List Nat:=if m=2 then [0,3] else []
def f75I1 (J:Nat→Int→Int→Hp→Prop) (n:Nat) (env:List Value) (h:Hp):Prop:=lenIs env 12 (DecI .i64 env 0 fun s0=>DecI .i64 env 3 fun s3=>J n s0 s3 h)
def f75L1 (J1:Nat→Int→Int→Hp→Prop) (n1:Nat) (s0:Int) (s3:Int) (g:Nat→Value) (h:Hp) (R:Value→Hp→Prop):Prop :=
 Cond (decide ((IntKind.wrap .i64 ((4:Int) * s0)) > (IntKind.wrap .i64 ((3:Int) * s3)))) (∃ m,m < n1∧J1 m s0 (IntKind.wrap .i64 (s3 * (2:Int))) h) (R (.int .i64 s3:Value) h)
theorem f75L1_eq (J1:Nat→Int→Int→Hp→Prop) (n1:Nat) (s0:Int) (s3:Int) (g:Nat→Value) (h:Hp) (R:Value→Hp→Prop):(evC Try.prog tab lv75 (sub [1,1,0,0,0] body75)) (loopK (f75I1 J1) n1 (contAt Try.prog tab lv75 [1,1,0,0] body75 [] (bodyK Try.prog Try.f75 [] R))) (mkEnv 12 [(0,.int .i64 s0),(3,.int .i64 s3)] g) h=f75L1 J1 n1 s0 s3 g h R:=by kernel_rfl
theorem f75I1_at (J:Nat→Int→Int→Hp→Prop) (n:Nat) (s0:Int) (s3:Int) (g:Nat→Value) (h:Hp):f75I1 J n (mkEnv 12 [(0,.int .i64 s0),(3,.int .i64 s3)] g) h=J n s0 s3 h:=by kernel_rfl
theorem f75L1_rule  {R:Value→Hp→Prop} {s0:Int} {s3:Int} {h0:Hp} (J:Nat→Int→Int→Hp→Prop) (n0:Nat) (hi:J n0 s0 s3 h0)
  (hr:∀ n s0 s3 g h,J n s0 s3 h→f75L1  J n s0 s3 g h R):LoopEv (evC Try.prog tab lv75 (sub [1,1,0,0,0] body75)) (contAt Try.prog tab lv75 [1,1,0,0] body75 [] (bodyK Try.prog Try.f75 [] R)) [(0,.int .i64 s0),(3,.int .i64 s3)] 12 h0:=by
 refine ⟨f75I1 J,n0,fun g=>by rw [f75I1_at]; exact hi,fun n env h hI=>?_⟩
 clear hi
 clear s0 s3
 obtain ⟨hlen,hI⟩:=Cond_true' hI
 have hlen:env.length=12:=by simpa using hlen
 obtain ⟨s0,es0,hI⟩:=DecI.out hI
 obtain ⟨s3,es3,hI⟩:=DecI.out hI
 rw [mkEnv_of (l:=[(0,.int .i64 s0),(3,.int .i64 s3)]) hlen (by simp only [List.mem_cons,List.not_mem_nil,or_false,forall_eq_or_imp,forall_eq]; exact ⟨es0,es3⟩)]
 rw [f75L1_eq]
 exact hr n s0 s3 _ h hI
def f75F (a0:Int) (h:Hp) (R:Value→Hp→Prop):Prop :=
 LoopEv (evC Try.prog tab lv75 (sub [1,1,0,0,0] body75)) (contAt Try.prog tab lv75 [1,1,0,0] body75 [] (bodyK Try.prog Try.f75 [] R)) [(0,.int .i64 a0),(3,.int .i64 64)] 12 h
theorem f75F_eq (a0:Int) (h:Hp) (R:Value→Hp→Prop):evF Try.prog tab lv75 Try.f75 body75 [] [.int .i64 a0] h R=f75F a0 h R:=by kernel_rfl
theorem f75F_ok {a0:Int} {h:Hp} {R:Value→Hp→Prop} (hF:f75F a0 h R):CallTo Try.prog 75 #[.int .i64 a0] h R :=
 callTo_of_ev (lv:=lv75) (hints:=[]) (c:=body75) (args:=[.int .i64 a0]) mixed tab_ok Try.func75 (by kernel_rfl) (by kernel_rfl) (by rw [f75F_eq]; exact hF)
/- (*larder/heap.Heap).held -/
noncomputable def body78:Code:=(Try.f78.body).getD .skip
def lv78 (m:Nat):List Nat:=[]
def f78F (a0:Option Addr) (a1:Int) (h:Hp) (R:Value→Hp→Prop):Prop :=
 Cond (decide (a1 ≥ (1:Int))) (PtrOk a0 fun p10=>∃ t12:Sl,cell h (p10.add 9)=some (.slice t12.a t12.n t12.c)∧Cond (decide (a1 ≤ (((t12.n:Nat):Int)))) (PtrOk a0 fun p18=>∃ t20:Sl,cell h (p18.add 9)=some (.slice t20.a t20.n t20.c)∧(0 ≤ (IntKind.wrap .i64 (a1 - (1:Int)))∧(IntKind.wrap .i64 (a1 - (1:Int))) < ((t20.n:Nat):Int))∧PtrOk t20.a fun p23=>∃ t25:Bool,cell h (p23.add ((IntKind.wrap .i64 (a1 - (1:Int))).toNat * 2))=some (.bool t25)∧R (.bool t25:Value) h) (R (.bool false:Value) h)) (R (.bool false:Value) h)
theorem f78F_eq (a0:Option Addr) (a1:Int) (h:Hp) (R:Value→Hp→Prop):evF Try.prog tab lv78 Try.f78 body78 [] [.pointer a0,.int .i64 a1] h R=f78F a0 a1 h R:=by kernel_rfl
theorem f78F_ok {a0:Option Addr} {a1:Int} {h:Hp} {R:Value→Hp→Prop} (hF:f78F a0 a1 h R):CallTo Try.prog 78 #[.pointer a0,.int .i64 a1] h R :=
 callTo_of_ev (lv:=lv78) (hints:=[]) (c:=body78) (args:=[.pointer a0,.int .i64 a1]) mixed tab_ok Try.func78 (by kernel_rfl) (by kernel_rfl) (by rw [f78F_eq]; exact hF)
/- (*larder/heap.Heap).good -/
noncomputable def body81:Code:=(Try.f81.body).getD .skip
def lv81 (m:Nat):List Nat:=[]
def f81F (a0:Option Addr) (a1:Int) (h:Hp) (R:Value→Hp→Prop):Prop :=
 Cond (a1 == (0:Int)) (R (.bool true:Value) h) (CallTo Try.prog 84 #[.pointer a0,.int .u64 a1] h fun r h1=>∃ t13_0:Value,∃ t13_1:Int,∃ t13_2:Bool,r=.tuple #[t13_0,.int .i64 t13_1,.bool t13_2]∧R (.bool t13_2:Value) h1)
theorem f81F_eq (a0:Option Addr) (a1:Int) (h:Hp) (R:Value→Hp→Prop):evF Try.prog tab lv81 Try.f81 body81 [] [.pointer a0,.int .u64 a1] h R=f81F a0 a1 h R:=by kernel_rfl
theorem f81F_ok {a0:Option Addr} {a1:Int} {h:Hp} {R:Value→Hp→Prop} (hF:f81F a0 a1 h R):CallTo Try.prog 81 #[.pointer a0,.int .u64 a1] h R :=
 callTo_of_ev (lv:=lv81) (hints:=[]) (c:=body81) (args:=[.pointer a0,.int .u64 a1]) mixed tab_ok Try.func81 (by kernel_rfl) (by kernel_rfl) (by rw [f81F_eq]; exact hF)
/- (*larder/heap.Heap).find -/
noncomputable def body84:Code:=(Try.f84.body).getD .skip
def lv84 (m:Nat):List Nat:=[]
def f84K1  (x0:Option Addr) (x7:Int) (x34:Bool) (h:Hp) (R:Value→Hp→Prop):Prop :=
 Cond x34 (R (.tuple #[.nilIface,.int .i64 0,.bool false]:Value) h) (PtrOk x0 fun p36=>∃ t38:Sl,cell h (p36.add 3)=some (.slice t38.a t38.n t38.c)∧(0 ≤ x7∧x7 < ((t38.n:Nat):Int))∧PtrOk t38.a fun p40=>∃ t41:Option Addr,cell h (p40.add (x7.toNat * 1))=some (.pointer t41)∧R ((.tuple #[.iface 98 (.pointer t41),.int .i64 1,.bool true]:Value)) h)
def f84K2  (x0:Option Addr) (x1:Int) (x54:Bool) (h:Hp) (R:Value→Hp→Prop):Prop :=
 Cond x54 (R (.tuple #[.nilIface,.int .i64 0,.bool false]:Value) h) (PtrOk x0 fun p57=>∃ t59:Option Addr,cell h (p57.add 1)=some (.pointer t59)∧CallTo Try.prog 76 #[.pointer t59,.int .i64 (IntKind.wrap .i64 x1)] h fun r h1=>∃ t62_0:Int,∃ t62_1:Int,∃ t62_2:Int,∃ t62_3:Int,r=.tuple #[.int .i64 t62_0,.int .i64 t62_1,.int .i64 t62_2,.int .i64 t62_3]∧Cond (t62_3 != (0:Int)) (R (.tuple #[.nilIface,.int .i64 0,.bool false]:Value) h1) (PtrOk x0 fun p70=>∃ t72:Option Addr,cell h1 (p70.add 1)=some (.pointer t72)∧R ((.tuple #[.iface 98 (.pointer t72),.int .i64 (IntKind.wrap .i64 x1),.bool true]:Value)) h1))
def f84F (a0:Option Addr) (a1:Int) (h:Hp) (R:Value→Hp→Prop):Prop :=
 Cond ((andI .u64 a1 (9223372036854775808:Int)) != (0:Int)) (PtrOk a0 fun p19=>∃ t21:Sl,cell h (p19.add 3)=some (.slice t21.a t21.n t21.c)∧Cond (decide ((andNotI .u64 a1 (9223372036854775808:Int)) ≥ (IntKind.wrap .u64 (((t21.n:Nat):Int))))) (f84K1  a0 (andNotI .u64 a1 (9223372036854775808:Int)) true h R) (PtrOk a0 fun p27=>∃ t29:Sl,cell h (p27.add 3)=some (.slice t29.a t29.n t29.c)∧(0 ≤ (andNotI .u64 a1 (9223372036854775808:Int))∧(andNotI .u64 a1 (9223372036854775808:Int)) < ((t29.n:Nat):Int))∧PtrOk t29.a fun p31=>∃ t32:Option Addr,cell h (p31.add ((andNotI .u64 a1 (9223372036854775808:Int)).toNat * 1))=some (.pointer t32)∧f84K1  a0 (andNotI .u64 a1 (9223372036854775808:Int)) (Option.isNone t32) h R)) (Cond (a1 == (0:Int)) (f84K2  a0 a1 true h R) (PtrOk a0 fun p48=>∃ t50:Option Addr,cell h (p48.add 1)=some (.pointer t50)∧CallTo Try.prog 50 #[.pointer t50] h fun r h2=>∃ t51:Int,r=.int .i64 t51∧f84K2  a0 a1 (decide (a1 ≥ (IntKind.wrap .u64 t51))) h2 R))
theorem f84F_eq (a0:Option Addr) (a1:Int) (h:Hp) (R:Value→Hp→Prop):evF Try.prog tab lv84 Try.f84 body84 [] [.pointer a0,.int .u64 a1] h R=f84F a0 a1 h R:=by kernel_rfl
theorem f84F_ok {a0:Option Addr} {a1:Int} {h:Hp} {R:Value→Hp→Prop} (hF:f84F a0 a1 h R):CallTo Try.prog 84 #[.pointer a0,.int .u64 a1] h R :=
 callTo_of_ev (lv:=lv84) (hints:=[]) (c:=body84) (args:=[.pointer a0,.int .u64 a1]) mixed tab_ok Try.func84 (by kernel_rfl) (by kernel_rfl) (by rw [f84F_eq]; exact hF)
/- (*larder/heap.Heap).SetBytes -/
noncomputable def body86:Code:=(Try.f86.body).getD .skip
def lv86 (m:Nat):List Nat:=[]
def f86F (a0:Option Addr) (a1:Int) (a2:Int) (a3:Sl) (h:Hp) (R:Value→Hp→Prop):Prop :=
 CallTo Try.prog 84 #[.pointer a0,.int .u64 a1] h fun r h1=>∃ t16_0:Value,∃ t16_1:Int,∃ t16_2:Bool,r=.tuple #[t16_0,.int .i64 t16_1,.bool t16_2]∧Cond (!t16_2) (R (.int .i64 32:Value) h1) (∃ a26:Option Addr,(t16_0:Value)=.iface 98 (.pointer a26)∧CallTo Try.prog 124 #[.pointer a26,.int .i64 t16_1,.int .i64 a2,.slice a3.a a3.n a3.c] h1 fun r h2=>∃ t26:Int,r=.int .i64 t26∧Cond (t26 != (0:Int)) (R (.int .i64 33:Value) h2) (R (.int .i64 0:Value) h2))
theorem f86F_eq (a0:Option Addr) (a1:Int) (a2:Int) (a3:Sl) (h:Hp) (R:Value→Hp→Prop):evF Try.prog tab lv86 Try.f86 body86 [] [.pointer a0,.int .u64 a1,.int .i64 a2,.slice a3.a a3.n a3.c] h R=f86F a0 a1 a2 a3 h R:=by kernel_rfl
theorem f86F_ok {a0:Option Addr} {a1:Int} {a2:Int} {a3:Sl} {h:Hp} {R:Value→Hp→Prop} (hF:f86F a0 a1 a2 a3 h R):CallTo Try.prog 86 #[.pointer a0,.int .u64 a1,.int .i64 a2,.slice a3.a a3.n a3.c] h R :=
 callTo_of_ev (lv:=lv86) (hints:=[]) (c:=body86) (args:=[.pointer a0,.int .u64 a1,.int .i64 a2,.slice a3.a a3.n a3.c]) mixed tab_ok Try.func86 (by kernel_rfl) (by kernel_rfl) (by rw [f86F_eq]; exact hF)
/- (*larder/heap.Heap).Object -/
noncomputable def body91:Code:=(Try.f91.body).getD .skip
def lv91 (m:Nat):List Nat:=[]
def f91F (a0:Option Addr) (a1:Int) (h:Hp) (R:Value→Hp→Prop):Prop :=
 CallTo Try.prog 84 #[.pointer a0,.int .u64 a1] h fun r h1=>∃ t14_0:Value,∃ t14_1:Int,∃ t14_2:Bool,r=.tuple #[t14_0,.int .i64 t14_1,.bool t14_2]∧Cond (!t14_2) (R (.tuple #[.int .i64 0,.int .i64 0,.int .i64 0,.int .i64 32]:Value) h1) (∃ a22:Option Addr,(t14_0:Value)=.iface 98 (.pointer a22)∧CallTo Try.prog 76 #[.pointer a22,.int .i64 t14_1] h1 fun r h2=>∃ t22_0:Int,∃ t22_1:Int,∃ t22_2:Int,∃ t22_3:Int,r=.tuple #[.int .i64 t22_0,.int .i64 t22_1,.int .i64 t22_2,.int .i64 t22_3]∧R (.tuple #[.int .i64 t22_0,.int .i64 t22_1,.int .i64 t22_2,.int .i64 t22_3]:Value) h2)
theorem f91F_eq (a0:Option Addr) (a1:Int) (h:Hp) (R:Value→Hp→Prop):evF Try.prog tab lv91 Try.f91 body91 [] [.pointer a0,.int .u64 a1] h R=f91F a0 a1 h R:=by kernel_rfl
theorem f91F_ok {a0:Option Addr} {a1:Int} {h:Hp} {R:Value→Hp→Prop} (hF:f91F a0 a1 h R):CallTo Try.prog 91 #[.pointer a0,.int .u64 a1] h R :=
 callTo_of_ev (lv:=lv91) (hints:=[]) (c:=body91) (args:=[.pointer a0,.int .u64 a1]) mixed tab_ok Try.func91 (by kernel_rfl) (by kernel_rfl) (by rw [f91F_eq]; exact hF)
/- (*larder/heap.Heap).Bytes -/
noncomputable def body92:Code:=(Try.f92.body).getD .skip
def lv92 (m:Nat):List Nat:=[]
def f92F (a0:Option Addr) (a1:Int) (a2:Int) (a3:Int) (h:Hp) (R:Value→Hp→Prop):Prop :=
 CallTo Try.prog 84 #[.pointer a0,.int .u64 a1] h fun r h1=>∃ t18_0:Value,∃ t18_1:Int,∃ t18_2:Bool,r=.tuple #[t18_0,.int .i64 t18_1,.bool t18_2]∧Cond (!t18_2) (R (.tuple #[.slice none 0 0,.int .i64 32]:Value) h1) (∃ a29:Option Addr,(t18_0:Value)=.iface 98 (.pointer a29)∧CallTo Try.prog 121 #[.pointer a29,.int .i64 t18_1,.int .i64 a2,.int .i64 a3] h1 fun r h2=>∃ t29_0:Sl,∃ t29_1:Int,r=.tuple #[.slice t29_0.a t29_0.n t29_0.c,.int .i64 t29_1]∧Cond (t29_1 != (0:Int)) (R (.tuple #[.slice none 0 0,.int .i64 33]:Value) h2) (R (.tuple #[.slice t29_0.a t29_0.n t29_0.c,.int .i64 0]:Value) h2))
theorem f92F_eq (a0:Option Addr) (a1:Int) (a2:Int) (a3:Int) (h:Hp) (R:Value→Hp→Prop):evF Try.prog tab lv92 Try.f92 body92 [] [.pointer a0,.int .u64 a1,.int .i64 a2,.int .i64 a3] h R=f92F a0 a1 a2 a3 h R:=by kernel_rfl
theorem f92F_ok {a0:Option Addr} {a1:Int} {a2:Int} {a3:Int} {h:Hp} {R:Value→Hp→Prop} (hF:f92F a0 a1 a2 a3 h R):CallTo Try.prog 92 #[.pointer a0,.int .u64 a1,.int .i64 a2,.int .i64 a3] h R :=
 callTo_of_ev (lv:=lv92) (hints:=[]) (c:=body92) (args:=[.pointer a0,.int .u64 a1,.int .i64 a2,.int .i64 a3]) mixed tab_ok Try.func92 (by kernel_rfl) (by kernel_rfl) (by rw [f92F_eq]; exact hF)
end Go.Ev
