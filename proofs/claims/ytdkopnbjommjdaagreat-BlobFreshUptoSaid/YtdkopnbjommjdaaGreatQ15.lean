/- Printed by a program (own work) out of the loaded functions: what each says of the heap, and that the evaluator says the same / Memory by parts: blocks by number, what lies in them, slices over them / Lists of rows, slices' cells, what is read stays read / The blob package over the plain data: words, lay, Len, Slice, Read. No condition but that these are ones. -/
import Derived.Test.YtdkopnbjommjdaaGreatQ4
import Derived.Test.YtdkopnbjommjdaaGreatQ3
import Derived.Test.YtdkopnbjommjdaaGreatQ14
set_option linter.all false
set_option maxRecDepth 100000
namespace Go.Ev
open Go.Proofs
/- larder/blob.New -/
noncomputable def body41:Code:=(Tryz.f41.body).getD .skip
def lv41 (m:Nat):List Nat:=if m=3 then [0,1,6,13,14,15] else if m=12 then [0,9,10,28,29,30] else []
def f41I1 (J:Nat→Option Addr→Sl→Int→Sl→Int→Int→Hp→Prop) (n:Nat) (env:List Value) (h:Hp):Prop:=lenIs env 47 (DecP env 0 fun s0=>DecL env 1 fun s1=>DecI .i64 env 6 fun s6=>DecL env 13 fun s13=>DecI .i64 env 14 fun s14=>DecI .i64 env 15 fun s15=>J n s0 s1 s6 s13 s14 s15 h)
def f41I2 (J:Nat→Option Addr→Sl→Int→Sl→Int→Int→Hp→Prop) (n:Nat) (env:List Value) (h:Hp):Prop:=lenIs env 47 (DecP env 0 fun s0=>DecL env 9 fun s9=>DecI .i64 env 10 fun s10=>DecL env 28 fun s28=>DecI .i64 env 29 fun s29=>DecI .i64 env 30 fun s30=>J n s0 s9 s10 s28 s29 s30 h)
def f41L1 (J1:Nat→Option Addr→Sl→Int→Sl→Int→Int→Hp→Prop) (n1:Nat) (s0:Option Addr) (s1:Sl) (s6:Int) (s13:Sl) (s14:Int) (s15:Int) (g:Nat→Value) (h:Hp) (R:Value→Hp→Prop):Prop :=
 Cond (decide (s15 < s14)) ((0 ≤ s15∧s15 < ((s13.n:Nat):Int))∧PtrOk s13.a fun p17=>∃ t18:Sl,cell h (p17.add (s15.toNat * 1))=some (.slice t18.a t18.n t18.c)∧Cond (decide ((IntKind.wrap .i64 (s6 + (((t18.n:Nat):Int)))) > (4096:Int))) (R (.tuple #[.int .u64 0,.int .i64 41]:Value) h) (∃ m,m < n1∧J1 m s0 s1 (IntKind.wrap .i64 (s6 + (((t18.n:Nat):Int)))) s13 s14 (IntKind.wrap .i64 (s15 + (1:Int))) h)) ((0 ≤ s6∧s6 ≤ s6)∧s6 < 2 ^ 62∧(1:Nat) * s6 ≤ 2 ^ 48∧Let (h.push (.cells (zrow #[.int .u8 0] (s6.toNat * 1)) 5)) fun h1=>LoopEv (evC Tryz.prog tab lv41 (sub [1,1,1,1,1,0,1,0,0] body41)) (contAt Tryz.prog tab lv41 [1,1,1,1,1,0,1,0] body41 [] (bodyK Tryz.prog Tryz.f41 [] R)) [(0,.pointer s0),(9,.slice (some (nb h)) s6.toNat s6.toNat),(10,.int .i64 0),(28,.slice s1.a s1.n s1.c),(29,.int .i64 (((s1.n:Nat):Int))),(30,.int .i64 0)] 47 h1)
theorem f41L1_eq (J1:Nat→Option Addr→Sl→Int→Sl→Int→Int→Hp→Prop) (n1:Nat) (s0:Option Addr) (s1:Sl) (s6:Int) (s13:Sl) (s14:Int) (s15:Int) (g:Nat→Value) (h:Hp) (R:Value→Hp→Prop):(evC Tryz.prog tab lv41 (sub [1,1,0,1,0,0] body41)) (loopK (f41I1 J1) n1 (contAt Tryz.prog tab lv41 [1,1,0,1,0] body41 [] (bodyK Tryz.prog Tryz.f41 [] R))) (mkEnv 47 [(0,.pointer s0),(1,.slice s1.a s1.n s1.c),(6,.int .i64 s6),(13,.slice s13.a s13.n s13.c),(14,.int .i64 s14),(15,.int .i64 s15)] g) h=f41L1 J1 n1 s0 s1 s6 s13 s14 s15 g h R:=by kernel_rfl
theorem f41I1_at (J:Nat→Option Addr→Sl→Int→Sl→Int→Int→Hp→Prop) (n:Nat) (s0:Option Addr) (s1:Sl) (s6:Int) (s13:Sl) (s14:Int) (s15:Int) (g:Nat→Value) (h:Hp):f41I1 J n (mkEnv 47 [(0,.pointer s0),(1,.slice s1.a s1.n s1.c),(6,.int .i64 s6),(13,.slice s13.a s13.n s13.c),(14,.int .i64 s14),(15,.int .i64 s15)] g) h=J n s0 s1 s6 s13 s14 s15 h:=by kernel_rfl
theorem f41L1_rule  {R:Value→Hp→Prop} {s0:Option Addr} {s1:Sl} {s6:Int} {s13:Sl} {s14:Int} {s15:Int} {h0:Hp} (J:Nat→Option Addr→Sl→Int→Sl→Int→Int→Hp→Prop) (n0:Nat) (hi:J n0 s0 s1 s6 s13 s14 s15 h0)
  (hr:∀ n s0 s1 s6 s13 s14 s15 g h,J n s0 s1 s6 s13 s14 s15 h→f41L1  J n s0 s1 s6 s13 s14 s15 g h R):LoopEv (evC Tryz.prog tab lv41 (sub [1,1,0,1,0,0] body41)) (contAt Tryz.prog tab lv41 [1,1,0,1,0] body41 [] (bodyK Tryz.prog Tryz.f41 [] R)) [(0,.pointer s0),(1,.slice s1.a s1.n s1.c),(6,.int .i64 s6),(13,.slice s13.a s13.n s13.c),(14,.int .i64 s14),(15,.int .i64 s15)] 47 h0:=by
 refine ⟨f41I1 J,n0,fun g=>by rw [f41I1_at]; exact hi,fun n env h hI=>?_⟩
 clear hi
 clear s0 s1 s6 s13 s14 s15
 obtain ⟨hlen,hI⟩:=Cond_true' hI
 have hlen:env.length=47:=by simpa using hlen
 obtain ⟨s0,es0,hI⟩:=DecP.out hI
 obtain ⟨s1,es1,hI⟩:=DecL.out hI
 obtain ⟨s6,es6,hI⟩:=DecI.out hI
 obtain ⟨s13,es13,hI⟩:=DecL.out hI
 obtain ⟨s14,es14,hI⟩:=DecI.out hI
 obtain ⟨s15,es15,hI⟩:=DecI.out hI
 rw [mkEnv_of (l:=[(0,.pointer s0),(1,.slice s1.a s1.n s1.c),(6,.int .i64 s6),(13,.slice s13.a s13.n s13.c),(14,.int .i64 s14),(15,.int .i64 s15)]) hlen (by simp only [List.mem_cons,List.not_mem_nil,or_false,forall_eq_or_imp,forall_eq]; exact ⟨es0,es1,es6,es13,es14,es15⟩)]
 rw [f41L1_eq]
 exact hr n s0 s1 s6 s13 s14 s15 _ h hI
def f41L2 (J2:Nat→Option Addr→Sl→Int→Sl→Int→Int→Hp→Prop) (n2:Nat) (s0:Option Addr) (s9:Sl) (s10:Int) (s28:Sl) (s29:Int) (s30:Int) (g:Nat→Value) (h:Hp) (R:Value→Hp→Prop):Prop :=
 Cond (decide (s30 < s29)) ((0 ≤ s30∧s30 < ((s28.n:Nat):Int))∧PtrOk s28.a fun p32=>∃ t33:Sl,cell h (p32.add (s30.toNat * 1))=some (.slice t33.a t33.n t33.c)∧(0 ≤ s10∧s10 ≤ ((s9.n:Nat):Int))∧cpySl 1 (if s9.c=s10.toNat then s9.a else Option.map (fun x=>x.add (s10.toNat * 1)) s9.a) (s9.n - s10.toNat) t33.a t33.n h fun rk h2=>∃ m,m < n2∧J2 m s0 s9 (IntKind.wrap .i64 (s10 + rk)) s28 s29 (IntKind.wrap .i64 (s30 + (1:Int))) h2) (CallTo Tryz.prog 89 #[.pointer s0,.slice s9.a s9.n s9.c] h fun r h3=>∃ t44_0:Int,∃ t44_1:Int,r=.tuple #[.int .u64 t44_0,.int .i64 t44_1]∧R (.tuple #[.int .u64 t44_0,.int .i64 t44_1]:Value) h3)
theorem f41L2_eq (J2:Nat→Option Addr→Sl→Int→Sl→Int→Int→Hp→Prop) (n2:Nat) (s0:Option Addr) (s9:Sl) (s10:Int) (s28:Sl) (s29:Int) (s30:Int) (g:Nat→Value) (h:Hp) (R:Value→Hp→Prop):(evC Tryz.prog tab lv41 (sub [1,1,1,1,1,0,1,0,0] body41)) (loopK (f41I2 J2) n2 (contAt Tryz.prog tab lv41 [1,1,1,1,1,0,1,0] body41 [] (bodyK Tryz.prog Tryz.f41 [] R))) (mkEnv 47 [(0,.pointer s0),(9,.slice s9.a s9.n s9.c),(10,.int .i64 s10),(28,.slice s28.a s28.n s28.c),(29,.int .i64 s29),(30,.int .i64 s30)] g) h=f41L2 J2 n2 s0 s9 s10 s28 s29 s30 g h R:=by kernel_rfl
theorem f41I2_at (J:Nat→Option Addr→Sl→Int→Sl→Int→Int→Hp→Prop) (n:Nat) (s0:Option Addr) (s9:Sl) (s10:Int) (s28:Sl) (s29:Int) (s30:Int) (g:Nat→Value) (h:Hp):f41I2 J n (mkEnv 47 [(0,.pointer s0),(9,.slice s9.a s9.n s9.c),(10,.int .i64 s10),(28,.slice s28.a s28.n s28.c),(29,.int .i64 s29),(30,.int .i64 s30)] g) h=J n s0 s9 s10 s28 s29 s30 h:=by kernel_rfl
theorem f41L2_rule  {R:Value→Hp→Prop} {s0:Option Addr} {s9:Sl} {s10:Int} {s28:Sl} {s29:Int} {s30:Int} {h0:Hp} (J:Nat→Option Addr→Sl→Int→Sl→Int→Int→Hp→Prop) (n0:Nat) (hi:J n0 s0 s9 s10 s28 s29 s30 h0)
  (hr:∀ n s0 s9 s10 s28 s29 s30 g h,J n s0 s9 s10 s28 s29 s30 h→f41L2  J n s0 s9 s10 s28 s29 s30 g h R):LoopEv (evC Tryz.prog tab lv41 (sub [1,1,1,1,1,0,1,0,0] body41)) (contAt Tryz.prog tab lv41 [1,1,1,1,1,0,1,0] body41 [] (bodyK Tryz.prog Tryz.f41 [] R)) [(0,.pointer s0),(9,.slice s9.a s9.n s9.c),(10,.int .i64 s10),(28,.slice s28.a s28.n s28.c),(29,.int .i64 s29),(30,.int .i64 s30)] 47 h0:=by
 refine ⟨f41I2 J,n0,fun g=>by rw [f41I2_at]; exact hi,fun n env h hI=>?_⟩
 clear hi
 clear s0 s9 s10 s28 s29 s30
 obtain ⟨hlen,hI⟩:=Cond_true' hI
 have hlen:env.length=47:=by simpa using hlen
 obtain ⟨s0,es0,hI⟩:=DecP.out hI
 obtain ⟨s9,es9,hI⟩:=DecL.out hI
 obtain ⟨s10,es10,hI⟩:=DecI.out hI
 obtain ⟨s28,es28,hI⟩:=DecL.out hI
 obtain ⟨s29,es29,hI⟩:=DecI.out hI
 obtain ⟨s30,es30,hI⟩:=DecI.out hI
 rw [mkEnv_of (l:=[(0,.pointer s0),(9,.slice s9.a s9.n s9.c),(10,.int .i64 s10),(28,.slice s28.a s28.n s28.c),(29,.int .i64 s29),(30,.int .i64 s30)]) hlen (by simp only [List.mem_cons,List.not_mem_nil,or_false,forall_eq_or_imp,forall_eq]; exact ⟨es0,es9,es10,es28,es29,es30⟩)]
 rw [f41L2_eq]
 exact hr n s0 s9 s10 s28 s29 s30 _ h hI
def f41F (a0:Option Addr) (a1:Sl) (h:Hp) (R:Value→Hp→Prop):Prop :=
 LoopEv (evC Tryz.prog tab lv41 (sub [1,1,0,1,0,0] body41)) (contAt Tryz.prog tab lv41 [1,1,0,1,0] body41 [] (bodyK Tryz.prog Tryz.f41 [] R)) [(0,.pointer a0),(1,.slice a1.a a1.n a1.c),(6,.int .i64 0),(13,.slice a1.a a1.n a1.c),(14,.int .i64 (((a1.n:Nat):Int))),(15,.int .i64 0)] 47 h
theorem f41F_eq (a0:Option Addr) (a1:Sl) (h:Hp) (R:Value→Hp→Prop):evF Tryz.prog tab lv41 Tryz.f41 body41 [] [.pointer a0,.slice a1.a a1.n a1.c] h R=f41F a0 a1 h R:=by kernel_rfl
theorem f41F_ok {a0:Option Addr} {a1:Sl} {h:Hp} {R:Value→Hp→Prop} (hF:f41F a0 a1 h R):CallTo Tryz.prog 41 #[.pointer a0,.slice a1.a a1.n a1.c] h R :=
 callTo_of_ev (lv:=lv41) (hints:=[]) (c:=body41) (args:=[.pointer a0,.slice a1.a a1.n a1.c]) mixed tab_ok Tryz.func41 (by kernel_rfl) (by kernel_rfl) (by rw [f41F_eq]; exact hF)
/- larder/blob.Write -/
noncomputable def body47:Code:=(Tryz.f47.body).getD .skip
def lv47 (m:Nat):List Nat:=[]
def f47K1  (x0:Option Addr) (x1:Int) (x2:Int) (x3:Sl) (x10:Int) (x32:Bool) (h:Hp) (R:Value→Hp→Prop):Prop :=
 Cond x32 (R (.tuple #[.int .u64 0,.int .i64 42]:Value) h) (Cond ((((x3.n:Nat):Int)) == (0:Int)) (R (.tuple #[.int .u64 x1,.int .i64 0]:Value) h) (Cond (decide ((((x3.n:Nat):Int)) > (IntKind.wrap .i64 ((4096:Int) - x2)))) (R (.tuple #[.int .u64 0,.int .i64 41]:Value) h) (CallTo Tryz.prog 94 #[.int .i64 (if x10 < (IntKind.wrap .i64 (x2 + (((x3.n:Nat):Int)))) then (IntKind.wrap .i64 (x2 + (((x3.n:Nat):Int)))) else x10)] h fun r h2=>∃ t49:Int,r=.int .i64 t49∧CallTo Tryz.prog 94 #[.int .i64 x10] h2 fun r h3=>∃ t51:Int,r=.int .i64 t51∧Cond (t49 == t51) (CallTo Tryz.prog 95 #[.pointer x0,.int .u64 x1,.int .i64 0,.int .u64 (IntKind.wrap .u64 (if x10 < (IntKind.wrap .i64 (x2 + (((x3.n:Nat):Int)))) then (IntKind.wrap .i64 (x2 + (((x3.n:Nat):Int)))) else x10))] h3 fun r h4=>∃ t57:Int,r=.int .i64 t57∧CallTo Tryz.prog 96 #[.pointer x0,.int .u64 x1,.int .i64 (IntKind.wrap .i64 ((8:Int) + x2)),.slice x3.a x3.n x3.c] h4 fun r h5=>∃ t63:Int,r=.int .i64 t63∧R (.tuple #[.int .u64 x1,.int .i64 0]:Value) h5) ((0 ≤ (if x10 < (IntKind.wrap .i64 (x2 + (((x3.n:Nat):Int)))) then (IntKind.wrap .i64 (x2 + (((x3.n:Nat):Int)))) else x10)∧(if x10 < (IntKind.wrap .i64 (x2 + (((x3.n:Nat):Int)))) then (IntKind.wrap .i64 (x2 + (((x3.n:Nat):Int)))) else x10) ≤ (if x10 < (IntKind.wrap .i64 (x2 + (((x3.n:Nat):Int)))) then (IntKind.wrap .i64 (x2 + (((x3.n:Nat):Int)))) else x10))∧(if x10 < (IntKind.wrap .i64 (x2 + (((x3.n:Nat):Int)))) then (IntKind.wrap .i64 (x2 + (((x3.n:Nat):Int)))) else x10) < 2 ^ 62∧(1:Nat) * (if x10 < (IntKind.wrap .i64 (x2 + (((x3.n:Nat):Int)))) then (IntKind.wrap .i64 (x2 + (((x3.n:Nat):Int)))) else x10) ≤ 2 ^ 48∧Let (h3.push (.cells (zrow #[.int .u8 0] ((if x10 < (IntKind.wrap .i64 (x2 + (((x3.n:Nat):Int)))) then (IntKind.wrap .i64 (x2 + (((x3.n:Nat):Int)))) else x10).toNat * 1)) 5)) fun h6=>CallTo Tryz.prog 51 #[.pointer x0,.int .u64 x1] h6 fun r h7=>∃ t70_0:Sl,∃ t70_1:Int,r=.tuple #[.slice t70_0.a t70_0.n t70_0.c,.int .i64 t70_1]∧cpySl 1 (some (nb h3)) ((if x10 < (IntKind.wrap .i64 (x2 + (((x3.n:Nat):Int)))) then (IntKind.wrap .i64 (x2 + (((x3.n:Nat):Int)))) else x10).toNat) t70_0.a t70_0.n h7 fun rk h8=>(0 ≤ x2∧x2 ≤ (((if x10 < (IntKind.wrap .i64 (x2 + (((x3.n:Nat):Int)))) then (IntKind.wrap .i64 (x2 + (((x3.n:Nat):Int)))) else x10).toNat:Nat):Int))∧cpySl 1 (if (if x10 < (IntKind.wrap .i64 (x2 + (((x3.n:Nat):Int)))) then (IntKind.wrap .i64 (x2 + (((x3.n:Nat):Int)))) else x10).toNat=x2.toNat then some (nb h3) else Option.map (fun x=>x.add (x2.toNat * 1)) (some (nb h3))) ((if x10 < (IntKind.wrap .i64 (x2 + (((x3.n:Nat):Int)))) then (IntKind.wrap .i64 (x2 + (((x3.n:Nat):Int)))) else x10).toNat - x2.toNat) x3.a x3.n h8 fun rk h9=>CallTo Tryz.prog 93 #[.pointer x0,.int .u64 x1] h9 fun r h10=>∃ t84_0:Int,∃ t84_1:Int,r=.tuple #[.int .i64 t84_0,.int .i64 t84_1]∧Cond (t84_1 != (0:Int)) (R (.tuple #[.int .u64 0,.int .i64 t84_1]:Value) h10) (CallTo Tryz.prog 89 #[.pointer x0,.slice (some (nb h3)) ((if x10 < (IntKind.wrap .i64 (x2 + (((x3.n:Nat):Int)))) then (IntKind.wrap .i64 (x2 + (((x3.n:Nat):Int)))) else x10).toNat) ((if x10 < (IntKind.wrap .i64 (x2 + (((x3.n:Nat):Int)))) then (IntKind.wrap .i64 (x2 + (((x3.n:Nat):Int)))) else x10).toNat)] h10 fun r h11=>∃ t93_0:Int,∃ t93_1:Int,r=.tuple #[.int .u64 t93_0,.int .i64 t93_1]∧CallTo Tryz.prog 20 #[.pointer x0,.int .i64 t84_0] h11 fun r h12=>∃ t98:Int,r=.int .i64 t98∧R (.tuple #[.int .u64 t93_0,.int .i64 t93_1]:Value) h12)))))
def f47F (a0:Option Addr) (a1:Int) (a2:Int) (a3:Sl) (h:Hp) (R:Value→Hp→Prop):Prop :=
 CallTo Tryz.prog 54 #[.pointer a0,.int .u64 a1] h fun r h1=>∃ t21_0:Int,∃ t21_1:Int,r=.tuple #[.int .i64 t21_0,.int .i64 t21_1]∧Cond (t21_1 != (0:Int)) (R (.tuple #[.int .u64 0,.int .i64 t21_1]:Value) h1) (Cond (decide (a2 < (0:Int))) (f47K1  a0 a1 a2 a3 t21_0 true h1 R) (f47K1  a0 a1 a2 a3 t21_0 (decide (a2 > (4096:Int))) h1 R))
theorem f47F_eq (a0:Option Addr) (a1:Int) (a2:Int) (a3:Sl) (h:Hp) (R:Value→Hp→Prop):evF Tryz.prog tab lv47 Tryz.f47 body47 [] [.pointer a0,.int .u64 a1,.int .i64 a2,.slice a3.a a3.n a3.c] h R=f47F a0 a1 a2 a3 h R:=by kernel_rfl
theorem f47F_ok {a0:Option Addr} {a1:Int} {a2:Int} {a3:Sl} {h:Hp} {R:Value→Hp→Prop} (hF:f47F a0 a1 a2 a3 h R):CallTo Tryz.prog 47 #[.pointer a0,.int .u64 a1,.int .i64 a2,.slice a3.a a3.n a3.c] h R :=
 callTo_of_ev (lv:=lv47) (hints:=[]) (c:=body47) (args:=[.pointer a0,.int .u64 a1,.int .i64 a2,.slice a3.a a3.n a3.c]) mixed tab_ok Tryz.func47 (by kernel_rfl) (by kernel_rfl) (by rw [f47F_eq]; exact hF)
/- larder/blob.Read -/
noncomputable def body51:Code:=(Tryz.f51.body).getD .skip
def lv51 (m:Nat):List Nat:=[]
def f51F (a0:Option Addr) (a1:Int) (h:Hp) (R:Value→Hp→Prop):Prop :=
 CallTo Tryz.prog 54 #[.pointer a0,.int .u64 a1] h fun r h1=>∃ t11_0:Int,∃ t11_1:Int,r=.tuple #[.int .i64 t11_0,.int .i64 t11_1]∧Cond (t11_1 != (0:Int)) (R (.tuple #[.slice none 0 0,.int .i64 t11_1]:Value) h1) (CallTo Tryz.prog 55 #[.pointer a0,.int .u64 a1,.int .i64 0,.int .i64 t11_0] h1 fun r h2=>∃ t20_0:Sl,∃ t20_1:Int,r=.tuple #[.slice t20_0.a t20_0.n t20_0.c,.int .i64 t20_1]∧R (.tuple #[.slice t20_0.a t20_0.n t20_0.c,.int .i64 t20_1]:Value) h2)
theorem f51F_eq (a0:Option Addr) (a1:Int) (h:Hp) (R:Value→Hp→Prop):evF Tryz.prog tab lv51 Tryz.f51 body51 [] [.pointer a0,.int .u64 a1] h R=f51F a0 a1 h R:=by kernel_rfl
theorem f51F_ok {a0:Option Addr} {a1:Int} {h:Hp} {R:Value→Hp→Prop} (hF:f51F a0 a1 h R):CallTo Tryz.prog 51 #[.pointer a0,.int .u64 a1] h R :=
 callTo_of_ev (lv:=lv51) (hints:=[]) (c:=body51) (args:=[.pointer a0,.int .u64 a1]) mixed tab_ok Tryz.func51 (by kernel_rfl) (by kernel_rfl) (by rw [f51F_eq]; exact hF)
/- larder/blob.Len -/
noncomputable def body54:Code:=(Tryz.f54.body).getD .skip
def lv54 (m:Nat):List Nat:=[]
def f54K1  (x0:Option Addr) (x1:Int) (x25:Bool) (h:Hp) (R:Value→Hp→Prop):Prop :=
 Cond x25 (R (.tuple #[.int .i64 0,.int .i64 40]:Value) h) (CallTo Tryz.prog 33 #[.pointer x0,.int .u64 x1,.int .i64 0] h fun r h2=>∃ t29_0:Int,∃ t29_1:Int,r=.tuple #[.int .u64 t29_0,.int .i64 t29_1]∧R ((.tuple #[.int .i64 (IntKind.wrap .i64 t29_0),.int .i64 0]:Value)) h2)
def f54F (a0:Option Addr) (a1:Int) (h:Hp) (R:Value→Hp→Prop):Prop :=
 CallTo Tryz.prog 98 #[.pointer a0,.int .u64 a1] h fun r h1=>∃ t15_0:Int,∃ t15_1:Int,∃ t15_2:Int,∃ t15_3:Int,r=.tuple #[.int .i64 t15_0,.int .i64 t15_1,.int .i64 t15_2,.int .i64 t15_3]∧Cond (t15_3 != (0:Int)) (f54K1  a0 a1 true h1 R) (f54K1  a0 a1 (t15_0 != (1:Int)) h1 R)
theorem f54F_eq (a0:Option Addr) (a1:Int) (h:Hp) (R:Value→Hp→Prop):evF Tryz.prog tab lv54 Tryz.f54 body54 [] [.pointer a0,.int .u64 a1] h R=f54F a0 a1 h R:=by kernel_rfl
theorem f54F_ok {a0:Option Addr} {a1:Int} {h:Hp} {R:Value→Hp→Prop} (hF:f54F a0 a1 h R):CallTo Tryz.prog 54 #[.pointer a0,.int .u64 a1] h R :=
 callTo_of_ev (lv:=lv54) (hints:=[]) (c:=body54) (args:=[.pointer a0,.int .u64 a1]) mixed tab_ok Tryz.func54 (by kernel_rfl) (by kernel_rfl) (by rw [f54F_eq]; exact hF)
/- larder/blob.Slice -/
noncomputable def body55:Code:=(Tryz.f55.body).getD .skip
def lv55 (m:Nat):List Nat:=[]
def f55K1  (x0:Option Addr) (x1:Int) (x2:Int) (x3:Int) (x40:Bool) (h:Hp) (R:Value→Hp→Prop):Prop :=
 Cond x40 (R (.tuple #[.slice none 0 0,.int .i64 42]:Value) h) (CallTo Tryz.prog 34 #[.pointer x0,.int .u64 x1,.int .i64 (IntKind.wrap .i64 ((8:Int) + x2)),.int .i64 x3] h fun r h2=>∃ t47_0:Sl,∃ t47_1:Int,r=.tuple #[.slice t47_0.a t47_0.n t47_0.c,.int .i64 t47_1]∧R (.tuple #[.slice t47_0.a t47_0.n t47_0.c,.int .i64 0]:Value) h2)
def f55F (a0:Option Addr) (a1:Int) (a2:Int) (a3:Int) (h:Hp) (R:Value→Hp→Prop):Prop :=
 CallTo Tryz.prog 54 #[.pointer a0,.int .u64 a1] h fun r h1=>∃ t17_0:Int,∃ t17_1:Int,r=.tuple #[.int .i64 t17_0,.int .i64 t17_1]∧Cond (t17_1 != (0:Int)) (R (.tuple #[.slice none 0 0,.int .i64 t17_1]:Value) h1) (Cond (decide (a2 < (0:Int))) (f55K1  a0 a1 a2 a3 true h1 R) (Cond (decide (a3 < (0:Int))) (f55K1  a0 a1 a2 a3 true h1 R) (Cond (decide (a2 > t17_0)) (f55K1  a0 a1 a2 a3 true h1 R) (f55K1  a0 a1 a2 a3 (decide (a3 > (IntKind.wrap .i64 (t17_0 - a2)))) h1 R))))
theorem f55F_eq (a0:Option Addr) (a1:Int) (a2:Int) (a3:Int) (h:Hp) (R:Value→Hp→Prop):evF Tryz.prog tab lv55 Tryz.f55 body55 [] [.pointer a0,.int .u64 a1,.int .i64 a2,.int .i64 a3] h R=f55F a0 a1 a2 a3 h R:=by kernel_rfl
theorem f55F_ok {a0:Option Addr} {a1:Int} {a2:Int} {a3:Int} {h:Hp} {R:Value→Hp→Prop} (hF:f55F a0 a1 a2 a3 h R):CallTo Tryz.prog 55 #[.pointer a0,.int .u64 a1,.int .i64 a2,.int .i64 a3] h R :=
 callTo_of_ev (lv:=lv55) (hints:=[]) (c:=body55) (args:=[.pointer a0,.int .u64 a1,.int .i64 a2,.int .i64 a3]) mixed tab_ok Tryz.func55 (by kernel_rfl) (by kernel_rfl) (by rw [f55F_eq]; exact hF)
/- larder/blob.Compare -/
noncomputable def body57:Code:=(Tryz.f57.body).getD .skip
def lv57 (m:Nat):List Nat:=[]
def f57F (a0:Option Addr) (a1:Int) (a2:Sl) (h:Hp) (R:Value→Hp→Prop):Prop :=
 CallTo Tryz.prog 51 #[.pointer a0,.int .u64 a1] h fun r h1=>∃ t13_0:Sl,∃ t13_1:Int,r=.tuple #[.slice t13_0.a t13_0.n t13_0.c,.int .i64 t13_1]∧Cond (t13_1 != (0:Int)) (R (.tuple #[.int .i64 0,.int .i64 t13_1]:Value) h1) (CallTo Tryz.prog 99 #[.slice t13_0.a t13_0.n t13_0.c,.slice a2.a a2.n a2.c] h1 fun r h2=>∃ t21:Int,r=.int .i64 t21∧R (.tuple #[.int .i64 t21,.int .i64 0]:Value) h2)
theorem f57F_eq (a0:Option Addr) (a1:Int) (a2:Sl) (h:Hp) (R:Value→Hp→Prop):evF Tryz.prog tab lv57 Tryz.f57 body57 [] [.pointer a0,.int .u64 a1,.slice a2.a a2.n a2.c] h R=f57F a0 a1 a2 h R:=by kernel_rfl
theorem f57F_ok {a0:Option Addr} {a1:Int} {a2:Sl} {h:Hp} {R:Value→Hp→Prop} (hF:f57F a0 a1 a2 h R):CallTo Tryz.prog 57 #[.pointer a0,.int .u64 a1,.slice a2.a a2.n a2.c] h R :=
 callTo_of_ev (lv:=lv57) (hints:=[]) (c:=body57) (args:=[.pointer a0,.int .u64 a1,.slice a2.a a2.n a2.c]) mixed tab_ok Tryz.func57 (by kernel_rfl) (by kernel_rfl) (by rw [f57F_eq]; exact hF)
/- larder/blob.Count -/
noncomputable def body61:Code:=(Tryz.f61.body).getD .skip
def lv61 (m:Nat):List Nat:=if m=6 then [12,26,27,28] else []
def f61I1 (J:Nat→Int→Sl→Int→Int→Hp→Prop) (n:Nat) (env:List Value) (h:Hp):Prop:=lenIs env 38 (DecI .i64 env 12 fun s12=>DecL env 26 fun s26=>DecI .i64 env 27 fun s27=>DecI .i64 env 28 fun s28=>J n s12 s26 s27 s28 h)
def f61L1 (J1:Nat→Int→Sl→Int→Int→Hp→Prop) (n1:Nat) (s12:Int) (s26:Sl) (s27:Int) (s28:Int) (g:Nat→Value) (h:Hp) (R:Value→Hp→Prop):Prop :=
 Cond (decide (s28 < s27)) ((0 ≤ s28∧s28 < ((s26.n:Nat):Int))∧PtrOk s26.a fun p30=>∃ t31:Int,cell h (p30.add (s28.toNat * 1))=some (.int .u8 t31)∧CallTo Tryz.prog 100 #[.int .u8 t31] h fun r h2=>∃ t34:Int,r=.int .i64 t34∧∃ m,m < n1∧J1 m (IntKind.wrap .i64 (s12 + t34)) s26 s27 (IntKind.wrap .i64 (s28 + (1:Int))) h2) (R (.tuple #[.int .i64 s12,.int .i64 0]:Value) h)
theorem f61L1_eq (J1:Nat→Int→Sl→Int→Int→Hp→Prop) (n1:Nat) (s12:Int) (s26:Sl) (s27:Int) (s28:Int) (g:Nat→Value) (h:Hp) (R:Value→Hp→Prop):(evC Tryz.prog tab lv61 (sub [1,1,1,1,0,1,0,0] body61)) (loopK (f61I1 J1) n1 (contAt Tryz.prog tab lv61 [1,1,1,1,0,1,0] body61 [] (bodyK Tryz.prog Tryz.f61 [] R))) (mkEnv 38 [(12,.int .i64 s12),(26,.slice s26.a s26.n s26.c),(27,.int .i64 s27),(28,.int .i64 s28)] g) h=f61L1 J1 n1 s12 s26 s27 s28 g h R:=by kernel_rfl
theorem f61I1_at (J:Nat→Int→Sl→Int→Int→Hp→Prop) (n:Nat) (s12:Int) (s26:Sl) (s27:Int) (s28:Int) (g:Nat→Value) (h:Hp):f61I1 J n (mkEnv 38 [(12,.int .i64 s12),(26,.slice s26.a s26.n s26.c),(27,.int .i64 s27),(28,.int .i64 s28)] g) h=J n s12 s26 s27 s28 h:=by kernel_rfl
theorem f61L1_rule  {R:Value→Hp→Prop} {s12:Int} {s26:Sl} {s27:Int} {s28:Int} {h0:Hp} (J:Nat→Int→Sl→Int→Int→Hp→Prop) (n0:Nat) (hi:J n0 s12 s26 s27 s28 h0)
  (hr:∀ n s12 s26 s27 s28 g h,J n s12 s26 s27 s28 h→f61L1  J n s12 s26 s27 s28 g h R):LoopEv (evC Tryz.prog tab lv61 (sub [1,1,1,1,0,1,0,0] body61)) (contAt Tryz.prog tab lv61 [1,1,1,1,0,1,0] body61 [] (bodyK Tryz.prog Tryz.f61 [] R)) [(12,.int .i64 s12),(26,.slice s26.a s26.n s26.c),(27,.int .i64 s27),(28,.int .i64 s28)] 38 h0:=by
 refine ⟨f61I1 J,n0,fun g=>by rw [f61I1_at]; exact hi,fun n env h hI=>?_⟩
 clear hi
 clear s12 s26 s27 s28
 obtain ⟨hlen,hI⟩:=Cond_true' hI
 have hlen:env.length=38:=by simpa using hlen
 obtain ⟨s12,es12,hI⟩:=DecI.out hI
 obtain ⟨s26,es26,hI⟩:=DecL.out hI
 obtain ⟨s27,es27,hI⟩:=DecI.out hI
 obtain ⟨s28,es28,hI⟩:=DecI.out hI
 rw [mkEnv_of (l:=[(12,.int .i64 s12),(26,.slice s26.a s26.n s26.c),(27,.int .i64 s27),(28,.int .i64 s28)]) hlen (by simp only [List.mem_cons,List.not_mem_nil,or_false,forall_eq_or_imp,forall_eq]; exact ⟨es12,es26,es27,es28⟩)]
 rw [f61L1_eq]
 exact hr n s12 s26 s27 s28 _ h hI
def f61F (a0:Option Addr) (a1:Int) (a2:Int) (a3:Int) (h:Hp) (R:Value→Hp→Prop):Prop :=
 CallTo Tryz.prog 55 #[.pointer a0,.int .u64 a1,.int .i64 a2,.int .i64 a3] h fun r h1=>∃ t20_0:Sl,∃ t20_1:Int,r=.tuple #[.slice t20_0.a t20_0.n t20_0.c,.int .i64 t20_1]∧Cond (t20_1 != (0:Int)) (R (.tuple #[.int .i64 0,.int .i64 t20_1]:Value) h1) (LoopEv (evC Tryz.prog tab lv61 (sub [1,1,1,1,0,1,0,0] body61)) (contAt Tryz.prog tab lv61 [1,1,1,1,0,1,0] body61 [] (bodyK Tryz.prog Tryz.f61 [] R)) [(12,.int .i64 0),(26,.slice t20_0.a t20_0.n t20_0.c),(27,.int .i64 (((t20_0.n:Nat):Int))),(28,.int .i64 0)] 38 h1)
theorem f61F_eq (a0:Option Addr) (a1:Int) (a2:Int) (a3:Int) (h:Hp) (R:Value→Hp→Prop):evF Tryz.prog tab lv61 Tryz.f61 body61 [] [.pointer a0,.int .u64 a1,.int .i64 a2,.int .i64 a3] h R=f61F a0 a1 a2 a3 h R:=by kernel_rfl
theorem f61F_ok {a0:Option Addr} {a1:Int} {a2:Int} {a3:Int} {h:Hp} {R:Value→Hp→Prop} (hF:f61F a0 a1 a2 a3 h R):CallTo Tryz.prog 61 #[.pointer a0,.int .u64 a1,.int .i64 a2,.int .i64 a3] h R :=
 callTo_of_ev (lv:=lv61) (hints:=[]) (c:=body61) (args:=[.pointer a0,.int .u64 a1,.int .i64 a2,.int .i64 a3]) mixed tab_ok Tryz.func61 (by kernel_rfl) (by kernel_rfl) (by rw [f61F_eq]; exact hF)
/- larder/blob.lay -/
noncomputable def body89:Code:=(Tryz.f89.body).getD .skip
def lv89 (m:Nat):List Nat:=[]
def f89F (a0:Option Addr) (a1:Sl) (h:Hp) (R:Value→Hp→Prop):Prop :=
 CallTo Tryz.prog 94 #[.int .i64 (((a1.n:Nat):Int))] h fun r h1=>∃ t12:Int,r=.int .i64 t12∧CallTo Tryz.prog 22 #[.pointer a0,.int .i64 1,.int .i64 0,.int .i64 (IntKind.wrap .i64 ((1:Int) + t12))] h1 fun r h2=>∃ t14_0:Int,∃ t14_1:Int,r=.tuple #[.int .u64 t14_0,.int .i64 t14_1]∧Cond (t14_1 != (0:Int)) (R (.tuple #[.int .u64 0,.int .i64 t14_1]:Value) h2) (CallTo Tryz.prog 95 #[.pointer a0,.int .u64 t14_0,.int .i64 0,.int .u64 (IntKind.wrap .u64 (((a1.n:Nat):Int)))] h2 fun r h3=>∃ t25:Int,r=.int .i64 t25∧CallTo Tryz.prog 96 #[.pointer a0,.int .u64 t14_0,.int .i64 8,.slice a1.a a1.n a1.c] h3 fun r h4=>∃ t29:Int,r=.int .i64 t29∧R (.tuple #[.int .u64 t14_0,.int .i64 0]:Value) h4)
theorem f89F_eq (a0:Option Addr) (a1:Sl) (h:Hp) (R:Value→Hp→Prop):evF Tryz.prog tab lv89 Tryz.f89 body89 [] [.pointer a0,.slice a1.a a1.n a1.c] h R=f89F a0 a1 h R:=by kernel_rfl
theorem f89F_ok {a0:Option Addr} {a1:Sl} {h:Hp} {R:Value→Hp→Prop} (hF:f89F a0 a1 h R):CallTo Tryz.prog 89 #[.pointer a0,.slice a1.a a1.n a1.c] h R :=
 callTo_of_ev (lv:=lv89) (hints:=[]) (c:=body89) (args:=[.pointer a0,.slice a1.a a1.n a1.c]) mixed tab_ok Tryz.func89 (by kernel_rfl) (by kernel_rfl) (by rw [f89F_eq]; exact hF)
end Go.Ev
set_option linter.all false
set_option maxRecDepth 100000
namespace Go.Ev
open Go.Proofs
/- larder/larderref1.Words -/
noncomputable def body35:Code:=(Tryz.f35.body).getD .skip
def lv35 (m:Nat):List Nat:=[]
def f35F (a0:Int) (h:Hp) (R:Value→Hp→Prop):Prop :=
 Cond (decide (a0 < (1:Int))) (R (.int .i64 0:Value) h) ((8:Int) ≠ 0∧(8:Int) ≠ 0∧Cond (decide ((Int.tmod a0 (8:Int)) > (0:Int))) (R ((.int .i64 (IntKind.wrap .i64 ((IntKind.wrap .i64 (Int.tdiv a0 (8:Int))) + (1:Int))):Value)) h) (R ((.int .i64 (IntKind.wrap .i64 (Int.tdiv a0 (8:Int))):Value)) h))
theorem f35F_eq (a0:Int) (h:Hp) (R:Value→Hp→Prop):evF Tryz.prog tab lv35 Tryz.f35 body35 [] [.int .i64 a0] h R=f35F a0 h R:=by kernel_rfl
theorem f35F_ok {a0:Int} {h:Hp} {R:Value→Hp→Prop} (hF:f35F a0 h R):CallTo Tryz.prog 35 #[.int .i64 a0] h R :=
 callTo_of_ev (lv:=lv35) (hints:=[]) (c:=body35) (args:=[.int .i64 a0]) mixed tab_ok Tryz.func35 (by kernel_rfl) (by kernel_rfl) (by rw [f35F_eq]; exact hF)
end Go.Ev
set_option linter.all false
set_option maxRecDepth 100000
namespace Go.Ev
structure Mem where
 loc:Nat→Option Nat
 cont:Nat→List Value
structure Sep (h:Hp) (M:Mem):Prop where
 row:∀ x b,M.loc x=some b→Row h b (M.cont x)
 inj:∀ x y b,M.loc x=some b→M.loc y=some b→x=y
def Mem.own (M:Mem) (b:Nat):Prop:=∃ x,M.loc x=some b
def Mem.upd (M:Mem) (x:Nat) (b:Option Nat) (c:List Value):Mem:=⟨fun y=>if y=x then b else M.loc y,fun y=>if y=x then c else M.cont y⟩
theorem Mem.loc_self (M:Mem) (x:Nat) (b:Option Nat) (c:List Value):(M.upd x b c).loc x=b:=if_pos rfl
theorem Mem.cont_self (M:Mem) (x:Nat) (b:Option Nat) (c:List Value):(M.upd x b c).cont x=c:=if_pos rfl
theorem Mem.loc_ne (M:Mem) {x y:Nat} (b:Option Nat) (c:List Value) (h:y ≠ x):(M.upd x b c).loc y=M.loc y:=if_neg h
theorem Mem.cont_ne (M:Mem) {x y:Nat} (b:Option Nat) (c:List Value) (h:y ≠ x):(M.upd x b c).cont y=M.cont y:=if_neg h
/-- What a call that works on the parts may change. -/
def Chg (h:Hp) (M:Mem) (h':Hp) (M':Mem):Prop:=Kept M.own h h'∧∀ b,M'.own b→M.own b ∨ h.size ≤ b
section
variable {h h' h2:Hp} {M M' M2:Mem}
theorem Chg.refl (h:Hp) (M:Mem):Chg h M h M:=⟨Kept.refl _ _,fun _=>.inl⟩
theorem Chg.trans (a:Chg h M h' M') (b:Chg h' M' h2 M2):Chg h M h2 M2 :=
 ⟨⟨Nat.le_trans a.1.1 b.1.1,fun i hi hn=>(b.1.2 i (Nat.lt_of_lt_of_le hi a.1.1) fun o=>(a.2 i o).elim hn fun h=>by omega).trans (a.1.2 i hi hn)⟩,
  fun i o=>(b.2 i o).elim (a.2 i) fun h=>.inr (Nat.le_trans a.1.1 h)⟩
theorem Chg.of_kept (k:Kept (fun _=>False) h h'):Chg h M h' M:=⟨k.mono fun _ _ e=>e.elim,fun _=>.inl⟩
theorem Sep.lt (s:Sep h M) {x b:Nat} (hx:M.loc x=some b):b < h.size:=row_lt (s.row x b hx)
theorem Sep.own_lt (s:Sep h M) {b:Nat} (hb:M.own b):b < h.size:=by obtain ⟨x,hx⟩:=hb; exact s.lt hx
theorem Sep.keep (s:Sep h M) {S:Nat→Prop} (k:Kept S h h') (hS:∀ b,M.own b→¬ S b):Sep h' M:=⟨fun x b hx=>kept_row k (s.row x b hx) (hS b ⟨x,hx⟩),s.inj⟩
theorem Sep.keepN (s:Sep h M) (k:Kept (fun _=>False) h h'):Sep h' M:=s.keep k fun _ _ e=>e
theorem Sep.cell (s:Sep h M) {x b:Nat} (hx:M.loc x=some b) (o:Nat):Go.Ev.cell h ⟨b,o,none⟩=(M.cont x)[o]?:=cell_row (s.row x b hx) o
theorem Sep.cellA (s:Sep h M) {x b:Nat} (hx:M.loc x=some b) (o:Nat):Go.Ev.cell h ((ad b).add o)=(M.cont x)[o]?:=by rw [add_ad]; exact s.cell hx o
theorem Sep.cell0 (s:Sep h M) {x b:Nat} (hx:M.loc x=some b):Go.Ev.cell h (ad b)=(M.cont x)[0]?:=s.cell hx 0
/-- One cell of a part is written. -/
theorem Sep.st (s:Sep h M) {x b o:Nat} (hx:M.loc x=some b) {a:Addr} {v:Value} (ha:a=⟨b,o,none⟩) (ho:o < (M.cont x).length) {K:Hp→Prop}
  (hK:∀ h',Sep h' (M.upd x (some b) ((M.cont x).set o v))→Chg h M h' (M.upd x (some b) ((M.cont x).set o v))→K h'):stOk h a∧Let (setc h a v) fun h'=>K h':=by
 subst ha
 refine ⟨stOk_row (s.row x b hx) ho,hK _ ⟨fun y c hy=>?_,fun y z c hy hz=>?_⟩ ⟨?_,fun c hc=>?_⟩⟩
 ·by_cases e:y=x
  ·subst e
   rw [Mem.loc_self] at hy
   obtain rfl:=Option.some.inj hy
   rw [Mem.cont_self]
   exact row_setc (s.row y b hx) o v
  ·rw [Mem.loc_ne _ _ _ e] at hy
   rw [Mem.cont_ne _ _ _ e]
   exact row_setc_ne (s.row y c hy) v fun (e':c=b)=>e (s.inj y x b (e' ▸ hy) hx)
 ·have loc:∀ w,(M.upd x (some b) ((M.cont x).set o v)).loc w=some c→M.loc w=some c:=fun w hw=>by
   by_cases e:w=x
   ·subst e; rw [Mem.loc_self] at hw; rw [hx]; exact hw
   ·rwa [Mem.loc_ne _ _ _ e] at hw
  exact s.inj y z c (loc y hy) (loc z hz)
 ·exact kept_setc h o v ⟨x,hx⟩
 ·obtain ⟨y,hy⟩:=hc
  by_cases e:y=x
  ·subst e; rw [Mem.loc_self] at hy; obtain rfl:=Option.some.inj hy; exact .inl ⟨y,hx⟩
  ·rw [Mem.loc_ne _ _ _ e] at hy; exact .inl ⟨y,hy⟩
/-- A part's block is another, new one (or none). -/
theorem Sep.renew (s:Sep h M) {x:Nat} {ob:Option Nat} {c:List Value} (k:Kept (fun b=>M.loc x=some b) h h') (hr:∀ b,ob=some b→Row h' b c) (hn:∀ b,ob=some b→M.loc x=some b ∨ h.size ≤ b) :
  Sep h' (M.upd x ob c)∧Chg h M h' (M.upd x ob c):=by
 have lo:∀ y c',y ≠ x→M.loc y=some c'→c' < h.size:=fun y c' _ hy=>s.lt hy
 refine ⟨⟨fun y c' hy=>?_,fun y z c' hy hz=>?_⟩,⟨k.mono fun b _ e=>⟨x,e⟩,fun b hb=>?_⟩⟩
 ·by_cases e:y=x
  ·subst e
   rw [Mem.loc_self] at hy
   rw [Mem.cont_self]
   exact hr c' hy
  ·rw [Mem.loc_ne _ _ _ e] at hy
   rw [Mem.cont_ne _ _ _ e]
   exact kept_row k (s.row y c' hy) fun e'=>e (s.inj y x c' hy e')
 ·by_cases e:y=x <;> by_cases e2:z=x
  ·rw [e,e2]
  ·subst e
   rw [Mem.loc_self] at hy
   rw [Mem.loc_ne _ _ _ e2] at hz
   rcases hn c' hy with h1 | h1
   ·exact absurd (s.inj z y c' hz h1) e2
   ·have:=s.lt hz; omega
  ·subst e2
   rw [Mem.loc_self] at hz
   rw [Mem.loc_ne _ _ _ e] at hy
   rcases hn c' hz with h1 | h1
   ·exact absurd (s.inj y z c' hy h1) e
   ·have:=s.lt hy; omega
  ·rw [Mem.loc_ne _ _ _ e] at hy
   rw [Mem.loc_ne _ _ _ e2] at hz
   exact s.inj y z c' hy hz
 ·obtain ⟨y,hy⟩:=hb
  by_cases e:y=x
  ·subst e
   rw [Mem.loc_self] at hy
   exact (hn b hy).imp_left fun h=>⟨y,h⟩
  ·rw [Mem.loc_ne _ _ _ e] at hy; exact .inl ⟨y,hy⟩
theorem Sep.push (s:Sep h M) (x:Nat) (arr:Array Value) (t:TypeId):Sep (h.push (.cells arr t)) (M.upd x (some h.size) arr.toList)∧Chg h M (h.push (.cells arr t)) (M.upd x (some h.size) arr.toList) :=
 s.renew (kept_push _ _ _) (fun b e=>by obtain rfl:=Option.some.inj e; exact row_new h arr t) fun b e=>.inr (by obtain rfl:=Option.some.inj e; exact Nat.le_refl _)
theorem Sep.drop (s:Sep h M) (x:Nat) (c:List Value):Sep h (M.upd x none c)∧Chg h M h (M.upd x none c):=s.renew (Kept.refl _ _) (fun b e=>by cases e) fun b e=>by cases e
end
/-- A slice over a part. -/
structure IsSl (sz:Nat) (M:Mem) (x:Nat) (s:Sl) (vs:List Value):Prop where
 len:vs.length=s.n * sz
 nil:M.loc x=none→s.a=none∧s.n=0∧s.c=0
 row:∀ b,M.loc x=some b→s.a=some (ad b)∧s.n ≤ s.c∧∃ junk,M.cont x=vs ++ junk∧vs.length + junk.length=s.c * sz
section
variable {h h':Hp} {M M':Mem} {sz x y:Nat} {s:Sl} {vs:List Value}
theorem IsSl.slAt (i:IsSl sz M x s vs) (p:Sep h M):SlAt sz h s.a s.n s.c (M.loc x) vs :=
 ⟨i.len,i.nil,fun b hb=>by obtain ⟨h1,h2,j,h3,h4⟩:=i.row b hb; exact ⟨h1,h2,j,by rw [← h3]; exact p.row x b hb,h4⟩⟩
theorem IsSl.other (i:IsSl sz M y s vs) {b:Option Nat} {c:List Value} (h:y ≠ x):IsSl sz (M.upd x b c) y s vs :=
 ⟨i.len,fun e=>i.nil (by rwa [Mem.loc_ne _ _ _ h] at e),fun b' e=>by
  rw [Mem.loc_ne _ _ _ h] at e
  rw [Mem.cont_ne _ _ _ h]
  exact i.row b' e⟩
theorem IsSl.nilSl (M:Mem) (sz x:Nat) (c:List Value):IsSl sz (M.upd x none c) x ⟨none,0,0⟩ []:=⟨by simp,fun _=>⟨rfl,rfl,rfl⟩,fun b e=>by rw [Mem.loc_self] at e; cases e⟩
theorem IsSl.some_of (i:IsSl sz M x s vs) (hn:vs ≠ []):∃ b,M.loc x=some b∧s.a=some (ad b):=by
 cases hl:M.loc x with
 | none =>
  have:=(i.nil hl).2.1
  have:=i.len
  exact absurd (List.length_eq_zero_iff.1 (by rw [i.len,‹s.n=0›]; omega)) hn
 | some b=>exact ⟨b,rfl,(i.row b hl).1⟩
/-- A cell of a slice. -/
theorem IsSl.at (i:IsSl sz M x s vs) (p:Sep h M) {o:Nat} {v:Value} (hv:vs[o]?=some v):∃ b,M.loc x=some b∧s.a=some (ad b)∧cell h ⟨b,o,none⟩=some v:=by
 have ho:=(List.getElem?_eq_some_iff.1 hv).1
 obtain ⟨b,hb,ha⟩:=i.some_of (fun e=>by rw [e] at ho; simp at ho)
 obtain ⟨_,_,j,h3,_⟩:=i.row b hb
 exact ⟨b,hb,ha,by rw [p.cell hb,h3,List.getElem?_append_left ho]; exact hv⟩
/-- A cell of a slice is written. -/
theorem IsSl.set (i:IsSl sz M x s vs) {b o:Nat} (hb:M.loc x=some b) (v:Value) (ho:o < vs.length):o < (M.cont x).length∧IsSl sz (M.upd x (some b) ((M.cont x).set o v)) x s (vs.set o v):=by
 obtain ⟨h1,h2,j,h3,h4⟩:=i.row b hb
 refine ⟨by rw [h3,List.length_append]; omega,⟨by rw [List.length_set]; exact i.len,(fun e=>by rw [Mem.loc_self] at e; cases e),fun b' e=>?_⟩⟩
 rw [Mem.loc_self] at e
 obtain rfl:=Option.some.inj e
 rw [Mem.cont_self]
 exact ⟨h1,h2,j,by rw [h3,List.set_append_left _ _ ho],by rw [List.length_set]; exact h4⟩
/-- append -/
theorem IsSl.app {e bys:Nat} {z:Array Value} {m:Nat} {news:List Value} {K:Option Addr→Nat→Nat→Hp→Prop} (i:IsSl sz M x s vs) (p:Sep h M) (hz:z.size=sz) (hl:news.length=m * sz) (hcell:∀ v ∈ news,isCell v=true)
  (hby:(2 * (s.n + m) + 768) * bys ≤ 2 ^ 48) (hlt:s.n + m < 2 ^ 62)
  (hK:∀ a' c' h' ob c,Sep h' (M.upd x ob c)→IsSl sz (M.upd x ob c) x ⟨a',s.n + m,c'⟩ (vs ++ news)→Chg h M h' (M.upd x ob c)→K a' (s.n + m) c' h'):appT e sz bys z s.a s.n s.c (s.n + m) news h K:=by
 refine appT_ok2 (i.slAt p) hz hl hcell hby hlt fun a' c' ob' h' s' hcase=>?_
 have fin:∀ c,(∀ b,ob'=some b→Row h' b c)→(∀ b,ob'=some b→a'=some (ad b)∧s.n + m ≤ c'∧∃ junk,c=(vs ++ news) ++ junk∧(vs ++ news).length + junk.length=c' * sz)→K a' (s.n + m) c' h':=fun c hr hs=>by
  have k:Kept (fun b=>M.loc x=some b) h h':=by
   rcases hcase with ⟨_,k⟩ | ⟨_,k⟩
   ·exact k
   ·exact k.mono fun _ _ e=>e.elim
  have hn:∀ b,ob'=some b→M.loc x=some b ∨ h.size ≤ b:=fun b e=>by
   rcases hcase with ⟨q,_⟩ | ⟨q,_⟩
   ·exact .inl (q ▸ e)
   ·rw [q] at e; obtain rfl:=Option.some.inj e; exact .inr (Nat.le_refl _)
  obtain ⟨q1,q2⟩:=p.renew (x:=x) k hr hn
  refine hK a' c' h' ob' c q1 ⟨s'.len,fun e=>?_,fun b e=>?_⟩ q2
  ·rw [Mem.loc_self] at e; exact s'.nil e
  ·rw [Mem.loc_self] at e
   rw [Mem.cont_self]
   exact hs b e
 cases ho:ob' with
 | none=>exact fin [] (fun b e=>by rw [ho] at e; cases e) fun b e=>by rw [ho] at e; cases e
 | some b =>
  obtain ⟨q1,q2,j,q3,q4⟩:=s'.row b ho
  refine fin ((vs ++ news) ++ j) (fun b' e=>?_) fun b' e=>?_
  ·rw [ho] at e; obtain rfl:=Option.some.inj e; exact q3
  ·rw [ho] at e; obtain rfl:=Option.some.inj e; exact ⟨q1,q2,j,rfl,q4⟩
/-- append of one element that lies in a new block -/
theorem IsSl.app1 {e bys:Nat} {z:Array Value} {arr:Array Value} {t:TypeId} {K:Option Addr→Nat→Nat→Hp→Prop} (i:IsSl sz M x s vs) (p:Sep h M) (hz:z.size=sz) (hl:arr.toList.length=1 * sz) (hcell:∀ v ∈ arr.toList,isCell v=true)
  (hby:(2 * (s.n + 1) + 768) * bys ≤ 2 ^ 48) (hlt:s.n + 1 < 2 ^ 62)
  (hK:∀ a' c' h' ob c,Sep h' (M.upd x ob c)→IsSl sz (M.upd x ob c) x ⟨a',s.n + 1,c'⟩ (vs ++ arr.toList)→Chg h M h' (M.upd x ob c)→K a' (s.n + 1) c' h') :
  Let (h.push (.cells arr t)) fun h2=>appSl e sz bys z s.a s.n s.c (some (nb h)) 1 h2 K:=by
 show (fun h2=>appSl e sz bys z s.a s.n s.c (some (nb h)) 1 h2 K) (h.push (.cells arr t))
 generalize e2:h.push (.cells arr t)=h2
 have e2:=e2.symm
 have k2:Kept (fun _=>False) h h2:=e2 ▸ kept_push _ _ _
 have row2:Row h2 h.size arr.toList:=e2 ▸ row_new h arr t
 exact ⟨arr.toList,reads_row row2 (fun j v hj=>by rw [Nat.zero_add]; exact hj),hl,i.app (p.keepN k2) hz hl hcell hby hlt fun a' c' h' ob c q1 q2 q3=>hK a' c' h' ob c q1 q2 ((Chg.of_kept k2).trans q3)⟩
end
end Go.Ev
set_option linter.all false
set_option maxRecDepth 100000
namespace Go.Ev
open Go.Proofs
section
variable {h h':Hp}
theorem flat_len {α:Type} {f:α→List Value} {sz:Nat} (hf:∀ x,(f x).length=sz):∀ l:List α,(l.flatMap f).length=l.length * sz
 | []=>by simp
 | x :: l=>by rw [List.flatMap_cons,List.length_append,hf,flat_len hf l,List.length_cons,Nat.add_mul]; omega
theorem flat_at {α:Type} {f:α→List Value} {sz:Nat} (hf:∀ x,(f x).length=sz):∀ (l:List α) (i j:Nat) (x:α),l[i]?=some x→j < sz→(l.flatMap f)[i * sz + j]?=(f x)[j]?
 | [],_,_,_,h,_=>by simp at h
 | y :: l,0,j,x,h,hj=>by
  obtain rfl:y=x:=by simpa using h
  rw [List.flatMap_cons,Nat.zero_mul,Nat.zero_add,List.getElem?_append_left (by rw [hf]; exact hj)]
 | y :: l,i + 1,j,x,h,hj=>by
  rw [List.flatMap_cons,List.getElem?_append_right (by rw [hf,Nat.add_mul]; omega),hf]
  have e:(i + 1) * sz + j - sz=i * sz + j:=by rw [Nat.add_mul]; omega
  rw [e]
  exact flat_at hf l i j x (by simpa using h) hj
theorem reads_kept {h h':Hp} {S:Nat→Prop} (k:Kept S h h') {a:Option Addr} {vs:List Value} (r:ReadsO h a vs) (hS:∀ p,a=some p→p.block < h.size∧¬ S p.block):ReadsO h' a vs:=by
 cases a with
 | none=>exact r
 | some p =>
  obtain ⟨h1,h2⟩:=hS p rfl
  have e:=k.2 _ h1 h2
  intro j v hv
  have:=r j v hv
  unfold cell at this ⊢
  have eb:(p.add j).block=p.block:=by unfold Addr.add; split <;> rfl
  rw [eb] at this ⊢
  rw [e]
  exact this
theorem reads_kept2 {h h':Hp} {S:Nat→Prop} (k:Kept S h h') {a:Option Addr} {vs:List Value} (r:ReadsO h a vs) (hS:∀ p,a=some p→vs ≠ []→p.block < h.size∧¬ S p.block):ReadsO h' a vs:=by
 by_cases hv:vs=[]
 ·subst hv
  cases a with
  | none=>rfl
  | some p=>intro j v hv; simp at hv
 ·exact reads_kept k r fun p hp=>hS p hp hv
theorem reads_keptN {h h':Hp} (k:Kept (fun _=>False) h h') {a:Option Addr} {vs:List Value} (r:ReadsO h a vs):ReadsO h' a vs:=by
 refine reads_kept2 k r fun p hp hv=>⟨?_,id⟩
 subst hp
 cases vs with
 | nil=>exact absurd rfl hv
 | cons v vs =>
  have h0:cell h (p.add 0)=some v:=r 0 v rfl
  unfold cell at h0
  have eb:(p.add 0).block=p.block:=by unfold Addr.add; rfl
  rw [eb] at h0
  by_cases hl:p.block < h.size
  ·exact hl
  ·rw [Array.getElem?_eq_none (by omega)] at h0
   cases h0
theorem PtrOk_mk' {o:Option Addr} {a:Addr} {K:Addr→Prop} (e:o=some a) (h:K a):PtrOk o K:=e ▸ h
theorem readsO_get {h:Hp} {a:Option Addr} {vs:List Value} (r:ReadsO h a vs) {i:Nat} {v:Value} (hv:vs[i]?=some v):∃ p,a=some p∧cell h (p.add i)=some v:=by
 cases a with
 | none =>
  have e:vs=[]:=r
  rw [e] at hv
  cases hv
 | some p=>exact ⟨p,rfl,r i v hv⟩
theorem slAt_reads {h:Hp} {a:Option Addr} {n c:Nat} {ob:Option Nat} {vs:List Value} (s:SlAt 1 h a n c ob vs):ReadsO h a vs:=by
 cases ob with
 | none =>
  have h1:=s.nil rfl
  have h2:=s.len
  rw [h1.1]
  have:vs.length=0:=by rw [h2,h1.2.1]
  exact List.length_eq_zero_iff.1 this
 | some b =>
  obtain ⟨h1,_,j,h3,_⟩:=s.row b rfl
  rw [h1]
  exact reads_row h3 fun k v hv=>by rw [Nat.zero_add,List.getElem?_append_left (List.getElem?_eq_some_iff.1 hv).1]; exact hv
theorem row_reads {h:Hp} {b:Nat} {vs:List Value} (r:Row h b vs):ReadsO h (some (ad b)) vs:=reads_row r fun j v hv=>by rw [Nat.zero_add]; exact hv
theorem add_add (p:Addr) (a b:Nat):(p.add a).add b=p.add (a + b):=by
 unfold Addr.add
 by_cases ha:a=0
 ·subst ha; simp
 ·by_cases hb:b=0
  ·subst hb; simp
  ·rw [if_neg ha,if_neg hb,if_neg (by omega),Nat.add_assoc]
end
end Go.Ev
set_option linter.all false
set_option maxRecDepth 1000000
namespace Go.Ev
open Go.Proofs
/-- Where a heap lies. -/
structure HQ where
 hb:Nat
 role:Nat→Role
 G:Geo
 sp:List AObj
structure HSt (h:Hp) (q:HQ) (s:RS):Prop where
 rp:HRep h q.hb q.role (s.words q.sp) q.G
 v:s.Inv
def Ex (h:Hp) (q:HQ) (h':Hp) (q':HQ):Prop:=q'.hb=q.hb∧ExtO h q.role h' q'.role
/-- A call on a heap: its outcome and the change. -/
def Does (h:Hp) (q:HQ) (s':RS) (r:Value) (R:Value→Hp→Prop):Prop:=∀ h' q',HSt h' q' s'→Ex h q h' q'→R r h'
section
variable {h h' h2:Hp} {q q' q2:HQ} {s s':RS} {nd:List NodeD} {b t:List Nat} {id:Nat} {R:Value→Hp→Prop}
theorem Ex.refl (h:Hp) (q:HQ):Ex h q h q:=⟨rfl,ExtO.refl _ _⟩
theorem Ex.trans (a:Ex h q h' q') (b:Ex h' q' h2 q2):Ex h q h2 q2:=⟨b.1.trans a.1,a.2.trans b.2⟩
theorem Ex.of_kept (k:Kept N h h') (fr:∀ b,h.size ≤ b→q.role b=.out):Ex h q h' q:=⟨rfl,k.1,fun b hb ho=>⟨ho,k.2 b hb id⟩⟩
theorem Ex.kept (e:Ex h q h' q'):Kept (fun b=>q.role b ≠ .out) h h':=⟨e.2.1,fun b hb hn=>(e.2.2 b hb (Classical.byContradiction hn)).2⟩
theorem HSt.keepN (x:HSt h q s) (k:Kept N h h'):HSt h' q s:=⟨x.rp.keep k fun _ e=>e.elim,x.v⟩
theorem HSt.fr (x:HSt h q s) {b:Nat} (hb:h.size ≤ b):q.role b=.out:=x.rp.fresh b hb
theorem Ex.out (e:Ex h q h' q') {b:Nat} (hb:b < h.size) (ho:q.role b=.out):q'.role b=.out:=(e.2.2 b hb ho).1
/-! ### The heap's own calls -/
theorem c_set (x:HSt h q s) {r:Nat} (hr:r < 18446744073709551616) {i:Int} {w:Nat} (hw:w < 18446744073709551616) (hR:Does h q (s.setF r i w).1 (.int .i64 (s.setF r i w).2) R) :
  CallTo Tryz.prog 95 #[.pointer (some (ad q.hb)),uv r,.int .i64 i,uv w] h R :=
 hset_ok x.v x.rp hr hw fun h' role' G' rp' ex=>hR h' ⟨q.hb,role',G',q.sp⟩ ⟨rp',x.v.set _ _ hw⟩ ⟨rfl,ex⟩
theorem c_setbytes (x:HSt h q s) {r:Nat} (hr:r < 18446744073709551616) {f:Int} (hf0:-9223372036854775808 ≤ f) (hf1:f < 9223372036854775808) {a:Sl} {cs:List Nat} (hs:ReadsO h a.a (cs.map bv)) (hsn:a.n=cs.length) (hcs:Bytes8 cs)
  (hsb:∀ p,a.a=some p→cs ≠ []→q.role p.block=.out) (hn:(cs.length:Int) < 9223372036854775808) (hR:Does h q (s.setBytesF r f cs).1 (.int .i64 (s.setBytesF r f cs).2) R) :
  CallTo Tryz.prog 96 #[.pointer (some (ad q.hb)),uv r,.int .i64 f,.slice a.a a.n a.c] h R :=
 hsetbytes_ok x.v x.rp hr hf0 hf1 hs hsn hcs hsb hn fun h' role' G' rp' ex=>hR h' ⟨q.hb,role',G',q.sp⟩ ⟨rp',x.v.setBytes _ _ hcs⟩ ⟨rfl,ex⟩
theorem c_alloc (x:HSt h q s) {k r w:Int} (hR:Does h q (s.alloc k r w).1 (.tuple #[uv (s.alloc k r w).2.1,.int .i64 (s.alloc k r w).2.2]) R) :
  CallTo Tryz.prog 22 #[.pointer (some (ad q.hb)),.int .i64 k,.int .i64 r,.int .i64 w] h R :=
 halloc_ok x.v x.rp fun h' role' G' sp' rp' ex=>hR h' ⟨q.hb,role',G',sp'⟩ ⟨rp',x.v.alloc _ _ _⟩ ⟨rfl,ex⟩
theorem c_root (x:HSt h q s) (hl:s.roots.length < 100000000) {r:Nat} (hr:r < 18446744073709551616) (hR:Does h q (s.rootF r).1 (.tuple #[.int .i64 ((s.rootF r).2.1:Nat),.int .i64 (s.rootF r).2.2]) R) :
  CallTo Tryz.prog 93 #[.pointer (some (ad q.hb)),uv r] h R :=
 hroot_ok x.v x.rp hl hr fun h' role' G' rp' ex=>hR h' ⟨q.hb,role',G',q.sp⟩ ⟨rp',x.v.root hl⟩ ⟨rfl,ex⟩
theorem c_drop (x:HSt h q s) {n:Int} (hR:Does h q (s.dropF n).1 (.int .i64 (s.dropF n).2) R):CallTo Tryz.prog 20 #[.pointer (some (ad q.hb)),.int .i64 n] h R :=
 hdrop_ok x.v x.rp fun h' role' G' rp' ex=>hR h' ⟨q.hb,role',G',q.sp⟩ ⟨rp',x.v.drop _⟩ ⟨rfl,ex⟩
theorem c_put (x:HSt h q s) {n:Int} {r:Nat} (hr:r < 18446744073709551616) (hR:Does h q (s.putF n r).1 (.int .i64 (s.putF n r).2) R):CallTo Tryz.prog 92 #[.pointer (some (ad q.hb)),.int .i64 n,uv r] h R :=
 hput_ok x.v x.rp hr fun h' role' G' rp' ex=>hR h' ⟨q.hb,role',G',q.sp⟩ ⟨rp',x.v.put _ _⟩ ⟨rfl,ex⟩
theorem c_collect (x:HSt h q s) (hR:Does h q s.collect (.tuple #[]) R):CallTo Tryz.prog 9 #[.pointer (some (ad q.hb))] h R :=
 hcollect_ok x.v x.rp fun h' role' G' sp' rp' ex=>hR h' ⟨q.hb,role',G',sp'⟩ ⟨rp',x.v.collect⟩ ⟨rfl,ex⟩
theorem c_resize (x:HSt h q s) {n:Int} (hR:Does h q (s.resize n).1 (.int .i64 (s.resize n).2) R):CallTo Tryz.prog 21 #[.pointer (some (ad q.hb)),.int .i64 n] h R :=
 hresize_ok x.v x.rp fun h' role' G' sp' rp' ex=>hR h' ⟨q.hb,role',G',sp'⟩ ⟨rp',x.v.resize n⟩ ⟨rfl,ex⟩
theorem c_at (x:HSt h q s) {n:Int} (hR:R (.tuple #[uv (s.atF n).1,.int .i64 (s.atF n).2]) h):CallTo Tryz.prog 72 #[.pointer (some (ad q.hb)),.int .i64 n] h R:=hat_ok x.v x.rp hR
/-! ### Small ones -/
theorem words_ok {n:Nat} (hn:n < 100000000) (hR:R (.int .i64 (wordsN n:Nat)) h):CallTo Tryz.prog 94 #[.int .i64 (n:Nat)] h R:=by
 refine f94F_ok ?_
 unfold f94F
 refine Cond_dec (fun hlt=>?_) fun hge=>⟨by omega,?_⟩
 ·have:wordsN n=0:=by unfold wordsN; omega
  rw [this] at hR
  exact hR
 ·have e:IntKind.wrap .i64 (IntKind.wrap .i64 (Int.tdiv (IntKind.wrap .i64 ((n:Int) - 1)) 8) + 1)=((wordsN n:Nat):Int):=by
   rw [wrap_i64' (x:=(n:Int) - 1) (by omega) (by omega),Int.tdiv_eq_ediv_of_nonneg (by omega),wrap_i64' (x:=((n:Int) - 1) / 8) (by omega) (by omega),wrap_i64' (by omega) (by omega)]
   unfold wordsN
   omega
  rw [e]
  exact hR
theorem words2_ok {n:Nat} (hn:n < 100000000) (hR:R (.int .i64 (wordsN n:Nat)) h):CallTo Tryz.prog 35 #[.int .i64 (n:Nat)] h R:=by
 refine f35F_ok ?_
 unfold f35F
 refine Cond_dec (fun hlt=>?_) fun hge=>⟨by omega,by omega,?_⟩
 ·have:wordsN n=0:=by unfold wordsN; omega
  rw [this] at hR
  exact hR
 ·rw [Int.tmod_eq_emod_of_nonneg (by omega),Int.tdiv_eq_ediv_of_nonneg (by omega)]
  refine Cond_dec (fun hm=>?_) fun hm=>?_
  ·have e:IntKind.wrap .i64 (IntKind.wrap .i64 ((n:Int) / 8) + 1)=((wordsN n:Nat):Int):=by
    rw [wrap_i64' (x:=(n:Int) / 8) (by omega) (by omega),wrap_i64' (by omega) (by omega)]; unfold wordsN; omega
   rw [e]; exact hR
  ·have e:IntKind.wrap .i64 ((n:Int) / 8)=((wordsN n:Nat):Int):=by
    rw [wrap_i64' (by omega) (by omega)]; unfold wordsN; omega
   rw [e]; exact hR
/-- Bytes to be laid: where they lie, none of the heap's own memory. -/
structure Src (h:Hp) (q:HQ) (a:Sl) (b:List Nat):Prop where
 rd:ReadsO h a.a (b.map bv)
 n:a.n=b.length
 b8:Bytes8 b
 out:∀ p,a.a=some p→b ≠ []→q.role p.block=.out∧p.block < h.size
theorem Src.ex {a:Sl} (e:Src h q a b) (x:Ex h q h' q'):Src h' q' a b :=
 ⟨reads_kept2 x.kept e.rd fun p hp hn=>(have hn':b ≠ []:=fun z=>hn (by rw [z]; rfl); ⟨(e.out p hp hn').2,fun hx=>hx (e.out p hp hn').1⟩),e.n,e.b8,fun p hp hn=>⟨x.out (e.out p hp hn).2 (e.out p hp hn).1,Nat.lt_of_lt_of_le (e.out p hp hn).2 x.2.1⟩⟩
theorem alloc_lt (s:RS) (v:s.Inv) (sh:s.Shd nd) (k r w:Int):(s.alloc k r w).2.1 < 18446744073709551616:=by
 rcases RS.alloc_cases v k r w with ⟨_,e⟩ | ⟨_,t,st,vt,e | ⟨t',ref,e,n⟩⟩
 ·rw [e]; show (0:Nat) < _; omega
 ·rw [e]; show (0:Nat) < _; omega
 ·have v':t'.Inv:=by have:=v.alloc k r w; rw [e] at this; exact this
  rw [e]
  show ref < _
  rw [← n.ref]
  exact RS.ref_lt v' (.inr ((n.here _).2 (.inl rfl)))
theorem lay_ok (x:HSt h q s) (sh:s.Shd nd) (ok:Okb b) {a:Sl} (sr:Src h q a b) (hR:Does h q (s.layF b).1 (.tuple #[uv (s.layF b).2.1,.int .i64 (s.layF b).2.2]) R) :
  CallTo Tryz.prog 89 #[.pointer (some (ad q.hb)),.slice a.a a.n a.c] h R:=by
 have hl:=ok.len
 have hw:wordsN b.length ≤ 513:=by unfold wordsN; omega
 refine f89F_ok ?_
 unfold f89F
 rw [sr.n]
 refine words_ok (by omega) ⟨_,rfl,?_⟩
 have e1:IntKind.wrap .i64 ((1:Int) + ((wordsN b.length:Nat):Int))=((1 + wordsN b.length:Nat):Int):=by rw [wrap_i64' (by omega) (by omega)]; omega
 rw [e1]
 have hrl:=alloc_lt s x.v sh 1 0 ((1 + wordsN b.length:Nat):Int)
 refine c_alloc x fun h1 q1 x1 ex1=>⟨_,_,rfl,?_⟩
 unfold RS.layF at hR
 by_cases h0:(s.alloc 1 0 ((1 + wordsN b.length:Nat):Int)).2.2=0
 ·rw [if_pos h0] at hR
  refine Cond_f (by rw [h0]; rfl) ?_
  have ew:IntKind.wrap .u64 ((b.length:Nat):Int)=((b.length:Nat):Int):=wrap_u64' (by omega) (by omega)
  rw [ew,← ex1.1]
  refine c_set x1 hrl (by omega) fun h2 q2 x2 ex2=>⟨_,rfl,?_⟩
  have ex12:=ex1.trans ex2
  have sr2:Src h2 q2 ⟨a.a,b.length,a.c⟩ b:=by have:=sr.ex ex12; exact ⟨this.rd,rfl,this.b8,this.out⟩
  rw [← ex2.1]
  exact c_setbytes (f:=8) (a:=⟨a.a,b.length,a.c⟩) x2 hrl (by omega) (by omega) sr2.rd sr2.n sr2.b8 (fun p hp hn=>(sr2.out p hp hn).1) (by omega) fun h3 q3 x3 ex3=>⟨_,rfl,hR h3 q3 x3 (ex12.trans ex3)⟩
 ·rw [if_neg h0] at hR
  refine Cond_t (by simpa using h0) (hR h1 q1 x1 ex1)
/-! ### Len, Slice, Read -/
theorem IsB.obj (v:s.Inv) (x:s.IsB id b) (ok:Okb b):s.objF (s.ref id)=((1,0,1 + wordsN b.length),0):=by
 unfold RS.objF
 rw [RS.ident_ref v (.inr x.here),if_neg x.nz,x.kind,x.refs,RS.raws_len x ok]
 rfl
theorem IsB.len (v:s.Inv) (x:s.IsB id b) (ok:Okb b):s.getF (s.ref id) 0=(b.length,0):=by
 have h0:(s.obj id).raws[0]?=some b.length:=by
  have hl:=RS.raws_len x ok
  have:=ok.is.h0
  rw [← x.raws,List.getD_eq_getElem?_getD,List.getElem?_eq_getElem (by omega)] at this
  rw [List.getElem?_eq_getElem (by omega)]
  exact congrArg some this
 have:=RS.getF_raw v (k:=0) x.here x.nz h0
 rw [x.refs] at this
 exact this
theorem len_ok (x:HSt h q s) (B:s.IsB id b) (ok:Okb b) (hR:R (.tuple #[.int .i64 (b.length:Nat),.int .i64 0]) h):CallTo Tryz.prog 54 #[.pointer (some (ad q.hb)),uv (s.ref id)] h R:=by
 have hl:=ok.len
 have hrl:=RS.ref_lt x.v (.inr B.here)
 refine f54F_ok ?_
 unfold f54F
 refine hobject_ok x.v x.rp hrl ⟨_,_,_,_,rfl,?_⟩
 rw [IsB.obj x.v B ok]
 refine Cond_f rfl ?_
 show f54K1 (some (ad q.hb)) ((s.ref id:Nat):Int) false h R
 unfold f54K1
 refine Cond_f rfl (hget_ok x.v x.rp hrl ⟨_,_,rfl,?_⟩)
 rw [IsB.len x.v B ok]
 have e:IntKind.wrap .i64 ((b.length:Nat):Int)=((b.length:Nat):Int):=wrap_i64' (by omega) (by omega)
 show R (.tuple #[.int .i64 (IntKind.wrap .i64 ((b.length:Nat):Int)),.int .i64 0]) h
 rw [e]
 exact hR
theorem len_bad (x:HSt h q s) {r:Nat} (hr:r < 18446744073709551616) (hb:(s.objF r).2 ≠ 0 ∨ (s.objF r).1.1 ≠ 1) (hR:R (.tuple #[.int .i64 0,.int .i64 40]) h):CallTo Tryz.prog 54 #[.pointer (some (ad q.hb)),uv r] h R:=by
 refine f54F_ok ?_
 unfold f54F
 refine hobject_ok x.v x.rp hr ⟨_,_,_,_,rfl,?_⟩
 have bad:f54K1 (some (ad q.hb)) ((r:Nat):Int) true h R:=by unfold f54K1; exact Cond_t rfl hR
 refine Cond_b (fun _=>bad) fun h0=>?_
 have h0:(s.objF r).2=0:=by simpa using h0
 have h1:=hb.resolve_left fun h=>h h0
 have e:((((s.objF r).1.1:Nat):Int) != (1:Int))=true:=by
  rw [bne_iff_ne]; omega
 rw [e]
 exact bad
def InSp (b:List Nat) (f n:Int):Prop:=0 ≤ f∧0 ≤ n∧f ≤ (b.length:Int)∧n ≤ (b.length:Int) - f
theorem slice_ok (x:HSt h q s) (B:s.IsB id b) (ok:Okb b) {f n:Int} (hf:-9223372036854775808 ≤ f∧f < 9223372036854775808) (hn:-9223372036854775808 ≤ n∧n < 9223372036854775808)
  (hbad:¬ InSp b f n→R (.tuple #[.slice none 0 0,.int .i64 42]) h)
  (hgood:∀ c h',InSp b f n→Row h' c (((b.drop f.toNat).take n.toNat).map bv)→h.size ≤ c→Kept N h h'→R (.tuple #[.slice (some (ad c)) n.toNat n.toNat,.int .i64 0]) h') :
  CallTo Tryz.prog 55 #[.pointer (some (ad q.hb)),uv (s.ref id),.int .i64 f,.int .i64 n] h R:=by
 have hl:=ok.len
 have hrl:=RS.ref_lt x.v (.inr B.here)
 refine f55F_ok ?_
 unfold f55F
 refine len_ok x B ok ⟨_,_,rfl,Cond_f rfl ?_⟩
 have bad:¬ InSp b f n→f55K1 (some (ad q.hb)) ((s.ref id:Nat):Int) f n true h R:=fun hn=>by unfold f55K1; exact Cond_t rfl (hbad hn)
 refine Cond_dec (fun hc=>bad fun hi=>by have:=hi.1; omega) fun c1=>Cond_dec (fun hc=>bad fun hi=>by have:=hi.2.1; omega) fun c2=>Cond_dec (fun hc=>bad fun hi=>by have:=hi.2.2.1; omega) fun c3=>?_
 rw [wrap_i64' (x:=((b.length:Nat):Int) - f) (by omega) (by omega)]
 by_cases c4:n > ((b.length:Nat):Int) - f
 ·rw [decide_eq_true c4]
  exact bad fun hi=>by have:=hi.2.2.2; omega
 ·rw [decide_eq_false c4]
  have hin:InSp b f n:=⟨by omega,by omega,by omega,by omega⟩
  unfold f55K1
  have e8:IntKind.wrap .i64 ((8:Int) + f)=8 + f:=wrap_i64' (by omega) (by omega)
  rw [e8]
  refine Cond_f rfl (hbytes_ok x.v x.rp hrl hn.1 (by omega) hn.2 (by omega) (fun hno=>absurd ?_ hno) fun c h' hs row hc k=>⟨⟨_,_,_⟩,_,rfl,?_⟩)
  ·unfold RS.spanOk
   rw [RS.ident_ref x.v (.inr B.here),RS.raws_len B ok]
   refine ⟨B.nz,by omega,by omega,?_⟩
   unfold wordsN
   omega
  ·refine hgood c h' hin ?_ hc k
   rw [RS.ident_ref x.v (.inr B.here),B.raws] at row
   have e:((List.range n.toNat).map fun j=>bv (byteAt (blobRaws b) ((8 + f).toNat + j)))=((b.drop f.toNat).take n.toNat).map bv:=by
    apply List.ext_getElem?
    intro j
    rw [List.getElem?_map,List.getElem?_map]
    by_cases hj:j < n.toNat
    ·rw [List.getElem?_range hj,List.getElem?_take_of_lt hj,List.getElem?_drop,List.getElem?_eq_getElem (by omega)]
     show some (bv (byteAt (blobRaws b) ((8 + f).toNat + j)))=some (bv _)
     rw [show (8 + f).toNat + j=8 + (f.toNat + j) by omega,ok.is.at_ _ (by unfold wordsN; omega),List.getD_eq_getElem?_getD,List.getElem?_eq_getElem (by omega)]
     rfl
    ·rw [List.getElem?_eq_none (by simp; omega),List.getElem?_eq_none (by simp; omega)]; rfl
   rw [e] at row
   exact row
theorem read_ok (x:HSt h q s) (B:s.IsB id b) (ok:Okb b) (hR:∀ c h',Row h' c (b.map bv)→h.size ≤ c→Kept N h h'→R (.tuple #[.slice (some (ad c)) b.length b.length,.int .i64 0]) h') :
  CallTo Tryz.prog 51 #[.pointer (some (ad q.hb)),uv (s.ref id)] h R:=by
 have hl:=ok.len
 refine f51F_ok ?_
 unfold f51F
 refine len_ok x B ok ⟨_,_,rfl,Cond_f rfl ?_⟩
 refine slice_ok x B ok ⟨by omega,by omega⟩ ⟨by omega,by omega⟩ (fun hn=>absurd ⟨by omega,by omega,by omega,by omega⟩ hn) fun c h' _ row hc k=>⟨⟨_,_,_⟩,_,rfl,?_⟩
 rw [Int.toNat_natCast] at row
 have e:(b.drop (0:Int).toNat).take b.length=b:=by
  show (b.drop 0).take b.length=b
  rw [List.drop_zero,List.take_length]
 rw [e] at row
 exact hR c h' row hc k
end
end Go.Ev
