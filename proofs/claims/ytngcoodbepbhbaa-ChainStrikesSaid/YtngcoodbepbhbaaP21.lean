/- Printed by a program (own work) out of the loaded functions: what each says of the heap, and that the evaluator says the same / The outright statements' helpers: into, at, made, waste, Eq / The outright statements' helpers on lists: num, within, lists of bytes in memory, Eq, EqLists, holds / The outright statements' make: a list with these elements, on a heap with room / ChainTurns: what its parts come to / The chain statements' arguments, out of the datum that is read. No condition but that these are ones. -/
import Derived.Test.YtngcoodbepbhbaaP4
import Derived.Test.YtngcoodbepbhbaaP19
import Derived.Test.YtngcoodbepbhbaaP15
import Derived.Test.YtngcoodbepbhbaaP20
import Derived.ProofKit
import Derived.SizedLaws
import Derived.LaidMore
import Derived.OpenShut
set_option linter.all false
set_option maxRecDepth 100000
namespace Go.Ev
open Go.Proofs
/- larder/larderref0.Eq -/
noncomputable def body18:Code:=(Try.f18.body).getD .skip
def lv18 (m:Nat):List Nat:=[]
def f18F (a0:Sl) (a1:Sl) (h:Hp) (R:Value→Hp→Prop):Prop :=
 CallTo Try.prog 51 #[.slice a0.a a0.n a0.c,.slice a1.a a1.n a1.c] h fun r h1=>∃ t7:Int,r=.int .i64 t7∧R ((.bool (t7 == (0:Int)):Value)) h1
theorem f18F_eq (a0:Sl) (a1:Sl) (h:Hp) (R:Value→Hp→Prop):evF Try.prog tab lv18 Try.f18 body18 [] [.slice a0.a a0.n a0.c,.slice a1.a a1.n a1.c] h R=f18F a0 a1 h R:=by kernel_rfl
theorem f18F_ok {a0:Sl} {a1:Sl} {h:Hp} {R:Value→Hp→Prop} (hF:f18F a0 a1 h R):CallTo Try.prog 18 #[.slice a0.a a0.n a0.c,.slice a1.a a1.n a1.c] h R :=
 callTo_of_ev (lv:=lv18) (hints:=[]) (c:=body18) (args:=[.slice a0.a a0.n a0.c,.slice a1.a a1.n a1.c]) mixed tab_ok Try.func18 (by kernel_rfl) (by kernel_rfl) (by rw [f18F_eq]; exact hF)
/- larder/larderref0.EqLists -/
noncomputable def body30:Code:=(Try.f30.body).getD .skip
def lv30 (m:Nat):List Nat:=if m=4 then [0,1,5] else []
def f30I1 (J:Nat→Sl→Sl→Int→Hp→Prop) (n:Nat) (env:List Value) (h:Hp):Prop:=lenIs env 27 (DecL env 0 fun s0=>DecL env 1 fun s1=>DecI .i64 env 5 fun s5=>J n s0 s1 s5 h)
def f30L1 (J1:Nat→Sl→Sl→Int→Hp→Prop) (n1:Nat) (s0:Sl) (s1:Sl) (s5:Int) (g:Nat→Value) (h:Hp) (R:Value→Hp→Prop):Prop :=
 Cond (decide (s5 < (((s0.n:Nat):Int)))) ((0 ≤ s5∧s5 < ((s0.n:Nat):Int))∧PtrOk s0.a fun p19=>∃ t20:Sl,cell h (p19.add (s5.toNat * 1))=some (.slice t20.a t20.n t20.c)∧(0 ≤ s5∧s5 < ((s1.n:Nat):Int))∧PtrOk s1.a fun p23=>∃ t24:Sl,cell h (p23.add (s5.toNat * 1))=some (.slice t24.a t24.n t24.c)∧∃ t25:Int,CallTo Try.prog 51 #[.slice t20.a t20.n t20.c,.slice t24.a t24.n t24.c] h (fun v h'=>v=(.int .i64 t25)∧h'=h)∧Cond (t25 != (0:Int)) (R (.bool false:Value) h) (∃ m,m < n1∧J1 m s0 s1 (IntKind.wrap .i64 (s5 + (1:Int))) h)) (R (.bool true:Value) h)
theorem f30L1_eq (J1:Nat→Sl→Sl→Int→Hp→Prop) (n1:Nat) (s0:Sl) (s1:Sl) (s5:Int) (g:Nat→Value) (h:Hp) (R:Value→Hp→Prop):(evC Try.prog tab lv30 (sub [1,1,0,1,0,0] body30)) (loopK (f30I1 J1) n1 (contAt Try.prog tab lv30 [1,1,0,1,0] body30 [] (bodyK Try.prog Try.f30 [] R))) (mkEnv 27 [(0,.slice s0.a s0.n s0.c),(1,.slice s1.a s1.n s1.c),(5,.int .i64 s5)] g) h=f30L1 J1 n1 s0 s1 s5 g h R:=by kernel_rfl
theorem f30I1_at (J:Nat→Sl→Sl→Int→Hp→Prop) (n:Nat) (s0:Sl) (s1:Sl) (s5:Int) (g:Nat→Value) (h:Hp):f30I1 J n (mkEnv 27 [(0,.slice s0.a s0.n s0.c),(1,.slice s1.a s1.n s1.c),(5,.int .i64 s5)] g) h=J n s0 s1 s5 h:=by kernel_rfl
theorem f30L1_rule  {R:Value→Hp→Prop} {s0:Sl} {s1:Sl} {s5:Int} {h0:Hp} (J:Nat→Sl→Sl→Int→Hp→Prop) (n0:Nat) (hi:J n0 s0 s1 s5 h0)
  (hr:∀ n s0 s1 s5 g h,J n s0 s1 s5 h→f30L1  J n s0 s1 s5 g h R):LoopEv (evC Try.prog tab lv30 (sub [1,1,0,1,0,0] body30)) (contAt Try.prog tab lv30 [1,1,0,1,0] body30 [] (bodyK Try.prog Try.f30 [] R)) [(0,.slice s0.a s0.n s0.c),(1,.slice s1.a s1.n s1.c),(5,.int .i64 s5)] 27 h0:=by
 refine ⟨f30I1 J,n0,fun g=>by rw [f30I1_at]; exact hi,fun n env h hI=>?_⟩
 clear hi
 clear s0 s1 s5
 obtain ⟨hlen,hI⟩:=Cond_true' hI
 have hlen:env.length=27:=by simpa using hlen
 obtain ⟨s0,es0,hI⟩:=DecL.out hI
 obtain ⟨s1,es1,hI⟩:=DecL.out hI
 obtain ⟨s5,es5,hI⟩:=DecI.out hI
 rw [mkEnv_of (l:=[(0,.slice s0.a s0.n s0.c),(1,.slice s1.a s1.n s1.c),(5,.int .i64 s5)]) hlen (by simp only [List.mem_cons,List.not_mem_nil,or_false,forall_eq_or_imp,forall_eq]; exact ⟨es0,es1,es5⟩)]
 rw [f30L1_eq]
 exact hr n s0 s1 s5 _ h hI
def f30F (a0:Sl) (a1:Sl) (h:Hp) (R:Value→Hp→Prop):Prop :=
 Cond ((((a0.n:Nat):Int)) != (((a1.n:Nat):Int))) (R (.bool false:Value) h) (LoopEv (evC Try.prog tab lv30 (sub [1,1,0,1,0,0] body30)) (contAt Try.prog tab lv30 [1,1,0,1,0] body30 [] (bodyK Try.prog Try.f30 [] R)) [(0,.slice a0.a a0.n a0.c),(1,.slice a1.a a1.n a1.c),(5,.int .i64 0)] 27 h)
theorem f30F_eq (a0:Sl) (a1:Sl) (h:Hp) (R:Value→Hp→Prop):evF Try.prog tab lv30 Try.f30 body30 [] [.slice a0.a a0.n a0.c,.slice a1.a a1.n a1.c] h R=f30F a0 a1 h R:=by kernel_rfl
theorem f30F_ok {a0:Sl} {a1:Sl} {h:Hp} {R:Value→Hp→Prop} (hF:f30F a0 a1 h R):CallTo Try.prog 30 #[.slice a0.a a0.n a0.c,.slice a1.a a1.n a1.c] h R :=
 callTo_of_ev (lv:=lv30) (hints:=[]) (c:=body30) (args:=[.slice a0.a a0.n a0.c,.slice a1.a a1.n a1.c]) mixed tab_ok Try.func30 (by kernel_rfl) (by kernel_rfl) (by rw [f30F_eq]; exact hF)
/- larder/larderref0.Cmp -/
noncomputable def body51:Code:=(Try.f51.body).getD .skip
def lv51 (m:Nat):List Nat:=if m=2 then [0,1,5] else []
def f51I1 (J:Nat→Sl→Sl→Int→Hp→Prop) (n:Nat) (env:List Value) (h:Hp):Prop:=lenIs env 46 (DecL env 0 fun s0=>DecL env 1 fun s1=>DecI .i64 env 5 fun s5=>J n s0 s1 s5 h)
def f51K1 (J1:Nat→Sl→Sl→Int→Hp→Prop) (n1:Nat) (x0:Sl) (x1:Sl) (x5:Int) (x15:Bool) (h:Hp) (R:Value→Hp→Prop):Prop :=
 Cond x15 ((0 ≤ x5∧x5 < ((x0.n:Nat):Int))∧PtrOk x0.a fun p20=>∃ t21:Int,cell h (p20.add (x5.toNat * 1))=some (.int .u8 t21)∧(0 ≤ x5∧x5 < ((x1.n:Nat):Int))∧PtrOk x1.a fun p24=>∃ t25:Int,cell h (p24.add (x5.toNat * 1))=some (.int .u8 t25)∧Cond (decide (t21 < t25)) (R ((.int .i64 (-1):Value)) h) ((0 ≤ x5∧x5 < ((x0.n:Nat):Int))∧PtrOk x0.a fun p29=>∃ t30:Int,cell h (p29.add (x5.toNat * 1))=some (.int .u8 t30)∧(0 ≤ x5∧x5 < ((x1.n:Nat):Int))∧PtrOk x1.a fun p33=>∃ t34:Int,cell h (p33.add (x5.toNat * 1))=some (.int .u8 t34)∧Cond (decide (t30 > t34)) (R (.int .i64 1:Value) h) (∃ m,m < n1∧J1 m x0 x1 (IntKind.wrap .i64 (x5 + (1:Int))) h))) (Cond (decide ((((x0.n:Nat):Int)) < (((x1.n:Nat):Int)))) (R ((.int .i64 (-1):Value)) h) (Cond (decide ((((x0.n:Nat):Int)) > (((x1.n:Nat):Int)))) (R (.int .i64 1:Value) h) (R (.int .i64 0:Value) h)))
def f51L1 (J1:Nat→Sl→Sl→Int→Hp→Prop) (n1:Nat) (s0:Sl) (s1:Sl) (s5:Int) (g:Nat→Value) (h:Hp) (R:Value→Hp→Prop):Prop :=
 Cond (decide (s5 < (((s0.n:Nat):Int)))) (f51K1 J1 n1 s0 s1 s5 (decide (s5 < (((s1.n:Nat):Int)))) h R) (f51K1 J1 n1 s0 s1 s5 false h R)
theorem f51L1_eq (J1:Nat→Sl→Sl→Int→Hp→Prop) (n1:Nat) (s0:Sl) (s1:Sl) (s5:Int) (g:Nat→Value) (h:Hp) (R:Value→Hp→Prop):(evC Try.prog tab lv51 (sub [1,0,1,0,0] body51)) (loopK (f51I1 J1) n1 (contAt Try.prog tab lv51 [1,0,1,0] body51 [] (bodyK Try.prog Try.f51 [] R))) (mkEnv 46 [(0,.slice s0.a s0.n s0.c),(1,.slice s1.a s1.n s1.c),(5,.int .i64 s5)] g) h=f51L1 J1 n1 s0 s1 s5 g h R:=by kernel_rfl
theorem f51I1_at (J:Nat→Sl→Sl→Int→Hp→Prop) (n:Nat) (s0:Sl) (s1:Sl) (s5:Int) (g:Nat→Value) (h:Hp):f51I1 J n (mkEnv 46 [(0,.slice s0.a s0.n s0.c),(1,.slice s1.a s1.n s1.c),(5,.int .i64 s5)] g) h=J n s0 s1 s5 h:=by kernel_rfl
theorem f51L1_rule  {R:Value→Hp→Prop} {s0:Sl} {s1:Sl} {s5:Int} {h0:Hp} (J:Nat→Sl→Sl→Int→Hp→Prop) (n0:Nat) (hi:J n0 s0 s1 s5 h0)
  (hr:∀ n s0 s1 s5 g h,J n s0 s1 s5 h→f51L1  J n s0 s1 s5 g h R):LoopEv (evC Try.prog tab lv51 (sub [1,0,1,0,0] body51)) (contAt Try.prog tab lv51 [1,0,1,0] body51 [] (bodyK Try.prog Try.f51 [] R)) [(0,.slice s0.a s0.n s0.c),(1,.slice s1.a s1.n s1.c),(5,.int .i64 s5)] 46 h0:=by
 refine ⟨f51I1 J,n0,fun g=>by rw [f51I1_at]; exact hi,fun n env h hI=>?_⟩
 clear hi
 clear s0 s1 s5
 obtain ⟨hlen,hI⟩:=Cond_true' hI
 have hlen:env.length=46:=by simpa using hlen
 obtain ⟨s0,es0,hI⟩:=DecL.out hI
 obtain ⟨s1,es1,hI⟩:=DecL.out hI
 obtain ⟨s5,es5,hI⟩:=DecI.out hI
 rw [mkEnv_of (l:=[(0,.slice s0.a s0.n s0.c),(1,.slice s1.a s1.n s1.c),(5,.int .i64 s5)]) hlen (by simp only [List.mem_cons,List.not_mem_nil,or_false,forall_eq_or_imp,forall_eq]; exact ⟨es0,es1,es5⟩)]
 rw [f51L1_eq]
 exact hr n s0 s1 s5 _ h hI
def f51F (a0:Sl) (a1:Sl) (h:Hp) (R:Value→Hp→Prop):Prop :=
 LoopEv (evC Try.prog tab lv51 (sub [1,0,1,0,0] body51)) (contAt Try.prog tab lv51 [1,0,1,0] body51 [] (bodyK Try.prog Try.f51 [] R)) [(0,.slice a0.a a0.n a0.c),(1,.slice a1.a a1.n a1.c),(5,.int .i64 0)] 46 h
theorem f51F_eq (a0:Sl) (a1:Sl) (h:Hp) (R:Value→Hp→Prop):evF Try.prog tab lv51 Try.f51 body51 [] [.slice a0.a a0.n a0.c,.slice a1.a a1.n a1.c] h R=f51F a0 a1 h R:=by kernel_rfl
theorem f51F_ok {a0:Sl} {a1:Sl} {h:Hp} {R:Value→Hp→Prop} (hF:f51F a0 a1 h R):CallTo Try.prog 51 #[.slice a0.a a0.n a0.c,.slice a1.a a1.n a1.c] h R :=
 callTo_of_ev (lv:=lv51) (hints:=[]) (c:=body51) (args:=[.slice a0.a a0.n a0.c,.slice a1.a a1.n a1.c]) mixed tab_ok Try.func51 (by kernel_rfl) (by kernel_rfl) (by rw [f51F_eq]; exact hF)
end Go.Ev
set_option linter.all false
set_option maxRecDepth 1000000
namespace Go.Ev
open Go.Proofs
def I64 (n:Int):Prop:=-9223372036854775808 ≤ n∧n < 9223372036854775808
section
variable {h h' h2:Hp} {q q' q2:HQ} {s s':RS} {nd:List NodeD} {b t:List Nat} {id:Nat} {R:Value→Hp→Prop}
theorem cmp_ok {a c:Sl} {l:List Nat} (ha:ReadsO h a.a (l.map bv)) (hb:ReadsO h c.a (l.map bv)) (na:a.n=l.length) (nb:c.n=l.length) (hn:l.length < 9223372036854775807) (hR:R (.int .i64 0) h) :
  CallTo Try.prog 51 #[.slice a.a a.n a.c,.slice c.a c.n c.c] h R:=by
 refine f51F_ok ?_
 unfold f51F
 refine f51L1_rule (s0:=a) (s1:=c) (fun q s0 s1 s5 h'=>∃ i:Nat,i ≤ l.length∧q=l.length - i∧a=s0∧c=s1∧s5=(i:Int)∧h=h') l.length ⟨0,Nat.zero_le _,rfl,rfl,rfl,rfl,rfl⟩ ?_
 rintro q s0 s1 s5 g0 h2 ⟨i,hi,rfl,rfl,rfl,rfl,rfl⟩
 have hend:∀ J,¬ i < l.length→f51K1 J (l.length - i) a c (i:Int) false h R:=fun J _=>by
  unfold f51K1
  refine Cond_f rfl (Cond_f (by rw [na,nb]; simp) (Cond_f (by rw [na,nb]; simp) hR))
 unfold f51L1
 refine Cond_dec (fun hlt=>?_) (fun hlt=>hend _ (by rw [na] at hlt; omega))
 have hil:i < l.length:=by rw [na] at hlt; omega
 have e0:(l.map bv)[i]?=some (bv l[i]):=by rw [List.getElem?_map,List.getElem?_eq_getElem hil]; rfl
 obtain ⟨p,hp,cp⟩:=readsO_get ha e0
 obtain ⟨p',hp',cp'⟩:=readsO_get hb e0
 unfold f51K1
 refine Cond_t (by rw [nb]; exact decide_eq_true (by omega)) ?_
 refine ⟨⟨by omega,hlt⟩,PtrOk_mk' hp ⟨_,by rw [Int.toNat_natCast,Nat.mul_one]; exact cp,⟨by omega,by rw [nb]; omega⟩,PtrOk_mk' hp' ⟨_,by rw [Int.toNat_natCast,Nat.mul_one]; exact cp',Cond_f (by simp) ?_⟩⟩⟩
 refine ⟨⟨by omega,hlt⟩,PtrOk_mk' hp ⟨_,by rw [Int.toNat_natCast,Nat.mul_one]; exact cp,⟨by omega,by rw [nb]; omega⟩,PtrOk_mk' hp' ⟨_,by rw [Int.toNat_natCast,Nat.mul_one]; exact cp',Cond_f (by simp) ?_⟩⟩⟩
 refine ⟨l.length - (i + 1),by omega,i + 1,hil,rfl,rfl,rfl,?_,rfl⟩
 rw [wrap_i64' (by omega) (by omega)]; rfl
/-- The graph only grows. -/
def Gr (nd nd':List NodeD):Prop:=∀ (i:Nat) (n:NodeD),nd[i]?=some n→nd'[i]?=some n
theorem Gr.refl (nd:List NodeD):Gr nd nd:=fun _ _ h=>h
theorem Gr.trans {a b c:List NodeD} (x:Gr a b) (y:Gr b c):Gr a c:=fun i n h=>y i n (x i n h)
theorem Gr.app (nd l:List NodeD):Gr nd (nd ++ l):=fun i n h=>by rw [List.getElem?_append_left (List.getElem?_eq_some_iff.1 h).1]; exact h
/-- Something comes or goes that no handle holds. -/
structure Idle (s:RS) (nd:List NodeD) (s':RS) (nd':List NodeD):Prop where
 sh:s'.Shd nd'
 gr:Gr nd nd'
 rt:s'.roots=s.roots
 lm:s'.limit=s.limit
theorem Idle.refl (sh:s.Shd nd):Idle s nd s nd:=⟨sh,Gr.refl _,rfl,rfl⟩
theorem Idle.trans {s2:RS} {nd' nd2:List NodeD} (a:Idle s nd s' nd') (b:Idle s' nd' s2 nd2):Idle s nd s2 nd2:=⟨b.sh,a.gr.trans b.gr,b.rt.trans a.rt,b.lm.trans a.lm⟩
theorem Idle.collect (v:s.Inv) (sh:s.Shd nd):Idle s nd s.collect nd:=⟨sh.sub (RS.Sub.collect v),Gr.refl _,(RS.Sub.collect v).roots,RS.collect_lim⟩
theorem Idle.alloc (v:s.Inv) (sh:s.Shd nd) (k r w:Int):∃ nd',Idle s nd (s.alloc k r w).1 nd':=by
 have lm:=RS.alloc_lim (s:=s) k r w
 rcases RS.alloc_cases v k r w with ⟨_,e⟩ | ⟨_,t,st,vt,e | ⟨t',ref,e,n⟩⟩
 ·rw [e]; exact ⟨nd,Idle.refl sh⟩
 ·rw [e] at lm ⊢; exact ⟨nd,sh.sub st,Gr.refl _,st.roots,lm⟩
 ·rw [e] at lm ⊢; exact ⟨_,n.shd vt (sh.sub st),Gr.app _ _,n.roots.trans st.roots,lm⟩
end
end Go.Ev
set_option linter.all false
set_option maxRecDepth 1000000
namespace Go.Ev
open Go.Proofs
/-- Lists of bytes, where they lie: none of the heap's own memory. -/
structure RL (h:Hp) (q:HQ) (a:Sl) (sls:List Sl) (rows:List (List Nat)):Prop where
 rd:ReadsO h a.a (sls.map slV)
 n:a.n=sls.length
 len:sls.length=rows.length
 each:∀ (i:Nat) (c:Sl) (r:List Nat),sls[i]?=some c→rows[i]?=some r→Src h q c r∧c.n ≤ c.c∧r.length < 140737488355328
 out:∀ p,a.a=some p→sls ≠ []→q.role p.block=.out∧p.block < h.size
section
variable {h h' h2 h0:Hp} {q q' q2:HQ} {s s' s2:RS} {nd nd' nd2:List NodeD} {n:NodeD} {id lb hn:Nat} {L L' L2:LD} {R:Value→Hp→Prop} {b:List Nat} {ids:List Nat} {lim:Nat} {a:Sl} {sls:List Sl} {rows:List (List Nat)}
theorem RL.ex (x:RL h q a sls rows) (e:Ex h q h' q'):RL h' q' a sls rows :=
 ⟨reads_kept2 e.kept x.rd fun p hp hn=>(have hn':sls ≠ []:=fun z=>hn (by rw [z]; rfl); ⟨(x.out p hp hn').2,fun hx=>hx (x.out p hp hn').1⟩),x.n,x.len,
  fun i c r hc hr=>(have z:=x.each i c r hc hr; ⟨z.1.ex e,z.2⟩),fun p hp hn=>⟨e.out (x.out p hp hn).2 (x.out p hp hn).1,Nat.lt_of_lt_of_le (x.out p hp hn).2 e.2.1⟩⟩
theorem RL.keepN (x:RL h q a sls rows) (k:Kept N h h') (fr:∀ b,h.size ≤ b→q.role b=.out):RL h' q a sls rows:=x.ex (Ex.of_kept k fr)
theorem RL.get (x:RL h q a sls rows) {i:Nat} {r:List Nat} (hr:rows[i]?=some r):∃ c p,sls[i]?=some c∧a.a=some p∧cell h (p.add (i * 1))=some (.slice c.a c.n c.c)∧Src h q c r∧c.n ≤ c.c∧r.length < 140737488355328∧i < a.n:=by
 have hi:=(List.getElem?_eq_some_iff.1 hr).1
 have hs:sls[i]?=some (sls[i]'(by rw [x.len]; exact hi)):=List.getElem?_eq_getElem _
 obtain ⟨p,hp,hc⟩:=readsO_get x.rd (i:=i) (v:=slV (sls[i]'(by rw [x.len]; exact hi))) (by rw [List.getElem?_map,hs]; rfl)
 obtain ⟨e1,e2,e3⟩:=x.each i _ r hs hr
 exact ⟨_,p,hs,hp,by rw [Nat.mul_one]; exact hc,e1,e2,e3,by rw [x.n,x.len]; exact hi⟩
theorem lnum {n:Int} (hR:R (.int .i64 n) h):CallTo Try.prog 11 #[.int .i64 n] h R:=f11F_ok (by unfold f11F; exact hR)
theorem lwithin {i:Int} {m:Nat} (hm:0 < m) (hm2:m < 100000000) (hi:-9223372036854775808 ≤ i∧i < 9223372036854775808) (hR:R (.int .i64 (i % (m:Int))) h):CallTo Try.prog 10 #[.int .i64 i,.int .i64 (m:Int)] h R:=by
 refine f10F_ok ?_
 unfold f10F
 have m1:=Int.emod_nonneg i (b:=(m:Int)) (by omega)
 have m2:=Int.emod_lt_of_pos i (b:=(m:Int)) (by omega)
 have h1:=Int.tmod_eq_emod (a:=i) (b:=(m:Int))
 refine ⟨by omega,by omega,?_⟩
 have e:Int.tmod (IntKind.wrap .i64 (Int.tmod i (m:Int) + (m:Int))) (m:Int)=i % (m:Int):=by
  have b1:-(m:Int) < Int.tmod i (m:Int)∧Int.tmod i (m:Int) < m:=by split at h1 <;> omega
  rw [wrap_i64' (by omega) (by omega),Int.tmod_eq_emod_of_nonneg (by omega)]
  split at h1
  ·have e0:Int.tmod i (m:Int)=i % (m:Int):=by omega
   rw [e0,Int.add_emod_right,Int.emod_emod_of_dvd _ (Int.dvd_refl _)]
  ·have:Int.tmod i (m:Int) + (m:Int)=i % (m:Int):=by omega
   rw [this,Int.emod_emod_of_dvd _ (Int.dvd_refl _)]
 rw [e]
 exact hR
theorem cut0 (c:Nat) (a:Option Addr):(if c=(0:Int).toNat then a else Option.map (fun x=>x.add ((0:Int).toNat * 1)) a)=a:=by
 split
 ·rfl
 ·cases a <;> rfl
/-! ### Eq, EqLists -/
theorem leq {a c:Sl} {l:List Nat} (ha:ReadsO h a.a (l.map bv)) (hb:ReadsO h c.a (l.map bv)) (na:a.n=l.length) (nc:c.n=l.length) (hl:l.length < 9223372036854775807) (hR:R (.bool true) h) :
  CallTo Try.prog 18 #[.slice a.a a.n a.c,.slice c.a c.n c.c] h R:=by
 refine f18F_ok ?_
 unfold f18F
 exact cmp_ok ha hb na nc hl ⟨_,rfl,hR⟩
theorem RowsAt.get {M:Mem} {cs:List Nat} (x:RowsAt h0 h a M cs rows) {i:Nat} {r:List Nat} (hr:rows[i]?=some r):∃ c b,cs[i]?=some c∧a.a=some (ad b)∧cell h ((ad b).add (i * 1))=some (.slice (some (ad c)) r.length r.length)∧Row h c (r.map bv)∧i < a.n:=by
 have hi:=(List.getElem?_eq_some_iff.1 hr).1
 have hc:cs[i]?=some (cs[i]'(by rw [x.len]; exact hi)):=List.getElem?_eq_getElem _
 obtain ⟨b,h1,h2,h3,h4⟩:=sl_at x.sl x.sep (rowSls_get hc hr)
 obtain ⟨e1,e2⟩:=x.el i _ r hc hr
 have row:=x.sep.row (i + 1) _ e1
 rw [e2] at row
 exact ⟨_,b,hc,h2,h3,row,by omega⟩
theorem RowsAt.n_eq {M:Mem} {cs:List Nat} (x:RowsAt h0 h a M cs rows):a.n=rows.length:=by have:=x.sl.len; rw [List.length_map,rowSls_len x.len] at this; omega
theorem leqlists {M:Mem} {cs:List Nat} {a c:Sl} (x:RowsAt h0 h a M cs rows) (y:RL h q c sls rows) (hbig:rows.length < 1000000000) (hR:R (.bool true) h) :
  CallTo Try.prog 30 #[.slice a.a a.n a.c,.slice c.a c.n c.c] h R:=by
 have xn:=x.n_eq
 have yn:=y.n
 have yl:=y.len
 refine f30F_ok ?_
 unfold f30F
 refine Cond_f (by rw [xn,yn,yl]; exact bne_self_eq_false _) ?_
 refine f30L1_rule (s0:=a) (s1:=c) (fun m s0 s1 s5 h1=>∃ k:Nat,k ≤ rows.length∧m=rows.length - k∧a=s0∧c=s1∧s5=(k:Int)∧h=h1) rows.length ⟨0,Nat.zero_le _,rfl,rfl,rfl,rfl,rfl⟩ ?_
 rintro m s0 s1 s5 g h1 ⟨k,hk,rfl,rfl,rfl,rfl,rfl⟩
 unfold f30L1
 refine Cond_dec (fun hlt=>?_) fun _=>hR
 have hkr:k < rows.length:=by omega
 have hr:rows[k]?=some (rows[k]'hkr):=List.getElem?_eq_getElem hkr
 obtain ⟨d,bk,_,ha,hc1,row,_⟩:=x.get hr
 obtain ⟨e,p,_,hp,hc2,src,_,hl,_⟩:=y.get hr
 refine ⟨⟨by omega,by omega⟩,PtrOk_of ha ⟨⟨_,_,_⟩,by rw [Int.toNat_natCast]; exact hc1,⟨by omega,by omega⟩,PtrOk_of hp ⟨e,by rw [Int.toNat_natCast]; exact hc2,_,cmp_ok (a:=⟨some (ad d),_,_⟩) (row_reads row) src.rd rfl src.n (by omega) ⟨rfl,rfl⟩,Cond_f rfl ?_⟩⟩⟩
 exact ⟨rows.length - (k + 1),by omega,k + 1,by omega,rfl,rfl,rfl,by rw [wrap_i64' (by omega) (by omega)]; rfl,rfl⟩
/-! ### holds -/
theorem lholds (o:Opn h q s nd lb hn L) {c:Sl} (y:RL h q c sls L.rows) (hR:∀ h',Kept N h h'→R (.bool true) h'):CallTo Try.prog 21 #[.pointer (some (ad lb)),.slice c.a c.n c.c] h R:=by
 have yn:=y.n
 have yl:=y.len
 have hl:=o.len
 refine f21F_ok ?_
 unfold f21F
 refine lslice o ⟨by omega,by omega⟩ (fun hb=>absurd ⟨by omega,by omega,by omega,by omega⟩ hb) fun a M cs h1 _ x1 k1=>⟨_,_,rfl,lnum ⟨_,rfl,Cond_f rfl ?_⟩⟩
 have er:(L.rows.drop (0:Int).toNat).take (((c.n:Nat):Int)).toNat=L.rows:=by
  show (L.rows.drop 0).take _=_
  rw [List.drop_zero,Int.toNat_natCast,yn,yl,List.take_length]
 rw [er] at x1
 have o1:=o.keepN k1
 have y1:=y.keepN k1 fun b hb=>o.g.st.fr hb
 refine llen o1 ⟨_,rfl,Cond_f (by rw [yn,yl]; exact bne_self_eq_false _) (leqlists x1 y1 (by omega) ⟨_,rfl,?_⟩)⟩
 unfold f21K1
 refine Cond_f rfl ?_
 refine f21L1_rule (s1:=c) (fun m s0 s1 s7 h2=>∃ k:Nat,k ≤ L.rows.length∧m=L.rows.length - k∧some (ad lb)=s0∧c=s1∧s7=(k:Int)∧Kept N h h2) L.rows.length ⟨0,Nat.zero_le _,rfl,rfl,rfl,rfl,k1⟩ ?_
 rintro m s0 s1 s7 g h2 ⟨k,hk,rfl,rfl,rfl,rfl,k2⟩
 unfold f21L1
 have o2:=o.keepN k2
 have y2:=y.keepN k2 fun b hb=>o.g.st.fr hb
 refine Cond_dec (fun hlt=>?_) fun hge=>?_
 ·have hkr:k < L.rows.length:=by omega
  refine lgetr o2 ⟨by omega,by omega⟩ (fun hb=>absurd ⟨by omega,by omega,by omega,by omega⟩ hb) fun r d h3 _ hr row hd k3=>⟨⟨_,_,_⟩,_,rfl,lnum ⟨_,rfl,Cond_f rfl ?_⟩⟩
  rw [Int.toNat_natCast] at hr
  have y3:=y2.keepN k3 fun b hb=>o.g.st.fr (Nat.le_trans k2.1 hb)
  obtain ⟨e,p,_,hp,hc2,src,_,hlr,_⟩:=y3.get hr
  refine ⟨⟨by omega,by omega⟩,PtrOk_of hp ⟨e,by rw [Int.toNat_natCast]; exact hc2,leq (a:=⟨some (ad d),_,_⟩) (row_reads row) src.rd rfl src.n (by omega) ⟨_,rfl,Cond_f rfl ?_⟩⟩⟩
  exact ⟨L.rows.length - (k + 1),by omega,k + 1,by omega,rfl,rfl,rfl,by rw [wrap_i64' (by omega) (by omega)]; rfl,⟨Nat.le_trans k2.1 k3.1,fun j hj _=>(k3.2 j (Nat.lt_of_lt_of_le hj k2.1) _root_.id).trans (k2.2 j hj _root_.id)⟩⟩
 ·refine lgetr o2 ⟨by omega,by omega⟩ (fun hb=>⟨⟨_,_,_⟩,_,rfl,lnum ⟨_,rfl,hR h2 k2⟩⟩) fun r d h3 hin _ _ _ _=>?_
  have:=hin.2.2.2
  omega
/-! ### A great heap with one list of short elements -/
theorem wordsN_le (n:Nat):wordsN n ≤ n / 8 + 1:=by unfold wordsN; omega
theorem rowS_le {k:Nat}:∀ rows:List (List Nat),(∀ r ∈ rows,r.length ≤ 8 * k)→rowS rows ≤ (3 + k) * rows.length∧(k ≤ 50→rowB rows=0)
 | [],_=>⟨by simp [rowS],fun _=>by simp [rowB]⟩
 | r :: rows,h=>by
  obtain ⟨h1,h2⟩:=rowS_le rows fun r hr=>h r (List.mem_cons_of_mem _ hr)
  have h3:=h r (List.mem_cons_self ..)
  have h4:wordsN r.length ≤ k + 1:=Nat.le_trans (wordsN_le _) (by omega)
  have e1:rowS (r :: rows)=cntS (2 + wordsN r.length) + rowS rows:=by unfold rowS; simp
  have e2:rowB (r :: rows)=cntB (2 + wordsN r.length) + rowB rows:=by unfold rowB; simp
  refine ⟨?_,fun hk=>?_⟩
  ·rw [e1,List.length_cons,Nat.mul_succ]
   have:cntS (2 + wordsN r.length) ≤ 3 + k:=by unfold cntS; split <;> omega
   omega
  ·rw [e2,h2 hk]; unfold cntB; rw [if_pos (by omega)]
theorem big_room {k:Nat} (hk:k ≤ 50) (hr:∀ r ∈ rows,r.length ≤ 8 * k) (hn:(7 + k) * rows.length ≤ 500000) {z:Nat} (hz:z ≤ 60):room2 1048576 (5 + 4 * rows.length + rowS rows) (rowB rows) z:=by
 obtain ⟨h1,h2⟩:=rowS_le rows hr
 have h2:=h2 hk
 have e:(7 + k) * rows.length=4 * rows.length + (3 + k) * rows.length:=by rw [← Nat.add_mul]; congr 1; omega
 rw [h2]
 unfold room2 roomK cntS cntB
 rw [if_pos (by omega),if_pos (by omega),if_pos (by omega),if_pos (by omega)]
 omega
theorem spush (x:Solo h q s nd lb L 1048576) {k:Nat} (hk:k ≤ 50) (hr:∀ r ∈ L.rows,r.length ≤ 8 * k) (hn:(7 + k) * L.rows.length ≤ 500000) {a:Sl} (sr:Src h q a b) (hb:b.length ≤ 8 * k) {fr:Bool}
  (hok:∀ h' q' s' nd' L',Solo h' q' s' nd' lb L' 1048576→L'.rows=(if fr=true then b :: L.rows else L.rows ++ [b])→Ex h q h' q'→R (.int .i64 0) h') :
  CallTo Try.prog 13 #[.pointer (some (ad lb)),.bool fr,.slice a.a a.n a.c] h R:=by
 have hz:2 + wordsN b.length ≤ 60:=by have:=wordsN_le b.length; omega
 have hrl:=x.rl
 refine lpush x.o sr (by omega) (by omega) (fun hl=>absurd hl (by omega)) (fun _ h' q' s' nd' _ hno=>?_) fun h' q' s' nd' L' _ af er _=>hok h' q' s' nd' L' (x.aft af) er af.ex
 exact absurd (x.room.2 (big_room hk hr hn hz) _ x.lv) (hno _ x.lv)
end
end Go.Ev
set_option linter.all false
set_option maxRecDepth 1000000
namespace Go.Ev
open Go.Proofs
/-- Lists of bytes, where they lie. -/
structure RL0 (h:Hp) (a:Sl) (sls:List Sl) (rows:List (List Nat)):Prop where
 rd:ReadsO h a.a (sls.map slV)
 n:a.n=sls.length
 len:sls.length=rows.length
 each:∀ (i:Nat) (c:Sl) (r:List Nat),sls[i]?=some c→rows[i]?=some r→ReadsO h c.a (r.map bv)∧c.n=r.length∧Bytes8 r∧c.n ≤ c.c∧r.length < 140737488355328∧∀ p,c.a=some p→r ≠ []→p.block < h.size
 out:∀ p,a.a=some p→sls ≠ []→p.block < h.size
/-- What is the heap's own is new. -/
def Frsh (h0:Hp) (q:HQ):Prop:=∀ b,q.role b ≠ .out→h0.size ≤ b
def cutR (rows:List (List Nat)):List (List Nat):=(rows.take 300).map (·.take 40)
def cutSl (c:Sl):Sl:=⟨c.a,min c.n 40,c.c⟩
section
variable {h h' h2 h0:Hp} {q q' q2:HQ} {s s' s2:RS} {nd nd' nd2:List NodeD} {n:NodeD} {id lb hn:Nat} {L L' L2:LD} {R:Value→Hp→Prop} {b:List Nat} {ids:List Nat} {lim:Nat} {a:Sl} {sls:List Sl} {rows:List (List Nat)}
theorem Frsh.old (f:Frsh h0 q) {b:Nat} (hb:b < h0.size):q.role b=.out:=Classical.byContradiction fun hn=>by have:=f b hn; omega
theorem Frsh.ex (f:Frsh h0 q) (hs:h0.size ≤ h.size) (e:Ex h q h' q'):Frsh h0 q':=fun b hb=>Classical.byContradiction fun hlt=>hb (e.out (by omega) (f.old (by omega)))
theorem Frsh.kept (f:Frsh h0 q) (k:Kept N h0 h) (e:Ex h q h' q'):Kept N h0 h' :=
 ⟨Nat.le_trans k.1 e.2.1,fun i hi _=>(e.2.2 i (Nat.lt_of_lt_of_le hi k.1) (f.old hi)).2.trans (k.2 i hi _root_.id)⟩
theorem kept_tr {a b c:Hp} (x:Kept N a b) (y:Kept N b c):Kept N a c:=⟨Nat.le_trans x.1 y.1,fun j hj _=>(y.2 j (Nat.lt_of_lt_of_le hj x.1) _root_.id).trans (x.2 j hj _root_.id)⟩
theorem RL0.rl (x:RL0 h0 a sls rows) (k:Kept N h0 h) (f:Frsh h0 q):RL h q a sls rows :=
 ⟨reads_keptN k x.rd,x.n,x.len,fun i c r hc hr=>(have e:=x.each i c r hc hr; ⟨⟨reads_keptN k e.1,e.2.1,e.2.2.1,fun p hp hn=>⟨f.old (e.2.2.2.2.2 p hp hn),Nat.lt_of_lt_of_le (e.2.2.2.2.2 p hp hn) k.1⟩⟩,e.2.2.2.1,e.2.2.2.2.1⟩),
  fun p hp hn=>⟨f.old (x.out p hp hn),Nat.lt_of_lt_of_le (x.out p hp hn) k.1⟩⟩
theorem Src.take {c:Sl} {r:List Nat} (x:Src h q c r) (k:Nat):Src h q ⟨c.a,min c.n k,c.c⟩ (r.take k):=by
 refine ⟨?_,by rw [List.length_take,x.n]; exact Nat.min_comm _ _,fun y hy=>x.b8 y (List.mem_of_mem_take hy),fun p hp hn=>x.out p hp fun z=>hn (by rw [z,List.take_nil])⟩
 have rd:=x.rd
 rw [List.map_take]
 revert rd
 generalize r.map bv=vs
 intro rd
 by_cases h0:vs.take k=[]
 ·rw [h0]
  cases hc:c.a with
  | none=>rfl
  | some p=>exact fun j v hv=>by cases hv
 ·cases hc:c.a with
  | none=>rw [hc] at rd; exact absurd (by rw [show vs=[] from rd]; simp) h0
  | some p=>rw [hc] at rd; exact fun j v hv=>rd j v (by
    have hj:j < k:=by have:=(List.getElem?_eq_some_iff.1 hv).1; rw [List.length_take] at this; omega
    rwa [List.getElem?_take_of_lt hj] at hv)
theorem cutR_len:(cutR rows).length=min 300 rows.length:=by unfold cutR; simp
theorem cutR_le {r:List Nat} (h:r ∈ cutR rows):r.length ≤ 8 * 5:=by
 unfold cutR at h
 obtain ⟨x,_,rfl⟩:=List.mem_map.1 h
 rw [List.length_take]; omega
/-- Slices of lists that are laid one by one into a new one. -/
structure SlsIn (h0 h:Hp) (M:Mem) (w:Sl) (l:List Sl):Prop where
 sep:Sep h M
 sl:IsSl 1 M 0 w (l.map slV)
 own:∀ b,M.own b→h0.size ≤ b
 k:Kept N h0 h
theorem SlsIn.nil (h0:Hp):SlsIn h0 h0 ⟨fun _=>none,fun _=>[]⟩ ⟨none,0,0⟩ [] :=
 ⟨⟨fun y b hy=>by (cases hy),fun y z b hy _=>by (cases hy)⟩,⟨by simp,fun _=>⟨rfl,rfl,rfl⟩,fun b hb=>by cases hb⟩,(fun b ⟨y,hy⟩=>by cases hy),Kept.refl _ _⟩
theorem SlsIn.len {M:Mem} {w:Sl} {l:List Sl} (x:SlsIn h0 h M w l):w.n=l.length:=by have:=x.sl.len; rw [List.length_map] at this; omega
theorem SlsIn.keepN {M:Mem} {w:Sl} {l:List Sl} (x:SlsIn h0 h M w l) (k:Kept N h h'):SlsIn h0 h' M w l:=⟨x.sep.keepN k,x.sl,x.own,kept_tr x.k k⟩
theorem SlsIn.add {M:Mem} {w c:Sl} {l:List Sl} (x:SlsIn h0 h M w l) (hl:l.length ≤ 100000000) {t e:TypeId} {K:Option Addr→Nat→Nat→Hp→Prop}
  (hK:∀ a' c' h2 M',SlsIn h0 h2 M' ⟨a',w.n + 1,c'⟩ (l ++ [c])→K a' (w.n + 1) c' h2) :
  Let (h.push (.cells #[.slice c.a c.n c.c] t)) fun h2=>appSl e 1 24 #[.slice none 0 0] w.a w.n w.c (some (nb h)) 1 h2 K:=by
 have hwn:=x.len
 refine x.sl.app1 x.sep rfl rfl (fun v hv=>by rw [List.mem_singleton.1 hv]; rfl) (by omega) (by omega) fun a' c' h2 ob cc p2 sl2 ch2=>?_
 refine hK a' c' h2 (M.upd 0 ob cc) ⟨p2,by rw [List.map_append]; exact sl2,fun b hb=>(ch2.2 b hb).elim (x.own b) fun z=>Nat.le_trans x.k.1 z,Nat.le_trans x.k.1 ch2.1.1,fun i hi _=>?_⟩
 exact (ch2.1.2 i (Nat.lt_of_lt_of_le hi x.k.1) fun ho=>by have:=x.own i ho; omega).trans (x.k.2 i hi _root_.id)
theorem SlsIn.rl {M:Mem} {w:Sl} {l:List Sl} (x:SlsIn h0 h M w l) (g:Gs h0 q s nd) (hl:l.length=rows.length) (he:∀ (i:Nat) (c:Sl) (r:List Nat),l[i]?=some c→rows[i]?=some r→Src h q c r∧c.n ≤ c.c∧r.length < 140737488355328):RL h q w l rows:=by
 refine ⟨slAt_reads (x.sl.slAt x.sep),x.len,hl,he,fun p hp hn=>?_⟩
 obtain ⟨b,hb,ha⟩:=x.sl.some_of (fun e=>hn (List.map_eq_nil_iff.1 e))
 rw [hp] at ha
 obtain rfl:p=ad b:=Option.some.inj ha
 exact ⟨g.st.fr (x.own b ⟨0,hb⟩),x.sep.lt hb⟩
theorem lmake1 (y:RL0 h a sls rows)
  (hR:∀ h' q' s' nd' lb L' w sls',Solo h' q' s' nd' lb L' 1048576→L'.rows=cutR rows→RL h' q' w sls' (cutR rows)→Kept N h h'→Frsh h q'→R (.tuple #[.pointer (some (ad q'.hb)),.pointer (some (ad lb)),.slice w.a w.n w.c]) h') :
  CallTo Try.prog 20 #[.slice a.a a.n a.c] h R:=by
 have yn:=y.n
 have yl:=y.len
 refine f20F_ok ?_
 unfold f20F
 refine hn_ok (fun hb=>absurd ⟨by omega,by omega⟩ hb) fun h1 q1 _ g1 k1 fr1=>⟨_,_,rfl,lnum ⟨_,rfl,Cond_f rfl ?_⟩⟩
 unfold f20K1
 have f1:Frsh h q1:=fr1
 refine Cond_f rfl (snew (lim:=1048576) g1 (by omega) (by omega) fun h2 q2 s2 nd2 lb L2 x2 er2 ex2 hlb=>⟨_,_,rfl,lnum ⟨_,rfl,Cond_f rfl (Cond_f rfl ?_)⟩⟩)
 have hbq:q1.hb=q2.hb:=ex2.1.symm
 rw [hbq]
 have f2:=f1.ex k1.1 ex2
 have k2:=f1.kept k1 ex2
 have yr:=y.rl k2 f2
 have hcl:=cutR_len (rows:=rows)
 refine f20L1_rule (s0:=a) (s9:=⟨none,0,0⟩) (fun m s0 s5 s7 s9 s10 h3=>∃ (k:Nat) (M:Mem),k ≤ min 300 rows.length∧m=300 - k∧a=s0∧some (ad q2.hb)=s5∧some (ad lb)=s7∧s10=(k:Int)∧SlsIn h2 h3 M s9 ((sls.take k).map cutSl)) 300
  ⟨0,_,Nat.zero_le _,rfl,rfl,rfl,rfl,rfl,SlsIn.nil h2⟩ ?_
 rintro m s0 s5 s7 s9 s10 g h3 ⟨k,M,hk,rfl,rfl,rfl,rfl,rfl,x3⟩
 have y3:=yr.keepN x3.k fun b hb=>x2.o.g.st.fr hb
 have done:k=min 300 rows.length→((2:Int) ≠ 0∧LoopEv (evC Try.prog tab lv20 (sub [1,1,1,1,1,1,1,1,0,1,0,0] body20)) (contAt Try.prog tab lv20 [1,1,1,1,1,1,1,1,0,1,0] body20 [] (bodyK Try.prog Try.f20 [] R))
   [(5,.pointer (some (ad q2.hb))),(7,.pointer (some (ad lb))),(9,.slice s9.a s9.n s9.c),(12,.int .i64 (IntKind.wrap .i64 (Int.tdiv (((s9.n:Nat):Int)) (2:Int)))),(13,.int .i64 (IntKind.wrap .i64 ((IntKind.wrap .i64 (Int.tdiv (((s9.n:Nat):Int)) (2:Int))) - (1:Int))))] 100 h3):=fun he=>by
  refine ⟨by omega,?_⟩
  have sln:s9.n=(cutR rows).length:=by rw [x3.len,List.length_map,List.length_take,hcl]; omega
  have r3:RL h3 q2 s9 ((sls.take k).map cutSl) (cutR rows):=by
   refine x3.rl x2.o.g (by rw [List.length_map,List.length_take,hcl]; omega) fun i c r hc hr=>?_
   rw [List.getElem?_map] at hc
   unfold cutR at hr
   rw [List.getElem?_map] at hr
   cases hc2:(sls.take k)[i]? with
   | none=>rw [hc2] at hc; cases hc
   | some c0 =>
    rw [hc2] at hc
    obtain rfl:cutSl c0=c:=Option.some.inj hc
    cases hr2:(rows.take 300)[i]? with
    | none=>rw [hr2] at hr; cases hr
    | some r0 =>
     rw [hr2] at hr
     obtain rfl:r0.take 40=r:=Option.some.inj hr
     have hi1:i < k:=by have:=(List.getElem?_eq_some_iff.1 hc2).1; rw [List.length_take] at this; omega
     rw [List.getElem?_take_of_lt hi1] at hc2
     rw [List.getElem?_take_of_lt (by omega)] at hr2
     obtain ⟨e1,e2,e3⟩:=y3.each i c0 r0 hc2 hr2
     exact ⟨e1.take 40,by show min c0.n 40 ≤ c0.c; omega,by rw [List.length_take]; omega⟩
  have hlen:(cutR rows).length ≤ 300:=by omega
  have small:∀ r ∈ cutR rows,r.length ≤ 8 * 5:=fun r hr=>cutR_le hr
  rw [sln,Int.tdiv_eq_ediv_of_nonneg (by omega),wrap_i64' (x:=((cutR rows).length:Int) / 2) (by omega) (by omega),wrap_i64' (by omega) (by omega)]
  have x3s:=x2.keepN x3.k
  have k3:=kept_tr k2 x3.k
  refine f20L2_rule (s9:=⟨s9.a,(cutR rows).length,s9.c⟩) (fun m s5 s7 s9' s12 s13 h4=>∃ (i:Nat) (q4:HQ) (s4:RS) (nd4:List NodeD) (L4:LD),i ≤ (cutR rows).length / 2∧i=m∧some (ad q4.hb)=s5∧some (ad lb)=s7∧⟨s9.a,(cutR rows).length,s9.c⟩=s9'∧s12=(((cutR rows).length / 2:Nat):Int)∧s13=(i:Int) - 1 ∧
    Solo h4 q4 s4 nd4 lb L4 1048576∧L4.rows=((cutR rows).take ((cutR rows).length / 2)).drop i∧RL h4 q4 s9 ((sls.take k).map cutSl) (cutR rows)∧Kept N h h4∧Frsh h q4) ((cutR rows).length / 2)
   ⟨(cutR rows).length / 2,q2,s2,nd2,L2,Nat.le_refl _,rfl,rfl,rfl,rfl,by omega,by omega,x3s,by rw [er2,List.drop_eq_nil_of_le (by rw [List.length_take]; omega)],r3,k3,f2⟩ ?_
  rintro m s5 s7 s9' s12 s13 g' h4 ⟨i,q4,s4,nd4,L4,hi,rfl,rfl,rfl,rfl,rfl,rfl,x4,er4,r4,k4,f4⟩
  unfold f20L2
  refine Cond_dec (fun hge=>?_) fun hlt=>?_
  ·obtain ⟨j,rfl⟩:∃ j,i=j + 1:=⟨i - 1,by omega⟩
   have hj:(cutR rows)[j]?=some ((cutR rows)[j]'(by omega)):=List.getElem?_eq_getElem (by omega)
   obtain ⟨c,p,_,hp,hc2,src,_,_,_⟩:=r4.get hj
   have e1:((j + 1:Nat):Int) - 1=(j:Int):=by omega
   rw [e1]
   refine ⟨⟨by omega,by show (j:Int) < (((cutR rows).length:Nat):Int); omega⟩,PtrOk_of hp ⟨c,by rw [Int.toNat_natCast]; exact hc2,?_⟩⟩
   have hin:∀ r ∈ L4.rows,r.length ≤ 8 * 5:=fun r hr=>by rw [er4] at hr; exact small r (List.mem_of_mem_take (List.mem_of_mem_drop hr))
   have hl4:L4.rows.length ≤ 300:=by rw [er4]; simp; omega
   refine spush x4 (k:=5) (by omega) hin (by omega) src (small _ (List.getElem_mem _)) fun h5 q5 s5 nd5 L5 x5 er5 ex5=>⟨_,rfl,lnum ⟨_,rfl,Cond_f rfl ?_⟩⟩
   refine ⟨j,by omega,j,q5,s5,nd5,L5,by omega,rfl,by rw [ex5.1],rfl,rfl,rfl,by rw [wrap_i64' (by omega) (by omega)],x5,?_,r4.ex ex5,f4.kept k4 ex5,f4.ex k4.1 ex5⟩
   rw [er5,if_pos rfl,er4]
   have hj2:((cutR rows).take ((cutR rows).length / 2))[j]?=some ((cutR rows)[j]'(by omega)):=by rw [List.getElem?_take_of_lt (by omega)]; exact hj
   obtain ⟨hjl,hje⟩:=List.getElem?_eq_some_iff.1 hj2
   rw [List.drop_eq_getElem_cons hjl,hje]
  ·have hi0:i=0:=by omega
   subst hi0
   rw [List.drop_zero] at er4
   refine f20L3_rule (s9:=⟨s9.a,(cutR rows).length,s9.c⟩) (fun m s5 s7 s9' s15 h5=>∃ (i:Nat) (q5:HQ) (s5':RS) (nd5:List NodeD) (L5:LD),i ≤ (cutR rows).length∧m=(cutR rows).length - i∧some (ad q5.hb)=s5∧some (ad lb)=s7∧⟨s9.a,(cutR rows).length,s9.c⟩=s9'∧s15=(i:Int) ∧
     Solo h5 q5 s5' nd5 lb L5 1048576∧L5.rows=(cutR rows).take i∧RL h5 q5 s9 ((sls.take k).map cutSl) (cutR rows)∧Kept N h h5∧Frsh h q5) ((cutR rows).length - (cutR rows).length / 2)
    ⟨(cutR rows).length / 2,q4,s4,nd4,L4,by omega,rfl,rfl,rfl,rfl,rfl,x4,er4,r4,k4,f4⟩ ?_
   rintro m s5 s7 s9' s15 g2 h5 ⟨i,q5,s5',nd5,L5,hi5,rfl,rfl,rfl,rfl,rfl,x5,er5,r5,k5,f5⟩
   unfold f20L3
   refine Cond_dec (fun hlt5=>?_) fun hge5=>?_
   ·have hlt5:i < (cutR rows).length:=by have:(i:Int) < (((cutR rows).length:Nat):Int):=hlt5; omega
    have hj:(cutR rows)[i]?=some ((cutR rows)[i]'hlt5):=List.getElem?_eq_getElem hlt5
    obtain ⟨c,p,_,hp,hc2,src,_,_,_⟩:=r5.get hj
    refine ⟨⟨by omega,by show (i:Int) < (((cutR rows).length:Nat):Int); omega⟩,PtrOk_of hp ⟨c,by rw [Int.toNat_natCast]; exact hc2,?_⟩⟩
    have hin:∀ r ∈ L5.rows,r.length ≤ 8 * 5:=fun r hr=>by rw [er5] at hr; exact small r (List.mem_of_mem_take hr)
    have hl5:L5.rows.length ≤ 300:=by rw [er5]; simp; omega
    refine spush x5 (k:=5) (by omega) hin (by omega) src (small _ (List.getElem_mem _)) fun h6 q6 s6 nd6 L6 x6 er6 ex6=>⟨_,rfl,lnum ⟨_,rfl,Cond_f rfl ?_⟩⟩
    refine ⟨(cutR rows).length - (i + 1),by omega,i + 1,q6,s6,nd6,L6,by omega,rfl,by rw [ex6.1],rfl,rfl,by rw [wrap_i64' (by omega) (by omega)]; rfl,x6,?_,r5.ex ex6,f5.kept k5 ex6,f5.ex k5.1 ex6⟩
    rw [er6,if_neg (by simp),er5]
    exact (RS.take_snoc hj).symm
   ·have hin:i=(cutR rows).length:=by have:¬ (i:Int) < (((cutR rows).length:Nat):Int):=hge5; omega
    subst hin
    rw [List.take_length] at er5
    exact sln ▸ hR h5 q5 s5' nd5 lb L5 s9 _ x5 er5 r5 k5 f5
 unfold f20L1
 rw [yn,yl]
 refine Cond_dec (fun hlt=>Cond_dec (fun hlt2=>?_) fun hge2=>done (by omega)) fun hge=>done (by omega)
 have hkr:k < rows.length:=by omega
 obtain ⟨c,p,hcs,hp,hc2,src,hcap,_,_⟩:=y3.get (List.getElem?_eq_getElem hkr)
 have ht:(sls.take (k + 1)).map cutSl=(sls.take k).map cutSl ++ [cutSl c]:=by rw [RS.take_snoc hcs,List.map_append]; rfl
 have hll:((sls.take k).map cutSl).length ≤ 100000000:=by simp; omega
 refine ⟨⟨by omega,by omega⟩,PtrOk_of hp ⟨c,by rw [Int.toNat_natCast]; exact hc2,Cond_dec (fun hbig=>⟨⟨by omega,by omega⟩,⟨by omega,by omega⟩,?_⟩) fun hsm=>?_⟩⟩
 ·rw [cut0]
  have e1:(⟨c.a,(40:Int).toNat - (0:Int).toNat,c.c - (0:Int).toNat⟩:Sl)=cutSl c:=by
   unfold cutSl; congr 1; show 40 - 0=min c.n 40; omega
  refine x3.add (c:=⟨c.a,(40:Int).toNat - (0:Int).toNat,c.c - (0:Int).toNat⟩) hll fun a' c' h4 M' x4=>⟨300 - (k + 1),by omega,k + 1,M',by omega,rfl,rfl,rfl,rfl,by rw [wrap_i64' (by omega) (by omega)]; rfl,?_⟩
  rw [ht,← e1]
  exact x4
 ·have e1:c=cutSl c:=by
   have:min c.n 40=c.n:=by omega
   unfold cutSl; rw [this]
  refine x3.add (c:=c) hll fun a' c' h4 M' x4=>⟨300 - (k + 1),by omega,k + 1,M',by omega,rfl,rfl,rfl,rfl,by rw [wrap_i64' (by omega) (by omega)]; rfl,?_⟩
  rw [ht,← e1]
  exact x4
end
end Go.Ev
set_option linter.all false
set_option maxRecDepth 1000000
namespace Go.Ev
open Go.Proofs
/-- A list on a great heap, what lay there ahead of it as it was. -/
structure Stg (h1 h:Hp) (q:HQ) (s:RS) (nd:List NodeD) (lb:Nat) (L:LD):Prop where
 x:Solo h q s nd lb L 1048576
 k:Kept N h1 h
 f:Frsh h1 q
/-- Bytes, where they lie. -/
structure Bt (h:Hp) (a:Sl) (b:List Nat):Prop where
 rd:ReadsO h a.a (b.map bv)
 n:a.n=b.length
 cap:a.n ≤ a.c
 b8:Bytes8 b
 lt:b.length < 140737488355328
 out:∀ p,a.a=some p→b ≠ []→p.block < h.size
section
variable {h h' h2 h0 h1:Hp} {q q' q2:HQ} {s s' s2:RS} {nd nd' nd2:List NodeD} {n:NodeD} {id lb hn:Nat} {L L' L2:LD} {R:Value→Hp→Prop} {b:List Nat} {ids:List Nat} {lim:Nat} {a:Sl} {sls:List Sl} {rows w:List (List Nat)} {M:Mem} {cs:List Nat} {r:List Nat} {c:Nat}
theorem Stg.ex (x:Stg h1 h q s nd lb L) (y:Solo h' q' s' nd' lb L' 1048576) (e:Ex h q h' q'):Stg h1 h' q' s' nd' lb L':=⟨y,x.f.kept x.k e,x.f.ex x.k.1 e⟩
theorem Stg.aft (x:Stg h1 h q s nd lb L) (a:Aft h q s nd L h' q' s' nd' L'):Stg h1 h' q' s' nd' lb L':=x.ex (x.x.aft a) a.ex
theorem Stg.keepN (x:Stg h1 h q s nd lb L) (k:Kept N h h'):Stg h1 h' q s nd lb L:=⟨x.x.keepN k,kept_tr x.k k,x.f⟩
theorem Bt.src (y:Bt h1 a b) (x:Stg h1 h q s nd lb L):Src h q a b:=⟨reads_keptN x.k y.rd,y.n,y.b8,fun p hp hn=>⟨x.f.old (y.out p hp hn),Nat.lt_of_lt_of_le (y.out p hp hn) x.k.1⟩⟩
theorem reads_take {a:Option Addr} {vs:List Value} (rd:ReadsO h a vs) (k:Nat):ReadsO h a (vs.take k):=by
 revert rd
 by_cases h0:vs.take k=[]
 ·intro _
  rw [h0]
  cases a with
  | none=>rfl
  | some p=>exact fun j v hv=>by cases hv
 ·intro rd
  cases a with
  | none=>exact absurd (by rw [show vs=[] from rd]; simp) h0
  | some p=>exact fun j v hv=>rd j v (by
    have hj:j < k:=by have:=(List.getElem?_eq_some_iff.1 hv).1; rw [List.length_take] at this; omega
    rwa [List.getElem?_take_of_lt hj] at hv)
theorem Bt.take (y:Bt h1 a b) (k:Nat):Bt h1 ⟨a.a,min a.n k,a.c⟩ (b.take k) :=
 ⟨by rw [List.map_take]; exact reads_take y.rd k,by rw [List.length_take,y.n]; exact Nat.min_comm _ _,by show min a.n k ≤ a.c; have:=y.cap; omega,fun x hx=>y.b8 x (List.mem_of_mem_take hx),by rw [List.length_take]; have:=y.lt; omega,fun p hp hn=>y.out p hp fun z=>hn (by rw [z,List.take_nil])⟩
theorem row_src (row:Row h c (r.map bv)) (b8:Bytes8 r) (ho:q.role c=.out):Src h q ⟨some (ad c),r.length,r.length⟩ r :=
 ⟨row_reads row,rfl,b8,fun p hp _=>by obtain rfl:=Option.some.inj hp; exact ⟨ho,row_lt row⟩⟩
/-! ### Pop on such a list; pushes -/
theorem tpush (x:Stg h1 h q s nd lb L) (hr:∀ r ∈ L.rows,r.length ≤ 8 * 5) (hn:L.rows.length ≤ 310) {a:Sl} (sr:Src h q a b) (hb:b.length ≤ 8 * 5) {fr:Bool}
  (hok:∀ h' q' s' nd' L',Stg h1 h' q' s' nd' lb L'→L'.rows=(if fr=true then b :: L.rows else L.rows ++ [b])→Ex h q h' q'→R (.int .i64 0) h') :
  CallTo Try.prog 13 #[.pointer (some (ad lb)),.bool fr,.slice a.a a.n a.c] h R :=
 spush x.x (k:=5) (by omega) hr (by omega) sr hb fun h' q' s' nd' L' y er ex=>hok h' q' s' nd' L' (x.ex y ex) er ex
theorem tpop (x:Stg h1 h q s nd lb L) {fr:Bool} (hne:L.rows ≠ [])
  (hok:∀ r c h' q' s' nd' L',L.rows[if fr=true then 0 else L.rows.length - 1]?=some r→Stg h1 h' q' s' nd' lb L'→Ex h q h' q'→L'.rows=del L.rows (if fr=true then 0 else L.rows.length - 1)→Row h' c (r.map bv)→h.size ≤ c→q'.role c=.out →
   R (.tuple #[.slice (some (ad c)) r.length r.length,.int .i64 0]) h'):CallTo Try.prog 22 #[.pointer (some (ad lb)),.bool fr] h R :=
 lpop x.x.o (fun e=>absurd e hne) fun r c h' q' s' nd' L' hr af _ er row hc ho=>hok r c h' q' s' nd' L' hr (x.aft af) af.ex er row hc ho
theorem tinsert (x:Stg h1 h q s nd lb L) (hr:∀ r ∈ L.rows,r.length ≤ 8 * 5) (hn:L.rows.length ≤ 310) {a:Sl} (sr:Src h q a b) (hb:b.length ≤ 8 * 5) {i:Nat} (hi:i ≤ L.rows.length)
  (hok:∀ h' q' s' nd' L',Stg h1 h' q' s' nd' lb L'→L'.rows=ins L.rows i b→Ex h q h' q'→R (.int .i64 0) h') :
  CallTo Try.prog 14 #[.pointer (some (ad lb)),.int .i64 (i:Int),.slice a.a a.n a.c] h R:=by
 have hz:2 + wordsN b.length ≤ 60:=by have:=wordsN_le b.length; omega
 have hrl:=x.x.rl
 refine linsert x.x.o sr (by omega) (by omega) ⟨by omega,by omega⟩ (fun hb=>absurd ⟨by omega,by omega,by omega,by omega⟩ hb) (fun _ hl=>absurd hl (by omega)) (fun _ _ h' q' s' nd' _ hno=>?_) fun h' q' s' nd' L' _ _ af er _=>hok h' q' s' nd' L' (x.aft af) er af.ex
 exact absurd (x.x.room.2 (big_room (k:=5) (by omega) hr (by omega) hz) _ x.x.lv) (hno _ x.x.lv)
theorem tset (x:Stg h1 h q s nd lb L) (hr:∀ r ∈ L.rows,r.length ≤ 8 * 5) (hn:L.rows.length ≤ 310) {a:Sl} (sr:Src h q a b) (hb:b.length ≤ 8 * 5) {i:Nat} (hi:i < L.rows.length)
  (hok:∀ h' q' s' nd' L',Stg h1 h' q' s' nd' lb L'→L'.rows=L.rows.set i b→Ex h q h' q'→R (.int .i64 0) h') :
  CallTo Try.prog 24 #[.pointer (some (ad lb)),.int .i64 (i:Int),.slice a.a a.n a.c] h R:=by
 have hz:2 + wordsN b.length ≤ 60:=by have:=wordsN_le b.length; omega
 refine lsetr x.x.o sr (by omega) ⟨by omega,by omega⟩ (fun hb=>absurd ⟨by omega,by omega,by omega,by omega⟩ hb) (fun _ hl=>absurd hl (by omega)) (fun _ _ h' q' s' _ hno=>?_) fun h' q' s' nd' L' _ _ af _ er _=>hok h' q' s' nd' L' (x.aft af) er af.ex
 exact absurd (x.x.room.2 (big_room (k:=5) (by omega) hr (by omega) hz) _ x.x.lv).1 (hno _ x.x.lv)
theorem tget (x:Stg h1 h q s nd lb L) {i:Nat} (hr:L.rows[i]?=some r) (hok:∀ c h',Row h' c (r.map bv)→h.size ≤ c→Kept N h h'→R (.tuple #[.slice (some (ad c)) r.length r.length,.int .i64 0]) h') :
  CallTo Try.prog 23 #[.pointer (some (ad lb)),.int .i64 (i:Int)] h R:=by
 have hi:=(List.getElem?_eq_some_iff.1 hr).1
 have hl:=x.x.o.len
 refine lgetr x.x.o ⟨by omega,by omega⟩ (fun hb=>absurd ⟨by omega,by omega,by omega,by omega⟩ hb) fun r' c h' _ hr' row hc k=>?_
 rw [Int.toNat_natCast,hr] at hr'
 obtain rfl:=Option.some.inj hr'
 exact hok c h' row hc k
theorem tcut (x:Stg h1 h q s nd lb L) {i m:Nat} (hi:i + m ≤ L.rows.length) (hok:∀ h' q' s' nd' L',Stg h1 h' q' s' nd' lb L'→L'.rows=L.rows.take i ++ L.rows.drop (i + m)→Ex h q h' q'→R (.int .i64 0) h') :
  CallTo Try.prog 19 #[.pointer (some (ad lb)),.int .i64 (i:Int),.int .i64 (m:Int)] h R:=by
 have hl:=x.x.o.len
 exact lcut x.x.o ⟨by omega,by omega⟩ (fun hb=>absurd ⟨by omega,by omega,by omega,by omega⟩ hb) fun h' q' s' nd' L' _ af _ er=>hok h' q' s' nd' L' (x.aft af) er af.ex
/-! ### Lists that are collected while the heap turns -/
theorem Sep.adopt (x:Sep h M) {y:Nat} (hy:M.loc y=none) {cells:List Value} (row:Row h c cells) (hc:¬ M.own c):Sep h (M.upd y (some c) cells):=by
 refine ⟨fun z d hz=>?_,fun z u d hz hu=>?_⟩
 ·by_cases e:z=y
  ·subst e; rw [Mem.loc_self] at hz; obtain rfl:=Option.some.inj hz; rw [Mem.cont_self]; exact row
  ·rw [Mem.loc_ne _ _ _ e] at hz; rw [Mem.cont_ne _ _ _ e]; exact x.row z d hz
 ·by_cases e:z=y <;> by_cases e2:u=y
  ·rw [e,e2]
  ·subst e; rw [Mem.loc_self] at hz; obtain rfl:=Option.some.inj hz; rw [Mem.loc_ne _ _ _ e2] at hu; exact absurd ⟨u,hu⟩ hc
  ·subst e2; rw [Mem.loc_self] at hu; obtain rfl:=Option.some.inj hu; rw [Mem.loc_ne _ _ _ e] at hz; exact absurd ⟨z,hz⟩ hc
  ·rw [Mem.loc_ne _ _ _ e] at hz; rw [Mem.loc_ne _ _ _ e2] at hu; exact x.inj z u d hz hu
theorem RowsAt.keep {S:Nat→Prop} (x:RowsAt h0 h a M cs rows) (k:Kept S h h') (hS:∀ b,M.own b→¬ S b):RowsAt h0 h' a M cs rows:=⟨x.sep.keep k hS,x.len,x.sl,x.el,x.no,x.new⟩
theorem RowsAt.ex (x:RowsAt h0 h a M cs rows) (ho:∀ b,M.own b→q.role b=.out) (e:Ex h q h' q'):RowsAt h0 h' a M cs rows∧∀ b,M.own b→q'.role b=.out :=
 ⟨x.keep e.kept fun b hb hn=>hn (ho b hb),fun b hb=>e.out (x.sep.own_lt hb) (ho b hb)⟩
theorem RowsAt.add2 (x:RowsAt h0 h a M cs rows) (hn:rows.length ≤ 3000000) (row:Row h c (r.map bv)) (hc:¬ M.own c) (h0c:h0.size ≤ c) (h0le:h0.size ≤ h.size) {t e:TypeId} {K:Option Addr→Nat→Nat→Hp→Prop}
  (hK:∀ a' c' h2 M',RowsAt h0 h2 ⟨a',a.n + 1,c'⟩ M' (cs ++ [c]) (rows ++ [r])→(∀ i,i < h0.size→h2[i]?=h[i]?)→Kept (fun b=>h0.size ≤ b∧(M.own b ∨ b=c)) h h2→(∀ b,M'.own b→M.own b ∨ b=c ∨ h.size ≤ b)→K a' (a.n + 1) c' h2) :
  Let (h.push (.cells #[.slice (some (ad c)) r.length r.length] t)) fun h2=>appSl e 1 24 #[.slice none 0 0] a.a a.n a.c (some (nb h)) 1 h2 K:=by
 have han:a.n=rows.length:=by have:=x.sl.len; rw [List.length_map,rowSls_len x.len] at this; omega
 have hno:=x.no cs.length (Nat.le_refl _)
 have p1:=x.sep.adopt hno row hc
 have sl1:IsSl 1 (M.upd (cs.length + 1) (some c) (r.map bv)) 0 a ((rowSls cs rows).map slV):=x.sl.other (by omega)
 have own0:∀ b,(M.upd (cs.length + 1) (some c) (r.map bv)).own b→M.own b ∨ b=c:=fun b ⟨y,hy⟩=>by
  by_cases e:y=cs.length + 1
  ·subst e; rw [Mem.loc_self] at hy; exact .inr (Option.some.inj hy).symm
  ·rw [Mem.loc_ne _ _ _ e] at hy; exact .inl ⟨y,hy⟩
 have own1:∀ b,(M.upd (cs.length + 1) (some c) (r.map bv)).own b→h0.size ≤ b:=fun b hb=>(own0 b hb).elim (x.new b) fun e=>e ▸ h0c
 refine sl1.app1 p1 rfl rfl (fun v hv=>by rw [List.mem_singleton.1 hv]; rfl) (by omega) (by omega) fun a' c' h2 ob cc p2 sl2 ch2=>?_
 have own2:∀ b,((M.upd (cs.length + 1) (some c) (r.map bv)).upd 0 ob cc).own b→M.own b ∨ b=c ∨ h.size ≤ b:=fun b hb=>by
  rcases ch2.2 b hb with z | z
  ·exact (own0 b z).imp_right .inl
  ·exact .inr (.inr z)
 refine hK a' c' h2 ((M.upd (cs.length + 1) (some c) (r.map bv)).upd 0 ob cc) ⟨p2,by simp [x.len],?_,fun k d u hd hu=>?_,fun k hk=>?_,fun b hb=>?_⟩ (fun i hi=>ch2.1.2 i (by omega) fun hb=>by have:=own1 i hb; omega) (ch2.1.mono fun b _ hb=>⟨own1 b hb,own0 b hb⟩) own2
 ·rw [rowSls_snoc x.len,List.map_append]; exact sl2
 ·rw [Mem.loc_ne _ _ _ (by omega),Mem.cont_ne _ _ _ (by omega)]
  by_cases e:k=cs.length
  ·subst e
   rw [List.getElem?_append_right (Nat.le_refl _),Nat.sub_self] at hd
   rw [x.len,List.getElem?_append_right (Nat.le_refl _),Nat.sub_self] at hu
   obtain rfl:c=d:=Option.some.inj hd
   obtain rfl:r=u:=Option.some.inj hu
   rw [Mem.loc_self,Mem.cont_self]; exact ⟨rfl,rfl⟩
  ·have hk:k < cs.length:=by have:=(List.getElem?_eq_some_iff.1 hd).1; simp at this; omega
   rw [List.getElem?_append_left hk] at hd
   rw [List.getElem?_append_left (by rw [← x.len]; exact hk)] at hu
   rw [Mem.loc_ne _ _ _ (by omega),Mem.cont_ne _ _ _ (by omega)]
   exact x.el k d u hd hu
 ·simp at hk
  rw [Mem.loc_ne _ _ _ (by omega),Mem.loc_ne _ _ _ (by omega)]
  exact x.no k (by omega)
 ·rcases own2 b hb with z | z | z
  ·exact x.new b z
  ·exact z ▸ h0c
  ·omega
end
end Go.Ev
set_option linter.all false
set_option maxRecDepth 100000
namespace Go.Proofs.Ytngcoodbepbhbaa
open Go.ChangeShapes Go.WideShapes Go.ChangeAt Go.RowKit
open Go.Ev (Reads ReadsO uv bv slV I64 Sl RL0 Bt)
theorem own:ownKnob Try.prog.godebug=none:=by kernel_rfl
theorem c3:Try.prog.cellsOf 3=1:=by kernel_rfl
theorem c5:Try.prog.cellsOf 5=1:=by kernel_rfl
theorem c4:Try.prog.cellsOf 4=1:=by kernel_rfl
theorem c22:Try.prog.cellsOf 22=1:=by kernel_rfl
theorem c23:Try.prog.cellsOf 23=1:=by kernel_rfl
theorem c25:Try.prog.cellsOf 25=5:=by kernel_rfl
theorem b3:Try.prog.bytesOf 3=8:=by kernel_rfl
theorem b5:Try.prog.bytesOf 5=1:=by kernel_rfl
theorem kids:Kids Try.prog (· < Try.prog.types.size):=kids_rows (by kernel_rfl) (by kernel_rfl)
theorem slices_some:∀ t e,t < Try.prog.types.size→Try.prog.underlying t=some (.slice e)→0 < Try.prog.cellsOf e:=by
 have h:(List.range Try.prog.types.size).all (fun t=>match Try.prog.underlying t with | some (.slice e)=>decide (0 < Try.prog.cellsOf e) | _=>true)=true:=by kernel_rfl
 intro t e ht hu
 have:=List.all_eq_true.1 h t (List.mem_range.2 ht)
 rw [hu] at this
 exact of_decide_eq_true this
section
variable {H:Type} {enc:TypeId × Value→H} {W:World}
theorem weightsAll_mem {P:Program} {e:TypeId}:∀ {ds:List (DataW H)} {d:DataW H},d ∈ ds→∀ n ∈ d.weights P e,n ∈ DataW.weightsAll P e ds
 | d0 :: ds,d,hd,n,hn=>by
  rw [DataW.weightsAll,List.mem_append]
  rcases List.mem_cons.1 hd with rfl | hd
  ·exact .inl hn
  ·exact .inr (weightsAll_mem hd n hn)
theorem i64_of {n:Int} (h:(Lit.int .i64 n).wf=true):I64 n:=by
 have:=bounds_i64 h
 exact ⟨this.1,by omega⟩
theorem bytes_of {n:Nat} {v:Value} {x:DataW H × List MemPlace} (h:DataW.trod enc Try.prog W 0 (fun _=>true) true n 23 [v]=some x) (hw:∀ m ∈ x.1.weights Try.prog 23,m ≤ reachBytes) :
  ∃ (d:Sl) (l:List Nat),v=slV d∧ReadsO W.heap d.a (l.map bv)∧d.n=l.length∧(∀ c ∈ l,c < 256)∧l.length < 140737488355328∧(∀ p,d.a=some p→l ≠ []→p.block < W.heap.size)∧d.n ≤ d.c:=by
 rcases open_ints Try.underlying23 Try.underlying5 c5 h with ⟨hcs,_⟩ | ⟨a,len,cap,zs,hcs,_,hl,_,hz,hx,hcell,hwz⟩
 ·refine ⟨⟨none,0,0⟩,[],?_,rfl,rfl,by simp,by decide,nofun,Nat.le_refl _⟩
  exact (List.cons.inj hcs).1
 ·simp only [if_true] at hz
  have hw1:=hw ((len + (cap - len)) * Try.prog.bytesOf 5) (by
   rw [hx]
   have e1:((lits (H:=H) .u8 (zs.take len)).length)=len:=by simp [lits]; omega
   have e2:((lits (H:=H) .u8 (zs.drop len)).length)=cap - len:=by simp [lits]; omega
   simp only [DataW.weights,Try.underlying23,List.mem_cons]
   exact .inl (by rw [e1,e2]))
  rw [b5] at hw1
  have hr:=reachBytes_lt
  have wz:∀ i,i < zs.length→0 ≤ zs.getD i 0∧zs.getD i 0 ≤ 255:=fun i hi=>by
   rw [List.getD_eq_getElem?_getD,List.getElem?_eq_getElem hi]
   exact bounds_u8 (hwz _ (List.getElem_mem hi))
  have ll:((zs.take len).map Int.toNat).length=len:=by rw [List.length_map,List.length_take]; omega
  have rd:∀ i,i < len→Go.Ev.cell W.heap (a.add i)=some (bv ((zs.take len).map Int.toNat)[i]!):=fun i hi=>by
   have h1:Go.Ev.cell W.heap (a.add i)=some (.int .u8 (zs.getD i 0)):=hcell i (by omega)
   have h2:=wz i (by omega)
   have e:((zs.take len).map Int.toNat)[i]! = (zs.getD i 0).toNat:=by
    rw [List.getElem!_eq_getElem?_getD,List.getElem?_map,List.getElem?_take,if_pos hi,List.getElem?_eq_getElem (by omega),List.getD_eq_getElem?_getD,List.getElem?_eq_getElem (by omega)]
    rfl
   rw [h1,e]
   unfold bv
   rw [Int.toNat_of_nonneg h2.1]
  refine ⟨⟨some a,len,cap⟩,(zs.take len).map Int.toNat,?_,?_,ll.symm,?_,by omega,?_,by show len ≤ cap; omega⟩
  ·simpa [slV] using hcs
  ·intro j u hj
   rw [List.getElem?_map] at hj
   obtain ⟨z,hz1,rfl⟩:=Option.map_eq_some_iff.1 hj
   have hjl:j < len:=by have:=(List.getElem?_eq_some_iff.1 hz1).1; rw [ll] at this; exact this
   rw [rd j hjl,List.getElem!_eq_getElem?_getD,hz1]
   rfl
  ·intro c hc
   obtain ⟨z,hz1,rfl⟩:=List.mem_map.1 hc
   have:=bounds_u8 (hwz z (List.mem_of_mem_take hz1))
   omega
  ·intro p hp hne
   obtain rfl:=Option.some.inj hp
   have h0:0 < len:=Nat.pos_of_ne_zero fun e=>hne (List.length_eq_zero_iff.1 (ll.trans e))
   have h1:=rd 0 h0
   unfold Go.Ev.cell at h1
   have eb:(a.add 0).block=a.block:=rfl
   rw [eb] at h1
   exact Nat.lt_of_not_le fun hl=>by
    rw [Array.getElem?_eq_none hl] at h1
    cases h1
/-- A list of bytes that is handed in. -/
def BytesP (h:Go.Ev.Hp) (d:Sl) (l:List Nat):Prop:=ReadsO h d.a (l.map bv)∧d.n=l.length∧(∀ c ∈ l,c < 256)∧l.length < 140737488355328∧(∀ p,d.a=some p→l ≠ []→p.block < h.size)∧d.n ≤ d.c
theorem block_lt {p:Addr} {v:Value} (h:Go.Ev.cell W.heap p=some v):p.block < W.heap.size:=by
 unfold Go.Ev.cell at h
 exact Nat.lt_of_not_le fun hl=>by
  rw [Array.getElem?_eq_none hl] at h
  cases h
theorem lists_of {n:Nat} {v:Value} {x:DataW H × List MemPlace} (h:DataW.trod enc Try.prog W 0 (fun _=>true) true n 22 [v]=some x) (hw:∀ m ∈ x.1.weights Try.prog 22,m ≤ reachBytes) :
  ∃ (pa:Sl) (sls:List Sl) (parts:List (List Nat)),v=slV pa∧RL0 W.heap pa sls parts:=by
 rcases DataW.trod_slice Try.underlying22 h with ⟨hc,rfl⟩ | ⟨a,len,cap,elems,rest,k,_,hc,rfl,_,_,_,hlen,hel3,_,_⟩
 ·exact ⟨⟨none,0,0⟩,[],[],(List.cons.inj hc).1,⟨rfl,rfl,rfl,(fun i c p hc=>by cases hc),nofun⟩⟩
 ·rw [c23] at hel3
  have each:∀ i,i < len→∃ y:Sl × List Nat,Go.Ev.cell W.heap (a.add (i * 1))=some (slV y.1)∧BytesP W.heap y.1 y.2:=fun i hi=>by
   have h1:=hel3 i hi
   have hi2:i < elems.length:=by omega
   rw [List.getElem?_eq_getElem hi2] at h1
   obtain ⟨cs1,hc1,hd⟩:=Option.bind_eq_some_iff.1 h1
   obtain ⟨_,hcl,hcc⟩:=World.cells?_some hc1
   match cs1,hcl with
   | [v1],_ =>
    obtain ⟨d1,l1,e1,b1⟩:=bytes_of hd (fun m hm=>hw m (by
     simp only [DataW.weights,Try.underlying22,List.mem_cons,List.mem_append]
     exact .inr (.inl (weightsAll_mem (List.mem_map.2 ⟨_,List.getElem_mem hi2,rfl⟩) m hm))))
    have h3:Go.Ev.cell W.heap ((a.add (i * 1)).add 0)=[v1][0]?:=hcc 0 (by omega)
    refine ⟨⟨d1,l1⟩,?_,b1⟩
    rw [Go.Ev.add_add,Nat.add_zero] at h3
    rw [h3,e1]
    rfl
  obtain ⟨f,hf⟩:∃ f:Nat→Sl × List Nat,∀ i,i < len→Go.Ev.cell W.heap (a.add (i * 1))=some (slV (f i).1)∧BytesP W.heap (f i).1 (f i).2 :=
   ⟨fun i=>if hi:i < len then (each i hi).choose else ⟨⟨none,0,0⟩,[]⟩,fun i hi=>by dsimp only; rw [dif_pos hi]; exact (each i hi).choose_spec⟩
  refine ⟨⟨some a,len,cap⟩,(List.range len).map fun i=>(f i).1,(List.range len).map fun i=>(f i).2,(List.cons.inj hc).1,⟨fun j v hj=>?_,by simp,by simp,fun i c p hc' hp=>?_,fun p hp hn=>?_⟩⟩
  ·rw [List.map_map,List.getElem?_map] at hj
   obtain ⟨i,hi,rfl⟩:=Option.map_eq_some_iff.1 hj
   have hjl:j < len:=by have:=(List.getElem?_eq_some_iff.1 hi).1; simpa using this
   rw [List.getElem?_range hjl] at hi
   obtain rfl:=Option.some.inj hi
   have:=(hf j hjl).1
   rw [Nat.mul_one] at this
   exact this
  ·have hi:i < len:=by have:=(List.getElem?_eq_some_iff.1 hp).1; simpa using this
   rw [List.getElem?_map,List.getElem?_range hi] at hc' hp
   obtain rfl:=Option.some.inj hc'
   obtain rfl:=Option.some.inj hp
   obtain ⟨_,b⟩:=hf i hi
   exact ⟨b.1,b.2.1,b.2.2.1,b.2.2.2.2.2,b.2.2.2.1,b.2.2.2.2.1⟩
  ·obtain rfl:=Option.some.inj hp
   have h0:0 < len:=Nat.pos_of_ne_zero fun e=>hn (by rw [e]; rfl)
   exact block_lt (hf 0 h0).1
theorem turn_of {n:Nat} {cs:List Value} {x:DataW H × List MemPlace} (h:DataW.trod enc Try.prog W 0 (fun _=>true) true n 25 cs=some x) (hw:∀ m ∈ x.1.weights Try.prog 25,m ≤ reachBytes) :
  ∃ (sA sB:Sl) (sls:List Sl) (rows:List (List Nat)) (i k:Int) (b:List Nat) (fr:Bool),cs=[.slice sA.a sA.n sA.c,.int .i64 i,.int .i64 k,.slice sB.a sB.n sB.c,.bool fr]∧RL0 W.heap sA sls rows∧Bt W.heap sB b∧I64 i∧I64 k:=by
 obtain ⟨xs,n,_,rfl,hl,hn,hel⟩:=DataW.trod_struct Try.underlying25 h
 rw [c25] at hl
 have e0:DataW.trod enc Try.prog W 0 (fun _=>true) true n 22 ((cs.drop 0).take (Try.prog.cellsOf 22))=xs[0]?:=hel 0 _ rfl
 have e1:DataW.trod enc Try.prog W 0 (fun _=>true) true n 3 ((cs.drop 1).take (Try.prog.cellsOf 3))=xs[1]?:=hel 1 _ rfl
 have e2:DataW.trod enc Try.prog W 0 (fun _=>true) true n 3 ((cs.drop 2).take (Try.prog.cellsOf 3))=xs[2]?:=hel 2 _ rfl
 have e3:DataW.trod enc Try.prog W 0 (fun _=>true) true n 23 ((cs.drop 3).take (Try.prog.cellsOf 23))=xs[3]?:=hel 3 _ rfl
 have e4:DataW.trod enc Try.prog W 0 (fun _=>true) true n 4 ((cs.drop 4).take (Try.prog.cellsOf 4))=xs[4]?:=hel 4 _ rfl
 rw [c22] at e0
 rw [c3] at e1 e2
 rw [c23] at e3
 rw [c4] at e4
 match xs,hn with
 | [x0,x1,x2,x3,x4],_ =>
  match cs,hl with
  | [v0,v1,v2,v3,v4],_ =>
   obtain ⟨n1,a1,_,w1⟩:=DataW.trod_int Try.underlying3 (show DataW.trod enc Try.prog W 0 (fun _=>true) true n 3 [v1]=some x1 from e1)
   obtain ⟨n2,a2,_,w2⟩:=DataW.trod_int Try.underlying3 (show DataW.trod enc Try.prog W 0 (fun _=>true) true n 3 [v2]=some x2 from e2)
   obtain ⟨n4,a4,_⟩:=DataW.trod_bool Try.underlying4 (show DataW.trod enc Try.prog W 0 (fun _=>true) true n 4 [v4]=some x4 from e4)
   obtain ⟨d0,l0,p0,q0,r0⟩:=lists_of (show DataW.trod enc Try.prog W 0 (fun _=>true) true n 22 [v0]=some x0 from e0) (fun m hm=>hw m (by
    simp only [DataW.weights,Try.underlying25]
    exact DataW.weights_mem_each (j:=0) (t:=22) rfl rfl m hm))
   obtain ⟨d3,l3,q3,r3⟩:=bytes_of (show DataW.trod enc Try.prog W 0 (fun _=>true) true n 23 [v3]=some x3 from e3) (fun m hm=>hw m (by
    simp only [DataW.weights,Try.underlying25]
    exact DataW.weights_mem_each (j:=3) (t:=23) rfl rfl m hm))
   simp only [List.cons.injEq,and_true] at a1 a2 a4
   refine ⟨d0,d3,l0,p0,n1,n2,l3,n4,?_,r0,⟨r3.1,r3.2.1,r3.2.2.2.2.2,r3.2.2.1,r3.2.2.2.1,r3.2.2.2.2.1⟩,i64_of w1,i64_of w2⟩
   rw [q0,a1,a2,q3,a4]
   rfl
theorem kept_all {W W':World} (hs:Go.Ev.Same W W') (hk:Go.Ev.Kept Go.Ev.N W.heap W'.heap) (may:MemPlace→Prop):W.keptBut W' may:=by
 refine ⟨hs.1,hs.2.2,fun i hi=>?_⟩
 rw [hk.2 i hi id]
 cases h:W.heap[i]? with
 | none=>rfl
 | some o =>
  cases o <;> first | exact rfl | exact ⟨rfl,rfl,rfl,fun _ _=>rfl⟩ | exact .inr ⟨rfl,rfl⟩
theorem same_all {W W':World} (hk:Go.Ev.Kept Go.Ev.N W.heap W'.heap) {p:MemPlace} (hp:p.block < W.heap.size):W.sameAt W' p:=by
 cases p with
 | cell b off =>
  show Go.Ev.cell W'.heap ⟨b,off,none⟩=Go.Ev.cell W.heap ⟨b,off,none⟩
  unfold Go.Ev.cell
  rw [hk.2 b hp id]
 | map b=>exact hk.2 b hp id
end
end Go.Proofs.Ytngcoodbepbhbaa
