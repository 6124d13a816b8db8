/- Printed by a program (own work) out of the loaded functions: what each says of the heap, and that the evaluator says the same / The outright statements' helpers: into, at, made, waste, Eq / The blob statements' arguments, out of the datum that is read. No condition but that these are ones. -/
import Derived.Test.YtdkopnbjommjdaaGreatQ4
import Derived.Test.YtdkopnbjommjdaaGreatQ16
import Derived.Test.YtdkopnbjommjdaaGreatQ17
import Derived.ProofKit
import Derived.SizedLaws
import Derived.LaidMore
import Derived.OpenShut
set_option linter.all false
set_option maxRecDepth 100000
namespace Go.Ev
open Go.Proofs
/- larder/larderref0.Eq -/
noncomputable def body52:Code:=(Tryz.f52.body).getD .skip
def lv52 (m:Nat):List Nat:=[]
def f52F (a0:Sl) (a1:Sl) (h:Hp) (R:Value→Hp→Prop):Prop :=
 CallTo Tryz.prog 58 #[.slice a0.a a0.n a0.c,.slice a1.a a1.n a1.c] h fun r h1=>∃ t7:Int,r=.int .i64 t7∧R ((.bool (t7 == (0:Int)):Value)) h1
theorem f52F_eq (a0:Sl) (a1:Sl) (h:Hp) (R:Value→Hp→Prop):evF Tryz.prog tab lv52 Tryz.f52 body52 [] [.slice a0.a a0.n a0.c,.slice a1.a a1.n a1.c] h R=f52F a0 a1 h R:=by kernel_rfl
theorem f52F_ok {a0:Sl} {a1:Sl} {h:Hp} {R:Value→Hp→Prop} (hF:f52F a0 a1 h R):CallTo Tryz.prog 52 #[.slice a0.a a0.n a0.c,.slice a1.a a1.n a1.c] h R :=
 callTo_of_ev (lv:=lv52) (hints:=[]) (c:=body52) (args:=[.slice a0.a a0.n a0.c,.slice a1.a a1.n a1.c]) mixed tab_ok Tryz.func52 (by kernel_rfl) (by kernel_rfl) (by rw [f52F_eq]; exact hF)
/- larder/larderref0.Cmp -/
noncomputable def body58:Code:=(Tryz.f58.body).getD .skip
def lv58 (m:Nat):List Nat:=if m=2 then [0,1,5] else []
def f58I1 (J:Nat→Sl→Sl→Int→Hp→Prop) (n:Nat) (env:List Value) (h:Hp):Prop:=lenIs env 46 (DecL env 0 fun s0=>DecL env 1 fun s1=>DecI .i64 env 5 fun s5=>J n s0 s1 s5 h)
def f58K1 (J1:Nat→Sl→Sl→Int→Hp→Prop) (n1:Nat) (x0:Sl) (x1:Sl) (x5:Int) (x15:Bool) (h:Hp) (R:Value→Hp→Prop):Prop :=
 Cond x15 ((0 ≤ x5∧x5 < ((x0.n:Nat):Int))∧PtrOk x0.a fun p20=>∃ t21:Int,cell h (p20.add (x5.toNat * 1))=some (.int .u8 t21)∧(0 ≤ x5∧x5 < ((x1.n:Nat):Int))∧PtrOk x1.a fun p24=>∃ t25:Int,cell h (p24.add (x5.toNat * 1))=some (.int .u8 t25)∧Cond (decide (t21 < t25)) (R ((.int .i64 (-1):Value)) h) ((0 ≤ x5∧x5 < ((x0.n:Nat):Int))∧PtrOk x0.a fun p29=>∃ t30:Int,cell h (p29.add (x5.toNat * 1))=some (.int .u8 t30)∧(0 ≤ x5∧x5 < ((x1.n:Nat):Int))∧PtrOk x1.a fun p33=>∃ t34:Int,cell h (p33.add (x5.toNat * 1))=some (.int .u8 t34)∧Cond (decide (t30 > t34)) (R (.int .i64 1:Value) h) (∃ m,m < n1∧J1 m x0 x1 (IntKind.wrap .i64 (x5 + (1:Int))) h))) (Cond (decide ((((x0.n:Nat):Int)) < (((x1.n:Nat):Int)))) (R ((.int .i64 (-1):Value)) h) (Cond (decide ((((x0.n:Nat):Int)) > (((x1.n:Nat):Int)))) (R (.int .i64 1:Value) h) (R (.int .i64 0:Value) h)))
def f58L1 (J1:Nat→Sl→Sl→Int→Hp→Prop) (n1:Nat) (s0:Sl) (s1:Sl) (s5:Int) (g:Nat→Value) (h:Hp) (R:Value→Hp→Prop):Prop :=
 Cond (decide (s5 < (((s0.n:Nat):Int)))) (f58K1 J1 n1 s0 s1 s5 (decide (s5 < (((s1.n:Nat):Int)))) h R) (f58K1 J1 n1 s0 s1 s5 false h R)
theorem f58L1_eq (J1:Nat→Sl→Sl→Int→Hp→Prop) (n1:Nat) (s0:Sl) (s1:Sl) (s5:Int) (g:Nat→Value) (h:Hp) (R:Value→Hp→Prop):(evC Tryz.prog tab lv58 (sub [1,0,1,0,0] body58)) (loopK (f58I1 J1) n1 (contAt Tryz.prog tab lv58 [1,0,1,0] body58 [] (bodyK Tryz.prog Tryz.f58 [] R))) (mkEnv 46 [(0,.slice s0.a s0.n s0.c),(1,.slice s1.a s1.n s1.c),(5,.int .i64 s5)] g) h=f58L1 J1 n1 s0 s1 s5 g h R:=by kernel_rfl
theorem f58I1_at (J:Nat→Sl→Sl→Int→Hp→Prop) (n:Nat) (s0:Sl) (s1:Sl) (s5:Int) (g:Nat→Value) (h:Hp):f58I1 J n (mkEnv 46 [(0,.slice s0.a s0.n s0.c),(1,.slice s1.a s1.n s1.c),(5,.int .i64 s5)] g) h=J n s0 s1 s5 h:=by kernel_rfl
theorem f58L1_rule  {R:Value→Hp→Prop} {s0:Sl} {s1:Sl} {s5:Int} {h0:Hp} (J:Nat→Sl→Sl→Int→Hp→Prop) (n0:Nat) (hi:J n0 s0 s1 s5 h0)
  (hr:∀ n s0 s1 s5 g h,J n s0 s1 s5 h→f58L1  J n s0 s1 s5 g h R):LoopEv (evC Tryz.prog tab lv58 (sub [1,0,1,0,0] body58)) (contAt Tryz.prog tab lv58 [1,0,1,0] body58 [] (bodyK Tryz.prog Tryz.f58 [] R)) [(0,.slice s0.a s0.n s0.c),(1,.slice s1.a s1.n s1.c),(5,.int .i64 s5)] 46 h0:=by
 refine ⟨f58I1 J,n0,fun g=>by rw [f58I1_at]; exact hi,fun n env h hI=>?_⟩
 clear hi
 clear s0 s1 s5
 obtain ⟨hlen,hI⟩:=Cond_true' hI
 have hlen:env.length=46:=by simpa using hlen
 obtain ⟨s0,es0,hI⟩:=DecL.out hI
 obtain ⟨s1,es1,hI⟩:=DecL.out hI
 obtain ⟨s5,es5,hI⟩:=DecI.out hI
 rw [mkEnv_of (l:=[(0,.slice s0.a s0.n s0.c),(1,.slice s1.a s1.n s1.c),(5,.int .i64 s5)]) hlen (by simp only [List.mem_cons,List.not_mem_nil,or_false,forall_eq_or_imp,forall_eq]; exact ⟨es0,es1,es5⟩)]
 rw [f58L1_eq]
 exact hr n s0 s1 s5 _ h hI
def f58F (a0:Sl) (a1:Sl) (h:Hp) (R:Value→Hp→Prop):Prop :=
 LoopEv (evC Tryz.prog tab lv58 (sub [1,0,1,0,0] body58)) (contAt Tryz.prog tab lv58 [1,0,1,0] body58 [] (bodyK Tryz.prog Tryz.f58 [] R)) [(0,.slice a0.a a0.n a0.c),(1,.slice a1.a a1.n a1.c),(5,.int .i64 0)] 46 h
theorem f58F_eq (a0:Sl) (a1:Sl) (h:Hp) (R:Value→Hp→Prop):evF Tryz.prog tab lv58 Tryz.f58 body58 [] [.slice a0.a a0.n a0.c,.slice a1.a a1.n a1.c] h R=f58F a0 a1 h R:=by kernel_rfl
theorem f58F_ok {a0:Sl} {a1:Sl} {h:Hp} {R:Value→Hp→Prop} (hF:f58F a0 a1 h R):CallTo Tryz.prog 58 #[.slice a0.a a0.n a0.c,.slice a1.a a1.n a1.c] h R :=
 callTo_of_ev (lv:=lv58) (hints:=[]) (c:=body58) (args:=[.slice a0.a a0.n a0.c,.slice a1.a a1.n a1.c]) mixed tab_ok Tryz.func58 (by kernel_rfl) (by kernel_rfl) (by rw [f58F_eq]; exact hF)
/- larder/larderref0.Copy -/
noncomputable def body71:Code:=(Tryz.f71.body).getD .skip
def lv71 (m:Nat):List Nat:=[]
def f71F (a0:Sl) (h:Hp) (R:Value→Hp→Prop):Prop :=
 (0 ≤ (((a0.n:Nat):Int))∧(((a0.n:Nat):Int)) ≤ (((a0.n:Nat):Int)))∧(((a0.n:Nat):Int)) < 2 ^ 62∧(1:Nat) * (((a0.n:Nat):Int)) ≤ 2 ^ 48∧Let (h.push (.cells (zrow #[.int .u8 0] ((((a0.n:Nat):Int)).toNat * 1)) 5)) fun h1=>cpySl 1 (some (nb h)) ((((a0.n:Nat):Int)).toNat) a0.a a0.n h1 fun rk h2=>R ((.slice (some (nb h)) ((((a0.n:Nat):Int)).toNat) ((((a0.n:Nat):Int)).toNat):Value)) h2
theorem f71F_eq (a0:Sl) (h:Hp) (R:Value→Hp→Prop):evF Tryz.prog tab lv71 Tryz.f71 body71 [] [.slice a0.a a0.n a0.c] h R=f71F a0 h R:=by kernel_rfl
theorem f71F_ok {a0:Sl} {h:Hp} {R:Value→Hp→Prop} (hF:f71F a0 h R):CallTo Tryz.prog 71 #[.slice a0.a a0.n a0.c] h R :=
 callTo_of_ev (lv:=lv71) (hints:=[]) (c:=body71) (args:=[.slice a0.a a0.n a0.c]) mixed tab_ok Tryz.func71 (by kernel_rfl) (by kernel_rfl) (by rw [f71F_eq]; exact hF)
end Go.Ev
set_option linter.all false
set_option maxRecDepth 1000000
namespace Go.Ev
open Go.Proofs
def I64 (n:Int):Prop:=-9223372036854775808 ≤ n∧n < 9223372036854775808
section
variable {h h' h2:Hp} {q q' q2:HQ} {s s':RS} {nd:List NodeD} {b t:List Nat} {id:Nat} {R:Value→Hp→Prop}
theorem num_ok {n:Int} (hR:R (.int .i64 n) h):CallTo Tryz.prog 17 #[.int .i64 n] h R:=by
 refine f17F_ok ?_
 unfold f17F
 exact hR
theorem into_ok {a:Int} {n:Nat} (hn:0 < n) (hn2:n < 100000000) (ha:I64 a) (hR:R (.int .i64 (a % (n:Int))) h):CallTo Tryz.prog 15 #[.int .i64 a,.int .i64 (n:Int)] h R:=by
 refine f15F_ok ?_
 unfold f15F
 have m1:=Int.emod_nonneg a (b:=(n:Int)) (by omega)
 have m2:=Int.emod_lt_of_pos a (b:=(n:Int)) (by omega)
 refine ⟨by omega,Cond_dec (fun hneg=>?_) fun hpos=>?_⟩
 ·have e:Int.tmod a (n:Int) + (n:Int)=a % (n:Int):=by
   have h1:=Int.tmod_eq_emod (a:=a) (b:=(n:Int))
   split at h1
   ·omega
   ·omega
  rw [wrap_i64' (by omega) (by omega),e]
  exact hR
 ·have e:Int.tmod a (n:Int)=a % (n:Int):=by
   have h1:=Int.tmod_eq_emod (a:=a) (b:=(n:Int))
   split at h1
   ·omega
   ·omega
  rw [e]
  exact hR
theorem cmp_ok {a c:Sl} {l:List Nat} (ha:ReadsO h a.a (l.map bv)) (hb:ReadsO h c.a (l.map bv)) (na:a.n=l.length) (nb:c.n=l.length) (hn:l.length < 9223372036854775807) (hR:R (.int .i64 0) h) :
  CallTo Tryz.prog 58 #[.slice a.a a.n a.c,.slice c.a c.n c.c] h R:=by
 refine f58F_ok ?_
 unfold f58F
 refine f58L1_rule (s0:=a) (s1:=c) (fun q s0 s1 s5 h'=>∃ i:Nat,i ≤ l.length∧q=l.length - i∧a=s0∧c=s1∧s5=(i:Int)∧h=h') l.length ⟨0,Nat.zero_le _,rfl,rfl,rfl,rfl,rfl⟩ ?_
 rintro q s0 s1 s5 g0 h2 ⟨i,hi,rfl,rfl,rfl,rfl,rfl⟩
 have hend:∀ J,¬ i < l.length→f58K1 J (l.length - i) a c (i:Int) false h R:=fun J _=>by
  unfold f58K1
  refine Cond_f rfl (Cond_f (by rw [na,nb]; simp) (Cond_f (by rw [na,nb]; simp) hR))
 unfold f58L1
 refine Cond_dec (fun hlt=>?_) (fun hlt=>hend _ (by rw [na] at hlt; omega))
 have hil:i < l.length:=by rw [na] at hlt; omega
 have e0:(l.map bv)[i]?=some (bv l[i]):=by rw [List.getElem?_map,List.getElem?_eq_getElem hil]; rfl
 obtain ⟨p,hp,cp⟩:=readsO_get ha e0
 obtain ⟨p',hp',cp'⟩:=readsO_get hb e0
 unfold f58K1
 refine Cond_t (by rw [nb]; exact decide_eq_true (by omega)) ?_
 refine ⟨⟨by omega,hlt⟩,PtrOk_mk' hp ⟨_,by rw [Int.toNat_natCast,Nat.mul_one]; exact cp,⟨by omega,by rw [nb]; omega⟩,PtrOk_mk' hp' ⟨_,by rw [Int.toNat_natCast,Nat.mul_one]; exact cp',Cond_f (by simp) ?_⟩⟩⟩
 refine ⟨⟨by omega,hlt⟩,PtrOk_mk' hp ⟨_,by rw [Int.toNat_natCast,Nat.mul_one]; exact cp,⟨by omega,by rw [nb]; omega⟩,PtrOk_mk' hp' ⟨_,by rw [Int.toNat_natCast,Nat.mul_one]; exact cp',Cond_f (by simp) ?_⟩⟩⟩
 refine ⟨l.length - (i + 1),by omega,i + 1,hil,rfl,rfl,rfl,?_,rfl⟩
 rw [wrap_i64' (by omega) (by omega)]; rfl
theorem eq_ok {a c:Sl} {l:List Nat} (ha:ReadsO h a.a (l.map bv)) (hb:ReadsO h c.a (l.map bv)) (na:a.n=l.length) (nb:c.n=l.length) (hn:l.length < 9223372036854775807) (hR:R (.bool true) h) :
  CallTo Tryz.prog 52 #[.slice a.a a.n a.c,.slice c.a c.n c.c] h R:=by
 refine f52F_ok ?_
 unfold f52F
 exact cmp_ok ha hb na nb hn ⟨_,rfl,hR⟩
/-- The graph only grows. -/
def Gr (nd nd':List NodeD):Prop:=∀ (i:Nat) (n:NodeD),nd[i]?=some n→nd'[i]?=some n
theorem Gr.refl (nd:List NodeD):Gr nd nd:=fun _ _ h=>h
theorem Gr.trans {a b c:List NodeD} (x:Gr a b) (y:Gr b c):Gr a c:=fun i n h=>y i n (x i n h)
theorem Gr.app (nd l:List NodeD):Gr nd (nd ++ l):=fun i n h=>by rw [List.getElem?_append_left (List.getElem?_eq_some_iff.1 h).1]; exact h
/-- Something comes or goes that no handle holds. -/
structure Idle (s:RS) (nd:List NodeD) (s':RS) (nd':List NodeD):Prop where
 sh:s'.Shd nd'
 gr:Gr nd nd'
 rt:s'.roots=s.roots
 lm:s'.limit=s.limit
theorem Idle.refl (sh:s.Shd nd):Idle s nd s nd:=⟨sh,Gr.refl _,rfl,rfl⟩
theorem Idle.trans {s2:RS} {nd' nd2:List NodeD} (a:Idle s nd s' nd') (b:Idle s' nd' s2 nd2):Idle s nd s2 nd2:=⟨b.sh,a.gr.trans b.gr,b.rt.trans a.rt,b.lm.trans a.lm⟩
theorem Idle.collect (v:s.Inv) (sh:s.Shd nd):Idle s nd s.collect nd:=⟨sh.sub (RS.Sub.collect v),Gr.refl _,(RS.Sub.collect v).roots,RS.collect_lim⟩
theorem Idle.alloc (v:s.Inv) (sh:s.Shd nd) (k r w:Int):∃ nd',Idle s nd (s.alloc k r w).1 nd':=by
 have lm:=RS.alloc_lim (s:=s) k r w
 rcases RS.alloc_cases v k r w with ⟨_,e⟩ | ⟨_,t,st,vt,e | ⟨t',ref,e,n⟩⟩
 ·rw [e]; exact ⟨nd,Idle.refl sh⟩
 ·rw [e] at lm ⊢; exact ⟨nd,sh.sub st,Gr.refl _,st.roots,lm⟩
 ·rw [e] at lm ⊢; exact ⟨_,n.shd vt (sh.sub st),Gr.app _ _,n.roots.trans st.roots,lm⟩
end
end Go.Ev
set_option linter.all false
set_option maxRecDepth 100000
namespace Go.Proofs.YtdkopnbjommjdaaGreat
open Go.ChangeShapes Go.WideShapes Go.ChangeAt Go.RowKit
open Go.Ev (Reads ReadsO uv bv iv slV I64 Sl)
theorem own:ownKnob Tryz.prog.godebug=none:=by kernel_rfl
theorem c3:Tryz.prog.cellsOf 3=1:=by kernel_rfl
theorem c5:Tryz.prog.cellsOf 5=1:=by kernel_rfl
theorem c33:Tryz.prog.cellsOf 33=1:=by kernel_rfl
theorem b3:Tryz.prog.bytesOf 3=8:=by kernel_rfl
theorem b5:Tryz.prog.bytesOf 5=1:=by kernel_rfl
theorem kids:Kids Tryz.prog (· < Tryz.prog.types.size):=kids_rows (by kernel_rfl) (by kernel_rfl)
theorem slices_some:∀ t e,t < Tryz.prog.types.size→Tryz.prog.underlying t=some (.slice e)→0 < Tryz.prog.cellsOf e:=by
 have h:(List.range Tryz.prog.types.size).all (fun t=>match Tryz.prog.underlying t with | some (.slice e)=>decide (0 < Tryz.prog.cellsOf e) | _=>true)=true:=by kernel_rfl
 intro t e ht hu
 have:=List.all_eq_true.1 h t (List.mem_range.2 ht)
 rw [hu] at this
 exact of_decide_eq_true this
section
variable {H:Type} {enc:TypeId × Value→H} {W:World}
theorem weightsAll_mem {P:Program} {e:TypeId}:∀ {ds:List (DataW H)} {d:DataW H},d ∈ ds→∀ n ∈ d.weights P e,n ∈ DataW.weightsAll P e ds
 | d0 :: ds,d,hd,n,hn=>by
  rw [DataW.weightsAll,List.mem_append]
  rcases List.mem_cons.1 hd with rfl | hd
  ·exact .inl hn
  ·exact .inr (weightsAll_mem hd n hn)
theorem i64_of {n:Int} (h:(Lit.int .i64 n).wf=true):I64 n:=by
 have:=bounds_i64 h
 exact ⟨this.1,by omega⟩
theorem bytes_of {n:Nat} {v:Value} {x:DataW H × List MemPlace} (h:DataW.trod enc Tryz.prog W 0 (fun _=>true) true n 33 [v]=some x) (hw:∀ m ∈ x.1.weights Tryz.prog 33,m ≤ reachBytes) :
  ∃ (d:Sl) (l:List Nat),v=slV d∧ReadsO W.heap d.a (l.map bv)∧d.n=l.length∧(∀ c ∈ l,c < 256)∧l.length < 140737488355328∧(∀ p,d.a=some p→l ≠ []→p.block < W.heap.size)∧d.n ≤ d.c:=by
 rcases open_ints Tryz.underlying33 Tryz.underlying5 c5 h with ⟨hcs,_⟩ | ⟨a,len,cap,zs,hcs,_,hl,_,hz,hx,hcell,hwz⟩
 ·refine ⟨⟨none,0,0⟩,[],?_,rfl,rfl,by simp,by decide,nofun,Nat.le_refl _⟩
  exact (List.cons.inj hcs).1
 ·simp only [if_true] at hz
  have hw1:=hw ((len + (cap - len)) * Tryz.prog.bytesOf 5) (by
   rw [hx]
   have e1:((lits (H:=H) .u8 (zs.take len)).length)=len:=by simp [lits]; omega
   have e2:((lits (H:=H) .u8 (zs.drop len)).length)=cap - len:=by simp [lits]; omega
   simp only [DataW.weights,Tryz.underlying33,List.mem_cons]
   exact .inl (by rw [e1,e2]))
  rw [b5] at hw1
  have hr:=reachBytes_lt
  have wz:∀ i,i < zs.length→0 ≤ zs.getD i 0∧zs.getD i 0 ≤ 255:=fun i hi=>by
   rw [List.getD_eq_getElem?_getD,List.getElem?_eq_getElem hi]
   exact bounds_u8 (hwz _ (List.getElem_mem hi))
  have ll:((zs.take len).map Int.toNat).length=len:=by rw [List.length_map,List.length_take]; omega
  have rd:∀ i,i < len→Go.Ev.cell W.heap (a.add i)=some (bv ((zs.take len).map Int.toNat)[i]!):=fun i hi=>by
   have h1:Go.Ev.cell W.heap (a.add i)=some (.int .u8 (zs.getD i 0)):=hcell i (by omega)
   have h2:=wz i (by omega)
   have e:((zs.take len).map Int.toNat)[i]! = (zs.getD i 0).toNat:=by
    rw [List.getElem!_eq_getElem?_getD,List.getElem?_map,List.getElem?_take,if_pos hi,List.getElem?_eq_getElem (by omega),List.getD_eq_getElem?_getD,List.getElem?_eq_getElem (by omega)]
    rfl
   rw [h1,e]
   unfold bv
   rw [Int.toNat_of_nonneg h2.1]
  refine ⟨⟨some a,len,cap⟩,(zs.take len).map Int.toNat,?_,?_,ll.symm,?_,by omega,?_,by show len ≤ cap; omega⟩
  ·simpa [slV] using hcs
  ·intro j u hj
   rw [List.getElem?_map] at hj
   obtain ⟨z,hz1,rfl⟩:=Option.map_eq_some_iff.1 hj
   have hjl:j < len:=by have:=(List.getElem?_eq_some_iff.1 hz1).1; rw [ll] at this; exact this
   rw [rd j hjl,List.getElem!_eq_getElem?_getD,hz1]
   rfl
  ·intro c hc
   obtain ⟨z,hz1,rfl⟩:=List.mem_map.1 hc
   have:=bounds_u8 (hwz z (List.mem_of_mem_take hz1))
   omega
  ·intro p hp hne
   obtain rfl:=Option.some.inj hp
   have h0:0 < len:=Nat.pos_of_ne_zero fun e=>hne (List.length_eq_zero_iff.1 (ll.trans e))
   have h1:=rd 0 h0
   unfold Go.Ev.cell at h1
   have eb:(a.add 0).block=a.block:=rfl
   rw [eb] at h1
   exact Nat.lt_of_not_le fun hl=>by
    rw [Array.getElem?_eq_none hl] at h1
    cases h1
/-- A list of bytes that is handed in. -/
def BytesP (h:Go.Ev.Hp) (d:Sl) (l:List Nat):Prop:=ReadsO h d.a (l.map bv)∧d.n=l.length∧(∀ c ∈ l,c < 256)∧l.length < 140737488355328∧(∀ p,d.a=some p→l ≠ []→p.block < h.size)∧d.n ≤ d.c
theorem kept_all {W W':World} (hs:Go.Ev.Same W W') (hk:Go.Ev.Kept Go.Ev.N W.heap W'.heap) (may:MemPlace→Prop):W.keptBut W' may:=by
 refine ⟨hs.1,hs.2.2,fun i hi=>?_⟩
 rw [hk.2 i hi id]
 cases h:W.heap[i]? with
 | none=>rfl
 | some o =>
  cases o <;> first | exact rfl | exact ⟨rfl,rfl,rfl,fun _ _=>rfl⟩ | exact .inr ⟨rfl,rfl⟩
theorem same_all {W W':World} (hk:Go.Ev.Kept Go.Ev.N W.heap W'.heap) {p:MemPlace} (hp:p.block < W.heap.size):W.sameAt W' p:=by
 cases p with
 | cell b off =>
  show Go.Ev.cell W'.heap ⟨b,off,none⟩=Go.Ev.cell W.heap ⟨b,off,none⟩
  unfold Go.Ev.cell
  rw [hk.2 b hp id]
 | map b=>exact hk.2 b hp id
end
end Go.Proofs.YtdkopnbjommjdaaGreat
