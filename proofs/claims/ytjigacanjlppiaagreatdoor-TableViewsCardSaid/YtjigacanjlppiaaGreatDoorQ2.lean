/- One operation of the program, calls too, and. No condition. -/
import Derived.Test.YtjigacanjlppiaaGreatDoorQ1
import Derived.Laws.BytesString
import Derived.Orders
import Derived.KernelRfl
set_option linter.all false
set_option maxRecDepth 1000000
open Go.IntKind (wrap)
namespace Go.Ev
inductive RK where
 |leaf (k:VK)
 |agg (ks:List VK)
def E4:List VK→(LV→Prop)→Prop
 | [],φ=>φ []
 |k::ks,φ=>k.ex fun v=>E4 ks fun vs=>φ (v::vs)
def RK.ex:RK→(Value→Prop)→Prop
 | .leaf k,φ=>k.ex φ
 | .agg ks,φ=>E4 ks fun vs=>φ (.agg vs.toArray)
def NX:List RK→(LV→Prop)→Prop
 | [],φ=>φ []
 |k::ks,φ=>k.ex fun v=>NX ks fun vs=>φ (v::vs)
def zt:List RK→(Value→Prop)→Prop
 | [],φ=>φ (.tuple #[])
 | [k],φ=>k.ex φ
 |ks,φ=>NX ks fun vs=>φ (.tuple vs.toArray)
theorem zA:∀ {ks:List VK} {φ:LV→Prop},E4 ks φ→∃v,φ v
 | [],_,h=>⟨_,h⟩
 |k::ks,_,h=>by
  obtain⟨v,h⟩:=VK.ow (k:=k) h
  obtain⟨vs,h⟩:=zA h
  exact⟨_,h⟩
theorem RK.ow {k:RK}{φ:Value→Prop}(h:k.ex φ):∃v,φ v:=by
 cases k with
 |leaf k=>exact VK.ow h
 |agg ks=>obtain⟨vs,h⟩:=zA h;exact⟨_,h⟩
theorem CL:∀ {ks:List RK} {φ:LV→Prop},NX ks φ→∃v,φ v
 | [],_,h=>⟨_,h⟩
 |k::ks,_,h=>by
  obtain⟨v,h⟩:=RK.ow (k:=k) h
  obtain⟨vs,h⟩:=CL h
  exact⟨_,h⟩
theorem oB {ks:List RK}{φ:Value→Prop}(h:zt ks φ):∃v,φ v:=by
 unfold zt at h
 split at h
 ·exact⟨_,h⟩
 ·exact RK.ow h
 ·obtain⟨vs,h⟩:=CL h;exact⟨_,h⟩
structure tD where
 tk:TypeId→List VK
 rk:FuncId→List RK
 Vr:FuncId→Bool
 callee:FuncId→Bool
 GP:String→Option (TypeId × FuncId)
 ext:FuncId→Bool:=fun _=>false
 rt:TypeId→List RK:=fun _=>[]
 Uj:String→List RK:=fun _=>[]
def vE(P:Program)(f:FuncId):Prop:=∀(args:Array Value) (w:World),(callFunc f args).run P w=.ok (.enter f args) w
structure mH (P:Program) (T:tD):Prop where
 callee:∀f,T.callee f=true→vE P f
 GP:∀m t f,T.GP m=some (t,f)→∀(a:OA) (args:Array Value) (w:World),
  (callMethod (.iface t (.pointer a)) m args).run P w=.ok (.enter f (#[.pointer a]++args)) w
 ahead:∀m t f,T.GP m=some (t,f)→∀(a:Addr) (w:World),(nilAhead (P.types.size+Made.depth) t (.pointer (some a)) m).run P w=.ok (some false) w
def vZ(P:Program)(T:tD)(o:Oper)(env:LV)(K:Value→Prop):Prop :=
 match o.op with
 | .nilCheck x =>
  match dz env x with
  | .func (.method m) first gP =>
   match T.GP m,first.toList with
   |some (t,_),[r]=>∃a:Addr,r=.iface t (.pointer (some a))∧K (.func (.method m) first gP)
   |_,_=>False
  |_=>wa P o env K
 |_=>wa P o env K
def ZE(P:Program)(f:FuncId)(args:Array Value)(h:Hp)(v:Value):Prop:=∀w:World,w.heap=h→(callFunc f args).run P w=.ok (.value v) w
def Ze(P:Program)(T:tD)(f:FuncId)(args:Array Value)(h:Hp)(K:RP):Prop :=
 bX (T.callee f) (bq P f args h fun v h'=>zt (T.rk f) fun u=>v=u∧K u h') (bX (T.ext f) (zt (T.rk f) fun u=>ZE P f args h u∧K u h) False)
def ql(K:RP):Next→List VK→Hp→Prop
 | .value v,_,h=>K v h
 | .skip,_,h=>K undef h
 |_,_,_=>False
def ai0(z:Array Value)(a:OA)(n:Nat)(h:Hp)(K:Hp→Prop):Prop :=
 match a with
 |none=>K h
 |some b=>wH h b (ja z (n*z.size)).toList 0∧K (o9 h b (ja z (n*z.size)).toList 0)
def RX(P:Program)(t:TypeId)(x:Value)(h:Hp)(K:RP):Prop :=
 match P.underlying t,x with
 |some (.slice e),.slice a n _ =>
  match xf P e with
  |some z=>ai0 z a n h fun h'=>K (.tuple #[]) h'
  |none=>False
 |_,_=>False
def rk1(T:tD)(t:TypeId)(φ:Value→Prop):Prop:=match T.rt t with | [k]=>k.ex φ|_=>False
def V9(P:Program)(T:tD)(xt:TypeId)(x key:Value)(co:Bool)(h:Hp)(K:RP):Prop :=
 match P.underlying xt with
 |some (.map kt et)=>rk1 T et fun v=>∃ok:Bool,Ke P kt et x key h v ok∧K (if co then .tuple #[v,.bool ok]else v) h
 |_=>False
def ac0(P:Program)(t:TypeId)(m k v:Value)(h:Hp)(K:RP):Prop:=match P.underlying t with|some (.map kt _)=>Zw P kt m k v h fun h'=>K undef h'|_=>False
def QF(P:Program)(t:TypeId)(x:Value)(h:Hp)(K:RP):Prop:=match P.underlying t with|some (.map _ _)=>Ni x h fun h'=>K (.pointer (some ⟨h.size,0,none⟩)) h'|_=>False
def VM(s:Bool)(it:Value)(h:Hp)(K:RP):Prop :=
 match s with
 |false=>R8 it h (K (.tuple #[.bool false]) h) fun a b h'=>K (.tuple #[.bool true,a,b]) h'
 |true=>False
def RJ(T:tD)(pos:String)(it:Value)(h:Hp)(K:RP):Prop :=
 match T.Uj pos with
 | [kk,kv]=>kk.ex fun a=>kv.ex fun b=>Zy it h a b∧K (.tuple #[a,b]) h
 |_=>False
def afJ(P:Program)(t:TypeId)(m k:Value)(h:Hp)(K:RP):Prop:=match P.underlying t with|some (.map kt _)=>Zz P kt m k h fun h'=>K (.tuple #[]) h'|_=>False
def WN(P:Program)(T:tD)(t:TypeId)(m k:Value)(h:Hp)(K:RP):Prop :=
 match P.underlying t with|some (.map kt et)=>R9 P kt et m k h fun a b h'=>rk1 T et fun v=>a=v∧K (.tuple #[v,.int .i64 b]) h'|_=>False
def adS(m s v:Value)(h:Hp)(K:RP):Prop:=match s with | .int _ n=>Zx m n v h fun h'=>K undef h'|_=>False
def aoE(P:Program)(T:tD)(ty:TypeId)(v:Value)(args:LV)(h:Hp)(K:RP):Prop:=Dyn P v args h fun r h'=>zt (T.rt ty) fun u=>r=u∧K u h'
def Wh:Operand→Bool
 | .tmp _=>true
 |_=>false
def Cw(P:Program)(o:Oper)(b:Builtin)(argTypes:Array TypeId)(args env:LV)(h:Hp)(K:RP):Prop :=
 match b,args with
 | .append,[s,x]=>match argTypes[0]?,argTypes[1]? with
  |some st,some xt=>FW P st xt s x h K
  |_,_=>False
 | .copy,[d,s]=>match argTypes[0]? with
  |some dt=>PD P dt d s h K
  |none=>False
 | .clear,[x]=>match argTypes[0]? with
  |some t=>match x with
   | .slice _ _ _=>RX P t x h K
   |_=>nT P (execOp (dz env) o) [] h (ql K)
  |none=>False
 | .len,[x]=>match x with
  | .map _=>qU P (execOp (dz env) o) [] h fun nx vs=>ql K nx vs h
  |_=>wa P o env fun v=>K v h
 | .delete,[m,k]=>match argTypes[0]? with
  |some t=>afJ P t m k h K
  |none=>False
 | .cap,_=>wa P o env fun v=>K v h
 | .min,_=>wa P o env fun v=>K v h
 | .max,_=>wa P o env fun v=>K v h
 |_,_=>nT P (execOp (dz env) o) [] h (ql K)
def aoY(h:Hp)(a:Addr)(n:Nat)(v:Value):Prop:=∃l:LV,l.length=n∧Da h a l∧v=.agg l.toArray
def Of(P:Program)(T:tD)(o:Oper)(t:TypeId)(a:Value)(env:LV)(h:Hp)(K:RP):Prop :=
 match T.tk t with
 | []=>match P.underlying t with
  |some (.array _ _)=>match a with
   | .pointer (some b)=>bX (P.info? t).isSome (∃v,aoY h b (m6 P t) v∧K v h) False
   |_=>False
  |_=>qU P (execOp (dz env) o) [] h fun nx vs=>ql K nx vs h
 |k::ks=>qU P (execOp (dz env) o) (k::ks) h fun nx vs=>ql K nx vs h
def zy(h:Hp)(b:Nat):Hp:=h.modify b fun
 | .cells c e (lo,hi)=>.cells c e (if lo==hi then(c.size,c.size+1)else(min lo c.size,max hi (c.size+1)))
 |o=>o
def Ka(h:Hp)(a:OA)(n:Nat)(s:ByteArray):Prop:=s.size=n∧dZ h a (s.data.toList.map fun b=>.int .u8 b.toNat)
def PE(P:Program)(T:tD)(o:Oper)(src dst:TypeId)(x:Value)(env:LV)(h:Hp)(K:RP):Prop :=
 match x with
 | .slice a n _=>match P.underlying src,P.underlying dst with
  |some (.slice e),some .string=>match P.underlying e with
   |some (.int .u8)=>∃s:ByteArray,Ka h a n s∧K (.string s) h
   |_=>False
  |some (.slice _),some (.slice e)=>match P.underlying e with
   |some (.int .u8)=>bX (src==dst) (bE a fun p=>K x (zy h p.block)) False
   |_=>False
  |_,_=>False
 | .string s=>match P.underlying src,P.underlying dst with
  |some _,some (.slice e)=>match P.underlying e with
   |some (.int .u8)=>s.size<2 ^ 62∧∀nc,s.size≤nc→nc<2 ^ 63→K (.slice (some ⟨h.size,0,none⟩) s.size nc)
     (h.push (.cells ((s.data.map fun b=>Value.int .u8 b.toNat)++Array.replicate (nc-s.size) (.int .u8 0)) e (nc,nc+1)))
   |_=>False
  |_,_=>vZ P T o env fun v=>K v h
 |_=>vZ P T o env fun v=>K v h
def G5(P:Program)(T:tD)(o:Oper)(env:LV)(h:Hp)(K:RP):Prop :=
 match o.op with
 | .load t a=>Of P T o t (dz env a) env h K
 | .convert src dst x=>PE P T o src dst (dz env x) env h K
 | .store ..=>nT P (execOp (dz env) o) [] h (ql K)
 | .alloc _=>nT P (execOp (dz env) o) [] h (ql K)
 | .box ..=>nT P (execOp (dz env) o) [] h (ql K)
 | .buildSlice ..=>nT P (execOp (dz env) o) [] h (ql K)
 | .makeMap ..=>nT P (execOp (dz env) o) [] h (ql K)
 | .makeSlice t l c=>Oe P t (dz env l) (dz env c) h K
 | .lookup t x k co=>V9 P T t (dz env x) (dz env k) co h K
 | .mapUpdate t m k v=>ac0 P t (dz env m) (dz env k) (dz env v) h K
 | .mapEntry t m k=>WN P T t (dz env m) (dz env k) h K
 | .entryStore _ m s v=>adS (dz env m) (dz env s) (dz env v) h K
 | .range t x=>QF P t (dz env x) h K
 | .next it s=>VM s (dz env it) h K
 | .entry it=>RJ T o.pos (dz env it) h K
 | .call c =>
  match c.callee with
  | .value f =>
   if Wh f=true then aoE P T o.type (dz env f) (c.args.toList.map (dz env)) h K else
   match dz env f with
   | .func (.func g) first gP=>Ze P T g ((first.toList++c.args.toList.map (dz env)++gP.toList).toArray) h K
   |_=>False
  | .invoke r m =>
   match T.GP m with
   |some (t,f)=>∃a:OA,dz env r=.iface t (.pointer a)∧bq P f ((.pointer a::c.args.toList.map (dz env)).toArray) h fun v h'=>zt (T.rk f) fun u=>v=u∧K u h'
   |none=>False
  | .builtin b=>Cw P o b c.argTypes (c.args.toList.map (dz env)) env h K
 |_=>vZ P T o env fun v=>K v h
def yu(P:Program)(o:Oper)(env:LV)(w:World)(K:RP):Prop :=
 (∃v w',((execOp (dz env) o).run P w=.ok (.value v) w'∨((execOp (dz env) o).run P w=.ok .skip w'∧v=undef))∧gj w w'∧K v w'.heap) ∨
 (∃f args,(execOp (dz env) o).run P w=.ok (.enter f args) w∧bq P f args w.heap K)
section
variable {P:Program}
theorem HH {o:Oper}{env:LV}{w:World}{K:RP}{nx:Next}{vs:List VK}{w':World}
  (hr:(execOp (dz env) o).run P w=.ok nx w') (hs:gj w w') (hk:ql K nx vs w'.heap):yu P o env w K:=by
 cases nx<;>first|exact hk.elim|skip
 ·exact .inl ⟨_,w',.inl hr,hs,hk⟩
 ·exact .inl ⟨_,w',.inr ⟨hr,rfl⟩,hs,hk⟩
theorem oC {o:Oper}{env:LV}{w:World}{K:RP}{vs:List VK}(h:nT P (execOp (dz env) o) vs w.heap (ql K)):yu P o env w K:=by
 obtain⟨nx,uD,w',hr,hs,hk⟩:=MO _ _ _ _ h
 exact HH hr hs hk
theorem zW {o:Oper}{env:LV}{w:World}{K:RP}{vs:List VK}(h:qU P (execOp (dz env) o) vs w.heap fun nx vs=>ql K nx vs w.heap):yu P o env w K:=by
 obtain⟨nx,uD,hr,hk⟩:=nm _ _ _ _ h
 exact HH hr (gj.refl _) hk
theorem tZ {o:Oper}{env:LV}{w:World}{K:RP}(h:wa P o env fun v=>K v w.heap):yu P o env w K:=by
 obtain⟨v,hv,hk⟩:=vY h
 exact .inl ⟨v,w,.inl (hv w),gj.refl _,hk⟩
theorem zF {T:tD}(hT:mH P T){o:Oper}{env:LV}{K:Value→Prop}(h:vZ P T o env K):∃v,Ir P o env v∧K v:=by
 unfold vZ at h
 split at h
 ·rename_i x mC
  split at h
  ·rename_i m first gP hx
   split at h
   ·rename_i t f r hm hf
    obtain⟨a,rfl,hk⟩:=h
    refine⟨_,fun w=>?_,hk⟩
    have Tf:first[0]?=some (Value.iface t (.pointer (some a))):=by
     rw [←Array.getElem?_toList,hf];rfl
    have ha:=hT.ahead m t _ hm a w
    simp only [execOp,mC,hx,Tf,run_bind,run_program,ha]
    rfl
   ·exact h.elim
  ·exact vY h
 ·exact vY h
theorem vS {T:tD}(hT:mH P T){o:Oper}{env:LV}{w:World}{K:RP}(h:vZ P T o env fun v=>K v w.heap):yu P o env w K:=by
 obtain⟨v,hv,hk⟩:=zF hT h
 exact .inl ⟨v,w,.inl (hv w),gj.refl _,hk⟩
theorem jJ {o:Oper}{env:LV}{w w':World}{v:Value}{K:RP}(hr:(execOp (dz env) o).run P w=.ok (.value v) w') (hs:gj w w') (hk:K v w'.heap):yu P o env w K :=
 .inl ⟨v,w',.inl hr,hs,hk⟩
theorem Nc {α:Type}(f:Operand→α)(args:Array Operand):args.map f=(args.toList.map f).toArray:=by
 apply gd
 simp
theorem NQ(a:Addr)(z:Array Value)(n:Nat){w:World}(h:wH w.heap a (ja z (n*z.size)).toList 0) :
  ∃w',(storeCells a (Builtin.zeroCells z n).toList).run P w=.ok () w'∧gj w w'∧w'.heap=o9 w.heap a (ja z (n*z.size)).toList 0 :=
 sN a _ 0 w h
theorem KJ {o:Oper}{c:Call}{b:Builtin}{env:LV}{w:World}(ho:o.op=.call c)(hb:c.callee=.builtin b):
  ∃Cs,(execOp (dz env) o).run P w=(builtin b c.argTypes o.type Cs (c.args.toList.map (dz env)).toArray).run P w:=by
 obtain⟨Cs,hc⟩:∃Cs,resolve (dz env) c o.type=Pure.pure {target:=.builtin b c.argTypes o.type Cs,args:=c.args.map (dz env)}:=by
  unfold resolve
  rw [hb]
  exact⟨_,rfl⟩
 refine⟨Cs,?_⟩
 simp only [execOp,ho,run_bind,hc,cH,invoke,Nc (dz env)]
theorem Ds {o:Oper}{c:Call}{b:Builtin}{env:LV}{w:World}{K:RP}(ho:o.op=.call c)(hb:c.callee=.builtin b)
  (h:Cw P o b c.argTypes (c.args.toList.map (dz env)) env w.heap K):yu P o env w K:=by
 unfold Cw at h
 obtain⟨Cs,Ca⟩:=KJ (P:=P) (env:=env) (w:=w) ho hb
 split at h
 ·rename_i s x Bj
  split at h
  ·rename_i st xt h0 h1
   obtain⟨v,w',hr,hs,hk⟩:=J7 (ty:=o.type) h0 h1 h
   refine jJ ?_ hs hk
   rw [Ca,Bj]
   simp only [builtin,run_bind,hr,cH]
  ·exact h.elim
 ·rename_i d s Bj
  split at h
  ·rename_i dt h0
   obtain⟨v,w',hr,hs,hk⟩:=PC (ty:=o.type) h0 h
   refine jJ ?_ hs hk
   rw [Ca,Bj]
   simp only [builtin,run_bind,hr,cH]
  ·exact h.elim
 ·rename_i x Bj
  split at h
  ·rename_i t h0
   split at h
   ·unfold RX at h
    split at h
    ·rename_i e a n c' ht heq
     rw [heq]at Bj
     split at h
     ·rename_i z hz
      obtain⟨i,v,hi,hv,rfl⟩:=tK hz
      have g0:(#[Value.slice a n c']:Array Value)[0]?=some (Value.slice a n c'):=rfl
      cases a with
      |none =>
       refine jJ (v:=.tuple #[]) (w':=w) ?_ (gj.refl _) h
       rw [Ca,Bj]
       simp only [builtin,run_bind,Builtin.clear_,h0,g0,run_underlying ht]
       rfl
      |some a =>
       obtain⟨h1,h2⟩:=h
       obtain⟨w',hr,hs,hh⟩:=NQ (P:=P) a v.cells n h1
       refine jJ (v:=.tuple #[]) (w':=w') ?_ hs (by rw [hh];exact h2)
       rw [Ca,Bj]
       simp only [builtin,run_bind,Builtin.clear_,h0,g0,run_underlying ht]
       cases n with
       |zero =>
        have hh':w'.heap=w.heap:=by rw [hh];simp [ja,o9]
        simp [Builtin.zeroCells,storeCells,cH]at hr
        rw [hr]
        rfl
       |succ n=>simp only [run_bind,lF hi hv,hr,cH]
     ·exact h.elim
    ·exact h.elim
   ·exact oC h
  ·exact h.elim
 ·split at h
  ·exact zW h
  ·exact tZ h
 ·rename_i m k Bj
  split at h
  ·rename_i t h0
   unfold afJ at h
   split at h
   ·rename_i kt et ht
    obtain⟨w',hr,hs,hk⟩:=NU (ty:=o.type) h0 ht h
    refine jJ ?_ hs hk
    rw [Ca,Bj]
    simp only [builtin,run_bind,hr,cH]
   ·exact h.elim
  ·exact h.elim
 ·exact tZ h
 ·exact tZ h
 ·exact tZ h
 ·exact oC h
theorem K4 {α:Type}(a:Array α)(o:α)(f:α→α):(a.push o).modify a.size f=a.push (f o):=by
 apply Array.ext
 ·simp
 ·intro i h1 h2
  rw [Array.getElem_modify,Array.getElem_push,Array.getElem_push]
  have h3:i<a.size+1:=by simpa using h2
  by_cases hi:i<a.size
  ·rw [if_neg (by omega)];simp [hi]
  ·rw [if_pos (by omega)];simp [hi]
theorem Fo(l:List UInt8):∀s:ByteArray,((l.map fun b=>(b.toNat:Int)).foldl (fun r n=>r.push (UInt8.ofNat n.toNat)) s)=⟨s.data++l.toArray⟩:=by
 induction l with
 |nil=>intro s;simp
 |cons b l ih =>
  intro s
  simp only [cU,List.foldl_cons]
  rw [ih]
  congr 1
  simp [ByteArray.push]
theorem JS {T:tD}(hT:mH P T){o:Oper}{src dst:TypeId}{x:Operand}{env:LV}{w:World}{K:RP}(mC:o.op=.convert src dst x)
  (h:PE P T o src dst (dz env x) env w.heap K):yu P o env w K:=by
 unfold PE at h
 split at h
 ·rename_i a n c hx
  split at h
  ·rename_i e hs hd
   split at h
   ·rename_i he
    obtain⟨s,⟨hn,hr⟩,hk⟩:=h
    refine jJ (v:=.string s) (w':=w) ?_ (gj.refl _) hk
    simp only [execOp,mC,hx,run_bind,Go.run_convert_bytes_string w src dst e a n c hs he hd]
    cases a with
    |none =>
     have h0:s.data.toList=[]:=nX.1 hr
     have:s=ByteArray.empty:=by
      cases s with
      |mk d=>simp only [Array.toList_eq_nil_iff]at h0;subst h0;rfl
     subst this
     rfl
    |some a =>
     have hl:(s.data.toList.map fun b=>Value.int .u8 b.toNat).length=n:=by simp [←hn]
     have h1:=run_loadCells (P:=P) hr hl
     have e1:(s.data.toList.map fun b=>Value.int .u8 b.toNat)=(s.data.toList.map fun b=>(b.toNat:Int)).map (Value.int .u8):=by simp
     rw [e1]at h1
     rw [Go.run_bytesToString w a n c _ h1,Fo]
     simp only [cH]
     congr 3
     cases s
     simp
   ·exact h.elim
  ·rename_i e0 e hs hd
   split at h
   ·rename_i he
    obtain⟨t6,h⟩:=f7 h
    cases a with
    |none=>exact h.elim
    |some p =>
     rw [hx]at h
     have h:K (.slice (some p) n c) (zy w.heap p.block):=h
     refine jJ (v:=.slice (some p) n c) (w':={w with heap:=zy w.heap p.block}) ?_ ⟨rfl,rfl,rfl,(by first|exact bH _|exact gV _|simp)⟩ h
     have WH:(convert src dst (.slice (some p) n c)).run P w=(do markStringish p;Pure.pure (Value.slice (some p) n c):Sem Value).run P w:=by
      unfold convert
      simp only [run_bind,run_underlying hs,run_underlying hd]
      simp only [run_bind,run_underlying he,t6]
     have hmk:(markStringish p).run P w=.ok () {w with heap:=zy w.heap p.block}:=by
      unfold markStringish
      rw [run_bind]
      simp only [Go.shape,Sem.run]
      cases hb:w.heap[p.block]? with
      |none =>
       have:w.shape? p.block=none:=by unfold World.shape?;rw [hb]
       simp only [this,cH]
       congr 1
       have:zy w.heap p.block=w.heap:=by
        unfold zy
        apply my
        intro i
        rw [gY]
        split
        ·rename_i e;subst e;rw [hb];rfl
        ·rfl
       rw [this]
      |some ob =>
       cases ob with
       |cells cs el fr =>
        have:w.shape? p.block=some (el,cs.size):=by unfold World.shape?;rw [hb]
        simp only [this,freeze,Sem.run]
        have hq:(w.heap.modify p.block fun x=>match x with
          |Obj.cells c elem (lo,hi)=>Obj.cells c elem (if lo==hi then(cs.size,cs.size+1)else(min lo cs.size,max hi (cs.size+1)))
          |o=>o)=zy w.heap p.block:=by
         unfold zy
         apply my
         intro i
         rw [gY,gY]
         split
         ·rename_i e;subst e;rw [hb];rfl
         ·rfl
        rw [←hq]
        rfl
       |_ =>
        have:w.shape? p.block=none:=by unfold World.shape?;rw [hb]
        simp only [this,cH]
        congr 1
        have:zy w.heap p.block=w.heap:=by
         unfold zy
         apply my
         intro i
         rw [gY]
         split
         ·rename_i e;subst e;rw [hb];rfl
         ·rfl
        rw [this]
     simp only [execOp,mC,hx,run_bind,WH,hmk,cH]
   ·exact h.elim
  ·exact h.elim
 ·rename_i s hx
  split at h
  ·rename_i d0 e as2 hd
   split at h
   ·rename_i he
    obtain⟨hs,h⟩:=h
    have hs:s.size<4611686018427387904:=hs
    generalize Tb:(Question.appendCap s.size 0 e).cut (w.tape w.drawn (Question.appendCap s.size 0 e))=nc
    have Fb:s.size≤nc∧nc<2 ^ 63:=by
     rw [←Tb]
     simp only [Question.cut]
     have:=jB (w.tape w.drawn (Question.appendCap s.size 0 e)) (show 0<2 ^ 63-s.size by omega)
     omega
    have vF:((s.data.map fun b=>Value.int .u8 b.toNat)++Array.replicate (nc-s.size) (Value.int .u8 0)).size=nc:=by
     simp only [Array.size_append,Array.size_map,Array.size_replicate]
     have:s.data.size=s.size:=rfl
     omega
    refine jJ (v:=.slice (some ⟨w.heap.size,0,none⟩) s.size nc)
     (w':={w with drawn:=w.drawn+1,heap:=w.heap.push (.cells ((s.data.map fun b=>Value.int .u8 b.toNat)++Array.replicate (nc-s.size) (.int .u8 0)) e (nc,nc+1))})
     ?_ ⟨rfl,rfl,rfl,(by first|exact bH _|exact gV _|simp)⟩ (h nc Fb.1 Fb.2)
    simp only [execOp,mC,hx,run_bind]
    have WH:∀w',(convert src dst (.string s)).run P w'=(Conv.stringToBytes e s).run P w':=by
     intro w'
     unfold convert
     simp only [run_bind,run_underlying as2,run_underlying hd]
     simp only [run_bind,run_underlying he]
    rw [WH]
    unfold Conv.stringToBytes
    simp only [run_bind,run_choose (P:=P) (q:=.appendCap s.size 0 e) rfl,Tb,qg]
    generalize hX:((s.data.map fun b=>Value.int .u8 b.toNat)++Array.replicate (nc-s.size) (Value.int .u8 0))=X at vF ⊢
    subst vF
    have S7:({w with heap:=w.heap.push (Obj.cells X e),drawn:=w.drawn+1}:World).shape? w.heap.size=some (e,X.size):=by
     simp [World.shape?]
    have hmk:(markStringish ⟨w.heap.size,0,none⟩).run P {w with heap:=w.heap.push (Obj.cells X e),drawn:=w.drawn+1}=.ok () {w with heap:=w.heap.push (Obj.cells X e (X.size,X.size+1)),drawn:=w.drawn+1}:=by
     unfold markStringish
     rw [run_bind]
     simp only [Go.shape,Sem.run,S7,freeze]
     simp only [World.freeze,cH,Sem.run,Nat.succ_ne_zero,if_false,K4]
     simp
    simp only [hmk,cH]
   ·exact h.elim
  ·exact vS hT h
 ·exact vS hT h
theorem I0 {T:tD}{o:Oper}{t:TypeId}{x:Operand}{env:LV}{w:World}{K:RP}(mC:o.op=.load t x)
  (h:Of P T o t (dz env x) env w.heap K):yu P o env w K:=by
 unfold Of at h
 split at h
 ·split at h
  ·rename_i n e ht
   split at h
   ·rename_i b hx
    obtain⟨hi,v,⟨l,hl,hr,rfl⟩,hk⟩:=f7 h
    refine jJ (v:=.agg l.toArray) (w':=w) ?_ (gj.refl _) hk
    simp only [execOp,mC,hx,Instr.loadAt,Instr.sureAddr,run_bind,cH,loadVar,Go.isAgg,run_underlying ht,if_true,run_sizeOf hi,run_loadCells (P:=P) hr hl]
   ·exact h.elim
  ·exact zW h
 ·exact zW h
theorem nB {T:tD}(hT:mH P T){o:Oper}{env:LV}{w:World}{K:RP}(h:G5 P T o env w.heap K):yu P o env w K:=by
 unfold G5 at h
 split at h
 ·rename_i t a mC;exact I0 mC h
 ·rename_i s d x mC;exact JS hT mC h
 ·exact oC h
 ·exact oC h
 ·exact oC h
 ·exact oC h
 ·exact oC h
 ·rename_i t l c mC
  obtain⟨v,w',hr,hs,hk⟩:=IX h
  refine jJ ?_ hs hk
  simp only [execOp,mC,run_bind,hr,cH]
 ·rename_i t x k co mC
  unfold V9 at h
  split at h
  ·rename_i kt et ht
   unfold rk1 at h
   split at h
   ·rename_i rk hrk
    obtain⟨v,ok,hg,hk⟩:=RK.ow h
    refine jJ ?_ (gj.refl _) hk
    simp only [execOp,mC,run_bind,EC ht hg,cH]
   ·exact h.elim
  ·exact h.elim
 ·rename_i t m k v mC
  unfold ac0 at h
  split at h
  ·rename_i kt et ht
   obtain⟨w',hr,hs,hk⟩:=GD ht h
   refine .inl ⟨undef,w',.inr ⟨?_,rfl⟩,hs,hk⟩
   simp only [execOp,mC,run_bind,hr,cH]
  ·exact h.elim
 ·rename_i t m k mC
  unfold WN at h
  split at h
  ·rename_i kt et ht
   obtain⟨a,b,w',hr,hs,hk⟩:=IP ht h
   unfold rk1 at hk
   split at hk
   ·obtain⟨v,rfl,hk⟩:=RK.ow hk
    refine jJ ?_ hs hk
    simp only [execOp,mC,run_bind,hr,cH]
   ·exact hk.elim
  ·exact h.elim
 ·rename_i t m s v mC
  unfold adS at h
  split at h
  ·rename_i kd n hs0
   obtain⟨w',hr,hs,hk⟩:=EE (P:=P) (mt:=t) (kd:=kd) h
   refine .inl ⟨undef,w',.inr ⟨?_,rfl⟩,hs,hk⟩
   simp only [execOp,mC,hs0,run_bind,hr,cH]
  ·exact h.elim
 ·rename_i t x mC
  unfold QF at h
  split at h
  ·rename_i kt et ht
   obtain⟨w',hr,hs,hk⟩:=Sy ht h
   refine jJ ?_ hs hk
   simp only [execOp,mC,run_bind,hr,cH]
  ·exact h.elim
 ·rename_i it s mC
  unfold VM at h
  split at h
  ·rcases Vf (P:=P) (ty:=o.type) h with⟨hr,hk⟩|⟨k,v,w',hr,hs,hk⟩
   ·refine jJ ?_ (gj.refl _) hk
    simp only [execOp,mC,run_bind,hr,cH]
   ·refine jJ ?_ hs hk
    simp only [execOp,mC,run_bind,hr,cH]
  ·exact h.elim
 ·rename_i it mC
  unfold RJ at h
  split at h
  ·obtain⟨a,h⟩:=RK.ow h
   obtain⟨b,he,hk⟩:=RK.ow h
   refine jJ ?_ (gj.refl _) hk
   simp only [execOp,mC,run_bind,Sz he,cH]
  ·exact h.elim
 ·rename_i c mC
  split at h
  ·rename_i f hf
   split at h
   ·rename_i azW
    obtain⟨g,first,gP,hv,hg,rP⟩:=h
    have ha:first++c.args.map (dz env)++gP=(first.toList++c.args.toList.map (dz env)++gP.toList).toArray:=by
     apply gd
     simp
    refine .inr ⟨g,_,?_,rP.mono fun v h' hv=>?_⟩
    ·simp only [execOp,mC,run_bind,resolve,hf,hv,Deferred.ofValue,cH,invoke]
     rw [ha,hg]
    ·obtain⟨u,rfl,hk⟩:=oB hv
     exact hk
   split at h
   ·rename_i g first gP hv
    have ha:first++c.args.map (dz env)++gP=(first.toList++c.args.toList.map (dz env)++gP.toList).toArray:=by
     apply gd
     simp
    unfold Ze at h
    cases hc:T.callee g with
    |false =>
     rw [hc]at h
     obtain⟨_,rP⟩:=f7 (show bX (T.ext g) _ False from h)
     obtain⟨u,hu,hk⟩:=oB rP
     refine jJ (v:=u) (w':=w) ?_ (gj.refl _) hk
     simp only [execOp,mC,run_bind,resolve,hf,hv,Deferred.ofValue,cH,invoke]
     rw [ha]
     exact hu w rfl
    |true =>
    rw [hc]at h
    have rP:bq P g (first.toList++c.args.toList.map (dz env)++gP.toList).toArray w.heap (fun v h'=>zt (T.rk g) fun u=>v=u∧K u h'):=h
    refine .inr ⟨g,_,?_,rP.mono fun v h' hv=>?_⟩
    ·have hg:=hT.callee g hc
     simp only [execOp,mC,run_bind,resolve,hf,hv,Deferred.ofValue,cH,invoke]
     rw [ha,hg]
    ·obtain⟨u,rfl,hk⟩:=oB hv
     exact hk
   ·exact h.elim
  ·rename_i r m hr
   split at h
   ·rename_i t f hm
    obtain⟨a,ha,rP⟩:=h
    refine .inr ⟨f,_,?_,rP.mono fun v h' hv=>?_⟩
    ·have hg:=hT.GP m t f hm
     simp only [execOp,mC,run_bind,resolve,hr,ha,cH,invoke]
     have e0:(#[Value.iface t (.pointer a)]++c.args.map (dz env))[0]?=some (Value.iface t (.pointer a)):=by
      rw [nJ (by simp)]
      rfl
     have AK:#[Value.pointer a]++(#[Value.iface t (.pointer a)]++c.args.map (dz env)).extract 1 (#[Value.iface t (.pointer a)]++c.args.map (dz env)).size=(.pointer a::c.args.toList.map (dz env)).toArray:=by
      apply gd
      simp [eT]
     simp only [e0]
     rw [hg,AK]
    ·obtain⟨u,rfl,hk⟩:=oB hv
     exact hk
   ·exact h.elim
  ·rename_i b hb
   exact Ds mC hb h
 ·exact vS hT h
end
structure rH where
 i:Nat
 W:Nat→Bool
 S:Hp→Prop
def waits(o:Oper)(W:Nat→Bool):Bool:=o.after.any fun e=>Region.binds .any e&&W e.on
def rH.jR(p:rH)(j:Nat)(o:Oper):rH:=⟨p.i,fun k=>p.W k||(k==j&&waits o p.W),p.S⟩
def E9(ps:List rH)(j:Nat)(o:Oper):List rH:=ps.map fun p=>p.jR j o
def sP(ps:List rH)(o:Oper):List rH:=ps.filter fun p=>!waits o p.W
def YS(P:Program)(ops:Array Oper)(w0:World)(S:Hp→Prop)(o:Oper)(v:Value)(a:Act):Prop :=
 (Region.wanted o (yielded ops a.tmps)=true∧∀w,gj w0 w→S w.heap →
  ((execOp a.eval o).run P w=.ok (.value v) w∨∃f args,(execOp a.eval o).run P w=.ok (.enter f args) w ∧
   Calls P f args w fun e w'=>e=.returned v∧gj w w'∧w'.heap=w.heap)) ∨
 (Region.wanted o (yielded ops a.tmps)=false∧v=undef)
section
variable {P:Program} {ops:Array Oper} {Q:Exit→Act→World→Prop} {w0:World} {S:Hp→Prop}
theorem YS.QO {o:Oper}{v:Value}{a a':Act}(hy:YS P ops w0 S o v a)(he:execOp a'.eval o=execOp a.eval o)
  (hw:Region.wanted o (yielded ops a'.tmps)=Region.wanted o (yielded ops a.tmps)):YS P ops w0 S o v a':=by
 unfold YS at *
 rw [he,hw]
 exact hy
theorem YS.wpOp {i:Nat}{o:Oper}{v:Value}{a:Act}{w:World}{K:Act→World→Prop}(hi:ops[i]?=some o)(hy:YS P ops w0 S o v a)(hs:gj w0 w)(hS:S w.heap)
  (hk:∀w',gj w w'→w'.heap=w.heap→K (a.put o.dst v) w'):wpOp P ops Q i K a w:=by
 unfold Go.wpOp
 simp only [hi]
 rcases hy with⟨hw,hv⟩|⟨hw,rfl⟩
 ·simp only [hw,if_true,Oper.wp]
  refine .inl ?_
  rcases hv w hs hS with h|⟨f,args,h,hc⟩
  ·rw [h,Oper.upon_value];exact hk w (gj.refl _) rfl
  ·rw [h,Oper.upon_enter]
   refine hc.mono fun e w' ⟨he,nq,hh⟩=>?_
   subst he
   exact hk w' nq hh
 ·simp only [hw,dy,if_false];exact hk w (gj.refl _) rfl
theorem Sd {j:Nat}{oi oj:Oper}{v:Value}(hj:ops[j]?=some oj)(hap:oi.apart ops oj=true)
  (hsi:∀cs b,oi.op≠.select cs b) (hsj:∀cs b,oj.op≠.select cs b)
  (hQ:∀c a w,¬Q (.panic c) a w) {K:Act→World→Prop} {a:Act} {w:World}
  (hy:YS P ops w0 S oi v a) (h:wpOp P ops Q j K (a.put oi.dst v) w) :
  wpOp P ops Q j (fun a' w'=>YS P ops w0 S oi v a'∧K (a'.put oi.dst v) w') a w:=by
 obtain⟨h1,h2,h3⟩:=Oper.apart_spec hap
 have eG:∀(a:Act),YS P ops w0 S oi v a→∀u,YS P ops w0 S oi v (a.put oj.dst u):=fun a hy u =>
  hy.QO (execOp_put oi hsi a oj.dst u h3) (wanted_put oi a oj.dst u h3)
 have al8:∀d,YS P ops w0 S oi v {a with defers:=d::a.defers}:=fun d=>hy.QO rfl rfl
 unfold Go.wpOp at *
 simp only [hj]at *
 rw [wanted_put oj a oi.dst v h1]at h
 split
 ·rename_i hw
  simp only [hw,if_true]at h
  rcases h with h|⟨ael,amU⟩
  case inr=>exact .inr ⟨by unfold Oper.asks at *;rw [execOp_put oj hsj a oi.dst v h1]at ael;exact ael,amU⟩
  refine .inl ?_
  unfold Oper.wp at *
  rw [execOp_put oj hsj a oi.dst v h1]at h
  generalize (execOp a.eval oj).run P w=r at *
  cases r with
  |ok n w' =>
   cases n<;>simp only [Oper.upon]at h ⊢
   case value u=>exact⟨eG a hy u,by rw [←Act.put_comm a v u h2];exact h⟩
   case skip=>exact⟨eG a hy _,by rw [←Act.put_comm a v undef h2];exact h⟩
   case defer d =>
    refine⟨eG _ (al8 d) _,?_⟩
    rw [←Act.put_comm _ v undef h2,←Act.put_defers]
    exact h
   case enter f args =>
    refine Calls.mono h fun e w'' he=>?_
    cases e with
    |returned u=>exact⟨eG a hy u,by rw [←Act.put_comm a v u h2];exact he⟩
    |panicked c=>exact absurd he (hQ _ _ _)
    |outgrown=>exact he
   case row row args=>exact Rows.mono h fun u w'' he=>⟨eG a hy u,by rw [←Act.put_comm a v u h2];exact he⟩
  |halt x w' =>
   cases x<;>simp only [Oper.upon]at h ⊢
   case panic u=>exact absurd h (hQ _ _ _)
 ·rename_i hw
  simp only [hw]at h
  exact⟨eG a hy _,by rw [←Act.put_comm a v undef h2];exact h⟩
def Uo(P:Program)(ops:Array Oper)(Q:Exit→Act→World→Prop)(w0:World):Nat→List rH→Array Bool→Act→Hp→Prop
 | 0,_,listed,a,h=>Region.ready .any ops listed=[]∧∀w,gj w0 w→w.heap=h→Q .normal a w
 |kW+1,ps,listed,a,h=>∀w,gj w0 w→w.heap=h →
  (Region.ready .any ops listed=[]→Q .normal a w) ∧
  ∀j o,j∈Region.ready .any ops listed→ops[j]?=some o →
   wpOp P ops Q j (fun a' w'=>gj w0 w'∧(∀p∈sP ps o,p.S w'.heap)∧Uo P ops Q w0 kW (sP ps o) (listed.setIfInBounds j true) a' w'.heap) a w
theorem zK:∀(kW:Nat) (ps:List rH) (listed:Array Bool) (a:Act) (w:World),gj w0 w→Uo P ops Q w0 kW ps listed a w.heap→wpAny P .any ops Q kW listed a w
 | 0,_,_,_,w,hs,h=>⟨h.1,h.2 w hs rfl⟩
 |kW+1,_,listed,a,w,hs,h=>⟨(h w hs rfl).1,fun i hi=>by
   obtain⟨_,o,ho,_⟩:=mem_ready.1 hi
   exact wpOp_mono (fun a' w' h'=>zK kW _ _ a' w' h'.1 h'.2.2) ((h w hs rfl).2 i o hi ho)⟩
theorem KK {ps ZF:List rH}{o:Oper}(h:∀p∈ps,p∈ZF):∀p∈sP ps o,p∈sP ZF o:=by
 intro p hp
 unfold sP at *
 rw [dU]at *
 exact⟨h p hp.1,hp.2⟩
theorem Iv:∀(kW:Nat) (ps ZF:List rH) (listed:Array Bool) (a:Act) (h:Hp),(∀p∈ps,p∈ZF)→Uo P ops Q w0 kW ZF listed a h→Uo P ops Q w0 kW ps listed a h
 | 0,_,_,_,_,_,_,H=>H
 |kW+1,_,_,_,_,_,Ja,H=>fun w hs hw=>⟨(H w hs hw).1,fun j o hj ho =>
   wpOp_mono (fun a' _ h'=>⟨h'.1,fun p hp=>h'.2.1 p (KK Ja p hp),Iv kW _ _ _ a' _ (KK Ja) h'.2.2⟩) ((H w hs hw).2 j o hj ho)⟩
theorem Sg {j:Nat}{o:Oper}{listed:Array Bool}{i:Nat}(hj:j∈Region.ready .any ops listed)(ho:ops[j]?=some o)(hi:listed.getD i false=false)(W:Nat→Bool)(b:Bool):
  waits o (fun k=>W k||(k==i&&b))=waits o W:=by
 obtain⟨_,o',ij,Fk⟩:=mem_ready.1 hj
 rw [ho]at ij
 obtain rfl:o=o':=by simpa using ij
 unfold waits
 rw [rN]
 simp only [Array.any_eq_true',eD]
 constructor
 ·rintro⟨e,he,hb,hw⟩
  refine⟨e,he,hb,?_⟩
  simp only [rM,eD,beq_iff_eq]at hw
  rcases hw with hw|⟨rfl,_⟩
  ·exact hw
  ·rw [Fk e he hb]at hi;cases hi
 ·rintro⟨e,he,hb,hw⟩
  exact⟨e,he,hb,by simp [hw]⟩
theorem Ky {i:Nat}{listed:Array Bool}(hi:i∈Region.ready .any ops listed):listed.getD i false=false:=by
 have h0:=(mem_ready.1 hi).1
 rcases eS i listed.size with h'|h'
 ·simp [h']at h0 ⊢;exact h0
 ·simp [jh h']
theorem NT {ps:List rH}{i:Nat}{o:Oper}:∀p∈sP ps o,p∈E9 ps i o:=by
 intro p hp
 unfold sP at hp
 rw [dU]at hp
 obtain⟨hp,hw⟩:=hp
 refine cy.2 ⟨p,hp,?_⟩
 have On:waits o p.W=false:=by simpa using hw
 unfold rH.jR
 simp only [On,Bool.and_false,uC]
theorem Hh {i:Nat}{oi:Oper}{v:Value}(hi:ops[i]?=some oi)(Jc:∀(j:Nat) (o:Oper) cs b,ops[j]?=some o→o.op≠.select cs b)
  (hQ:∀c a w,¬Q (.panic c) a w) :
  ∀(kW:Nat) (ps:List rH) (listed:Array Bool) (a:Act) (h:Hp),
   (∀j oj,ops[j]?=some oj→j≠i→listed.getD j true=false→(∀e∈oj.after,Region.binds .any e=true→e.on≠i)→oi.apart ops oj=true) →
   i∈Region.ready .any ops listed→YS P ops w0 S oi v a→S h→(∀p∈ps,p.S h) →
   Uo P ops Q w0 kW (⟨i,fun k=>k==i,S⟩::E9 ps i oi) (listed.setIfInBounds i true) (a.put oi.dst v) h→Uo P ops Q w0 (kW+1) ps listed a h:=by
 intro kW
 have KG:∀(n:Nat) (ps:List rH) (listed:Array Bool) (a:Act) (w:World),YS P ops w0 S oi v a→gj w0 w→S w.heap→(∀p∈ps,p.S w.heap) →
   Uo P ops Q w0 n (⟨i,fun k=>k==i,S⟩::E9 ps i oi) (listed.setIfInBounds i true) (a.put oi.dst v) w.heap →
   wpOp P ops Q i (fun a' w'=>gj w0 w'∧(∀p∈sP ps oi,p.S w'.heap)∧Uo P ops Q w0 n (sP ps oi) (listed.setIfInBounds i true) a' w'.heap) a w:=by
  intro n ps listed a w hy hs hS xb H
  refine hy.wpOp hi hs hS fun w' nq hh'=>⟨hs.trans nq,fun p hp=>?_,?_⟩
  ·rw [hh'];exact xb p (dU.1 hp).1
  ·rw [hh']
   exact Iv n _ _ _ _ _ (fun p hp=>bJ _ (NT p hp)) H
 induction kW with
 |zero =>
  intro ps listed a h _ hr hy hS xb H w hs hw
  refine⟨fun h=>(by rw [h]at hr;cases hr),fun j o hj Wv=>?_⟩
  by_cases HY:j=i
  ·subst HY
   rw [hi]at Wv
   obtain rfl:oi=o:=by simpa using Wv
   subst hw
   exact KG 0 ps listed a w hy hs hS xb H
  ·have:=ready_mono hj HY
   rw [H.1]at this
   cases this
 |succ kW ih =>
  intro ps listed a h LO hr hy hS xb H w hs hw
  refine⟨fun h=>(by rw [h]at hr;cases hr),fun j oj hj Wv=>?_⟩
  by_cases HY:j=i
  ·subst HY
   rw [hi]at Wv
   obtain rfl:oi=oj:=by simpa using Wv
   subst hw
   exact KG (kW+1) ps listed a w hy hs hS xb H
  ·subst hw
   have h1:=(H w hs rfl).2 j oj (ready_mono hj HY) Wv
   obtain⟨amY,oj',amF,Fk⟩:=mem_ready.1 hj
   rw [Wv]at amF
   obtain rfl:oj=oj':=by simpa using amF
   have amJ:∀e∈oj.after,Region.binds .any e=true→e.on≠i:=fun e he hb heq=>by
    have h1:=Fk e he hb
    rw [heq,Ky hr]at h1
    cases h1
   have amk:waits oj (fun k=>k==i)=false:=by
    rw [Bool.eq_false_iff]
    intro hc
    unfold waits at hc
    simp only [Array.any_eq_true',eD,beq_iff_eq]at hc
    obtain⟨e,he,hb,heq⟩:=hc
    exact amJ e he hb heq
   have h2:=Sd Wv (LO j oj Wv HY amY amJ) (fun cs b=>Jc i oi cs b hi) (fun cs b=>Jc j oj cs b Wv) hQ hy h1
   have ahW:∀k ok,ops[k]?=some ok→k≠i→(listed.setIfInBounds j true).getD k true=false →
     (∀e∈ok.after,Region.binds .any e=true→e.on≠i)→oi.apart ops ok=true:=fun k ok hk hki hun wX=>by
    refine LO k ok hk hki ?_ wX
    by_cases ZM:j=k
    ·subst ZM;exact amY
    ·rw [getD_set_ne true ZM]at hun;exact hun
   refine wpOp_mono (fun a' w' h3=>?_) h2
   obtain⟨DF,nq,ahI,hP⟩:=h3
   have am3:sP (⟨i,fun k=>k==i,S⟩::E9 ps i oi) oj=⟨i,fun k=>k==i,S⟩::sP (E9 ps i oi) oj:=by
    unfold sP
    rw [fI (by simp [amk])]
   rw [am3]at ahI hP
   have GX:∀p∈ps,waits oj p.W=false→p.jR i oi∈sP (E9 ps i oi) oj:=fun p hp hw=>by
    refine dU.2 ⟨cy.2 ⟨p,hp,rfl⟩,?_⟩
    have e:waits oj (fun k=>p.W k||(k==i&&waits oi p.W))=waits oj p.W:=Sg hj Wv (Ky hr) _ _
    simp only [rH.jR,e,hw,nI]
   have hS':S w'.heap:=ahI ⟨i,fun k=>k==i,S⟩ (bQ ..)
   have Ta:∀p∈sP ps oj,p.S w'.heap:=fun p hp=>by
    obtain⟨hp,hw⟩:=dU.1 hp
    have hx:(p.jR i oi).S w'.heap:=ahI _ (bJ _ (GX p hp (by simpa using hw)))
    exact hx
   refine⟨nq,Ta,ih (sP ps oj) _ a' w'.heap ahW (ready_mono hr (Ne.symm HY)) DF hS' Ta ?_⟩
   rw [Array.setIfInBounds_comm _ _ HY]
   refine Iv _ _ _ _ _ _ (fun p hp=>?_) hP
   rcases ck.1 hp with rfl|hp
   ·exact bQ ..
   ·obtain⟨q,hq,rfl⟩:=cy.1 hp
    obtain⟨hq,hw⟩:=dU.1 hq
    exact bJ _ (GX q hq (by simpa using hw))
end
def evG(ops:Array Oper)(o:Oper)(env:LV)(apo skip:LV→Prop):Prop :=
 match o.guard with
 |none=>apo env
 |some (j,sG) =>
  match(ops[j]?).bind (·.dst)with
  |none=>skip env
  |some s =>
   match env[s]? with
   |some (.bool t)=>bX t (if sG=true then apo (env.set s (.bool true))else skip (env.set s (.bool true))) (if sG=true then skip (env.set s (.bool false))else apo (env.set s (.bool false)))
   |_=>skip env
inductive Cls where
 |pure
 |conv (a:OA) (n:Nat)
 |read
 |look (t:TypeId) (x k:Value) (co:Bool)
 |QG (f:FuncId) (args:LV)
 |DA (f:FuncId) (t:TypeId) (recv:Value) (args:LV)
 |qW
def sw(P:Program)(src dst:TypeId):Value→Cls
 | .slice a n _=>match P.underlying src,P.underlying dst with
  |some (.slice e),some .string=>match P.underlying e with
   |some (.int .u8)=>.conv a n
   |_=>.qW
  |_,_=>.qW
 | .string _=>match P.underlying dst with
  |some (.slice _)=>.qW
  |_=>.pure
 |_=>.pure
theorem FK {P:Program}{src dst:TypeId}{v:Value}{f:FuncId}{args:LV}:sw P src dst v≠.QG f args:=by
 unfold sw
 split
 ·split
  ·split<;>(intro h;cases h)
  ·intro h;cases h
 ·split<;>(intro h;cases h)
 ·intro h;cases h
theorem FL {P:Program}{src dst:TypeId}{v:Value}{f:FuncId}{t:TypeId}{r:Value}{args:LV}:sw P src dst v≠.DA f t r args:=by
 unfold sw
 split
 ·split
  ·split<;>(intro h;cases h)
  ·intro h;cases h
 ·split<;>(intro h;cases h)
 ·intro h;cases h
theorem PF {P:Program}{src dst:TypeId}{v:Value}{t:TypeId}{x k:Value}{co:Bool}:sw P src dst v≠.look t x k co:=by
 unfold sw
 split
 ·split
  ·split<;>(intro h;cases h)
  ·intro h;cases h
 ·split<;>(intro h;cases h)
 ·intro h;cases h
theorem JT {P:Program}{src dst:TypeId}{v:Value}{a:OA}{n:Nat}(h:sw P src dst v=.conv a n):∃c e,v=.slice a n c∧P.underlying src=some (.slice e)∧P.underlying dst=some .string∧P.underlying e=some (.int .u8):=by
 unfold sw at h
 split at h
 ·split at h
  ·rename_i hs hd
   split at h
   ·rename_i he
    simp only [Cls.conv.injEq]at h
    obtain⟨rfl,rfl⟩:=h
    exact⟨_,_,rfl,hs,hd,he⟩
   ·cases h
  ·cases h
 ·split at h<;>cases h
 ·cases h
def If(P:Program)(T:tD)(o:Oper)(env:LV):Cls :=
 match o.op with
 | .load ..=>.read
 | .store ..=>.qW
 | .alloc _=>.qW
 | .box ..=>.qW
 | .buildSlice ..=>.qW
 | .makeMap ..=>.qW
 | .makeSlice ..=>.qW
 | .insert ..=>.qW
 | .lookup t x k co=>.look t (dz env x) (dz env k) co
 | .mapUpdate ..=>.qW
 | .mapEntry ..=>.qW
 | .entryStore ..=>.qW
 | .range ..=>.qW
 | .next ..=>.qW
 | .entry ..=>.qW
 | .makeChan ..=>.qW
 | .defer ..=>.qW
 | .convert src dst x=>sw P src dst (dz env x)
 | .call c =>
  match c.callee with
  | .value f =>
   if Wh f=true then .qW else
   match dz env f with
   | .func (.func g) first gP=>if T.Vr g then .QG g (first.toList++c.args.toList.map (dz env)++gP.toList)else .qW
   |_=>.qW
  | .invoke r m =>
   match T.GP m with
   |some (t,f)=>if T.Vr f then .DA f t (dz env r) (c.args.toList.map (dz env))else .qW
   |none=>.qW
  | .builtin .len=>.pure
  | .builtin .cap=>.pure
  | .builtin .min=>.pure
  | .builtin .max=>.pure
  | .builtin _=>.qW
 |_=>.pure
def ahp(P:Program)(T:tD)(o:Oper)(env:LV):Bool:=match If P T o env with | .qW=>true|_=>false
def valOf:Next→(Value→Prop)→Prop
 | .value v,K=>K v
 |_,_=>False
def evQ(P:Program)(T:tD)(o:Oper)(env:LV)(h:Hp)(K:Value→Option (Hp→Prop)→Prop):Prop :=
 match If P T o env with
 | .pure=>vZ P T o env fun v=>K v none
 | .conv a n=>∃s:ByteArray,Ka h a n s∧K (.string s) (some fun h'=>Ka h' a n s)
 | .read=>qU P (execOp (dz env) o) (match o.op with | .load t _=>T.tk t|_=>[]) h fun nx _=>valOf nx fun v =>
   K v (some fun h'=>qU P (execOp (dz env) o) (match o.op with | .load t _=>T.tk t|_=>[]) h' fun nx' _=>nx'=.value v)
 | .look t x key co=>match P.underlying t with
  |some (.map kt et)=>rk1 T et fun v=>∃ok:Bool,Ke P kt et x key h v ok∧K (if co then .tuple #[v,.bool ok]else v) (some fun h'=>Ke P kt et x key h' v ok)
  |_=>False
 | .QG f args=>bX (T.callee f) (zt (T.rk f) fun v =>
   bq P f args.toArray h (fun v' h'=>v'=v∧h'=h)∧K v (some fun h'=>bq P f args.toArray h' fun v' LY=>v'=v∧LY=h')) False
 | .DA f t recv args=>∃a:OA,recv=.iface t (.pointer a)∧zt (T.rk f) fun v =>
   bq P f (.pointer a::args).toArray h (fun v' h'=>v'=v∧h'=h)∧K v (some fun h'=>bq P f (.pointer a::args).toArray h' fun v' LY=>v'=v∧LY=h')
 | .qW=>False
def au4(i:Nat)(S:Option (Hp→Prop)) (ps:List rH):List rH :=
 match S with
 |none=>ps
 |some S=>⟨i,fun k=>k==i,S⟩::ps
def VH(o:Oper)(h:Hp):List rH→(List rH→Prop)→Prop
 | [],X=>X []
 |p::ps,X=>bX (waits o p.W) (VH o h ps X) (p.S h∧VH o h ps fun qs=>X (p::qs))
def ajf:LN→(Nat→Prop)→Prop
 | [],_=>True
 | [i],φ=>φ i
 |i::j::is,φ=>φ i∧ajf (j::is) φ
def evR(P:Program)(T:tD)(ops:Array Oper)(Q:LV→Hp→Prop):Nat→List rH→Array Bool→LV→Hp→Prop
 | 0,_,listed,env,h=>match Region.ready .any ops listed with | []=>Q env h|_=>False
 |kW+1,ps,listed,env,h =>
  match(Region.ready .any ops listed).find? fun i=>match ops[i]? with|some o=>!ahp P T o env|none=>false with
  |some i =>
   match ops[i]? with
   |some o=>bX (Region.free .any ops listed i)
     (evG ops o env (fun hD=>evQ P T o hD h fun v S=>evR P T ops Q kW (au4 i S (E9 ps i o)) (listed.setIfInBounds i true) (A8 hD o.dst v) h)
      (fun hD=>evR P T ops Q kW (E9 ps i o) (listed.setIfInBounds i true) (A8 hD o.dst undef) h)) False
   |none=>False
  |none =>
   match Region.ready .any ops listed with
   | []=>Q env h
   |r::rs=>ajf (r::rs) fun j =>
    match ops[j]? with
    |some o=>evG ops o env (fun hD=>G5 P T o hD h fun v h'=>VH o h' ps fun qs=>evR P T ops Q kW qs (listed.setIfInBounds j true) (A8 hD o.dst v) h')
      (fun hD=>VH o h ps fun qs=>evR P T ops Q kW qs (listed.setIfInBounds j true) (A8 hD o.dst undef) h)
    |none=>False
def MP(P:Program)(T:tD)(ops:Array Oper):List Oper→LV→Hp→(LV→Hp→Prop)→Prop
 | [],env,h,Q=>Q env h
 |o::rest,env,h,Q=>evG ops o env (fun hD=>G5 P T o hD h fun v h'=>MP P T ops rest (A8 hD o.dst v) h' Q)
   (fun hD=>MP P T ops rest (A8 hD o.dst undef) h Q)
def lU(n:Nat)(l:List (Nat × Value)) (g:Nat→Value):LV:=(List.range n).map fun k=>(l.lookup k).getD (g k)
theorem VS {env:LV}{n:Nat}{l:List (Nat × Value)} (hn:env.length=n) (hl:∀p∈l,env[p.1]?=some p.2):env=lU n l fun k=>env.getD k undef:=by
 subst hn
 apply cG
 intro k
 unfold lU
 by_cases hk:k<env.length
 ·rw [bD,fL hk,dR]
  cases hlk:l.lookup k with
  |none=>simp [hk]
  |some v =>
   have:∀(l:List (Nat × Value)),l.lookup k=some v→(k,v)∈l:=by
    intro l
    induction l with
    |nil=>intro h;cases h
    |cons p l ih =>
     intro h
     obtain⟨a,b⟩:=p
     rw [List.lookup_cons]at h
     split at h
     ·rename_i LW
      obtain rfl:b=v:=by simpa using h
      obtain rfl:k=a:=by simpa using LW
      exact bQ ..
     ·exact bJ _ (ih h)
   exact hl _ (this l hlk)
 ·rw [bV (by omega),bV (by simp;omega)]
theorem vT(s:LN)(env:LV):lU env.length (s.map fun k=>(k,env.getD k undef)) (fun k=>env.getD k undef)=env:=by
 apply cG
 intro k
 unfold lU
 by_cases hk:k<env.length
 ·rw [bD,fL hk,dR]
  have:∀(l:LN) (v:Value),(l.map fun k=>(k,env.getD k undef)).lookup k=some v→v=env.getD k undef:=by
   intro l
   induction l with
   |nil=>intro v h;cases h
   |cons p l ih =>
    intro v h
    rw [cU,List.lookup_cons]at h
    split at h
    ·rename_i LW
     obtain rfl:k=p:=by simpa using LW
     simpa using h.symm
    ·exact ih v h
  cases hlk:(s.map fun k=>(k,env.getD k undef)).lookup k with
  |none=>simp [hk]
  |some v=>rw [this s v hlk];simp [hk]
 ·rw [bV (by simp;omega),bV (by omega)]
abbrev Kc:=Exit→LV→Hp→Prop
def aan(next:LV→Hp→Prop)(Q:Kc):Kc
 | .normal,env,h=>next env h
 |e,env,h=>Q e env h
def As(id:Nat)(Q:Kc):Kc
 | .exit Nn,env,h=>if Nn=id then Q .normal env h else Q (.exit Nn) env h
 |e,env,h=>Q e env h
def sS(I:Nat→LV→Hp→Prop)(n:Nat)(Q:Kc):Kc
 | .normal,env,h=>∃m,m<n∧I m env h
 |e,env,h=>Q e env h
def dO(ev:Kc→LV→Hp→Prop)(Q:Kc)(l:List (Nat × Value)) (N:Nat) (h:Hp):Prop :=
 ∃(I:Nat→LV→Hp→Prop) (n:Nat),(∀g,I n (lU N l g) h)∧∀n env h,I n env h→ev (sS I n Q) env h
def sZ:Code→Nat
 | .region id _ _=>id
 | .seq a _=>sZ a
 | .cond _ a _=>sZ a
 | .block _ c=>sZ c
 | .loop c=>sZ c
 |_=>0
def vR(s:LN)(env:LV):List (Nat × Value):=s.map fun k=>(k,env.getD k undef)
def kJ(P:Program)(T:tD)(lv:Nat→LN):Code→Kc→LV→Hp→Prop
 | .skip,Q,env,h=>Q .normal env h
 | .ret,Q,env,h=>Q .ret env h
 | .exit id,Q,env,h=>Q (.exit id) env h
 | .seq a b,Q,env,h=>kJ P T lv a (aan (kJ P T lv b Q) Q) env h
 | .cond c a b,Q,env,h=>match dz env c with
  | .bool t=>bX t (kJ P T lv a Q env h) (kJ P T lv b Q env h)
  |_=>False
 | .block id c,Q,env,h=>kJ P T lv c (As id Q) env h
 | .loop c,Q,env,h=>dO (kJ P T lv c) Q (vR (lv (sZ c)) env) env.length h
 | .region _ ops tI,Q,env,h =>
  if tI=true then evR P T ops (Q .normal) ops.size [] (Array.replicate ops.size false) env h
  else MP P T ops ops.toList env h (Q .normal)
 |_,_,_,_=>False
def I1(D:List Deferred)(w0:World)(Q:Kc)(e:Exit)(a:Act)(w:World):Prop :=
 gj w0 w∧∃env,a=j9 env D∧match e with | .normal=>Q .normal env w.heap | .exit id=>Q (.exit id) env w.heap | .ret=>Q .ret env w.heap|_=>False
section
variable {P:Program} {T:tD} {D:List Deferred} {w0:World}
theorem bX.split {t:Bool}{A B:Prop}(h:bX t A B):(t=true∧A)∨(t=false∧B):=by
 cases t with
 |true=>exact .inl ⟨rfl,h⟩
 |false=>exact .inr ⟨rfl,h⟩
theorem Nw {ops:Array Oper}{j s:Nat}{env:LV}(hs:(ops[j]?).bind (·.dst)=some s) :
  yielded ops env.toArray j=match env[s]? with|some (.bool b)=>some b|_=>none:=by
 unfold yielded
 rw [hs]
 simp only [dX,pZ]
 rcases env[s]? with _|v
 ·rfl
 ·cases v<;>rfl
theorem xv {env:LV}{s:Nat}{v:Value}(h:env[s]?=some v):env.set s v=env:=by
 apply cG
 intro k
 by_cases hk:s=k
 ·subst hk
  rw [cE (by exact(bp.1 h).1),h]
 ·rw [dl hk]
theorem vq {ops:Array Oper}{o:Oper}{env:LV}{apo skip:LV→Prop}(h:evG ops o env apo skip):
  (Region.wanted o (yielded ops env.toArray)=true∧apo env)∨(Region.wanted o (yielded ops env.toArray)=false∧skip env):=by
 unfold evG at h
 split at h
 ·rename_i hg
  exact .inl ⟨by unfold Region.wanted;rw [hg],h⟩
 ·rename_i j sG hg
  split at h
  ·rename_i hs
   refine .inr ⟨?_,h⟩
   unfold Region.wanted yielded
   simp only [hg,hs]
   cases sG<;>rfl
  ·rename_i s hs
   have hy:=Nw (env:=env) hs
   split at h
   ·rename_i t ht
    rw [ht]at hy
    rcases h.split with⟨rfl,hc⟩|⟨rfl,hc⟩
    ·rw [xv ht]at hc
     cases sG with
     |true=>exact .inl ⟨by unfold Region.wanted;simp only [hg,hy];rfl,by simpa using hc⟩
     |false=>exact .inr ⟨by unfold Region.wanted;simp only [hg,hy];rfl,by simpa using hc⟩
    ·rw [xv ht]at hc
     cases sG with
     |true=>exact .inr ⟨by unfold Region.wanted;simp only [hg,hy];rfl,by simpa using hc⟩
     |false=>exact .inl ⟨by unfold Region.wanted;simp only [hg,hy];rfl,by simpa using hc⟩
   ·rename_i iS
    refine .inr ⟨?_,h⟩
    unfold Region.wanted
    simp only [hg,hy]
    cases sG<;>rfl
theorem yu.wp {o:Oper}{env:LV}{w:World}{K:RP}(hs0:gj w0 w)(h:yu P o env w K){next:Act→World→Prop}{Q:Exit→Act→World→Prop}
  (hn:∀v w',gj w0 w'→K v w'.heap→next (j9 (A8 env o.dst v) D) w'):o.wp P (j9 env D) w next Q:=by
 unfold Oper.wp
 rw [mK]
 rcases h with⟨v,w',hr,hs,hk⟩|⟨f,args,hr,hc⟩
 ·have:=hn v w' (hs0.trans hs) hk
  rw [←om]at this
  rcases hr with hr|⟨hr,rfl⟩
  ·rw [hr,Oper.upon_value];exact this
  ·rw [hr,Oper.upon_skip];exact this
 ·rw [hr,Oper.upon_enter]
  refine(hc w rfl).mono fun e w' ⟨v,he,hs,hk⟩=>?_
  subst he
  have:=hn v w' (hs0.trans hs) hk
  rw [←om]at this
  exact this
theorem C4(hT:mH P T){ops:Array Oper}{Q:Kc}:∀(l:List Oper) (k:Nat) (env:LV) (w:World),(∀i,l[i]?=ops[k+i]?)→gj w0 w →
  MP P T ops l env w.heap (Q .normal)→wpOps P ops (I1 D w0 Q) (List.range' k l.length) (j9 env D) w:=by
 intro l
 induction l with
 |nil=>intro k env w _ hs h;exact⟨hs,env,rfl,h⟩
 |cons o rest ih =>
  intro k env w hl hs h
  have ho:ops[k]?=some o:=by have:=hl 0;simpa using this.symm
  have Ff:∀i,rest[i]?=ops[k+1+i]?:=fun i=>by have:=hl (i+1);rw [show k+(i+1)=k+1+i by omega]at this;simpa using this
  rw [dF,me,wpOps_cons]
  unfold wpOp
  simp only [ho]
  have e:(j9 env D).tmps=env.toArray:=rfl
  rw [e]
  unfold MP at h
  rcases vq h with⟨hw,h⟩|⟨hw,h⟩
  ·rw [if_pos hw]
   exact .inl (yu.wp hs (nB hT h) fun v w' nq hk=>ih (k+1) _ w' Ff nq hk)
  ·rw [hw]
   simp only [dy,if_false]
   rw [om]
   exact ih (k+1) _ w Ff hs h
theorem VK.acw {k:VK}{φ:Value→Prop}(h:k.ex φ):∃v,φ v∧∀ψ:Value→Prop,ψ v→k.ex ψ:=by
 cases k<;>(obtain⟨x,hx⟩:=h;exact⟨_,hx,fun ψ hψ=>⟨x,hψ⟩⟩)
theorem KP {α:Type}:∀(s:Sem α) (vs:List VK) (h:Hp) (K:α→List VK→Prop),qU P s vs h K→∃a uD,K a uD∧qU P s vs h fun a' _=>a'=a:=by
 intro s
 induction s with
 |pure a=>exact fun vs h K hk=>⟨a,vs,hk,rfl⟩
 |load m a k ih =>
  intro vs h K hk
  obtain⟨v,⟨hv,hr⟩,eG⟩:=VK.acw hk
  obtain⟨x,uD,hK,hx⟩:=ih v _ _ _ hr
  exact⟨x,uD,hK,eG _ ⟨hv,hx⟩⟩
 |shape r k ih=>exact fun vs h K hk=>ih _ vs h K hk
 |getObj r k ih =>
  intro vs h K hk
  obtain⟨o,ho,hn,hr⟩:=hk
  obtain⟨x,uD,hK,hx⟩:=ih o _ _ _ hr
  exact⟨x,uD,hK,o,ho,hn,hx⟩
 |program k ih=>exact fun vs h K hk=>ih _ vs h K hk
 |_=>exact fun vs h K hk=>hk.elim
theorem Vg {o:Oper}{c:Call}{f:Operand}{env:LV}{g:FuncId}{first gP:Array Value}(mC:o.op=.call c)(hf:c.callee=.value f)(hv:dz env f=.func (.func g) first gP)
  (hg:vE P g) (w:World):(execOp (dz env) o).run P w=.ok (.enter g (first.toList++c.args.toList.map (dz env)++gP.toList).toArray) w:=by
 have ha:first++c.args.map (dz env)++gP=(first.toList++c.args.toList.map (dz env)++gP.toList).toArray:=by
  apply gd
  simp
 simp only [execOp,mC,run_bind,resolve,hf,hv,Deferred.ofValue,cH,invoke]
 rw [ha,hg]
theorem NS(hT:mH P T){o:Oper}{c:Call}{r:Operand}{m:String}{env:LV}{t:TypeId}{f:FuncId}{a:OA}(mC:o.op=.call c)(hr:c.callee=.invoke r m)(hm:T.GP m=some (t,f))
  (ha:dz env r=.iface t (.pointer a)) (w:World):(execOp (dz env) o).run P w=.ok (.enter f (.pointer a::c.args.toList.map (dz env)).toArray) w:=by
 have hg:=hT.GP m t f hm
 simp only [execOp,mC,run_bind,resolve,hr,ha,cH,invoke]
 have e0:(#[Value.iface t (.pointer a)]++c.args.map (dz env))[0]?=some (Value.iface t (.pointer a)):=by
  rw [nJ (by simp)]
  rfl
 have AK:#[Value.pointer a]++(#[Value.iface t (.pointer a)]++c.args.map (dz env)).extract 1 (#[Value.iface t (.pointer a)]++c.args.map (dz env)).size=(.pointer a::c.args.toList.map (dz env)).toArray:=by
  apply gd
  simp [eT]
 simp only [e0]
 rw [hg,AK]
theorem EN {f:FuncId}{args:Array Value}{v:Value}{w:World}(h:bq P f args w.heap fun v' h'=>v'=v∧h'=w.heap):
  Calls P f args w fun e w'=>e=.returned v∧gj w w'∧w'.heap=w.heap :=
 (h w rfl).mono fun _ _ ⟨_,he,hs,hv,hh⟩=>⟨by rw [he,hv],hs,hh⟩
theorem Za {o:Oper}{src dst e:TypeId}{x:Operand}{env:LV}{w:World}{a:OA}{n c:Nat}{s:ByteArray}(mC:o.op=.convert src dst x)(hx:dz env x=.slice a n c)
  (hs:P.underlying src=some (.slice e)) (hd:P.underlying dst=some .string) (he:P.underlying e=some (.int .u8)) (h:Ka w.heap a n s):(execOp (dz env) o).run P w=.ok (.value (.string s)) w:=by
 obtain⟨hn,hr⟩:=h
 simp only [execOp,mC,hx,run_bind,Go.run_convert_bytes_string w src dst e a n c hs he hd]
 cases a with
 |none =>
  have h0:s.data.toList=[]:=nX.1 hr
  have:s=ByteArray.empty:=by
   cases s with
   |mk d=>simp only [Array.toList_eq_nil_iff]at h0;subst h0;rfl
  subst this
  rfl
 |some a =>
  have hl:(s.data.toList.map fun b=>Value.int .u8 b.toNat).length=n:=by simp [←hn]
  have h1:=run_loadCells (P:=P) hr hl
  have e1:(s.data.toList.map fun b=>Value.int .u8 b.toNat)=(s.data.toList.map fun b=>(b.toNat:Int)).map (Value.int .u8):=by simp
  rw [e1]at h1
  rw [Go.run_bytesToString w a n c _ h1,Fo]
  simp only [cH]
  congr 3
  cases s
  simp
theorem Ts(hT:mH P T){o:Oper}{env:LV}{h:Hp}{K:Value→Option (Hp→Prop)→Prop} (hq:evQ P T o env h K) :
  ∃v S,K v S∧(S.getD (fun _=>True)) h∧∀w:World,(S.getD (fun _=>True)) w.heap→((execOp (dz env) o).run P w=.ok (.value v) w∨∃f args,(execOp (dz env) o).run P w=.ok (.enter f args) w ∧
   Calls P f args w fun e w'=>e=.returned v∧gj w w'∧w'.heap=w.heap):=by
 unfold evQ at hq
 split at hq
 ·obtain⟨v,hv,hk⟩:=zF hT hq
  exact⟨v,none,hk,trivial,fun w _=>.inl (hv w)⟩
 ·rename_i a n fX
  obtain⟨s,S6,hk⟩:=hq
  refine⟨_,_,hk,S6,fun w' hS=>.inl ?_⟩
  unfold If at fX
  split at fX<;>first | (cases fX;done)|skip
  ·rename_i src dst x mC
   obtain⟨c,e,hx,hs,hd,he⟩:=JT fX
   exact Za mC hx hs hd he hS
  ·split at fX
   ·split at fX
    ·cases fX
    ·split at fX
     ·split at fX<;>cases fX
     ·cases fX
   ·split at fX
    ·split at fX<;>cases fX
    ·cases fX
   ·cases fX
   ·cases fX
   ·cases fX
   ·cases fX
   ·cases fX
 ·obtain⟨nx,vs,hk,hr⟩:=KP _ _ _ _ hq
  cases nx<;>first|exact hk.elim|skip
  rename_i v
  refine⟨v,_,hk,hr,fun w' hS=>?_⟩
  obtain⟨nx',uD,Uc,hk'⟩:=nm _ _ _ _ hS
  rw [hk']at Uc
  exact .inl Uc
 ·rename_i t x key co fX
  split at hq
  ·rename_i kt et ht
   unfold rk1 at hq
   split at hq
   ·obtain⟨v,ok,hg,hk⟩:=RK.ow hq
    refine⟨_,_,hk,hg,fun w' hS=>.inl ?_⟩
    unfold If at fX
    split at fX<;>first | (cases fX;done) | (exact absurd fX PF)|skip
    ·rename_i t' xo ko co' mC
     simp only [Cls.look.injEq]at fX
     obtain⟨rfl,rfl,rfl,rfl⟩:=fX
     simp only [execOp,mC,run_bind,EC ht hS,cH]
    ·split at fX
     ·split at fX
      ·cases fX
      ·split at fX
       ·split at fX<;>cases fX
       ·cases fX
     ·split at fX
      ·split at fX<;>cases fX
      ·cases fX
     ·cases fX
     ·cases fX
     ·cases fX
     ·cases fX
     ·cases fX
   ·exact hq.elim
  ·exact hq.elim
 ·rename_i f args fX
  obtain⟨hc,hq⟩:=f7 hq
  obtain⟨v,rP,hk⟩:=oB hq
  have hg:=hT.callee f hc
  refine⟨v,_,hk,rP,fun w' hS=>.inr ⟨f,args.toArray,?_,EN hS⟩⟩
  unfold If at fX
  split at fX<;>first | (cases fX;done) | (exact absurd fX FK) | (exact absurd fX FL)|skip
  rename_i c mC
  split at fX
  ·rename_i f' hf
   split at fX
   ·cases fX
   split at fX
   ·rename_i g first gP hv
    split at fX
    ·simp only [Cls.QG.injEq]at fX
     obtain⟨rfl,rfl⟩:=fX
     exact Vg mC hf hv hg w'
    ·cases fX
   ·cases fX
  ·split at fX
   ·split at fX<;>cases fX
   ·cases fX
  ·cases fX
  ·cases fX
  ·cases fX
  ·cases fX
  ·cases fX
 ·rename_i f t recv args fX
  obtain⟨a,ha,hq⟩:=hq
  obtain⟨v,rP,hk⟩:=oB hq
  refine⟨v,_,hk,rP,fun w' hS=>.inr ⟨f,_,?_,EN hS⟩⟩
  unfold If at fX
  split at fX<;>first | (cases fX;done) | (exact absurd fX FK) | (exact absurd fX FL)|skip
  rename_i c mC
  split at fX
  ·split at fX
   ·cases fX
   ·split at fX
    ·split at fX<;>cases fX
    ·cases fX
  ·rename_i r m hr
   split at fX
   ·rename_i t' f' hm
    split at fX
    ·simp only [Cls.DA.injEq]at fX
     obtain⟨rfl,rfl,rfl,rfl⟩:=fX
     exact NS hT mC hr hm ha w'
    ·cases fX
   ·cases fX
  ·cases fX
  ·cases fX
  ·cases fX
  ·cases fX
  ·cases fX
 ·exact hq.elim
end
section
variable {P:Program} {T:tD} {D:List Deferred} {w0:World}
theorem DZ {ops:Array Oper}{Q:Exit→Act→World→Prop}:∀(kW:Nat) (ps ZF:List rH) (listed:Array Bool) (a:Act) (h:Hp),(∀p∈ZF,p∈ps∨∀h,p.S h) →
  Uo P ops Q w0 kW ps listed a h→Uo P ops Q w0 kW ZF listed a h
 | 0,_,_,_,_,_,_,H=>H
 |kW+1,ps,ZF,_,_,_,Ja,H=>fun w hs hw=>⟨(H w hs hw).1,fun j o hj ho=>by
   have ad5:∀p∈sP ZF o,p∈sP ps o∨∀h,p.S h:=fun p hp=>by
    obtain⟨hp,hw⟩:=dU.1 hp
    exact(Ja p hp).imp (fun h=>dU.2 ⟨h,hw⟩) id
   exact wpOp_mono (fun a' w' h'=>⟨h'.1,fun p hp=>(ad5 p hp).elim (h'.2.1 p) (fun h=>h _),DZ kW _ _ _ a' _ ad5 h'.2.2⟩) ((H w hs hw).2 j o hj ho)⟩
theorem ET {o:Oper}{h:Hp}:∀(ps:List rH) (X:List rH→Prop),VH o h ps X→(∀p∈sP ps o,p.S h)∧X (sP ps o):=by
 intro ps
 induction ps with
 |nil=>exact fun X hX=>⟨fun p hp=>(by cases hp),hX⟩
 |cons p ps ih =>
  intro X hX
  rcases bX.split hX with⟨hw,hX⟩|⟨hw,hS,hX⟩
  ·obtain⟨h1,h2⟩:=ih X hX
   have e:sP (p::ps) o=sP ps o:=gu (by simp [hw])
   rw [e]
   exact⟨h1,h2⟩
  ·obtain⟨h1,h2⟩:=ih _ hX
   have e:sP (p::ps) o=p::sP ps o:=fI (by simp [hw])
   rw [e]
   refine⟨fun q hq=>?_,h2⟩
   rcases ck.1 hq with rfl|hq
   ·exact hS
   ·exact h1 q hq
theorem Nd {φ:Nat→Prop}:∀ {l:LN},ajf l φ→∀i∈l,φ i
 | [],_,_,hi=>by cases hi
 | [i],h,j,hj=>by
  rw [bM]at hj
  rw [hj];exact h
 |i::j::l,h,k,hk=>by
  rcases ck.1 hk with rfl|hk
  ·exact h.1
  ·exact Nd h.2 k hk
theorem H8(hT:mH P T){ops:Array Oper}{Q:Kc}(Jc:Region.noSelect ops=true):∀(kW:Nat) (ps:List rH) (listed:Array Bool) (env:LV) (h:Hp),(∀p∈ps,p.S h) →
  evR P T ops (Q .normal) kW ps listed env h→Uo P ops (I1 D w0 Q) w0 kW ps listed (j9 env D) h:=by
 intro kW
 induction kW with
 |zero =>
  intro ps listed env h _ H
  unfold evR at H
  split at H
  ·rename_i hr
   exact⟨hr,fun w hs hw=>⟨hs,env,rfl,hw▸H⟩⟩
  ·exact H.elim
 |succ kW ih =>
  intro ps listed env h ZL H
  unfold evR at H
  split at H
  ·rename_i i am8
   have hi:i∈Region.ready .any ops listed:=ip am8
   split at H
   ·rename_i o ho
    obtain⟨LO,H⟩:=f7 H
    have ahU:∀S:Hp→Prop,S h→∀p∈E9 ps i o,p.S h:=fun S _ p hp=>by
     obtain⟨q,hq,rfl⟩:=cy.1 hp
     exact ZL q hq
    have etm:(j9 env D).tmps=env.toArray:=rfl
    rcases vq H with⟨hw,H⟩|⟨hw,H⟩
    ·obtain⟨v,S,hR,hS,Ca⟩:=Ts hT H
     have hy:YS P ops w0 (S.getD fun _=>True) o v (j9 env D):=.inl ⟨by rw [etm];exact hw,fun w _ hS=>by rw [mK];exact Ca w hS⟩
     refine Hh ho (Region.noSelect_spec Jc) (fun c a w h=>h.2.elim fun _ h=>h.2) kW ps listed (j9 env D) h (Region.free_spec ho LO) hi hy hS ZL ?_
     rw [om]
     cases S with
     |none =>
      refine DZ kW (E9 ps i o) _ _ _ _ (fun p hp=>?_) (ih _ _ _ _ (ahU (fun _=>True) trivial) hR)
      rcases ck.1 hp with rfl|hp
      ·exact .inr fun _=>trivial
      ·exact .inl hp
     |some S =>
      refine ih _ _ _ _ (fun p hp=>?_) hR
      rcases ck.1 hp with rfl|hp
      ·exact hS
      ·exact ahU S hS p hp
    ·have hy:YS P ops w0 (fun _=>True) o undef (j9 env D):=.inr ⟨by rw [etm];exact hw,rfl⟩
     refine Hh ho (Region.noSelect_spec Jc) (fun c a w h=>h.2.elim fun _ h=>h.2) kW ps listed (j9 env D) h (Region.free_spec ho LO) hi hy trivial ZL ?_
     rw [om]
     refine DZ kW (E9 ps i o) _ _ _ _ (fun p hp=>?_) (ih _ _ _ _ (ahU (fun _=>True) trivial) H)
     rcases ck.1 hp with rfl|hp
     ·exact .inr fun _=>trivial
     ·exact .inl hp
   ·exact H.elim
  ·split at H
   ·rename_i hr
    intro w hs hw
    refine⟨fun _=>⟨hs,env,rfl,hw▸H⟩,fun j o hj=>?_⟩
    rw [hr]at hj
    cases hj
   ·rename_i r rs hr
    intro w hs hw
    refine⟨fun h0=>(by rw [hr]at h0;cases h0),fun j o hj ho=>?_⟩
    rw [hr]at hj
    have H:=Nd H j hj
    simp only [ho]at H
    unfold wpOp
    simp only [ho]
    have etm:(j9 env D).tmps=env.toArray:=rfl
    rw [etm]
    subst hw
    rcases vq H with⟨hw,H⟩|⟨hw,H⟩
    ·rw [if_pos hw]
     refine .inl (yu.wp hs (nB hT H) fun v w' nq hk=>?_)
     obtain⟨h1,h2⟩:=ET _ _ hk
     exact⟨nq,h1,ih _ _ _ _ h1 h2⟩
    ·rw [hw]
     simp only [dy,if_false]
     rw [om]
     obtain⟨h1,h2⟩:=ET _ _ H
     exact⟨hs,h1,ih _ _ _ _ h1 h2⟩
def ajr(P:Program)(D:List Deferred)(w0:World)(c:Code)(ev:Kc→LV→Hp→Prop):Prop :=
 ∀(Q:Kc) (env:LV) (w:World),gj w0 w→ev Q env w.heap→c.wp P (I1 D w0 Q) (j9 env D) w
theorem Sc {c:Code}{Q:Exit→Act→World→Prop}{a:Act}{w:World}(I:Nat→Act→World→Prop)(n:Nat)(h0:I n a w)
  (round:∀n a w,I n a w→c.wp P (Exit.then (fun a' w'=>∃m,m<n∧I m a' w') Q) a w):(Code.loop c).wp P Q a w:=by
 intro b k cs
 have key:∀n a w,I n a w →
   ∃e a' w',Q e a' w'∧Arrives P (lone (b.at a (.code c::.inLoop c::k)) cs w) b k cs e a' w':=by
  intro n
  induction n using Nat.strongRecOn with
  |_ n ih =>
   intro a w hI
   obtain⟨e,Cx,BJ,hq,xS⟩:=round n a w hI b (.inLoop c::k) cs
   cases e with
   |normal =>
    obtain⟨m,fE,WL⟩:=hq
    obtain⟨aiN,ajc,afV,Wt,Jk⟩:=ih m fE Cx BJ WL
    exact⟨aiN,ajc,afV,Wt,.of_steps (Steps.trans xS (.one step_inLoop)) Jk⟩
   |exit id=>exact⟨_,Cx,BJ,hq,.pass (x:=.inLoop c) rfl (fun _ _=>.inl (by simp)) xS⟩
   |goto l=>exact⟨_,Cx,BJ,hq,.pass (x:=.inLoop c) rfl (fun _ _=>.inl (by simp)) xS⟩
   |ret=>exact⟨_,Cx,BJ,hq,.pass (x:=.inLoop c) rfl (fun _ _=>.inl (by simp)) xS⟩
   |panic ch=>exact⟨_,Cx,BJ,hq,.pass (x:=.inLoop c) rfl (fun _ _=>.inl (by simp)) xS⟩
   |outgrown=>exact⟨_,Cx,BJ,hq,.pass (x:=.inLoop c) rfl (fun _ _=>.inl (by simp)) xS⟩
 obtain⟨e,a',w',hq,xS⟩:=key n a w h0
 exact⟨e,a',w',hq,.of_steps (.one step_loop) xS⟩
def kR:Code→Bool
 | .seq a b=>kR a&&kR b
 | .cond _ a b=>kR a&&kR b
 | .block _ c=>kR c
 | .loop c=>kR c
 | .region _ ops tI=>!tI||Region.noSelect ops
 |_=>true
theorem sF {lv:Nat→LN}(hm:P.follows .mixedOrders=true)(hT:mH P T):∀(c:Code),kR c=true→ajr P D w0 c (kJ P T lv c):=by
 intro c
 induction c with
 |skip=>exact fun _ Q env w hs h=>wp_skip ⟨hs,env,rfl,h⟩
 |ret=>exact fun _ Q env w hs h=>wp_ret ⟨hs,env,rfl,h⟩
 |exit id=>exact fun _ Q env w hs h=>wp_exit ⟨hs,env,rfl,h⟩
 |seq a b I6 I5 =>
  intro hn Q env w hs h
  simp only [kR,eD]at hn
  refine wp_seq (wp_mono (I6 hn.1 _ env w hs h) fun e a' w' hl=>?_)
  obtain⟨nq,hD,rfl,hl⟩:=hl
  cases e<;>first|exact hl.elim|exact⟨nq,hD,rfl,hl⟩|exact I5 hn.2 Q hD w' nq hl
 |cond c a b I6 I5 =>
  intro hn Q env w hs h
  simp only [kR,eD]at hn
  unfold kJ at h
  split at h
  ·rename_i t hc
   have tG:(j9 env D).eval c=.bool t:=by rw [mK];exact hc
   rcases h.split with⟨rfl,hx⟩|⟨rfl,hx⟩
   ·exact wp_cond_true tG (I6 hn.1 Q env w hs hx)
   ·exact wp_cond_false tG (I5 hn.2 Q env w hs hx)
  ·exact h.elim
 |block id c ih =>
  intro hn Q env w hs h
  refine wp_block (wp_mono (ih hn _ env w hs h) fun e a' w' hl=>?_)
  obtain⟨nq,hD,rfl,hl⟩:=hl
  cases e with
  |exit Nn =>
   show if Nn=id then _ else _
   simp only [As]at hl
   split at hl
   ·rename_i iA;rw [if_pos iA];exact⟨nq,hD,rfl,hl⟩
   ·rename_i iA;rw [if_neg iA];exact⟨nq,hD,rfl,hl⟩
  |_=>first|exact hl.elim|exact⟨nq,hD,rfl,hl⟩
 |loop c ih =>
  intro hn Q env w hs h
  obtain⟨I,n,hg,round⟩:=h
  have h0:I n env w.heap:=by
   have:=hg fun k=>env.getD k undef
   have e:lU env.length (vR (lv (sZ c)) env) (fun k=>env.getD k undef)=env:=vT _ _
   rwa [e]at this
  refine Sc (fun n a w=>gj w0 w∧∃env,a=j9 env D∧I n env w.heap) n ⟨hs,env,rfl,h0⟩ fun n a w hI=>?_
  obtain⟨nq,hD,rfl,hI⟩:=hI
  refine wp_mono (ih hn _ hD w nq (round n hD w.heap hI)) fun e a' w' hl=>?_
  obtain⟨LC,C6,rfl,hl⟩:=hl
  cases e<;>first|exact hl.elim|exact⟨LC,C6,rfl,hl⟩ | (obtain⟨m,fE,hm⟩:=hl;exact⟨m,fE,LC,C6,rfl,hm⟩)
 |region id ops tI =>
  intro hn Q env w hs h
  unfold kJ at h
  cases tI with
  |false =>
   simp only [dy,if_false]at h
   refine wp_region ?_
   have:=C4 (P:=P) (D:=D) (w0:=w0) hT (ops:=ops) ops.toList 0 env w (fun i=>by simp) hs h
   rw [fx]at this
   rwa [lC]
  |true =>
   simp only [if_true]at h
   have Jc:Region.noSelect ops=true:=by simpa [kR]using hn
   refine wp_region_any hm ?_
   exact zK ops.size [] _ _ {w with drawn:=w.drawn+1} ⟨hs.1,hs.2.1,hs.2.2.1,Nat.le_succ_of_le hs.2.2.2⟩ (H8 hT Jc ops.size [] _ env w.heap (fun p hp=>by cases hp) h)
 |_=>exact fun _ Q env w hs h=>h.elim
def eJ(P:Program)(fn:Func)(ik:List VK)(R:RP):Kc
 | .normal,env,h=>qU P (results fn env.toArray) ik h fun v _=>R v h
 | .ret,env,h=>qU P (results fn env.toArray) ik h fun v _=>R v h
 |_,_,_=>False
def ue(fn:Func)(args:LV):LV:=args++List.replicate (fn.ntmps-args.length) undef
def evF(P:Program)(T:tD)(lv:Nat→LN)(fn:Func)(c:Code)(ik:List VK)(args:LV)(h:Hp)(R:RP):Prop :=
 kJ P T lv c (eJ P fn ik R) (ue fn args) h
theorem wj {lv:Nat→LN}(hm:P.follows .mixedOrders=true)(hT:mH P T){f:FuncId}{fn:Func}{c:Code}{ik:List VK}{args:LV}{h:Hp}{R:RP}(hf:P.funcs[f]?=some fn)(hb:fn.body=some c)
  (hn:kR c=true) (he:evF P T lv fn c ik args h R):bq P f args.toArray h R:=by
 intro w hw
 subst hw
 refine calls_of_wp hf hb ?_
 have key:=sF (D:=[]) (w0:=w) hm hT c hn _ _ w (gj.refl _) he
 have e:({tmps:=args.toArray++Array.replicate (fn.ntmps-args.toArray.size) undef,defers:=[]}:Act)=j9 (ue fn args) []:=by
  unfold j9 ue
  congr 1
  apply gd
  simp
 rw [e]
 refine wp_mono key fun e a w' hl=>?_
 obtain⟨hs,env,rfl,hl⟩:=hl
 cases e<;>first|exact hl.elim|skip
 all_goals
  obtain⟨v,vs,hr,hk⟩:=nm _ _ _ _ hl
  exact⟨rfl,v,hr,v,rfl,hs,hk⟩
end
def gi {α:Type}(x:α)(K:α→Prop):Prop:=K x
def nb(h:Hp):Addr:=⟨h.size,0,none⟩
def ot(k:IntKind)(x y:Int):Int:=k.wrap ((BitVec.ofInt k.bits x &&& BitVec.ofInt k.bits y).toNat:Int)
def Oa(k:IntKind)(x y:Int):Int:=k.wrap ((BitVec.ofInt k.bits x |||BitVec.ofInt k.bits y).toNat:Int)
def yX(k:IntKind)(x y:Int):Int:=k.wrap ((BitVec.ofInt k.bits x ^^^ BitVec.ofInt k.bits y).toNat:Int)
def jr(k:IntKind)(x y:Int):Int:=k.wrap ((BitVec.ofInt k.bits x &&& ~~~(BitVec.ofInt k.bits y)).toNat:Int)
def Av(e sz ze:Nat)(z:Array Value)(jc:OA)(n c need:Nat)(fz:LV)(h:Hp)(K:OA→Nat→Nat→Hp→Prop):Prop :=
 (need≤c→Bl h jc (n*sz) fz fun h'=>K jc need c h') ∧
 (c<need→(2*need+768)*ze≤2 ^ 48∧need<2 ^ 62∧∃B2,dZ h jc B2∧B2.length=n*sz ∧
  ∀nc,need≤nc→nc<2 ^ 63→K (some ⟨h.size,0,none⟩) need nc (h.push (.cells (B2.toArray++fz.toArray++ja z ((nc-need)*z.size)) e)))
def im(e sz ze:Nat)(z:Array Value)(jc:OA)(n c:Nat)(b2:OA)(m:Nat)(h:Hp)(K:OA→Nat→Nat→Hp→Prop):Prop :=
 ∃fz,dZ h b2 fz∧fz.length=m*sz∧Av e sz ze z jc n c (n+m) fz h K
def au1(e sz ze:Nat)(z:Array Value)(jc:OA)(n c:Nat)(m:Int)(h:Hp)(K:OA→Nat→Nat→Hp→Prop):Prop :=
 (0≤m∧m<2 ^ 62)∧m*ze≤2 ^ 48∧Av e sz ze z jc n c (n+m.toNat) (ja z (m.toNat*z.size)).toList h K
def RU(sz:Nat)(jc:OA)(n:Nat)(b2:OA)(m:Nat)(h:Hp)(K:Int→Hp→Prop):Prop :=
 ∃fz,dZ h b2 fz∧fz.length=min m n*sz∧Bl h jc 0 fz fun h'=>K (min m n:Nat) h'
def sub:LN→Code→Code
 | [],c=>c
 | 0::π,.seq a _=>sub π a
 |_::π,.seq _ b=>sub π b
 | 0::π,.cond _ a _=>sub π a
 |_::π,.cond _ _ b=>sub π b
 |_::π,.block _ c=>sub π c
 |_::π,.loop c=>sub π c
 |_,c=>c
def dW(P:Program)(T:tD)(lv:Nat→LN):LN→Code→List (Kc→Kc)→Kc→Kc
 | [],_,_,Q=>Q
 | 0::π,.seq a b,lk,Q=>dW P T lv π a lk (aan (kJ P T lv b Q) Q)
 |_::π,.seq _ b,lk,Q=>dW P T lv π b lk Q
 | 0::π,.cond _ a _,lk,Q=>dW P T lv π a lk Q
 |_::π,.cond _ _ b,lk,Q=>dW P T lv π b lk Q
 |_::π,.block id c,lk,Q=>dW P T lv π c lk (As id Q)
 |_::π,.loop c,k::lk,Q=>dW P T lv π c lk (k Q)
 |_,_,_,Q=>Q
def P7(k:IntKind)(env:LV)(s:Nat)(K:Int→Prop):Prop:=match env[s]? with|some (.int k' n)=>bX (k==k') (K n) False|_=>False
def P5(env:LV)(s:Nat)(K:OA→Prop):Prop:=match env[s]? with|some (.pointer p)=>K p|_=>False
def P8(env:LV)(s:Nat)(K:Addr→Prop):Prop:=match env[s]? with|some (.pointer (some p))=>K p|_=>False
def P6(env:LV)(s:Nat)(K:Sl→Prop):Prop:=match env[s]? with|some (.slice a n c)=>K ⟨a,n,c⟩|_=>False
def P4(env:LV)(s:Nat)(K:Value→Prop):Prop:=match env[s]? with|some v=>K v|_=>False
def adR(env:LV)(n:Nat)(K:Prop):Prop:=bX (env.length==n) K False
theorem P7.out {k:IntKind}{env:LV}{s:Nat}{K:Int→Prop}(h:P7 k env s K):∃n,env[s]?=some (.int k n)∧K n:=by
 unfold P7 at h
 split at h
 ·rename_i k' n he
  obtain⟨hk,hc⟩:=f7 h
  obtain rfl:k=k':=by simpa using hk
  exact⟨n,he,hc⟩
 ·exact h.elim
theorem P5.out {env:LV}{s:Nat}{K:OA→Prop}(h:P5 env s K):∃n,env[s]?=some (.pointer n)∧K n:=by
 unfold P5 at h;split at h
 ·exact⟨_,‹_›,h⟩
 ·exact h.elim
theorem P8.out {env:LV}{s:Nat}{K:Addr→Prop}(h:P8 env s K):∃n,env[s]?=some (.pointer (some n))∧K n:=by
 unfold P8 at h;split at h
 ·exact⟨_,‹_›,h⟩
 ·exact h.elim
theorem P6.out {env:LV}{s:Nat}{K:Sl→Prop}(h:P6 env s K):∃n:Sl,env[s]?=some (.slice n.a n.n n.c)∧K n:=by
 unfold P6 at h;split at h
 ·exact⟨⟨_,_,_⟩,‹_›,h⟩
 ·exact h.elim
theorem P4.out {env:LV}{s:Nat}{K:Value→Prop}(h:P4 env s K):∃n,env[s]?=some n∧K n:=by
 unfold P4 at h;split at h
 ·exact⟨_,‹_›,h⟩
 ·exact h.elim
theorem M4 {P:Program}{f:FuncId}{fn:Func}(hf:P.funcs[f]?=some fn)(hn:(fn.name == "runtime.NumGoroutine")=false) (hb:fn.body.isSome=true):vE P f:=by
 intro args w
 unfold callFunc
 simp only [run_bind,run_program,hf,hn,dy,if_false]
 have fV:fn.body.isNone=false:=by cases h:fn.body<;>simp_all
 simp only [fV,dy,if_false,cH]
theorem Ks(x:Int):wrap .i64 x=if 9223372036854775808≤x%18446744073709551616 then x%18446744073709551616-18446744073709551616 else x%18446744073709551616:=by
 unfold IntKind.wrap
 simp [IntKind.bits,IntKind.signed]
theorem tL(x:Int):wrap .u64 x=x%18446744073709551616:=by
 unfold IntKind.wrap
 simp [IntKind.bits,IntKind.signed]
theorem bU {x:Int}(h0:-9223372036854775808≤x)(h1:x<9223372036854775808):wrap .i64 x=x:=by
 rw [Ks]
 split<;>omega
theorem eN {x:Int}(h0:0≤x)(h1:x<18446744073709551616):wrap .u64 x=x:=by
 rw [tL]
 omega
theorem Un {x:Int}:wrap .u8 x=x%256:=by
 unfold IntKind.wrap
 simp [IntKind.bits,IntKind.signed]
theorem oq(n:Nat):BitVec.ofInt 64 (n:Int)=BitVec.ofNat 64 n:=by
 apply BitVec.eq_of_toNat_eq
 simp
theorem vC {a b:Nat}(ha:a<18446744073709551616)(hb:b<18446744073709551616):ot .u64 (a:Int) (b:Int)=((a &&& b:Nat):Int):=by
 show wrap .u64 (((BitVec.ofInt 64 (a:Int) &&& BitVec.ofInt 64 (b:Int):BitVec 64).toNat:Nat):Int)=_
 rw [oq,oq,BitVec.toNat_and,BitVec.toNat_ofNat,BitVec.toNat_ofNat,fS ha,fS hb]
 exact eN (by omega) (by have:=Nat.and_le_left (n:=a) (m:=b);omega)
theorem yF {a b:Nat}(ha:a<18446744073709551616)(hb:b<18446744073709551616):Oa .u64 (a:Int) (b:Int)=((a |||b:Nat):Int):=by
 show wrap .u64 (((BitVec.ofInt 64 (a:Int) |||BitVec.ofInt 64 (b:Int):BitVec 64).toNat:Nat):Int)=_
 rw [oq,oq,BitVec.toNat_or,BitVec.toNat_ofNat,BitVec.toNat_ofNat,fS ha,fS hb]
 have:a |||b<2 ^ 64:=uk (by simpa using ha) (by simpa using hb)
 exact eN (by omega) (by omega)
theorem nf {n k:Nat}(h:n<2 ^ k):∀j,k≤j→n.testBit j=false:=fun j hj =>
 Nat.testBit_lt_two_pow (bZ h (fQ (by omega) hj))
theorem vJ(i:Nat):(9223372036854775808:Nat).testBit i=decide (i=63):=by
 rw [show (9223372036854775808:Nat)=2 ^ 63 by decide,Nat.testBit_two_pow]
 rw [rN];simp [eq_comm]
theorem Zn {a:Nat}(ha:a<18446744073709551616):a &&& 9223372036854775808=if a<9223372036854775808 then 0 else 9223372036854775808:=by
 apply nH
 intro i
 rw [Nat.testBit_and,vJ]
 by_cases hi:i=63
 ·subst hi
  split
  ·rename_i h
   simp only [decide_true,Bool.and_true,Nat.zero_testBit]
   exact nf (k:=63) h 63 (bH _)
  ·rename_i h
   simp only [decide_true,Bool.and_true]
   rw [vJ,pI]
   simp
   omega
 ·simp only [hi,decide_false,Bool.and_false]
  split
  ·simp
  ·rw [vJ];simp [hi]
theorem Io {a:Int}(h0:0≤a)(ha:a<18446744073709551616):ot .u64 a (9223372036854775808:Int)=if a<9223372036854775808 then 0 else 9223372036854775808:=by
 obtain⟨n,rfl⟩:=dp h0
 have hn:n<18446744073709551616:=by omega
 have:=vC (a:=n) (b:=9223372036854775808) hn (by omega)
 rw [show ((9223372036854775808:Nat):Int)=(9223372036854775808:Int)from rfl]at this
 rw [this,Zn hn]
 by_cases h:n<9223372036854775808
 ·rw [if_pos h,if_pos (by omega)];rfl
 ·rw [if_neg h,if_neg (by omega)];rfl
theorem Ul {n:Nat}(hn:n<18446744073709551616)(hg:9223372036854775808≤n):((BitVec.ofNat 64 n) &&& ~~~(BitVec.ofNat 64 9223372036854775808)).toNat=n-9223372036854775808:=by
 apply nH
 intro i
 rw [BitVec.testBit_toNat,BitVec.getLsbD_and,BitVec.getLsbD_not,←BitVec.testBit_toNat,←BitVec.testBit_toNat,BitVec.toNat_ofNat,BitVec.toNat_ofNat,fS hn,fS (by omega),vJ]
 have Ja:n=9223372036854775808+(n-9223372036854775808):=by omega
 have hm:n-9223372036854775808<2 ^ 63:=by omega
 by_cases hi:i<64
 ·by_cases h63:i=63
  ·subst h63
   rw [nf hm 63 (bH _)];simp
  ·have:n.testBit i=(n-9223372036854775808).testBit i:=by
    conv=>lhs;rw [Ja,show (9223372036854775808:Nat)=2 ^ 63 by decide]
    rw [Nat.testBit_two_pow_add_gt (by omega)]
   simp [this,h63,hi]
 ·rw [nf hm i (by omega)]
  rw [nf (k:=64) (by omega) i (by omega)];simp
theorem aox {a:Int}(h0:9223372036854775808≤a)(ha:a<18446744073709551616):jr .u64 a (9223372036854775808:Int)=a-9223372036854775808:=by
 obtain⟨n,rfl⟩:=dp (show (0:Int)≤a by omega)
 have e:BitVec.ofInt 64 (9223372036854775808:Int)=BitVec.ofNat 64 9223372036854775808:=oq 9223372036854775808
 show wrap .u64 (((BitVec.ofInt 64 (n:Int) &&& ~~~(BitVec.ofInt 64 (9223372036854775808:Int)):BitVec 64).toNat:Nat):Int)=_
 rw [e,oq,Ul (by omega) (by omega)]
 rw [eN (by omega) (by omega)]
 omega
theorem aaT {n:Nat}(hn:n<9223372036854775808):9223372036854775808 |||n=9223372036854775808+n:=by
 rw [show (9223372036854775808:Nat)=2 ^ 63*1 by decide]
 exact(kG hn 1).symm
theorem KX {a:Int}(h0:0≤a)(ha:a<9223372036854775808):Oa .u64 (9223372036854775808:Int) a=9223372036854775808+a:=by
 obtain⟨n,rfl⟩:=dp h0
 have:=yF (a:=9223372036854775808) (b:=n) (by omega) (by omega)
 rw [show ((9223372036854775808:Nat):Int)=(9223372036854775808:Int)from rfl]at this
 rw [this,aaT (by omega)]
 rfl
theorem ri(n k:Nat):Int.fdiv (n:Int) (2 ^ k)=((n / 2 ^ k:Nat):Int):=by
 rw [Int.fdiv_eq_ediv_of_nonneg _ (by exact Int.pow_nonneg (by omega))]
 norm_cast
theorem yw {a b:Int}(h:0≤a):Int.tdiv a b=a / b:=fD h
theorem Dv {a b:Int}(h:0≤a):Int.tmod a b=a%b:=Int.tmod_eq_emod_of_nonneg h
theorem Zo {n:Nat}(hn:n<18446744073709551616):ot .u64 (n:Int) (1:Int)=((n%2:Nat):Int):=by
 have:=vC (a:=n) (b:=1) hn (by omega)
 rw [show ((1:Nat):Int)=(1:Int)from rfl]at this
 rw [this,Nat.and_one_is_mod]
end Go.Ev
