/- The program's Wait in memory: what it is / The program's Wait: who waits, who is due / The program's Wait: who is due; the places, as they were given; what speaks against a Block / The program's Wait: places named first; what speaks against a Block. No condition but that these are ones. -/
import Derived.Test.YtfilpdcphgmhgaaF5
import Derived.Test.YtfilpdcphgmhgaaF6
set_option linter.all false
set_option maxRecDepth 1000000
namespace Go.Ev
open Go.Proofs
abbrev Plc:=Int × ByteArray
structure Wtr where
 conn:Int
 kind:Int
 pls:List Plc
 til:Int
def plC (p:Plc):List Value:=[.int .i64 p.1,.string p.2]
def LinK (v:Value):Prop:=∃ (a:Int) (s:ByteArray) (k:Int),v=.agg #[.int .i64 a,.string s,.int .i64 k]
theorem klaw_who:KLaw Try.prog 3 IntK:=klaw_int (by kernel_rfl)
theorem eq_lin (a b k l:Int) (s t:ByteArray):eqTy Try.prog 20 73 (.agg #[.int .i64 a,.string s,.int .i64 k]) (.agg #[.int .i64 b,.string t,.int .i64 l])=some (((a == b) && ((s == t) && true)) && ((k == l) && true)):=by kernel_rfl
theorem chk_lin (em:Bool) (a k:Int) (s:ByteArray) (w:World):(Instr.checkKey em 10000 73 (.agg #[.int .i64 a,.string s,.int .i64 k])).run Try.prog w=.ok () w:=by cases em <;> kernel_rfl
theorem klaw_lines:KLaw Try.prog 73 LinK:=by
 refine klaw_struct Try.underlying73 (fun em v w hv=>?_) (fun x y hx hy=>?_) fun v hv=>?_
 ·obtain ⟨a,s,k,rfl⟩:=hv
  exact chk_lin em a k s w
 ·obtain ⟨a,s,k,rfl⟩:=hx
  obtain ⟨b,t,l,rfl⟩:=hy
  refine ⟨_,eq_lin a b k l s t,?_⟩
  constructor
  ·intro h
   simp only [Bool.and_true,Bool.and_eq_true,beq_iff_eq,Go.MapKept.bytes_beq] at h
   obtain ⟨⟨h1,h2⟩,h3⟩:=h
   rw [h1,h2,h3]
  ·intro h
   have h':(#[Value.int .i64 a,.string s,.int .i64 k]:Array Value)=#[.int .i64 b,.string t,.int .i64 l]:=Value.agg.inj h
   have h2:=congrArg Array.toList h'
   simp only [List.cons.injEq,Value.int.injEq,Value.string.injEq,and_true,true_and] at h2
   obtain ⟨h1,h2,h3⟩:=h2
   simp only [Bool.and_true,Bool.and_eq_true,beq_iff_eq,Go.MapKept.bytes_beq]
   exact ⟨⟨h1,h2⟩,h3⟩
 ·obtain ⟨a,s,k,rfl⟩:=hv
  simp [Instr.sameBits,Go.MapKept.bytes_beq]
structure PW where
 w:Wtr
 turn:Nat
 born:Nat
 sl:Sl
 pb:Nat
def PW.val (x:PW):Value:=.agg #[.int .i64 x.w.kind,.slice x.sl.a x.sl.n x.sl.c,.int .u64 x.w.til,.int .i64 (x.turn:Nat)]
def PW.ent (x:PW):MapEntry:={ key:=.int .i64 x.w.conn,val:=x.val,born:=x.born }
structure LN where
 key:Plc
 kind:Int
 sl:Sl
 b:Nat
 cs:List Int
 born:Nat
def lnK (p:Plc) (k:Int):Value:=.agg #[.int .i64 p.1,.string p.2,.int .i64 k]
def LN.ent (y:LN):MapEntry:={ key:=lnK y.key y.kind,val:=.slice y.sl.a y.sl.n y.sl.c,born:=y.born }
theorem lnK_inj {p q:Plc} {k l:Int} (h:lnK p k=lnK q l):p=q∧k=l:=by
 have h':(#[Value.int .i64 p.1,.string p.2,.int .i64 k]:Array Value)=#[.int .i64 q.1,.string q.2,.int .i64 l]:=Value.agg.inj h
 have h2:=congrArg Array.toList h'
 simp only [List.cons.injEq,Value.int.injEq,Value.string.injEq,and_true,true_and] at h2
 exact ⟨Prod.ext h2.1 h2.2.1,h2.2.2⟩
structure WP where
 wb:Nat
 r1:Nat
 r2:Nat
 turns:Nat
 c1:Nat
 c2:Nat
 ws:List PW
 ls:List LN
def wants (w:Wtr) (p:Plc) (k:Int):Bool:=decide (w.kind=k) && w.pls.any fun q=>decide (q=p)
def connsOf (ws:List PW) (p:Plc) (k:Int):List Int:=(ws.filter fun x=>wants x.w p k).map (·.w.conn)
def lineOf (ls:List LN) (p:Plc) (k:Int):List Int:=match ls.find? (fun y=>decide (y.key=p∧y.kind=k)) with | some y=>y.cs | none=>[]
structure PWOk (h:Hp) (x:PW):Prop where
 a:x.sl.a=some (ad x.pb)
 n:x.sl.n=x.w.pls.length
 row:∃ junk,Row h x.pb (x.w.pls.flatMap plC ++ junk)
 c0:0 ≤ x.w.conn∧x.w.conn < 8
 p1:1 ≤ x.w.pls.length∧x.w.pls.length ≤ 64
 tl:0 ≤ x.w.til∧x.w.til ≤ 4503599627370496
 cap:x.sl.n ≤ x.sl.c
structure LNOk (h:Hp) (y:LN):Prop where
 a:y.sl.a=some (ad y.b)
 n:y.sl.n=y.cs.length
 ne:y.cs ≠ []
 row:∃ junk,Row h y.b (y.cs.map iv ++ junk)∧y.cs.length + junk.length=y.sl.c
def WP.foot (W:WP) (b:Nat):Prop:=b=W.wb ∨ b=W.r1 ∨ b=W.r2 ∨ (∃ x ∈ W.ws,x.pb=b) ∨ ∃ y ∈ W.ls,y.b=b
structure WMem (h:Hp) (W:WP):Prop where
 row:Row h W.wb [.map (some W.r1),.map (some W.r2),.int .i64 (W.turns:Nat)]
 m1:h[W.r1]?=some (.map (W.ls.map LN.ent).toArray W.c1)
 m2:h[W.r2]?=some (.map (W.ws.map PW.ent).toArray W.c2)
 pw:∀ x ∈ W.ws,PWOk h x
 ln:∀ y ∈ W.ls,LNOk h y
 r12:W.r1 ≠ W.r2
 lb:(W.ls.map (·.b)).Nodup
 lw:∀ y ∈ W.ls,y.b ≠ W.wb
 lp:∀ y ∈ W.ls,∀ x ∈ W.ws,x.pb ≠ y.b
 pwb:∀ x ∈ W.ws,x.pb ≠ W.wb
 bn1:(W.ls.map (·.born)).Nodup
 bn2:(W.ws.map (·.born)).Nodup
 lt1:∀ y ∈ W.ls,y.born < W.c1
 lt2:∀ x ∈ W.ws,x.born < W.c2
 cn:(W.ws.map (·.w.conn)).Nodup
 kn:(W.ls.map fun y=>(y.key,y.kind)).Nodup
 tn:W.ws.Pairwise fun a b=>a.turn < b.turn
 tu:∀ x ∈ W.ws,x.turn ≤ W.turns
 tl:W.turns ≤ 1000000
/-- What the lines say of those who wait. -/
def Lined (W:WP):Prop:=∀ p k,lineOf W.ls p k=connsOf W.ws p k
structure WRep (h:Hp) (W:WP):Prop where
 m:WMem h W
 l:Lined W
section
variable {h h':Hp} {W:WP} {R:Value→Hp→Prop}
theorem row_map {b:Nat} {cs:List Value} {es:Array MapEntry} {clk:Nat} (r:Row h b cs) (m:h[b]?=some (.map es clk)):False:=by
 obtain ⟨t,ht⟩:=r
 rw [m] at ht
 cases ht
theorem PWOk.keep {x:PW} {S:Nat→Prop} (p:PWOk h x) (k:Kept S h h') (hS:¬ S x.pb):PWOk h' x:=by
 obtain ⟨junk,r⟩:=p.row
 exact ⟨p.a,p.n,⟨junk,kept_row k r hS⟩,p.c0,p.p1,p.tl,p.cap⟩
theorem LNOk.keep {y:LN} {S:Nat→Prop} (p:LNOk h y) (k:Kept S h h') (hS:¬ S y.b):LNOk h' y:=by
 obtain ⟨junk,r,e⟩:=p.row
 exact ⟨p.a,p.n,p.ne,junk,kept_row k r hS,e⟩
theorem PWOk.lt {x:PW} (p:PWOk h x):x.pb < h.size:=by obtain ⟨junk,r⟩:=p.row; exact row_lt r
theorem LNOk.lt {y:LN} (p:LNOk h y):y.b < h.size:=by obtain ⟨junk,r,_⟩:=p.row; exact row_lt r
theorem WMem.keep {S:Nat→Prop} (x:WMem h W) (k:Kept S h h') (hS:∀ b,W.foot b→¬ S b):WMem h' W :=
 ⟨kept_row k x.row (hS _ (.inl rfl)),kept_ob k x.m1 (hS _ (.inr (.inl rfl))),kept_ob k x.m2 (hS _ (.inr (.inr (.inl rfl)))),fun y hy=>(x.pw y hy).keep k (hS _ (.inr (.inr (.inr (.inl ⟨y,hy,rfl⟩))))),fun y hy=>(x.ln y hy).keep k (hS _ (.inr (.inr (.inr (.inr ⟨y,hy,rfl⟩))))),
  x.r12,x.lb,x.lw,x.lp,x.pwb,x.bn1,x.bn2,x.lt1,x.lt2,x.cn,x.kn,x.tn,x.tu,x.tl⟩
theorem WRep.keep {S:Nat→Prop} (x:WRep h W) (k:Kept S h h') (hS:∀ b,W.foot b→¬ S b):WRep h' W:=⟨x.m.keep k hS,x.l⟩
theorem WRep.keepN (x:WRep h W) (k:Kept N h h'):WRep h' W:=x.keep k fun _ _=>_root_.id
theorem WMem.foot_lt (x:WMem h W) {b:Nat} (hb:W.foot b):b < h.size:=by
 rcases hb with e | e | e | ⟨y,hy,e⟩ | ⟨y,hy,e⟩
 ·rw [e]; exact row_lt x.row
 ·rw [e]; exact ob_lt x.m1
 ·rw [e]; exact ob_lt x.m2
 ·rw [← e]; exact (x.pw y hy).lt
 ·rw [← e]; exact (x.ln y hy).lt
theorem WMem.c0 (x:WMem h W):cell h (ad W.wb)=some (.map (some W.r1)):=cell_row x.row 0
theorem WMem.c1 (x:WMem h W):cell h ((ad W.wb).add 1)=some (.map (some W.r2)):=by rw [add_ad]; exact cell_row x.row 1
theorem WMem.c2 (x:WMem h W):cell h ((ad W.wb).add 2)=some (.int .i64 (W.turns:Nat)):=by rw [add_ad]; exact cell_row x.row 2
theorem nodup_inj {α β:Type} {f:α→β} {l:List α} (hn:(l.map f).Nodup) {g:α→Value} (hg:∀ a ∈ l,∀ b ∈ l,g a=g b→f a=f b):(l.map g).Nodup:=by
 induction l with
 | nil=>exact List.nodup_nil
 | cons a l ih =>
  rw [List.map_cons,List.nodup_cons] at hn ⊢
  refine ⟨fun hm=>hn.1 ?_,ih hn.2 fun x hx y hy=>hg x (List.mem_cons_of_mem _ hx) y (List.mem_cons_of_mem _ hy)⟩
  obtain ⟨b,hb,e⟩:=List.mem_map.1 hm
  exact List.mem_map.2 ⟨b,hb,hg b (List.mem_cons_of_mem _ hb) a (List.mem_cons_self ..) e⟩
theorem WMem.who (x:WMem h W):MapAt IntK h W.r2 (W.ws.map PW.ent) W.c2 :=
 ⟨x.m2,fun e he=>by obtain ⟨y,_,rfl⟩:=List.mem_map.1 he; exact ⟨_,rfl⟩,by
  rw [List.map_map]
  exact nodup_inj x.cn fun a _ b _ e=>by have:(Value.int .i64 a.w.conn)=.int .i64 b.w.conn:=e; exact (Value.int.inj this).2⟩
theorem WMem.lines (x:WMem h W):MapAt LinK h W.r1 (W.ls.map LN.ent) W.c1 :=
 ⟨x.m1,fun e he=>by obtain ⟨y,_,rfl⟩:=List.mem_map.1 he; exact ⟨_,_,_,rfl⟩,by
  rw [List.map_map]
  exact nodup_inj x.kn fun a _ b _ e=>by
   obtain ⟨h1,h2⟩:=lnK_inj (show lnK a.key a.kind=lnK b.key b.kind from e)
   rw [h1,h2]⟩
/-- One who waits, by the connection's number. -/
def WP.find (W:WP) (c:Int):Option PW:=W.ws.find? fun x=>decide (x.w.conn=c)
theorem WP.find_some {c:Int} {x:PW} (e:W.find c=some x):x ∈ W.ws∧x.w.conn=c:=⟨List.mem_of_find?_eq_some e,by simpa using List.find?_some e⟩
theorem WP.find_none {c:Int} (e:W.find c=none) {x:PW} (hx:x ∈ W.ws):x.w.conn ≠ c:=by simpa using List.find?_eq_none.1 e x hx
theorem zero68:zV Try.prog 68=some (.agg #[.int .i64 0,.slice none 0 0,.int .u64 0,.int .i64 0]):=by kernel_rfl
def PWz:Option PW→(Int × Sl × Int × Int)
 | some x=>(x.w.kind,x.sl,x.w.til,(x.turn:Nat))
 | none=>(0,⟨none,0,0⟩,0,0)
theorem WMem.get (x:WMem h W) (c:Int):MapGet Try.prog 3 68 (.map (some W.r2)) (.int .i64 c) h (.agg #[.int .i64 (PWz (W.find c)).1,.slice (PWz (W.find c)).2.1.a (PWz (W.find c)).2.1.n (PWz (W.find c)).2.1.c,.int .u64 (PWz (W.find c)).2.2.1,.int .i64 (PWz (W.find c)).2.2.2]) (W.find c).isSome:=by
 refine ⟨IntK,klaw_who,⟨c,rfl⟩,.inr ⟨W.r2,_,W.c2,rfl,x.who,?_⟩⟩
 cases e:W.find c with
 | some y =>
  obtain ⟨h1,h2⟩:=WP.find_some e
  exact .inl ⟨rfl,y.ent,List.mem_map.2 ⟨y,h1,rfl⟩,by show Value.int .i64 y.w.conn=_; rw [h2],rfl⟩
 | none =>
  refine .inr ⟨rfl,fun e' he'=>?_,zero68⟩
  obtain ⟨y,hy,rfl⟩:=List.mem_map.1 he'
  intro hk
  exact WP.find_none e hy (Value.int.inj hk).2
theorem zero32:zV Try.prog 32=some (.slice none 0 0):=by kernel_rfl
def LNz:Option LN→Sl
 | some y=>y.sl
 | none=>⟨none,0,0⟩
def WP.lfind (W:WP) (p:Plc) (k:Int):Option LN:=W.ls.find? fun y=>decide (y.key=p∧y.kind=k)
theorem WP.lfind_some {p:Plc} {k:Int} {y:LN} (e:W.lfind p k=some y):y ∈ W.ls∧y.key=p∧y.kind=k:=⟨List.mem_of_find?_eq_some e,by simpa using List.find?_some e⟩
theorem WP.lfind_none {p:Plc} {k:Int} (e:W.lfind p k=none) {y:LN} (hy:y ∈ W.ls):¬ (y.key=p∧y.kind=k):=by simpa using List.find?_eq_none.1 e y hy
theorem WMem.lget (x:WMem h W) (p:Plc) (k:Int):MapGet Try.prog 73 32 (.map (some W.r1)) (.agg #[.int .i64 p.1,.string p.2,.int .i64 k]) h (.slice (LNz (W.lfind p k)).a (LNz (W.lfind p k)).n (LNz (W.lfind p k)).c) (W.lfind p k).isSome:=by
 refine ⟨LinK,klaw_lines,⟨_,_,_,rfl⟩,.inr ⟨W.r1,_,W.c1,rfl,x.lines,?_⟩⟩
 cases e:W.lfind p k with
 | some y =>
  obtain ⟨h1,h2,h3⟩:=WP.lfind_some e
  exact .inl ⟨rfl,y.ent,List.mem_map.2 ⟨y,h1,rfl⟩,by show lnK y.key y.kind=_; rw [h2,h3]; rfl,rfl⟩
 | none =>
  refine .inr ⟨rfl,fun e' he'=>?_,zero32⟩
  obtain ⟨y,hy,rfl⟩:=List.mem_map.1 he'
  intro hk
  exact WP.lfind_none e hy (lnK_inj (show lnK y.key y.kind=lnK p k from hk))
/-! ### Values copied into cells of their own -/
theorem own2 {z0 z1 v0 v1:Value} {t:TypeId} {K:Hp→Prop} (hK:∀ h',Row h' h.size [v0,v1]→Kept N h h'→K h') :
  Let (h.push (.cells #[z0,z1] t)) fun h1=>stOk h1 (nb h)∧Let (setc h1 (nb h) v0) fun h2=>stOk h2 ((nb h).add 1)∧Let (setc h2 ((nb h).add 1) v1) fun h3=>K h3:=by
 refine Let_mk fun h1 e1=>?_
 have r1:Row h1 h.size [z0,z1]:=e1 ▸ row_new h #[z0,z1] t
 have k1:Kept N h h1:=e1 ▸ kept_push _ _ _
 refine row_st r1 (i:=0) rfl (by show 0 < 2; omega) fun h2 r2 k2=>row_st r2 (i:=1) (add_ad _ _) (by show 1 < 2; omega) fun h3 r3 k3=>hK h3 r3 ?_
 have k23:=k2.trans k3
 exact ⟨Nat.le_trans k1.1 k23.1,fun i hi _=>(k23.2 i (Nat.lt_of_lt_of_le hi k1.1) fun e=>by omega).trans (k1.2 i hi _root_.id)⟩
theorem own3 {z0 z1 z2 v0 v1 v2:Value} {t:TypeId} {K:Hp→Prop} (hK:∀ h',Row h' h.size [v0,v1,v2]→Kept N h h'→K h') :
  Let (h.push (.cells #[z0,z1,z2] t)) fun h1=>stOk h1 (nb h)∧Let (setc h1 (nb h) v0) fun h2=>stOk h2 ((nb h).add 1)∧Let (setc h2 ((nb h).add 1) v1) fun h3=>stOk h3 ((nb h).add 2)∧Let (setc h3 ((nb h).add 2) v2) fun h4=>K h4:=by
 refine Let_mk fun h1 e1=>?_
 have r1:Row h1 h.size [z0,z1,z2]:=e1 ▸ row_new h #[z0,z1,z2] t
 have k1:Kept N h h1:=e1 ▸ kept_push _ _ _
 refine row_st r1 (i:=0) rfl (by show 0 < 3; omega) fun h2 r2 k2=>row_st r2 (i:=1) (add_ad _ _) (by show 1 < 3; omega) fun h3 r3 k3=>row_st r3 (i:=2) (add_ad _ _) (by show 2 < 3; omega) fun h4 r4 k4=>hK h4 r4 ?_
 have k23:=(k2.trans k3).trans k4
 exact ⟨Nat.le_trans k1.1 k23.1,fun i hi _=>(k23.2 i (Nat.lt_of_lt_of_le hi k1.1) fun e=>by omega).trans (k1.2 i hi _root_.id)⟩
theorem own4 {z0 z1 z2 z3 v0 v1 v2 v3:Value} {t:TypeId} {K:Hp→Prop} (hK:∀ h',Row h' h.size [v0,v1,v2,v3]→Kept N h h'→K h') :
  Let (h.push (.cells #[z0,z1,z2,z3] t)) fun h1=>stOk h1 (nb h)∧Let (setc h1 (nb h) v0) fun h2=>stOk h2 ((nb h).add 1)∧Let (setc h2 ((nb h).add 1) v1) fun h3=>stOk h3 ((nb h).add 2)∧Let (setc h3 ((nb h).add 2) v2) fun h4=>stOk h4 ((nb h).add 3)∧Let (setc h4 ((nb h).add 3) v3) fun h5=>K h5:=by
 refine Let_mk fun h1 e1=>?_
 have r1:Row h1 h.size [z0,z1,z2,z3]:=e1 ▸ row_new h #[z0,z1,z2,z3] t
 have k1:Kept N h h1:=e1 ▸ kept_push _ _ _
 refine row_st r1 (i:=0) rfl (by show 0 < 4; omega) fun h2 r2 k2=>row_st r2 (i:=1) (add_ad _ _) (by show 1 < 4; omega) fun h3 r3 k3=>row_st r3 (i:=2) (add_ad _ _) (by show 2 < 4; omega) fun h4 r4 k4=>row_st r4 (i:=3) (add_ad _ _) (by show 3 < 4; omega) fun h5 r5 k5=>hK h5 r5 ?_
 have k23:=((k2.trans k3).trans k4).trans k5
 exact ⟨Nat.le_trans k1.1 k23.1,fun i hi _=>(k23.2 i (Nat.lt_of_lt_of_le hi k1.1) fun e=>by omega).trans (k1.2 i hi _root_.id)⟩
/-! ### The calls that only tell -/
theorem wnew_ok (hR:∀ h' W,WRep h' W→W.ws=[]→W.turns=0→(∀ b,W.foot b→h.size ≤ b)→Kept N h h'→R (.pointer (some (ad W.wb))) h'):CallTo Try.prog 12 #[] h R:=by
 refine f12F_ok ?_
 unfold f12F
 refine Let_mk fun h1 e1=>Let_mk fun h2 e2=>Let_mk fun h3 e3=>?_
 have k1:Kept N h h1:=e1 ▸ kept_push _ _ _
 have k2:Kept N h1 h2:=e2 ▸ kept_push _ _ _
 have k3:Kept N h2 h3:=e3 ▸ kept_push _ _ _
 have m1:h1[h.size]?=some (.map #[] 0):=by rw [e1]; simp
 have m2:h2[h1.size]?=some (.map #[] 0):=by rw [e2]; simp
 have r3:Row h3 h2.size [.map (some h.size),.map (some h1.size),.int .i64 0]:=e3 ▸ row_new h2 _ 64
 have z1:h1.size=h.size + 1:=by rw [e1]; simp
 have z2:h2.size=h1.size + 1:=by rw [e2]; simp
 refine hR h3 ⟨h2.size,h.size,h1.size,0,0,0,[],[]⟩ ⟨⟨r3,kept_ob (k2.trans k3) m1 _root_.id,kept_ob k3 m2 _root_.id,nofun,nofun,by show h.size ≠ h1.size; omega,List.nodup_nil,nofun,nofun,nofun,List.nodup_nil,List.nodup_nil,nofun,nofun,List.nodup_nil,List.nodup_nil,List.Pairwise.nil,nofun,by show 0 ≤ _; omega⟩,fun _ _=>rfl⟩ rfl rfl (fun b hb=>?_) ((k1.trans k2).trans k3)
 rcases hb with e | e | e | ⟨_,e,_⟩ | ⟨_,e,_⟩
 ·rw [e]; show h.size ≤ h2.size; omega
 ·rw [e]; exact Nat.le_refl _
 ·rw [e]; show h.size ≤ h1.size; omega
 ·cases e
 ·cases e
theorem wuntil_ok (x:WRep h W) {c:Int} (hR:∀ h',Kept N h h'→R (.tuple #[.int .u64 (PWz (W.find c)).2.2.1,.bool (W.find c).isSome]) h'):CallTo Try.prog 15 #[.pointer (some (ad W.wb)),.int .i64 c] h R:=by
 refine f15F_ok ?_
 unfold f15F
 refine PtrOk_mk ⟨_,x.m.c1,_,_,_,_,_,x.m.get c,own4 fun h1 r1 k1=>⟨_,by rw [show nb h=ad h.size from rfl,add_ad]; exact (cell_row r1 2).trans rfl,hR h1 k1⟩⟩
theorem wnext_ok (x:WRep h W) {p:Plc} {k:Int} (hR:∀ h',Kept N h h'→R (match connsOf W.ws p k with | []=>.tuple #[.int .i64 0,.bool false] | c :: _=>.tuple #[.int .i64 c,.bool true]) h'):CallTo Try.prog 26 #[.pointer (some (ad W.wb)),.agg #[.int .i64 p.1,.string p.2],.int .i64 k] h R:=by
 refine f26F_ok ?_
 unfold f26F
 refine Let_mk fun h1 e1=>?_
 have k1:Kept N h h1:=e1 ▸ kept_push _ _ _
 have r1:Row h1 h.size (plC p):=e1 ▸ row_new h _ 40
 have x1:=x.keepN k1
 have hR1:=hR h1 k1
 have hl:=x.l p k
 refine PtrOk_mk ⟨_,x1.m.c0,_,(cell_row r1 0).trans rfl,_,by rw [show nb h=ad h.size from rfl,add_ad]; exact (cell_row r1 1).trans rfl,LNz (W.lfind p k),_,x1.m.lget p k,?_⟩
 unfold lineOf at hl
 have el:W.ls.find? (fun y=>decide (y.key=p∧y.kind=k))=W.lfind p k:=rfl
 rw [el] at hl
 cases e:W.lfind p k with
 | none =>
  rw [e] at hl
  rw [← hl] at hR1
  exact Cond_t rfl hR1
 | some y =>
  rw [e] at hl
  have hl:y.cs=connsOf W.ws p k:=hl
  obtain ⟨hy,_,_⟩:=WP.lfind_some e
  have ok:=x1.m.ln y hy
  rw [← hl] at hR1
  obtain ⟨junk,row,_⟩:=ok.row
  cases hc:y.cs with
  | nil=>exact absurd hc ok.ne
  | cons c l =>
   rw [hc] at hR1 row
   have hn:y.sl.n=l.length + 1:=by rw [ok.n,hc]; rfl
   have e0:((((LNz (some y)).n:Nat):Int) == (0:Int))=false:=by rw [beq_eq_false_iff_ne]; show ((y.sl.n:Nat):Int) ≠ 0; omega
   rw [e0]
   refine Cond_f rfl ⟨⟨by omega,by show (0:Int) < ((y.sl.n:Nat):Int); omega⟩,PtrOk_of ok.a ⟨c,?_,hR1⟩⟩
   exact (cell_row row 0).trans rfl
end
end Go.Ev
set_option linter.all false
set_option maxRecDepth 1000000
namespace Go.Ev
open Go.Proofs
section
variable {h h':Hp} {W:WP} {R:Value→Hp→Prop}
theorem WMem.find_self (x:WMem h W) {y:PW} (hy:y ∈ W.ws):W.find y.w.conn=some y:=by
 have cn:=x.cn
 unfold WP.find
 generalize W.ws=l at hy cn
 induction l with
 | nil=>cases hy
 | cons a l ih =>
  rw [List.map_cons,List.nodup_cons] at cn
  rw [List.find?_cons]
  rcases List.mem_cons.1 hy with rfl | hy
  ·simp
  ·have:a.w.conn ≠ y.w.conn:=fun e=>cn.1 (e ▸ List.mem_map.2 ⟨y,hy,rfl⟩)
   simp only [this,decide_false]
   exact ih hy cn.2
def WP.turnOf (W:WP) (c:Int):Int:=(PWz (W.find c)).2.2.2
def WP.tilOf (W:WP) (c:Int):Int:=(PWz (W.find c)).2.2.1
theorem WMem.turn_self (x:WMem h W) {y:PW} (hy:y ∈ W.ws):W.turnOf y.w.conn=(y.turn:Nat):=by unfold WP.turnOf; rw [x.find_self hy]; rfl
theorem WMem.til_self (x:WMem h W) {y:PW} (hy:y ∈ W.ws):W.tilOf y.w.conn=y.w.til:=by unfold WP.tilOf; rw [x.find_self hy]; rfl
theorem WMem.turn_inj (x:WMem h W) {a b:PW} (ha:a ∈ W.ws) (hb:b ∈ W.ws) (e:a.turn=b.turn):a=b:=by
 have tn:=x.tn
 generalize W.ws=l at ha hb tn
 induction l with
 | nil=>cases ha
 | cons c l ih =>
  rw [List.pairwise_cons] at tn
  rcases List.mem_cons.1 ha with rfl | ha' <;> rcases List.mem_cons.1 hb with rfl | hb'
  ·rfl
  ·have:=tn.1 b hb'; omega
  ·have:=tn.1 a ha'; omega
  ·exact ih ha' hb' tn.2
def eI (e:MapEntry):Int:=match e.key with | .int _ n=>n | _=>0
theorem callable28 (args:Array Value) (w:World):(callFunc 28 args).run Try.prog w=.ok (.enter 28 args) w:=tab_ok.callee 28 (by kernel_rfl) args w
theorem callable30 (args:Array Value) (w:World):(callFunc 30 args).run Try.prog w=.ok (.enter 30 args) w:=tab_ok.callee 30 (by kernel_rfl) args w
theorem vcmp_ok (x:WRep h W) {c:Nat} (hc:cell h (ad c)=some (.pointer (some (ad W.wb)))) {a b:Int} (hR:R (.int .i64 (cmpV (W.turnOf a) (W.turnOf b))) h):CallTo Try.prog 28 #[.int .i64 a,.int .i64 b,.pointer (some (ad c))] h R:=by
 refine f28F_ok ?_
 unfold f28F
 exact ⟨_,hc,PtrOk_mk ⟨_,x.m.c1,_,_,_,_,_,x.m.get a,_,hc,PtrOk_mk ⟨_,x.m.c1,_,_,_,_,_,x.m.get b,_,cmpi_ok ⟨rfl,rfl⟩,hR⟩⟩⟩
/-- By time, then by turn. -/
def duV (W:WP) (a b:Int):Int:=if W.tilOf a=W.tilOf b then cmpV (W.turnOf a) (W.turnOf b) else cmpV (W.tilOf a) (W.tilOf b)
theorem dcmp_ok (x:WRep h W) {c:Nat} (hc:cell h (ad c)=some (.pointer (some (ad W.wb)))) {a b:Int} (hR:R (.int .i64 (duV W a b)) h):CallTo Try.prog 30 #[.int .i64 a,.int .i64 b,.pointer (some (ad c))] h R:=by
 refine f30F_ok ?_
 unfold f30F
 unfold duV at hR
 refine ⟨_,hc,PtrOk_mk ⟨_,x.m.c1,_,_,_,_,_,x.m.get a,_,hc,PtrOk_mk ⟨_,x.m.c1,_,_,_,_,_,x.m.get b,_,cmpu_ok ⟨rfl,rfl⟩,Cond_b (fun e=>?_) fun e=>?_⟩⟩⟩
 ·have e:¬ W.tilOf a=W.tilOf b:=fun z=>by have z:=cmpV_eq.2 z; unfold WP.tilOf at z; rw [z] at e; simp at e
  rw [if_neg e] at hR
  exact hR
 ·have e:W.tilOf a=W.tilOf b:=cmpV_eq.1 (by simpa [WP.tilOf] using e)
  rw [if_pos e] at hR
  exact ⟨_,hc,PtrOk_mk ⟨_,x.m.c1,_,_,_,_,_,x.m.get a,_,hc,PtrOk_mk ⟨_,x.m.c1,_,_,_,_,_,x.m.get b,_,cmpi_ok ⟨rfl,rfl⟩,hR⟩⟩⟩
theorem perm_conns {vis:List MapEntry} (p:vis.Perm (W.ws.map PW.ent)):(vis.map eI).Perm (W.ws.map (·.w.conn)):=by
 have:=p.map eI
 rw [List.map_map] at this
 exact this
theorem WMem.ord (x:WMem h W) {l:List Int} (hl:∀ c ∈ l,c ∈ W.ws.map (·.w.conn)) (nd:l.Nodup):Ord l fun a b=>W.turnOf a < W.turnOf b:=by
 refine ⟨nd,fun a ha b hb hne=>?_,fun a _ b _ c _ h1 h2=>by omega,fun a _ h1=>by omega⟩
 obtain ⟨y,hy,rfl⟩:=List.mem_map.1 (hl a ha)
 obtain ⟨z,hz,rfl⟩:=List.mem_map.1 (hl b hb)
 rw [x.turn_self hy,x.turn_self hz]
 have:y.turn ≠ z.turn:=fun e=>hne (by rw [x.turn_inj hy hz e])
 omega
theorem wlen8 (x:WMem h W):W.ws.length ≤ 8:=by
 have key:∀ (l:List PW),(l.map (·.w.conn)).Nodup→(∀ y ∈ l,0 ≤ y.w.conn∧y.w.conn < 8)→l.length ≤ 8:=fun l nd hb=>by
  have h1:(l.map fun y=>y.w.conn.toNat).Nodup:=by
   have:l.map (fun y=>y.w.conn.toNat)=(l.map (·.w.conn)).map Int.toNat:=by rw [List.map_map]; rfl
   rw [this]
   clear this
   generalize hm:l.map (·.w.conn)=m at nd
   have hm':∀ c ∈ m,0 ≤ c:=fun c hc=>by rw [← hm] at hc; obtain ⟨y,hy,rfl⟩:=List.mem_map.1 hc; exact (hb y hy).1
   clear hm
   induction m with
   | nil=>exact List.nodup_nil
   | cons a m ih =>
    rw [List.nodup_cons] at nd
    rw [List.map_cons,List.nodup_cons]
    refine ⟨fun hx=>nd.1 ?_,ih nd.2 fun c hc=>hm' c (List.mem_cons_of_mem _ hc)⟩
    obtain ⟨b,hb',e⟩:=List.mem_map.1 hx
    have:=hm' a (List.mem_cons_self ..)
    have:=hm' b (List.mem_cons_of_mem _ hb')
    have:b=a:=by omega
    exact this ▸ hb'
  have h2:=List.Nodup.length_le_of_subset (l₂:=List.range 8) h1 fun c hc=>by
   obtain ⟨y,hy,rfl⟩:=List.mem_map.1 hc
   have:=hb y hy
   exact List.mem_range.2 (by omega)
  simpa using h2
 exact key W.ws x.cn fun y hy=>(x.pw y hy).c0
theorem wwaiting_ok (x:WRep h W) (hR:∀ s c h',IL h' s c (W.ws.map (·.w.conn))→(W.ws ≠ []→h.size ≤ c)→Kept N h h'→R (.slice s.a s.n s.c) h'):CallTo Try.prog 13 #[.pointer (some (ad W.wb))] h R:=by
 refine f13F_ok ?_
 unfold f13F
 refine Let_mk fun h1 e1=>?_
 have k1:Kept N h h1:=e1 ▸ kept_push _ _ _
 have r1:Row h1 h.size [.pointer (some (ad W.wb))]:=e1 ▸ row_new h _ 26
 have x1:=x.keepN k1
 have enb:nb h=ad h.size:=rfl
 have enb1:nb h1=ad h1.size:=rfl
 rw [enb,enb1]
 have hl1:=row_lt r1
 have h2r:=ob_lt x1.m.m2
 refine ⟨_,(cell_row r1 0).trans rfl,PtrOk_mk ⟨_,x1.m.c1,MIt.begin x1.m.m2 (by rw [List.map_map]; exact x1.m.bn2) (fun e he=>by obtain ⟨y,hy,rfl⟩:=List.mem_map.1 he; exact x1.m.lt2 y hy) fun h2 it2 k2=>?_⟩⟩
 refine f13L1_rule (s3:=⟨none,0,0⟩) (fun m s1 s3 s9 h'=>∃ (vis:List MapEntry) (ob:Option Nat),m=leftM (W.ws.map PW.ent) vis∧s1=ad h.size∧s9=ad h1.size∧MIt h' h1.size W.r2 (W.ws.map PW.ent) W.c2 vis∧SlAt 1 h' s3.a s3.n s3.c ob ((vis.map eI).map iv)∧(ob=none ∨ vis ≠ [])∧(∀ b,ob=some b→h1.size < b)∧Kept N h1 h') (leftM (W.ws.map PW.ent) [])
  ⟨[],none,rfl,rfl,rfl,it2,slAt_nil 1 h2,.inl rfl,(fun _ e=>by cases e),k2⟩ ?_
 rintro m s1 s3 s9 g h3 ⟨vis,ob,rfl,rfl,rfl,it,sa,hob,hfr,k3⟩
 unfold f13L1
 have x3:=x1.keepN k3
 refine it.next (by omega) (fun pm=>?_) fun e h4 he hv it4 k4=>?_
 ·-- the end: in order
  unfold f13K1
  refine Cond_f rfl ?_
  obtain ⟨b,il,hb⟩:=SlAt.il (l:=vis.map eI) sa (hob.imp_right fun z e=>z (List.map_eq_nil_iff.1 e))
  have pc:=perm_conns pm
  have r3:=kept_row k3 r1 _root_.id
  refine sortf_ok (lt:=fun a b=>W.turnOf a < W.turnOf b) il (x3.m.ord (fun c hc=>pc.mem_iff.1 hc) (pc.symm.nodup x3.m.cn)) pc.symm (List.pairwise_map.2 (x3.m.tn.imp_of_mem fun {a c} ha hc hlt=>by rw [x3.m.turn_self ha,x3.m.turn_self hc]; omega)) (by rw [pc.length_eq,List.length_map]; have:=wlen8 x3.m; omega) (fun h5 k5 a ha c hc=>?_) fun h5 il5 k5=>⟨rfl,hR s3 b h5 il5 (fun hne=>?_) ?_⟩
  ·have nf:∀ y,W.foot y→¬ (vis.map eI ≠ []∧y=b):=fun y hy ⟨z1,z2⟩=>by
    have:=hfr b (hb z1)
    have:=x1.m.foot_lt hy
    omega
   refine ⟨28,#[],#[.pointer (some (ad h.size))],rfl,callable28,?_⟩
   refine vcmp_ok (x3.keep k5 nf) (c:=h.size) ?_ ⟨_,rfl,cmpV_lt,rfl⟩
   refine (cell_row (kept_row k5 r3 fun ⟨z1,z2⟩=>?_) 0).trans rfl
   have:=hfr b (hb z1)
   omega
  ·have hne':vis.map eI ≠ []:=fun z=>by
    rw [z] at pc
    have:=pc.length_eq
    rw [List.length_map] at this
    exact hne (List.length_eq_zero_iff.1 this.symm)
   have:=hfr b (hb hne')
   have:=k1.1
   omega
  ·refine kept_fresh (k1.trans k3) k5 fun i ⟨z1,z2⟩=>?_
   have:=hfr b (hb z1)
   omega
 ·-- one more
  unfold f13K1
  obtain ⟨y,hy,rfl⟩:=List.mem_map.1 he
  refine Cond_t rfl ⟨y.w.conn,y.val,it4.ent,Let_mk fun h5 e5=>?_⟩
  have k5:Kept N h4 h5:=e5 ▸ kept_push _ _ _
  have r5:Row h5 h4.size [.int .i64 y.w.conn]:=e5 ▸ row_new h4 _ 3
  have q4:=k4.1
  have q3:=k3.1
  have h1l:=ob_lt it.ob
  have sa5:SlAt 1 h5 s3.a s3.n s3.c ob ((vis.map eI).map iv):=sa.keep fun b hb=>by
   have:=hfr b hb
   obtain ⟨_,_,j,hr,_⟩:=sa.row b hb
   have hbl:=row_lt hr
   rw [k5.2 b (by omega) _root_.id,k4.2 b hbl (by omega)]
  have vl:vis.length ≤ 8:=by
   have:=List.Nodup.length_le_of_subset it.nd (fun e he=>it.sub e he)
   rw [List.length_map] at this
   have:=wlen8 x1.m
   omega
  have sn:s3.n ≤ 8:=by have:=sa.len; rw [List.length_map,List.length_map] at this; omega
  refine ⟨[iv y.w.conn],row_reads r5,rfl,appT_ok2 (m:=1) sa5 rfl rfl (fun v hv=>by rw [List.mem_singleton.1 hv]; rfl) (by omega) (by omega) fun a' c' ob' h6 sa6 hx=>?_⟩
  have k46:Kept (fun b=>ob=some b) h5 h6:=hx.elim (fun z=>z.2) fun z=>z.2.mono fun _ _ f=>f.elim
  have k56:Kept (fun b=>b=h1.size ∨ ob=some b) h3 h6:=((k4.mono fun _ _ z=>.inl z).trans (k5.mono fun _ _ z=>z.elim)).trans (k46.mono fun _ _ z=>.inr z)
  refine ⟨leftM (W.ws.map PW.ent) (vis ++ [y.ent]),leftM_lt it he hv,vis ++ [y.ent],ob',rfl,rfl,rfl,(it4.keep k5 _root_.id _root_.id).keep k46 (fun z=>by have:=hfr _ z; omega) (fun z=>by have:=hfr _ z; omega),?_,.inr (by simp),fun b hb=>?_,?_⟩
  ·rw [List.map_append,List.map_append]
   exact sa6
  ·rcases hx with ⟨z,_⟩ | ⟨z,_⟩
   ·exact hfr b (z ▸ hb)
   ·rw [z] at hb
    obtain rfl:=Option.some.inj hb
    have:=k5.1
    omega
  ·refine ⟨Nat.le_trans q3 k56.1,fun i hi _=>(k56.2 i (Nat.lt_of_lt_of_le hi q3) fun z=>?_).trans (k3.2 i hi _root_.id)⟩
   rcases z with z | z
   ·omega
   ·have:=hfr i z; omega
end
end Go.Ev
set_option linter.all false
set_option maxRecDepth 1000000
namespace Go.Ev
open Go.Proofs
section
variable {h h':Hp} {W:WP} {R:Value→Hp→Prop}
theorem duV_lt {a b:Int}:duV W a b < 0 ↔ W.tilOf a < W.tilOf b ∨ (W.tilOf a=W.tilOf b∧W.turnOf a < W.turnOf b):=by
 unfold duV
 split
 ·rename_i e; rw [cmpV_lt]; omega
 ·rename_i e; rw [cmpV_lt]; omega
def eT (e:MapEntry):Int:=match e.val with | .agg cs=>(match cs.toList with | [_,_,.int _ t,_]=>t | _=>0) | _=>0
theorem eT_ent (y:PW):eT y.ent=y.w.til:=rfl
def dueB (now t:Int):Bool:=decide (t ≠ 0) && decide (t ≤ now)
def duesOf (W:WP) (now:Int):List Int:=(W.ws.filter fun x=>dueB now x.w.til).map (·.w.conn)
theorem duesOf_eq (W:WP) (now:Int):((W.ws.map PW.ent).filter fun e=>dueB now (eT e)).map eI=duesOf W now:=by
 unfold duesOf
 rw [List.filter_map,List.map_map]
 rfl
theorem WMem.ordD (x:WMem h W) {l:List Int} (hl:∀ c ∈ l,c ∈ W.ws.map (·.w.conn)) (nd:l.Nodup):Ord l fun a b=>duV W a b < 0:=by
 refine ⟨nd,fun a ha b hb hne=>?_,fun a _ b _ c _ h1 h2=>?_,fun a _ h1=>?_⟩
 ·obtain ⟨y,hy,rfl⟩:=List.mem_map.1 (hl a ha)
  obtain ⟨z,hz,rfl⟩:=List.mem_map.1 (hl b hb)
  have:y.turn ≠ z.turn:=fun e=>hne (by rw [x.turn_inj hy hz e])
  rw [duV_lt,duV_lt,x.turn_self hy,x.turn_self hz]
  omega
 ·rw [duV_lt] at h1 h2 ⊢; omega
 ·rw [duV_lt] at h1; omega
theorem duesOf_sub {now:Int} {c:Int} (hc:c ∈ duesOf W now):c ∈ W.ws.map (·.w.conn):=by
 obtain ⟨y,hy,rfl⟩:=List.mem_map.1 hc
 exact List.mem_map.2 ⟨y,(List.mem_filter.1 hy).1,rfl⟩
theorem duesOf_nd (x:WMem h W) (now:Int):(duesOf W now).Nodup:=by
 have:(duesOf W now).Sublist (W.ws.map (·.w.conn)):=(List.filter_sublist).map _
 exact this.nodup x.cn
theorem duesOf_len (x:WMem h W) (now:Int):(duesOf W now).length ≤ 8:=by
 have:(duesOf W now).Sublist (W.ws.map (·.w.conn)):=(List.filter_sublist).map _
 have:=this.length_le
 rw [List.length_map] at this
 have:=wlen8 x
 omega
theorem wdue_ok (x:WRep h W) {now:Int} {T:List Int} (tp:T.Perm (duesOf W now)) (ts:T.Pairwise fun a b=>duV W a b < 0)
  (hR:∀ s c h',IL h' s c T→(T ≠ []→h.size ≤ c)→Kept N h h'→R (.slice s.a s.n s.c) h'):CallTo Try.prog 14 #[.pointer (some (ad W.wb)),.int .u64 now] h R:=by
 refine f14F_ok ?_
 unfold f14F
 refine Let_mk fun h1 e1=>?_
 have k1:Kept N h h1:=e1 ▸ kept_push _ _ _
 have r1:Row h1 h.size [.pointer (some (ad W.wb))]:=e1 ▸ row_new h _ 26
 have x1:=x.keepN k1
 have enb:nb h=ad h.size:=rfl
 have enb1:nb h1=ad h1.size:=rfl
 rw [enb,enb1]
 have hl1:=row_lt r1
 have h2r:=ob_lt x1.m.m2
 refine ⟨_,(cell_row r1 0).trans rfl,PtrOk_mk ⟨_,x1.m.c1,MIt.begin x1.m.m2 (by rw [List.map_map]; exact x1.m.bn2) (fun e he=>by obtain ⟨y,hy,rfl⟩:=List.mem_map.1 he; exact x1.m.lt2 y hy) fun h2 it2 k2=>?_⟩⟩
 refine f14L1_rule (s5:=⟨none,0,0⟩) (fun m s1 s2 s5 s12 h'=>∃ (vis:List MapEntry) (ob:Option Nat),m=leftM (W.ws.map PW.ent) vis∧s1=now∧s2=ad h.size∧s12=ad h1.size∧MIt h' h1.size W.r2 (W.ws.map PW.ent) W.c2 vis∧SlAt 1 h' s5.a s5.n s5.c ob (((vis.filter fun e=>dueB now (eT e)).map eI).map iv)∧(ob=none ∨ (vis.filter fun e=>dueB now (eT e)) ≠ [])∧(∀ b,ob=some b→h1.size < b)∧Kept N h1 h') (leftM (W.ws.map PW.ent) [])
  ⟨[],none,rfl,rfl,rfl,rfl,it2,slAt_nil 1 h2,.inl rfl,(fun _ e=>by cases e),k2⟩ ?_
 rintro m s1 s2 s5 s12 g h3 ⟨vis,ob,rfl,rfl,rfl,rfl,it,sa,hob,hfr,k3⟩
 unfold f14L1
 have x3:=x1.keepN k3
 refine it.next (by omega) (fun pm=>?_) fun e h4 he hv it4 k4=>?_
 ·unfold f14K1
  refine Cond_f rfl ?_
  have pc:((vis.filter fun e=>dueB s1 (eT e)).map eI).Perm (duesOf W s1):=by
   have:=(pm.filter fun e=>dueB s1 (eT e)).map eI
   rw [duesOf_eq] at this
   exact this
  generalize hL:(vis.filter fun e=>dueB s1 (eT e)).map eI=L at sa pc
  have hob':ob=none ∨ L ≠ []:=hob.imp_right fun z e=>z (List.map_eq_nil_iff.1 (hL.trans e))
  obtain ⟨b,il,hb⟩:=SlAt.il (l:=L) sa hob'
  have r3:=kept_row k3 r1 _root_.id
  refine sortf_ok (lt:=fun a b=>duV W a b < 0) il (x3.m.ordD (fun c hc=>duesOf_sub (pc.mem_iff.1 hc)) (pc.symm.nodup (duesOf_nd x3.m s1))) (tp.trans pc.symm) ts (by rw [pc.length_eq]; have:=duesOf_len x3.m s1; omega) (fun h5 k5 a ha c hc=>?_) fun h5 il5 k5=>⟨rfl,hR s5 b h5 il5 (fun hne=>?_) ?_⟩
  ·have nf:∀ y,W.foot y→¬ (L ≠ []∧y=b):=fun y hy ⟨z1,z2⟩=>by
    have:=hfr b (hb z1)
    have:=x1.m.foot_lt hy
    omega
   refine ⟨30,#[],#[.pointer (some (ad h.size))],rfl,callable30,?_⟩
   refine dcmp_ok (x3.keep k5 nf) (c:=h.size) ?_ ⟨_,rfl,Iff.rfl,rfl⟩
   refine (cell_row (kept_row k5 r3 fun ⟨z1,z2⟩=>?_) 0).trans rfl
   have:=hfr b (hb z1)
   omega
  ·have hne':L ≠ []:=fun z=>by
    rw [z] at pc
    have:=(tp.trans pc.symm).length_eq
    exact hne (List.length_eq_zero_iff.1 this)
   have:=hfr b (hb hne')
   have:=k1.1
   omega
  ·refine kept_fresh (k1.trans k3) k5 fun i ⟨z1,z2⟩=>?_
   have:=hfr b (hb z1)
   omega
 ·unfold f14K1
  obtain ⟨y,hy,rfl⟩:=List.mem_map.1 he
  refine Cond_t rfl ⟨y.w.conn,y.w.kind,y.sl,y.w.til,(y.turn:Nat),it4.ent,own4 fun h5 r5 k5=>?_⟩
  have q4:=k4.1
  have q3:=k3.1
  have h1l:=ob_lt it.ob
  have sa5:SlAt 1 h5 s5.a s5.n s5.c ob (((vis.filter fun e=>dueB s1 (eT e)).map eI).map iv):=sa.keep fun b hb=>by
   have:=hfr b hb
   obtain ⟨_,_,j,hr,_⟩:=sa.row b hb
   have hbl:=row_lt hr
   rw [k5.2 b (by omega) _root_.id,k4.2 b hbl (by omega)]
  have it5:=it4.keep k5 _root_.id _root_.id
  have k35:Kept (fun b=>b=h1.size) h3 h5:=k4.trans (k5.mono fun _ _ z=>z.elim)
  have k15:Kept N h1 h5:=⟨Nat.le_trans q3 k35.1,fun i hi _=>(k35.2 i (Nat.lt_of_lt_of_le hi q3) (by omega)).trans (k3.2 i hi _root_.id)⟩
  have c5:cell h5 ((nb h4).add 2)=some (.int .u64 y.w.til):=by rw [show nb h4=ad h4.size from rfl,add_ad]; exact (cell_row r5 2).trans rfl
  have skip:dueB s1 y.w.til=false→∃ m',m' < leftM (W.ws.map PW.ent) vis∧∃ (vis':List MapEntry) (ob:Option Nat),m'=leftM (W.ws.map PW.ent) vis'∧s1=s1∧ad h.size=ad h.size∧ad h1.size=ad h1.size∧MIt h5 h1.size W.r2 (W.ws.map PW.ent) W.c2 vis'∧SlAt 1 h5 s5.a s5.n s5.c ob (((vis'.filter fun e=>dueB s1 (eT e)).map eI).map iv)∧(ob=none ∨ (vis'.filter fun e=>dueB s1 (eT e)) ≠ [])∧(∀ b,ob=some b→h1.size < b)∧Kept N h1 h5:=fun hd=>by
   have ef:(vis ++ [y.ent]).filter (fun e=>dueB s1 (eT e))=vis.filter fun e=>dueB s1 (eT e):=by
    rw [List.filter_append,List.filter_cons,eT_ent,hd]
    simp
   exact ⟨leftM (W.ws.map PW.ent) (vis ++ [y.ent]),leftM_lt it he hv,vis ++ [y.ent],ob,rfl,rfl,rfl,rfl,it5,by rw [ef]; exact sa5,by rw [ef]; exact hob,hfr,k15⟩
  refine ⟨_,c5,Cond_b (fun h0=>⟨_,c5,Cond_dec (fun hle=>Let_mk fun h6 e6=>?_) fun hnl=>skip (by unfold dueB; simp [hnl])⟩) fun h0=>skip (by unfold dueB; have h0:y.w.til=0:=(by simpa using h0); simp [h0])⟩
  have h0:y.w.til ≠ 0:=by simpa using h0
  have hd:dueB s1 y.w.til=true:=by unfold dueB; simp [h0,hle]
  have k6:Kept N h5 h6:=e6 ▸ kept_push _ _ _
  have r6:Row h6 h5.size [.int .i64 y.w.conn]:=e6 ▸ row_new h5 _ 3
  have q5:=k5.1
  have sa6:SlAt 1 h6 s5.a s5.n s5.c ob (((vis.filter fun e=>dueB s1 (eT e)).map eI).map iv):=sa5.keep fun b hb=>by
   obtain ⟨_,_,j,hr,_⟩:=sa5.row b hb
   exact k6.2 b (row_lt hr) _root_.id
  have vl:vis.length ≤ 8:=by
   have:=List.Nodup.length_le_of_subset it.nd (fun e he=>it.sub e he)
   rw [List.length_map] at this
   have:=wlen8 x1.m
   omega
  have sn:s5.n ≤ 8:=by
   have:=sa.len
   rw [List.length_map,List.length_map] at this
   have:=List.length_filter_le (fun e=>dueB s1 (eT e)) vis
   omega
  refine ⟨[iv y.w.conn],row_reads r6,rfl,appT_ok2 (m:=1) sa6 rfl rfl (fun v hv=>by rw [List.mem_singleton.1 hv]; rfl) (by omega) (by omega) fun a' c' ob' h7 sa7 hx=>?_⟩
  have k67:Kept (fun b=>ob=some b) h6 h7:=hx.elim (fun z=>z.2) fun z=>z.2.mono fun _ _ f=>f.elim
  have ef:(vis ++ [y.ent]).filter (fun e=>dueB s1 (eT e))=(vis.filter fun e=>dueB s1 (eT e)) ++ [y.ent]:=by
   rw [List.filter_append,List.filter_cons,eT_ent,hd]
   simp
  have k57:Kept (fun b=>ob=some b) h5 h7:=(k6.mono fun _ _ z=>z.elim).trans k67
  refine ⟨leftM (W.ws.map PW.ent) (vis ++ [y.ent]),leftM_lt it he hv,vis ++ [y.ent],ob',rfl,rfl,rfl,rfl,(it5.keep k6 _root_.id _root_.id).keep k67 (fun z=>by have:=hfr _ z; omega) (fun z=>by have:=hfr _ z; omega),?_,.inr (by rw [ef]; simp),fun b hb=>?_,?_⟩
  ·rw [ef,List.map_append,List.map_append]
   exact sa7
  ·rcases hx with ⟨z,_⟩ | ⟨z,_⟩
   ·exact hfr b (z ▸ hb)
   ·rw [z] at hb
    obtain rfl:=Option.some.inj hb
    have:=k6.1
    omega
  ·refine ⟨Nat.le_trans k15.1 k57.1,fun i hi _=>(k57.2 i (Nat.lt_of_lt_of_le hi k15.1) fun z=>?_).trans (k15.2 i hi _root_.id)⟩
   have:=hfr i z; omega
/-- A list of places in memory of its own. -/
structure PlO (h:Hp) (s:Sl) (c:Nat) (l:List Plc):Prop where
 n:s.n=l.length
 at_:l ≠ []→s.a=some (ad c)
 row:l ≠ []→∃ junk,Row h c (l.flatMap plC ++ junk)∧2 * l.length + junk.length=s.c * 2
 nl:l=[]→s=⟨none,0,0⟩
theorem plC_len (p:Plc):(plC p).length=2:=rfl
theorem clone_ok {s:Sl} {l:List Plc} (rd:ReadsO h s.a (l.flatMap plC)) (hn:s.n=l.length) (hl:l.length < 1000) (h0:l=[]→s.a=none) (hR:∀ s' c h',PlO h' s' c l→(l ≠ []→h.size ≤ c)→Kept N h h'→R (.slice s'.a s'.n s'.c) h') :
  CallTo Try.prog 36 #[.slice s.a s.n s.c] h R:=by
 refine f36F_ok (a0:=s) ?_
 unfold f36F
 by_cases hne:l=[]
 ·rw [h0 hne]
  exact Cond_t rfl (hR ⟨none,0,0⟩ 0 h ⟨by rw [hne]; rfl,fun z=>absurd hne z,fun z=>absurd hne z,fun _=>rfl⟩ (fun z=>absurd hne z) (Kept.refl _ _))
 ·have hsa:s.a ≠ none:=fun e=>by
   rw [e] at rd
   have:(l.flatMap plC)=[]:=rd
   have h2:=congrArg List.length this
   rw [flat_len plC_len] at h2
   have:l.length ≠ 0:=fun z=>hne (List.length_eq_zero_iff.1 z)
   simp at h2
   omega
  refine Cond_f (by cases e:s.a with | none=>exact absurd e hsa | some _=>rfl) (Let_mk fun h1 e1=>?_)
  have k1:Kept N h h1:=e1 ▸ kept_push _ _ _
  have r1:Row h1 h.size []:=e1 ▸ row_new h #[] 40
  have lpos:0 < l.length:=Nat.pos_of_ne_zero fun z=>hne (List.length_eq_zero_iff.1 z)
  have fl:(l.flatMap plC).length=s.n * 2:=by rw [flat_len plC_len,hn]
  refine ⟨l.flatMap plC,reads_keptN k1 rd,fl,appT_ok2 (m:=s.n) (ob:=some h.size) (vs:=[]) ⟨rfl,nofun,fun b hb=>by obtain rfl:=Option.some.inj hb; exact ⟨rfl,Nat.le_refl _,[],r1,rfl⟩⟩ rfl fl ?_ (by omega) (by omega) fun a' c' ob' h2 sa hx=>?_⟩
  ·intro v hv
   obtain ⟨p,_,hp⟩:=List.mem_flatMap.1 hv
   simp only [plC,List.mem_cons,List.not_mem_nil,or_false] at hp
   rcases hp with rfl | rfl <;> rfl
  ·rw [List.nil_append,Nat.zero_add] at sa
   have hob:∃ b,ob'=some b∧h.size ≤ b:=by
    rcases hx with ⟨z,_⟩ | ⟨z,_⟩
    ·exact ⟨_,z,Nat.le_refl _⟩
    ·exact ⟨_,z,k1.1⟩
   obtain ⟨b,rfl,hb⟩:=hob
   obtain ⟨h3,h4,j,h5,h6⟩:=sa.row b rfl
   have k2:Kept (fun b=>some h.size=some b) h1 h2:=hx.elim (fun z=>z.2) fun z=>z.2.mono fun _ _ f=>f.elim
   rw [Nat.zero_add]
   refine hR ⟨a',s.n,c'⟩ b h2 ⟨hn,fun _=>h3,fun _=>⟨j,h5,by show 2 * l.length + j.length=c' * 2; omega⟩,fun z=>absurd z hne⟩ (fun _=>hb) (kept_fresh k1 k2 fun i e=>by obtain rfl:=Option.some.inj e; exact Nat.le_refl _)
theorem reads_head {b:Nat} {vs junk:List Value} (r:Row h b (vs ++ junk)):ReadsO h (some (ad b)) vs:=reads_row r fun j v hv=>by rw [Nat.zero_add,List.getElem?_append_left (List.getElem?_eq_some_iff.1 hv).1]; exact hv
def plsOf (W:WP) (c:Int):List Plc:=match W.find c with | some y=>y.w.pls | none=>[]
theorem wplaces_ok (x:WRep h W) {c:Int} (hR:∀ s b h',PlO h' s b (plsOf W c)→(plsOf W c ≠ []→h.size ≤ b)→Kept N h h'→R (.slice s.a s.n s.c) h'):CallTo Try.prog 40 #[.pointer (some (ad W.wb)),.int .i64 c] h R:=by
 refine f40F_ok ?_
 unfold f40F
 refine PtrOk_mk ⟨_,x.m.c1,_,(PWz (W.find c)).2.1,_,_,_,x.m.get c,?_⟩
 unfold plsOf at hR
 cases e:W.find c with
 | none =>
  rw [e] at hR
  exact clone_ok (s:=⟨none,0,0⟩) (l:=[]) rfl rfl (by show 0 < _; omega) (fun _=>rfl) fun s' b h' o hf k=>⟨s',rfl,hR s' b h' o hf k⟩
 | some y =>
  rw [e] at hR
  obtain ⟨hy,_⟩:=WP.find_some e
  have p:=x.m.pw y hy
  obtain ⟨junk,r⟩:=p.row
  have p1:=p.p1
  exact clone_ok (s:=y.sl) (l:=y.w.pls) (by rw [p.a]; exact reads_head r) p.n (by omega) (fun z=>by rw [z] at p1; simp at p1) fun s' b h' o hf k=>⟨s',rfl,hR s' b h' o hf k⟩
end
end Go.Ev
set_option linter.all false
set_option maxRecDepth 1000000
namespace Go.Ev
open Go.Proofs
section
variable {h h':Hp} {W:WP} {R:Value→Hp→Prop}
theorem pl_read {a:Option Addr} {ps:List Plc} (rd:ReadsO h a (ps.flatMap plC)) {j:Nat} {q:Plc} (hq:ps[j]?=some q):∃ p,a=some p∧cell h (p.add (j * 2))=some (.int .i64 q.1)∧cell h ((p.add (j * 2)).add 1)=some (.string q.2):=by
 obtain ⟨p,hp,c0⟩:=readsO_get rd ((flat_at plC_len ps j 0 q hq (by omega)).trans rfl)
 obtain ⟨p',hp',c1⟩:=readsO_get rd ((flat_at plC_len ps j 1 q hq (by omega)).trans rfl)
 rw [hp] at hp'
 obtain rfl:=Option.some.inj hp'
 exact ⟨p,hp,c0,by rw [add_add]; exact c1⟩
theorem reads_sl0 {a:Option Addr} {l:List Value} {c z:Nat} (r:ReadsO h a l):ReadsO h (if c=(0:Int).toNat then a else Option.map (fun x=>x.add ((0:Int).toNat * z)) a) l:=by
 split
 ·exact r
 ·cases a with
  | none=>exact r
  | some p =>
   intro j v hj
   have:=r j v hj
   show cell h ((p.add ((0:Int).toNat * z)).add j)=some v
   rw [add_add,show (0:Int).toNat * z + j=j by show 0 * z + j=j; omega]
   exact this
def firstB (ps:List Plc) (i:Nat) (p:Plc):Bool:=!((ps.take i).any fun q=>decide (q=p))
theorem eq_pl {p q:Plc}:((q.1 == p.1) && ((q.2 == p.2) && true))=decide (q=p):=by
 by_cases e:q=p
 ·rw [decide_eq_true e,e]; simp [Go.MapKept.bytes_beq]
 ·rw [decide_eq_false e]
  have:¬ (q.1=p.1∧q.2=p.2):=fun z=>e (Prod.ext z.1 z.2)
  cases h1:(q.1 == p.1) with
  | false=>rfl
  | true =>
   cases h2:(q.2 == p.2) with
   | false=>rfl
   | true=>exact absurd ⟨by simpa using h1,(Go.MapKept.bytes_beq _ _).1 h2⟩ this
theorem first_ok {a:Sl} {ps:List Plc} (rd:ReadsO h a.a (ps.flatMap plC)) (hn:a.n=ps.length) (hc:a.n ≤ a.c) (hl:ps.length < 1000) {i:Nat} {p:Plc} (hp:ps[i]?=some p) (hR:∀ h',Kept N h h'→R (.bool (firstB ps i p)) h'):CallTo Try.prog 32 #[.slice a.a a.n a.c,.int .i64 (i:Nat)] h R:=by
 have hi:=(List.getElem?_eq_some_iff.1 hp).1
 refine f32F_ok (a0:=a) ?_
 unfold f32F
 refine ⟨⟨by omega,by omega⟩,⟨by omega,by omega⟩,?_⟩
 refine f32L1_rule (s0:=a) (s9:=⟨_,_,_⟩) (fun m s0 s1 s9 s10 s11 h'=>∃ j:Nat,j ≤ i∧m=i - j∧a=s0∧s1=(i:Int)∧ReadsO h s9.a (ps.flatMap plC)∧s9.n=i∧s10=(i:Int)∧s11=(j:Int)∧(∀ q ∈ ps.take j,q ≠ p)∧Kept N h h') i
  ⟨0,Nat.zero_le _,rfl,rfl,rfl,reads_sl0 rd,by show (((i:Nat):Int)).toNat - (0:Int).toNat=i; rw [Int.toNat_natCast]; rfl,by rw [Int.toNat_natCast]; rfl,rfl,nofun,Kept.refl _ _⟩ ?_
 rintro m s0 s1 s9 s10 s11 g h1 ⟨j,hj,rfl,rfl,rfl,rd9,n9,rfl,rfl,hall,k1⟩
 unfold f32L1
 refine Cond_dec (fun hlt=>?_) fun hge=>?_
 ·have hji:j < i:=by omega
  obtain ⟨q,hq⟩:∃ q,ps[j]?=some q:=⟨_,List.getElem?_eq_getElem (by omega)⟩
  obtain ⟨p9,e9,c0,c1⟩:=pl_read (reads_keptN k1 rd9) hq
  simp only [Int.toNat_natCast]
  refine ⟨⟨by omega,by omega⟩,PtrOk_of e9 ⟨_,c0,_,c1,own2 fun h2 r2 k2=>?_⟩⟩
  obtain ⟨pa,ea,d0,d1⟩:=pl_read (reads_keptN (k1.trans k2) rd) hp
  have enb:nb h1=ad h1.size:=rfl
  rw [enb]
  refine ⟨_,(cell_row r2 0).trans rfl,_,by rw [add_ad]; exact (cell_row r2 1).trans rfl,⟨by omega,by omega⟩,PtrOk_of ea ⟨_,d0,_,d1,?_⟩⟩
  rw [eq_pl]
  refine Cond_dec (fun he=>?_) fun hne=>⟨i - (j + 1),by omega,j + 1,by omega,rfl,(by first | rfl | trivial),(by first | rfl | trivial),rd9,n9,(by first | rfl | trivial),by rw [wr (by omega) (by omega)]; rfl,fun q' hq'=>?_,k1.trans k2⟩
  ·have:firstB ps i p=false:=by
    unfold firstB
    rw [Bool.not_eq_false',List.any_eq_true]
    exact ⟨q,List.mem_iff_getElem?.2 ⟨j,by rw [List.getElem?_take,if_pos hji]; exact hq⟩,by rw [he]; simp⟩
   have hh:=hR h2 (k1.trans k2)
   rw [this] at hh
   exact hh
  ·rw [List.take_add_one,hq] at hq'
   rcases List.mem_append.1 hq' with z | z
   ·exact hall q' z
   ·have z:q'=q:=by simpa using z
    rw [z]; exact hne
 ·have e:j=i:=by omega
  subst e
  have:firstB ps j p=true:=by
   unfold firstB
   rw [Bool.not_eq_true',List.any_eq_false]
   intro q hq
   simpa using hall q hq
  have hh:=hR h1 k1
  rw [this] at hh
  exact hh
def fitB (p:Plc):Bool:=decide (0 ≤ p.1) && decide (p.1 < 4) && decide (p.2.size ≤ 4096)
theorem fit_ok {p:Plc} (hR:∀ h',Kept N h h'→R (.bool (fitB p)) h'):CallTo Try.prog 58 #[.agg #[.int .i64 p.1,.string p.2]] h R:=by
 refine f58F_ok ?_
 unfold f58F
 refine Let_mk fun h1 e1=>?_
 have k1:Kept N h h1:=e1 ▸ kept_push _ _ _
 have r1:Row h1 h.size (plC p):=e1 ▸ row_new h _ 40
 have enb:nb h=ad h.size:=rfl
 rw [enb]
 have hh:=hR h1 k1
 unfold fitB at hh
 have c0:cell h1 (ad h.size)=some (.int .i64 p.1):=(cell_row r1 0).trans rfl
 refine ⟨_,c0,Cond_dec (fun h0=>⟨_,c0,Cond_dec (fun h4=>⟨_,by rw [add_ad]; exact (cell_row r1 1).trans rfl,?_⟩) fun h4=>?_⟩) fun h0=>?_⟩
 ·have h0':0 ≤ p.1:=h0
  rw [decide_eq_true h0',decide_eq_true h4,Bool.true_and,Bool.true_and] at hh
  have e:decide (((p.2.size:Nat):Int) ≤ 4096)=decide (p.2.size ≤ 4096):=by
   by_cases z:p.2.size ≤ 4096
   ·rw [decide_eq_true z,decide_eq_true (by omega)]
   ·rw [decide_eq_false z,decide_eq_false (by omega)]
  rw [e]
  exact hh
 ·rw [decide_eq_false h4,Bool.and_false,Bool.false_and] at hh
  exact hh
 ·have h0':¬ 0 ≤ p.1:=h0
  rw [decide_eq_false h0',Bool.false_and,Bool.false_and] at hh
  exact hh
/-- What speaks against a Block. -/
def blockE (busy:Bool) (c k:Int) (ps:List Plc) (t:Int):Int :=
 if c < 0 ∨ 8 ≤ c then 180 else if busy=true then 181 else if k ≠ 2∧k ≠ 5 then 184 else if ps.length=0 ∨ 64 < ps.length ∨ ps.all fitB=false then 182 else if t > 4503599627370496 then 183 else 0
/-- A list of places, handed in. -/
structure PlIn (h:Hp) (a:Sl) (ps:List Plc):Prop where
 rd:ReadsO h a.a (ps.flatMap plC)
 n:a.n=ps.length
 c:a.n ≤ a.c
theorem PlIn.keepN {a:Sl} {ps:List Plc} (x:PlIn h a ps) (k:Kept N h h'):PlIn h' a ps:=⟨reads_keptN k x.rd,x.n,x.c⟩
theorem checkL_ok {R:Value→Hp→Prop} {a:Sl} {ps:List Plc} {t:Int} (x:PlIn h a ps) (hl:ps.length ≤ 64) (hR:∀ h',Kept N h h'→R (.int .i64 (if ps.all fitB=false then 182 else if t > 4503599627370496 then 183 else 0)) h') :
  LoopEv (evC Try.prog tab lv35 (sub [1,1,1,1,1,0,1,0,0] body35)) (contAt Try.prog tab lv35 [1,1,1,1,1,0,1,0] body35 [] (bodyK Try.prog Try.f35 [] R)) [(4,.int .u64 t),(45,.slice a.a a.n a.c),(46,.int .i64 (((a.n:Nat):Int))),(47,.int .i64 0)] 57 h:=by
 refine f35L1_rule (s45:=a) (fun m s4 s45 s46 s47 h'=>∃ j:Nat,j ≤ ps.length∧m=ps.length - j∧s4=t∧a=s45∧s46=((ps.length:Nat):Int)∧s47=(j:Int)∧(∀ q ∈ ps.take j,fitB q=true)∧Kept N h h') ps.length
  ⟨0,Nat.zero_le _,rfl,rfl,rfl,by rw [x.n],rfl,nofun,Kept.refl _ _⟩ ?_
 rintro m s4 s45 s46 s47 g h1 ⟨j,hj,rfl,rfl,rfl,rfl,rfl,hall,k1⟩
 unfold f35L1
 have hn:=x.n
 refine Cond_dec (fun hlt=>?_) fun hge=>?_
 ·have hjl:j < ps.length:=by omega
  obtain ⟨q,hq⟩:∃ q,ps[j]?=some q:=⟨_,List.getElem?_eq_getElem hjl⟩
  obtain ⟨pa,ea,c0,c1⟩:=pl_read (x.keepN k1).rd hq
  simp only [Int.toNat_natCast]
  refine ⟨⟨by omega,by omega⟩,PtrOk_of ea ⟨_,c0,_,c1,own2 fun h2 r2 k2=>?_⟩⟩
  have enb:nb h1=ad h1.size:=rfl
  rw [enb]
  refine ⟨_,(cell_row r2 0).trans rfl,_,by rw [add_ad]; exact (cell_row r2 1).trans rfl,fit_ok fun h3 k3=>⟨_,rfl,?_⟩⟩
  have k13:=(k1.trans k2).trans k3
  cases hf:fitB q with
  | false =>
   refine Cond_t rfl ?_
   have:ps.all fitB=false:=by
    rw [List.all_eq_false]
    exact ⟨q,List.mem_of_getElem? hq,by rw [hf]; simp⟩
   have hh:=hR h3 k13
   rw [if_pos this] at hh
   exact hh
  | true =>
   refine Cond_f rfl ⟨ps.length - (j + 1),by omega,j + 1,by omega,rfl,(by first | rfl | trivial),(by first | rfl | trivial),(by first | rfl | trivial),by rw [wr (by omega) (by omega)]; rfl,fun q' hq'=>?_,k13⟩
   rw [List.take_add_one,hq] at hq'
   rcases List.mem_append.1 hq' with z | z
   ·exact hall q' z
   ·have z:q'=q:=by simpa using z
    rw [z]; exact hf
 ·have e:j=ps.length:=by omega
  subst e
  rw [List.take_length] at hall
  have:ps.all fitB=true:=List.all_eq_true.2 hall
  have hh:=hR h1 k1
  rw [if_neg (by rw [this]; simp)] at hh
  refine Cond_dec (fun h0=>?_) fun h0=>?_
  ·rw [if_pos h0] at hh; exact hh
  ·rw [if_neg h0] at hh; exact hh
theorem check_ok (x:WRep h W) {a:Sl} {ps:List Plc} (pi:PlIn h a ps) {c k t:Int} (hR:∀ h',Kept N h h'→R (.int .i64 (blockE (W.find c).isSome c k ps t)) h') :
  CallTo Try.prog 35 #[.pointer (some (ad W.wb)),.int .i64 c,.int .i64 k,.slice a.a a.n a.c,.int .u64 t] h R:=by
 refine f35F_ok (a3:=a) ?_
 unfold f35F
 have hn:=pi.n
 have bad:(c < 0 ∨ 8 ≤ c)→f35K1 (some (ad W.wb)) c k a t true h R:=fun hb=>by
  unfold f35K1
  have hh:=hR h (Kept.refl _ _)
  unfold blockE at hh
  rw [if_pos hb] at hh
  exact Cond_t rfl hh
 have good:¬ (c < 0 ∨ 8 ≤ c)→f35K1 (some (ad W.wb)) c k a t false h R:=fun hb=>by
  unfold f35K1
  refine Cond_f rfl (PtrOk_mk ⟨_,x.m.c1,_,(PWz (W.find c)).2.1,_,_,_,x.m.get c,own4 fun h1 r1 k1=>?_⟩)
  have hR1:∀ h',Kept N h1 h'→R (.int .i64 (blockE (W.find c).isSome c k ps t)) h':=fun h' k'=>hR h' (k1.trans k')
  unfold blockE at hR1
  simp only [if_neg hb] at hR1
  cases hs:(W.find c).isSome with
  | true =>
   have hh:=hR1 h1 (Kept.refl _ _)
   rw [hs] at hh
   exact Cond_t rfl hh
  | false =>
   refine Cond_f rfl ?_
   simp only [hs,Bool.false_eq_true,if_false] at hR1
   have rest:¬ (k ≠ 2∧k ≠ 5)→Cond (((((a.n:Nat):Int)) == (0:Int))) (R (.int .i64 182:Value) h1) (Cond (decide ((((a.n:Nat):Int)) > (64:Int))) (R (.int .i64 182:Value) h1) (LoopEv (evC Try.prog tab lv35 (sub [1,1,1,1,1,0,1,0,0] body35)) (contAt Try.prog tab lv35 [1,1,1,1,1,0,1,0] body35 [] (bodyK Try.prog Try.f35 [] R)) [(4,.int .u64 t),(45,.slice a.a a.n a.c),(46,.int .i64 (((a.n:Nat):Int))),(47,.int .i64 0)] 57 h1)):=fun hk=>by
    simp only [if_neg hk] at hR1
    refine Cond_b (fun h0=>?_) fun h0=>Cond_dec (fun h6=>?_) fun h6=>?_
    ·have h0:ps.length=0:=by
      have:((a.n:Nat):Int)=0:=by simpa using h0
      omega
     have hh:=hR1 h1 (Kept.refl _ _)
     rw [if_pos (.inl h0)] at hh
     exact hh
    ·have hh:=hR1 h1 (Kept.refl _ _)
     rw [if_pos (.inr (.inl (by omega)))] at hh
     exact hh
    ·have h0:((a.n:Nat):Int) ≠ 0:=by simpa using h0
     refine checkL_ok (pi.keepN k1) (by omega) fun h' k'=>?_
     have hh:=hR1 h' k'
     by_cases hf:ps.all fitB=false
     ·rw [if_pos (.inr (.inr hf))] at hh
      rw [if_pos hf]; exact hh
     ·rw [if_neg (by rintro (z | z | z); omega; omega; exact hf z)] at hh
      rw [if_neg hf]; exact hh
   refine Cond_b (fun h2=>Cond_b (fun h5=>?_) fun h5=>rest ?_) fun h2=>rest ?_
   ·have hk:k ≠ 2∧k ≠ 5:=⟨by simpa using h2,by simpa using h5⟩
    have hh:=hR1 h1 (Kept.refl _ _)
    rw [if_pos hk] at hh
    exact hh
   ·have h5:k=5:=by simpa using h5
    omega
   ·have h2:k=2:=by simpa using h2
    omega
 refine Cond_dec (fun h0=>bad (.inl h0)) fun h0=>?_
 by_cases h8:c ≥ 8
 ·rw [decide_eq_true h8]; exact bad (.inr h8)
 ·rw [decide_eq_false h8]; exact good (by omega)
end
end Go.Ev
