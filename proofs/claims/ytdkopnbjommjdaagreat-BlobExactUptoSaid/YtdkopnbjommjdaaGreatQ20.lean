/- larderlaw1's lists that are lent: texts of bytes; Lend, Intact, Over, Other, Into / larderlaw1's Book over lists of bytes: what it is in memory; its reading / larderlaw1's Book: its writing; Look / larderlaw1's Book: lists are appended to; Look / larderlaw1's Book: grow, Look, Bytes. No condition but that these are ones. -/
import Derived.Test.YtdkopnbjommjdaaGreatQ15
import Derived.Test.YtdkopnbjommjdaaGreatQ19
import Derived.Laws.Strings
set_option linter.all false
set_option maxRecDepth 1000000
namespace Go.Ev
open Go.Proofs
def ofL (l:List Nat):ByteArray:=⟨(l.map UInt8.ofNat).toArray⟩
theorem ofL_size (l:List Nat):(ofL l).size=l.length:=by unfold ofL; simp [ByteArray.size]
theorem ofL_toNat {c:Nat} (h:c < 256):(UInt8.ofNat c).toNat=c:=by simp [UInt8.toNat_ofNat']; omega
theorem ofL_bytes {l:List Nat} (b8:Bytes8 l):((ofL l).data.toList.map fun b=>Value.int .u8 b.toNat)=l.map bv:=by
 unfold ofL
 rw [List.map_map]
 apply List.map_congr_left
 intro c hc
 show Value.int .u8 (((UInt8.ofNat c).toNat:Nat):Int)=bv c
 rw [ofL_toNat (b8 c hc)]
 rfl
theorem ofL_arr {l:List Nat} (b8:Bytes8 l):((ofL l).data.map fun b=>Value.int .u8 b.toNat)=(l.map bv).toArray:=by
 apply Array.ext'
 rw [Array.toList_map]
 exact ofL_bytes b8
theorem spells_of {h:Hp} {a:Option Addr} {n:Nat} {l:List Nat} (rd:ReadsO h a (l.map bv)) (hn:n=l.length) (b8:Bytes8 l):Spells h a n (ofL l) :=
 ⟨by rw [ofL_size,hn],by rw [ofL_bytes b8]; exact rd⟩
theorem ofL_beq {l:List Nat}:(ByteArray.toList (ofL l) == ByteArray.toList (ofL l))=true:=beq_self_eq_true _
theorem sl0 (rc c:Nat):(if rc=(0:Int).toNat then some (ad c) else Option.map (fun x=>x.add ((0:Int).toNat * 1)) (some (ad c)))=some (ad c):=by split <;> rfl
section
variable {h h':Hp} {M M':Mem} {sz x y:Nat} {s:Sl} {vs:List Value} {R:Value→Hp→Prop}
/-- append of elements that lie in a new block -/
theorem IsSl.appn {e bys m:Nat} {z:Array Value} {arr:Array Value} {t:TypeId} {K:Option Addr→Nat→Nat→Hp→Prop} (i:IsSl sz M x s vs) (p:Sep h M) (hz:z.size=sz) (hl:arr.toList.length=m * sz) (hcell:∀ v ∈ arr.toList,isCell v=true)
  (hby:(2 * (s.n + m) + 768) * bys ≤ 2 ^ 48) (hlt:s.n + m < 2 ^ 62)
  (hK:∀ a' c' h' ob c,Sep h' (M.upd x ob c)→IsSl sz (M.upd x ob c) x ⟨a',s.n + m,c'⟩ (vs ++ arr.toList)→Chg h M h' (M.upd x ob c)→K a' (s.n + m) c' h') :
  Let (h.push (.cells arr t)) fun h2=>appSl e sz bys z s.a s.n s.c (some (nb h)) m h2 K:=by
 show (fun h2=>appSl e sz bys z s.a s.n s.c (some (nb h)) m h2 K) (h.push (.cells arr t))
 generalize e2:h.push (.cells arr t)=h2
 have e2:=e2.symm
 have k2:Kept (fun _=>False) h h2:=e2 ▸ kept_push _ _ _
 have row2:Row h2 h.size arr.toList:=e2 ▸ row_new h arr t
 exact ⟨arr.toList,reads_row row2 (fun j v hj=>by rw [Nat.zero_add]; exact hj),hl,i.app (p.keepN k2) hz hl hcell hby hlt fun a' c' h' ob c q1 q2 q3=>hK a' c' h' ob c q1 q2 ((Chg.of_kept k2).trans q3)⟩
/-- What stands behind what is lent. -/
def marks:List Value:=[bv 165,bv 90,bv 165]
/-- A list that is lent: its block, its room. -/
structure LendAt (h:Hp) (c cap:Nat) (l:List Nat):Prop where
 row:∃ junk,Row h c (l.map bv ++ marks ++ junk)∧cap=l.length + 3 + junk.length
theorem LendAt.reads {c cap:Nat} {l:List Nat} (i:LendAt h c cap l):ReadsO h (some (ad c)) (l.map bv):=by
 obtain ⟨junk,row,_⟩:=i.row
 intro j v hj
 refine row_reads row j v ?_
 rw [List.append_assoc,List.getElem?_append_left (List.getElem?_eq_some_iff.1 hj).1]
 exact hj
theorem LendAt.lt {c cap:Nat} {l:List Nat} (i:LendAt h c cap l):c < h.size:=by obtain ⟨junk,row,_⟩:=i.row; exact row_lt row
theorem LendAt.keep {c cap:Nat} {l:List Nat} {S:Nat→Prop} (i:LendAt h c cap l) (k:Kept S h h') (hS:¬ S c):LendAt h' c cap l:=by
 obtain ⟨junk,row,e⟩:=i.row
 exact ⟨junk,kept_row k row hS,e⟩
def M00:Mem:=⟨fun _=>none,fun _=>[]⟩
theorem sep00 (h:Hp):Sep h M00:=⟨(fun y b hy=>by cases hy),fun y z b hy _=>by cases hy⟩
theorem nil00 (sz:Nat):IsSl sz M00 0 ⟨none,0,0⟩ []:=⟨by simp,fun _=>⟨rfl,rfl,rfl⟩,fun b hb=>by cases hb⟩
theorem chg00 (k:Chg h M00 h' M'):Kept N h h'∧∀ b,M'.own b→h.size ≤ b:=⟨⟨k.1.1,fun i hi _=>k.1.2 i hi fun ⟨y,hy⟩=>by cases hy⟩,fun b hb=>(k.2 b hb).resolve_left fun ⟨y,hy⟩=>by cases hy⟩
theorem lend_ok {a:Sl} {l:List Nat} (rd:ReadsO h a.a (l.map bv)) (na:a.n=l.length) (b8:Bytes8 l) (hl:l.length < 10000000)
  (hR:∀ c cap h',LendAt h' c cap l→h.size ≤ c→Kept N h h'→R (.slice (some (ad c)) l.length cap) h'):CallTo Tryz.prog 46 #[.slice a.a a.n a.c] h R:=by
 refine f46F_ok ?_
 unfold f46F
 rw [na]
 refine ⟨l.map bv,rd,by rw [List.length_map,Nat.mul_one],(nil00 1).app (sep00 h) rfl (by rw [List.length_map,Nat.mul_one]) (fun v hv=>by obtain ⟨z,_,rfl⟩:=List.mem_map.1 hv; rfl) (by show (2 * (0 + l.length) + 768) * 1 ≤ _; omega) (by show 0 + l.length < _; omega) fun a1 c1 h1 ob1 cc1 sep1 sl1 ch1=>?_⟩
 refine sl1.appn sep1 (arr:=#[.int .u8 165,.int .u8 90,.int .u8 165]) rfl rfl (fun v hv=>by simp at hv; rcases hv with e | e | e <;> rw [e] <;> rfl) (by show (2 * (0 + l.length + 3) + 768) * 1 ≤ _; omega) (by show 0 + l.length + 3 < _; omega) fun a3 c3 h3 ob3 cc3 sep3 sl3 ch3=>?_
 have ch:=ch1.trans ch3
 obtain ⟨kN,own⟩:=chg00 ch
 obtain ⟨c,hc,ha⟩:=sl3.some_of (fun e=>by have:=congrArg List.length e; simp at this)
 obtain ⟨_,hnc,junk,ec,el⟩:=sl3.row c hc
 have ha:a3=some (ad c):=ha
 have hnc:0 + l.length + 3 ≤ c3:=hnc
 have hR':=hR c c3 h3 ⟨junk,by have:=sep3.row 0 c hc; rw [ec] at this; exact this,by simp at el; omega⟩ (own c ⟨0,hc⟩) kN
 refine ⟨⟨by omega,by omega⟩,⟨by omega,by omega⟩,?_⟩
 rw [ha,sl0,Int.toNat_natCast]
 exact hR'
theorem intact_ok {c cap:Nat} {l:List Nat} (i:LendAt h c cap l) (b8:Bytes8 l) (hl:l.length < 10000000) {a:Sl} (rd:ReadsO h a.a (l.map bv)) (na:a.n=l.length) (hR:R (.bool true) h) :
  CallTo Tryz.prog 49 #[.slice (some (ad c)) l.length cap,.slice a.a a.n a.c] h R:=by
 obtain ⟨junk,row,ecap⟩:=i.row
 refine f49F_ok (a0:=⟨some (ad c),l.length,cap⟩) ?_
 unfold f49F
 have cm:∀ j:Nat,j < 3→cell h ((ad c).add (l.length + j))=marks[j]?:=fun j hj=>by
  rw [add_ad]
  refine (cell_row row _).trans ?_
  rw [List.append_assoc,List.getElem?_append_right (by rw [List.length_map]; omega),List.length_map,Nat.add_sub_cancel_left,List.getElem?_append_left (by unfold marks; simpa using hj)]
 refine ⟨ofL l,spells_of i.reads rfl b8,ofL l,spells_of rd na b8,?_⟩
 rw [ofL_beq]
 have e3:IntKind.wrap .i64 (((l.length:Nat):Int) + 3)=((l.length + 3:Nat):Int):=by rw [wrap_i64' (by omega) (by omega)]; omega
 have e1:IntKind.wrap .i64 (((l.length:Nat):Int) + 1)=((l.length + 1:Nat):Int):=by rw [wrap_i64' (by omega) (by omega)]; omega
 have e2:IntKind.wrap .i64 (((l.length:Nat):Int) + 2)=((l.length + 2:Nat):Int):=by rw [wrap_i64' (by omega) (by omega)]; omega
 rw [show (⟨some (ad c),l.length,cap⟩:Sl).n=l.length from rfl,e3,e1,e2,show (⟨some (ad c),l.length,cap⟩:Sl).a=some (ad c) from rfl,show (⟨some (ad c),l.length,cap⟩:Sl).c=cap from rfl,sl0]
 simp only [Int.toNat_natCast,Nat.mul_one]
 have z0:(0:Int).toNat=0:=rfl
 refine Cond_f rfl ⟨⟨by omega,by omega⟩,⟨by omega,by omega⟩,⟨by omega,by rw [z0]; omega⟩,PtrOk_mk ⟨165,(cm 0 (by omega)),Cond_t rfl ⟨⟨by omega,by rw [z0]; omega⟩,PtrOk_mk ⟨90,(cm 1 (by omega)),Cond_t rfl ⟨⟨by omega,by rw [z0]; omega⟩,PtrOk_mk ⟨165,(cm 2 (by omega)),hR⟩⟩⟩⟩⟩⟩
/-- Over: bytes of a part are written over. -/
theorem over_ok (p:Sep h M) {x c:Nat} (hx:M.loc x=some c) {n cap:Nat} (hn:n ≤ (M.cont x).length) (hl:n < 10000000) (hR:∀ h' cs,Sep h' (M.upd x (some c) cs)→cs.length=(M.cont x).length→cs.drop n=(M.cont x).drop n→Chg h M h' (M.upd x (some c) cs)→R (.tuple #[]) h') :
  CallTo Tryz.prog 50 #[.slice (some (ad c)) n cap] h R:=by
 refine f50F_ok (a0:=⟨some (ad c),n,cap⟩) ?_
 unfold f50F
 have e0:∀ y,M.loc y=(M.upd x (some c) (M.cont x)).loc y:=fun y=>by
  by_cases e:y=x
  ·subst e; rw [Mem.loc_self]; exact hx
  ·rw [Mem.loc_ne _ _ _ e]
 have p0:Sep h (M.upd x (some c) (M.cont x)):=⟨fun y b hy=>by
  by_cases e:y=x
  ·subst e; rw [Mem.loc_self] at hy; obtain rfl:=Option.some.inj hy; rw [Mem.cont_self]; exact p.row y c hx
  ·rw [Mem.loc_ne _ _ _ e] at hy; rw [Mem.cont_ne _ _ _ e]; exact p.row y b hy,fun y z b hy hz=>p.inj y z b ((e0 y).trans hy) ((e0 z).trans hz)⟩
 have c0:Chg h M h (M.upd x (some c) (M.cont x)):=⟨Kept.refl _ _,fun b ⟨y,hy⟩=>.inl ⟨y,(e0 y).trans hy⟩⟩
 have upd2:∀ cs cs':List Value,(M.upd x (some c) cs).upd x (some c) cs'=M.upd x (some c) cs':=fun cs cs'=>by
  unfold Mem.upd
  congr 1 <;> (funext y; by_cases e:y=x <;> simp [e])
 refine f50L1_rule (s0:=⟨some (ad c),n,cap⟩) (fun m s0 s2 h'=>∃ (i:Nat) (cs:List Value),i ≤ n∧m=n - i∧⟨some (ad c),n,cap⟩=s0∧s2=(i:Int)∧cs.length=(M.cont x).length∧cs.drop n=(M.cont x).drop n∧Sep h' (M.upd x (some c) cs)∧Chg h M h' (M.upd x (some c) cs)) n
  ⟨0,M.cont x,Nat.zero_le _,rfl,rfl,rfl,rfl,rfl,p0,c0⟩ ?_
 rintro m s0 s2 g h1 ⟨i,cs,hi,rfl,rfl,rfl,hcl,hcd,p1,ch1⟩
 unfold f50L1
 refine Cond_dec (fun hlt=>?_) fun hge=>hR h1 cs p1 hcl hcd ch1
 have hlt:((i:Nat):Int) < ((n:Nat):Int):=hlt
 refine ⟨⟨by omega,hlt⟩,PtrOk_mk ?_⟩
 rw [Int.toNat_natCast,Nat.mul_one]
 refine p1.st (Mem.loc_self _ _ _ _) (add_ad _ _) (by rw [Mem.cont_self]; omega) fun h2 p2 ch2=>?_
 rw [Mem.cont_self,upd2] at p2 ch2
 refine ⟨n - (i + 1),by omega,i + 1,cs.set i (.int .u8 238),by omega,rfl,rfl,by rw [wrap_i64' (by omega) (by omega)]; rfl,by rw [List.length_set]; exact hcl,?_,p2,ch1.trans ch2⟩
 rw [List.drop_set_of_lt (by omega)]
 exact hcd
/-- Into: bytes are put into a list, in the same place. -/
theorem put_ok {c cap:Nat} {l m:List Nat} (i:LendAt h c cap l) (hl:l.length < 10000000) {a:Sl} (rd:ReadsO h a.a (m.map bv)) (na:a.n=m.length) (hml:m.length=l.length) (old:∀ p,a.a=some p→m ≠ []→p.block ≠ c∧p.block < h.size)
  (hR:∀ h',LendAt h' c cap m→Kept (fun b=>b=c) h h'→R (.tuple #[]) h'):CallTo Tryz.prog 60 #[.slice (some (ad c)) l.length cap,.slice a.a a.n a.c] h R:=by
 obtain ⟨junk,row,ecap⟩:=i.row
 refine f60F_ok (a0:=⟨some (ad c),l.length,cap⟩) ?_
 unfold f60F
 refine f60L1_rule (s0:=⟨some (ad c),l.length,cap⟩) (fun q s0 s1 s4 h'=>∃ (k:Nat),k ≤ l.length∧q=l.length - k∧⟨some (ad c),l.length,cap⟩=s0∧a=s1∧s4=(k:Int)∧Row h' c ((m.take k).map bv ++ (l.drop k).map bv ++ marks ++ junk)∧Kept (fun b=>b=c) h h') l.length
  ⟨0,Nat.zero_le _,rfl,rfl,rfl,rfl,by simpa using row,Kept.refl _ _⟩ ?_
 rintro q s0 s1 s4 g h1 ⟨k,hk,rfl,rfl,rfl,rfl,row1,k1⟩
 unfold f60L1
 refine Cond_dec (fun hlt=>?_) fun hge=>?_
 ·have hlt:((k:Nat):Int) < ((l.length:Nat):Int):=hlt
  have hkm:k < m.length:=by omega
  have rd1:ReadsO h1 a.a (m.map bv):=reads_kept2 k1 rd fun p hp hn=>(have:=old p hp (fun e=>hn (by rw [e]; rfl)); ⟨this.2,this.1⟩)
  obtain ⟨pa,hpa,hcell⟩:=readsO_get rd1 (i:=k) (v:=bv (m.getD k 0)) (by rw [List.getElem?_map,List.getD_eq_getElem?_getD,List.getElem?_eq_getElem hkm]; rfl)
  refine ⟨⟨by omega,by omega⟩,PtrOk_of hpa ⟨((m.getD k 0:Nat):Int),by rw [Int.toNat_natCast,Nat.mul_one]; exact hcell,⟨by omega,hlt⟩,PtrOk_mk ?_⟩⟩
  rw [Int.toNat_natCast,Nat.mul_one]
  refine row_st row1 (i:=k) (add_ad _ _) (by simp; omega) fun h2 row2 k2=>⟨l.length - (k + 1),by omega,k + 1,by omega,rfl,rfl,rfl,by rw [wrap_i64' (by omega) (by omega)]; rfl,?_,k1.trans k2⟩
  have e:((m.take k).map bv ++ (l.drop k).map bv ++ marks ++ junk).set k (.int .u8 ((m.getD k 0:Nat):Int))=(m.take (k + 1)).map bv ++ (l.drop (k + 1)).map bv ++ marks ++ junk:=by
   have hd:l.drop k=l[k]'(by omega) :: l.drop (k + 1):=by rw [List.drop_eq_getElem_cons (by omega)]
   have ht:m.take (k + 1)=m.take k ++ [m.getD k 0]:=by rw [List.take_succ,List.getElem?_eq_getElem hkm,List.getD_eq_getElem?_getD,List.getElem?_eq_getElem hkm]; rfl
   have hlen:((m.take k).map bv).length=k:=by rw [List.length_map,List.length_take]; omega
   rw [hd,ht,List.map_cons,List.append_assoc,List.append_assoc,List.set_append_right _ _ (by omega),hlen,Nat.sub_self]
   simp [bv]
  rw [e] at row2
  exact row2
 ·have hkl:k=l.length:=by have:¬ ((k:Nat):Int) < ((l.length:Nat):Int):=hge; omega
  subst hkl
  rw [List.drop_length,← hml,List.take_length,List.map_nil,List.append_nil] at row1
  exact hR h1 ⟨junk,row1,by omega⟩ k1
theorem xor8 (t:Nat) (ht:t < 256):∃ u:Nat,u < 256∧xorI .u8 (t:Int) 1=(u:Int):=by
 have hb:=(BitVec.ofInt 8 (t:Int) ^^^ BitVec.ofInt 8 1).isLt
 refine ⟨(BitVec.ofInt 8 (t:Int) ^^^ BitVec.ofInt 8 1).toNat,hb,?_⟩
 show IntKind.wrap .u8 (((BitVec.ofInt 8 (t:Int) ^^^ BitVec.ofInt 8 1).toNat:Nat):Int)=_
 generalize (BitVec.ofInt 8 (t:Int) ^^^ BitVec.ofInt 8 1).toNat=n at hb
 have:(n:Int) % 256=n:=by omega
 simp [IntKind.wrap,IntKind.signed,IntKind.bits]
 omega
end
end Go.Ev
set_option linter.all false
set_option maxRecDepth 1000000
namespace Go.Ev
open Go.Proofs
/-- Byte k of the mark of list m. -/
def mkB (m k:Nat):Nat:=if k % 2=0 then 1 + m % 251 else 1 + (7 * m + m / 251) % 251
section
variable {h h':Hp} {R:Value→Hp→Prop}
theorem wrap_u8b {x:Int} (h0:0 ≤ x) (h1:x < 256):IntKind.wrap .u8 x=x:=by
 simp [IntKind.wrap,IntKind.signed,IntKind.bits]
 omega
theorem bmark_ok {m k:Nat} (hm:m < 100000000) (hk:k < 100000000) (hR:R (.int .u8 (mkB m k:Nat)) h):CallTo Tryz.prog 87 #[.int .i64 (m:Nat),.int .i64 (k:Nat)] h R:=by
 refine f87F_ok ?_
 unfold f87F
 rw [Int.tmod_eq_emod_of_nonneg (by omega),Int.tmod_eq_emod_of_nonneg (by omega),Int.tdiv_eq_ediv_of_nonneg (by omega)]
 unfold mkB at hR
 refine ⟨by decide,Cond_b (fun e=>⟨by decide,?_⟩) fun e=>⟨by decide,by decide,?_⟩⟩
 ·have e:((k:Nat):Int) % 2=0:=by simpa using e
  rw [if_pos (by omega)] at hR
  rw [wrap_i64' (by omega) (by omega),wrap_u8b (by omega) (by omega)]
  have q:(1:Int) + ((m:Nat):Int) % 251=((1 + m % 251:Nat):Int):=by omega
  rw [q]
  exact hR
 ·have e:¬ ((k:Nat):Int) % 2=0:=by simpa using e
  rw [if_neg (by omega)] at hR
  rw [wrap_i64' (x:=(7:Int) * _) (by omega) (by omega),wrap_i64' (x:=((m:Nat):Int) / 251) (by omega) (by omega),wrap_i64' (x:=(7:Int) * ((m:Nat):Int) + ((m:Nat):Int) / 251) (by omega) (by omega)]
  rw [Int.tmod_eq_emod_of_nonneg (by omega),wrap_i64' (by omega) (by omega),wrap_u8b (by omega) (by omega)]
  have q:(1:Int) + (7 * ((m:Nat):Int) + ((m:Nat):Int) / 251) % 251=((1 + (7 * m + m / 251) % 251:Nat):Int):=by omega
  rw [q]
  exact hR
end
/-- A book: where it lies, what it keeps. -/
structure BkD where
 bb:Nat
 M:Mem
 own:Nat→Option Nat
 es:List (Sl × Nat)
 sb:Sl
 so:Sl
 gat:Nat
 turn:Nat
 done:Nat
 used:Nat
def zS:Value:=.slice none 0 0
def zI:Value:=.int .i64 0
def BkD.cells (d:BkD):List Value:=[.slice d.sb.a d.sb.n d.sb.c,.slice d.so.a d.so.n d.so.c,nv d.gat,zS,zS,zI,zS,zS,zI,zS,zS,zI,zS,zS,zI,zS,zS,zI,zS,zS,zI,zS,zS,zI,zS,zS,zI,zS,zS,zI,nv d.turn,nv d.done,nv d.used]
/-- A list that holds its mark, in a block that is the book's. -/
def BkE (h:Hp) (own:Nat→Option Nat) (e:Sl × Nat):Prop :=
 (e.1.a=none∧e.1.n=0∧e.1.c=0) ∨ ∃ (b:Nat) (cs:List Value),e.1.a=some (ad b)∧own b=some e.2∧Row h b cs∧cs.length=e.1.c∧e.1.n ≤ e.1.c∧∀ j,j < e.1.n→cs[j]?=some (bv (mkB e.2 j))
structure BkD.Nums (d:BkD):Prop where
 gl:d.gat ≤ d.es.length
 n3:d.done ≤ d.turn
 n4:d.used ≤ 16777216
 mt:∀ e ∈ d.es,e.2 ≤ d.turn
 l1:∀ e ∈ d.es,e.1.n ≤ 10000096
/-- What holds between the calls: few lists, and those that are new are not yet long. -/
structure BkD.Top (d:BkD):Prop where
 n1:d.es.length + 9 * (d.es.length - d.gat) ≤ 10 * d.turn
 l2:∀ (i:Nat) (e:Sl × Nat),d.gat ≤ i→d.es[i]?=some e→e.1.n ≤ 10000000
def BkD.foot (d:BkD) (b:Nat):Prop:=d.M.own b ∨ ∃ m,d.own b=some m
structure Bk (h:Hp) (d:BkD):Prop where
 sep:Sep h d.M
 l0:d.M.loc 0=some d.bb
 c0:d.M.cont 0=d.cells
 s1:IsSl 1 d.M 1 d.sb (d.es.map fun e=>slV e.1)
 s2:IsSl 1 d.M 2 d.so (d.es.map fun e=>nv e.2)
 dis:∀ b m,d.own b=some m→b < h.size∧¬ d.M.own b
 each:∀ e ∈ d.es,BkE h d.own e
 nums:d.Nums
def BkT (h:Hp) (d:BkD) (h':Hp) (d':BkD):Prop:=d'.bb=d.bb∧Kept d.foot h h'∧∀ b,d'.foot b→d.foot b ∨ h.size ≤ b
section
variable {h h' h2:Hp} {d d' d2:BkD} {R:Value→Hp→Prop}
theorem BkT.refl (h:Hp) (d:BkD):BkT h d h d:=⟨rfl,Kept.refl _ _,fun _=>.inl⟩
theorem BkT.trans (a:BkT h d h' d') (b:BkT h' d' h2 d2):BkT h d h2 d2 :=
 ⟨b.1.trans a.1,⟨Nat.le_trans a.2.1.1 b.2.1.1,fun i hi hn=>(b.2.1.2 i (Nat.lt_of_lt_of_le hi a.2.1.1) fun o=>(a.2.2 i o).elim hn fun h=>by omega).trans (a.2.1.2 i hi hn)⟩,
  fun i o=>(b.2.2 i o).elim (a.2.2 i) fun h=>.inr (Nat.le_trans a.2.1.1 h)⟩
theorem BkE.keep {own:Nat→Option Nat} {e:Sl × Nat} {S:Nat→Prop} (x:BkE h own e) (k:Kept S h h') (hS:∀ b m,own b=some m→¬ S b):BkE h' own e:=by
 rcases x with x | ⟨b,cs,h1,h2,h3,h4⟩
 ·exact .inl x
 ·exact .inr ⟨b,cs,h1,h2,kept_row k h3 (hS b _ h2),h4⟩
theorem Bk.keep {S:Nat→Prop} (x:Bk h d) (k:Kept S h h') (hS:∀ b,d.foot b→¬ S b):Bk h' d :=
 ⟨x.sep.keep k fun b hb=>hS b (.inl hb),x.l0,x.c0,x.s1,x.s2,fun b m hb=>(have:=x.dis b m hb; ⟨Nat.lt_of_lt_of_le this.1 k.1,this.2⟩),fun e he=>(x.each e he).keep k fun b m hb=>hS b (.inr ⟨m,hb⟩),x.nums⟩
theorem Bk.keepN (x:Bk h d) (k:Kept N h h'):Bk h' d:=x.keep k fun _ _=>_root_.id
theorem Bk.foot_lt (x:Bk h d) {b:Nat} (hb:d.foot b):b < h.size:=by
 rcases hb with hb | ⟨m,hb⟩
 ·exact x.sep.own_lt hb
 ·exact (x.dis b m hb).1
theorem Bk.cell (x:Bk h d) (k:Nat):Go.Ev.cell h ((ad d.bb).add k)=d.cells[k]?:=by
 rw [x.sep.cellA x.l0 k,x.c0]
theorem Bk.cell0 (x:Bk h d):Go.Ev.cell h (ad d.bb)=d.cells[0]?:=x.cell 0
theorem cond0 {A B:Prop} (hb:B):Cond (decide ((0:Int) < ((0:Nat):Int))) A B:=hb
/-- plain: all lists hold their marks. -/
theorem plain_ok (x:Bk h d) (ht:d.turn < 1000000) (n1:d.es.length < 10000001) (hR:R (.bool true) h):CallTo Tryz.prog 74 #[.pointer (some (ad d.bb))] h R:=by
 have ln:d.sb.n=d.es.length:=by have:=x.s1.len; rw [List.length_map] at this; omega
 have lo:d.so.n=d.es.length:=by have:=x.s2.len; rw [List.length_map] at this; omega
 have rb:=slAt_reads (x.s1.slAt x.sep)
 have ro:=slAt_reads (x.s2.slAt x.sep)
 have cB:Go.Ev.cell h (ad d.bb)=some (.slice d.sb.a d.sb.n d.sb.c):=x.cell0
 have cO:Go.Ev.cell h ((ad d.bb).add 1)=some (.slice d.so.a d.so.n d.so.c):=x.cell 1
 refine f74F_ok ?_
 unfold f74F
 refine f74L1_rule (fun m s0 s3 h'=>∃ i:Nat,i ≤ d.es.length∧m=d.es.length - i∧s0=some (ad d.bb)∧s3=(i:Int)∧h=h') d.es.length ⟨0,Nat.zero_le _,rfl,rfl,rfl,rfl⟩ ?_
 rintro m s0 s3 g h1 ⟨i,hi,rfl,rfl,rfl,rfl⟩
 unfold f74L1
 refine PtrOk_mk ⟨d.sb,cB,Cond_dec (fun hlt=>?_) fun hge=>?_⟩
 ·have hil:i < d.es.length:=by omega
  obtain ⟨e,he⟩:∃ e,d.es[i]?=some e:=⟨_,List.getElem?_eq_getElem hil⟩
  have hmem:=List.mem_of_getElem? he
  have hn1:=x.nums.l1 e hmem
  have hmt:=x.nums.mt e hmem
  refine f74L2_rule (J1:=fun m s0 s3 h'=>∃ i:Nat,i ≤ d.es.length∧m=d.es.length - i∧s0=some (ad d.bb)∧s3=(i:Int)∧h=h') (n1:=d.es.length - i) (fun m s0 s3 s4 h'=>∃ j:Nat,j ≤ e.1.n∧m=e.1.n - j∧s0=some (ad d.bb)∧s3=(i:Int)∧s4=(j:Int)∧h=h') e.1.n ⟨0,Nat.zero_le _,rfl,rfl,rfl,rfl,rfl⟩ ?_
  rintro m2 s0 s3 s4 g2 h2 ⟨j,hj,rfl,rfl,rfl,rfl,rfl⟩
  unfold f74L2
  obtain ⟨pb,hpb,cb⟩:=readsO_get rb (i:=i) (v:=slV e.1) (by rw [List.getElem?_map,he]; rfl)
  obtain ⟨po,hpo,co⟩:=readsO_get ro (i:=i) (v:=nv e.2) (by rw [List.getElem?_map,he]; rfl)
  have bnd:(0:Int) ≤ ((i:Nat):Int)∧((i:Nat):Int) < ((d.sb.n:Nat):Int):=⟨by omega,by omega⟩
  rw [Int.toNat_natCast,Nat.mul_one]
  refine PtrOk_mk ⟨d.sb,cB,bnd,PtrOk_of hpb ⟨e.1,cb,Cond_dec (fun hlt2=>?_) fun hge2=>?_⟩⟩
  ·have hjl:j < e.1.n:=by omega
   rcases x.each e hmem with z | ⟨b,cs,hb1,hb2,row,hcl,hnc,hcs⟩
   ·omega
   ·refine PtrOk_mk ⟨d.sb,cB,bnd,PtrOk_of hpb ⟨e.1,cb,⟨by omega,hlt2⟩,PtrOk_of hb1 ⟨((mkB e.2 j:Nat):Int),?_,PtrOk_mk ⟨d.so,cO,⟨by omega,by omega⟩,PtrOk_of hpo ⟨((e.2:Nat):Int),co,_,bmark_ok (by omega) (by omega) ⟨rfl,rfl⟩,Cond_f (bne_self_eq_false _) ?_⟩⟩⟩⟩⟩
    ·rw [Int.toNat_natCast,Nat.mul_one,add_ad]
     exact (cell_row row j).trans (hcs j hjl)
    ·exact ⟨e.1.n - (j + 1),by omega,j + 1,by omega,rfl,rfl,rfl,by rw [wrap_i64' (by omega) (by omega)]; rfl,rfl⟩
  ·exact ⟨d.es.length - (i + 1),by omega,i + 1,by omega,rfl,rfl,by rw [wrap_i64' (by omega) (by omega)]; rfl,rfl⟩
 ·refine f74L3_rule (fun m s0 s5 h'=>s0=some (ad d.bb)∧s5=0∧h=h') 0 ⟨rfl,rfl,rfl⟩ ?_
  rintro m s0 s5 g h2 ⟨rfl,rfl,rfl⟩
  unfold f74L3
  exact PtrOk_mk ⟨⟨none,0,0⟩,x.cell 3,cond0 hR⟩
theorem kept_ok (x:Bk h d) (hR:R (.bool true) h):CallTo Tryz.prog 75 #[.pointer (some (ad d.bb))] h R:=by
 refine f75F_ok ?_
 unfold f75F
 refine f75L1_rule (fun m s0 s3 h'=>s0=some (ad d.bb)∧s3=0∧h=h') 0 ⟨rfl,rfl,rfl⟩ ?_
 rintro m s0 s3 g h1 ⟨rfl,rfl,rfl⟩
 unfold f75L1
 refine PtrOk_mk ⟨⟨none,0,0⟩,x.cell 6,cond0 ?_⟩
 refine f75L3_rule (fun m s0 s3 h'=>s0=some (ad d.bb)∧s3=0∧h=h') 0 ⟨rfl,rfl,rfl⟩ ?_
 rintro m s0 s3 g h1 ⟨rfl,rfl,rfl⟩
 unfold f75L3
 refine PtrOk_mk ⟨⟨none,0,0⟩,x.cell 9,cond0 ?_⟩
 refine f75L5_rule (fun m s0 s3 h'=>s0=some (ad d.bb)∧s3=0∧h=h') 0 ⟨rfl,rfl,rfl⟩ ?_
 rintro m s0 s3 g h1 ⟨rfl,rfl,rfl⟩
 unfold f75L5
 refine PtrOk_mk ⟨⟨none,0,0⟩,x.cell 12,cond0 ?_⟩
 refine f75L7_rule (fun m s0 s3 h'=>s0=some (ad d.bb)∧s3=0∧h=h') 0 ⟨rfl,rfl,rfl⟩ ?_
 rintro m s0 s3 g h1 ⟨rfl,rfl,rfl⟩
 unfold f75L7
 exact PtrOk_mk ⟨⟨none,0,0⟩,x.cell 15,cond0 hR⟩
theorem told_ok (x:Bk h d) (hR:R (.bool true) h):CallTo Tryz.prog 76 #[.pointer (some (ad d.bb))] h R:=by
 refine f76F_ok ?_
 unfold f76F
 refine f76L1_rule (fun m s0 s3 h'=>s0=some (ad d.bb)∧s3=0∧h=h') 0 ⟨rfl,rfl,rfl⟩ ?_
 rintro m s0 s3 g h1 ⟨rfl,rfl,rfl⟩
 unfold f76L1
 refine PtrOk_mk ⟨⟨none,0,0⟩,x.cell 18,cond0 ?_⟩
 refine f76L3_rule (fun m s0 s3 h'=>s0=some (ad d.bb)∧s3=0∧h=h') 0 ⟨rfl,rfl,rfl⟩ ?_
 rintro m s0 s3 g h1 ⟨rfl,rfl,rfl⟩
 unfold f76L3
 refine PtrOk_mk ⟨⟨none,0,0⟩,x.cell 21,cond0 ?_⟩
 refine f76L5_rule (fun m s0 s3 h'=>s0=some (ad d.bb)∧s3=0∧h=h') 0 ⟨rfl,rfl,rfl⟩ ?_
 rintro m s0 s3 g h1 ⟨rfl,rfl,rfl⟩
 unfold f76L5
 refine PtrOk_mk ⟨⟨none,0,0⟩,x.cell 24,cond0 ?_⟩
 refine f76L7_rule (fun m s0 s3 h'=>s0=some (ad d.bb)∧s3=0∧h=h') 0 ⟨rfl,rfl,rfl⟩ ?_
 rintro m s0 s3 g h1 ⟨rfl,rfl,rfl⟩
 unfold f76L7
 exact PtrOk_mk ⟨⟨none,0,0⟩,x.cell 27,cond0 hR⟩
theorem bholds_ok (x:Bk h d) (ht:d.turn < 1000000) (n1:d.es.length < 10000001) (hR:R (.bool true) h):CallTo Tryz.prog 36 #[.pointer (some (ad d.bb))] h R:=by
 refine f36F_ok ?_
 unfold f36F
 exact plain_ok x ht n1 ⟨_,rfl,Cond_t rfl (kept_ok x ⟨_,rfl,Cond_t rfl (told_ok x ⟨_,rfl,hR⟩)⟩)⟩
end
end Go.Ev
set_option linter.all false
set_option maxRecDepth 1000000
namespace Go.Ev
open Go.Proofs
section
variable {h h' h2:Hp} {d d' d2:BkD} {R:Value→Hp→Prop}
/-- A number of the book's own is set. -/
theorem Bk.st (x:Bk h d) (d':BkD) {k:Nat} (hk:k < 33) {v:Value} (e:d'.cells=d.cells.set k v) (eb:d'.bb=d.bb) (eo:d'.own=d.own) (ee:d'.es=d.es) (e1:d'.sb=d.sb) (e2:d'.so=d.so) (nums:d'.Nums)
  {K:Hp→Prop} (hK:∀ h' M',Bk h' { d' with M:=M' }→BkT h d h' { d' with M:=M' }→K h'):stOk h ((ad d.bb).add k)∧Let (setc h ((ad d.bb).add k) v) fun h'=>K h':=by
 refine x.sep.st x.l0 (add_ad _ _) (by rw [x.c0]; exact hk) fun h' sep' ch=>hK h' _ ⟨sep',?_,?_,?_,?_,fun b m hb=>?_,fun e he=>?_,⟨nums.gl,nums.n3,nums.n4,nums.mt,nums.l1⟩⟩ ⟨eb,ch.1.mono fun b _ hb=>.inl hb,fun b hb=>?_⟩
 ·show (d.M.upd 0 (some d.bb) _).loc 0=some d'.bb
  rw [Mem.loc_self,eb]
 ·show (d.M.upd 0 (some d.bb) _).cont 0=d'.cells
  rw [Mem.cont_self,x.c0,e]
 ·show IsSl 1 (d.M.upd 0 (some d.bb) _) 1 d'.sb (d'.es.map fun e=>slV e.1)
  rw [e1,ee]
  exact x.s1.other (by omega)
 ·show IsSl 1 (d.M.upd 0 (some d.bb) _) 2 d'.so (d'.es.map fun e=>nv e.2)
  rw [e2,ee]
  exact x.s2.other (by omega)
 ·have hb:d'.own b=some m:=hb
  rw [eo] at hb
  obtain ⟨q1,q2⟩:=x.dis b m hb
  refine ⟨Nat.lt_of_lt_of_le q1 ch.1.1,fun ho=>?_⟩
  rcases ch.2 b ho with z | z
  ·exact q2 z
  ·omega
 ·have he:e ∈ d'.es:=he
  rw [ee] at he
  show BkE h' d'.own e
  rw [eo]
  exact (x.each e he).keep ch.1 fun b m hb=>(x.dis b m hb).2
 ·rcases hb with hb | ⟨m,hb⟩
  ·exact (ch.2 b hb).imp_left .inl
  ·have hb:d'.own b=some m:=hb
   rw [eo] at hb
   exact .inl (.inr ⟨m,hb⟩)
/-- A list is kept in the book. -/
theorem book_add (x:Bk h d) {l:Sl} {m:Nat} (le:BkE h d.own (l,m)) (hlen:d.es.length < 10000000) {K:Hp→Prop}
  (hK:∀ h' d',Bk h' d'→BkT h d h' d'→d'.es=d.es ++ [(l,m)]→d'.own=d.own→d'.gat=d.gat→d'.turn=d.turn→d'.done=d.done→d'.used=d.used→K h')
  (nums:BkD.Nums { d with es:=d.es ++ [(l,m)] }) :
  PtrOk (some (ad d.bb)) fun p37=>∃ t39:Sl,cell h p37=some (.slice t39.a t39.n t39.c)∧Let (h.push (.cells #[.slice l.a l.n l.c] 33)) fun h5=>appSl 33 1 24 #[.slice none 0 0] t39.a t39.n t39.c (some (nb h)) 1 h5 fun ra6 rn6 rc6 h6=>PtrOk (some (ad d.bb)) fun p43=>stOk h6 p43∧Let (setc h6 p43 (.slice ra6 rn6 rc6)) fun h7=>PtrOk (some (ad d.bb)) fun p47=>∃ t49:Sl,cell h7 (p47.add 1)=some (.slice t49.a t49.n t49.c)∧Let (h7.push (.cells #[.int .i64 (m:Nat)] 3)) fun h8=>appSl 3 1 8 #[.int .i64 0] t49.a t49.n t49.c (some (nb h7)) 1 h8 fun ra9 rn9 rc9 h9=>PtrOk (some (ad d.bb)) fun p53=>stOk h9 (p53.add 1)∧Let (setc h9 (p53.add 1) (.slice ra9 rn9 rc9)) fun h10=>K h10:=by
 have ln:d.sb.n=d.es.length:=by have:=x.s1.len; rw [List.length_map] at this; omega
 have lo:d.so.n=d.es.length:=by have:=x.s2.len; rw [List.length_map] at this; omega
 refine PtrOk_mk ⟨d.sb,x.cell0,?_⟩
 refine x.s1.app1 x.sep rfl rfl (fun v hv=>by simp at hv; rw [hv]; rfl) (by omega) (by omega) fun a1 c1 h1 ob1 cc1 sep1 sl1 ch1=>?_
 have z0:(d.M.upd 1 ob1 cc1).loc 0=some d.bb:=by rw [Mem.loc_ne _ _ _ (by omega)]; exact x.l0
 have z0c:(d.M.upd 1 ob1 cc1).cont 0=d.cells:=by rw [Mem.cont_ne _ _ _ (by omega)]; exact x.c0
 refine PtrOk_mk (sep1.st z0 (o:=0) rfl (by rw [z0c]; show 0 < 33; omega) fun h2 sep2 ch2=>?_)
 rw [z0c] at sep2 ch2
 have sl2:=sl1.other (x:=0) (b:=some d.bb) (c:=d.cells.set 0 (.slice a1 (d.sb.n + 1) c1)) (by omega)
 generalize hM2:(d.M.upd 1 ob1 cc1).upd 0 (some d.bb) (d.cells.set 0 (.slice a1 (d.sb.n + 1) c1))=M2 at sep2 ch2 sl2
 have y0:M2.loc 0=some d.bb:=by rw [← hM2,Mem.loc_self]
 have y0c:M2.cont 0=d.cells.set 0 (.slice a1 (d.sb.n + 1) c1):=by rw [← hM2,Mem.cont_self]
 have s22:IsSl 1 M2 2 d.so (d.es.map fun e=>nv e.2):=by rw [← hM2]; exact (x.s2.other (by omega)).other (by omega)
 refine PtrOk_mk ⟨d.so,by rw [sep2.cellA y0 1,y0c]; rfl,?_⟩
 refine s22.app1 sep2 rfl rfl (fun v hv=>by simp at hv; rw [hv]; rfl) (by omega) (by omega) fun a3 c3 h3 ob3 cc3 sep3 sl3 ch3=>?_
 have w0:(M2.upd 2 ob3 cc3).loc 0=some d.bb:=by rw [Mem.loc_ne _ _ _ (by omega)]; exact y0
 have w0c:(M2.upd 2 ob3 cc3).cont 0=d.cells.set 0 (.slice a1 (d.sb.n + 1) c1):=by rw [Mem.cont_ne _ _ _ (by omega)]; exact y0c
 refine PtrOk_mk (sep3.st w0 (o:=1) (add_ad _ _) (by rw [w0c,List.length_set]; show 1 < 33; omega) fun h4 sep4 ch4=>?_)
 rw [w0c] at sep4 ch4
 have ch:=((ch1.trans ch2).trans ch3).trans ch4
 have sl4:=(sl2.other (x:=2) (b:=ob3) (c:=cc3) (by omega)).other (x:=0) (b:=some d.bb) (c:=(d.cells.set 0 (.slice a1 (d.sb.n + 1) c1)).set 1 (.slice a3 (d.so.n + 1) c3)) (by omega)
 have sl5:=sl3.other (x:=0) (b:=some d.bb) (c:=(d.cells.set 0 (.slice a1 (d.sb.n + 1) c1)).set 1 (.slice a3 (d.so.n + 1) c3)) (by omega)
 generalize hM4:(M2.upd 2 ob3 cc3).upd 0 (some d.bb) ((d.cells.set 0 (.slice a1 (d.sb.n + 1) c1)).set 1 (.slice a3 (d.so.n + 1) c3))=M4 at sep4 ch sl4 sl5
 refine hK h4 ⟨d.bb,M4,d.own,d.es ++ [(l,m)],⟨a1,d.sb.n + 1,c1⟩,⟨a3,d.so.n + 1,c3⟩,d.gat,d.turn,d.done,d.used⟩ ⟨sep4,?_,?_,?_,?_,fun b m' hb=>?_,fun e he=>?_,⟨nums.gl,nums.n3,nums.n4,nums.mt,nums.l1⟩⟩ ⟨rfl,ch.1.mono fun b _ hb=>.inl hb,fun b hb=>?_⟩ rfl rfl rfl rfl rfl rfl
 ·rw [← hM4,Mem.loc_self]
 ·rw [← hM4,Mem.cont_self]
  rfl
 ·have e:(d.es ++ [(l,m)]).map (fun e=>slV e.1)=(d.es.map fun e=>slV e.1) ++ #[Value.slice l.a l.n l.c].toList:=by rw [List.map_append]; rfl
  rw [e]
  exact sl4
 ·have e:(d.es ++ [(l,m)]).map (fun e=>nv e.2)=(d.es.map fun e=>nv e.2) ++ #[Value.int .i64 (m:Nat)].toList:=by rw [List.map_append]; rfl
  rw [e]
  exact sl5
 ·obtain ⟨q1,q2⟩:=x.dis b m' hb
  refine ⟨Nat.lt_of_lt_of_le q1 ch.1.1,fun ho=>?_⟩
  rcases ch.2 b ho with z | z
  ·exact q2 z
  ·omega
 ·rcases List.mem_append.1 he with he | he
  ·exact (x.each e he).keep ch.1 fun b m hb=>(x.dis b m hb).2
  ·obtain rfl:=List.mem_singleton.1 he
   exact le.keep ch.1 fun b m hb=>(x.dis b m hb).2
 ·rcases hb with hb | hb
  ·exact (ch.2 b hb).imp_left .inl
  ·exact .inl (.inr hb)
end
end Go.Ev
set_option linter.all false
set_option maxRecDepth 1000000
namespace Go.Ev
open Go.Proofs
section
variable {h h' h2:Hp} {d d' d2:BkD} {R:Value→Hp→Prop}
/-- append of one cell to a slice at a block's beginning. -/
theorem appT_one {e bys b n c:Nat} {z:Array Value} {cs:List Value} {v:Value} {K:Option Addr→Nat→Nat→Hp→Prop} (row:Row h b cs) (hc:cs.length=c) (hn:n ≤ c) (hv:isCell v=true) (hz:z.size=1) (hb:(2 * (n + 1) + 768) * bys ≤ 2 ^ 48) (hlt:n + 1 < 2 ^ 62)
  (hIn:n < c→∀ h',Row h' b (cs.set n v)→Kept (fun x=>x=b) h h'→K (some (ad b)) (n + 1) c h')
  (hNew:∀ c' cs' h',Row h' h.size cs'→cs'.length=c'→n + 1 ≤ c'→(∀ j,j < n→cs'[j]?=cs[j]?)→cs'[n]?=some v→Kept N h h'→K (some (ad h.size)) (n + 1) c' h') :
  appT e 1 bys z (some (ad b)) n c (n + 1) [v] h K:=by
 refine ⟨fun hle=>?_,fun hgt=>⟨hb,hlt,?_⟩⟩
 ·have hfit:n + 0 + [v].length ≤ cs.length:=by simp; omega
  show stsOk h ((ad b).add (n * 1)) [v] 0∧K (some (ad b)) (n + 1) c (setcs h ((ad b).add (n * 1)) [v] 0)
  rw [Nat.mul_one,add_ad]
  refine ⟨stsOk_row [v] h cs n 0 row hfit fun w hw=>by rw [List.mem_singleton.1 hw]; exact hv,hIn (by omega) _ ?_ (kept_setcs h _ _ _ rfl)⟩
  have:=row_setcs [v] h cs n 0 row hfit
  have e1:ovw cs (n + 0) [v]=cs.set n v:=by
   unfold ovw
   rw [Nat.add_zero]
   apply List.ext_getElem?
   intro j
   have hln:(cs.take n).length=n:=by rw [List.length_take]; omega
   by_cases hj:j < n
   ·rw [List.append_assoc,List.getElem?_append_left (by omega),List.getElem?_take,if_pos hj,List.getElem?_set_ne (by omega)]
   ·by_cases hj2:j=n
    ·subst hj2
     rw [List.append_assoc,List.getElem?_append_right (by omega),hln,Nat.sub_self,List.getElem?_set_self (by omega)]
     rfl
    ·rw [List.append_assoc,List.getElem?_append_right (by omega),hln,List.getElem?_append_right (by simp; omega),List.getElem?_drop,List.getElem?_set_ne (by omega)]
     congr 1
     simp
     omega
  rw [e1] at this
  exact this
 ·refine ⟨cs.take n,reads_row row fun i w hw=>?_,by rw [List.length_take]; omega,fun nc h1 h2=>?_⟩
  ·rw [Nat.zero_add]
   rw [List.getElem?_take] at hw
   split at hw
   ·exact hw
   ·cases hw
  ·have hln:(cs.take n).length=n:=by rw [List.length_take]; omega
   have hrow:=row_new h ((cs.take n).toArray ++ [v].toArray ++ zrow z ((nc - (n + 1)) * z.size)) e
   have hlen:((cs.take n) ++ [v] ++ (zrow z ((nc - (n + 1)) * z.size)).toList).length=nc:=by
    have hzl:(zrow z ((nc - (n + 1)) * z.size)).toList.length=(nc - (n + 1)) * z.size:=by rw [Array.length_toList,zrow_len]
    rw [List.length_append,List.length_append,hln,hzl,hz]
    show n + 1 + (nc - (n + 1)) * 1=nc
    omega
   refine hNew nc ((cs.take n) ++ [v] ++ (zrow z ((nc - (n + 1)) * z.size)).toList) _ (by simpa using hrow) hlen h1 (fun j hj=>?_) ?_ (kept_push _ _ _)
   ·rw [List.append_assoc,List.getElem?_append_left (by omega),List.getElem?_take,if_pos hj]
   ·rw [List.append_assoc,List.getElem?_append_right (by omega),hln,Nat.sub_self]
    rfl
theorem Bk.own_to (x:Bk h d) {S:Nat→Prop} (k:Kept S h h') (own':Nat→Option Nat) (hM:∀ b,d.M.own b→¬ S b) (hd:∀ b m,own' b=some m→b < h'.size∧¬ d.M.own b) (he:∀ e ∈ d.es,BkE h' own' e):Bk h' { d with own:=own' } :=
 ⟨x.sep.keep k hM,x.l0,x.c0,x.s1,x.s2,hd,he,⟨x.nums.gl,x.nums.n3,x.nums.n4,x.nums.mt,x.nums.l1⟩⟩
/-- One byte more of a list's mark. -/
theorem grow_one (x:Bk h d) {g:Sl} {m:Nat} (ge:BkE h d.own (g,m)) (hm:m < 1000000) (hg:g.n < 20000000) {K:Option Addr→Nat→Nat→Hp→Prop}
  (hK:∀ a' c' h' own',Bk h' { d with own:=own' }→BkE h' own' (⟨a',g.n + 1,c'⟩,m)→BkT h d h' { d with own:=own' }→K a' (g.n + 1) c' h') :
  CallTo Tryz.prog 87 #[.int .i64 (m:Nat),.int .i64 (((g.n:Nat):Int))] h fun r h1=>∃ t43:Int,r=.int .u8 t43∧Let (h1.push (.cells #[.int .u8 t43] 5)) fun h2=>appSl 5 1 1 #[.int .u8 0] g.a g.n g.c (some (nb h1)) 1 h2 K:=by
 refine bmark_ok (by omega) (by omega) ⟨_,rfl,Let_mk fun h2 e2=>?_⟩
 have k2:Kept N h h2:=e2 ▸ kept_push _ _ _
 have row2:Row h2 h.size [bv (mkB m g.n)]:=e2 ▸ row_new h _ 5
 refine ⟨[bv (mkB m g.n)],reads_row row2 (fun j v hj=>by rw [Nat.zero_add]; exact hj),rfl,?_⟩
 have x2:=x.keepN k2
 have fresh:∀ {h3:Hp} {c':Nat} {cs':List Value},Row h3 h2.size cs'→cs'.length=c'→g.n + 1 ≤ c'→(∀ j,j < g.n→cs'[j]?=some (bv (mkB m j)))→cs'[g.n]?=some (bv (mkB m g.n))→Kept N h2 h3→K (some (ad h2.size)) (g.n + 1) c' h3:=fun {h3 c' cs'} row3 hcl hc hj hn k3=>by
  have ow:∀ b,d.own b ≠ none→b ≠ h2.size:=fun b hb e=>by
   cases ho:d.own b with
   | none=>exact hb ho
   | some m=>have:=(x2.dis b m ho).1; omega
  refine hK _ c' h3 (fun b=>if b=h2.size then some m else d.own b) (x2.own_to k3 _ (fun b _=>_root_.id) (fun b m' hb=>?_) fun e he=>?_) (.inr ⟨h2.size,cs',rfl,if_pos rfl,row3,hcl,hc,fun j hj'=>?_⟩) ⟨rfl,⟨Nat.le_trans k2.1 k3.1,fun i hi _=>(k3.2 i (Nat.lt_of_lt_of_le hi k2.1) _root_.id).trans (k2.2 i hi _root_.id)⟩,fun b hb=>?_⟩
  ·have hb:(if b=h2.size then some m else d.own b)=some m':=hb
   split at hb
   ·rename_i e
    subst e
    exact ⟨row_lt row3,fun ho=>by have:=x2.sep.own_lt ho; omega⟩
   ·obtain ⟨q1,q2⟩:=x2.dis b m' hb
    exact ⟨Nat.lt_of_lt_of_le q1 k3.1,q2⟩
  ·rcases (x2.each e he) with z | ⟨b,cs,h1,h2',h3',h4⟩
   ·exact .inl z
   ·exact .inr ⟨b,cs,h1,(if_neg (ow b (by rw [h2']; nofun))).trans h2',kept_row k3 h3' _root_.id,h4⟩
  ·have hj':j < g.n + 1:=hj'
   by_cases e:j=g.n
   ·rw [e]; exact hn
   ·exact hj j (by omega)
  ·rcases hb with hb | ⟨m',hb⟩
   ·exact .inl (.inl hb)
   ·have hb:(if b=h2.size then some m else d.own b)=some m':=hb
    split at hb
    ·rename_i e; exact .inr (by have:=k2.1; omega)
    ·exact .inl (.inr ⟨m',hb⟩)
 rcases ge with ⟨ga,gn,gc⟩ | ⟨b,cs,ga,go,row,hcl,hnc,hcs⟩
 ·have ga:g.a=none:=ga
  have gn:g.n=0:=gn
  have gc:g.c=0:=gc
  rw [ga,gn,gc]
  refine ⟨fun hle=>absurd hle (by omega),fun _=>⟨by decide,by decide,[],rfl,rfl,fun nc h1 h2'=>?_⟩⟩
  have hrow:=row_new h2 (([]:List Value).toArray ++ [bv (mkB m 0)].toArray ++ zrow #[.int .u8 0] ((nc - (0 + 1)) * (#[Value.int .u8 0]).size)) 5
  have:=fresh (c':=nc) (cs':=[bv (mkB m 0)] ++ (zrow #[.int .u8 0] ((nc - (0 + 1)) * (#[Value.int .u8 0]).size)).toList) (h3:=h2.push (.cells (([]:List Value).toArray ++ [bv (mkB m 0)].toArray ++ zrow #[.int .u8 0] ((nc - (0 + 1)) * (#[Value.int .u8 0]).size)) 5)) (by simpa using hrow) (by
    have hzl:(zrow #[Value.int .u8 0] ((nc - (0 + 1)) * (#[Value.int .u8 0]).size)).toList.length=(nc - (0 + 1)) * 1:=by rw [Array.length_toList,zrow_len]; rfl
    rw [List.length_append,hzl]
    show 1 + (nc - (0 + 1)) * 1=nc
    omega) (by omega) (fun j hj=>by omega) (by rw [gn]; rfl) (kept_push _ _ _)
  rw [gn] at this
  exact this
 ·have ga:g.a=some (ad b):=ga
  rw [ga]
  have row2b:=kept_row k2 row _root_.id
  refine appT_one row2b hcl hnc rfl rfl (by omega) (by omega) (fun hlt h3 row3 k3=>?_) fun c' cs' h3 row3 hcl' hc' hj hn k3=>fresh row3 hcl' hc' (fun j hj'=>(hj j hj').trans (hcs j hj')) hn k3
  obtain ⟨q1,q2⟩:=x2.dis b m go
  have hcl:cs.length=g.c:=hcl
  refine hK _ g.c h3 d.own (x2.own_to k3 d.own (fun b' hb' e=>q2 (e ▸ hb')) (fun b' m' hb'=>(have:=x2.dis b' m' hb'; ⟨Nat.lt_of_lt_of_le this.1 k3.1,this.2⟩)) fun e he=>?_) (.inr ⟨b,_,rfl,go,row3,by rw [List.length_set]; exact hcl,by show g.n + 1 ≤ g.c; omega,fun j hj'=>?_⟩) ⟨rfl,⟨Nat.le_trans k2.1 k3.1,fun i hi hn'=>(k3.2 i (Nat.lt_of_lt_of_le hi k2.1) fun e=>hn' (e ▸ .inr ⟨m,go⟩)).trans (k2.2 i hi _root_.id)⟩,fun b' hb'=>.inl hb'⟩
  ·rcases (x2.each e he) with z | ⟨b',cs',h1,h2',h3',h4,h5,h6⟩
   ·exact .inl z
   ·by_cases e':b'=b
    ·subst e'
     rw [go] at h2'
     have em:m=e.2:=Option.some.inj h2'
     have ecs:cs'=cs:=by
      obtain ⟨t1,w1⟩:=h3'
      obtain ⟨t2,w2⟩:=row2b
      rw [w1] at w2
      have:=Obj.cells.inj (Option.some.inj w2)
      exact congrArg Array.toList this.1
     subst ecs
     refine .inr ⟨b',_,h1,by rw [go,em],row3,by rw [List.length_set]; exact h4,h5,fun j hj'=>?_⟩
     by_cases ej:j=g.n
     ·subst ej
      rw [List.getElem?_set_self (by omega),em]
     ·rw [List.getElem?_set_ne (Ne.symm ej)]
      exact h6 j hj'
    ·exact .inr ⟨b',cs',h1,h2',kept_row k3 h3' e',h4,h5,h6⟩
  ·have hj':j < g.n + 1:=hj'
   by_cases ej:j=g.n
   ·subst ej
    rw [List.getElem?_set_self (by omega)]
   ·rw [List.getElem?_set_ne (Ne.symm ej)]
    exact hcs j (by show j < g.n; omega)
end
end Go.Ev
set_option linter.all false
set_option maxRecDepth 1000000
namespace Go.Ev
open Go.Proofs
def GJ1 (h:Hp) (d:BkD):Nat→Option Addr→Int→Int→Hp→Prop:=fun m s0 s2 s3 h'=>∃ (i:Nat) (d':BkD) (ext:List (Sl × Nat)),d.gat ≤ i∧i ≤ d.es.length∧m=d.es.length - i∧s0=some (ad d.bb)∧s2=((d.es.length:Nat):Int)∧s3=(i:Int)∧Bk h' d'∧BkT h d h' d'∧d'.es=d.es ++ ext∧ext.length ≤ 9 * (i - d.gat)∧d'.gat=d.gat∧d'.turn=d.turn
def GJ2 (h:Hp) (d:BkD) (i:Nat) (e:Sl × Nat) (ext:List (Sl × Nat)):Nat→Option Addr→Int→Int→Sl→Int→Int→Hp→Prop:=fun m s0 s2 s3 s4 s5 s6 h'=>∃ (j:Nat) (d':BkD) (ext':List (Sl × Nat)),1 ≤ j∧j ≤ 97∧m=97 - j∧s0=some (ad d.bb)∧s2=((d.es.length:Nat):Int)∧s3=(i:Int)∧s4.n + 1=e.1.n + j∧s5=((e.2:Nat):Int)∧s6=(j:Int)∧Bk h' d'∧BkT h d h' d'∧BkE h' d'.own (s4,e.2)∧d'.es=d.es ++ ext'∧ext'.length ≤ ext.length + (if j ≤ 4 then j - 1 else 3 + (j - 1) / 16)∧d'.gat=d.gat∧d'.turn=d.turn
section
variable {h h' h2:Hp} {d d' d2:BkD} {R:Value→Hp→Prop}
theorem growBytes_ok (x:Bk h d) (tp:d.Top) (ht:d.turn < 1000000) (hR:∀ h' d',Bk h' d'→d'.Top→BkT h d h' d'→d'.turn=d.turn→R (.tuple #[]) h'):CallTo Tryz.prog 77 #[.pointer (some (ad d.bb))] h R:=by
 have n1:=tp.n1
 have gl:=x.nums.gl
 have ln:d.sb.n=d.es.length:=by have:=x.s1.len; rw [List.length_map] at this; omega
 refine f77F_ok ?_
 unfold f77F
 refine PtrOk_mk ⟨d.sb,x.cell0,PtrOk_mk ⟨((d.gat:Nat):Int),x.cell 2,?_⟩⟩
 rw [ln]
 refine f77L1_rule (GJ1 h d) (d.es.length - d.gat)
  ⟨d.gat,d,[],Nat.le_refl _,gl,rfl,rfl,rfl,rfl,x,BkT.refl _ _,by rw [List.append_nil],Nat.zero_le _,rfl,rfl⟩ ?_
 rintro m s0 s2 s3 g h1 ⟨i,d1,ext,hgi,hi,rfl,rfl,rfl,rfl,x1,t1,es1,le1,eg1,et1⟩
 have eb1:=t1.1
 unfold f77L1
 refine Cond_dec (fun hlt=>?_) fun hge=>?_
 ·have hil:i < d.es.length:=by omega
  obtain ⟨e,he⟩:∃ e,d.es[i]?=some e:=⟨_,List.getElem?_eq_getElem hil⟩
  have he1:d1.es[i]?=some e:=by rw [es1,List.getElem?_append_left hil]; exact he
  have hmem1:=List.mem_of_getElem? he1
  have hmt:=x1.nums.mt e hmem1
  have hn0:=tp.l2 i e hgi he
  have ln1:d1.sb.n=d1.es.length:=by have:=x1.s1.len; rw [List.length_map] at this; omega
  have lo1:d1.so.n=d1.es.length:=by have:=x1.s2.len; rw [List.length_map] at this; omega
  have l1:d1.es.length=d.es.length + ext.length:=by rw [es1,List.length_append]
  obtain ⟨pb,hpb,cb⟩:=readsO_get (slAt_reads (x1.s1.slAt x1.sep)) (i:=i) (v:=slV e.1) (by rw [List.getElem?_map,he1]; rfl)
  obtain ⟨po,hpo,co⟩:=readsO_get (slAt_reads (x1.s2.slAt x1.sep)) (i:=i) (v:=nv e.2) (by rw [List.getElem?_map,he1]; rfl)
  rw [Int.toNat_natCast,Nat.mul_one,← eb1]
  refine PtrOk_mk ⟨d1.sb,x1.cell0,⟨by omega,by omega⟩,PtrOk_of hpb ⟨e.1,cb,PtrOk_mk ⟨d1.so,x1.cell 1,⟨by omega,by omega⟩,PtrOk_of hpo ⟨((e.2:Nat):Int),co,?_⟩⟩⟩⟩
  refine f77L2_rule (J1:=GJ1 h d) (n1:=d.es.length - i)
   (GJ2 h d i e ext) 96
   ⟨1,d1,ext,Nat.le_refl _,by omega,rfl,by rw [eb1],rfl,rfl,rfl,rfl,rfl,x1,t1,x1.each e hmem1,es1,by simp,eg1,et1⟩ ?_
  clear x1 t1 es1 eg1 et1 he1 hmem1 hmt ln1 lo1 l1 pb hpb cb po hpo co
  clear eb1
  rintro m2 s0 s2 s3 s4 s5 s6 g2 h2 ⟨j,d2,ext2,hj1,hj,rfl,rfl,rfl,rfl,hs4,rfl,rfl,x2,t2,ge,es2,le2,eg2,et2⟩
  have eb2:=t2.1
  unfold f77L2
  refine Cond_dec (fun hlt2=>?_) fun hge2=>?_
  ·have hmt:e.2 ≤ d.turn:=x.nums.mt e (List.mem_of_getElem? he)
   rw [← eb2]
   refine grow_one x2 ge (by omega) (by omega) fun a' c' h3 own' x3 ge3 t3=>?_
   have hext:ext2.length ≤ ext.length + 9:=by
    refine Nat.le_trans le2 ?_
    split <;> omega
   have l2e:d2.es.length=d.es.length + ext2.length:=by rw [es2,List.length_append]
   -- kept, or not
   have keep:∀ b,(b=true→(if j ≤ 4 then j - 1 else 3 + (j - 1) / 16) + 1 ≤ (if j + 1 ≤ 4 then j + 1 - 1 else 3 + (j + 1 - 1) / 16))→f77K1 (GJ1 h d) (d.es.length - i)
     (GJ2 h d i e ext) (97 - j) (some (ad d2.bb)) ((d.es.length:Nat):Int) ((i:Nat):Int) ⟨a',s4.n + 1,c'⟩ ((e.2:Nat):Int) ((j:Nat):Int) b h3 R:=fun b hb=>by
    unfold f77K1
    refine Cond_b (fun e1=>?_) fun e1=>?_
    ·have nm:BkD.Nums { ({ d2 with own:=own' }:BkD) with es:=d2.es ++ [(⟨a',s4.n + 1,c'⟩,e.2)] }:=⟨by show d2.gat ≤ (d2.es ++ _).length; rw [List.length_append]; have:=x2.nums.gl; omega,x2.nums.n3,x2.nums.n4,fun e' he'=>by
       rcases List.mem_append.1 he' with z | z
       ·exact x2.nums.mt e' z
       ·obtain rfl:=List.mem_singleton.1 z; show e.2 ≤ d2.turn; omega,fun e' he'=>by
       rcases List.mem_append.1 he' with z | z
       ·exact x2.nums.l1 e' z
       ·obtain rfl:=List.mem_singleton.1 z; show s4.n + 1 ≤ _; omega⟩
     refine book_add x3 (l:=⟨a',s4.n + 1,c'⟩) (m:=e.2) ge3 (by show d2.es.length < _; omega) (fun h4 d4 x4 t4 e4 o4 g4 tu4 do4 us4=>?_) nm
     have t04:=(t2.trans t3).trans t4
     have hb:=hb e1
     refine ⟨97 - (j + 1),by omega,j + 1,d4,ext2 ++ [(⟨a',s4.n + 1,c'⟩,e.2)],by omega,by omega,rfl,by rw [eb2],rfl,rfl,by show s4.n + 1 + 1=_; omega,rfl,by rw [wrap_i64' (by omega) (by omega)]; rfl,x4,t04,x4.each _ (by rw [e4]; simp),by rw [e4]; show d2.es ++ _=_; rw [es2,List.append_assoc],by rw [List.length_append]; show ext2.length + 1 ≤ _; omega,g4.trans eg2,tu4.trans et2⟩
    ·refine ⟨97 - (j + 1),by omega,j + 1,{ d2 with own:=own' },ext2,by omega,by omega,rfl,by rw [eb2],rfl,rfl,by show s4.n + 1 + 1=_; omega,rfl,by rw [wrap_i64' (by omega) (by omega)]; rfl,x3,t2.trans t3,ge3,es2,by
      refine Nat.le_trans le2 ?_
      split <;> split <;> omega,eg2,et2⟩
   refine Cond_dec (fun hj4=>keep true fun _=>?_) fun hj4=>⟨by decide,keep _ fun hb=>?_⟩
   ·rw [if_pos (by omega),if_pos (by omega)]; omega
   ·rw [Int.tmod_eq_emod_of_nonneg (by omega)] at hb
    have hb:((j:Nat):Int) % 16=0:=by simpa using hb
    split <;> split <;> omega
  ·have hj97:j=97:=by omega
   subst hj97
   refine ⟨d.es.length - (i + 1),by omega,i + 1,d2,ext2,by omega,by omega,rfl,rfl,rfl,by rw [wrap_i64' (by omega) (by omega)]; rfl,x2,t2,es2,?_,eg2,et2⟩
   have:(if 97 ≤ 4 then 97 - 1 else 3 + (97 - 1) / 16)=9:=by decide
   rw [this] at le2
   omega
 ·have hie:i=d.es.length:=by omega
  subst hie
  have ln1:d1.sb.n=d1.es.length:=by have:=x1.s1.len; rw [List.length_map] at this; omega
  rw [← eb1]
  refine PtrOk_mk ⟨d1.sb,x1.cell0,PtrOk_mk ?_⟩
  rw [ln1]
  refine x1.st { d1 with gat:=d1.es.length } (k:=2) (by omega) rfl rfl rfl rfl rfl rfl ⟨Nat.le_refl _,x1.nums.n3,x1.nums.n4,x1.nums.mt,x1.nums.l1⟩ fun h2 M' x2 t2=>hR h2 _ x2 ⟨?_,fun k e hk he=>?_⟩ (t1.trans t2) et1
  ·show d1.es.length + 9 * (d1.es.length - d1.es.length) ≤ 10 * d1.turn
   rw [es1,List.length_append]
   omega
  ·have hk:d1.es.length ≤ k:=hk
   have he:d1.es[k]?=some e:=he
   rw [List.getElem?_eq_none hk] at he
   cases he
end
end Go.Ev
