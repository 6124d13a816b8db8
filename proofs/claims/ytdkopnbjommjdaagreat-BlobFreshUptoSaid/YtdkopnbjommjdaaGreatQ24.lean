/- The document's answer for blobs: Slice, Count / Blobs in slots: the document's counting of live words is the heap's / Blobs in slots: the heap and the document's heap beside one another, as plain data / The statements' stage for blobs: two heaps, two of the document's, a book, late answers / The statements' stage for blobs: no blob there; a slot's ref; hold. No condition but that these are ones. -/
import Derived.Test.YtdkopnbjommjdaaGreatQ23
import Derived.Test.YtdkopnbjommjdaaGreatQ17
set_option linter.all false
set_option maxRecDepth 1000000
namespace Go.Ev
open Go.Proofs
def pc:Nat→Nat→Nat
 | 0,_=>0
 | k + 1,c=>c % 2 + pc k (c / 2)
theorem pc_tab:(List.range 256).all (fun c=>decide (pc 8 c=ones c∧pc 8 c=c % 2 + pc 8 (c / 2)))=true:=by kernel_rfl
theorem pc_ones {c:Nat} (h:c < 256):pc 8 c=ones c∧pc 8 c=c % 2 + pc 8 (c / 2):=of_decide_eq_true (List.all_eq_true.1 pc_tab c (List.mem_range.2 h))
section
variable {h h' h2:Hp} {R:Value→Hp→Prop} {b:List Nat}
theorem wslice_ok {c:Nat} (row:Row h c (b.map bv)) (hl:b.length < 10000000) {f n:Int} (hf:I64 f) (hn:I64 n)
  (hbad:¬ InSp b f n→R (.tuple #[.slice none 0 0,.int .i64 42]) h)
  (hgood:InSp b f n→∀ c' h',Row h' c' (((b.drop f.toNat).take n.toNat).map bv)→h.size ≤ c'→Kept N h h'→R (.tuple #[.slice (some (ad c')) ((b.drop f.toNat).take n.toNat).length ((b.drop f.toNat).take n.toNat).length,.int .i64 0]) h') :
  CallTo Tryz.prog 56 #[.slice (some (ad c)) b.length b.length,.int .i64 f,.int .i64 n] h R:=by
 refine f56F_ok (a0:=⟨some (ad c),b.length,b.length⟩) ?_
 unfold f56F
 have bad:¬ InSp b f n→f56K1 ⟨some (ad c),b.length,b.length⟩ f n true h R:=fun hb=>by unfold f56K1; exact Cond_t rfl (hbad hb)
 refine Cond_dec (fun hc=>bad fun ⟨a,_⟩=>by omega) fun h1=>Cond_dec (fun hc=>bad fun ⟨_,a,_⟩=>by omega) fun h2=>Cond_dec (fun hc=>bad fun ⟨_,_,a,_⟩=>by have hc:f > ((b.length:Nat):Int):=hc; omega) fun h3=>?_
 have h3:¬ f > ((b.length:Nat):Int):=h3
 rw [show (((⟨some (ad c),b.length,b.length⟩:Sl).n:Nat):Int)=((b.length:Nat):Int) from rfl,wrap_i64' (x:=((b.length:Nat):Int) - f) (by omega) (by omega)]
 by_cases hc:n > ((b.length:Nat):Int) - f
 ·rw [decide_eq_true hc]
  exact bad fun ⟨_,_,_,a⟩=>by omega
 ·rw [decide_eq_false hc]
  have inS:InSp b f n:=⟨by omega,by omega,by omega,by omega⟩
  obtain ⟨fn,rfl⟩:∃ k:Nat,f=(k:Int):=⟨f.toNat,by omega⟩
  obtain ⟨nn,rfl⟩:∃ k:Nat,n=(k:Int):=⟨n.toNat,by omega⟩
  have hg:=hgood inS
  rw [Int.toNat_natCast,Int.toNat_natCast] at hg
  have es:IntKind.wrap .i64 (((fn:Nat):Int) + ((nn:Nat):Int))=((fn + nn:Nat):Int):=by rw [wrap_i64' (by omega) (by omega)]; omega
  have ll:((b.drop fn).take nn).length=nn:=by rw [List.length_take,List.length_drop]; omega
  unfold f56K1
  rw [es]
  simp only [Int.toNat_natCast,Nat.mul_one]
  have e1:fn + nn - fn=nn:=by omega
  rw [e1]
  refine Cond_f rfl ⟨⟨by omega,by show ((fn + nn:Nat):Int) ≤ ((b.length:Nat):Int); omega⟩,⟨by omega,by omega⟩,?_⟩
  refine wcopy_ok (l:=(b.drop fn).take nn) (a:=⟨if b.length=fn then some (ad c) else Option.map (fun x=>x.add fn) (some (ad c)),nn,b.length - fn⟩) ?_ ll.symm (by rw [ll]; omega) fun c' h' row' hc' k'=>⟨⟨_,_,_⟩,rfl,hg c' h' row' hc' k'⟩
  show ReadsO h (if b.length=fn then some (ad c) else some ((ad c).add fn)) _
  by_cases hz:b.length=fn
  ·rw [if_pos hz]
   have e0:(b.drop fn).take nn=[]:=by rw [List.drop_eq_nil_of_le (by omega)]; simp
   rw [e0]
   intro j v hj
   simp at hj
  ·rw [if_neg hz]
   intro j v hj
   have hjl:=(List.getElem?_eq_some_iff.1 hj).1
   rw [List.length_map,ll] at hjl
   rw [add_add,add_ad]
   refine (cell_row row _).trans ?_
   rw [List.getElem?_map] at hj ⊢
   rw [List.getElem?_take,if_pos hjl,List.getElem?_drop] at hj
   exact hj
theorem wcount_ok {c:Nat} (row:Row h c (b.map bv)) (b8:Bytes8 b) (hl:b.length < 10000000) {f n:Int} (hf:I64 f) (hn:I64 n)
  (hbad:¬ InSp b f n→R (.tuple #[.int .i64 0,.int .i64 42]) h)
  (hgood:InSp b f n→∀ h',Kept N h h'→R (.tuple #[.int .i64 (onesL ((b.drop f.toNat).take n.toNat):Nat),.int .i64 0]) h') :
  CallTo Tryz.prog 62 #[.slice (some (ad c)) b.length b.length,.int .i64 f,.int .i64 n] h R:=by
 refine f62F_ok (a0:=⟨some (ad c),b.length,b.length⟩) ?_
 unfold f62F
 refine wslice_ok row hl hf hn (fun hb=>⟨⟨none,0,0⟩,_,rfl,Cond_t rfl (hbad hb)⟩) fun inS c' h1 row1 hc1 k1=>?_
 have hg:=hgood inS
 generalize hL:(b.drop f.toNat).take n.toNat=l at row1 hg
 have l8:Bytes8 l:=fun y hy=>by rw [← hL] at hy; exact b8 y (List.mem_of_mem_drop (List.mem_of_mem_take hy))
 have lle:l.length ≤ b.length:=by rw [← hL,List.length_take,List.length_drop]; omega
 have tb:∀ i,onesL (l.take i) ≤ 8 * l.length:=fun i=>by
  have:=onesL_le (l:=l.take i) fun y hy=>l8 y (List.mem_of_mem_take hy)
  have:(l.take i).length ≤ l.length:=by rw [List.length_take]; omega
  omega
 refine ⟨⟨some (ad c'),l.length,l.length⟩,_,rfl,Cond_f rfl ?_⟩
 refine f62L1_rule (s8:=⟨some (ad c'),l.length,l.length⟩) (fun m s8 s10 s11 h'=>∃ i:Nat,i ≤ l.length∧m=l.length - i∧⟨some (ad c'),l.length,l.length⟩=s8∧s10=((onesL (l.take i):Nat):Int)∧s11=(i:Int)∧h1=h') l.length ⟨0,Nat.zero_le _,rfl,rfl,rfl,rfl,rfl⟩ ?_
 rintro m s8 s10 s11 g h2 ⟨i,hi,rfl,rfl,rfl,rfl,rfl⟩
 unfold f62L1
 refine Cond_dec (fun hlt=>?_) fun hge=>?_
 ·have hlt:((i:Nat):Int) < ((l.length:Nat):Int):=hlt
  have hil:i < l.length:=by omega
  have hc8:l.getD i 0 < 256:=by rw [List.getD_eq_getElem?_getD,List.getElem?_eq_getElem hil]; exact l8 _ (List.getElem_mem hil)
  have hcell:cell h1 ((ad c').add (((i:Nat):Int).toNat * 1))=some (.int .u8 ((l.getD i 0:Nat):Int)):=by
   rw [Int.toNat_natCast,Nat.mul_one,add_ad]
   refine (cell_row row1 i).trans ?_
   rw [List.getElem?_map,List.getD_eq_getElem?_getD,List.getElem?_eq_getElem hil]; rfl
  have tsum:onesL (l.take (i + 1))=onesL (l.take i) + ones (l.getD i 0):=by
   unfold onesL
   rw [RS.take_snoc (x:=l.getD i 0) (by rw [List.getD_eq_getElem?_getD,List.getElem?_eq_getElem hil]; rfl),List.map_append,List.sum_append]
   simp
  refine ⟨⟨by omega,hlt⟩,PtrOk_mk ⟨_,hcell,?_⟩⟩
  refine f62L2_rule (J1:=fun m s8 s10 s11 h'=>∃ i:Nat,i ≤ l.length∧m=l.length - i∧⟨some (ad c'),l.length,l.length⟩=s8∧s10=((onesL (l.take i):Nat):Int)∧s11=(i:Int)∧h1=h') (n1:=l.length - i) (s8:=⟨some (ad c'),l.length,l.length⟩)
   (fun m s8 s10 s11 s12 h'=>∃ x acc:Nat,x < 256∧m=x∧⟨some (ad c'),l.length,l.length⟩=s8∧s10=((acc:Nat):Int)∧s11=(i:Int)∧s12=((x:Nat):Int)∧acc + pc 8 x=onesL (l.take i) + pc 8 (l.getD i 0)∧h1=h') (l.getD i 0) ⟨l.getD i 0,onesL (l.take i),hc8,rfl,rfl,rfl,rfl,rfl,rfl,rfl⟩ ?_
  rintro m2 s8 s10 s11 s12 g2 h2 ⟨x,acc,hx,hm,rfl,rfl,rfl,rfl,hacc,rfl⟩
  have t1:=tb (i + 1)
  have t0:=tb i
  unfold f62L2
  have p0:=(pc_ones hc8).1
  have px:=pc_ones hx
  have o8:=ones_le hc8
  refine Cond_dec (fun hpos=>?_) fun hzero=>?_
  ·have hpos:((x:Nat):Int) > 0:=hpos
   rw [Int.tmod_eq_emod_of_nonneg (by omega),Int.tdiv_eq_ediv_of_nonneg (by omega)]
   have e1:IntKind.wrap .i64 (((acc:Nat):Int) + IntKind.wrap .i64 (((x:Nat):Int) % 2))=((acc + x % 2:Nat):Int):=by
    rw [wrap_i64' (x:=((x:Nat):Int) % 2) (by omega) (by omega),wrap_i64' (by omega) (by omega)]; omega
   have e2:IntKind.wrap .u8 (((x:Nat):Int) / 2)=((x / 2:Nat):Int):=by rw [wrap_u8b (by omega) (by omega)]; omega
   rw [e1,e2]
   exact ⟨by decide,by decide,x / 2,by omega,x / 2,acc + x % 2,by omega,rfl,rfl,rfl,rfl,rfl,by have:=px.2; omega,rfl⟩
  ·have hx0:x=0:=by have:¬ ((x:Nat):Int) > 0:=hzero; omega
   subst hx0
   have pz:pc 8 0=0:=rfl
   refine ⟨l.length - (i + 1),by omega,i + 1,hil,rfl,rfl,?_,by rw [wrap_i64' (by omega) (by omega)]; rfl,rfl⟩
   rw [tsum]
   omega
 ·have hie:i=l.length:=by have:¬ ((i:Nat):Int) < ((l.length:Nat):Int):=hge; omega
  subst hie
  rw [List.take_length]
  exact hg h1 k1
end
end Go.Ev
set_option linter.all false
set_option maxRecDepth 1000000
namespace Go.Ev
open Go.Proofs
def fullK (lim:Nat) (slots:List Nat) (bs:List (List Nat)) (s:Nat):Bool :=
 if s ≤ 64 then decide (((1 + smallW slots bs bs.length:Nat):Int) + s > ((lim:Int) - (largeW slots bs bs.length:Nat)) / 2) else decide (largeW slots bs bs.length + s + 1 + 2 * (max (1 + smallW slots bs bs.length) 64) > lim)
theorem WD.full_eq (W:WD) (s:Nat):W.full s=fullK W.lim W.slots W.bs s:=rfl
namespace RS
theorem hand_nat2 {s:RS} {n:Nat} {x:Nat}:s.hand (n:Int)=some x ↔ 1 ≤ n∧s.roots[n - 1]?=some (some x):=by
 unfold hand
 constructor
 ·intro h
  split at h
  ·rename_i hc
   have e:((n:Int) - 1).toNat=n - 1:=by omega
   rw [e,List.getD_eq_getElem?_getD] at h
   cases hr:s.roots[n - 1]? with
   | none=>rw [hr] at h; cases h
   | some o=>rw [hr] at h; have h:o=some x:=h; exact ⟨by omega,by rw [h]⟩
  ·cases h
 ·rintro ⟨h1,h2⟩
  have hl:=(List.getElem?_eq_some_iff.1 h2).1
  have e:((n:Int) - 1).toNat=n - 1:=by omega
  rw [if_pos ⟨by omega,by omega⟩,e,List.getD_eq_getElem?_getD,h2]
  rfl
theorem freeAt_none2:∀ l:List (Option Nat),freeAt l < l.length→l[freeAt l]?=some none
 | [],h=>by simp at h
 | none :: l,_=>rfl
 | some x :: l,h=>by
  have h:freeAt l + 1 < l.length + 1:=h
  show (some x :: l)[freeAt l + 1]?=_
  rw [List.getElem?_cons_succ]
  exact freeAt_none2 l (by omega)
end RS
/-- What the handles hold is what the slots hold. -/
structure LiveK (s:RS) (ids slots:List Nat) (bs:List (List Nat)):Prop where
 il:ids.length=bs.length
 nd:ids.Nodup
 held:∀ x,x ∈ s.heldL ↔ ∃ i:Nat,ids[i]?=some x∧heldW slots i=true
 here:∀ (i x:Nat),ids[i]?=some x→heldW slots i=true→x ≠ 0∧(s.obj x).refs=[]∧s.size x=sizeB (bs.getD i []).length
section
variable {s s' t:RS} {nd nd':List NodeD} {ids slots hd:List Nat} {bs:List (List Nat)} {lim:Nat} {b:List Nat}
theorem heldL_mem {x:Nat}:x ∈ s.heldL ↔ some x ∈ s.roots:=by
 unfold RS.heldL
 rw [List.mem_filterMap]
 constructor
 ·rintro ⟨o,h,e⟩; have e:o=some x:=e; exact e ▸ h
 ·intro h; exact ⟨some x,h,rfl⟩
theorem nodup_at:∀ {l:List Nat} {i j x:Nat},l.Nodup→l[i]?=some x→l[j]?=some x→i=j:=fun {l i j x} hn hi hj=>by
 have h1:=(List.getElem?_eq_some_iff.1 hi)
 have h2:=(List.getElem?_eq_some_iff.1 hj)
 obtain ⟨a1,b1⟩:=h1
 obtain ⟨a2,b2⟩:=h2
 exact (List.getElem_inj hn).1 (b1.trans b2.symm)
theorem sum_ids {f:Nat→Nat} {g:Nat→Nat} (h:∀ i x,ids[i]?=some x→f x=g i):(ids.map f).sum=((List.range ids.length).map g).sum:=by
 congr 1
 apply List.ext_getElem?
 intro i
 rw [List.getElem?_map,List.getElem?_map]
 by_cases hi:i < ids.length
 ·rw [List.getElem?_range hi,List.getElem?_eq_getElem hi]
  exact congrArg some (h i _ (List.getElem?_eq_getElem hi))
 ·rw [List.getElem?_eq_none (by omega),List.getElem?_eq_none (by simp; omega)]
  rfl
theorem live_eq (v:s.Inv) (k:LiveK s ids slots bs):s.collection.used=1 + smallW slots bs bs.length∧s.collection.large=largeW slots bs bs.length:=by
 have gk:=RS.GcOk.fin v
 have n1:=List.nodup_append.1 gk.nd
 have hr:∀ id,some id ∈ s.roots→(s.obj id).refs=[]:=fun x hx=>by
  obtain ⟨i,h1,h2⟩:=(k.held x).1 (heldL_mem.2 hx)
  exact (k.here i x h1 h2).2.1
 have w:∀ x,x ∈ s.gcEnd.copied ∨ x ∈ s.gcEnd.line→x ∈ s.heldL:=RS.walk_held hr s.objs.length
 have cnt:∀ l:List Nat,(∀ x ∈ l,x ∈ ids)→∀ x ∈ l,ids.count x=1:=fun l hl x hx=>RS.count_one ids x (fun i j h1 h2=>nodup_at k.nd h1 h2) (hl x hx)
 have toH:∀ {i x:Nat},ids[i]?=some x→x ∈ s.heldL→heldW slots i=true:=fun {i x} hi hx=>by
  obtain ⟨j,h1,h2⟩:=(k.held x).1 hx
  rw [nodup_at k.nd hi h1]
  exact h2
 have inI:∀ x,x ∈ s.gcEnd.copied ∨ x ∈ s.gcEnd.line→x ∈ ids:=fun x hx=>by
  obtain ⟨i,h1,_⟩:=(k.held x).1 (w x hx)
  exact List.mem_of_getElem? h1
 have small64:∀ x ∈ s.gcEnd.copied,s.size x ≤ 64:=fun x hx=>(v.sm x (gk.cp x hx)).2.2.2.1
 have big64:∀ x ∈ s.gcEnd.line,64 < s.size x:=fun x hx=>by
  obtain ⟨h0,h1⟩:=gk.ln x hx
  obtain ⟨i,hi⟩:=List.mem_iff_getElem?.1 h1
  exact (v.sl i x hi h0).2.2.1
 have reachI:∀ {i x:Nat},ids[i]?=some x→heldW slots i=true→x ∈ s.gcEnd.copied ∨ x ∈ s.gcEnd.line:=fun {i x} hi hh=>by
  have hx:some x ∈ s.roots:=heldL_mem.1 ((k.held x).2 ⟨i,hi,hh⟩)
  exact (RS.gcEnd_root hx).resolve_left (k.here i x hi hh).1
 have e1:s.collection.used=1 + s.sizes s.gcEnd.copied:=rfl
 constructor
 ·rw [e1]
  have p:=RS.sum_pick (f:=s.size) ids s.gcEnd.copied n1.1 (fun x hx=>inI x (.inl hx)) (cnt _ fun x hx=>inI x (.inl hx))
  have q:=sum_ids (ids:=ids) (f:=fun x=>if x ∈ s.gcEnd.copied then s.size x else 0) (g:=fun i=>if heldW slots i=true∧sizeB (bs.getD i []).length ≤ 64 then sizeB (bs.getD i []).length else 0) fun i x hi=>by
   by_cases hh:heldW slots i=true
   ·have hs:=(k.here i x hi hh).2.2
    show (if x ∈ s.gcEnd.copied then s.size x else 0)=_
    by_cases hc:x ∈ s.gcEnd.copied
    ·have:=small64 x hc
     rw [if_pos hc,if_pos ⟨hh,by omega⟩,hs]
    ·have hl:=(reachI hi hh).resolve_left hc
     have:=big64 x hl
     rw [if_neg hc,if_neg (by omega)]
   ·show (if x ∈ s.gcEnd.copied then s.size x else 0)=_
    rw [if_neg (fun hc=>hh (toH hi (w x (.inl hc)))),if_neg fun z=>hh z.1]
  have q:(ids.map fun x=>if x ∈ s.gcEnd.copied then s.size x else 0).sum=smallW slots bs ids.length:=q
  rw [k.il] at q
  have:s.sizes s.gcEnd.copied=smallW slots bs bs.length:=by
   rw [← q]; exact p.symm
  rw [this]
 ·rw [RS.collection_lsum v]
  have p:=RS.sum_pick (f:=fun x=>s.size x + 1) ids s.gcEnd.line n1.2.1 (fun x hx=>inI x (.inr hx)) (cnt _ fun x hx=>inI x (.inr hx))
  have q:=sum_ids (ids:=ids) (f:=fun x=>if x ∈ s.gcEnd.line then s.size x + 1 else 0) (g:=fun i=>if heldW slots i=true∧¬ sizeB (bs.getD i []).length ≤ 64 then sizeB (bs.getD i []).length + 1 else 0) fun i x hi=>by
   by_cases hh:heldW slots i=true
   ·have hs:=(k.here i x hi hh).2.2
    show (if x ∈ s.gcEnd.line then s.size x + 1 else 0)=_
    by_cases hc:x ∈ s.gcEnd.line
    ·have:=big64 x hc
     rw [if_pos hc,if_pos ⟨hh,by omega⟩,hs]
    ·have hl:=(reachI hi hh).resolve_right hc
     have:=small64 x hl
     rw [if_neg hc,if_neg (by omega)]
   ·show (if x ∈ s.gcEnd.line then s.size x + 1 else 0)=_
    rw [if_neg (fun hc=>hh (toH hi (w x (.inr hc)))),if_neg fun z=>hh z.1]
  have q:(ids.map fun x=>if x ∈ s.gcEnd.line then s.size x + 1 else 0).sum=largeW slots bs ids.length:=q
  rw [k.il] at q
  rw [← q]
  exact p.symm
theorem room_full (v:s.Inv) (k:LiveK s ids slots bs) (hl:s.limit=lim) (n:Nat):s.Room 0 (1 + wordsN n) ↔ fullK lim slots bs (sizeB n)=false:=by
 obtain ⟨e1,e2⟩:=live_eq v k
 unfold RS.Room fullK sizeB
 rw [e1,e2,hl]
 generalize smallW slots bs bs.length=S
 generalize largeW slots bs bs.length=L
 have ew:1 + 0 + (1 + wordsN n)=2 + wordsN n:=by omega
 rw [ew]
 split
 ·rw [decide_eq_false_iff_not]
  omega
 ·rw [decide_eq_false_iff_not]
  omega
/-- What is laid finds room just where the document says so. -/
theorem lay_room (v:s.Inv) (sh:s.Shd nd) (ok:Okb b) (k:LiveK s ids slots bs) (hl:s.limit=lim) :
  (fullK lim slots bs (sizeB b.length)=true∧∃ t,s.layF b=(t,0,31)∧RS.Sub t s∧t.Inv∧t.limit=lim) ∨
  (fullK lim slots bs (sizeB b.length)=false∧∃ s' t,s.layF b=(s',s'.ref nd.length,0)∧RS.Sub t s∧s'.Inv∧s'.Shd (nd ++ [blobN b])∧s'.roots=s.roots∧s'.here nd.length∧s'.limit=lim):=by
 have hw:wordsN b.length ≤ 513:=by have:=ok.len; unfold wordsN; omega
 have ar:=RS.alloc_room v (⟨⟨by omega,by omega⟩,⟨by omega,by omega⟩,by omega,by omega⟩:Shape 1 0 ((1 + wordsN b.length:Nat):Int))
 rw [Int.toNat_natCast,show (0:Int).toNat=0 from rfl,room_full v k hl] at ar
 have al:=RS.alloc_lim (s:=s) 1 0 ((1 + wordsN b.length:Nat):Int)
 obtain ⟨t,st,vt,h⟩:=RS.lay_cases v sh ok
 rcases h with e | ⟨s',e,v',sh',er,hh⟩
 ·left
  refine ⟨?_,t,e,st,vt,?_⟩
  ·cases hf:fullK lim slots bs (sizeB b.length) with
   | true=>rfl
   | false =>
    exfalso
    have h0:=ar.2 hf
    unfold RS.layF at e
    rw [if_pos h0] at e
    have:=congrArg (fun z=>z.2.2) e
    exact absurd this (by show ¬ ((0:Int)=31); omega)
  ·unfold RS.layF at e
   by_cases h0:(s.alloc 1 0 ((1 + wordsN b.length:Nat):Int)).2.2=0
   ·rw [if_pos h0] at e
    have:=congrArg (fun z=>z.2.2) e
    exact absurd this (by show ¬ ((0:Int)=31); omega)
   ·rw [if_neg h0] at e
    have:=congrArg (fun z=>z.1.limit) e
    have this:(s.alloc 1 0 ((1 + wordsN b.length:Nat):Int)).1.limit=t.limit:=this
    rw [← this,al,hl]
 ·right
  have h0:(s.alloc 1 0 ((1 + wordsN b.length:Nat):Int)).2.2=0:=Classical.byContradiction fun h0=>by
   unfold RS.layF at e
   rw [if_neg h0] at e
   have:=congrArg (fun z=>z.2.2) e
   exact h0 this
  refine ⟨ar.1 h0,s',t,e,st,v',sh',er,(hh _).2 (.inl rfl),?_⟩
  have e2:=e
  unfold RS.layF at e2
  rw [if_pos h0] at e2
  have:=congrArg (fun z=>z.1.limit) e2
  have this:_=s'.limit:=this
  rw [← this,← hl]
  exact (RS.setBytesF_lim _ _ _).trans ((RS.setF_lim _ _ _).trans al)
end
end Go.Ev
set_option linter.all false
set_option maxRecDepth 1000000
namespace Go.Ev
open Go.Proofs
structure KS (s:RS) (nd:List NodeD) (hd:List Nat) (lim:Nat) (bs:List (List Nat)) (slots ids:List Nat):Prop where
 v:s.Inv
 sh:s.Shd nd
 lm:s.limit=lim
 h8:hd.length=8
 s8:slots.length=8
 il:ids.length=bs.length
 idn:ids.Nodup
 idl:∀ x ∈ ids,x ≠ 0∧x < nd.length
 zr:∀ (i n m:Nat),hd[i]?=some n→slots[i]?=some m→(n=0 ↔ m=0)
 at_:∀ (i n m:Nat),hd[i]?=some n→slots[i]?=some (m + 1)→∃ (x:Nat) (b:List Nat),s.hand (n:Int)=some x∧ids[m]?=some x∧bs[m]?=some b∧nd[x]?=some (blobN b)
 only:∀ (k x:Nat),s.roots[k]?=some (some x)→∃ i:Nat,hd[i]?=some (k + 1)
 dis:∀ (i j n:Nat),hd[i]?=some n→hd[j]?=some n→n ≠ 0→i=j
 ok:∀ b ∈ bs,Okb b
section
variable {s s' t:RS} {nd nd':List NodeD} {ids slots hd:List Nat} {bs:List (List Nat)} {lim:Nat} {b:List Nat}
/-- A slot's blob is there. -/
theorem KS.here (k:KS s nd hd lim bs slots ids) {i n m:Nat} (hn:hd[i]?=some n) (hm:slots[i]?=some (m + 1)):∃ x b,s.hand (n:Int)=some x∧ids[m]?=some x∧bs[m]?=some b∧nd[x]?=some (blobN b)∧s.here x∧s.IsB x b∧Okb b∧s.atF (n:Int)=(s.ref x,0)∧n ≠ 0:=by
 obtain ⟨x,b,h1,h2,h3,h4⟩:=k.at_ i n m hn hm
 have h0:=(k.idl x (List.mem_of_getElem? h2)).1
 have hh:s.here x:=(RS.hand_here k.v h1).resolve_left h0
 exact ⟨x,b,h1,h2,h3,h4,hh,RS.IsB.of k.v k.sh hh h4,k.ok b (List.mem_of_getElem? h3),by unfold RS.atF; rw [h1],fun e=>by have:=(RS.hand_nat2.1 h1).1; omega⟩
theorem KS.live (k:KS s nd hd lim bs slots ids):LiveK s ids slots bs:=by
 have fwd:∀ x,some x ∈ s.roots→∃ (i n m:Nat),hd[i]?=some n∧slots[i]?=some (m + 1)∧ids[m]?=some x:=fun x hx=>by
  obtain ⟨q,hq⟩:=List.mem_iff_getElem?.1 hx
  obtain ⟨i,hi⟩:=k.only q x hq
  have hil:=(List.getElem?_eq_some_iff.1 hi).1
  obtain ⟨m0,hm0⟩:∃ m,slots[i]?=some m:=⟨_,List.getElem?_eq_getElem (by rw [k.s8,← k.h8]; exact hil)⟩
  have hz:=k.zr i (q + 1) m0 hi hm0
  obtain ⟨m,rfl⟩:∃ m,m0=m + 1:=⟨m0 - 1,by omega⟩
  obtain ⟨x',b,h1,h2,_⟩:=k.at_ i (q + 1) m hi hm0
  have h3:=(RS.hand_nat2.1 h1).2
  rw [Nat.add_sub_cancel,hq] at h3
  obtain rfl:=Option.some.inj (Option.some.inj h3)
  exact ⟨i,q + 1,m,hi,hm0,h2⟩
 have bwd:∀ (i x:Nat),ids[i]?=some x→heldW slots i=true→∃ (j n:Nat) (b:List Nat),hd[j]?=some n∧slots[j]?=some (i + 1)∧s.hand (n:Int)=some x∧bs[i]?=some b∧nd[x]?=some (blobN b):=fun i x hi hh=>by
  obtain ⟨j,hj⟩:=List.mem_iff_getElem?.1 (of_decide_eq_true hh)
  have hjl:=(List.getElem?_eq_some_iff.1 hj).1
  obtain ⟨n,hn⟩:∃ n,hd[j]?=some n:=⟨_,List.getElem?_eq_getElem (by rw [k.h8,← k.s8]; exact hjl)⟩
  obtain ⟨x',b,h1,h2,h3,h4⟩:=k.at_ j n i hn hj
  rw [hi] at h2
  obtain rfl:=Option.some.inj h2
  exact ⟨j,n,b,hn,hj,h1,h3,h4⟩
 refine ⟨k.il,k.idn,fun x=>⟨fun hx=>?_,fun ⟨i,hi,hh⟩=>?_⟩,fun i x hi hh=>?_⟩
 ·obtain ⟨i,n,m,_,h2,h3⟩:=fwd x (heldL_mem.1 hx)
  exact ⟨m,h3,decide_eq_true (List.mem_of_getElem? h2)⟩
 ·obtain ⟨j,n,b,_,_,h1,_⟩:=bwd i x hi hh
  exact heldL_mem.2 (List.mem_of_getElem? (RS.hand_nat2.1 h1).2)
 ·obtain ⟨j,n,b,hn,hj,h1,h3,h4⟩:=bwd i x hi hh
  obtain ⟨x',b',_,g2,g3,g4,g5,B,ok,_⟩:=k.here hn hj
  rw [hi] at g2
  obtain rfl:=Option.some.inj g2
  rw [h3] at g3
  obtain rfl:=Option.some.inj g3
  refine ⟨B.nz,B.refs,?_⟩
  have e:bs.getD i []=b:=by rw [List.getD_eq_getElem?_getD,h3]; rfl
  rw [e]
  unfold RS.size RObj.size sizeB
  rw [B.refs,RS.raws_len B ok]
  show 1 + 0 + (1 + wordsN b.length)=_
  omega
/-- Something that no handle holds goes. -/
theorem KS.sub (k:KS s nd hd lim bs slots ids) (st:RS.Sub t s) (vt:t.Inv) (lt:t.limit=lim):KS t nd hd lim bs slots ids:=by
 refine ⟨vt,k.sh.sub st,lt,k.h8,k.s8,k.il,k.idn,k.idl,k.zr,fun i n m hn hm=>?_,fun q x hq=>k.only q x (st.roots ▸ hq),k.dis,k.ok⟩
 obtain ⟨x,b,h1,h2,h3,h4⟩:=k.at_ i n m hn hm
 exact ⟨x,b,by rw [RS.hand_nat2] at h1 ⊢; rw [st.roots]; exact h1,h2,h3,h4⟩
/-- Something that no handle holds comes. -/
theorem KS.grow (k:KS s nd hd lim bs slots ids) {n0:NodeD} (v':s'.Inv) (sh':s'.Shd (nd ++ [n0])) (er:s'.roots=s.roots) (lt:s'.limit=lim):KS s' (nd ++ [n0]) hd lim bs slots ids:=by
 refine ⟨v',sh',lt,k.h8,k.s8,k.il,k.idn,fun x hx=>⟨(k.idl x hx).1,by rw [List.length_append]; have:=(k.idl x hx).2; omega⟩,k.zr,fun i n m hn hm=>?_,fun q x hq=>k.only q x (er ▸ hq),k.dis,k.ok⟩
 obtain ⟨x,b,h1,h2,h3,h4⟩:=k.at_ i n m hn hm
 exact ⟨x,b,by rw [RS.hand_nat2] at h1 ⊢; rw [er]; exact h1,h2,h3,by rw [List.getElem?_append_left (List.getElem?_eq_some_iff.1 h4).1]; exact h4⟩
/-- A new blob that no handle holds yet. -/
theorem KS.new (k:KS s nd hd lim bs slots ids) (v':s'.Inv) (sh':s'.Shd (nd ++ [blobN b])) (er:s'.roots=s.roots) (lt:s'.limit=lim) (hp:nd.length ≠ 0) (ok:Okb b):KS s' (nd ++ [blobN b]) hd lim (bs ++ [b]) slots (ids ++ [nd.length]):=by
 have k1:=k.grow v' sh' er lt
 refine ⟨v',sh',lt,k.h8,k.s8,by rw [List.length_append,List.length_append,k.il]; rfl,?_,fun x hx=>?_,k.zr,fun i n m hn hm=>?_,k1.only,k.dis,fun c hc=>?_⟩
 ·rw [List.nodup_append]
  refine ⟨k.idn,by simp,fun x hx y hy e=>?_⟩
  obtain rfl:=List.mem_singleton.1 hy
  have:=(k.idl x hx).2
  omega
 ·rcases List.mem_append.1 hx with hx | hx
  ·exact k1.idl x hx
  ·obtain rfl:=List.mem_singleton.1 hx
   exact ⟨hp,by rw [List.length_append]; simp⟩
 ·obtain ⟨x,c,h1,h2,h3,h4⟩:=k1.at_ i n m hn hm
  exact ⟨x,c,h1,by rw [List.getElem?_append_left (List.getElem?_eq_some_iff.1 h2).1]; exact h2,by rw [List.getElem?_append_left (List.getElem?_eq_some_iff.1 h3).1]; exact h3,h4⟩
 ·rcases List.mem_append.1 hc with hc | hc
  ·exact k.ok c hc
  ·obtain rfl:=List.mem_singleton.1 hc; exact ok
/-- A slot's handle leads to a blob that is there. -/
theorem KS.put (k:KS s nd hd lim bs slots ids) {j n m x:Nat} (hj:hd[j]?=some n) (h0:n ≠ 0) (hx:ids[m]?=some x) (hm:m < bs.length) (hb:bs[m]?=some b) (hn:nd[x]?=some (blobN b)) (hh:s.here x) :
  ∃ R1,s.putF (n:Int) (s.ref x)=(s.withRoots R1,0)∧R1.length=s.roots.length∧KS (s.withRoots R1) nd hd lim bs (slots.set j (m + 1)) ids:=by
 have jl:=(List.getElem?_eq_some_iff.1 hj).1
 obtain ⟨m0,hm0⟩:∃ m,slots[j]?=some m:=⟨_,List.getElem?_eq_getElem (by rw [k.s8,← k.h8]; exact jl)⟩
 obtain ⟨m1,rfl⟩:∃ m,m0=m + 1:=⟨m0 - 1,by have:=k.zr j n m0 hj hm0; omega⟩
 obtain ⟨y,c,h1,_⟩:=k.at_ j n m1 hj hm0
 have hx0:=(k.idl x (List.mem_of_getElem? hx)).1
 have e:s.putF (n:Int) (s.ref x)=(s.withRoots (s.roots.set (n - 1) (some x)),0):=by
  unfold RS.putF
  rw [h1]
  have e1:((n:Int) - 1).toNat=n - 1:=by omega
  simp only [RS.good_ref k.v (.inr hh),if_true,RS.ident_ref k.v (.inr hh),e1]
 have h2:=RS.hand_nat2.1 h1
 have hl:=(List.getElem?_eq_some_iff.1 h2.2).1
 refine ⟨_,e,by rw [List.length_set],by have:=k.v.put (n:Int) (s.ref x); rw [e] at this; exact this,k.sh.roots _,k.lm,k.h8,by rw [List.length_set]; exact k.s8,k.il,k.idn,k.idl,fun i n' m' hi hs=>?_,fun i n' m' hi hs=>?_,fun q y hq=>?_,k.dis,k.ok⟩
 ·by_cases hij:i=j
  ·subst hij
   rw [hj] at hi
   obtain rfl:=Option.some.inj hi
   rw [List.getElem?_set_self (by rw [k.s8,← k.h8]; exact jl)] at hs
   obtain rfl:=Option.some.inj hs
   omega
  ·rw [List.getElem?_set_ne (Ne.symm hij)] at hs
   exact k.zr i n' m' hi hs
 ·by_cases hij:i=j
  ·subst hij
   rw [hj] at hi
   obtain rfl:=Option.some.inj hi
   rw [List.getElem?_set_self (by rw [k.s8,← k.h8]; exact jl)] at hs
   obtain rfl:m=m':=by have:=Option.some.inj hs; omega
   exact ⟨x,b,RS.hand_nat2.2 ⟨h2.1,by show (s.roots.set (n - 1) (some x))[n - 1]?=_; rw [List.getElem?_set_self hl]⟩,hx,hb,hn⟩
  ·rw [List.getElem?_set_ne (Ne.symm hij)] at hs
   obtain ⟨y',c',g1,g2,g3,g4⟩:=k.at_ i n' m' hi hs
   have g5:=RS.hand_nat2.1 g1
   have hne:n' ≠ n:=fun e=>hij (k.dis i j n (e ▸ hi) hj h0)
   exact ⟨y',c',RS.hand_nat2.2 ⟨g5.1,by show (s.roots.set (n - 1) (some x))[n' - 1]?=_; rw [List.getElem?_set_ne (by omega)]; exact g5.2⟩,g2,g3,g4⟩
 ·have hq:(s.roots.set (n - 1) (some x))[q]?=some (some y):=hq
  by_cases hqn:q=n - 1
  ·subst hqn
   exact ⟨j,by rw [show n - 1 + 1=n by omega]; exact hj⟩
  ·rw [List.getElem?_set_ne (Ne.symm hqn)] at hq
   exact k.only q y hq
/-- A slot takes a new handle. -/
theorem KS.root (k:KS s nd hd lim bs slots ids) {j m x:Nat} (hj:hd[j]?=some 0) (hx:ids[m]?=some x) (hb:bs[m]?=some b) (hn:nd[x]?=some (blobN b)) (hh:s.here x) (rl:s.roots.length < 100000000) :
  ∃ R1 n,s.rootF (s.ref x)=(s.withRoots R1,n,0)∧R1.length ≤ s.roots.length + 1∧n ≠ 0∧KS (s.withRoots R1) nd (hd.set j n) lim bs (slots.set j (m + 1)) ids:=by
 have jl:=(List.getElem?_eq_some_iff.1 hj).1
 have jls:j < slots.length:=by rw [k.s8,← k.h8]; exact jl
 have er:=rootF_good k.v (id:=x) (.inr hh)
 generalize hk:RS.freeAt s.roots=q at er
 have hkl:q ≤ s.roots.length:=by rw [← hk]; exact RS.freeAt_le _
 generalize hR1:(if q < s.roots.length then s.roots.set q (some x) else s.roots ++ [some x])=R1 at er
 have r1:∀ n y:Nat,s.roots[n]?=some (some y)→n ≠ q∧R1[n]?=some (some y):=fun n y h=>by
  have hn':n ≠ q:=fun e=>by
   rw [e] at h
   by_cases hlt':q < s.roots.length
   ·have:=RS.freeAt_none2 s.roots (by rw [hk]; exact hlt')
    rw [hk,h] at this; cases this
   ·rw [List.getElem?_eq_none (by omega)] at h; cases h
  refine ⟨hn',?_⟩
  rw [← hR1]
  split
  ·rw [List.getElem?_set_ne (Ne.symm hn')]; exact h
  ·rw [List.getElem?_append_left (List.getElem?_eq_some_iff.1 h).1]; exact h
 have r2:∀ n y:Nat,R1[n]?=some (some y)→n=q ∨ s.roots[n]?=some (some y):=fun n y h=>by
  by_cases hn':n=q
  ·exact .inl hn'
  ·right
   rw [← hR1] at h
   split at h
   ·rw [List.getElem?_set_ne (Ne.symm hn')] at h; exact h
   ·by_cases hlt:n < s.roots.length
    ·rw [List.getElem?_append_left hlt] at h; exact h
    ·rw [List.getElem?_append_right (by omega)] at h
     have:=(List.getElem?_eq_some_iff.1 h).1
     simp at this
     omega
 have rk:R1[q]?=some (some x):=by
  rw [← hR1]
  split
  ·rename_i hl; rw [List.getElem?_set_self hl]
  ·rename_i hl; rw [List.getElem?_append_right (by omega),show q - s.roots.length=0 by omega]; rfl
 have rlen:R1.length ≤ s.roots.length + 1:=by
  rw [← hR1]
  split
  ·rw [List.length_set]; omega
  ·simp
 have v1:(s.withRoots R1).Inv:=by have:=k.v.root (r:=s.ref x) rl; rw [er] at this; exact this
 have hq:(s.withRoots R1).hand ((q + 1:Nat):Int)=some x:=RS.hand_nat2.2 ⟨by omega,rk⟩
 have jm0:slots[j]?=some 0:=by
  obtain ⟨m0,hm0⟩:∃ m,slots[j]?=some m:=⟨_,List.getElem?_eq_getElem jls⟩
  rw [(k.zr j 0 m0 hj hm0).1 rfl] at hm0
  exact hm0
 have fr:∀ i n:Nat,hd[i]?=some n→n ≠ q + 1:=fun i n hi e=>by
  subst e
  have il:=(List.getElem?_eq_some_iff.1 hi).1
  obtain ⟨m0,hm0⟩:∃ m,slots[i]?=some m:=⟨_,List.getElem?_eq_getElem (by rw [k.s8,← k.h8]; exact il)⟩
  obtain ⟨m1,rfl⟩:∃ m,m0=m + 1:=⟨m0 - 1,by have:=k.zr i _ m0 hi hm0; omega⟩
  obtain ⟨y,c,h1,_⟩:=k.at_ i _ m1 hi hm0
  have:=(r1 _ y (RS.hand_nat2.1 h1).2).1
  omega
 refine ⟨R1,q + 1,er,rlen,by omega,v1,k.sh.roots _,k.lm,by rw [List.length_set]; exact k.h8,by rw [List.length_set]; exact k.s8,k.il,k.idn,k.idl,fun i n' m' hi hs=>?_,fun i n' m' hi hs=>?_,fun a y ha=>?_,fun i i' n' hi hi' hn0=>?_,k.ok⟩
 ·by_cases hij:i=j
  ·subst hij
   rw [List.getElem?_set_self jl] at hi
   rw [List.getElem?_set_self jls] at hs
   obtain rfl:=Option.some.inj hi
   obtain rfl:=Option.some.inj hs
   omega
  ·rw [List.getElem?_set_ne (Ne.symm hij)] at hi hs
   exact k.zr i n' m' hi hs
 ·by_cases hij:i=j
  ·subst hij
   rw [List.getElem?_set_self jl] at hi
   rw [List.getElem?_set_self jls] at hs
   obtain rfl:=Option.some.inj hi
   obtain rfl:m=m':=by have:=Option.some.inj hs; omega
   exact ⟨x,b,hq,hx,hb,hn⟩
  ·rw [List.getElem?_set_ne (Ne.symm hij)] at hi hs
   obtain ⟨y',c',g1,g2,g3,g4⟩:=k.at_ i n' m' hi hs
   have g5:=RS.hand_nat2.1 g1
   exact ⟨y',c',RS.hand_nat2.2 ⟨g5.1,(r1 _ _ g5.2).2⟩,g2,g3,g4⟩
 ·have ha:R1[a]?=some (some y):=ha
  rcases r2 a y ha with e | e
  ·exact ⟨j,by rw [e,List.getElem?_set_self jl]⟩
  ·obtain ⟨i,hi⟩:=k.only a y e
   have hij:i ≠ j:=fun z=>by rw [z,hj] at hi; have:=Option.some.inj hi; omega
   exact ⟨i,by rw [List.getElem?_set_ne (Ne.symm hij)]; exact hi⟩
 ·by_cases h1:i=j <;> by_cases h2:i'=j
  ·rw [h1,h2]
  ·subst h1
   rw [List.getElem?_set_self jl] at hi
   rw [List.getElem?_set_ne (Ne.symm h2)] at hi'
   exact absurd (Option.some.inj hi).symm (fr i' n' hi')
  ·subst h2
   rw [List.getElem?_set_self jl] at hi'
   rw [List.getElem?_set_ne (Ne.symm h1)] at hi
   exact absurd (Option.some.inj hi').symm (fr i n' hi)
  ·rw [List.getElem?_set_ne (Ne.symm h1)] at hi
   rw [List.getElem?_set_ne (Ne.symm h2)] at hi'
   exact k.dis i i' n' hi hi' hn0
/-- A slot lets go. -/
theorem KS.drop (k:KS s nd hd lim bs slots ids) {j n:Nat} (hj:hd[j]?=some n) (h0:n ≠ 0):∃ R1,s.dropF (n:Int)=(s.withRoots R1,0)∧R1.length=s.roots.length∧KS (s.withRoots R1) nd (hd.set j 0) lim bs (slots.set j 0) ids:=by
 have jl:=(List.getElem?_eq_some_iff.1 hj).1
 have jls:j < slots.length:=by rw [k.s8,← k.h8]; exact jl
 obtain ⟨m0,hm0⟩:∃ m,slots[j]?=some m:=⟨_,List.getElem?_eq_getElem jls⟩
 obtain ⟨m1,rfl⟩:∃ m,m0=m + 1:=⟨m0 - 1,by have:=k.zr j n m0 hj hm0; omega⟩
 obtain ⟨y,c,h1,_⟩:=k.at_ j n m1 hj hm0
 have e:s.dropF (n:Int)=(s.withRoots (s.roots.set (n - 1) none),0):=by
  unfold RS.dropF
  rw [h1]
  have e1:((n:Int) - 1).toNat=n - 1:=by omega
  simp only [e1]
 have h2:=RS.hand_nat2.1 h1
 refine ⟨_,e,by rw [List.length_set],by have:=k.v.drop (n:Int); rw [e] at this; exact this,k.sh.roots _,k.lm,by rw [List.length_set]; exact k.h8,by rw [List.length_set]; exact k.s8,k.il,k.idn,k.idl,fun i n' m' hi hs=>?_,fun i n' m' hi hs=>?_,fun q z hq=>?_,fun i i' n' hi hi' hn0=>?_,k.ok⟩
 ·by_cases hij:i=j
  ·subst hij
   rw [List.getElem?_set_self jl] at hi
   rw [List.getElem?_set_self jls] at hs
   obtain rfl:=Option.some.inj hi
   obtain rfl:=Option.some.inj hs
   exact Iff.rfl
  ·rw [List.getElem?_set_ne (Ne.symm hij)] at hi hs
   exact k.zr i n' m' hi hs
 ·by_cases hij:i=j
  ·subst hij
   rw [List.getElem?_set_self jls] at hs
   cases hs
  ·rw [List.getElem?_set_ne (Ne.symm hij)] at hi hs
   obtain ⟨y',c',g1,g2,g3,g4⟩:=k.at_ i n' m' hi hs
   have g5:=RS.hand_nat2.1 g1
   have hne:n' ≠ n:=fun e=>hij (k.dis i j n (e ▸ hi) hj h0)
   exact ⟨y',c',RS.hand_nat2.2 ⟨g5.1,by show (s.roots.set (n - 1) none)[n' - 1]?=_; rw [List.getElem?_set_ne (by omega)]; exact g5.2⟩,g2,g3,g4⟩
 ·have hq:(s.roots.set (n - 1) none)[q]?=some (some z):=hq
  by_cases hqn:q=n - 1
  ·subst hqn
   rw [List.getElem?_set_self (List.getElem?_eq_some_iff.1 h2.2).1] at hq
   cases hq
  ·rw [List.getElem?_set_ne (Ne.symm hqn)] at hq
   obtain ⟨i,hi⟩:=k.only q z hq
   have hij:i ≠ j:=fun e=>by rw [e,hj] at hi; have:=Option.some.inj hi; omega
   exact ⟨i,by rw [List.getElem?_set_ne (Ne.symm hij)]; exact hi⟩
 ·have ne:∀ i,(hd.set j 0)[i]?=some n'→i ≠ j:=fun i hi e=>by
   subst e
   rw [List.getElem?_set_self jl] at hi
   exact hn0 (Option.some.inj hi).symm
  have z1:=ne i hi
  have z2:=ne i' hi'
  rw [List.getElem?_set_ne (Ne.symm z1)] at hi
  rw [List.getElem?_set_ne (Ne.symm z2)] at hi'
  exact k.dis i i' n' hi hi' hn0
/-- A blob's bytes are others, in its place. -/
theorem KS.over (k:KS s nd hd lim bs slots ids) {m x:Nat} {b':List Nat} (hx:ids[m]?=some x) (hb:bs[m]?=some b) (hn:nd[x]?=some (blobN b)) (hh:s.here x) (ok':Okb b') (hw:wordsN b'.length=wordsN b.length):KS (s.inPl x (blobRaws b')) (nd.set x (blobN b')) hd lim (bs.set m b') slots ids:=by
 have ok:=k.ok b (List.mem_of_getElem? hb)
 have B:=RS.IsB.of k.v k.sh hh hn
 have hml:=(List.getElem?_eq_some_iff.1 hb).1
 have hxl:=(List.getElem?_eq_some_iff.1 hn).1
 have hlr:(blobRaws b').length=(s.obj x).raws.length:=by rw [ok'.is.len,hw,RS.raws_len B ok]
 refine ⟨k.v.inPl hh hlr ok'.is.lt,k.sh.inPl k.v hh B,k.lm,k.h8,k.s8,by rw [List.length_set]; exact k.il,k.idn,fun y hy=>by rw [List.length_set]; exact k.idl y hy,k.zr,fun i n m' hi hs=>?_,k.only,k.dis,fun c hc=>?_⟩
 ·obtain ⟨y,c,h1,h2,h3,h4⟩:=k.at_ i n m' hi hs
  by_cases hmm:m'=m
  ·subst hmm
   rw [hx] at h2
   obtain rfl:=Option.some.inj h2
   exact ⟨x,b',h1,hx,by rw [List.getElem?_set_self hml],by rw [List.getElem?_set_self hxl]⟩
  ·have hyx:y ≠ x:=fun e=>hmm (nodup_at k.idn (e ▸ h2) hx)
   exact ⟨y,c,h1,h2,by rw [List.getElem?_set_ne (Ne.symm hmm)]; exact h3,by rw [List.getElem?_set_ne (Ne.symm hyx)]; exact h4⟩
 ·rcases List.mem_or_eq_of_mem_set hc with hc | hc
  ·exact k.ok c hc
  ·rw [hc]; exact ok'
end
end Go.Ev
set_option linter.all false
set_option maxRecDepth 1000000
namespace Go.Ev
open Go.Proofs
structure HM where
 q:HQ
 s:RS
 W:WD
def HM.foot (x:HM) (b:Nat):Prop:=x.q.role b ≠ .out ∨ x.W.foot b
structure HMk (h:Hp) (x:HM):Prop where
 st:HSt h x.q x.s
 wk:Wk h x.W
 sep:∀ b,x.W.foot b→x.q.role b=.out
def updP (P:Nat→HM) (k:Nat) (x:HM):Nat→HM:=fun i=>if i=k then x else P i
def updL (hh:Nat→List Nat) (k:Nat) (x:List Nat):Nat→List Nat:=fun i=>if i=k then x else hh i
def pv (b:Nat):Value:=.pointer (some (ad b))
def stC (P:Nat→HM) (hh:Nat→List Nat) (d:BkD) (L:LtD) (mark:Bool):List Value:=[pv (P 0).q.hb,pv (P 1).q.hb,pv (P 0).W.wb,pv (P 1).W.wb] ++ (hh 0).map nv ++ (hh 1).map nv ++ [pv d.bb,pv L.lb,.bool mark]
def SF (sb:Nat) (P:Nat→HM) (d:BkD) (L:LtD) (b:Nat):Prop:=b=sb ∨ (P 0).foot b ∨ (P 1).foot b ∨ BLfoot d L b
structure StM (h:Hp) (sb:Nat) (P:Nat→HM) (hh:Nat→List Nat) (d:BkD) (L:LtD) (mark:Bool):Prop where
 row:Row h sb (stC P hh d L mark)
 m:∀ k,k < 2→HMk h (P k)
 d01:∀ i j,i < 2→j < 2→i ≠ j→∀ b,(P i).foot b→¬ (P j).foot b
 bl:BL h d L
 sp:∀ k,k < 2→∀ b,(P k).foot b→¬ BLfoot d L b
 out:∀ k,k < 2→¬ (P k).foot sb
 outB:¬ BLfoot d L sb
 h8:∀ k,k < 2→(hh k).length=8
def TS (h:Hp) (F:Nat→Prop) (h':Hp) (F':Nat→Prop):Prop:=Kept F h h'∧∀ b,F' b→F b ∨ h.size ≤ b
section
variable {h h' h2:Hp} {sb:Nat} {P P':Nat→HM} {hh hh':Nat→List Nat} {d d':BkD} {L L':LtD} {mark:Bool} {F F' F2:Nat→Prop} {R:Value→Hp→Prop}
theorem TS.refl (h:Hp) (F:Nat→Prop):TS h F h F:=⟨Kept.refl _ _,fun _=>.inl⟩
theorem TS.trans (a:TS h F h' F') (b:TS h' F' h2 F2):TS h F h2 F2 :=
 ⟨⟨Nat.le_trans a.1.1 b.1.1,fun i hi hn=>(b.1.2 i (Nat.lt_of_lt_of_le hi a.1.1) fun o=>(a.2 i o).elim hn fun h=>by omega).trans (a.1.2 i hi hn)⟩,
  fun i o=>(b.2 i o).elim (a.2 i) fun h=>.inr (Nat.le_trans a.1.1 h)⟩
theorem TS.keepN (k:Kept N h h'):TS h F h' F:=⟨k.mono fun _ _ e=>e.elim,fun _=>.inl⟩
theorem TS.row (t:TS h F h' F') {c:Nat} {cs:List Value} (r:Row h c cs) (nf:¬ F c):Row h' c cs∧¬ F' c:=⟨kept_row t.1 r nf,fun hf=>(t.2 c hf).elim nf fun e=>by have:=row_lt r; omega⟩
theorem HM.foot_lt {x:HM} (m:HMk h x) {b:Nat} (hb:x.foot b):b < h.size:=by
 rcases hb with hb | hb
 ·exact Nat.lt_of_not_le fun hl=>hb (m.st.fr hl)
 ·exact m.wk.foot_lt hb
theorem HMk.keep {x:HM} {S:Nat→Prop} (m:HMk h x) (k:Kept S h h') (hS:∀ b,x.foot b→¬ S b):HMk h' x :=
 ⟨⟨m.st.rp.keep k fun b hb=>Classical.byContradiction fun hn=>hS b (.inl hn) hb,m.st.v⟩,m.wk.keep k fun b hb=>hS b (.inr hb),m.sep⟩
theorem updP_self (P:Nat→HM) (k:Nat) (x:HM):updP P k x k=x:=if_pos rfl
theorem updP_ne (P:Nat→HM) {k i:Nat} (x:HM) (h:i ≠ k):updP P k x i=P i:=if_neg h
theorem updL_self (P:Nat→List Nat) (k:Nat) (x:List Nat):updL P k x k=x:=if_pos rfl
theorem updL_ne (P:Nat→List Nat) {k i:Nat} (x:List Nat) (h:i ≠ k):updL P k x i=P i:=if_neg h
theorem SF.of_k {k:Nat} (hk:k < 2) {b:Nat} (hb:(P k).foot b):SF sb P d L b:=by
 match k,hk with
 | 0,_=>exact .inr (.inl hb)
 | 1,_=>exact .inr (.inr (.inl hb))
theorem SF.cases {b:Nat} (hb:SF sb P d L b):b=sb ∨ (∃ k,k < 2∧(P k).foot b) ∨ BLfoot d L b:=by
 rcases hb with e | e | e | e
 ·exact .inl e
 ·exact .inr (.inl ⟨0,by omega,e⟩)
 ·exact .inr (.inl ⟨1,by omega,e⟩)
 ·exact .inr (.inr e)
theorem StM.foot_lt (x:StM h sb P hh d L mark) {b:Nat} (hb:SF sb P d L b):b < h.size:=by
 rcases hb.cases with e | ⟨k,hk,e⟩ | e
 ·rw [e]; exact row_lt x.row
 ·exact HM.foot_lt (x.m k hk) e
 ·exact x.bl.foot_lt e
theorem StM.keep {S:Nat→Prop} (x:StM h sb P hh d L mark) (k:Kept S h h') (hS:∀ b,SF sb P d L b→¬ S b):StM h' sb P hh d L mark :=
 ⟨kept_row k x.row (hS sb (.inl rfl)),fun i hi=>(x.m i hi).keep k fun b hb=>hS b (.of_k hi hb),x.d01,x.bl.keep k fun b hb=>hS b (.inr (.inr (.inr hb))),x.sp,x.out,x.outB,x.h8⟩
theorem StM.keepN (x:StM h sb P hh d L mark) (k:Kept N h h'):StM h' sb P hh d L mark:=x.keep k fun _ _=>_root_.id
/-- One of the heaps, with its document's, changes. -/
theorem StM.one (x:StM h sb P hh d L mark) {k:Nat} (hk:k < 2) {y:HM} (m:HMk h' y) (eh:y.q.hb=(P k).q.hb) (ew:y.W.wb=(P k).W.wb) (t:TS h (P k).foot h' y.foot) :
  StM h' sb (updP P k y) hh d L mark∧TS h (SF sb P d L) h' (SF sb (updP P k y) d L):=by
 have fo:∀ {i b},i < 2→(updP P k y i).foot b→(P i).foot b ∨ (i=k∧h.size ≤ b):=fun {i b} hi hb=>by
  by_cases e:i=k
  ·subst e; rw [updP_self] at hb; exact (t.2 b hb).imp_right fun z=>⟨rfl,z⟩
  ·rw [updP_ne _ _ e] at hb; exact .inl hb
 have ec:stC (updP P k y) hh d L mark=stC P hh d L mark:=by
  have e1:∀ i,i < 2→(updP P k y i).q.hb=(P i).q.hb∧(updP P k y i).W.wb=(P i).W.wb:=fun i hi=>by
   by_cases e:i=k
   ·subst e; rw [updP_self]; exact ⟨eh,ew⟩
   ·rw [updP_ne _ _ e]; exact ⟨rfl,rfl⟩
  unfold stC
  rw [(e1 0 (by omega)).1,(e1 1 (by omega)).1,(e1 0 (by omega)).2,(e1 1 (by omega)).2]
 have lt1:∀ {i b},i < 2→(P i).foot b→b < h.size:=fun {i b} hi hb=>HM.foot_lt (x.m i hi) hb
 refine ⟨⟨by rw [ec]; exact kept_row t.1 x.row (x.out k hk),fun i hi=>?_,fun i j hi hj hij b h1 h2=>?_,x.bl.keep t.1 fun b hb hf=>x.sp k hk b hf hb,fun i hi b hb hf=>?_,fun i hi hb=>?_,x.outB,x.h8⟩,t.1.mono fun b _ hb=>.of_k hk hb,fun b hb=>?_⟩
 ·by_cases e:i=k
  ·subst e; rw [updP_self]; exact m
  ·rw [updP_ne _ _ e]; exact (x.m i hi).keep t.1 fun b hb hf=>x.d01 i k hi hk e b hb hf
 ·rcases fo hi h1 with a | ⟨a,a'⟩ <;> rcases fo hj h2 with c | ⟨c,c'⟩
  ·exact x.d01 i j hi hj hij b a c
  ·have:=lt1 hi a; omega
  ·have:=lt1 hj c; omega
  ·exact hij (a.trans c.symm)
 ·rcases fo hi hb with a | ⟨_,a⟩
  ·exact x.sp i hi b a hf
  ·have:=x.bl.foot_lt hf; omega
 ·rcases fo hi hb with a | ⟨_,a⟩
  ·exact x.out i hi a
  ·have:=row_lt x.row; omega
 ·rcases hb.cases with e | ⟨i,hi,e⟩ | e
  ·exact .inl (.inl e)
  ·rcases fo hi e with a | ⟨_,a⟩
   ·exact .inl (.of_k hi a)
   ·exact .inr a
  ·exact .inl (.inr (.inr (.inr e)))
/-- A call on one of the heaps. -/
theorem StM.heap (x:StM h sb P hh d L mark) {k:Nat} (hk:k < 2) {q':HQ} {s':RS} (st:HSt h' q' s') (e:Ex h (P k).q h' q') :
  StM h' sb (updP P k ⟨q',s',(P k).W⟩) hh d L mark∧TS h (SF sb P d L) h' (SF sb (updP P k ⟨q',s',(P k).W⟩) d L):=by
 have m:=x.m k hk
 have ok:∀ b,(P k).W.foot b→¬ (P k).q.role b ≠ .out:=fun b hb hn=>hn (m.sep b hb)
 refine x.one hk ⟨st,m.wk.keep e.kept ok,fun b hb=>e.out (m.wk.foot_lt hb) (m.sep b hb)⟩ e.1 rfl ⟨e.kept.mono fun b _ hb=>.inl hb,fun b hb=>?_⟩
 rcases hb with hb | hb
 ·by_cases hl:h.size ≤ b
  ·exact .inr hl
  ·exact .inl (.inl fun ho=>hb (e.out (by omega) ho))
 ·exact .inl (.inr hb)
/-- A call on one of the document's heaps. -/
theorem StM.doc (x:StM h sb P hh d L mark) {k:Nat} (hk:k < 2) {W':WD} (w:Wk h' W') (ew:W'.wb=(P k).W.wb) (t:WT h (P k).W h' W') :
  StM h' sb (updP P k ⟨(P k).q,(P k).s,W'⟩) hh d L mark∧TS h (SF sb P d L) h' (SF sb (updP P k ⟨(P k).q,(P k).s,W'⟩) d L):=by
 have m:=x.m k hk
 refine x.one hk ⟨⟨m.st.rp.keep t.1 fun b hb=>m.sep b hb,m.st.v⟩,w,fun b hb=>(t.2 b hb).elim (m.sep b) fun hs=>m.st.fr hs⟩ rfl ew ⟨t.1.mono fun b _ hb=>.inr hb,fun b hb=>?_⟩
 rcases hb with hb | hb
 ·exact .inl (.inl hb)
 ·exact (t.2 b hb).imp_left .inr
/-- The book and the late answers change. -/
theorem StM.book (x:StM h sb P hh d L mark) (b:BL h' d' L') (t:BLT h d L h' d' L'):StM h' sb P hh d' L' mark∧TS h (SF sb P d L) h' (SF sb P d' L'):=by
 have ec:stC P hh d' L' mark=stC P hh d L mark:=by unfold stC; rw [t.bb,t.lb]
 refine ⟨⟨by rw [ec]; exact kept_row t.k x.row x.outB,fun i hi=>(x.m i hi).keep t.k fun b hb=>x.sp i hi b hb,x.d01,b,fun i hi b hb hf=>(t.f b hf).elim (x.sp i hi b hb) fun hs=>by have:=HM.foot_lt (x.m i hi) hb; omega,x.out,fun hf=>(t.f sb hf).elim x.outB fun hs=>by have:=row_lt x.row; omega,x.h8⟩,t.k.mono fun b _ hb=>.inr (.inr (.inr hb)),fun b hb=>?_⟩
 rcases hb with e | e | e | e
 ·exact .inl (.inl e)
 ·exact .inl (.inr (.inl e))
 ·exact .inl (.inr (.inr (.inl e)))
 ·exact (t.f b e).imp_left fun z=>.inr (.inr (.inr z))
/-! ### The stage's cells -/
theorem StM.len (x:StM h sb P hh d L mark):(stC P hh d L mark).length=23:=by
 unfold stC
 simp [x.h8 0 (by omega),x.h8 1 (by omega)]
theorem StM.cH (x:StM h sb P hh d L mark) {k:Nat} (hk:k < 2):cell h ((ad sb).add (k * 1))=some (.pointer (some (ad (P k).q.hb))):=by
 rw [add_ad]
 match k,hk with
 | 0,_=>exact (cell_row x.row 0).trans rfl
 | 1,_=>exact (cell_row x.row 1).trans rfl
theorem StM.cW (x:StM h sb P hh d L mark) {k:Nat} (hk:k < 2):cell h (((ad sb).add 2).add (k * 1))=some (.pointer (some (ad (P k).W.wb))):=by
 rw [add_add,add_ad]
 match k,hk with
 | 0,_=>exact (cell_row x.row 2).trans rfl
 | 1,_=>exact (cell_row x.row 3).trans rfl
theorem stC_hand (P:Nat→HM) (hh:Nat→List Nat) (d:BkD) (L:LtD) (mark:Bool) (h8:∀ k,k < 2→(hh k).length=8) {k i:Nat} (hk:k < 2) (hi:i < 8):(stC P hh d L mark)[4 + k * 8 + i]?=((hh k)[i]?).map nv:=by
 have l0:((hh 0).map nv).length=8:=by rw [List.length_map]; exact h8 0 (by omega)
 have l1:((hh 1).map nv).length=8:=by rw [List.length_map]; exact h8 1 (by omega)
 unfold stC
 match k,hk with
 | 0,_ =>
  rw [List.append_assoc,List.append_assoc,List.getElem?_append_right (by show 4 ≤ _; omega),List.getElem?_append_left (by rw [l0]; show 4 + 0 * 8 + i - 4 < 8; omega),List.getElem?_map]
  congr 2
  show 4 + 0 * 8 + i - 4=i
  omega
 | 1,_ =>
  rw [List.append_assoc,List.append_assoc,List.getElem?_append_right (by show 4 ≤ _; omega),List.getElem?_append_right (by rw [l0]; show 8 ≤ 4 + 1 * 8 + i - 4; omega),List.getElem?_append_left (by rw [l0,l1]; show 4 + 1 * 8 + i - 4 - 8 < 8; omega),List.getElem?_map,l0]
  congr 2
  show 4 + 1 * 8 + i - 4 - 8=i
  omega
theorem StM.cN (x:StM h sb P hh d L mark) {k i n:Nat} (hk:k < 2) (hn:(hh k)[i]?=some n):cell h ((((ad sb).add 4).add (k * 8)).add (i * 1))=some (.int .i64 (n:Nat)):=by
 have hi:i < 8:=by have:=(List.getElem?_eq_some_iff.1 hn).1; rw [x.h8 k hk] at this; exact this
 rw [add_add,add_add,add_ad,Nat.mul_one,← Nat.add_assoc]
 refine (cell_row x.row _).trans ?_
 rw [stC_hand P hh d L mark x.h8 hk hi,hn]
 rfl
theorem StM.tailc (x:StM h sb P hh d L mark) (i:Nat):(stC P hh d L mark)[20 + i]?=[pv d.bb,pv L.lb,.bool mark][i]?:=by
 unfold stC
 rw [List.getElem?_append_right (by simp [x.h8 0 (by omega),x.h8 1 (by omega)])]
 congr 1
 simp [x.h8 0 (by omega),x.h8 1 (by omega)]
theorem StM.cB (x:StM h sb P hh d L mark):cell h ((ad sb).add 20)=some (.pointer (some (ad d.bb))):=by rw [add_ad]; exact (cell_row x.row 20).trans (x.tailc 0)
theorem StM.cL (x:StM h sb P hh d L mark):cell h ((ad sb).add 21)=some (.pointer (some (ad L.lb))):=by rw [add_ad]; exact (cell_row x.row 21).trans (x.tailc 1)
theorem StM.cM (x:StM h sb P hh d L mark):cell h ((ad sb).add 22)=some (.bool mark):=by rw [add_ad]; exact (cell_row x.row 22).trans (x.tailc 2)
theorem stC_set (P:Nat→HM) (hh:Nat→List Nat) (d:BkD) (L:LtD) (mark:Bool) (h8:∀ k,k < 2→(hh k).length=8) {k i n:Nat} (hk:k < 2) (hi:i < 8):(stC P hh d L mark).set (4 + k * 8 + i) (nv n)=stC P (updL hh k ((hh k).set i n)) d L mark:=by
 have l0:((hh 0).map nv).length=8:=by rw [List.length_map]; exact h8 0 (by omega)
 have l1:((hh 1).map nv).length=8:=by rw [List.length_map]; exact h8 1 (by omega)
 unfold stC
 match k,hk with
 | 0,_ =>
  rw [updL_self,updL_ne _ _ (by omega:(1:Nat) ≠ 0),List.append_assoc,List.append_assoc,List.set_append_right _ _ (by show 4 ≤ _; omega),List.set_append_left _ _ (by rw [l0]; show 4 + 0 * 8 + i - 4 < 8; omega)]
  have e:4 + 0 * 8 + i - [pv (P 0).q.hb,pv (P 1).q.hb,pv (P 0).W.wb,pv (P 1).W.wb].length=i:=by show 4 + 0 * 8 + i - 4=i; omega
  rw [e,← List.map_set,List.append_assoc,List.append_assoc]
 | 1,_ =>
  rw [updL_self,updL_ne _ _ (by omega:(0:Nat) ≠ 1),List.append_assoc,List.append_assoc,List.set_append_right _ _ (by show 4 ≤ _; omega),List.set_append_right _ _ (by rw [l0]; show 8 ≤ 4 + 1 * 8 + i - 4; omega),List.set_append_left _ _ (by rw [l0,l1]; show 4 + 1 * 8 + i - 4 - 8 < 8; omega),l0]
  have e:4 + 1 * 8 + i - [pv (P 0).q.hb,pv (P 1).q.hb,pv (P 0).W.wb,pv (P 1).W.wb].length - 8=i:=by show 4 + 1 * 8 + i - 4 - 8=i; omega
  rw [e,← List.map_set,List.append_assoc,List.append_assoc]
/-- A handle is set. -/
theorem StM.setN (x:StM h sb P hh d L mark) {k i:Nat} (hk:k < 2) (hi:i < 8) (n:Nat) {K:Hp→Prop} (hK:∀ h',StM h' sb P (updL hh k ((hh k).set i n)) d L mark→TS h (SF sb P d L) h' (SF sb P d L)→K h') :
  stOk h ((((ad sb).add 4).add (k * 8)).add (i * 1))∧Let (setc h ((((ad sb).add 4).add (k * 8)).add (i * 1)) (.int .i64 (n:Nat))) fun h'=>K h':=by
 rw [add_add,add_add,Nat.mul_one,← Nat.add_assoc]
 refine row_st x.row (i:=4 + k * 8 + i) (add_ad _ _) (by rw [x.len]; omega) fun h' row kk=>?_
 have e:=stC_set P hh d L mark x.h8 hk hi (n:=n)
 have e:(stC P hh d L mark).set (4 + k * 8 + i) (.int .i64 (n:Nat))=_:=e
 rw [e] at row
 refine hK h' ⟨row,fun j hj=>(x.m j hj).keep kk fun b hb (e:b=sb)=>x.out j hj (e ▸ hb),x.d01,x.bl.keep kk fun b hb (e:b=sb)=>x.outB (e ▸ hb),x.sp,x.out,x.outB,fun j hj=>?_⟩ ⟨kk.mono fun b _ e=>.inl e,fun b hb=>.inl hb⟩
 by_cases ej:j=k
 ·subst ej; rw [updL_self,List.length_set]; exact x.h8 j hj
 ·rw [updL_ne _ _ ej]; exact x.h8 j hj
end
end Go.Ev
set_option linter.all false
set_option maxRecDepth 1000000
namespace Go.Ev
open Go.Proofs
section
variable {h h' h2:Hp} {q:HQ} {s s':RS} {nd:List NodeD} {R:Value→Hp→Prop}
def NoBlob (s:RS) (r:Nat):Prop:=(s.objF r).2 ≠ 0 ∨ (s.objF r).1.1 ≠ 1
theorem noBlob_of {r:Nat} (h:s.ident r=0):NoBlob s r:=.inl (by unfold RS.objF; rw [if_pos h]; show (32:Int) ≠ 0; decide)
theorem noBlob_zero (s:RS):NoBlob s 0:=noBlob_of s.ident_zero
theorem noBlob_mid (v:s.Inv) {n:Nat} (hn:n < 1000):NoBlob s (4611686018427387904 + n):=noBlob_of (by
 rw [RS.ident_low (by omega) (by show _ < 9223372036854775808; omega)]
 have:(s.small.find? fun i=>(s.obj i).pl == 4611686018427387904 + n)=none:=by
  rw [List.find?_eq_none]
  intro x hx
  have:=RS.pl_lt v (.inl hx)
  rw [beq_iff_eq]
  omega
 rw [this]
 rfl)
theorem noBlob_top (v:s.Inv):NoBlob s (top + 1099511627776):=noBlob_of (by
 rw [RS.ident_top,List.getD_eq_getElem?_getD,List.getElem?_eq_none (by have:=v.sll; omega)]
 rfl)
theorem nlen_ok (x:HSt h q s) {r:Nat} (hr:r < 18446744073709551616) (nb:NoBlob s r) (hR:R (.tuple #[.int .i64 0,.int .i64 40]) h):CallTo Tryz.prog 54 #[.pointer (some (ad q.hb)),uv r] h R:=len_bad x hr nb hR
theorem nread_ok (x:HSt h q s) {r:Nat} (hr:r < 18446744073709551616) (nb:NoBlob s r) (hR:R (.tuple #[.slice none 0 0,.int .i64 40]) h):CallTo Tryz.prog 51 #[.pointer (some (ad q.hb)),uv r] h R:=by
 refine f51F_ok ?_
 unfold f51F
 exact nlen_ok x hr nb ⟨_,_,rfl,Cond_t rfl hR⟩
theorem nslice_ok (x:HSt h q s) {r:Nat} (hr:r < 18446744073709551616) (nb:NoBlob s r) {f n:Int} (hR:R (.tuple #[.slice none 0 0,.int .i64 40]) h):CallTo Tryz.prog 55 #[.pointer (some (ad q.hb)),uv r,.int .i64 f,.int .i64 n] h R:=by
 refine f55F_ok ?_
 unfold f55F
 exact nlen_ok x hr nb ⟨_,_,rfl,Cond_t rfl hR⟩
theorem nwrite_ok (x:HSt h q s) {r:Nat} (hr:r < 18446744073709551616) (nb:NoBlob s r) {p:Int} {a:Sl} (hR:R (.tuple #[uv 0,.int .i64 40]) h):CallTo Tryz.prog 47 #[.pointer (some (ad q.hb)),uv r,.int .i64 p,.slice a.a a.n a.c] h R:=by
 refine f47F_ok ?_
 unfold f47F
 exact nlen_ok x hr nb ⟨_,_,rfl,Cond_t rfl hR⟩
theorem ncompare_ok (x:HSt h q s) {r:Nat} (hr:r < 18446744073709551616) (nb:NoBlob s r) {a:Sl} (hR:R (.tuple #[.int .i64 0,.int .i64 40]) h):CallTo Tryz.prog 57 #[.pointer (some (ad q.hb)),uv r,.slice a.a a.n a.c] h R:=by
 refine f57F_ok ?_
 unfold f57F
 exact nread_ok x hr nb ⟨⟨none,0,0⟩,_,rfl,Cond_t rfl hR⟩
theorem ncount_ok (x:HSt h q s) {r:Nat} (hr:r < 18446744073709551616) (nb:NoBlob s r) {f n:Int} (hR:R (.tuple #[.int .i64 0,.int .i64 40]) h):CallTo Tryz.prog 61 #[.pointer (some (ad q.hb)),uv r,.int .i64 f,.int .i64 n] h R:=by
 refine f61F_ok ?_
 unfold f61F
 exact nslice_ok x hr nb ⟨⟨none,0,0⟩,_,rfl,Cond_t rfl hR⟩
theorem none_ok (x:HSt h q s) {r:Nat} (hr:r < 18446744073709551616) (nb:NoBlob s r) (hR:∀ h',Kept N h h'→R (.bool true) h'):CallTo Tryz.prog 23 #[.pointer (some (ad q.hb)),uv r] h R:=by
 refine f23F_ok ?_
 unfold f23F
 refine nlen_ok x hr nb ⟨_,_,rfl,nread_ok x hr nb ⟨⟨none,0,0⟩,_,rfl,nslice_ok x hr nb ⟨⟨none,0,0⟩,_,rfl,Let_mk fun h1 e1=>PtrOk_mk (Let_mk fun h2 e2=>?_)⟩⟩⟩
 obtain ⟨k2,_,_⟩:=mk_made (l:=[120]) rfl e1 e2
 have x2:=x.keepN k2
 refine nwrite_ok (a:=⟨some (ad h.size),1,1⟩) x2 hr nb ⟨0,_,rfl,ncompare_ok (a:=⟨none,0,0⟩) x2 hr nb ⟨_,_,rfl,ncount_ok x2 hr nb ⟨_,_,rfl,?_⟩⟩⟩
 refine Cond_f rfl (Cond_f rfl (Cond_f rfl (Cond_f rfl (Cond_f rfl ?_))))
 unfold f23K1
 exact Cond_f rfl (num_ok ⟨_,rfl,Cond_t rfl (num_ok ⟨_,rfl,Cond_t rfl (num_ok ⟨_,rfl,Cond_t rfl (num_ok ⟨_,rfl,Cond_t rfl (num_ok ⟨_,rfl,Cond_t rfl (num_ok ⟨_,rfl,hR h2 k2⟩)⟩)⟩)⟩)⟩)⟩)
end
/-- What is known between the steps. -/
structure Stg (h:Hp) (sb:Nat) (P:Nat→HM) (hh:Nat→List Nat) (nds:Nat→List NodeD) (idss:Nat→List Nat) (d:BkD) (L:LtD) (mark:Bool):Prop where
 m:StM h sb P hh d L mark
 ks:∀ k,k < 2→KS (P k).s (nds k) (hh k) (P k).W.lim (P k).W.bs (P k).W.slots (idss k)
 nz:∀ k,k < 2→(nds k).length ≠ 0
section
variable {h h' h2:Hp} {sb:Nat} {P P':Nat→HM} {hh hh':Nat→List Nat} {nds nds':Nat→List NodeD} {idss idss':Nat→List Nat} {d d':BkD} {L L':LtD} {mark:Bool} {F F' F2:Nat→Prop} {R:Value→Hp→Prop}
theorem Stg.keepN (x:Stg h sb P hh nds idss d L mark) (k:Kept N h h'):Stg h' sb P hh nds idss d L mark:=⟨x.m.keepN k,x.ks,x.nz⟩
/-- A slot's number on both sides. -/
theorem Stg.slot (x:Stg h sb P hh nds idss d L mark) {k i:Nat} (hk:k < 2) (hi:i < 8):∃ n m,(hh k)[i]?=some n∧(P k).W.slots[i]?=some m∧(n=0 ↔ m=0):=by
 have ks:=x.ks k hk
 obtain ⟨n,hn⟩:∃ n,(hh k)[i]?=some n:=⟨_,List.getElem?_eq_getElem (by rw [ks.h8]; exact hi)⟩
 obtain ⟨m,hm⟩:∃ m,(P k).W.slots[i]?=some m:=⟨_,List.getElem?_eq_getElem (by rw [ks.s8]; exact hi)⟩
 exact ⟨n,m,hn,hm,ks.zr i n m hn hm⟩
theorem bnd2 {k:Nat} (hk:k < 2):(0:Int) ≤ ((k:Nat):Int)∧((k:Nat):Int) < ((2:Nat):Int):=⟨by omega,by omega⟩
theorem bnd8 {k:Nat} (hk:k < 8):(0:Int) ≤ ((k:Nat):Int)∧((k:Nat):Int) < ((8:Nat):Int):=⟨by omega,by omega⟩
/-- Where a slot's blob lies now. -/
theorem sref_ok (x:StM h sb P hh d L mark) {k i n:Nat} (hk:k < 2) (hn:(hh k)[i]?=some n) (hR:R (uv (if n=0 then 0 else ((P k).s.atF (n:Nat)).1)) h):CallTo Tryz.prog 32 #[.pointer (some (ad sb)),.int .i64 (k:Nat),.int .i64 (i:Nat)] h R:=by
 have hi:i < 8:=by have:=(List.getElem?_eq_some_iff.1 hn).1; rw [x.h8 k hk] at this; exact this
 refine f32F_ok ?_
 unfold f32F
 simp only [Int.toNat_natCast]
 refine PtrOk_mk ⟨bnd2 hk,bnd8 hi,_,x.cN hk hn,Cond_b (fun e=>?_) fun e=>?_⟩
 ·have e:n=0:=by simpa using e
  rw [if_pos e] at hR
  exact hR
 ·have e:n ≠ 0:=fun z=>by rw [z] at e; simp at e
  rw [if_neg e] at hR
  exact PtrOk_mk ⟨bnd2 hk,_,x.cH hk,PtrOk_mk ⟨bnd2 hk,bnd8 hi,_,x.cN hk hn,_,_,c_at (x.m k hk).st ⟨rfl,rfl⟩,hR⟩⟩
/-- The slot holds that ref. -/
theorem shold_ok (x:StM h sb P hh d L mark) {k j m id:Nat} (hk:k < 2) (hj:j < 8) {slots0:List Nat} (ko:∀ i,i < 2→i ≠ k→KS (P i).s (nds i) (hh i) (P i).W.lim (P i).W.bs (P i).W.slots (idss i)) (nz:∀ k,k < 2→(nds k).length ≠ 0)
  (kk:KS (P k).s (nds k) (hh k) (P k).W.lim (P k).W.bs slots0 (idss k)) (hs:(P k).W.slots=slots0.set j (m + 1)) {b:List Nat} (hx:(idss k)[m]?=some id) (hb:(P k).W.bs[m]?=some b) (hn:(nds k)[id]?=some (blobN b)) (hhr:(P k).s.here id) (rl:(P k).s.roots.length < 99999999)
  (hR:∀ h' P' hh',Stg h' sb P' hh' nds idss d L mark→(∀ i,(P' i).W=(P i).W)→(∀ i,i < 2→(P' i).s.roots.length ≤ (P i).s.roots.length + 1)→TS h (SF sb P d L) h' (SF sb P' d L)→R (.bool true) h') :
  CallTo Tryz.prog 45 #[.pointer (some (ad sb)),.int .i64 (k:Nat),.int .i64 (j:Nat),uv ((P k).s.ref id)] h R:=by
 have hrl:=RS.ref_lt kk.v (.inr hhr)
 have hml:=(List.getElem?_eq_some_iff.1 hb).1
 obtain ⟨n,hnn⟩:∃ n,(hh k)[j]?=some n:=⟨_,List.getElem?_eq_getElem (by rw [x.h8 k hk]; exact hj)⟩
 refine f45F_ok ?_
 unfold f45F
 simp only [Int.toNat_natCast]
 have fin:∀ {q':HQ} {R1:List (Option Nat)} {hd':List Nat},KS ((P k).s.withRoots R1) (nds k) hd' (P k).W.lim (P k).W.bs (slots0.set j (m + 1)) (idss k)→∀ i,i < 2→KS (updP P k ⟨q',(P k).s.withRoots R1,(P k).W⟩ i).s (nds i) (updL hh k hd' i) (updP P k ⟨q',(P k).s.withRoots R1,(P k).W⟩ i).W.lim (updP P k ⟨q',(P k).s.withRoots R1,(P k).W⟩ i).W.bs (updP P k ⟨q',(P k).s.withRoots R1,(P k).W⟩ i).W.slots (idss i):=fun {q' R1 hd'} z i hi=>by
  by_cases e:i=k
  ·subst e
   rw [updP_self,updL_self]
   show KS _ _ _ _ _ (P i).W.slots _
   rw [hs]
   exact z
  ·rw [updP_ne _ _ e,updL_ne _ _ e]
   exact ko i hi e
 have sameW:∀ {q':HQ} {s':RS} i,(updP P k ⟨q',s',(P k).W⟩ i).W=(P i).W:=fun {q' s'} i=>by
  by_cases e:i=k
  ·subst e; rw [updP_self]
  ·rw [updP_ne _ _ e]
 have rls:∀ {q':HQ} {R1:List (Option Nat)},R1.length ≤ (P k).s.roots.length + 1→∀ i,i < 2→(updP P k ⟨q',(P k).s.withRoots R1,(P k).W⟩ i).s.roots.length ≤ (P i).s.roots.length + 1:=fun {q' R1} z i hi=>by
  by_cases e:i=k
  ·subst e; rw [updP_self]; exact z
  ·rw [updP_ne _ _ e]; omega
 refine PtrOk_mk ⟨bnd2 hk,bnd8 hj,_,x.cN hk hnn,Cond_b (fun h0=>?_) fun h0=>?_⟩
 ·have hn0:n ≠ 0:=fun e=>by rw [e] at h0; simp at h0
  obtain ⟨R1,eP,lP,kP⟩:=kk.put hnn hn0 hx hml hb hn hhr
  refine PtrOk_mk ⟨bnd2 hk,_,x.cH hk,PtrOk_mk ⟨bnd2 hk,bnd8 hj,_,x.cN hk hnn,c_put (x.m k hk).st hrl fun h1 q' x1 ex1=>⟨_,rfl,num_ok ⟨_,rfl,?_⟩⟩⟩⟩
  rw [eP] at x1 ⊢
  obtain ⟨y,t⟩:=x.heap hk x1 ex1
  refine hR h1 _ hh ⟨y,fun i hi=>?_,nz⟩ sameW (rls (by omega)) t
  have z:=fin (q':=q') (hd':=hh k) kP i hi
  have el:updL hh k (hh k) i=hh i:=by
   by_cases e:i=k
   ·subst e; rw [updL_self]
   ·rw [updL_ne _ _ e]
  rw [el] at z
  exact z
 ·have hn0:n=0:=by simpa using h0
  subst hn0
  obtain ⟨R1,n',eP,lP,n0,kP⟩:=kk.root hnn hx hb hn hhr (by omega)
  refine PtrOk_mk ⟨bnd2 hk,_,x.cH hk,c_root (x.m k hk).st (by omega) hrl fun h1 q' x1 ex1=>⟨_,_,rfl,?_⟩⟩
  rw [eP] at x1 ⊢
  obtain ⟨y,t⟩:=x.heap hk x1 ex1
  refine PtrOk_mk ⟨bnd2 hk,bnd8 hj,y.setN hk hj n' fun h2 y2 t2=>num_ok ⟨_,rfl,?_⟩⟩
  exact hR h2 _ _ ⟨y2,fin kP,nz⟩ sameW (rls lP) (t.trans t2)
end
end Go.Ev
