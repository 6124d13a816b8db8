/- The arena's calls that make room: New, Clear, Alloc, Image, Take / The arena's bytes: span, Bytes, SetBytes / Bytes in words: a blob's words, and what writing does to them / Slices whose head moves within their block (l = l[1:]). No condition but that these are ones. -/
import Derived.Test.YtdkopnbjommjdaaGreatQ5
set_option linter.all false
set_option maxRecDepth 100000
namespace Go.Ev
open Go.Proofs
section
variable {h h':Hp} {L:ArLoc} {sz:Nat} {os:List AObj} {wc fc:Nat} {fs:List Nat}
def newO (k r w:Nat):AObj:=⟨k,List.replicate r 0,List.replicate w 0,none⟩
theorem newO_size (k r w:Nat):(newO k r w).size=1 + r + w:=by rw [AObj.size_eq]; simp [newO]
theorem newO_enc (k r w:Nat):(newO k r w).enc=hdw k r w :: List.replicate (r + w) 0:=by
 unfold AObj.enc AObj.head AObj.flds newO
 simp
theorem newO_ok {k r w:Nat} (h1:1 ≤ k) (h2:k ≤ 255) (h3:r ≤ 1048576) (h4:w ≤ 1048576):(newO k r w).Ok :=
 ⟨h1,h2,by simpa [newO] using h3,by simpa [newO] using h4,by intro x hx; unfold AObj.flds newO at hx; simp at hx; omega,nofun⟩
def Shape (k r w:Int):Prop:=(1 ≤ k∧k ≤ 255)∧(0 ≤ r∧r ≤ 1048576)∧(0 ≤ w∧w ≤ 1048576)
theorem aalloc_ok (r:ArR h L sz os wc fc fs) {k rf w:Int} {R:Value→Hp→Prop} (hbad:¬ Shape k rf w→R (.tuple #[.int .i64 0,.int .i64 21]) h)
  (hfull:Shape k rf w→(sz:Int) < used os + 1 + rf + w→R (.tuple #[.int .i64 0,.int .i64 22]) h)
  (hgood:∀ h' L',Shape k rf w→(used os:Int) + 1 + rf + w ≤ sz→Ar h' L' sz (os ++ [newO k.toNat rf.toNat w.toNat])→Grown h L L' h'→R (.tuple #[.int .i64 (used os:Nat),.int .i64 0]) h') :
  CallTo Tryz.prog 66 #[.pointer (some (ad L.pb)),.int .i64 k,.int .i64 rf,.int .i64 w] h R:=by
 refine f66F_ok ?_
 unfold f66F
 have hs:=r.s
 have hu:=r.u
 refine head_ok ?_
 split
 ·rename_i hsh
  obtain ⟨⟨k1,k2⟩,⟨r1,r2⟩,⟨w1,w2⟩⟩:=hsh
  refine ⟨_,_,rfl,Cond_f rfl (PtrOk_mk ⟨_,r.c0,PtrOk_mk ⟨⟨some (ad L.wb),used os,wc⟩,r.c1,?_⟩⟩)⟩
  have e1:IntKind.wrap .i64 (1 + rf)=1 + rf:=wrap_ar (by omega) (by omega)
  have e2:IntKind.wrap .i64 (1 + rf + w)=1 + rf + w:=wrap_ar (by omega) (by omega)
  have e3:IntKind.wrap .i64 ((sz:Int) - ((used os:Nat):Int))=(sz:Int) - ((used os:Nat):Int):=wrap_ar (by omega) (by omega)
  simp only [e1,e2,e3]
  refine Cond_dec (fun hgt=>hfull ⟨⟨k1,k2⟩,⟨r1,r2⟩,⟨w1,w2⟩⟩ (by omega)) fun hle=>?_
  obtain ⟨k,rfl⟩:=Int.eq_ofNat_of_zero_le (show 0 ≤ k by omega)
  obtain ⟨rf,rfl⟩:=Int.eq_ofNat_of_zero_le r1
  obtain ⟨w,rfl⟩:=Int.eq_ofNat_of_zero_le w1
  simp only [Int.toNat_natCast] at hgood ⊢
  have en:(1:Int) + (rf:Int) + (w:Int)=((1 + rf + w:Nat):Int):=by omega
  rw [en]
  refine extend_ok r (newO k rf w) (newO_ok (by omega) (by omega) (by omega) (by omega)) (n:=1 + rf + w) (by rw [newO_enc,show 1 + rf + w - 1=rf + w by omega]) (newO_size k rf w).symm (by rw [newO_size]; omega) fun h' L' ha hg=>?_
  exact ⟨_,rfl,hgood h' L' ⟨⟨k1,k2⟩,⟨r1,r2⟩,⟨w1,w2⟩⟩ (by omega) ha hg⟩
 ·rename_i hsh
  exact ⟨_,_,rfl,Cond_t rfl (hbad hsh)⟩
theorem ar_new {sz:Nat} (h1:1 ≤ sz) (h2:sz ≤ 1048576) {h:Hp} {pb wb fb:Nat} (hp:Row h pb [.int .i64 sz,.slice (some (ad wb)) 1 1,.slice (some (ad fb)) 1 1]) (hw:Row h wb [uv 0]) (hf:Row h fb [uv 0])
  (d1:pb ≠ wb) (d2:pb ≠ fb) (d3:wb ≠ fb):Ar h ⟨pb,wb,fb⟩ sz [] :=
 ⟨1,1,[0],hp,⟨rfl,nofun,fun b e=>by obtain rfl:=Option.some.inj e; exact ⟨rfl,Nat.le_refl _,[],hw,rfl⟩⟩,⟨rfl,nofun,fun b e=>by obtain rfl:=Option.some.inj e; exact ⟨rfl,Nat.le_refl _,[],hf,rfl⟩⟩,
  firstOk_nil,nofun,h1,h2,by decide,d1,d2,d3⟩
theorem zrow1:zrow #[.int .u64 0] ((1:Int).toNat * 1)=#[uv 0]:=by
 show zrow #[.int .u64 0] (1 * 1)=_
 rw [zrow_one]; rfl
theorem anew_ok {sz:Int} {R:Value→Hp→Prop} (hbad:¬ (1 ≤ sz∧sz ≤ 1048576)→R (.tuple #[.pointer none,.int .i64 20]) h)
  (hgood:∀ L h',1 ≤ sz∧sz ≤ 1048576→Ar h' L sz.toNat []→(∀ b,L.fp b→h.size ≤ b)→Kept N h h'→R (.tuple #[.pointer (some (ad L.pb)),.int .i64 0]) h'):CallTo Tryz.prog 39 #[.int .i64 sz] h R:=by
 refine f39F_ok ?_
 unfold f39F
 refine Cond_dec (fun c=>?_) fun c1=>?_
 ·unfold f39K1; exact hbad (by omega)
 unfold f39K1
 refine Cond_dec (fun c=>hbad (by omega)) fun c2=>?_
 obtain ⟨n,rfl⟩:=Int.eq_ofNat_of_zero_le (show 0 ≤ sz by omega)
 simp only [zrow1]
 have kp:∀ h1 h2 h3:Hp,∀ o1 o2 o3,h1=h.push o1→h2=h1.push o2→h3=h2.push o3→Kept N h h3:=fun h1 h2 h3 o1 o2 o3 e1 e2 e3=>by
  subst e1 e2 e3
  exact ((kept_push _ _ _).trans (kept_push _ _ _)).trans (kept_push _ _ _)
 refine ⟨⟨by omega,by omega,by omega,Let_mk fun h1 e1=>⟨by omega,by omega,by omega,Let_mk fun h2 e2=>Let_mk fun h3 e3=>?_⟩⟩,⟨by omega,by omega,by omega,Let_mk fun h1 e1=>⟨by omega,by omega,by omega,Let_mk fun h2 e2=>Let_mk fun h3 e3=>?_⟩⟩⟩
 ·have z1:h1.size=h.size + 1:=by rw [e1]; simp
  have z2:h2.size=h1.size + 1:=by rw [e2]; simp
  have r1:Row h3 h.size [uv 0]:=by rw [e3]; exact row_push (by rw [e2]; exact row_push (by rw [e1]; exact row_new h #[uv 0] 77) _) _
  have r2:Row h3 h1.size [uv 0]:=by rw [e3]; exact row_push (by rw [e2]; exact row_new h1 #[uv 0] 77) _
  have r3:Row h3 h2.size [.int .i64 (n:Int),.slice (some (ad h.size)) 1 1,.slice (some (ad h1.size)) 1 1]:=by rw [e3]; exact row_new h2 _ 129
  refine hgood ⟨h2.size,h.size,h1.size⟩ h3 (by omega) (by rw [Int.toNat_natCast]; exact ar_new (by omega) (by omega) r3 r1 r2 (by omega) (by omega) (by omega)) ?_ (kp _ _ _ _ _ _ e1 e2 e3)
  rintro b (e | e | e) <;> (subst e; simp only; omega)
 ·have z1:h1.size=h.size + 1:=by rw [e1]; simp
  have z2:h2.size=h1.size + 1:=by rw [e2]; simp
  have r1:Row h3 h.size [uv 0]:=by rw [e3]; exact row_push (by rw [e2]; exact row_push (by rw [e1]; exact row_new h #[uv 0] 77) _) _
  have r2:Row h3 h1.size [uv 0]:=by rw [e3]; exact row_push (by rw [e2]; exact row_new h1 #[uv 0] 77) _
  have r3:Row h3 h2.size [.int .i64 (n:Int),.slice (some (ad h1.size)) 1 1,.slice (some (ad h.size)) 1 1]:=by rw [e3]; exact row_new h2 _ 129
  refine hgood ⟨h2.size,h1.size,h.size⟩ h3 (by omega) (by rw [Int.toNat_natCast]; exact ar_new (by omega) (by omega) r3 r2 r1 (by omega) (by omega) (by omega)) ?_ (kp _ _ _ _ _ _ e1 e2 e3)
  rintro b (e | e | e) <;> (subst e; simp only; omega)
theorem aclear_ok (r:ArR h L sz os wc fc fs) {R:Value→Hp→Prop} (hR:∀ h' L',Ar h' L' sz []→Grown h L L' h'→R (.tuple #[]) h'):CallTo Tryz.prog 67 #[.pointer (some (ad L.pb))] h R:=by
 refine f67F_ok ?_
 unfold f67F
 simp only [zrow1]
 have hu:=r.u
 have hu1:=used_pos os
 have hp:=r.lt _ (.inl rfl)
 refine ⟨by omega,by omega,by omega,Let_mk fun h1 e1=>PtrOk_mk ?_⟩
 have x1:(ad L.pb).add 1=⟨L.pb,1,none⟩:=add_ad _ _
 have x2:(ad L.pb).add 2=⟨L.pb,2,none⟩:=add_ad _ _
 simp only [x1]
 have z1:h1.size=h.size + 1:=by rw [e1]; simp
 have p1:=row_push r.row (.cells #[uv 0] 77)
 rw [← e1] at p1
 have w1:Row h1 h.size [uv 0]:=by rw [e1]; exact row_new h #[uv 0] 77
 refine ⟨stOk_row p1 (by simp),Let_mk fun h2 e2=>⟨by omega,by omega,by omega,Let_mk fun h3 e3=>PtrOk_mk ?_⟩⟩
 have p2:=row_setc p1 1 (.slice (some (nb h)) ((1:Int).toNat) ((1:Int).toNat))
 rw [← e2] at p2
 have w2:Row h2 h.size [uv 0]:=by rw [e2]; exact row_setc_ne w1 _ (by show h.size ≠ L.pb; omega)
 have z2:h2.size=h1.size:=by rw [e2]; exact size_setc _ _ _
 have p3:=row_push p2 (.cells #[uv 0] 77)
 rw [← e3] at p3
 have w3:Row h3 h.size [uv 0]:=by rw [e3]; exact row_push w2 _
 have f3:Row h3 h2.size [uv 0]:=by rw [e3]; exact row_new h2 #[uv 0] 77
 simp only [x2]
 refine ⟨stOk_row p3 (by simp),Let_mk fun h4 e4=>?_⟩
 have p4:=row_setc p3 2 (.slice (some (nb h2)) ((1:Int).toNat) ((1:Int).toNat))
 rw [← e4] at p4
 have w4:Row h4 h.size [uv 0]:=by rw [e4]; exact row_setc_ne w3 _ (by show h.size ≠ L.pb; omega)
 have f4:Row h4 h2.size [uv 0]:=by rw [e4]; exact row_setc_ne f3 _ (by show h2.size ≠ L.pb; omega)
 refine hR h4 ⟨L.pb,h.size,h2.size⟩ (ar_new (by omega) r.s p4 w4 f4 (by omega) (by omega) (by omega)) ⟨rfl,?_,?_⟩
 ·rintro b (rfl | rfl | rfl)
  ·exact .inl (.inl rfl)
  ·exact .inr (Nat.le_refl _)
  ·exact .inr (by show h.size ≤ h2.size; omega)
 ·have k1:Kept L.fp h h1:=by rw [e1]; exact kept_push _ _ _
  have k2:Kept L.fp h1 h2:=by rw [e2]; exact kept_setc h1 1 _ (.inl rfl)
  have k3:Kept L.fp h2 h3:=by rw [e3]; exact kept_push _ _ _
  have k4:Kept L.fp h3 h4:=by rw [e4]; exact kept_setc h3 2 _ (.inl rfl)
  exact ((k1.trans k2).trans k3).trans k4
/-! ### Take -/
theorem ovw_app {vs junk l:List Value} {o:Nat} (h:o + l.length ≤ vs.length):ovw (vs ++ junk) o l=ovw vs o l ++ junk:=by
 unfold ovw
 rw [List.take_append_of_le_length (by omega),List.drop_append_of_le_length h,List.append_assoc,List.append_assoc,List.append_assoc]
theorem slat_ovw {sz:Nat} {h h':Hp} {a:Option Addr} {n c b:Nat} {vs junk l:List Value} {o:Nat} (s:SlAt sz h a n c (some b) vs) (hl:o + l.length ≤ vs.length) (hj:vs.length + junk.length=c * sz)
  (hr:Row h' b (ovw (vs ++ junk) o l)):SlAt sz h' a n c (some b) (ovw vs o l):=by
 obtain ⟨h1,h2,_,_,_⟩:=s.row b rfl
 refine ⟨by rw [ovw_len hl]; exact s.len,nofun,fun b' e=>?_⟩
 obtain rfl:=Option.some.inj e
 exact ⟨h1,h2,junk,by rw [← ovw_app hl]; exact hr,by rw [ovw_len hl]; exact hj⟩
def ovwN (ws:List Nat) (p:Nat) (ns:List Nat):List Nat:=ws.take p ++ ns ++ ws.drop (p + ns.length)
theorem ovwN_map (ws:List Nat) (p:Nat) (ns:List Nat):(ovwN ws p ns).map uv=ovw (ws.map uv) p (ns.map uv):=by
 unfold ovwN ovw
 rw [List.map_append,List.map_append,List.map_take,List.map_drop,List.length_map]
theorem ovwN_len {ws ns:List Nat} {p:Nat} (h:p + ns.length ≤ ws.length):(ovwN ws p ns).length=ws.length:=by unfold ovwN; simp; omega
theorem uv_cells (ns:List Nat):∀ v ∈ ns.map uv,isCell v=true:=by intro v hv; obtain ⟨n,_,rfl⟩:=List.mem_map.1 hv; rfl
theorem Raw.setWs {ws:List Nat} (r:Raw h L sz ws wc fs fc) {p:Nat} {ns:List Nat} (hp:p + ns.length ≤ ws.length) :
  stsOk h ⟨L.wb,p,none⟩ (ns.map uv) 0∧Raw (setcs h ⟨L.wb,p,none⟩ (ns.map uv) 0) L sz (ovwN ws p ns) wc fs fc∧Grown h L L (setcs h ⟨L.wb,p,none⟩ (ns.map uv) 0):=by
 obtain ⟨h1,h2,junk,hr,hj⟩:=r.ws.row _ rfl
 have hfit:p + 0 + (ns.map uv).length ≤ (ws.map uv ++ junk).length:=by simp; omega
 have hrow:=row_setcs (ns.map uv) h _ p 0 hr hfit
 rw [Nat.add_zero] at hrow
 refine ⟨stsOk_row _ h _ p 0 hr hfit (uv_cells ns),⟨?_,?_,?_,r.d1,r.d2,r.d3⟩,⟨rfl,fun _=>.inl,kept_setcs h p 0 _ (.inr (.inl rfl))⟩⟩
 ·rw [ovwN_len hp]; exact row_keep r.row (setcs_ne _ h p 0 r.d1)
 ·rw [ovwN_len hp,ovwN_map]
  exact slat_ovw r.ws (by simp; omega) hj hrow
 ·exact r.fsl.keep fun b e=>by obtain rfl:=Option.some.inj e; exact setcs_ne _ h p 0 (Ne.symm r.d3)
theorem modify_last {α:Type} (x:α) (f:α→α):∀ l:List α,(l ++ [x]).modify l.length f=l ++ [f x]
 | []=>rfl
 | a :: l=>by
  show (a :: (l ++ [x])).modify (l.length + 1) f=_
  rw [List.modify_succ_cons,modify_last x f l]
  rfl
def Grown2 (h:Hp) (Ls Ld Ld':ArLoc) (h':Hp):Prop:=Ld'.pb=Ld.pb∧(∀ b,Ld'.fp b→Ld.fp b ∨ h.size ≤ b)∧Kept (fun b=>Ls.fp b ∨ Ld.fp b) h h'
theorem fwd_ok {o:AObj} (ho:o.Ok) {t:Nat} (ht:t < 9223372036854775808):({ o with fwd:=some t }:AObj).Ok :=
 ⟨ho.k1,ho.k2,ho.nr,ho.nw,ho.fl,fun t' e=>by obtain rfl:=Option.some.inj e; exact ht⟩
theorem take_moved {Ls Ld:ArLoc} {szs:Nat} {oss:List AObj} {wcs fcs:Nat} {fss:List Nat} (rs:ArR h Ls szs oss wcs fcs fss) {i:Nat} {o:AObj} (ho:oss[i]?=some o) {t:Nat} (hf:o.fwd=some t)
  {R:Value→Hp→Prop} (hR:R (.tuple #[.int .i64 (t:Int),.int .i64 0]) h):CallTo Tryz.prog 102 #[.pointer (some (ad Ld.pb)),.pointer (some (ad Ls.pb)),.int .i64 (pos oss i:Int)] h R:=by
 refine f102F_ok ?_
 unfold f102F
 have hm:movedV oss (pos oss i:Int)=.tuple #[.int .i64 (t:Int),.bool true,.int .i64 0]:=by
  unfold movedV
  rw [idxI_nat,idx_pos (List.getElem?_eq_some_iff.1 ho).1]
  simp only [Option.bind_some,ho,hf]
 refine moved_ok rs ?_
 rw [hm]
 exact ⟨_,_,_,rfl,Cond_f rfl (by unfold f102K1; exact hR)⟩
theorem take_ok {Ls Ld:ArLoc} {szs:Nat} {oss:List AObj} {wcs fcs:Nat} {fss:List Nat} {szd:Nat} {osd:List AObj} {wcd fcd:Nat} {fsd:List Nat} (rs:ArR h Ls szs oss wcs fcs fss) (rd:ArR h Ld szd osd wcd fcd fsd)
  (hdis:∀ b,Ls.fp b→¬ Ld.fp b) {i:Nat} {o:AObj} (ho:oss[i]?=some o) (hf:o.fwd=none) (hfit:used osd + o.size ≤ szd)
  {R:Value→Hp→Prop} (hR:∀ h' Ld',Ar h' Ls szs (oss.modify i fun o=>{ o with fwd:=some (used osd) })→Ar h' Ld' szd (osd ++ [o])→Grown2 h Ls Ld Ld' h'→R (.tuple #[.int .i64 (used osd:Nat),.int .i64 0]) h') :
  CallTo Tryz.prog 102 #[.pointer (some (ad Ld.pb)),.pointer (some (ad Ls.pb)),.int .i64 (pos oss i:Int)] h R:=by
 refine f102F_ok ?_
 unfold f102F
 have hil:=(List.getElem?_eq_some_iff.1 ho).1
 have hoo:=rs.ok o (List.mem_of_getElem? ho)
 have hm:movedV oss (pos oss i:Int)=.tuple #[.int .i64 0,.bool false,.int .i64 0]:=by
  unfold movedV
  rw [idxI_nat,idx_pos hil]
  simp only [Option.bind_some,ho,hf]
 refine moved_ok rs ?_
 rw [hm]
 refine ⟨_,_,_,rfl,Cond_f rfl ?_⟩
 unfold f102K1
 refine Cond_f rfl ?_
 refine fields_ok rs (fun he=>?_) fun i' o' a he hi' ho' hf' ha hp=>?_
 ·exfalso
  apply he
  unfold objE
  rw [idxI_nat,idx_pos hil]
  simp only [Option.bind_some,ho,hf]
  rfl
 rw [idxI_nat,idx_pos hil] at hi'
 obtain rfl:=Option.some.inj hi'
 rw [ho] at ho'
 obtain rfl:=Option.some.inj ho'
 have hsd:=rd.s
 have hss:=rs.s
 have hus:=rs.u
 have hps:=pos_size_le ho
 have hpl:=pos_lt_used hil
 have hsz:o.size=1 + o.flds.length:=rfl
 have e1:IntKind.wrap .i64 ((1:Int) + ((o.flds.length:Nat):Int))=((o.size:Nat):Int):=by rw [wrap_ar (by omega) (by omega)]; omega
 have e2:IntKind.wrap .i64 ((szd:Int) - ((used osd:Nat):Int))=(szd:Int) - ((used osd:Nat):Int):=wrap_ar (by omega) (by omega)
 refine ⟨⟨a,o.flds.length,o.flds.length⟩,_,_,rfl,Cond_f rfl (PtrOk_mk ⟨_,rd.c0,PtrOk_mk ⟨⟨some (ad Ld.wb),used osd,wcd⟩,rd.c1,?_⟩⟩)⟩
 simp only [e1,e2]
 refine Cond_dec (fun hgt=>by omega) fun _=>?_
 have hw:cell h ((ad Ls.wb).add ((pos oss i:Int).toNat * 1))=some (.int .u64 (o.head:Int)):=by
  rw [Int.toNat_natCast]; exact rs.word (word_head ho)
 refine PtrOk_mk ⟨⟨some (ad Ls.wb),used oss,wcs⟩,rs.c1,rs.at_ok ho,PtrOk_mk ⟨_,hw,?_⟩⟩
 obtain ⟨hh,hhl⟩:=AObj.head_plain hoo hf
 have hen:o.flds.length=o.refs.length + o.raws.length:=by unfold AObj.flds; simp
 refine extend_ok rd (newO o.kind o.refs.length o.raws.length) (newO_ok hoo.k1 hoo.k2 hoo.nr hoo.nw) (n:=o.size) (by rw [newO_enc,hh,hsz,show 1 + o.flds.length - 1=o.refs.length + o.raws.length by omega]) (by rw [newO_size,hsz]; omega)
  (by rw [newO_size]; omega) fun h3 L3 ha3 g3=>⟨_,rfl,?_⟩
 obtain ⟨wc3,fc3,fs3,r3⟩:=ha3
 have rs3:ArR h3 Ls szs oss wcs fcs fss:=rs.keep g3.kept hdis
 have hu3:used (osd ++ [newO o.kind o.refs.length o.raws.length])=used osd + o.size:=by rw [used_snoc,newO_size]; omega
 have c13:=r3.c1
 rw [g3.pb,hu3] at c13
 have e3:IntKind.wrap .i64 (((used osd:Nat):Int) + 1)=((used osd + 1:Nat):Int):=by rw [wrap_ar (by omega) (by omega)]; omega
 have e4:IntKind.wrap .i64 ((pos oss i:Int) + ((o.size:Nat):Int))=((pos oss i + o.size:Nat):Int):=by rw [wrap_ar (by omega) (by omega)]; omega
 have e5:IntKind.wrap .i64 ((pos oss i:Int) + 1)=((pos oss i + 1:Nat):Int):=by rw [wrap_ar (by omega) (by omega)]; omega
 have hcap:=(rs3.ws.row _ rfl).2.1
 refine PtrOk_mk ⟨⟨some (ad L3.wb),used osd + o.size,wc3⟩,c13,?_⟩
 simp only [e3,e4,e5,Int.toNat_natCast]
 refine ⟨⟨by omega,by omega⟩,PtrOk_mk ⟨⟨some (ad Ls.wb),used oss,wcs⟩,rs3.c1,?_⟩⟩
 refine ⟨⟨by omega,?_⟩,⟨by omega,by omega⟩,?_⟩
 ·show ((pos oss i + o.size:Nat):Int) ≤ ((wcs:Nat):Int); omega
 have emin:min (pos oss i + o.size - (pos oss i + 1)) (used osd + o.size - (used osd + 1))=o.flds.length:=by omega
 obtain ⟨_,_,junk,hrow,_⟩:=rs3.ws.row _ rfl
 refine ⟨o.flds.map uv,?_,by rw [emin,List.length_map,Nat.mul_one],?_⟩
 ·by_cases h0:o.flds.length=0
  ·rw [List.length_eq_zero_iff.1 h0]
   split
   ·intro j v hj; simp at hj
   ·intro j v hj; simp at hj
  ·have hne:¬ wcs=pos oss i + 1:=by omega
   rw [if_neg hne]
   show Reads h3 ((ad Ls.wb).add ((pos oss i + 1) * 1)) _
   rw [add_ad,Nat.mul_one]
   refine reads_row hrow fun j v hj=>?_
   rw [List.getElem?_map] at hj
   have hj1:j < o.flds.length:=by
    rcases Nat.lt_or_ge j o.flds.length with h | h
    ·exact h
    ·rw [List.getElem?_eq_none h] at hj; cases hj
   rw [List.getElem?_append_left (by rw [List.length_map]; show _ < used oss; omega),List.getElem?_map,word_fld ho hj1]
   exact hj
 -- behind the copy: the object, whole
 have key:∀ h4,Raw h4 L3 szd (ovwN (wordsOf (osd ++ [newO o.kind o.refs.length o.raws.length])) (used osd + 1) o.flds) wc3 fs3 fc3→Grown h3 L3 L3 h4 →
   PtrOk (some (ad Ls.pb)) fun p82=>∃ t84:Sl,cell h4 (p82.add 1)=some (.slice t84.a t84.n t84.c)∧(0 ≤ (pos oss i:Int)∧(pos oss i:Int) < ((t84.n:Nat):Int))∧PtrOk t84.a fun p89=>stOk h4 (p89.add ((pos oss i:Int).toNat * 1)) ∧
    Let (setc h4 (p89.add ((pos oss i:Int).toNat * 1)) (.int .u64 (orI .u64 (9223372036854775808:Int) (IntKind.wrap .u64 ((used osd:Nat):Int))))) fun h5=>R (.tuple #[.int .i64 ((used osd:Nat):Int),.int .i64 0]:Value) h5:=by
  intro h4 r4 g4
  have hws:ovwN (wordsOf (osd ++ [newO o.kind o.refs.length o.raws.length])) (used osd + 1) o.flds=wordsOf (osd ++ [o]):=by
   rw [wordsOf_snoc,wordsOf_snoc,newO_enc]
   have hl:(wordsOf osd).length=used osd:=rfl
   unfold ovwN
   have d1:(wordsOf osd).drop (used osd + 1 + o.flds.length)=[]:=List.drop_eq_nil_of_le (by rw [hl]; omega)
   have d2:List.drop (used osd + 1 + o.flds.length - used osd) (hdw o.kind o.refs.length o.raws.length :: List.replicate (o.refs.length + o.raws.length) 0)=[]:=List.drop_eq_nil_of_le (by simp; omega)
   have d3:(wordsOf osd).take (used osd + 1)=wordsOf osd:=List.take_of_length_le (by rw [hl]; omega)
   rw [List.take_append,List.drop_append,hl,d1,d2,d3,show used osd + 1 - used osd=1 by omega]
   unfold AObj.enc
   rw [hh]
   simp
  rw [hws] at r4
  have hlen:(wordsOf (osd ++ [o])).length=used osd + o.size:=used_snoc osd o
  have hfirst:FirstOk fs3 (osd ++ [o]):=by
   have:=r3.first.modify (i:=osd.length) (f:=fun x=>if x.size=o.size then o else x) (fun x=>by split <;> simp_all)
   have e:(osd ++ [newO o.kind o.refs.length o.raws.length]).modify osd.length (fun x=>if x.size=o.size then o else x)=osd ++ [o]:=by
    rw [modify_last]
    simp [newO_size,hsz,hen]
    omega
   rw [e] at this
   exact this
  have rd4:ArR h4 L3 szd (osd ++ [o]) wc3 fc3 fs3:=by
   refine ⟨r4.row,r4.ws,r4.fsl,hfirst,?_,by rw [used_snoc]; exact hfit,hsd,?_,r4.d1,r4.d2,r4.d3⟩
   ·intro x hx
    rcases List.mem_append.1 hx with hx | hx
    ·exact rd.ok x hx
    ·rw [List.mem_singleton.1 hx]; exact hoo
   ·have:=r3.fl; rw [hu3] at this; rw [used_snoc]; exact this
  have hdis3:∀ b,Ls.fp b→¬ L3.fp b:=fun b hb h3b=>by
   rcases g3.fp b h3b with h | h
   ·exact hdis b hb h
   ·have:=rs.lt b hb; omega
  have rs4:ArR h4 Ls szs oss wcs fcs fss:=rs3.keep g4.kept hdis3
  refine PtrOk_mk ⟨⟨some (ad Ls.wb),used oss,wcs⟩,rs4.c1,rs4.at_ok ho,PtrOk_mk ?_⟩
  have e6:(ad Ls.wb).add ((pos oss i:Int).toNat * 1)=⟨Ls.wb,pos oss i,none⟩:=by rw [add_ad,Int.toNat_natCast,Nat.mul_one]
  rw [wrap_u64' (by omega) (by omega),orI_gone (by omega) (by omega)]
  simp only [e6]
  obtain ⟨hst,r5,k5⟩:=rs4.setw (p:=pos oss i) (w:=9223372036854775808 + used osd) (os':=oss.modify i fun o=>{ o with fwd:=some (used osd) }) (by omega) (words_fwd ho) (rs.first.modify fun _=>rfl)
   (ok_modify rs.ok fun o ho=>fwd_ok ho (by omega))
  have ev:(.int .u64 ((9223372036854775808:Int) + ((used osd:Nat):Int)):Value)=uv (9223372036854775808 + used osd):=rfl
  rw [ev]
  refine ⟨hst,hR _ L3 ⟨_,_,_,r5⟩ ⟨_,_,_,rd4.keep k5 fun b hb hs=>hdis3 b hs hb⟩ ⟨g3.pb,g3.fp,?_⟩⟩
  refine ⟨Nat.le_trans g3.kept.1 (Nat.le_trans g4.kept.1 k5.1),fun j hj hn=>?_⟩
  have j3:=Nat.lt_of_lt_of_le hj g3.kept.1
  rw [k5.2 j (Nat.lt_of_lt_of_le j3 g4.kept.1) (fun e=>hn (.inl e)),g4.kept.2 j j3 (fun e=>(g3.fp j e).elim (fun h=>hn (.inr h)) fun h=>by omega)]
  exact g3.kept.2 j hj (fun e=>hn (.inr e))
 by_cases h0:wc3=used osd + 1
 ·have hz:o.flds.length=0:=by
   have:=(r3.ws.row _ rfl).2.1
   rw [hu3] at this
   omega
  rw [if_pos h0]
  have hnil:o.flds=[]:=List.length_eq_zero_iff.1 hz
  rw [hnil] at key ⊢
  refine ⟨trivial,?_⟩
  refine key _ ?_ (Grown.refl _ _)
  have:ovwN (wordsOf (osd ++ [newO o.kind o.refs.length o.raws.length])) (used osd + 1) []=wordsOf (osd ++ [newO o.kind o.refs.length o.raws.length]):=by unfold ovwN; simp
  rw [this]
  exact r3.raw
 ·rw [if_neg h0]
  have ea:((ad L3.wb).add ((used osd + 1) * 1)).add 0=⟨L3.wb,used osd + 1,none⟩:=by rw [add_ad,Nat.mul_one,add_mk]
  obtain ⟨hst,r4,g4⟩:=r3.raw.setWs (p:=used osd + 1) (ns:=o.flds) (by show _ ≤ used (osd ++ [newO o.kind o.refs.length o.raws.length]); omega)
  show stsOk h3 (((ad L3.wb).add ((used osd + 1) * 1)).add (0)) (o.flds.map uv) 0∧_
  rw [ea]
  exact ⟨hst,key _ r4 g4⟩
end
end Go.Ev
set_option linter.all false
set_option maxRecDepth 100000
namespace Go.Ev
open Go.Proofs
def byteAt (raws:List Nat) (j:Nat):Nat:=raws.getD (j / 8) 0 / 2 ^ (j % 8 * 8) % 256
def putW (w s c:Nat):Nat:=2 ^ s * (2 ^ 8 * (w / 2 ^ (s + 8)) + c) + w % 2 ^ s
def putByte (raws:List Nat) (j c:Nat):List Nat:=raws.set (j / 8) (putW (raws.getD (j / 8) 0) (j % 8 * 8) c)
def putBytes:List Nat→Nat→List Nat→List Nat
 | raws,_,[]=>raws
 | raws,j,c :: cs=>putBytes (putByte raws j c) (j + 1) cs
theorem putBytes_snoc:∀ (l:List Nat) (raws:List Nat) (j c:Nat),putBytes raws j (l ++ [c])=putByte (putBytes raws j l) (j + l.length) c
 | [],_,_,_=>rfl
 | x :: l,raws,j,c=>by
  show putBytes (putByte raws j x) (j + 1) (l ++ [c])=putByte (putBytes (putByte raws j x) (j + 1) l) _ c
  rw [putBytes_snoc l]
  congr 1
  rw [List.length_cons]; omega
theorem putByte_len (raws:List Nat) (j c:Nat):(putByte raws j c).length=raws.length:=by simp [putByte]
theorem putBytes_len:∀ (l:List Nat) (raws:List Nat) (j:Nat),(putBytes raws j l).length=raws.length
 | [],_,_=>rfl
 | x :: l,raws,j=>by
  show (putBytes (putByte raws j x) (j + 1) l).length=_
  rw [putBytes_len l,putByte_len]
theorem putW_bit {w s c j:Nat} (hc:c < 256):(putW w s c).testBit j=if j < s then w.testBit j else if j - s < 8 then c.testBit (j - s) else w.testBit j:=by
 unfold putW
 rw [Nat.testBit_two_pow_mul_add _ (Nat.mod_lt _ (Nat.two_pow_pos s))]
 split
 ·rename_i h
  rw [Nat.testBit_mod_two_pow]
  simp [h]
 ·rename_i h
  rw [Nat.testBit_two_pow_mul_add _ (show c < 2 ^ 8 by omega)]
  split
  ·rfl
  ·rename_i h2
   rw [Nat.testBit_div_two_pow]
   congr 1
   omega
theorem putW_lt {w s c:Nat} (hw:w < 18446744073709551616) (hs:s ≤ 56) (hc:c < 256):putW w s c < 18446744073709551616:=by
 have:putW w s c < 2 ^ 64:=by
  apply Nat.lt_pow_two_of_testBit
  intro j hj
  rw [putW_bit hc,if_neg (by omega)]
  have hw0:w.testBit j=false:=testBit_lt (k:=64) hw j hj
  split
  ·omega
  ·exact hw0
 exact this
theorem putW_eq {w s c:Nat} (hw:w < 18446744073709551616) (hs:s ≤ 56) (hc:c < 256) :
  orI .u64 (andNotI .u64 (w:Int) (IntKind.wrap .u64 ((255:Int) * 2 ^ s))) (IntKind.wrap .u64 ((c:Int) * 2 ^ s))=((putW w s c:Nat):Int):=by
 have hp:2 ^ s ≤ 2 ^ 56:=Nat.pow_le_pow_right (by omega) hs
 have hp':2 ^ s ≤ 72057594037927936:=hp
 have e1:(255:Int) * 2 ^ s=((255 * 2 ^ s:Nat):Int):=by norm_cast
 have e2:(c:Int) * 2 ^ s=((c * 2 ^ s:Nat):Int):=by norm_cast
 have hm1:255 * 2 ^ s ≤ 255 * 72057594037927936:=Nat.mul_le_mul_left _ hp'
 have hm2:c * 2 ^ s ≤ 255 * 72057594037927936:=Nat.mul_le_mul (by omega) hp'
 rw [e1,e2,wrap_u64' (Int.natCast_nonneg _) (by generalize 255 * 2 ^ s=z at *; omega),wrap_u64' (Int.natCast_nonneg _) (by generalize c * 2 ^ s=z at *; omega)]
 have e3:andNotI .u64 (w:Int) ((255 * 2 ^ s:Nat):Int)=(((BitVec.ofNat 64 w &&& ~~~(BitVec.ofNat 64 (255 * 2 ^ s))).toNat:Nat):Int):=by
  show IntKind.wrap .u64 (((BitVec.ofInt 64 (w:Int) &&& ~~~(BitVec.ofInt 64 ((255 * 2 ^ s:Nat):Int)):BitVec 64).toNat:Nat):Int)=_
  rw [bv_ofNat,bv_ofNat]
  have:=(BitVec.ofNat 64 w &&& ~~~(BitVec.ofNat 64 (255 * 2 ^ s))).isLt
  exact wrap_u64' (Int.natCast_nonneg _) (by omega)
 rw [e3,orI_nat (BitVec.isLt _) (by generalize c * 2 ^ s=z at *; omega)]
 congr 1
 apply Nat.eq_of_testBit_eq
 intro j
 rw [putW_bit hc,Nat.testBit_or,BitVec.testBit_toNat,BitVec.getLsbD_and,BitVec.getLsbD_not,BitVec.getLsbD_ofNat,BitVec.getLsbD_ofNat,Nat.mul_comm 255,Nat.mul_comm c,Nat.testBit_two_pow_mul,Nat.testBit_two_pow_mul]
 have h255:∀ k,Nat.testBit 255 k=decide (k < 8):=fun k=>by
  rw [show (255:Nat)=2 ^ 8 - 1 by decide,Nat.testBit_two_pow_sub_one]
 have hcb:∀ k,8 ≤ k→c.testBit k=false:=testBit_lt (k:=8) hc
 rw [h255]
 by_cases hj:j < 64
 ·by_cases h1:j < s
  ·simp [hj,h1,show ¬ s ≤ j by omega]
  ·by_cases h2:j - s < 8
   ·simp [hj,h1,h2,show s ≤ j by omega]
   ·simp [hj,h1,h2,show s ≤ j by omega,hcb (j - s) (by omega)]
 ·have hw0:w.testBit j=false:=testBit_lt (k:=64) hw j (by omega)
  have h2:¬ j - s < 8:=by omega
  simp [hj,hw0,show ¬ j < s by omega,h2,hcb (j - s) (by omega)]
section
variable {h h':Hp} {L:ArLoc} {sz:Nat} {os:List AObj} {wc fc:Nat} {fs:List Nat}
def spanE (os:List AObj) (at_ from_ n:Int):Int :=
 match (idxI os at_).bind (os[·]?) with
 | none=>23
 | some o=>if o.fwd.isSome then 26 else if 0 ≤ from_∧0 ≤ n∧from_ + n ≤ 8 * (o.raws.length:Int) then 0 else 25
theorem span_ok (r:ArR h L sz os wc fc fs) {at_ from_ n:Int} (hn0:-9223372036854775808 ≤ n) (hf0:-9223372036854775808 ≤ from_) (hn1:n < 9223372036854775808) (hf1:from_ < 9223372036854775808) {R:Value→Hp→Prop}
  (hbad:spanE os at_ from_ n ≠ 0→R (.tuple #[.slice none 0 0,.int .i64 (spanE os at_ from_ n)]) h)
  (hgood:∀ i o a,spanE os at_ from_ n=0→idxI os at_=some i→os[i]?=some o→o.fwd=none→0 ≤ from_→0 ≤ n→from_ + n ≤ 8 * (o.raws.length:Int) →
   (o.raws.length ≠ 0→a=some ⟨L.wb,pos os i + 1 + o.refs.length,none⟩)→R (.tuple #[.slice a o.raws.length o.raws.length,.int .i64 0]) h) :
  CallTo Tryz.prog 140 #[.pointer (some (ad L.pb)),.int .i64 at_,.int .i64 from_,.int .i64 n] h R:=by
 refine f140F_ok ?_
 unfold f140F
 refine fields_ok r (fun he=>?_) fun i o a he hi ho hf ha hp=>?_
 ·refine ⟨⟨none,0,0⟩,_,_,rfl,Cond_t (by simpa using he) ?_⟩
  unfold spanE at hbad
  unfold objE at he ⊢
  cases hx:(idxI os at_).bind (os[·]?) with
  | none=>rw [hx] at hbad; exact hbad (by simp)
  | some o =>
   rw [hx] at hbad he
   simp only at hbad he ⊢
   cases hf:o.fwd with
   | some t=>rw [hf] at hbad; exact hbad (by simp)
   | none=>rw [hf] at he; simp at he
 ·have hoo:=r.ok o (List.mem_of_getElem? ho)
  have hsp:spanE os at_ from_ n=if 0 ≤ from_∧0 ≤ n∧from_ + n ≤ 8 * (o.raws.length:Int) then 0 else 25:=by
   unfold spanE
   rw [hi]
   simp only [Option.bind_some,ho,hf]
   rfl
  have hfl:o.flds.length=o.refs.length + o.raws.length:=by unfold AObj.flds; simp
  have hnw:=hoo.nw
  refine ⟨⟨a,o.flds.length,o.flds.length⟩,_,_,rfl,Cond_f rfl ⟨⟨by omega,?_⟩,?_⟩⟩
  ·show (o.refs.length:Int) ≤ ((o.flds.length:Nat):Int); omega
  simp only [Int.toNat_natCast]
  have el:o.flds.length - o.refs.length=o.raws.length:=by omega
  have e8:IntKind.wrap .i64 ((8:Int) * ((o.raws.length:Nat):Int))=8 * ((o.raws.length:Nat):Int):=wrap_ar (by omega) (by omega)
  simp only [el,e8]
  have bad:∀ s,¬ (0 ≤ from_∧0 ≤ n∧from_ + n ≤ 8 * (o.raws.length:Int))→f140K1 s true h R:=fun s hn=>by
   rw [if_neg hn] at hsp
   rw [hsp] at hbad
   exact hbad (by simp)
  refine Cond_dec (fun c=>bad _ (by omega)) fun c1=>Cond_dec (fun c=>bad _ (by omega)) fun c2=>Cond_dec (fun c=>bad _ (by omega)) fun c3=>?_
  have e9:IntKind.wrap .i64 (8 * ((o.raws.length:Nat):Int) - from_)=8 * ((o.raws.length:Nat):Int) - from_:=wrap_ar (by omega) (by omega)
  rw [e9]
  by_cases c4:n > 8 * ((o.raws.length:Nat):Int) - from_
  ·rw [decide_eq_true c4]
   exact bad _ (by omega)
  ·rw [decide_eq_false c4]
   unfold f140K1
   refine Cond_f rfl (hgood i o _ (by rw [hsp,if_pos (by omega)]) hi ho hf (by omega) (by omega) (by omega) fun hne=>?_)
   rw [if_neg (by omega),hp (by omega),Option.map_some,add_mk,Nat.mul_one]

def bv (n:Nat):Value:=.int .u8 (n:Int)
theorem div8 {p:Nat} (hp:p < 4611686018427387904):IntKind.wrap .i64 (Int.tdiv (p:Int) (8:Int))=((p / 8:Nat):Int):=by
 rw [tdiv_nn (by omega),wrap_i64' (by omega) (by omega)]; omega
theorem mod8 (p:Nat):IntKind.wrap .i64 ((Int.tmod (p:Int) (8:Int)) * (8:Int))=((p % 8 * 8:Nat):Int):=by
 rw [tmod_nn (by omega),wrap_i64' (by omega) (by omega)]; omega
theorem ArR.raw_word (r:ArR h L sz os wc fc fs) {i j w:Nat} {o:AObj} (ho:os[i]?=some o) (hw:o.raws[j]?=some w):cell h ((⟨L.wb,pos os i + 1 + o.refs.length,none⟩:Addr).add (j * 1))=some (uv w):=by
 rw [add_mk,Nat.mul_one]
 have hj:=(List.getElem?_eq_some_iff.1 hw).1
 have hf:o.flds[o.refs.length + j]?=some w:=by
  unfold AObj.flds
  rw [List.getElem?_append_right (by omega),Nat.add_sub_cancel_left]
  exact hw
 have hl:o.refs.length + j < o.flds.length:=(List.getElem?_eq_some_iff.1 hf).1
 have:=word_fld ho hl
 rw [hf] at this
 have h2:=r.word (i:=pos os i + 1 + (o.refs.length + j)) this
 rw [add_ad,Nat.mul_one] at h2
 rw [show pos os i + 1 + o.refs.length + j=pos os i + 1 + (o.refs.length + j) by omega]
 exact h2
theorem abytes_ok (r:ArR h L sz os wc fc fs) {at_ from_ n:Int} (hn0:-9223372036854775808 ≤ n) (hf0:-9223372036854775808 ≤ from_) (hn1:n < 9223372036854775808) (hf1:from_ < 9223372036854775808) {R:Value→Hp→Prop}
  (hbad:spanE os at_ from_ n ≠ 0→R (.tuple #[.slice none 0 0,.int .i64 (spanE os at_ from_ n)]) h)
  (hgood:∀ i o (f m:Nat) b h',idxI os at_=some i→os[i]?=some o→o.fwd=none→from_=f→n=m→f + m ≤ 8 * o.raws.length →
   Row h' b ((List.range m).map fun j=>bv (byteAt o.raws (f + j)))→h.size ≤ b→Kept N h h'→R (.tuple #[.slice (some (ad b)) m m,.int .i64 0]) h') :
  CallTo Tryz.prog 136 #[.pointer (some (ad L.pb)),.int .i64 at_,.int .i64 from_,.int .i64 n] h R:=by
 refine f136F_ok ?_
 unfold f136F
 refine span_ok r hn0 hf0 hn1 hf1 (fun he=>⟨⟨none,0,0⟩,_,rfl,Cond_t (by simpa using he) (hbad he)⟩) fun i o a he hi ho hf f0 n0 hfn ha=>?_
 have hoo:=r.ok o (List.mem_of_getElem? ho)
 have hnw:=hoo.nw
 obtain ⟨f,rfl⟩:=Int.eq_ofNat_of_zero_le f0
 obtain ⟨m,rfl⟩:=Int.eq_ofNat_of_zero_le n0
 refine ⟨⟨a,o.raws.length,o.raws.length⟩,_,rfl,Cond_f rfl ⟨⟨by omega,by omega⟩,by omega,by omega,Let_mk fun h1 e1=>?_⟩⟩
 simp only [Int.toNat_natCast] at e1 ⊢
 rw [zrow_one] at e1
 have r1:Row h1 h.size (List.replicate m (bv 0)):=e1 ▸ row_new h (List.replicate m (bv 0)).toArray 5
 have k1:Kept N h h1:=e1 ▸ kept_push _ _ _
 refine f136L1_rule (s10:=⟨a,o.raws.length,o.raws.length⟩) (s12:=⟨some (ad h.size),m,m⟩) (fun q s2 s10 s12 s29 s30 h'=>∃ k:Nat,k ≤ m∧q=m - k∧s2=f∧s10=⟨a,o.raws.length,o.raws.length⟩∧s12=⟨some (ad h.size),m,m⟩∧s29=m∧s30=k ∧
  Row h' h.size (((List.range k).map fun j=>bv (byteAt o.raws (f + j))) ++ List.replicate (m - k) (bv 0))∧Kept N h h') m ⟨0,by omega,rfl,rfl,rfl,rfl,rfl,rfl,by simpa using r1,k1⟩ ?_
 rintro q s2 s10 s12 s29 s30 g h2 ⟨k,hk,rfl,rfl,rfl,rfl,rfl,rfl,r2,k2⟩
 unfold f136L1
 refine Cond_dec (fun hlt=>?_) fun hge=>?_
 ·have hkm:k < m:=by omega
  have ew:IntKind.wrap .i64 ((f:Int) + (k:Int))=((f + k:Nat):Int):=by rw [wrap_ar (by omega) (by omega)]; omega
  rw [ew,div8 (by omega),mod8]
  have hj:(f + k) / 8 < o.raws.length:=by omega
  have hw:o.raws[(f + k) / 8]?=some o.raws[(f + k) / 8]:=List.getElem?_eq_getElem hj
  have hcell:=(r.keep k2 (fun _ _=>id)).raw_word ho hw
  simp only [Int.toNat_natCast]
  refine ⟨by omega,⟨by omega,?_⟩,PtrOk_of (ha (by omega)) ⟨_,hcell,by omega,by omega,⟨by omega,?_⟩,PtrOk_mk ?_⟩⟩
  ·show (((f + k) / 8:Nat):Int) < ((o.raws.length:Nat):Int); omega
  ·show (k:Int) < ((m:Nat):Int); omega
  have ea:(ad h.size).add (k * 1)=⟨h.size,k,none⟩:=by rw [add_ad,Nat.mul_one]
  simp only [ea]
  have em:min ((f + k) % 8 * 8) (IntKind.bits .u64)=(f + k) % 8 * 8:=by rw [bits_u64]; omega
  have ev:IntKind.wrap .u8 (Int.fdiv ((o.raws[(f + k) / 8]:Nat):Int) (2 ^ ((f + k) % 8 * 8)))=((byteAt o.raws (f + k):Nat):Int):=by
   rw [fdiv_pow,wrap_u8']
   unfold byteAt
   rw [List.getD_eq_getElem?_getD,hw,Option.getD_some]
   omega
  rw [em,ev]
  refine ⟨stOk_row r2 (by simp; omega),Let_mk fun h3 e3=>⟨m - (k + 1),by omega,k + 1,by omega,rfl,trivial,trivial,trivial,trivial,?_,?_,?_⟩⟩
  ·rw [wrap_ar (by omega) (by omega)]; rfl
  ·rw [e3]
   have:=row_setc r2 k (bv (byteAt o.raws (f + k)))
   have e:(((List.range k).map fun j=>bv (byteAt o.raws (f + j))) ++ List.replicate (m - k) (bv 0)).set k (bv (byteAt o.raws (f + k)))=((List.range (k + 1)).map fun j=>bv (byteAt o.raws (f + j))) ++ List.replicate (m - (k + 1)) (bv 0):=by
    rw [List.set_append_right _ _ (by simp),List.range_succ,List.map_append,List.append_assoc]
    congr 1
    rw [show m - k=(m - (k + 1)) + 1 by omega,List.replicate_succ]
    simp
   rw [e] at this
   exact this
  ·rw [e3]
   refine ⟨by rw [size_setc]; exact k2.1,fun b hb _=>?_⟩
   rw [setc_ne _ _ _ (by show b ≠ h.size; omega)]
   exact k2.2 b hb id
 ·obtain rfl:k=m:=by omega
  rw [Nat.sub_self,List.replicate_zero,List.append_nil] at r2
  exact hgood i o f k h.size h2 hi ho hf rfl rfl (by omega) r2 (Nat.le_refl _) k2
theorem putByte_lt {raws:List Nat} {j c:Nat} (hr:∀ x ∈ raws,x < 18446744073709551616) (hc:c < 256):∀ x ∈ putByte raws j c,x < 18446744073709551616:=by
 intro x hx
 rcases List.mem_or_eq_of_mem_set hx with hx | hx
 ·exact hr x hx
 ·rw [hx]
  refine putW_lt ?_ (by omega) hc
  rw [List.getD_eq_getElem?_getD]
  cases h:raws[j / 8]? with
  | none=>simp
  | some w=>exact hr w (List.mem_of_getElem? h)
theorem putBytes_lt:∀ {l:List Nat} {raws:List Nat} {j:Nat},(∀ x ∈ raws,x < 18446744073709551616)→(∀ c ∈ l,c < 256)→∀ x ∈ putBytes raws j l,x < 18446744073709551616
 | [],_,_,hr,_=>hr
 | c :: l,raws,j,hr,hl=>putBytes_lt (l:=l) (putByte_lt hr (hl c (List.mem_cons_self ..))) fun c hc=>hl c (List.mem_cons_of_mem _ hc)
/-- An object whose raws are others, as many. -/
def AObj.withRaws (o:AObj) (ws:List Nat):AObj:={ o with raws:=ws }
theorem setF_raw (o:AObj) (k w:Nat):o.setF (o.refs.length + k) w=o.withRaws (o.raws.set k w):=by
 unfold AObj.setF AObj.withRaws
 rw [if_neg (by omega),Nat.add_sub_cancel_left]
theorem modify_modify {α:Type} (l:List α) (i:Nat) (f g:α→α):(l.modify i f).modify i g=l.modify i (g ∘ f):=by
 apply List.ext_getElem?
 intro j
 rw [List.getElem?_modify,List.getElem?_modify,List.getElem?_modify]
 cases l[j]? with
 | none=>rfl
 | some x=>show some _=some _; congr 1; by_cases h:i=j <;> simp [h]
theorem modify_congr {α:Type} {l:List α} {i:Nat} {x:α} (hx:l[i]?=some x) {f g:α→α} (h:f x=g x):l.modify i f=l.modify i g:=by
 apply List.ext_getElem?
 intro j
 rw [List.getElem?_modify,List.getElem?_modify]
 by_cases hij:i=j
 ·subst hij; rw [hx]; show some _=some _; simp [h]
 ·cases l[j]? with
  | none=>rfl
  | some y=>show some _=some _; simp [hij]
theorem modify_id {α:Type} {l:List α} {i:Nat} {x:α} (hx:l[i]?=some x) {f:α→α} (h:f x=x):l.modify i f=l:=by
 apply List.ext_getElem?
 intro j
 rw [List.getElem?_modify]
 by_cases hij:i=j
 ·subst hij; rw [hx]; show some _=some _; simp [h]
 ·cases l[j]? with
  | none=>rfl
  | some y=>show some _=some _; simp [hij]
theorem asetbytes_ok (r:ArR h L sz os wc fc fs) {at_ from_:Int} {s:Sl} {cs:List Nat} (hs:ReadsO h s.a (cs.map bv)) (hsn:s.n=cs.length) (hcs:∀ c ∈ cs,c < 256) (hsb:∀ a,s.a=some a→cs ≠ []→¬ L.fp a.block)
  (hn:(cs.length:Int) < 9223372036854775808) (hf0:-9223372036854775808 ≤ from_) (hf1:from_ < 9223372036854775808) {R:Value→Hp→Prop}
  (hbad:spanE os at_ from_ cs.length ≠ 0→R (.int .i64 (spanE os at_ from_ cs.length)) h)
  (hgood:∀ i o (f:Nat) h',idxI os at_=some i→os[i]?=some o→o.fwd=none→from_=f→f + cs.length ≤ 8 * o.raws.length →
   ArR h' L sz (os.modify i fun o=>o.withRaws (putBytes o.raws f cs)) wc fc fs→Kept L.fp h h'→R (.int .i64 0) h') :
  CallTo Tryz.prog 139 #[.pointer (some (ad L.pb)),.int .i64 at_,.int .i64 from_,.slice s.a s.n s.c] h R:=by
 refine f139F_ok ?_
 unfold f139F
 rw [hsn]
 refine span_ok r (by omega) hf0 hn hf1 (fun he=>⟨⟨none,0,0⟩,_,rfl,Cond_t (by simpa using he) (hbad he)⟩) fun i o a he hi ho hf f0 n0 hfn ha=>?_
 have hoo:=r.ok o (List.mem_of_getElem? ho)
 have hnw:=hoo.nw
 obtain ⟨f,rfl⟩:=Int.eq_ofNat_of_zero_le f0
 refine ⟨⟨a,o.raws.length,o.raws.length⟩,_,rfl,Cond_f rfl ?_⟩
 refine f139L1_rule (s9:=⟨a,o.raws.length,o.raws.length⟩) (s27:=⟨s.a,cs.length,s.c⟩) (fun q s2 s9 s27 s28 s29 h'=>∃ k:Nat,k ≤ cs.length∧q=cs.length - k∧s2=f∧s9=⟨a,o.raws.length,o.raws.length⟩∧s27=⟨s.a,cs.length,s.c⟩∧s28=cs.length∧s29=k ∧
  ArR h' L sz (os.modify i fun o=>o.withRaws (putBytes o.raws f (cs.take k))) wc fc fs∧Kept L.fp h h') cs.length ⟨0,by omega,rfl,rfl,rfl,rfl,rfl,rfl,?_,Kept.refl _ _⟩ ?_
 ·have:(os.modify i fun o=>o.withRaws (putBytes o.raws f (cs.take 0)))=os:=modify_id ho rfl
  rw [this]; exact r
 rintro q s2 s9 s27 s28 s29 g h2 ⟨k,hk,rfl,rfl,rfl,rfl,rfl,rfl,r2,k2⟩
 unfold f139L1
 refine Cond_dec (fun hlt=>?_) fun hge=>?_
 ·have hkm:k < cs.length:=by omega
  have hc:cs[k]?=some cs[k]:=List.getElem?_eq_getElem hkm
  have hcl:=hcs _ (List.getElem_mem hkm)
  generalize cs[k]=c at hc hcl
  -- the byte that is read
  obtain ⟨ab,hab⟩:∃ ab,s.a=some ab:=by
   cases hsa:s.a with
   | some ab=>exact ⟨ab,rfl⟩
   | none =>
    rw [hsa] at hs
    have hs:cs.map bv=[]:=hs
    have:=List.map_eq_nil_iff.1 hs
    rw [this] at hkm; simp at hkm
  have hrd:cell h (ab.add k)=some (bv c):=by
   rw [hab] at hs
   exact hs k _ (by rw [List.getElem?_map,hc]; rfl)
  have hrd2:cell h2 (ab.add (k * 1))=some (bv c):=by
   rw [Nat.mul_one,← hrd]
   have hbk:(ab.add k).block=ab.block:=by unfold Addr.add; split <;> rfl
   unfold cell
   rw [hbk]
   have hlt:ab.block < h.size:=by
    unfold cell at hrd
    rw [hbk] at hrd
    split at hrd
    ·rename_i x y z hx; exact (Array.getElem?_eq_some_iff.1 hx).1
    ·cases hrd
   rw [k2.2 _ hlt (hsb ab hab fun e=>by rw [e] at hkm; simp at hkm)]
  -- the object as it stands
  have ho2:(os.modify i fun o=>o.withRaws (putBytes o.raws f (cs.take k)))[i]?=some (o.withRaws (putBytes o.raws f (cs.take k))):=by
   rw [List.getElem?_modify,ho]; show some _=some _; simp
  generalize hX:putBytes o.raws f (cs.take k)=X at ho2
  have hXl:X.length=o.raws.length:=by rw [← hX,putBytes_len]
  have ew:IntKind.wrap .i64 ((f:Int) + (k:Int))=((f + k:Nat):Int):=by rw [wrap_ar (by omega) (by omega)]; omega
  rw [ew,div8 (by omega),mod8]
  have hj:(f + k) / 8 < X.length:=by omega
  obtain ⟨w,hw⟩:∃ w,X[(f + k) / 8]?=some w:=⟨_,List.getElem?_eq_getElem hj⟩
  have hpos:pos (os.modify i fun o=>o.withRaws (putBytes o.raws f (cs.take k))) i=pos os i:=by
   unfold pos
   congr 1
   apply List.ext_getElem?
   intro x
   rw [List.getElem?_take,List.getElem?_take]
   split
   ·rename_i hx
    rw [List.getElem?_modify]
    cases os[x]? with
    | none=>rfl
    | some y=>show some _=some _; simp [show ¬ i=x by omega]
   ·rfl
  have hcell:=r2.raw_word ho2 (j:=(f + k) / 8) hw
  rw [hpos] at hcell
  simp only [Int.toNat_natCast]
  have c1:(0:Int) ≤ (((f + k) / 8:Nat):Int)∧(((f + k) / 8:Nat):Int) < ((o.raws.length:Nat):Int):=by omega
  refine ⟨⟨by omega,by omega⟩,PtrOk_of hab ⟨_,hrd2,by omega,by omega,by omega,c1,PtrOk_of (ha (by omega)) ⟨_,hcell,by omega,by omega,c1,PtrOk_of (ha (by omega)) ?_⟩⟩⟩
  have ea:(⟨L.wb,pos os i + 1 + o.refs.length,none⟩:Addr).add ((f + k) / 8 * 1)=⟨L.wb,pos os i + 1 + (o.refs.length + (f + k) / 8),none⟩:=by rw [add_mk,Nat.mul_one,Nat.add_assoc]
  simp only [ea]
  have em:min ((f + k) % 8 * 8) (IntKind.bits .u64)=(f + k) % 8 * 8:=by rw [bits_u64]; omega
  have hwl:w < 18446744073709551616:=by
   have:=(r2.ok _ (List.mem_of_getElem? ho2)).fl w
   exact this (by unfold AObj.flds AObj.withRaws; exact List.mem_append_right _ (List.mem_of_getElem? hw))
  rw [em,wrap_u64' (x:=((c:Nat):Int)) (by omega) (by omega),putW_eq hwl (by omega) hcl]
  have hgetD:X.getD ((f + k) / 8) 0=w:=by rw [List.getD_eq_getElem?_getD,hw]; rfl
  have hjf:o.refs.length + (f + k) / 8 < (o.withRaws X).flds.length:=by unfold AObj.flds AObj.withRaws; simp; omega
  have hsnoc:cs.take (k + 1)=cs.take k ++ [c]:=by rw [List.take_add_one,hc]; rfl
  have hobj:(os.modify i fun o=>o.withRaws (putBytes o.raws f (cs.take k))).modify i (fun o=>o.setF (o.refs.length + (f + k) / 8) (putW w ((f + k) % 8 * 8) c))=os.modify i fun o=>o.withRaws (putBytes o.raws f (cs.take (k + 1))):=by
   rw [modify_modify]
   refine modify_congr ho ?_
   show (o.withRaws (putBytes o.raws f (cs.take k))).setF (o.refs.length + (f + k) / 8) _=_
   rw [hX,show o.refs.length=(o.withRaws X).refs.length from rfl,setF_raw]
   unfold AObj.withRaws
   simp only
   congr 1
   rw [hsnoc,putBytes_snoc,hX]
   unfold putByte
   rw [List.length_take,Nat.min_eq_left (by omega),hgetD]
  have hset:=words_setF (v:=putW w ((f + k) % 8 * 8) c) ho2 hjf
  have hm2:(os.modify i fun o=>o.withRaws (putBytes o.raws f (cs.take k))).modify i (fun x=>x.setF (o.refs.length + (f + k) / 8) (putW w ((f + k) % 8 * 8) c))=os.modify i fun o=>o.withRaws (putBytes o.raws f (cs.take (k + 1))):=by
   rw [← hobj]
   exact modify_congr ho2 rfl
  rw [hm2,hpos] at hset
  have hps:=pos_size_le ho
  have hfl:o.flds.length=o.refs.length + o.raws.length:=by unfold AObj.flds; simp
  have hsz:o.size=1 + o.flds.length:=rfl
  have hud:used (os.modify i fun o=>o.withRaws (putBytes o.raws f (cs.take k)))=used os:=by
   have:=r2.c1
   have h3:=(kept_row k2 r.row)
   exact used_modify fun o=>by unfold AObj.size AObj.flds AObj.withRaws; simp [putBytes_len]
  obtain ⟨hst,r3,k3⟩:=r2.setw (p:=pos os i + 1 + (o.refs.length + (f + k) / 8)) (w:=putW w ((f + k) % 8 * 8) c) (os':=os.modify i fun o=>o.withRaws (putBytes o.raws f (cs.take (k + 1)))) (by rw [hud]; omega)
   (by rw [hset]) (r.first.modify fun o=>by unfold AObj.size AObj.flds AObj.withRaws; simp [putBytes_len])
   (ok_modify r.ok fun o ho=>⟨ho.k1,ho.k2,ho.nr,by unfold AObj.withRaws; simp only [putBytes_len]; exact ho.nw,fun x hx=>by
    unfold AObj.flds AObj.withRaws at hx
    rcases List.mem_append.1 hx with hx | hx
    ·exact ho.fl x (List.mem_append_left _ hx)
    ·exact putBytes_lt (fun y hy=>ho.fl y (List.mem_append_right _ hy)) (fun y hy=>hcs y (List.mem_of_mem_take hy)) x hx,ho.fw⟩)
  exact ⟨hst,cs.length - (k + 1),by omega,k + 1,by omega,rfl,trivial,trivial,trivial,trivial,by rw [wrap_ar (by omega) (by omega)]; rfl,r3,k2.trans k3⟩
 ·obtain rfl:k=cs.length:=by omega
  rw [List.take_length] at r2
  exact hgood i o f h2 hi ho hf rfl (by omega) r2 k2
end
end Go.Ev
set_option linter.all false
set_option maxRecDepth 100000
namespace Go.Ev
open Go.Proofs
theorem byteAt_bit (raws:List Nat) (j i:Nat):(byteAt raws j).testBit i=(decide (i < 8) && (raws.getD (j / 8) 0).testBit (j % 8 * 8 + i)):=by
 unfold byteAt
 rw [show (256:Nat)=2 ^ 8 from rfl,Nat.testBit_mod_two_pow,Nat.testBit_div_two_pow,Nat.add_comm i]
theorem byteAt_put {raws:List Nat} {j c:Nat} (hj:j / 8 < raws.length) (hc:c < 256) (k:Nat):byteAt (putByte raws j c) k=if k=j then c else byteAt raws k:=by
 have hcb:∀ i,8 ≤ i→c.testBit i=false:=testBit_lt (k:=8) hc
 apply Nat.eq_of_testBit_eq
 intro i
 rw [byteAt_bit]
 unfold putByte
 rw [List.getD_eq_getElem?_getD]
 by_cases hw:k / 8=j / 8
 ·rw [hw,List.getElem?_set_self hj]
  show (decide (i < 8) && (putW (raws.getD (j / 8) 0) (j % 8 * 8) c).testBit (k % 8 * 8 + i))=_
  rw [putW_bit hc]
  by_cases hk:k=j
  ·subst hk
   rw [if_pos rfl,if_neg (by omega)]
   by_cases hi:i < 8
   ·rw [if_pos (by omega),show k % 8 * 8 + i - k % 8 * 8=i by omega]; simp [hi]
   ·rw [hcb i (by omega)]; simp [hi]
  ·rw [if_neg hk,byteAt_bit,hw]
   by_cases hi:i < 8
   ·by_cases hlt:k % 8 < j % 8
    ·rw [if_pos (by omega)]
    ·rw [if_neg (by omega),if_neg (by omega)]
   ·simp [hi]
 ·have hk:k ≠ j:=fun e=>hw (by rw [e])
  rw [if_neg hk,List.getElem?_set_ne (Ne.symm hw),byteAt_bit,List.getD_eq_getElem?_getD]
theorem putByte_word {raws:List Nat} {j c:Nat} (hj:8 ≤ j):(putByte raws j c).getD 0 0=raws.getD 0 0:=by
 unfold putByte
 rw [List.getD_eq_getElem?_getD,List.getElem?_set_ne (by omega),← List.getD_eq_getElem?_getD]
theorem putBytes_word:∀ (l:List Nat) {raws:List Nat} {j:Nat},8 ≤ j→(putBytes raws j l).getD 0 0=raws.getD 0 0
 | [],_,_,_=>rfl
 | c :: l,raws,j,h=>by
  show (putBytes (putByte raws j c) (j + 1) l).getD 0 0=_
  rw [putBytes_word l (by omega),putByte_word h]
theorem putBytes_at:∀ (l:List Nat) {raws:List Nat} {p:Nat},p + l.length ≤ 8 * raws.length→(∀ c ∈ l,c < 256)→∀ k,byteAt (putBytes raws p l) k=if p ≤ k∧k < p + l.length then l.getD (k - p) 0 else byteAt raws k
 | [],raws,p,_,_,k=>by
  rw [if_neg (by rw [List.length_nil]; omega)]; rfl
 | c :: l,raws,p,h,hc,k=>by
  rw [List.length_cons] at h ⊢
  show byteAt (putBytes (putByte raws p c) (p + 1) l) k=_
  rw [putBytes_at l (by rw [putByte_len]; omega) (fun x hx=>hc x (List.mem_cons_of_mem _ hx)),byteAt_put (by omega) (hc c (List.mem_cons_self ..))]
  by_cases hk:k=p
  ·subst hk
   rw [if_neg (by omega),if_pos rfl,if_pos (by omega),Nat.sub_self]
   rfl
  ·by_cases h1:p + 1 ≤ k∧k < p + 1 + l.length
   ·rw [if_pos h1,if_pos (by omega),show k - p=(k - (p + 1)) + 1 by omega,List.getD_cons_succ]
   ·rw [if_neg h1,if_neg hk,if_neg (by omega)]
theorem words_ext {a b:List Nat} (hl:a.length=b.length) (ha:∀ x ∈ a,x < 18446744073709551616) (hb:∀ x ∈ b,x < 18446744073709551616) (h:∀ j,j < 8 * a.length→byteAt a j=byteAt b j):a=b:=by
 apply List.ext_getElem?
 intro k
 by_cases hk:k < a.length
 ·have hk2:k < b.length:=by omega
  rw [List.getElem?_eq_getElem hk,List.getElem?_eq_getElem hk2]
  congr 1
  apply Nat.eq_of_testBit_eq
  intro i
  by_cases hi:i < 64
  ·have q:=congrArg (fun n=>n.testBit (i % 8)) (h (8 * k + i / 8) (by omega))
   simp only [byteAt_bit] at q
   rw [show (8 * k + i / 8) / 8=k by omega,show (8 * k + i / 8) % 8 * 8 + i % 8=i by omega,List.getD_eq_getElem?_getD,List.getD_eq_getElem?_getD,List.getElem?_eq_getElem hk,List.getElem?_eq_getElem hk2] at q
   have h8:decide (i % 8 < 8)=true:=decide_eq_true (by omega)
   rw [h8] at q
   simpa using q
  ·rw [testBit_lt (k:=64) (ha _ (List.getElem_mem hk)) i (by omega),testBit_lt (k:=64) (hb _ (List.getElem_mem hk2)) i (by omega)]
 ·rw [List.getElem?_eq_none (by omega),List.getElem?_eq_none (by omega)]
/-! ### A blob's words -/
def wordsN (n:Nat):Nat:=(n + 7) / 8
def Bytes8 (b:List Nat):Prop:=∀ c ∈ b,c < 256
structure IsRaws (raws b:List Nat):Prop where
 len:raws.length=1 + wordsN b.length
 h0:raws.getD 0 0=b.length
 at_:∀ j,j < 8 * wordsN b.length→byteAt raws (8 + j)=b.getD j 0
 lt:∀ x ∈ raws,x < 18446744073709551616
theorem getD_byte {b:List Nat} (h:Bytes8 b) (j:Nat):b.getD j 0 < 256:=by
 rw [List.getD_eq_getElem?_getD]
 cases e:b[j]? with
 | none=>exact (by omega:(0:Nat) < 256)
 | some x=>exact h x (List.mem_of_getElem? e)
theorem IsRaws.uniq {r r' b:List Nat} (h:IsRaws r b) (h':IsRaws r' b):r=r':=by
 refine words_ext (h.len.trans h'.len.symm) h.lt h'.lt fun j hj=>?_
 have hl:=h.len
 by_cases h8:j < 8
 ·have e:r.getD 0 0=r'.getD 0 0:=h.h0.trans h'.h0.symm
  unfold byteAt
  rw [show j / 8=0 by omega,e]
 ·have:=h.at_ (j - 8) (by omega)
  have k:=h'.at_ (j - 8) (by omega)
  rw [show 8 + (j - 8)=j by omega] at this k
  rw [this,k]
def blobRaws (b:List Nat):List Nat:=putBytes (b.length :: List.replicate (wordsN b.length) 0) 8 b
theorem byteAt_zero (n:Nat) (m j:Nat):byteAt (n :: List.replicate m 0) (8 + j)=0:=by
 unfold byteAt
 rw [show (8 + j) / 8=j / 8 + 1 by omega,List.getD_cons_succ]
 have:(List.replicate m 0).getD (j / 8) 0=0:=by
  rw [List.getD_eq_getElem?_getD,List.getElem?_replicate]
  split <;> rfl
 rw [this,Nat.zero_div]
theorem blobRaws_is {b:List Nat} (h8:Bytes8 b) (hl:b.length < 18446744073709551616):IsRaws (blobRaws b) b:=by
 have hlen:(b.length :: List.replicate (wordsN b.length) 0).length=1 + wordsN b.length:=by simp; omega
 have hw:b.length ≤ 8 * wordsN b.length:=by unfold wordsN; omega
 refine ⟨by unfold blobRaws; rw [putBytes_len,hlen],by unfold blobRaws; rw [putBytes_word _ (Nat.le_refl _)]; rfl,fun j hj=>?_,?_⟩
 ·unfold blobRaws
  rw [putBytes_at _ (by rw [hlen]; omega) h8]
  split
  ·rw [show 8 + j - 8=j by omega]
  ·rename_i hc
   rw [byteAt_zero,List.getD_eq_getElem?_getD,List.getElem?_eq_none (by omega)]; rfl
 ·refine putBytes_lt (fun x hx=>?_) h8
  rcases List.mem_cons.1 hx with e | e
  ·rw [e]; exact hl
  ·rw [(List.mem_replicate.1 e).2]; omega
/-! ### What Write leaves -/
def splice (b:List Nat) (p:Nat) (t:List Nat):List Nat:=(List.range (max b.length (p + t.length))).map fun j=>if p ≤ j∧j < p + t.length then t.getD (j - p) 0 else b.getD j 0
theorem splice_len (b:List Nat) (p:Nat) (t:List Nat):(splice b p t).length=max b.length (p + t.length):=by unfold splice; simp
theorem splice_at (b:List Nat) (p:Nat) (t:List Nat) (j:Nat):(splice b p t).getD j 0=if p ≤ j∧j < p + t.length then t.getD (j - p) 0 else b.getD j 0:=by
 rw [List.getD_eq_getElem?_getD]
 by_cases hj:j < max b.length (p + t.length)
 ·unfold splice
  rw [List.getElem?_map,List.getElem?_range hj]
  rfl
 ·rw [List.getElem?_eq_none (by rw [splice_len]; omega),if_neg (by omega),List.getD_eq_getElem?_getD,List.getElem?_eq_none (by omega)]
theorem splice_8 {b t:List Nat} (p:Nat) (hb:Bytes8 b) (ht:Bytes8 t):Bytes8 (splice b p t):=fun c hc=>by
 unfold splice at hc
 obtain ⟨j,_,rfl⟩:=List.mem_map.1 hc
 split
 ·exact getD_byte ht _
 ·exact getD_byte hb _
/-- Write in place. -/
theorem IsRaws.write {r b t:List Nat} {p:Nat} (h:IsRaws r b) (ht:Bytes8 t) (hw:wordsN (max b.length (p + t.length))=wordsN b.length) (hl:max b.length (p + t.length) < 18446744073709551616) :
  IsRaws (putBytes (r.set 0 (max b.length (p + t.length))) (8 + p) t) (splice b p t):=by
 have hn:p + t.length ≤ 8 * wordsN b.length:=by rw [← hw]; unfold wordsN; omega
 have hls:(r.set 0 (max b.length (p + t.length))).length=1 + wordsN b.length:=by rw [List.length_set]; exact h.len
 have hr0:0 < r.length:=by rw [h.len]; omega
 refine ⟨?_,?_,fun j hj=>?_,?_⟩
 ·rw [putBytes_len,hls,splice_len,hw]
 ·rw [putBytes_word _ (by omega),splice_len,List.getD_eq_getElem?_getD,List.getElem?_set_self hr0]; rfl
 ·rw [splice_len,hw] at hj
  rw [putBytes_at _ (by rw [hls]; omega) ht,splice_at]
  by_cases hc:p ≤ j∧j < p + t.length
  ·rw [if_pos (by omega),if_pos hc,show 8 + j - (8 + p)=j - p by omega]
  ·rw [if_neg (by omega),if_neg hc,← h.at_ j hj]
   unfold byteAt
   rw [List.getD_eq_getElem?_getD,List.getElem?_set_ne (by omega),← List.getD_eq_getElem?_getD]
 ·refine putBytes_lt (fun x hx=>?_) ht
  rcases List.mem_or_eq_of_mem_set hx with e | e
  ·exact h.lt x e
  ·rw [e]; exact hl
/-- The same, all of it at once. -/
theorem IsRaws.over {r b c:List Nat} (h:IsRaws r b) (hc:Bytes8 c) (hw:wordsN c.length=wordsN b.length) (hbl:b.length ≤ c.length) (hl:c.length < 18446744073709551616):IsRaws (putBytes (r.set 0 c.length) 8 c) c:=by
 have hn:c.length ≤ 8 * wordsN b.length:=by rw [← hw]; unfold wordsN; omega
 have hls:(r.set 0 c.length).length=1 + wordsN b.length:=by rw [List.length_set]; exact h.len
 have hr0:0 < r.length:=by rw [h.len]; omega
 refine ⟨?_,?_,fun j hj=>?_,?_⟩
 ·rw [putBytes_len,hls,hw]
 ·rw [putBytes_word _ (Nat.le_refl _),List.getD_eq_getElem?_getD,List.getElem?_set_self hr0]; rfl
 ·rw [hw] at hj
  rw [putBytes_at _ (by rw [hls]; omega) hc]
  by_cases hc:j < c.length
  ·rw [if_pos (by omega),show 8 + j - 8=j by omega]
  ·rw [if_neg (by omega),List.getD_eq_getElem?_getD,List.getElem?_eq_none (by omega)]
   have:=h.at_ j hj
   rw [List.getD_eq_getElem?_getD,List.getElem?_eq_none (by omega)] at this
   rw [← this]
   unfold byteAt
   rw [List.getD_eq_getElem?_getD,List.getElem?_set_ne (by omega),← List.getD_eq_getElem?_getD]
 ·refine putBytes_lt (fun x hx=>?_) hc
  rcases List.mem_or_eq_of_mem_set hx with e | e
  ·exact h.lt x e
  ·rw [e]; exact hl
/-- What Read tells. -/
theorem IsRaws.read {r b:List Nat} (h:IsRaws r b):(List.range b.length).map (fun j=>byteAt r (8 + j))=b:=by
 apply List.ext_getElem?
 intro j
 by_cases hj:j < b.length
 ·rw [List.getElem?_map,List.getElem?_range hj,List.getElem?_eq_getElem hj]
  show some (byteAt r (8 + j))=_
  rw [h.at_ j (by unfold wordsN; omega),List.getD_eq_getElem?_getD,List.getElem?_eq_getElem hj]
  rfl
 ·rw [List.getElem?_eq_none (by simp; omega),List.getElem?_eq_none (by omega)]
end Go.Ev
set_option linter.all false
namespace Go.Ev
/-- As SlAt, but the slice may begin within its block. -/
structure SlO (sz:Nat) (h:Hp) (a:Option Addr) (n c:Nat) (ob:Option Nat) (vs:List Value):Prop where
 len:vs.length=n * sz
 nil:ob=none→a=none∧n=0∧c=0
 row:∀ b,ob=some b→∃ off,a=some ⟨b,off,none⟩∧n ≤ c∧∃ pre junk,(c ≠ 0→pre.length=off)∧Row h b (pre ++ (vs ++ junk))∧vs.length + junk.length=c * sz
theorem SlAt.slO {sz:Nat} {h:Hp} {a:Option Addr} {n c:Nat} {ob:Option Nat} {vs:List Value} (s:SlAt sz h a n c ob vs):SlO sz h a n c ob vs :=
 ⟨s.len,s.nil,fun b e=>by obtain ⟨h1,h2,j,h3,h4⟩:=s.row b e; exact ⟨0,h1,h2,[],j,fun _=>rfl,h3,h4⟩⟩
theorem slO_nil (sz:Nat) (h:Hp):SlO sz h none 0 0 none []:=(slAt_nil sz h).slO
theorem SlO.keep {sz:Nat} {h h':Hp} {a:Option Addr} {n c:Nat} {ob:Option Nat} {vs:List Value} (s:SlO sz h a n c ob vs) (hk:∀ b,ob=some b→h'[b]?=h[b]?):SlO sz h' a n c ob vs :=
 ⟨s.len,s.nil,fun b hb=>by obtain ⟨off,h1,h2,p,j,h3,h4,h5⟩:=s.row b hb; exact ⟨off,h1,h2,p,j,h3,row_keep h4 (hk b hb),h5⟩⟩
theorem SlO.kept {sz:Nat} {h h':Hp} {a:Option Addr} {n c:Nat} {ob:Option Nat} {vs:List Value} {S:Nat→Prop} (s:SlO sz h a n c ob vs) (k:Kept S h h') (hS:∀ b,ob=some b→¬ S b):SlO sz h' a n c ob vs :=
 s.keep fun b e=>by
  obtain ⟨_,_,_,_,_,_,hr,_⟩:=s.row b e
  exact k.2 b (row_lt hr) (hS b e)
theorem SlO.lt {sz:Nat} {h:Hp} {a:Option Addr} {n c b:Nat} {vs:List Value} (s:SlO sz h a n c (some b) vs):b < h.size:=by
 obtain ⟨_,_,_,_,_,_,hr,_⟩:=s.row b rfl
 exact row_lt hr
/-- The cell at a place of a slice of one-cell elements. -/
theorem SlO.at {h:Hp} {a:Option Addr} {n c:Nat} {ob:Option Nat} {vs:List Value} (s:SlO 1 h a n c ob vs) {i:Nat} {v:Value} (hv:vs[i]?=some v):∃ p:Addr,a=some p∧cell h (p.add (i * 1))=some v:=by
 have hi:=(List.getElem?_eq_some_iff.1 hv).1
 have hl:=s.len
 cases ob with
 | none=>have:=(s.nil rfl).2.1; omega
 | some b =>
  obtain ⟨off,rfl,h2,pre,junk,h3,h4,h5⟩:=s.row b rfl
  refine ⟨_,rfl,?_⟩
  rw [add_mk,Nat.mul_one,cell_row h4,List.getElem?_append_right (by have:=h3 (by omega); omega),h3 (by omega),Nat.add_sub_cancel_left,List.getElem?_append_left hi]
  exact hv
/-- l[1:] -/
theorem SlO.tail {h:Hp} {a:Option Addr} {n c:Nat} {ob:Option Nat} {v:Value} {vs:List Value} (s:SlO 1 h a n c ob (v :: vs)) :
  SlO 1 h (if c=1 then a else Option.map (fun x=>x.add (1 * 1)) a) (n - 1) (c - 1) ob vs:=by
 have hl:=s.len
 rw [List.length_cons] at hl
 cases ob with
 | none=>have:=(s.nil rfl).2.1; omega
 | some b =>
  obtain ⟨off,rfl,h2,pre,junk,h3,h4,h5⟩:=s.row b rfl
  rw [List.length_cons] at h5
  refine ⟨by omega,nofun,fun b' e=>?_⟩
  obtain rfl:=Option.some.inj e
  have hp:=h3 (by omega)
  have e1:pre ++ (v :: vs ++ junk)=(pre ++ [v]) ++ (vs ++ junk):=by simp
  rw [e1] at h4
  by_cases hc:c=1
  ·rw [if_pos hc]
   exact ⟨off,rfl,by omega,pre ++ [v],junk,fun h=>by omega,h4,by omega⟩
  ·rw [if_neg hc]
   exact ⟨off + 1,by rw [Option.map_some,add_mk],by omega,pre ++ [v],junk,fun _=>by simp [hp],h4,by omega⟩
theorem appO_ok {e sz bys:Nat} {z:Array Value} {a:Option Addr} {n c m:Nat} {ob:Option Nat} {vs news:List Value} {h:Hp} {K:Option Addr→Nat→Nat→Hp→Prop}
  (s:SlO sz h a n c ob vs) (hz:z.size=sz) (hl:news.length=m * sz) (hcell:∀ v ∈ news,isCell v=true) (hb:(2 * (n + m) + 768) * bys ≤ 2 ^ 48) (hlt:n + m < 2 ^ 62)
  (hK:∀ a' c' ob' h',SlO sz h' a' (n + m) c' ob' (vs ++ news)→(ob'=ob∧Kept (fun b=>ob=some b) h h' ∨ ob'=some h.size∧Kept (fun _=>False) h h')→K a' (n + m) c' h') :
  appT e sz bys z a n c (n + m) news h K:=by
 have hvl:=s.len
 refine ⟨fun hc=>?_,fun hc=>⟨hb,hlt,?_⟩⟩
 ·cases ob with
  | none =>
   obtain ⟨rfl,rfl,rfl⟩:=s.nil rfl
   obtain rfl:m=0:=by omega
   have hn:news=[]:=List.length_eq_zero_iff.1 (by omega)
   have hv:vs=[]:=List.length_eq_zero_iff.1 (by omega)
   subst hn hv
   exact hK none 0 none h (slO_nil sz h) (.inl ⟨rfl,Kept.refl _ _⟩)
  | some b =>
   obtain ⟨off,rfl,h2,pre,j,hp,hr,hcl⟩:=s.row b rfl
   show stsOk h ((⟨b,off,none⟩:Addr).add (n * sz)) news 0∧_
   rw [add_mk]
   have hfit:n * sz + news.length ≤ (vs ++ j).length:=by
    rw [List.length_append,hcl,hl]
    have:=Nat.mul_le_mul_right sz hc
    rw [Nat.add_mul] at this
    omega
   by_cases h0:c=0
   ·subst h0
    have hm:m=0:=by omega
    have hn0:n=0:=by omega
    have hn:news=[]:=List.length_eq_zero_iff.1 (by rw [hl,hm]; omega)
    subst hn
    refine ⟨trivial,hK _ 0 (some b) h ⟨by simp [hvl,hm],nofun,fun b' e=>?_⟩ (.inl ⟨rfl,Kept.refl _ _⟩)⟩
    obtain rfl:=Option.some.inj e
    exact ⟨off,rfl,by omega,pre,j,fun h=>absurd rfl h,by rw [List.append_nil]; exact hr,by simpa using hcl⟩
   ·have hpl:=hp h0
    have hfit2:off + n * sz + 0 + news.length ≤ (pre ++ (vs ++ j)).length:=by rw [List.length_append,hpl]; omega
    refine ⟨stsOk_row news h _ _ 0 hr hfit2 hcell,?_⟩
    refine hK _ c (some b) _ ⟨by simp [hvl,hl,Nat.add_mul],nofun,fun b' e=>?_⟩ (.inl ⟨rfl,kept_setcs h _ _ _ rfl⟩)
    obtain rfl:=Option.some.inj e
    refine ⟨off,rfl,hc,pre,j.drop news.length,fun _=>hpl,?_,?_⟩
    ·have:=row_setcs news h _ (off + n * sz) 0 hr hfit2
     rw [Nat.add_zero] at this
     have e1:ovw (pre ++ (vs ++ j)) (off + n * sz) news=pre ++ (vs ++ news ++ j.drop news.length):=by
      unfold ovw
      rw [← hvl,← hpl]
      have t1:(pre ++ (vs ++ j)).take (pre.length + vs.length)=pre ++ vs:=by
       rw [← List.append_assoc,List.take_append_of_le_length (by simp),List.take_of_length_le (by simp)]
      have t2:(pre ++ (vs ++ j)).drop (pre.length + vs.length + news.length)=j.drop news.length:=by
       rw [← List.append_assoc,List.drop_append,List.drop_eq_nil_of_le (by simp),List.nil_append]
       congr 1
       simp
      rw [t1,t2]
      simp
     rwa [e1] at this
    ·rw [List.length_append,List.length_drop,hl]
     rw [List.length_append,hcl] at hfit
     omega
 ·refine ⟨vs,?_,hvl,fun nc h1 h2=>?_⟩
  ·cases ob with
   | none =>
    obtain ⟨rfl,rfl,rfl⟩:=s.nil rfl
    exact List.length_eq_zero_iff.1 (by omega)
   | some b =>
    obtain ⟨off,rfl,hnc,pre,j,hp,hr,hcl⟩:=s.row b rfl
    by_cases h0:c=0
    ·have:vs=[]:=List.length_eq_zero_iff.1 (by have:n=0:=(by omega); rw [hvl,this]; omega)
     subst this
     intro i v hv
     simp at hv
    ·exact reads_row hr fun i v hv=>by
      rw [List.getElem?_append_right (by have:=hp h0; omega),hp h0,Nat.add_sub_cancel_left,List.getElem?_append_left (List.getElem?_eq_some_iff.1 hv).1]; exact hv
  ·refine hK _ nc (some h.size) _ ⟨by simp [hvl,hl,Nat.add_mul],nofun,fun b' hb'=>?_⟩ (.inr ⟨rfl,kept_push _ _ _⟩)
   obtain rfl:h.size=b':=by simpa using hb'
   refine ⟨0,rfl,h1,[],(zrow z ((nc - (n + m)) * z.size)).toList,fun _=>rfl,?_,?_⟩
   ·have:=row_new h (vs.toArray ++ news.toArray ++ zrow z ((nc - (n + m)) * z.size)) e
    simpa using this
   ·have e1:(zrow z ((nc - (n + m)) * z.size)).toList.length=(nc - (n + m)) * sz:=by
     rw [Array.length_toList,zrow_len,hz]
    rw [e1,List.length_append,hvl,hl,← Nat.add_mul,← Nat.add_mul]
    congr 1
    omega
end Go.Ev
