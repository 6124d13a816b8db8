/- Blocks of cells, slices that own a block, append / Printed by a program (own work) out of the loaded functions: what each says of the heap, and that the evaluator says the same. No condition but that these are ones. -/
import Derived.Test.YtngcoodbepbhbaaE3
import Derived.Test.YtngcoodbepbhbaaProg
set_option linter.all false
namespace Go.Ev
/-! ### Blocks of cells -/
def ad (b:Nat):Addr:=⟨b,0,none⟩
def Row (h:Hp) (b:Nat) (cs:List Value):Prop:=∃ t,h[b]?=some (.cells cs.toArray t (0,0))
def Kept (S:Nat→Prop) (h h':Hp):Prop:=h.size ≤ h'.size∧∀ b,b < h.size→¬ S b→h'[b]?=h[b]?
theorem Kept.refl (S:Nat→Prop) (h:Hp):Kept S h h:=⟨Nat.le_refl _,fun _ _ _=>rfl⟩
theorem Kept.trans {S:Nat→Prop} {a b c:Hp} (h:Kept S a b) (k:Kept S b c):Kept S a c :=
 ⟨Nat.le_trans h.1 k.1,fun i hi hs=>(k.2 i (Nat.lt_of_lt_of_le hi h.1) hs).trans (h.2 i hi hs)⟩
theorem Kept.mono {S T:Nat→Prop} {a b:Hp} (h:Kept S a b) (hst:∀ i,i < a.size→S i→T i):Kept T a b :=
 ⟨h.1,fun i hi ht=>h.2 i hi fun hs=>ht (hst i hi hs)⟩
theorem add_mk (b o n:Nat):(⟨b,o,none⟩:Addr).add n=⟨b,o + n,none⟩:=by
 unfold Addr.add
 split
 ·rename_i h; subst h; rfl
 ·rfl
theorem add_ad (b n:Nat):(ad b).add n=⟨b,n,none⟩:=by rw [ad,add_mk,Nat.zero_add]
theorem row_lt {h:Hp} {b:Nat} {cs:List Value} (hr:Row h b cs):b < h.size:=by
 obtain ⟨t,ht⟩:=hr
 exact (Array.getElem?_eq_some_iff.1 ht).1
theorem cell_row {h:Hp} {b:Nat} {cs:List Value} (hr:Row h b cs) (o:Nat):cell h ⟨b,o,none⟩=cs[o]?:=by
 obtain ⟨t,ht⟩:=hr
 unfold cell
 simp only [ht]
 simp
theorem cell_ad {h:Hp} {b:Nat} {cs:List Value} (hr:Row h b cs):cell h (ad b)=cs[0]?:=cell_row hr 0
theorem frz_row {h:Hp} {b:Nat} {cs:List Value} (hr:Row h b cs) (o:Nat):frz h ⟨b,o,none⟩=false:=by
 obtain ⟨t,ht⟩:=hr
 unfold frz
 simp only [ht]
 simp
theorem stOk_row {h:Hp} {b:Nat} {cs:List Value} (hr:Row h b cs) {o:Nat} (ho:o < cs.length):stOk h ⟨b,o,none⟩ :=
 ⟨⟨_,by rw [cell_row hr,List.getElem?_eq_getElem ho]⟩,frz_row hr o⟩
theorem size_setc (h:Hp) (a:Addr) (v:Value):(setc h a v).size=h.size:=by simp [setc]
theorem setc_ne (h:Hp) (a:Addr) (v:Value) {b:Nat} (hb:b ≠ a.block):(setc h a v)[b]?=h[b]?:=by
 unfold setc
 rw [Array.getElem?_modify,if_neg (fun e=>hb e.symm)]
theorem row_setc {h:Hp} {b:Nat} {cs:List Value} (hr:Row h b cs) (o:Nat) (v:Value):Row (setc h ⟨b,o,none⟩ v) b (cs.set o v):=by
 obtain ⟨t,ht⟩:=hr
 refine ⟨t,?_⟩
 unfold setc
 rw [Array.getElem?_modify,if_pos rfl,ht]
 simp
theorem row_setc_ne {h:Hp} {b:Nat} {cs:List Value} (hr:Row h b cs) {a:Addr} (v:Value) (hb:b ≠ a.block):Row (setc h a v) b cs:=by
 obtain ⟨t,ht⟩:=hr
 exact ⟨t,by rw [setc_ne _ _ _ hb]; exact ht⟩
theorem row_keep {h h':Hp} {b:Nat} {cs:List Value} (hr:Row h b cs) (e:h'[b]?=h[b]?):Row h' b cs:=by
 obtain ⟨t,ht⟩:=hr
 exact ⟨t,by rw [e]; exact ht⟩
theorem push_old (h:Hp) (o:Obj) {b:Nat} (hb:b < h.size):(h.push o)[b]?=h[b]?:=by
 rw [Array.getElem?_push,if_neg (by omega)]
theorem row_push {h:Hp} {b:Nat} {cs:List Value} (hr:Row h b cs) (o:Obj):Row (h.push o) b cs:=row_keep hr (push_old h o (row_lt hr))
theorem row_new (h:Hp) (cs:Array Value) (t:TypeId):Row (h.push (.cells cs t)) h.size cs.toList:=⟨t,by simp⟩
theorem kept_setc (h:Hp) {b:Nat} (o:Nat) (v:Value) {S:Nat→Prop} (hS:S b):Kept S h (setc h ⟨b,o,none⟩ v) :=
 ⟨by rw [size_setc]; exact Nat.le_refl _,fun i _ hi=>setc_ne h _ v (fun e=>hi (e ▸ hS))⟩
theorem kept_push (h:Hp) (o:Obj) (S:Nat→Prop):Kept S h (h.push o):=⟨by simp,fun i hi _=>push_old h o hi⟩
theorem kept_row {S:Nat→Prop} {h h':Hp} (k:Kept S h h') {b:Nat} {cs:List Value} (hr:Row h b cs) (hb:¬ S b):Row h' b cs:=row_keep hr (k.2 b (row_lt hr) hb)

/-- cells overwritten from a place on -/
def ovw (cs:List Value) (o:Nat) (l:List Value):List Value:=cs.take o ++ l ++ cs.drop (o + l.length)
theorem ovw_len {cs l:List Value} {o:Nat} (h:o + l.length ≤ cs.length):(ovw cs o l).length=cs.length:=by simp [ovw]; omega
theorem ovw_set {cs:List Value} {o:Nat} {v:Value} {l:List Value} (h:o + (v :: l).length ≤ cs.length):ovw (cs.set o v) (o + 1) l=ovw cs o (v :: l):=by
 simp only [List.length_cons] at h
 have ho:o < cs.length:=by omega
 have e:cs.set o v=cs.take o ++ v :: cs.drop (o + 1):=by rw [List.set_eq_take_append_cons_drop,if_pos ho]
 have hl:(cs.take o).length=o:=by rw [List.length_take]; omega
 have e1:(cs.set o v).take (o + 1)=cs.take o ++ [v]:=by
  rw [e,List.take_append,hl,List.take_of_length_le (by omega),show o + 1 - o=1 by omega]
  rfl
 have e2:(cs.set o v).drop (o + 1 + l.length)=cs.drop (o + (l.length + 1)):=by
  rw [e,List.drop_append,hl,List.drop_of_length_le (by omega),show o + 1 + l.length - o=l.length + 1 by omega,List.drop_succ_cons,List.drop_drop,List.nil_append]
  congr 1
  omega
 unfold ovw
 rw [e1,List.length_cons,e2]
 simp
theorem row_setcs {b:Nat}:∀ (l:List Value) (h:Hp) (cs:List Value) (o i:Nat),Row h b cs→o + i + l.length ≤ cs.length→Row (setcs h ⟨b,o,none⟩ l i) b (ovw cs (o + i) l):=by
 intro l
 induction l with
 | nil=>intro h cs o i hr hl; unfold setcs ovw; simpa using hr
 | cons v l ih =>
  intro h cs o i hr hl
  unfold setcs
  rw [add_mk]
  have:=ih (setc h ⟨b,o + i,none⟩ v) (cs.set (o + i) v) o (i + 1) (row_setc hr _ _) (by simp at hl ⊢; omega)
  rwa [← Nat.add_assoc,ovw_set (by simpa using hl)] at this
theorem stsOk_row {b:Nat}:∀ (l:List Value) (h:Hp) (cs:List Value) (o i:Nat),Row h b cs→o + i + l.length ≤ cs.length→(∀ v ∈ l,isCell v=true)→stsOk h ⟨b,o,none⟩ l i:=by
 intro l
 induction l with
 | nil=>intros; trivial
 | cons v l ih =>
  intro h cs o i hr hl hc
  refine ⟨hc v (List.mem_cons_self ..),?_,?_⟩
  ·rw [add_mk]; exact stOk_row hr (by simp at hl; omega)
  ·rw [add_mk]
   exact ih _ (cs.set (o + i) v) o (i + 1) (row_setc hr _ _) (by simp at hl ⊢; omega) fun u hu=>hc u (List.mem_cons_of_mem _ hu)
theorem setcs_ne {b:Nat}:∀ (l:List Value) (h:Hp) (o i:Nat) {k:Nat},k ≠ b→(setcs h ⟨b,o,none⟩ l i)[k]?=h[k]?:=by
 intro l
 induction l with
 | nil=>intros; rfl
 | cons v l ih =>
  intro h o i k hk
  unfold setcs
  rw [ih _ _ _ hk,add_mk,setc_ne _ _ _ hk]
theorem size_setcs {b:Nat}:∀ (l:List Value) (h:Hp) (o i:Nat),(setcs h ⟨b,o,none⟩ l i).size=h.size:=by
 intro l
 induction l with
 | nil=>intros; rfl
 | cons v l ih=>intro h o i; unfold setcs; rw [ih,size_setc]
theorem kept_setcs (h:Hp) {b:Nat} (o i:Nat) (l:List Value) {S:Nat→Prop} (hS:S b):Kept S h (setcs h ⟨b,o,none⟩ l i) :=
 ⟨by rw [size_setcs]; exact Nat.le_refl _,fun k _ hk=>setcs_ne l h o i (fun e=>hk (e ▸ hS))⟩
theorem reads_row {h:Hp} {b:Nat} {cs:List Value} (hr:Row h b cs) {o:Nat} {l:List Value} (hl:∀ j v,l[j]?=some v→cs[o + j]?=some v):Reads h ⟨b,o,none⟩ l:=by
 intro j v hj
 rw [add_mk,cell_row hr]
 exact hl j v hj

/-! ### Slices that own a row from its head -/
structure SlAt (sz:Nat) (h:Hp) (a:Option Addr) (n c:Nat) (ob:Option Nat) (vs:List Value):Prop where
 len:vs.length=n * sz
 nil:ob=none→a=none∧n=0∧c=0
 row:∀ b,ob=some b→a=some (ad b)∧n ≤ c∧∃ junk,Row h b (vs ++ junk)∧vs.length + junk.length=c * sz
theorem SlAt.keep {sz:Nat} {h h':Hp} {a:Option Addr} {n c:Nat} {ob:Option Nat} {vs:List Value} (s:SlAt sz h a n c ob vs) (hk:∀ b,ob=some b→h'[b]?=h[b]?):SlAt sz h' a n c ob vs :=
 ⟨s.len,s.nil,fun b hb=>by obtain ⟨h1,h2,j,h3,h4⟩:=s.row b hb; exact ⟨h1,h2,j,row_keep h3 (hk b hb),h4⟩⟩
theorem slAt_nil (sz:Nat) (h:Hp):SlAt sz h none 0 0 none []:=⟨by simp,fun _=>⟨rfl,rfl,rfl⟩,fun b hb=>by cases hb⟩
theorem SlAt.lt {sz:Nat} {h:Hp} {a:Option Addr} {n c b:Nat} {vs:List Value} (s:SlAt sz h a n c (some b) vs):b < h.size:=by
 obtain ⟨_,_,j,hr,_⟩:=s.row b rfl
 exact row_lt hr
theorem SlAt.cell {sz:Nat} {h:Hp} {a:Option Addr} {n c b:Nat} {vs:List Value} (s:SlAt sz h a n c (some b) vs) {o:Nat} (ho:o < vs.length):cell h ⟨b,o,none⟩=vs[o]?:=by
 obtain ⟨_,_,j,hr,_⟩:=s.row b rfl
 rw [cell_row hr,List.getElem?_append_left ho]
theorem SlAt.set {sz:Nat} {h:Hp} {a:Option Addr} {n c b:Nat} {vs:List Value} (s:SlAt sz h a n c (some b) vs) {o:Nat} (ho:o < vs.length) (v:Value) :
  stOk h ⟨b,o,none⟩∧SlAt sz (setc h ⟨b,o,none⟩ v) a n c (some b) (vs.set o v):=by
 obtain ⟨h1,h2,j,hr,hc⟩:=s.row b rfl
 refine ⟨stOk_row hr (by simp; omega),by rw [List.length_set]; exact s.len,nofun,fun b' hb=>?_⟩
 obtain rfl:b=b':=by simpa using hb
 refine ⟨h1,h2,j,?_,by simpa using hc⟩
 have:=row_setc hr o v
 rwa [List.set_append_left _ _ ho] at this
theorem zrow_one (v:Value) (n:Nat):zrow #[v] (n * 1)=(List.replicate n v).toArray:=by
 rw [Nat.mul_one]
 unfold zrow
 apply Array.ext'
 apply List.ext_getElem?
 intro i
 simp only [Array.toList_map,Array.toList_range,List.getElem?_map]
 by_cases hi:i < n
 ·rw [List.getElem?_range hi,Option.map_some,List.getElem?_replicate,if_pos hi]
  simp [Nat.mod_one]
 ·rw [List.getElem?_eq_none (by simp; omega),List.getElem?_eq_none (by simp; omega)]
  rfl
theorem zrow_len (z:Array Value) (n:Nat):(zrow z n).size=n:=by simp [zrow]

/-- append: what follows for the appended slice, wherever it lies. -/
theorem appT_ok2 {e sz bys:Nat} {z:Array Value} {a:Option Addr} {n c m:Nat} {ob:Option Nat} {vs news:List Value} {h:Hp} {K:Option Addr→Nat→Nat→Hp→Prop}
  (s:SlAt sz h a n c ob vs) (hz:z.size=sz) (hl:news.length=m * sz) (hcell:∀ v ∈ news,isCell v=true) (hb:(2 * (n + m) + 768) * bys ≤ 2 ^ 48) (hlt:n + m < 2 ^ 62)
  (hK:∀ a' c' ob' h',SlAt sz h' a' (n + m) c' ob' (vs ++ news)→(ob'=ob∧Kept (fun b=>ob=some b) h h' ∨ ob'=some h.size∧Kept (fun _=>False) h h')→K a' (n + m) c' h') :
  appT e sz bys z a n c (n + m) news h K:=by
 have hvl:=s.len
 refine ⟨fun hc=>?_,fun hc=>⟨hb,hlt,?_⟩⟩
 ·cases ob with
  | none =>
   obtain ⟨rfl,rfl,rfl⟩:=s.nil rfl
   obtain rfl:m=0:=by omega
   have hn:news=[]:=List.length_eq_zero_iff.1 (by omega)
   have hv:vs=[]:=List.length_eq_zero_iff.1 (by omega)
   subst hn hv
   exact hK none 0 none h (slAt_nil sz h) (.inl ⟨rfl,Kept.refl _ _⟩)
  | some b =>
   obtain ⟨rfl,h2,j,hr,hcl⟩:=s.row b rfl
   show stsOk h ((ad b).add (n * sz)) news 0∧_
   rw [add_ad]
   have hfit:n * sz + 0 + news.length ≤ (vs ++ j).length:=by
    rw [List.length_append,hcl,hl]
    have:=Nat.mul_le_mul_right sz hc
    rw [Nat.add_mul] at this
    omega
   refine ⟨stsOk_row news h _ _ 0 hr hfit hcell,?_⟩
   refine hK (some (ad b)) c (some b) _ ⟨by simp [hvl,hl,Nat.add_mul],nofun,fun b' hb'=>?_⟩ (.inl ⟨rfl,kept_setcs h _ _ _ rfl⟩)
   obtain rfl:b=b':=by simpa using hb'
   refine ⟨rfl,hc,j.drop news.length,?_,?_⟩
   ·have:=row_setcs news h _ (n * sz) 0 hr hfit
    rw [Nat.add_zero] at this
    have e1:ovw (vs ++ j) (n * sz) news=vs ++ news ++ j.drop news.length:=by
     unfold ovw
     rw [← hvl,List.take_left,List.drop_append]
     congr 2
     ·rw [List.drop_eq_nil_of_le (by omega)]
      simp
    rwa [e1] at this
   ·rw [List.length_append,List.length_drop,hl]
    rw [List.length_append,hcl] at hfit
    omega
 ·refine ⟨vs,?_,hvl,fun nc h1 h2=>?_⟩
  ·cases ob with
   | none =>
    obtain ⟨rfl,rfl,rfl⟩:=s.nil rfl
    exact List.length_eq_zero_iff.1 (by omega)
   | some b =>
    obtain ⟨rfl,_,j,hr,_⟩:=s.row b rfl
    exact reads_row hr fun i v hv=>by
     rw [Nat.zero_add,List.getElem?_append_left (List.getElem?_eq_some_iff.1 hv).1]; exact hv
  ·refine hK _ nc (some h.size) _ ⟨by simp [hvl,hl,Nat.add_mul],nofun,fun b' hb'=>?_⟩ (.inr ⟨rfl,kept_push _ _ _⟩)
   obtain rfl:h.size=b':=by simpa using hb'
   refine ⟨rfl,h1,(zrow z ((nc - (n + m)) * z.size)).toList,?_,?_⟩
   ·have:=row_new h (vs.toArray ++ news.toArray ++ zrow z ((nc - (n + m)) * z.size)) e
    simpa using this
   ·have e1:(zrow z ((nc - (n + m)) * z.size)).toList.length=(nc - (n + m)) * sz:=by
     rw [Array.length_toList,zrow_len,hz]
    rw [e1,List.length_append,hvl,hl,← Nat.add_mul,← Nat.add_mul]
    congr 1
    omega
theorem Cond_dec {p:Prop} [Decidable p] {A B:Prop} (h1:p→A) (h2:¬ p→B):Cond (decide p) A B:=by
 by_cases h:p
 ·simp only [h,decide_true]; exact h1 h
 ·simp only [h,decide_false]; exact h2 h
theorem Cond_t {t:Bool} {A B:Prop} (h:t=true) (h1:A):Cond t A B:=by subst h; exact h1
theorem Cond_f {t:Bool} {A B:Prop} (h:t=false) (h1:B):Cond t A B:=by subst h; exact h1
end Go.Ev
namespace Go.Ev
open Go.Proofs
def tkL:List (List VK):=[[],[.any],[.int .i64],[.int .i64],[.bool],[.int .u8],[.int .u8],[.int .i64,.int .i64,.bool,.int .u8],[.int .i64,.int .i64,.bool,.int .u8],[.str],[.str],[.str],[.int .u64],[.str,.int .u64],[.str,.int .u64],[.ptr],[.ptr],[.ptr],[.ptr],[.ptr],[.any],[.int .i32],[.sl],[.sl],[.sl,.int .i64,.int .i64,.sl,.bool],[.sl,.int .i64,.int .i64,.sl,.bool],[.ptr],[.int .i64],[],[.any],[.any],[.any],[.ptr],[],[.any],[.int .i64,.int .i64],[.any],[.any],[],[.any],[.any],[.int .i64,.int .i64,.int .i64,.int .i64,.int .i64,.int .i64,.int .i64,.int .i64,.int .i64],[.int .i64,.int .i64,.int .i64,.int .i64,.int .i64,.int .i64,.int .i64,.int .i64,.int .i64],[.any],[.any],[.any],[.any],[],[.any],[.any],[],[.any],[.any],[],[.any],[],[.any],[.any],[.any],[.any],[.any],[.any],[.sl],[.sl],[.sl,.sl],[.sl,.sl],[.ptr,.ptr],[.int .i64,.int .i64,.int .i64,.bool,.int .i64,.int .i64,.sl],[.int .i64,.int .i64,.int .i64,.bool,.int .i64,.int .i64,.sl],[.any],[.any],[.any],[.int .i64,.sl],[.int .i64,.sl],[.ptr],[.any],[.ptr,.ptr,.ptr,.ptr],[.ptr],[.sl],[.sl],[.sl],[.sl],[.sl],[.sl],[.sl],[.sl],[.sl],[.sl,.sl,.int .i64,.sl,.sl,.int .i64,.sl,.sl,.int .i64,.sl,.sl,.int .i64,.sl,.sl,.int .i64,.sl,.sl,.int .i64,.sl,.sl,.int .i64,.sl,.sl,.int .i64,.sl,.sl,.int .i64,.sl,.sl,.int .i64,.int .i64,.int .i64,.int .i64],[.sl,.sl,.int .i64,.sl,.sl,.int .i64,.sl,.sl,.int .i64,.sl,.sl,.int .i64,.sl,.sl,.int .i64,.sl,.sl,.int .i64,.sl,.sl,.int .i64,.sl,.sl,.int .i64,.sl,.sl,.int .i64,.sl,.sl,.int .i64,.int .i64,.int .i64,.int .i64],[.sl,.sl,.sl,.sl,.sl,.sl,.sl,.sl,.sl,.sl,.sl,.sl,.sl,.sl,.sl,.sl,.sl,.sl,.sl,.sl,.sl,.sl,.sl,.sl,.sl,.sl,.sl,.sl,.sl,.sl,.sl,.sl,.sl,.sl,.sl,.sl,.sl,.sl,.sl,.sl,.sl,.sl,.sl,.sl,.sl,.sl,.sl,.sl,.sl,.sl,.sl,.sl,.sl,.sl,.sl,.sl,.sl,.sl,.sl,.sl,.sl,.sl,.sl,.sl],[],[],[.any],[.any],[.any],[.any],[.any],[.any],[.ptr],[.sl],[.sl],[.sl],[.int .i64,.ptr,.ptr,.sl,.sl,.sl,.int .i64,.int .i64,.int .i64,.sl,.int .i64,.int .i64,.int .i64,.int .i64,.int .i64,.int .i64,.int .i64,.int .i64,.int .i64],[.int .i64,.ptr,.ptr,.sl,.sl,.sl,.int .i64,.int .i64,.int .i64,.sl,.int .i64,.int .i64,.int .i64,.int .i64,.int .i64,.int .i64,.int .i64,.int .i64,.int .i64],[],[.any],[.int .u64],[],[.any],[.any],[.any],[.any],[.any],[.any],[.any],[.ptr,.int .i64],[.ptr,.int .i64],[.any],[.any],[.any],[.any],[.any],[.int .i64,.int .i64,.int .i64,.int .i64,.int .i64,.int .i64,.int .i64,.int .i64,.int .i64,.int .i64,.int .i64,.int .i64,.int .i64,.int .i64,.int .i64],[.int .u64],[.any],[.any],[.any],[.any],[.any],[.sl],[.int .i64,.sl,.sl],[.int .i64,.sl,.sl],[.any],[.any],[.any],[.any],[.any],[.any],[.any],[.any],[.bool,.int .u64],[.bool,.int .u64],[.any],[],[.any],[.any],[.int .i64,.int .i64,.int .i64,.int .i64],[.sl],[.bool,.bool,.bool,.bool],[.int .i64,.sl,.int .i64,.int .i64,.int .i64,.int .i64,.bool,.bool,.bool,.bool],[.int .i64,.sl,.int .i64,.int .i64,.int .i64,.int .i64,.bool,.bool,.bool,.bool],[.any],[.any],[.any],[.any],[.any],[.any],[.any],[],[.any],[.any],[.any],[.any],[.any],[],[.any],[],[.any],[.any],[.any],[.any],[.any],[.ptr,.ptr,.ptr,.str],[.ptr,.ptr,.ptr,.str],[],[],[],[.int .u32],[.int .u8],[.int .u8],[.any],[.ptr],[.int .i32],[.int .i32],[.int .u64,.int .u64,.int .u32,.int .u8,.int .u8,.int .u8,.int .u8,.any,.ptr,.int .i32,.int .i32],[.int .u64,.int .u64,.int .u32,.int .u8,.int .u8,.int .u8,.int .u8,.any,.ptr,.int .i32,.int .i32],[.any],[.any],[.any],[.any],[.any],[.any],[.any],[],[.any],[.any],[.sl,.int .i64],[.sl,.int .i64],[.sl],[.sl],[.sl],[.sl],[.sl],[.sl],[.sl],[],[.any],[.any],[.sl,.int .i64],[.sl,.int .i64],[.sl,.sl],[.sl,.sl],[.int .i64,.int .i64,.sl,.sl],[.int .i64,.int .i64,.sl,.sl],[.int .i64,.str],[.int .i64,.str],[.int .i64,.sl],[.int .i64,.sl],[.int .i64,.int .u64,.sl],[.int .i64,.int .u64,.sl],[.str,.int .i64,.bool,.int .i64,.int .i64,.int .i64,.int .i64],[.str,.int .i64,.bool,.int .i64,.int .i64,.int .i64,.int .i64]]
def rkL:List (List RK):=[[],[],[],[.leaf .bool],[.leaf .bool],[.leaf .bool],[.leaf .bool],[.leaf .bool],[.leaf .bool],[.leaf .ptr,.leaf (.int .i64)],[.leaf (.int .i64)],[.leaf (.int .i64)],[.leaf .ptr,.leaf (.int .i64)],[.leaf (.int .i64)],[.leaf (.int .i64)],[.leaf .sl,.leaf (.int .i64)],[.leaf (.int .i64)],[.agg [.int .i64,.int .i64,.int .i64,.int .i64,.int .i64,.int .i64,.int .i64,.int .i64,.int .i64]],[.leaf .bool],[.leaf (.int .i64)],[.leaf .ptr,.leaf .ptr,.leaf .sl],[.leaf .bool],[.leaf .sl,.leaf (.int .i64)],[.leaf .sl,.leaf (.int .i64)],[.leaf (.int .i64)],[.leaf .sl,.leaf (.int .i64)],[.leaf (.int .i64),.leaf (.int .i64)],[.leaf .ptr],[.leaf .bool],[.leaf .sl],[.leaf .bool],[],[.leaf (.int .i64)],[.leaf .sl],[.leaf .ptr],[.leaf .any],[.leaf .sl],[.leaf .bool],[],[.leaf .ptr,.leaf (.int .i64)],[.leaf (.int .u64),.leaf (.int .i64)],[.leaf .ptr,.leaf (.int .i64)],[.leaf (.int .i64)],[.leaf (.int .u64),.leaf (.int .i64)],[],[.leaf (.int .u64)],[.leaf .sl],[.leaf (.int .u64)],[.leaf (.int .u64)],[.leaf (.int .i64)],[.leaf (.int .i64)],[.leaf (.int .i64)],[.leaf (.int .u64)],[.leaf (.int .u64),.leaf (.int .i64)],[],[.leaf .bool],[],[],[],[.leaf .bool],[.leaf (.int .i64)],[.leaf .ptr],[],[.leaf (.int .i64)],[.leaf (.int .u64),.leaf (.int .i64)],[.leaf (.int .i64),.leaf (.int .i64)],[.leaf (.int .i64),.leaf (.int .i64)],[.leaf (.int .u64),.leaf (.int .i64)],[.leaf .sl,.leaf (.int .i64)],[.leaf (.int .u64),.leaf (.int .i64)],[.leaf (.int .u64),.leaf (.int .i64)],[.leaf (.int .i64)],[],[.leaf (.int .u64)],[.leaf (.int .i64)],[.leaf (.int .i64)],[.leaf (.int .i64),.leaf (.int .i64),.leaf (.int .i64),.leaf (.int .i64)],[.leaf (.int .i64),.leaf (.int .i64)],[.leaf .bool],[.leaf (.int .u64),.leaf (.int .i64)],[.leaf (.int .i64)],[.leaf .bool],[.leaf (.int .i64),.leaf (.int .i64)],[.leaf .sl,.leaf (.int .i64)],[.leaf .any,.leaf (.int .i64),.leaf .bool],[.leaf (.int .i64)],[.leaf (.int .i64)],[.leaf .bool],[.leaf (.int .i64),.leaf (.int .i64),.leaf (.int .i64),.leaf (.int .i64)],[.leaf (.int .i64),.leaf .bool,.leaf (.int .i64)],[.leaf .sl,.leaf (.int .i64),.leaf (.int .i64)],[.leaf (.int .i64),.leaf (.int .i64),.leaf (.int .i64),.leaf (.int .i64)],[.leaf .sl,.leaf (.int .i64)],[.leaf .str],[],[.leaf .str],[],[.leaf .str],[],[.leaf .str],[],[.leaf .str],[],[.leaf .str],[],[.leaf (.int .i64)],[.leaf .str],[],[.leaf .str],[.leaf .bool],[],[.leaf (.int .i64)],[.leaf (.int .i64)],[.leaf .bool],[.leaf .sl],[.leaf .sl],[.leaf .sl],[],[.leaf (.int .i64),.leaf (.int .i64)],[.leaf (.int .i64)],[.leaf .bool],[.leaf .sl,.leaf (.int .i64)],[.leaf (.int .u64),.leaf (.int .i64)],[.leaf (.int .i64)],[.leaf (.int .i64)],[.leaf .sl,.leaf (.int .i64)],[.leaf .str]]
def rtL:List (List RK):=[[],[.leaf .any],[.leaf (.int .i64)],[.leaf (.int .i64)],[.leaf .bool],[.leaf (.int .u8)],[.leaf (.int .u8)],[.agg [.int .i64,.int .i64,.bool,.int .u8]],[.agg [.int .i64,.int .i64,.bool,.int .u8]],[.leaf .str],[.leaf .str],[.leaf .str],[.leaf (.int .u64)],[.agg [.str,.int .u64]],[.agg [.str,.int .u64]],[.leaf .ptr],[.leaf .ptr],[.leaf .ptr],[.agg [.ptr]],[.agg [.ptr]],[.leaf .any],[.leaf (.int .i32)],[.leaf .sl],[.leaf .sl],[.agg [.sl,.int .i64,.int .i64,.sl,.bool]],[.agg [.sl,.int .i64,.int .i64,.sl,.bool]],[.leaf .ptr],[.leaf (.int .i64)],[.leaf .ptr,.leaf (.int .i64)],[.leaf .any],[.leaf .any],[.leaf .any],[.leaf .ptr],[.leaf .ptr,.leaf (.int .i64)],[.leaf .any],[.agg [.int .i64,.int .i64]],[.leaf .any],[.leaf .any],[.leaf .sl,.leaf (.int .i64)],[.leaf .any],[.leaf .any],[.agg [.int .i64,.int .i64,.int .i64,.int .i64,.int .i64,.int .i64,.int .i64,.int .i64,.int .i64]],[.agg [.int .i64,.int .i64,.int .i64,.int .i64,.int .i64,.int .i64,.int .i64,.int .i64,.int .i64]],[.leaf .any],[.leaf .any],[.leaf .any],[.leaf .any],[.leaf .ptr,.leaf .ptr,.leaf .sl],[.leaf .any],[.leaf .any],[.leaf .sl,.leaf (.int .i64)],[.leaf .any],[.leaf .any],[.leaf .sl,.leaf (.int .i64)],[.leaf .any],[.leaf (.int .i64),.leaf (.int .i64)],[.leaf .any],[.leaf .any],[.leaf .any],[.leaf .any],[.leaf .any],[.leaf .any],[.leaf .sl],[.leaf .sl],[.agg [.sl,.sl]],[.agg [.sl,.sl]],[.agg [.ptr,.ptr]],[.agg [.int .i64,.int .i64,.int .i64,.bool,.int .i64,.int .i64,.sl]],[.agg [.int .i64,.int .i64,.int .i64,.bool,.int .i64,.int .i64,.sl]],[.leaf .any],[.leaf .any],[.leaf .any],[.agg [.int .i64,.sl]],[.agg [.int .i64,.sl]],[.leaf .ptr],[.leaf .any],[.agg [.ptr,.ptr,.ptr,.ptr]],[.leaf .ptr],[.leaf .sl],[.leaf .sl],[.leaf .sl],[.leaf .sl],[.leaf .sl],[.leaf .sl],[.leaf .sl],[.leaf .sl],[.leaf .sl],[.agg [.sl,.sl,.int .i64,.sl,.sl,.int .i64,.sl,.sl,.int .i64,.sl,.sl,.int .i64,.sl,.sl,.int .i64,.sl,.sl,.int .i64,.sl,.sl,.int .i64,.sl,.sl,.int .i64,.sl,.sl,.int .i64,.sl,.sl,.int .i64,.int .i64,.int .i64,.int .i64]],[.agg [.sl,.sl,.int .i64,.sl,.sl,.int .i64,.sl,.sl,.int .i64,.sl,.sl,.int .i64,.sl,.sl,.int .i64,.sl,.sl,.int .i64,.sl,.sl,.int .i64,.sl,.sl,.int .i64,.sl,.sl,.int .i64,.sl,.sl,.int .i64,.int .i64,.int .i64,.int .i64]],[.agg [.sl,.sl,.sl,.sl,.sl,.sl,.sl,.sl,.sl,.sl,.sl,.sl,.sl,.sl,.sl,.sl,.sl,.sl,.sl,.sl,.sl,.sl,.sl,.sl,.sl,.sl,.sl,.sl,.sl,.sl,.sl,.sl,.sl,.sl,.sl,.sl,.sl,.sl,.sl,.sl,.sl,.sl,.sl,.sl,.sl,.sl,.sl,.sl,.sl,.sl,.sl,.sl,.sl,.sl,.sl,.sl,.sl,.sl,.sl,.sl,.sl,.sl,.sl,.sl]],[],[],[.leaf .any],[.leaf .any],[.leaf .any],[.leaf .any],[.leaf .any],[.leaf .any],[.leaf .ptr],[.leaf .sl],[.leaf .sl],[.leaf .sl],[.agg [.int .i64,.ptr,.ptr,.sl,.sl,.sl,.int .i64,.int .i64,.int .i64,.sl,.int .i64,.int .i64,.int .i64,.int .i64,.int .i64,.int .i64,.int .i64,.int .i64,.int .i64]],[.agg [.int .i64,.ptr,.ptr,.sl,.sl,.sl,.int .i64,.int .i64,.int .i64,.sl,.int .i64,.int .i64,.int .i64,.int .i64,.int .i64,.int .i64,.int .i64,.int .i64,.int .i64]],[.leaf .ptr,.leaf (.int .i64)],[.leaf .any],[.leaf (.int .u64)],[.leaf (.int .u64),.leaf (.int .i64)],[.leaf .any],[.leaf .any],[.leaf .any],[.leaf .any],[.leaf .any],[.leaf .any],[.leaf .any],[.agg [.ptr,.int .i64]],[.agg [.ptr,.int .i64]],[.leaf .any],[.leaf .any],[.leaf .any],[.leaf .any],[.leaf .any],[.agg [.int .i64,.int .i64,.int .i64,.int .i64,.int .i64,.int .i64,.int .i64,.int .i64,.int .i64,.int .i64,.int .i64,.int .i64,.int .i64,.int .i64,.int .i64]],[.leaf (.int .u64)],[.leaf .any],[.leaf .any],[.leaf .any],[.leaf .any],[.leaf .any],[.leaf .sl],[.agg [.int .i64,.sl,.sl]],[.agg [.int .i64,.sl,.sl]],[.leaf .any],[.leaf .any],[.leaf .any],[.leaf .any],[.leaf .any],[.leaf .any],[.leaf .any],[.leaf .any],[.agg [.bool,.int .u64]],[.agg [.bool,.int .u64]],[.leaf .any],[.leaf (.int .i64),.leaf (.int .i64),.leaf (.int .i64),.leaf (.int .i64)],[.leaf .any],[.leaf .any],[.agg [.int .i64,.int .i64,.int .i64,.int .i64]],[.leaf .sl],[.agg [.bool,.bool,.bool,.bool]],[.agg [.int .i64,.sl,.int .i64,.int .i64,.int .i64,.int .i64,.bool,.bool,.bool,.bool]],[.agg [.int .i64,.sl,.int .i64,.int .i64,.int .i64,.int .i64,.bool,.bool,.bool,.bool]],[.leaf .any],[.leaf .any],[.leaf .any],[.leaf .any],[.leaf .any],[.leaf .any],[.leaf .any],[.leaf .any,.leaf (.int .i64),.leaf .bool],[.leaf .any],[.leaf .any],[.leaf .any],[.leaf .any],[.leaf .any],[.leaf (.int .i64),.leaf .bool,.leaf (.int .i64)],[.leaf .any],[.leaf .sl,.leaf (.int .i64),.leaf (.int .i64)],[.leaf .any],[.leaf .any],[.leaf .any],[.leaf .any],[.leaf .any],[.agg [.ptr,.ptr,.ptr,.str]],[.agg [.ptr,.ptr,.ptr,.str]],[],[],[],[.leaf (.int .u32)],[.leaf (.int .u8)],[.leaf (.int .u8)],[.leaf .any],[.leaf .ptr],[.leaf (.int .i32)],[.leaf (.int .i32)],[.agg [.int .u64,.int .u64,.int .u32,.int .u8,.int .u8,.int .u8,.int .u8,.any,.ptr,.int .i32,.int .i32]],[.agg [.int .u64,.int .u64,.int .u32,.int .u8,.int .u8,.int .u8,.int .u8,.any,.ptr,.int .i32,.int .i32]],[.leaf .any],[.leaf .any],[.leaf .any],[.leaf .any],[.leaf .any],[.leaf .any],[.leaf .any],[.leaf (.int .i64),.leaf (.int .i64)],[.leaf .any],[.leaf .any],[.agg [.sl,.int .i64]],[.agg [.sl,.int .i64]],[.leaf .sl],[.leaf .sl],[.leaf .sl],[.leaf .sl],[.leaf .sl],[.leaf .sl],[.leaf .sl],[.leaf .sl,.leaf (.int .i64)],[.leaf .any],[.leaf .any],[.agg [.sl,.int .i64]],[.agg [.sl,.int .i64]],[.agg [.sl,.sl]],[.agg [.sl,.sl]],[.agg [.int .i64,.int .i64,.sl,.sl]],[.agg [.int .i64,.int .i64,.sl,.sl]],[.agg [.int .i64,.str]],[.agg [.int .i64,.str]],[.agg [.int .i64,.sl]],[.agg [.int .i64,.sl]],[.agg [.int .i64,.int .u64,.sl]],[.agg [.int .i64,.int .u64,.sl]],[.agg [.str,.int .i64,.bool,.int .i64,.int .i64,.int .i64,.int .i64]],[.agg [.str,.int .i64,.bool,.int .i64,.int .i64,.int .i64,.int .i64]]]
def quietL:List Bool:=[false,false,true,false,false,false,false,false,false,false,true,true,false,false,false,false,false,false,true,false,false,false,false,false,false,false,false,false,false,false,true,false,false,false,false,false,false,false,false,false,false,false,false,false,false,false,false,false,true,true,true,true,false,false,false,true,false,false,false,true,true,false,false,false,false,false,false,true,false,false,false,false,false,false,false,true,true,false,true,true,false,true,false,false,true,true,false,true,true,true,true,false,false,false,false,false,false,false,false,false,false,false,false,false,false,false,false,false,false,false,false,false,true,true,false,true,false,false,true,true,true,false,true,false,false,true,false]
def calleeL:List Bool:=[false,false,true,true,true,true,true,true,true,true,true,true,true,true,true,true,true,true,true,true,true,true,true,true,true,true,true,true,true,true,true,true,true,true,true,true,true,true,true,true,true,true,true,true,true,true,true,true,true,true,true,true,true,true,true,true,true,true,true,true,true,true,true,true,true,true,true,true,true,true,true,true,true,true,true,true,true,true,true,true,true,true,true,true,true,true,true,true,true,true,true,true,true,false,false,false,false,false,false,false,false,false,false,false,false,false,false,false,false,false,false,true,true,true,true,true,true,true,true,true,true,true,true,true,true,true,false]
def extL:List Bool:=[true,true,false,false,false,false,false,false,false,false,false,false,false,false,false,false,false,false,false,false,false,false,false,false,false,false,false,false,false,false,false,false,false,false,false,false,false,false,false,false,false,false,false,false,false,false,false,false,false,false,false,false,false,false,false,false,false,false,false,false,false,false,false,false,false,false,false,false,false,false,false,false,false,false,false,false,false,false,false,false,false,false,false,false,false,false,false,false,false,false,false,false,false,true,true,true,true,true,true,true,true,true,true,true,true,true,true,true,true,true,true,false,false,false,false,false,false,false,false,false,false,false,false,false,false,false,true]
noncomputable def tab:Tab:={ tk:=fun t=>tkL.getD t [],rk:=fun f=>rkL.getD f [],quiet:=fun f=>quietL.getD f false,callee:=fun f=>calleeL.getD f false,ext:=fun f=>extL.getD f false,rt:=fun t=>rtL.getD t [],ent:=fun p=>[],meth:=fun m=>if m = "Object" then some (98,76) else if m = "Bytes" then some (98,121) else if m = "Get" then some (98,122) else if m = "Set" then some (98,123) else if m = "SetBytes" then some (98,124) else none }
theorem mixed:Try.prog.follows .mixedOrders=true:=by kernel_rfl
noncomputable def calleeOk (f:Nat):Bool:=match Try.prog.funcs[f]? with | some fn=>!(fn.name == "runtime.NumGoroutine") && fn.body.isSome | none=>false
theorem callable_of_ok {f:Nat} (h:calleeOk f=true):Callable Try.prog f:=by
 unfold calleeOk at h
 split at h
 ·rename_i fn hf
  simp only [Bool.and_eq_true,Bool.not_eq_true'] at h
  exact callable_of hf h.1 h.2
 ·cases h
theorem calleeL_len:calleeL.length=127:=by kernel_rfl
theorem callees:((List.range 127).all fun f=>!calleeL.getD f false || calleeOk f)=true:=by kernel_rfl
theorem meth_Object (a:Option Addr) (args:Array Value) (w:World):(callMethod (.iface 98 (.pointer a)) "Object" args).run Try.prog w=.ok (.enter 76 (#[.pointer a] ++ args)) w:=by kernel_rfl
theorem meth_Bytes (a:Option Addr) (args:Array Value) (w:World):(callMethod (.iface 98 (.pointer a)) "Bytes" args).run Try.prog w=.ok (.enter 121 (#[.pointer a] ++ args)) w:=by kernel_rfl
theorem meth_Get (a:Option Addr) (args:Array Value) (w:World):(callMethod (.iface 98 (.pointer a)) "Get" args).run Try.prog w=.ok (.enter 122 (#[.pointer a] ++ args)) w:=by kernel_rfl
theorem meth_Set (a:Option Addr) (args:Array Value) (w:World):(callMethod (.iface 98 (.pointer a)) "Set" args).run Try.prog w=.ok (.enter 123 (#[.pointer a] ++ args)) w:=by kernel_rfl
theorem meth_SetBytes (a:Option Addr) (args:Array Value) (w:World):(callMethod (.iface 98 (.pointer a)) "SetBytes" args).run Try.prog w=.ok (.enter 124 (#[.pointer a] ++ args)) w:=by kernel_rfl
theorem ahead_Object (a:Addr) (w:World):(nilAhead (Try.prog.types.size + Made.depth) 98 (.pointer (some a)) "Object").run Try.prog w=.ok (some false) w:=by kernel_rfl
theorem ahead_Bytes (a:Addr) (w:World):(nilAhead (Try.prog.types.size + Made.depth) 98 (.pointer (some a)) "Bytes").run Try.prog w=.ok (some false) w:=by kernel_rfl
theorem ahead_Get (a:Addr) (w:World):(nilAhead (Try.prog.types.size + Made.depth) 98 (.pointer (some a)) "Get").run Try.prog w=.ok (some false) w:=by kernel_rfl
theorem ahead_Set (a:Addr) (w:World):(nilAhead (Try.prog.types.size + Made.depth) 98 (.pointer (some a)) "Set").run Try.prog w=.ok (some false) w:=by kernel_rfl
theorem ahead_SetBytes (a:Addr) (w:World):(nilAhead (Try.prog.types.size + Made.depth) 98 (.pointer (some a)) "SetBytes").run Try.prog w=.ok (some false) w:=by kernel_rfl
theorem tab_ok:TabOk Try.prog tab:=by
 refine ⟨fun f hf=>?_,fun m t f hm a args w=>?_,fun m t f hm a w=>?_⟩
 ·have hf:calleeL.getD f false=true:=hf
  by_cases hlt:f < 127
  ·have:=List.all_eq_true.1 callees f (List.mem_range.2 hlt)
   rw [hf] at this
   have hc:calleeOk f=true:=by simpa using this
   exact callable_of_ok hc
  ·rw [List.getD_eq_getElem?_getD,List.getElem?_eq_none (Nat.le_trans (Nat.le_of_eq calleeL_len:calleeL.length ≤ 127) (Nat.le_of_not_lt hlt))] at hf
   cases hf
 ·simp only [tab] at hm
  split at hm
  ·rename_i he; subst he; simp only [Option.some.injEq,Prod.mk.injEq] at hm; obtain ⟨rfl,rfl⟩:=hm; exact meth_Object a args w
  split at hm
  ·rename_i he; subst he; simp only [Option.some.injEq,Prod.mk.injEq] at hm; obtain ⟨rfl,rfl⟩:=hm; exact meth_Bytes a args w
  split at hm
  ·rename_i he; subst he; simp only [Option.some.injEq,Prod.mk.injEq] at hm; obtain ⟨rfl,rfl⟩:=hm; exact meth_Get a args w
  split at hm
  ·rename_i he; subst he; simp only [Option.some.injEq,Prod.mk.injEq] at hm; obtain ⟨rfl,rfl⟩:=hm; exact meth_Set a args w
  split at hm
  ·rename_i he; subst he; simp only [Option.some.injEq,Prod.mk.injEq] at hm; obtain ⟨rfl,rfl⟩:=hm; exact meth_SetBytes a args w
  cases hm
 ·simp only [tab] at hm
  split at hm
  ·rename_i he; subst he; simp only [Option.some.injEq,Prod.mk.injEq] at hm; obtain ⟨rfl,rfl⟩:=hm; exact ahead_Object a w
  split at hm
  ·rename_i he; subst he; simp only [Option.some.injEq,Prod.mk.injEq] at hm; obtain ⟨rfl,rfl⟩:=hm; exact ahead_Bytes a w
  split at hm
  ·rename_i he; subst he; simp only [Option.some.injEq,Prod.mk.injEq] at hm; obtain ⟨rfl,rfl⟩:=hm; exact ahead_Get a w
  split at hm
  ·rename_i he; subst he; simp only [Option.some.injEq,Prod.mk.injEq] at hm; obtain ⟨rfl,rfl⟩:=hm; exact ahead_Set a w
  split at hm
  ·rename_i he; subst he; simp only [Option.some.injEq,Prod.mk.injEq] at hm; obtain ⟨rfl,rfl⟩:=hm; exact ahead_SetBytes a w
  cases hm
end Go.Ev
