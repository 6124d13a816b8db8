/- TableOpens, its tied card: for every script the call returns true, and the script reads as it did. Conditions: the row's own cells 'laid' (the card pays it) and 'sized'. -/
import Derived.Test.YtjigacanjlppiaaGreatDoorP20
import Derived.Test.YtjigacanjlppiaaGreatDoorTie
import Derived.Test.YtjigacanjlppiaaGreatDoorCards
import Derived.Stop.Joined
set_option linter.all false
set_option maxRecDepth 1000000
namespace Go.Ev
open Go.Proofs
def alg(i:Int)(d:Sl)(h:Hp)(R:Value→Hp→Prop):Prop:=gi (h.push (.cells #[vi i,.slice d.a d.n d.c] 24)) fun e=>∃f:Int,cell e (nb h)=some (vi f)∧∃b:Sl,cell e ((nb h).add 1)=some (.slice b.a b.n b.c)∧bq PG 18 #[.agg #[vi f,.slice b.a b.n b.c],vi 1,vi 6] e fun r j=>∃g:Bool,r=vb g∧R (vb g:Value) j
theorem akG {pF:Int}{lf:Sl}{h:Hp}{R:Value→Hp→Prop}(hF:alg pF lf h R):bq PG 13 #[.agg #[vi pF,vl lf]] h R:=iY (lv:=kw) Tryz.func13 hF
end Go.Ev
namespace Go.Proofs.YtjigacanjlppiaaGreatDoor
open Go.ChangeShapes Go.WideShapes Go.ChangeAt Go.RowKit
open Go.Ev (Kb Sl Nt BF dZ Hp eM dh cF du bF bS cm bq ad nb)
noncomputable abbrev P':=Tryz.pinned.checked.prog
noncomputable abbrev R':=Rows.tableOpensRow
noncomputable abbrev S':=Rows.tableOpensSpec
theorem ahB {h:Hp}{R:Value→Hp→Prop}{ops:List Kb}{sl:Sl}{iN:Int}(tz:eM h BF (Nt.map fun n=>.int .u8 (n:Nat))) (rd:dZ h sl.a (ops.flatMap fun x=>x.o.cells)) (sn:sl.n=ops.length) (ok:∀x∈ops,Kb.Ok h x)
  (hR:∀h',Go.Ev.bY Go.Ev.N h h'→R (.bool true) h'):bq Tryz.prog 13 #[.agg #[.int .i64 iN,.slice sl.a sl.n sl.c]] h R:=by
 refine Go.Ev.akG ?_
 unfold Go.Ev.alg
 refine dh fun h1 e1=>?_
 have k1:Go.Ev.bY Go.Ev.N h h1:=e1▸cF _ _ _
 have r3:eM h1 h.size [.int .i64 iN,.slice sl.a sl.n sl.c]:=e1▸du h #[.int .i64 iN,.slice sl.a sl.n sl.c] 24
 clear e1
 rw [show nb h=ad h.size from rfl]
 exact⟨iN,(bS r3 0).trans rfl,sl,by rw [cm];exact(bS r3 1).trans rfl,Go.Ev.Wu (bF k1 tz _root_.id) (Go.Ev.fC k1 rd) sn (fun x hx=>(ok x hx).cI k1) fun h' kk=>⟨true,rfl,hR h' (k1.trans kk)⟩⟩
theorem aau(os:Os)(IC:os.Started)(H:Type)(enc:TypeId × Value→H):
  ReturnsInHanded {} Tryz.checked os 13 .any (fun w args=>(S'.pre enc Tryz.prog Tryz.f13 [] false w args∧laidMetH Tryz.prog [("math/bits.deBruijn32tab",Rows.laid_math_bits_deBruijn32tab),("math/bits.deBruijn64tab",Rows.laid_math_bits_deBruijn64tab)] w)∧sizedMet enc Tryz.prog Tryz.f13 (OpenSpec.ofChange S') false w args)
   (S'.post enc Tryz.prog Tryz.f13 false true false false):=by
 refine returnsInHanded_of_change_and (C:=Tryz.checked) (X:=fun w _=>laidMetH Tryz.prog [("math/bits.deBruijn32tab",Rows.laid_math_bits_deBruijn32tab),("math/bits.deBruijn64tab",Rows.laid_math_bits_deBruijn64tab)] w) (fun _ _ _ hh h=>h.of_heap hh) own IC (by kernel_rfl) Tryz.func13
  (ChangeSpec.witness_shaped (enc:=enc) (C:=Tryz.checked) (os:=os) (X:=fun w _=>laidMetH Tryz.prog [("math/bits.deBruijn32tab",Rows.laid_math_bits_deBruijn32tab),("math/bits.deBruijn64tab",Rows.laid_math_bits_deBruijn64tab)] w) false (World.doorLaid Tryz.prog 4000 os) #[.agg #[.int .i64 0,.slice none 0 0]] 8 rfl (World.shaped_of_RefB (by kernel_rfl) (by kernel_rfl)) (by kernel_rfl) (by kernel_rfl) (by kernel_rfl) (YZ os _)) ?_
 intro W jc args ds gs Zj amo hW _ amt hL _
 have vF:(DataW.weightsEach Tryz.prog (Tryz.f13.params.toList++S'.plain.varTypes Tryz.prog) (ds++gs)).all (·≤reachBytes)=true:=amt
 clear amt
 have wV:∀(j:Nat) t v,Tryz.f13.params[j]?=some t→args[j]?=some v→Value.okWide Tryz.prog W .any jc t v:=amo
 have hW':=hW
 have fE:=hW.lt
 obtain⟨p,q,hA0,hV,rfl,hfz,_⟩:=hW
 have hA:DataW.TrodAll enc Tryz.prog W 0 (fun _=>true) true Tryz.f13.params.toList args.toList ds p:=hA0
 rw [Tryz.params13]at hA wV vF
 obtain⟨v0,d0,rfl,rfl,h0⟩:=trodAll_one hA
 obtain⟨rfl,rfl⟩:=trodVars_none hV
 obtain⟨acs,rfl,_⟩:=okWide_struct Tryz.underlying24 (wV 0 24 v0 rfl rfl)
 obtain⟨kW,hf⟩:=h0
 have hf:DataW.trod enc Tryz.prog W 0 (fun _=>true) true kW 24 acs.toList=some (d0,p):=hf
 have hw:∀m∈d0.weights Tryz.prog 24,m≤reachBytes:=fun m hm=>by
  have:=mg.1 vF m (DataW.weights_mem_each (j:=0) (t:=24) rfl rfl m hm)
  simpa using this
 obtain⟨l0,sl,ops,Km,hrd,Kl,vV⟩:=Sw hf hw
 obtain rfl:acs=#[.int .i64 l0,.slice sl.a sl.n sl.c]:=Array.toList_inj.1 Km
 refine(ahB (R:=fun v h'=>v=.bool true∧Go.Ev.bY Go.Ev.N W.heap h') (aaW hL) hrd Kl vV (fun h' k=>⟨rfl,k⟩) W rfl).mono fun e W' ⟨v,he,hs,hv,hk⟩=>?_
 subst he;subst hv
 have amx:∀p'∈p,W.sameAt W' p':=fun p' HV=>U8 hk (fE p' (bW _ HV))
 refine⟨_,rfl,_,_,_,[],p,[],hW',trodAll_mk1 (shut_bool Tryz.underlying4 true),trodAll_mk1 ⟨kW,?_⟩,rfl,Wf hs hk _,fun h=>by cases h⟩
 exact DataW.trod_stays asw (fun ht hu=>KC _ _ ht hu) (fun h=>by cases h) (of_decide_eq_true (by kernel_rfl)) hf amx fun p' HV=>decide_eq_true (fE p' (bW _ HV))
theorem ahJ:(R'.inPlace==P'.inPlace 13)=true:=by kernel_rfl
theorem ahH:(R'.unfollowed==P'.unfollowed 13)=true:=by kernel_rfl
theorem ahD:(R'.recurses==P'.recurses 13)=true:=by kernel_rfl
theorem ahC:(R'.named==P'.varsNamed 13)=true:=by kernel_rfl
theorem aav:joinedFacts P' 13 Tryz.f13 S' R'=true:=by
 unfold joinedFacts
 exact(oG (oG (oG (oG (oG (oG (oG (oG (oG (oG (oG (oG (oG (oG (oG (oG (oG (oG (oG (oG (oG (oG (oG (oG (oG (oG (oG (oG (oG (oG (oG (by kernel_rfl) agn) aai) (by kernel_rfl)) (by kernel_rfl)) (by kernel_rfl)) ak1) (by kernel_rfl)) ak0) ahJ) ahH) ahD) ahC) (by kernel_rfl)) (by kernel_rfl)) (by kernel_rfl)) (by kernel_rfl)) (by kernel_rfl)) (by kernel_rfl)) (by kernel_rfl)) (by kernel_rfl)) (by kernel_rfl)) ak6) (by kernel_rfl)) ak5) ak4) ak3) ak2) (by kernel_rfl)) (by kernel_rfl)) (by kernel_rfl)) (by kernel_rfl))
theorem adW:R'.wfByText (OpenSpec.ofChange S')=true:=by kernel_rfl
theorem abm:false=R'.goesBy P':=by kernel_rfl
theorem aaf:P'.funcNamed "larder/larderlaw6.TableOpens" = some 13:=by kernel_rfl
theorem abk:Tryz.f13.isInstance P' R'.origin R'.targs:=of_decide_eq_true (by kernel_rfl)
theorem abj:Tryz.f13.isWrapper P' R'.wrapper R'.mainSum:=by unfold Func.isWrapper;first | (rw [if_pos (by decide +kernel)];kernel_rfl) | (rw [if_neg (by decide +kernel)];exact⟨rfl,rfl⟩)
theorem tableOpens_holds:Rows.TableOpensSaid :=
 OpenClaim.holds_of_wide 13 Tryz.f13 rfl rfl rfl rfl rfl rfl rfl ⟨rfl,rfl,rfl,rfl,rfl⟩ rfl rfl rfl rfl rfl aaf Tryz.func13 aav abk abj
  (fun os IC H enc _=>aau os IC H enc)
theorem tableOpens_card:Rows.TableOpensCardSaid :=
 Claim7.holds_tied_plain_at .later [] [.data,.data] true (true, "b8ae2bf7243db7956e46e89f20a61fec621107f73a19fb5570f3943edb674345") false
  tableOpens_holds (fun _ h=>by cases h) adW (fun _ h=>by cases h) tableOpens_row_tie rfl ⟨rfl,rfl⟩ aaj rfl
  (fun f fn hf hfn=>by
   obtain rfl:f=13:=bt (aaf.symm.trans hf) |>.symm
   obtain rfl:fn=Tryz.f13:=(bt (Tryz.func13.symm.trans hfn)).symm
   exact⟨UY,fun j t ht=>by
    rw [Tryz.params13]at ht
    match j,ht with
    | 0,ht =>
     obtain rfl:24=t:=bt ht
     exact ak7
    |j+1,ht=>simp at ht⟩)
  abm
#print axioms tableOpens_card
end Go.Proofs.YtjigacanjlppiaaGreatDoor
