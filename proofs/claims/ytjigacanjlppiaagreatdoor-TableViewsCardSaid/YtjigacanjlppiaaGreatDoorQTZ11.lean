/- TableViews, its tied card: for every story the call returns true, and the story reads as it did. Conditions: the row's own cells 'laid' (the card pays it) and 'sized'. -/
import Derived.Test.YtjigacanjlppiaaGreatDoorQ18
import Derived.Test.YtjigacanjlppiaaGreatDoorTie
import Derived.Test.YtjigacanjlppiaaGreatDoorCards
import Derived.Stop.Joined
set_option linter.all false
set_option maxRecDepth 1000000
namespace Go.Proofs.YtjigacanjlppiaaGreatDoor
open Go.ChangeShapes Go.WideShapes Go.ChangeAt Go.RowKit
open Go.Ev (aP aT uv Sl Nt BF dZ Hp eM dh cF du bF bS cm bq ad nb)
noncomputable abbrev P':=Tryz.pinned.checked.prog
noncomputable abbrev R':=Rows.tableViewsRow
noncomputable abbrev S':=Rows.tableViewsSpec
theorem ayb(os:Os)(IC:os.Started)(H:Type)(enc:TypeId × Value→H):
  ReturnsInHanded {} Tryz.checked os 11 .any (fun w args=>(S'.pre enc Tryz.prog Tryz.f11 [] false w args∧laidMetH Tryz.prog [("math/bits.deBruijn32tab",Rows.laid_math_bits_deBruijn32tab),("math/bits.deBruijn64tab",Rows.laid_math_bits_deBruijn64tab)] w)∧sizedMet enc Tryz.prog Tryz.f11 (OpenSpec.ofChange S') false w args)
   (S'.post enc Tryz.prog Tryz.f11 false true false false):=by
 refine returnsInHanded_of_change_and (C:=Tryz.checked) (X:=fun w _=>laidMetH Tryz.prog [("math/bits.deBruijn32tab",Rows.laid_math_bits_deBruijn32tab),("math/bits.deBruijn64tab",Rows.laid_math_bits_deBruijn64tab)] w) (fun _ _ _ hh h=>h.of_heap hh) own IC (by kernel_rfl) Tryz.func11
  (ChangeSpec.witness_shaped (enc:=enc) (C:=Tryz.checked) (os:=os) (X:=fun w _=>laidMetH Tryz.prog [("math/bits.deBruijn32tab",Rows.laid_math_bits_deBruijn32tab),("math/bits.deBruijn64tab",Rows.laid_math_bits_deBruijn64tab)] w) false (World.doorLaid Tryz.prog 4000 os) #[.agg #[.int .u64 0,.int .i64 0,.slice none 0 0,.slice none 0 0]] 8 rfl (World.shaped_of_RefB (by kernel_rfl) (by kernel_rfl)) (by kernel_rfl) (by kernel_rfl) (by kernel_rfl) (YZ os _)) ?_
 intro W jc args ds gs Zj amo hW _ amt hL _
 have vF:(DataW.weightsEach Tryz.prog (Tryz.f11.params.toList++S'.plain.varTypes Tryz.prog) (ds++gs)).all (·≤reachBytes)=true:=amt
 clear amt
 have wV:∀(j:Nat) t v,Tryz.f11.params[j]?=some t→args[j]?=some v→Value.okWide Tryz.prog W .any jc t v:=amo
 have hW':=hW
 have fE:=hW.lt
 obtain⟨p,q,hA0,hV,rfl,hfz,_⟩:=hW
 have hA:DataW.TrodAll enc Tryz.prog W 0 (fun _=>true) true Tryz.f11.params.toList args.toList ds p:=hA0
 rw [Tryz.params11]at hA wV vF
 obtain⟨v0,d0,rfl,rfl,h0⟩:=trodAll_one hA
 obtain⟨rfl,rfl⟩:=trodVars_none hV
 obtain⟨acs,rfl,_⟩:=okWide_struct Tryz.underlying30 (wV 0 30 v0 rfl rfl)
 obtain⟨kW,hf⟩:=h0
 have hf:DataW.trod enc Tryz.prog W 0 (fun _=>true) true kW 30 acs.toList=some (d0,p):=hf
 have hw:∀m∈d0.weights Tryz.prog 30,m≤reachBytes:=fun m hm=>by
  have:=mg.1 vF m (DataW.weights_mem_each (j:=0) (t:=30) rfl rfl m hm)
  simpa using this
 obtain⟨sd,n0,a0,b0,ops,alN,Km,t6,DG,st,mo⟩:=u6 hf hw
 obtain rfl:acs=#[uv sd,.int .i64 n0,.slice a0.a a0.n a0.c,.slice b0.a b0.n b0.c]:=Array.toList_inj.1 Km
 refine(Go.Ev.aAm (R:=fun v h'=>v=.bool true∧Go.Ev.bY Go.Ev.N W.heap h') (aaW hL) t6 st (fun h' k=>⟨rfl,k⟩) W rfl).mono fun e W' ⟨v,he,hs,hv,hk⟩=>?_
 subst he;subst hv
 have amx:∀p'∈p,W.sameAt W' p':=fun p' HV=>U8 hk (fE p' (bW _ HV))
 refine⟨_,rfl,_,_,_,[],p,[],hW',trodAll_mk1 (shut_bool Tryz.underlying4 true),trodAll_mk1 ⟨kW,?_⟩,rfl,Wf hs hk _,fun h=>by cases h⟩
 exact DataW.trod_stays asw (fun ht hu=>KC _ _ ht hu) (fun h=>by cases h) (of_decide_eq_true (by kernel_rfl)) hf amx fun p' HV=>decide_eq_true (fE p' (bW _ HV))
theorem aAo:P'.wantsStandIn 30=false:=by kernel_rfl
theorem ayQ:(R'.inPlace==P'.inPlace 11)=true:=by kernel_rfl
theorem ayP:(R'.unfollowed==P'.unfollowed 11)=true:=by kernel_rfl
theorem ayO:(R'.recurses==P'.recurses 11)=true:=by kernel_rfl
theorem ayN:(R'.named==P'.varsNamed 11)=true:=by kernel_rfl
theorem ayc:joinedFacts P' 11 Tryz.f11 S' R'=true:=by
 unfold joinedFacts
 exact(oG (oG (oG (oG (oG (oG (oG (oG (oG (oG (oG (oG (oG (oG (oG (oG (oG (oG (oG (oG (oG (oG (oG (oG (oG (oG (oG (oG (oG (oG (oG (by kernel_rfl) agn) aai) (by kernel_rfl)) (by kernel_rfl)) (by kernel_rfl)) ak1) (by kernel_rfl)) ak0) ayQ) ayP) ayO) ayN) (by kernel_rfl)) (by kernel_rfl)) (by kernel_rfl)) (by kernel_rfl)) (by kernel_rfl)) (by kernel_rfl)) (by kernel_rfl)) (by kernel_rfl)) (by kernel_rfl)) ak6) (by kernel_rfl)) ak5) ak4) ak3) ak2) (by kernel_rfl)) (by kernel_rfl)) (by kernel_rfl)) (by kernel_rfl))
theorem ayz:R'.wfByText (OpenSpec.ofChange S')=true:=by kernel_rfl
theorem ayn:false=R'.goesBy P':=by kernel_rfl
theorem ax6:P'.funcNamed "larder/larderlaw6.TableViews" = some 11:=by kernel_rfl
theorem aym:Tryz.f11.isInstance P' R'.origin R'.targs:=of_decide_eq_true (by kernel_rfl)
theorem ayl:Tryz.f11.isWrapper P' R'.wrapper R'.mainSum:=by unfold Func.isWrapper;first | (rw [if_pos (by decide +kernel)];kernel_rfl) | (rw [if_neg (by decide +kernel)];exact⟨rfl,rfl⟩)
theorem tableViews_holds:Rows.TableViewsSaid :=
 OpenClaim.holds_of_wide 11 Tryz.f11 rfl rfl rfl rfl rfl rfl rfl ⟨rfl,rfl,rfl,rfl,rfl⟩ rfl rfl rfl rfl rfl ax6 Tryz.func11 ayc aym ayl
  (fun os IC H enc _=>ayb os IC H enc)
theorem tableViews_card:Rows.TableViewsCardSaid :=
 Claim7.holds_tied_plain_at .later [] [.data,.data] true (true, "b8ae2bf7243db7956e46e89f20a61fec621107f73a19fb5570f3943edb674345") false
  tableViews_holds (fun _ h=>by cases h) ayz (fun _ h=>by cases h) tableViews_row_tie rfl ⟨rfl,rfl⟩ aaj rfl
  (fun f fn hf hfn=>by
   obtain rfl:f=11:=bt (ax6.symm.trans hf) |>.symm
   obtain rfl:fn=Tryz.f11:=(bt (Tryz.func11.symm.trans hfn)).symm
   exact⟨UY,fun j t ht=>by
    rw [Tryz.params11]at ht
    match j,ht with
    | 0,ht =>
     obtain rfl:30=t:=bt ht
     exact aAo
    |j+1,ht=>simp at ht⟩)
  ayn
#print axioms tableViews_card
end Go.Proofs.YtjigacanjlppiaaGreatDoor
