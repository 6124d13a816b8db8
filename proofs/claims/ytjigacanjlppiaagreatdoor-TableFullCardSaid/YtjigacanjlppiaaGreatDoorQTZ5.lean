/- TableFull, its tied card: for every story the call returns true, and the story reads as it did. Conditions: the row's own cells 'laid' (the card pays it) and 'sized'. -/
import Derived.Test.YtjigacanjlppiaaGreatDoorQ20
import Derived.Test.YtjigacanjlppiaaGreatDoorTie
import Derived.Test.YtjigacanjlppiaaGreatDoorCards
import Derived.Stop.Joined
set_option linter.all false
set_option maxRecDepth 1000000
namespace Go.Proofs.YtjigacanjlppiaaGreatDoor
open Go.ChangeShapes Go.WideShapes Go.ChangeAt Go.RowKit
open Go.Ev (aP aT uv Sl Nt BF dZ Hp eM dh cF du bF bS cm bq ad nb)
noncomputable abbrev P':=Tryz.pinned.checked.prog
noncomputable abbrev R':=Rows.tableFullRow
noncomputable abbrev S':=Rows.tableFullSpec
theorem ayi(os:Os)(IC:os.Started)(H:Type)(enc:TypeId × Value→H):
  ReturnsInHanded {} Tryz.checked os 5 .any (fun w args=>(S'.pre enc Tryz.prog Tryz.f5 [] false w args∧laidMetH Tryz.prog [("math/bits.deBruijn32tab",Rows.laid_math_bits_deBruijn32tab),("math/bits.deBruijn64tab",Rows.laid_math_bits_deBruijn64tab)] w)∧sizedMet enc Tryz.prog Tryz.f5 (OpenSpec.ofChange S') false w args)
   (S'.post enc Tryz.prog Tryz.f5 false true false false):=by
 refine returnsInHanded_of_change_and (C:=Tryz.checked) (X:=fun w _=>laidMetH Tryz.prog [("math/bits.deBruijn32tab",Rows.laid_math_bits_deBruijn32tab),("math/bits.deBruijn64tab",Rows.laid_math_bits_deBruijn64tab)] w) (fun _ _ _ hh h=>h.of_heap hh) own IC (by kernel_rfl) Tryz.func5
  (ChangeSpec.witness_shaped (enc:=enc) (C:=Tryz.checked) (os:=os) (X:=fun w _=>laidMetH Tryz.prog [("math/bits.deBruijn32tab",Rows.laid_math_bits_deBruijn32tab),("math/bits.deBruijn64tab",Rows.laid_math_bits_deBruijn64tab)] w) false (World.doorLaid Tryz.prog 4000 os) #[.agg #[.int .u64 0,.int .i64 0,.slice none 0 0,.slice none 0 0]] 8 rfl (World.shaped_of_RefB (by kernel_rfl) (by kernel_rfl)) (by kernel_rfl) (by kernel_rfl) (by kernel_rfl) (YZ os _)) ?_
 intro W jc args ds gs Zj amo hW _ amt hL _
 have vF:(DataW.weightsEach Tryz.prog (Tryz.f5.params.toList++S'.plain.varTypes Tryz.prog) (ds++gs)).all (·≤reachBytes)=true:=amt
 clear amt
 have wV:∀(j:Nat) t v,Tryz.f5.params[j]?=some t→args[j]?=some v→Value.okWide Tryz.prog W .any jc t v:=amo
 have hW':=hW
 have fE:=hW.lt
 obtain⟨p,q,hA0,hV,rfl,hfz,_⟩:=hW
 have hA:DataW.TrodAll enc Tryz.prog W 0 (fun _=>true) true Tryz.f5.params.toList args.toList ds p:=hA0
 rw [Tryz.params5]at hA wV vF
 obtain⟨v0,d0,rfl,rfl,h0⟩:=trodAll_one hA
 obtain⟨rfl,rfl⟩:=trodVars_none hV
 obtain⟨acs,rfl,_⟩:=okWide_struct Tryz.underlying30 (wV 0 30 v0 rfl rfl)
 obtain⟨kW,hf⟩:=h0
 have hf:DataW.trod enc Tryz.prog W 0 (fun _=>true) true kW 30 acs.toList=some (d0,p):=hf
 have hw:∀m∈d0.weights Tryz.prog 30,m≤reachBytes:=fun m hm=>by
  have:=mg.1 vF m (DataW.weights_mem_each (j:=0) (t:=30) rfl rfl m hm)
  simpa using this
 obtain⟨sd,n0,a0,b0,ops,alN,Km,t6,DG,st,mo⟩:=u6 hf hw
 obtain rfl:acs=#[uv sd,.int .i64 n0,.slice a0.a a0.n a0.c,.slice b0.a b0.n b0.c]:=Array.toList_inj.1 Km
 refine(Go.Ev.aAW (R:=fun v h'=>v=.bool true∧Go.Ev.bY Go.Ev.N W.heap h') (aaW hL) t6 DG st (fun h' k=>⟨rfl,k⟩) W rfl).mono fun e W' ⟨v,he,hs,hv,hk⟩=>?_
 subst he;subst hv
 have amx:∀p'∈p,W.sameAt W' p':=fun p' HV=>U8 hk (fE p' (bW _ HV))
 refine⟨_,rfl,_,_,_,[],p,[],hW',trodAll_mk1 (shut_bool Tryz.underlying4 true),trodAll_mk1 ⟨kW,?_⟩,rfl,Wf hs hk _,fun h=>by cases h⟩
 exact DataW.trod_stays asw (fun ht hu=>KC _ _ ht hu) (fun h=>by cases h) (of_decide_eq_true (by kernel_rfl)) hf amx fun p' HV=>decide_eq_true (fE p' (bW _ HV))
theorem aAV:P'.wantsStandIn 30=false:=by kernel_rfl
theorem ayY:(R'.inPlace==P'.inPlace 5)=true:=by kernel_rfl
theorem ayX:(R'.unfollowed==P'.unfollowed 5)=true:=by kernel_rfl
theorem ayW:(R'.recurses==P'.recurses 5)=true:=by kernel_rfl
theorem ayV:(R'.named==P'.varsNamed 5)=true:=by kernel_rfl
theorem ayj:joinedFacts P' 5 Tryz.f5 S' R'=true:=by
 unfold joinedFacts
 exact(oG (oG (oG (oG (oG (oG (oG (oG (oG (oG (oG (oG (oG (oG (oG (oG (oG (oG (oG (oG (oG (oG (oG (oG (oG (oG (oG (oG (oG (oG (oG (by kernel_rfl) agn) aai) (by kernel_rfl)) (by kernel_rfl)) (by kernel_rfl)) ak1) (by kernel_rfl)) ak0) ayY) ayX) ayW) ayV) (by kernel_rfl)) (by kernel_rfl)) (by kernel_rfl)) (by kernel_rfl)) (by kernel_rfl)) (by kernel_rfl)) (by kernel_rfl)) (by kernel_rfl)) (by kernel_rfl)) ak6) (by kernel_rfl)) ak5) ak4) ak3) ak2) (by kernel_rfl)) (by kernel_rfl)) (by kernel_rfl)) (by kernel_rfl))
theorem ayR:R'.wfByText (OpenSpec.ofChange S')=true:=by kernel_rfl
theorem ayC:false=R'.goesBy P':=by kernel_rfl
theorem ayd:P'.funcNamed "larder/larderlaw6.TableFull" = some 5:=by kernel_rfl
theorem ayB:Tryz.f5.isInstance P' R'.origin R'.targs:=of_decide_eq_true (by kernel_rfl)
theorem ayA:Tryz.f5.isWrapper P' R'.wrapper R'.mainSum:=by unfold Func.isWrapper;first | (rw [if_pos (by decide +kernel)];kernel_rfl) | (rw [if_neg (by decide +kernel)];exact⟨rfl,rfl⟩)
theorem tableFull_holds:Rows.TableFullSaid :=
 OpenClaim.holds_of_wide 5 Tryz.f5 rfl rfl rfl rfl rfl rfl rfl ⟨rfl,rfl,rfl,rfl,rfl⟩ rfl rfl rfl rfl rfl ayd Tryz.func5 ayj ayB ayA
  (fun os IC H enc _=>ayi os IC H enc)
theorem tableFull_card:Rows.TableFullCardSaid :=
 Claim7.holds_tied_plain_at .later [] [.data,.data] true (true, "b8ae2bf7243db7956e46e89f20a61fec621107f73a19fb5570f3943edb674345") false
  tableFull_holds (fun _ h=>by cases h) ayR (fun _ h=>by cases h) tableFull_row_tie rfl ⟨rfl,rfl⟩ aaj rfl
  (fun f fn hf hfn=>by
   obtain rfl:f=5:=bt (ayd.symm.trans hf) |>.symm
   obtain rfl:fn=Tryz.f5:=(bt (Tryz.func5.symm.trans hfn)).symm
   exact⟨UY,fun j t ht=>by
    rw [Tryz.params5]at ht
    match j,ht with
    | 0,ht =>
     obtain rfl:30=t:=bt ht
     exact aAV
    |j+1,ht=>simp at ht⟩)
  ayC
#print axioms tableFull_card
end Go.Proofs.YtjigacanjlppiaaGreatDoor
