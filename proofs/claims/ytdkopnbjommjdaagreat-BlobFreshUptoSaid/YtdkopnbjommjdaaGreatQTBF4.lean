/-
  BlobFresh: for every script of bulk at most 1048576 the call returns true, and the script reads as it did.
  Condition: the script's bulk is at most 1048576 (the row's own narrowing, '..UptoSaid').
-/
import Derived.Test.YtdkopnbjommjdaaGreatQ26
import Derived.Test.YtdkopnbjommjdaaGreatQ26
import Derived.Test.YtdkopnbjommjdaaGreatRows
set_option linter.all false
set_option maxRecDepth 100000
namespace Go.Proofs.YtdkopnbjommjdaaGreat
open Go.ChangeShapes Go.WideShapes Go.ChangeAt Go.RowKit
theorem blobFresh_lifted (os:Os) (started:os.Started) (H:Type) (enc:TypeId × Value→H) (F0:Stop.Interp) :
  ReturnsInHanded {} Tryz.checked os 4 .any ((Rows.OpenSpec.upto Rows.blobFreshSpec).pre6 enc Tryz.prog Tryz.f4 Rows.blobFreshUptoRow.domain false) (((Rows.OpenSpec.upto Rows.blobFreshSpec).at F0).post enc Tryz.prog Tryz.f4 false true false false):=by
 refine returnsInHanded_of_cond_sized (C:=Tryz.checked) (s:=Rows.OpenSpec.upto Rows.blobFreshSpec) (k:=Rows.uptoSmall) rfl own started (by kernel_rfl) Tryz.func4
  (OpenSpec.witness (enc:=enc) (C:=Tryz.checked) (s:=Rows.OpenSpec.upto Rows.blobFreshSpec) (k:=Rows.uptoSmall) rfl false ⟨#[],#[.agg #[.int .i64 0,.int .i64 0,.slice none 0 0]],[]⟩ 8 (by kernel_rfl) (by kernel_rfl) (by kernel_rfl)
   (x:=([.agg [.agg [.lit (.int .i64 0),.lit (.int .i64 0)],.nil]],[],[])) (by kernel_rfl) (by kernel_rfl) (by kernel_rfl)) ?_
 intro W base args ds gs before hval0 hW _ hk hsz0 _
 have hsz:(DataW.weightsEach Tryz.prog (Tryz.f4.params.toList ++ (Rows.OpenSpec.upto Rows.blobFreshSpec).bare.plain.varTypes Tryz.prog) (ds ++ gs)).all (· ≤ reachBytes)=true:=hsz0
 clear hsz0
 have hval:∀ (j:Nat) t v,Tryz.f4.params[j]?=some t→args[j]?=some v→Value.okWide Tryz.prog W .any base t v:=hval0
 have hW':=hW
 have hlt:=hW.lt
 obtain ⟨p,q,hA0,hV,rfl,hfz,_⟩:=hW
 have hA:DataW.TrodAll enc Tryz.prog W 0 (fun _=>true) true Tryz.f4.params.toList args.toList ds p:=hA0
 rw [Tryz.params4] at hA hval hsz
 obtain ⟨v0,d0,rfl,rfl,h0⟩:=trodAll_one hA
 obtain ⟨rfl,rfl⟩:=trodVars_none hV
 obtain ⟨acs,rfl,_⟩:=okWide_struct Tryz.underlying25 (hval 0 25 v0 rfl rfl)
 obtain ⟨fuel,hf⟩:=h0
 have hf:DataW.trod enc Tryz.prog W 0 (fun _=>true) true fuel 25 acs.toList=some (d0,p):=hf
 have hw:∀ m ∈ d0.weights Tryz.prog 25,m ≤ reachBytes:=fun m hm=>by
  have:=List.all_eq_true.1 hsz m (DataW.weights_mem_each (j:=0) (t:=25) rfl rfl m hm)
  simpa using this
 have hb:Rows.uptoBulk d0 ≤ 1048576:=by
  have h1:Rows.uptoBulkAll ([d0] ++ []) ≤ 1048576:=of_decide_eq_true hk
  simp only [List.append_nil,Rows.uptoBulkAll] at h1
  omega
 obtain ⟨l0,l1,sl,ops,hcs,i0,i1,rs,rn,rok⟩:=bscript_of hf hw hb
 obtain rfl:acs=#[.int .i64 l0,.int .i64 l1,.slice sl.a sl.n sl.c]:=Array.toList_inj.1 hcs
 refine (Go.Ev.fresh_ok (R:=fun v h'=>v=.bool true∧Go.Ev.Kept Go.Ev.N W.heap h') i0 i1 rs rn rok (fun h' k=>⟨rfl,k⟩) W rfl).mono fun e W' ⟨v,he,hs,hv,hk⟩=>?_
 subst he; subst hv
 have hsame:∀ p' ∈ p,W.sameAt W' p':=fun p' hp'=>same_all hk (hlt p' (List.mem_append_left _ hp'))
 refine ⟨_,rfl,_,_,_,[],p,[],hW',trodAll_mk1 (shut_bool Tryz.underlying4 true),trodAll_mk1 ⟨fuel,?_⟩,rfl,kept_all hs hk _,fun h=>by cases h⟩
 exact DataW.trod_stays kids (fun ht hu=>slices_some _ _ ht hu) (fun h=>by cases h) (of_decide_eq_true (by kernel_rfl)) hf hsame fun p' hp'=>decide_eq_true (hlt p' (List.mem_append_left _ hp'))
theorem blobFresh_holds:Rows.BlobFreshUptoSaid :=
 OpenClaim.holds_of_cond 4 Tryz.f4 rfl rfl rfl rfl rfl rfl rfl ⟨rfl,rfl,rfl,rfl,rfl⟩ rfl rfl rfl rfl rfl (by kernel_rfl) Tryz.func4 (by kernel_rfl)
  (of_decide_eq_true (by kernel_rfl)) (by unfold Func.isWrapper; first | (rw [if_pos (by decide +kernel)]; kernel_rfl) | (rw [if_neg (by decide +kernel)]; exact ⟨rfl,rfl⟩))
  (fun os started H enc _ F0=>blobFresh_lifted os started H enc F0)
#print axioms blobFresh_holds
end Go.Proofs.YtdkopnbjommjdaaGreat
