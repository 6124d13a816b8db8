/-
  ChainSeen: for every script of bulk at most 1048576 the call returns true, and the script reads as it did.
  Condition: the script's bulk is at most 1048576 (the row's own narrowing, '..UptoSaid').
-/
import Derived.Test.YtngcoodbepbhbaaE20
import Derived.Test.YtngcoodbepbhbaaE23
import Derived.Deep.CondSized
import Derived.Test.YtngcoodbepbhbaaRows
set_option linter.all false
set_option maxRecDepth 100000
namespace Go.Proofs.Ytngcoodbepbhbaa
open Go.ChangeShapes Go.WideShapes Go.ChangeAt Go.RowKit
theorem chainSeen_lifted (os:Os) (started:os.Started) (H:Type) (enc:TypeId × Value→H) (F0:Stop.Interp) :
  ReturnsInHanded {} Try.checked os 8 .any ((Rows.OpenSpec.upto Rows.chainSeenSpec).pre6 enc Try.prog Try.f8 Rows.chainSeenUptoRow.domain false) (((Rows.OpenSpec.upto Rows.chainSeenSpec).at F0).post enc Try.prog Try.f8 false true false false):=by
 refine returnsInHanded_of_cond_sized (C:=Try.checked) (s:=Rows.OpenSpec.upto Rows.chainSeenSpec) (k:=Rows.uptoSmall) rfl own started (by kernel_rfl) Try.func8
  (OpenSpec.witness (enc:=enc) (C:=Try.checked) (s:=Rows.OpenSpec.upto Rows.chainSeenSpec) (k:=Rows.uptoSmall) rfl false ⟨#[],#[.agg #[.int .i64 0,.slice none 0 0]],[]⟩ 8 (by kernel_rfl) (by kernel_rfl) (by kernel_rfl)
   (x:=([.agg [.lit (.int .i64 0),.nil]],[],[])) (by kernel_rfl) (by kernel_rfl) (by kernel_rfl)) ?_
 intro W base args ds gs before hval0 hW _ hk hsz0 _
 have hsz:(DataW.weightsEach Try.prog (Try.f8.params.toList ++ (Rows.OpenSpec.upto Rows.chainSeenSpec).bare.plain.varTypes Try.prog) (ds ++ gs)).all (· ≤ reachBytes)=true:=hsz0
 clear hsz0
 have hval:∀ (j:Nat) t v,Try.f8.params[j]?=some t→args[j]?=some v→Value.okWide Try.prog W .any base t v:=hval0
 have hW':=hW
 have hlt:=hW.lt
 obtain ⟨p,q,hA0,hV,rfl,hfz,_⟩:=hW
 have hA:DataW.TrodAll enc Try.prog W 0 (fun _=>true) true Try.f8.params.toList args.toList ds p:=hA0
 rw [Try.params8] at hA hval hsz
 obtain ⟨v0,d0,rfl,rfl,h0⟩:=trodAll_one hA
 obtain ⟨rfl,rfl⟩:=trodVars_none hV
 obtain ⟨acs,rfl,_⟩:=okWide_struct Try.underlying73 (hval 0 73 v0 rfl rfl)
 obtain ⟨fuel,hf⟩:=h0
 have hf:DataW.trod enc Try.prog W 0 (fun _=>true) true fuel 73 acs.toList=some (d0,p):=hf
 have hw:∀ m ∈ d0.weights Try.prog 73,m ≤ reachBytes:=fun m hm=>by
  have:=List.all_eq_true.1 hsz m (DataW.weights_mem_each (j:=0) (t:=73) rfl rfl m hm)
  simpa using this
 obtain ⟨lm,sB,ops,hcs,il,rB⟩:=play_of hf hw
 obtain rfl:acs=#[.int .i64 lm,.slice sB.a sB.n sB.c]:=Array.toList_inj.1 hcs
 refine (Go.Ev.seen_ok (R:=fun v h'=>v=.bool true∧Go.Ev.Kept Go.Ev.N W.heap h') (i64r il) rB (fun h' k=>⟨rfl,k⟩) W rfl).mono fun e W' ⟨v,he,hs,hv,hk⟩=>?_
 subst he; subst hv
 have hsame:∀ p' ∈ p,W.sameAt W' p':=fun p' hp'=>same_all hk (hlt p' (List.mem_append_left _ hp'))
 refine ⟨_,rfl,_,_,_,[],p,[],hW',trodAll_mk1 (shut_bool Try.underlying4 true),trodAll_mk1 ⟨fuel,?_⟩,rfl,kept_all hs hk _,fun h=>by cases h⟩
 exact DataW.trod_stays kids (fun ht hu=>slices_some _ _ ht hu) (fun h=>by cases h) (of_decide_eq_true (by kernel_rfl)) hf hsame fun p' hp'=>decide_eq_true (hlt p' (List.mem_append_left _ hp'))
theorem chainSeen_holds:Rows.ChainSeenUptoSaid :=
 OpenClaim.holds_of_cond 8 Try.f8 rfl rfl rfl rfl rfl rfl rfl ⟨rfl,rfl,rfl,rfl,rfl⟩ rfl rfl rfl rfl rfl (by kernel_rfl) Try.func8 (by kernel_rfl)
  (of_decide_eq_true (by kernel_rfl)) (by unfold Func.isWrapper; first | (rw [if_pos (by decide +kernel)]; kernel_rfl) | (rw [if_neg (by decide +kernel)]; exact ⟨rfl,rfl⟩))
  (fun os started H enc _ F0=>chainSeen_lifted os started H enc F0)
#print axioms chainSeen_holds
end Go.Proofs.Ytngcoodbepbhbaa
