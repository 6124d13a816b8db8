/-
  ChainTurns: for every argument the call returns true, and the argument reads as it did.
  No condition: every argument whose lists a machine can hold (the row's own 'sized').
-/
import Derived.Test.YtngcoodbepbhbaaP21
import Derived.Test.YtngcoodbepbhbaaP22
import Derived.Test.YtngcoodbepbhbaaRows
set_option linter.all false
set_option maxRecDepth 100000
namespace Go.Proofs.Ytngcoodbepbhbaa
open Go.ChangeShapes Go.WideShapes Go.ChangeAt Go.RowKit
theorem chainTurns_lifted (os:Os) (started:os.Started) (H:Type) (enc:TypeId × Value→H) :
  ReturnsInHanded {} Try.checked os 4 .any (Rows.chainTurnsSpec.pre6 enc Try.prog Try.f4 Rows.chainTurnsRow.domain false) (Rows.chainTurnsSpec.post enc Try.prog Try.f4 false true false false):=by
 refine returnsInHanded_of_change_sized (C:=Try.checked) own started (by kernel_rfl) Try.func4
  (ChangeSpec.witness6 (enc:=enc) (C:=Try.checked) false ⟨#[],#[.agg #[.slice none 0 0,.int .i64 0,.int .i64 0,.slice none 0 0,.bool false]],[]⟩ 8 (by kernel_rfl) (by kernel_rfl) (by kernel_rfl) (by kernel_rfl)) ?_
 intro W base args ds gs before hval0 hW _ hsz0 _
 have hsz:(DataW.weightsEach Try.prog (Try.f4.params.toList ++ Rows.chainTurnsSpec.plain.varTypes Try.prog) (ds ++ gs)).all (· ≤ reachBytes)=true:=hsz0
 clear hsz0
 have hval:∀ (j:Nat) t v,Try.f4.params[j]?=some t→args[j]?=some v→Value.okWide Try.prog W .any base t v:=hval0
 have hW':=hW
 have hlt:=hW.lt
 obtain ⟨p,q,hA0,hV,rfl,hfz,_⟩:=hW
 have hA:DataW.TrodAll enc Try.prog W 0 (fun _=>true) true Try.f4.params.toList args.toList ds p:=hA0
 rw [Try.params4] at hA hval hsz
 obtain ⟨v0,d0,rfl,rfl,h0⟩:=trodAll_one hA
 obtain ⟨rfl,rfl⟩:=trodVars_none hV
 obtain ⟨acs,rfl,_⟩:=okWide_struct Try.underlying25 (hval 0 25 v0 rfl rfl)
 obtain ⟨fuel,hf⟩:=h0
 have hf:DataW.trod enc Try.prog W 0 (fun _=>true) true fuel 25 acs.toList=some (d0,p):=hf
 have hw:∀ m ∈ d0.weights Try.prog 25,m ≤ reachBytes:=fun m hm=>by
  have:=List.all_eq_true.1 hsz m (DataW.weights_mem_each (j:=0) (t:=25) rfl rfl m hm)
  simpa using this
 obtain ⟨sA,sB,sls,rows,ii,kk,bb,fr,hcs,rA,rB,iI,iK⟩:=turn_of hf hw
 obtain rfl:acs=#[.slice sA.a sA.n sA.c,.int .i64 ii,.int .i64 kk,.slice sB.a sB.n sB.c,.bool fr]:=Array.toList_inj.1 hcs
 refine (Go.Ev.turns_ok (R:=fun v h'=>v=.bool true∧Go.Ev.Kept Go.Ev.N W.heap h') rA rB iI (fun h' k=>⟨rfl,k⟩) W rfl).mono fun e W' ⟨v,he,hs,hv,hk⟩=>?_
 subst he; subst hv
 have hsame:∀ p' ∈ p,W.sameAt W' p':=fun p' hp'=>same_all hk (hlt p' (List.mem_append_left _ hp'))
 refine ⟨_,rfl,_,_,_,[],p,[],hW',trodAll_mk1 (shut_bool Try.underlying4 true),trodAll_mk1 ⟨fuel,?_⟩,rfl,kept_all hs hk _,fun h=>by cases h⟩
 exact DataW.trod_stays kids (fun ht hu=>slices_some _ _ ht hu) (fun h=>by cases h) (of_decide_eq_true (by kernel_rfl)) hf hsame fun p' hp'=>decide_eq_true (hlt p' (List.mem_append_left _ hp'))
theorem chainTurns_holds:Rows.ChainTurnsSaid :=
 OpenClaim.holds_of_wide 4 Try.f4 rfl rfl rfl rfl rfl rfl rfl ⟨rfl,rfl,rfl,rfl,rfl⟩ rfl rfl rfl rfl rfl (by kernel_rfl) Try.func4 (by kernel_rfl)
  (of_decide_eq_true (by kernel_rfl)) (by unfold Func.isWrapper; first | (rw [if_pos (by decide +kernel)]; kernel_rfl) | (rw [if_neg (by decide +kernel)]; exact ⟨rfl,rfl⟩))
  (fun os started H enc _=>chainTurns_lifted os started H enc)
#print axioms chainTurns_holds
end Go.Proofs.Ytngcoodbepbhbaa
