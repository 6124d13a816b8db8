/-
  ChainGreat: the call returns true.
  No condition: there is no argument.
-/
import Derived.Test.YtngcoodbepbhbaaG19
import Derived.Test.YtngcoodbepbhbaaG21
import Derived.Test.YtngcoodbepbhbaaRows
set_option linter.all false
set_option maxRecDepth 100000
namespace Go.Proofs.Ytngcoodbepbhbaa
open Go.ChangeShapes Go.WideShapes Go.ChangeAt Go.RowKit
theorem chainGreat_lifted (os:Os) (started:os.Started) (H:Type) (enc:TypeId × Value→H) :
  ReturnsInHanded {} Try.checked os 6 .any (Rows.chainGreatSpec.pre6 enc Try.prog Try.f6 Rows.chainGreatRow.domain false) (Rows.chainGreatSpec.post enc Try.prog Try.f6 false true false false):=by
 refine returnsInHanded_of_change_sized (C:=Try.checked) own started (by kernel_rfl) Try.func6
  (ChangeSpec.witness6 (enc:=enc) (C:=Try.checked) false ⟨#[],#[],[]⟩ 8 (by kernel_rfl) (by kernel_rfl) (by kernel_rfl) (by kernel_rfl)) ?_
 intro W base args ds gs before hval0 hW _ hsz0 _
 have hW':=hW
 have hlt:=hW.lt
 obtain ⟨p,q,hA0,hV,rfl,hfz,_⟩:=hW
 have hA:DataW.TrodAll enc Try.prog W 0 (fun _=>true) true Try.f6.params.toList args.toList ds p:=hA0
 rw [Try.params6] at hA
 obtain ⟨ea,rfl,rfl⟩:=trodAll_nil hA
 obtain rfl:args=#[]:=Array.toList_inj.1 ea
 obtain ⟨rfl,rfl⟩:=trodVars_none hV
 refine (Go.Ev.great_law (R:=fun v h'=>v=.bool true∧Go.Ev.Kept Go.Ev.N W.heap h') (fun h' k=>⟨rfl,k⟩) W rfl).mono fun e W' ⟨v,he,hs,hv,hk⟩=>?_
 subst he; subst hv
 refine ⟨_,rfl,_,_,_,[],[],[],hW',trodAll_mk1 (shut_bool Try.underlying4 true),trodAll_mk0,rfl,kept_all hs hk _,fun h=>by cases h⟩
theorem chainGreat_holds:Rows.ChainGreatSaid :=
 OpenClaim.holds_of_wide 6 Try.f6 rfl rfl rfl rfl rfl rfl rfl ⟨rfl,rfl,rfl,rfl,rfl⟩ rfl rfl rfl rfl rfl (by kernel_rfl) Try.func6 (by kernel_rfl)
  (of_decide_eq_true (by kernel_rfl)) (by unfold Func.isWrapper; first | (rw [if_pos (by decide +kernel)]; kernel_rfl) | (rw [if_neg (by decide +kernel)]; exact ⟨rfl,rfl⟩))
  (fun os started H enc _=>chainGreat_lifted os started H enc)
#print axioms chainGreat_holds
end Go.Proofs.Ytngcoodbepbhbaa
