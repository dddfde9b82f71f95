/- What is added up is never more than what was taken; with it the credit grows by as many. -/
import Derived.Test.YtcebhnphcgigfaaRows
import Derived.Test.YtcebhnphcgigfaaGo
import Derived.Test.YtcebhnphcgigfaaV3
import Derived.Test.YtcebhnphcgigfaaPA
import Derived.WalkKit
import Derived.ProofKit
import Derived.OpenShut
import Derived.ShutString
import Derived.ChangeOld
import Derived.Below
import Derived.SizedLaws
namespace Go.Proofs.Ytcebhnphcgigfaa.fnSeatMerged
open Go.ChangeShapes Go.WideShapes Go.ChangeAt Go.RowKit Go.Proofs.Ytcebhnphcgigfaa.Vm
set_option linter.unusedVariables false
theorem own : ownKnob Try.prog.godebug = none := by kernel_rfl
set_option maxRecDepth 100000 in
theorem lifted (os : Os) (started : os.Started) (H : Type) (enc : TypeId × Value → H) :
    ReturnsInHanded {} Try.checked os 5 .any (Rows.fnSeatMergedSpec.pre6 enc Try.prog Try.f5 Rows.fnSeatMergedRow.domain false) (Rows.fnSeatMergedSpec.post enc Try.prog Try.f5 false true false false) := by
  refine returnsInHanded_of_change_sized (C := Try.checked) own started (by kernel_rfl) Try.func5
    (ChangeSpec.witness6 (enc := enc) (C := Try.checked) false ⟨#[], #[.slice none 0 0], []⟩ 8 (by kernel_rfl) (by kernel_rfl) (by kernel_rfl) (by kernel_rfl)) ?_
  intro W base args ds gs before hval0 hW hcnd hsz0 _
  have hval : ∀ (j : Nat) t v, Try.f5.params[j]? = some t → args[j]? = some v → Value.okWide Try.prog W .any base t v := hval0
  have hW' := hW
  obtain ⟨p, q, hA0, hV, rfl, hfz, hnd⟩ := hW
  have hA : DataW.TrodAll enc Try.prog W 0 (fun _ => true) true Try.f5.params.toList args.toList ds p := hA0
  rw [Try.params5] at hA hval
  obtain ⟨v0, vs0, d0, ds0, p0, q0, hargs, rfl, rfl, h0, r0⟩ := trodAll_cons hA
  obtain ⟨rfl, rfl, rfl⟩ := trodAll_nil r0
  obtain rfl : args = #[v0] := by cases args; simp_all
  obtain ⟨rfl, rfl⟩ := trodVars_none hV
  obtain ⟨y0, hy0, w0⟩ := open_arg (t := 37) (row := ⟨(.sl false 5 (.int .u8)), 24, []⟩) tb_ok (by kernel_rfl) (hval 0 _ v0 rfl rfl) h0
  have hf : F.laws_FnSeatMerged y0 = some true := fnSeatMerged_law y0 w0.1
  refine (law_calls [.val (.sl false 5 (.int .u8))] ok.laws_FnSeatMerged (x := (y0, ())) (y := true) (vs := [v0]) hf rfl ⟨⟨hy0, rfl⟩, trivial⟩).mono fun e W' ⟨he, bel⟩ => ?_
  subst he
  exact ⟨_, rfl, _, _, _, [], _, [], hW', trodAll_mk1 (shut_bool Try.underlying4 _), trodAll_after tb_ok bel.block (by kernel_rfl) hA, rfl, bel.frame _, fun h => by cases h⟩
theorem andI {a b : Bool} (h : a = true) (k : b = true) : (a && b) = true := by rw [h, k]; rfl
set_option maxHeartbeats 4000000 in
theorem joined : joinedFacts Try.pinned.checked.prog 5 Try.f5 Rows.fnSeatMergedSpec Rows.fnSeatMergedRow = true := by
  unfold joinedFacts
  repeat' (with_reducible refine andI ?_ ?_)
  all_goals (as_aux_lemma => kernel_rfl)
set_option maxHeartbeats 4000000 in
theorem wrapped : Try.f5.isWrapper Try.pinned.checked.prog Rows.fnSeatMergedRow.wrapper Rows.fnSeatMergedRow.mainSum := by
  unfold Func.isWrapper
  first | (rw [if_pos (by decide +kernel)]; kernel_rfl) | (rw [if_neg (by decide +kernel)]; exact ⟨rfl, rfl⟩)
theorem over : Rows.fnSeatMergedRow.holds Try.pinned (OpenSpec.ofChange Rows.fnSeatMergedSpec) :=
  OpenClaim.holds_of_wide 5 Try.f5 rfl rfl rfl rfl rfl rfl rfl ⟨rfl, rfl, rfl, rfl, rfl⟩ rfl rfl rfl rfl rfl (by kernel_rfl) Try.func5 joined
    (of_decide_eq_true (by kernel_rfl)) wrapped
    (fun os started H enc _ => lifted os started H enc)
theorem proved : Rows.FnSeatMergedSaid := over
#print axioms proved
end Go.Proofs.Ytcebhnphcgigfaa.fnSeatMerged
namespace Go.Proofs.Ytcebhnphcgigfaa
/-- The row, under a short name, for the claim. -/
theorem fnSeatMerged_holds : Rows.FnSeatMergedSaid := fnSeatMerged.proved
end Go.Proofs.Ytcebhnphcgigfaa
