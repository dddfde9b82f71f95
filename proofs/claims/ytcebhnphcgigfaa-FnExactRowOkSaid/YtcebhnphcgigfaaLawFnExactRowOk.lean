/- The program's RowOk returns what the reference's returns, for all arguments. -/
import Derived.Test.YtcebhnphcgigfaaRows
import Derived.Test.YtcebhnphcgigfaaGo
import Derived.Test.YtcebhnphcgigfaaV3
import Derived.Test.YtcebhnphcgigfaaPA
import Derived.WalkKit
import Derived.ProofKit
import Derived.OpenShut
import Derived.ShutString
import Derived.ChangeOld
import Derived.Below
import Derived.SizedLaws
namespace Go.Proofs.Ytcebhnphcgigfaa.fnExactRowOk
open Go.ChangeShapes Go.WideShapes Go.ChangeAt Go.RowKit Go.Proofs.Ytcebhnphcgigfaa.Vm
set_option linter.unusedVariables false
theorem own : ownKnob Try.prog.godebug = none := by kernel_rfl
set_option maxRecDepth 100000 in
theorem lifted (os : Os) (started : os.Started) (H : Type) (enc : TypeId × Value → H) :
    ReturnsInHanded {} Try.checked os 9 .any (Rows.fnExactRowOkSpec.pre6 enc Try.prog Try.f9 Rows.fnExactRowOkRow.domain false) (Rows.fnExactRowOkSpec.post enc Try.prog Try.f9 false true false false) := by
  refine returnsInHanded_of_change_sized (C := Try.checked) own started (by kernel_rfl) Try.func9
    (ChangeSpec.witness6 (enc := enc) (C := Try.checked) false ⟨#[], #[.agg #[.slice none 0 0]], []⟩ 8 (by kernel_rfl) (by kernel_rfl) (by kernel_rfl) (by kernel_rfl)) ?_
  intro W base args ds gs before hval0 hW hcnd hsz0 _
  have hval : ∀ (j : Nat) t v, Try.f9.params[j]? = some t → args[j]? = some v → Value.okWide Try.prog W .any base t v := hval0
  have hW' := hW
  obtain ⟨p, q, hA0, hV, rfl, hfz, hnd⟩ := hW
  have hA : DataW.TrodAll enc Try.prog W 0 (fun _ => true) true Try.f9.params.toList args.toList ds p := hA0
  rw [Try.params9] at hA hval
  obtain ⟨v0, vs0, d0, ds0, p0, q0, hargs, rfl, rfl, h0, r0⟩ := trodAll_cons hA
  obtain ⟨rfl, rfl, rfl⟩ := trodAll_nil r0
  obtain rfl : args = #[v0] := by cases args; simp_all
  obtain ⟨rfl, rfl⟩ := trodVars_none hV
  obtain ⟨y0, hy0, w0⟩ := open_arg (t := 62) (row := ⟨(.cons (.sl false 160 (.cons (.int .i64) (.cons (.int .i64) (.cons (.sl false 148 (.cons (.int .i64) (.cons (.int .i64) .nil))) (.cons (.cons (.int .i64) (.cons (.int .i64) (.cons (.int .i64) (.cons (.int .i64) (.cons (.sl false 3 (.int .i64)) (.cons (.sl false 3 (.int .i64)) (.cons (.sl false 43 (.sl false 3 (.int .i64))) .nil))))))) .nil))))) .nil), 24, [60]⟩) tb_ok (by kernel_rfl) (hval 0 _ v0 rfl rfl) h0
  have hf : F.laws_FnExactRowOk y0 = some true := fnExactRowOk_law y0 ⟨w0.1.1, fun x hx => ⟨(w0.1.2 x hx).2.2.1.1, ⟨(w0.1.2 x hx).2.2.2.1.2.2.2.2.1.1, (w0.1.2 x hx).2.2.2.1.2.2.2.2.2.1.1, ⟨(w0.1.2 x hx).2.2.2.1.2.2.2.2.2.2.1.1, fun x1 hx1 => ((w0.1.2 x hx).2.2.2.1.2.2.2.2.2.2.1.2 x1 hx1).1⟩⟩⟩⟩
  refine (law_calls [.val (.cons (.sl false 160 (.cons (.int .i64) (.cons (.int .i64) (.cons (.sl false 148 (.cons (.int .i64) (.cons (.int .i64) .nil))) (.cons (.cons (.int .i64) (.cons (.int .i64) (.cons (.int .i64) (.cons (.int .i64) (.cons (.sl false 3 (.int .i64)) (.cons (.sl false 3 (.int .i64)) (.cons (.sl false 43 (.sl false 3 (.int .i64))) .nil))))))) .nil))))) .nil)] ok.laws_FnExactRowOk (x := (y0, ())) (y := true) (vs := [v0]) hf rfl ⟨⟨hy0, rfl⟩, trivial⟩).mono fun e W' ⟨he, bel⟩ => ?_
  subst he
  exact ⟨_, rfl, _, _, _, [], _, [], hW', trodAll_mk1 (shut_bool Try.underlying4 _), trodAll_after tb_ok bel.block (by kernel_rfl) hA, rfl, bel.frame _, fun h => by cases h⟩
theorem over : Rows.fnExactRowOkRow.holds Try.pinned (OpenSpec.ofChange Rows.fnExactRowOkSpec) :=
  OpenClaim.holds_of_wide 9 Try.f9 rfl rfl rfl rfl rfl rfl rfl ⟨rfl, rfl, rfl, rfl, rfl⟩ rfl rfl rfl rfl rfl (by kernel_rfl) Try.func9 (by kernel_rfl)
    (of_decide_eq_true (by kernel_rfl)) (by unfold Func.isWrapper; first | (rw [if_pos (by decide +kernel)]; kernel_rfl) | (rw [if_neg (by decide +kernel)]; exact ⟨rfl, rfl⟩))
    (fun os started H enc _ => lifted os started H enc)
theorem proved : Rows.FnExactRowOkSaid := over
#print axioms proved
end Go.Proofs.Ytcebhnphcgigfaa.fnExactRowOk
namespace Go.Proofs.Ytcebhnphcgigfaa
/-- The row, under a short name, for the claim. -/
theorem fnExactRowOk_holds : Rows.FnExactRowOkSaid := fnExactRowOk.proved
end Go.Proofs.Ytcebhnphcgigfaa
