/- The law FnExactMergeStep holds of the given program, at every house. -/
import Derived.Test.YtipaepbmdooekaaGreatRows
import Derived.Test.YtipaepbmdooekaaGreatGo
import Derived.Test.YtipaepbmdooekaaGreatV3
import Derived.Test.YtipaepbmdooekaaGreatPB
import Derived.WalkKit
import Derived.ProofKit
import Derived.OpenShut
import Derived.ShutString
import Derived.ChangeOld
import Derived.Below
import Derived.SizedLaws
namespace Go.Proofs.YtipaepbmdooekaaGreat.fnExactMergeStep
open Go.ChangeShapes Go.WideShapes Go.ChangeAt Go.RowKit Go.Proofs.YtipaepbmdooekaaGreat.Vm
set_option linter.unusedVariables false
theorem own : ownKnob Tryz.prog.godebug = none := by kernel_rfl
set_option maxRecDepth 100000 in
theorem lifted (os : Os) (started : os.Started) (H : Type) (enc : TypeId × Value → H) :
    ReturnsInHanded {} Tryz.checked os 6 .any (Rows.fnExactMergeStepSpec.pre6 enc Tryz.prog Tryz.f6 Rows.fnExactMergeStepRow.domain false) (Rows.fnExactMergeStepSpec.post enc Tryz.prog Tryz.f6 false true false false) := by
  refine returnsInHanded_of_change_sized (C := Tryz.checked) own started (by kernel_rfl) Tryz.func6
    (ChangeSpec.witness6 (enc := enc) (C := Tryz.checked) false ⟨#[], #[.agg #[.int .i64 0, .int .i64 0, .int .i64 0, .slice none 0 0, .int .i64 0, .int .i64 0, .int .i64 0, .int .i64 0, .int .i64 0, .bool false, .slice none 0 0, .slice none 0 0, .slice none 0 0, .int .i64 0, .slice none 0 0, .slice none 0 0]], []⟩ 8 (by kernel_rfl) (by kernel_rfl) (by kernel_rfl) (by kernel_rfl)) ?_
  intro W base args ds gs before hval0 hW hcnd hsz0 _
  have hval : ∀ (j : Nat) t v, Tryz.f6.params[j]? = some t → args[j]? = some v → Value.okWide Tryz.prog W .any base t v := hval0
  have hW' := hW
  obtain ⟨p, q, hA0, hV, rfl, hfz, hnd⟩ := hW
  have hA : DataW.TrodAll enc Tryz.prog W 0 (fun _ => true) true Tryz.f6.params.toList args.toList ds p := hA0
  rw [Tryz.params6] at hA hval
  obtain ⟨v0, vs0, d0, ds0, p0, q0, hargs, rfl, rfl, h0, r0⟩ := trodAll_cons hA
  obtain ⟨rfl, rfl, rfl⟩ := trodAll_nil r0
  obtain rfl : args = #[v0] := by cases args; simp_all
  obtain ⟨rfl, rfl⟩ := trodVars_none hV
  obtain ⟨y0, hy0, w0⟩ := open_arg (t := 57) (row := ⟨(.cons (.cons (.int .i64) (.cons (.int .i64) (.cons (.int .i64) (.cons (.sl false 3 (.int .i64)) (.cons (.int .i64) (.cons (.int .i64) (.cons (.int .i64) (.cons (.int .i64) .nil)))))))) (.cons (.int .i64) (.cons .bool (.cons (.sl false 190 (.cons (.int .i64) (.cons (.int .i64) (.cons (.sl false 182 (.cons (.int .i64) (.cons (.int .i64) .nil))) (.cons (.int .i64) (.cons (.int .i64) .nil)))))) (.cons (.sl false 192 (.sl false 260 (.cons (.sl false 40 (.cons (.int .i64) (.cons (.int .i64) (.cons (.sl false 182 (.cons (.int .i64) (.cons (.int .i64) .nil))) (.cons (.cons (.int .i64) (.cons (.int .i64) (.cons (.int .i64) (.cons (.int .i64) (.cons (.sl false 3 (.int .i64)) (.cons (.sl false 3 (.int .i64)) (.cons (.sl false 26 (.sl false 3 (.int .i64))) .nil))))))) .nil))))) .nil))) (.cons (.sl false 194 (.cons (.int .i64) (.cons .bool (.cons (.sl false 3 (.int .i64)) .nil)))) (.cons (.int .i64) (.cons (.sl false 40 (.cons (.int .i64) (.cons (.int .i64) (.cons (.sl false 182 (.cons (.int .i64) (.cons (.int .i64) .nil))) (.cons (.cons (.int .i64) (.cons (.int .i64) (.cons (.int .i64) (.cons (.int .i64) (.cons (.sl false 3 (.int .i64)) (.cons (.sl false 3 (.int .i64)) (.cons (.sl false 26 (.sl false 3 (.int .i64))) .nil))))))) .nil))))) (.cons (.sl false 197 (.cons (.int .i64) (.cons (.cons (.int .i64) (.cons (.int .i64) (.cons (.sl false 182 (.cons (.int .i64) (.cons (.int .i64) .nil))) (.cons (.cons (.int .i64) (.cons (.int .i64) (.cons (.int .i64) (.cons (.int .i64) (.cons (.sl false 3 (.int .i64)) (.cons (.sl false 3 (.int .i64)) (.cons (.sl false 26 (.sl false 3 (.int .i64))) .nil))))))) .nil)))) .nil))) .nil))))))))), 224, [51, 3, 4, 52, 53, 54, 3, 36, 55]⟩) tb_ok (by kernel_rfl) (hval 0 _ v0 rfl rfl) h0
  have hf : F.laws_FnExactMergeStep y0 = some true := fnExactMergeStep_law y0 ⟨w0.1.2.2.2.1.1, ⟨w0.2.2.2.1.1, fun x hx => (w0.2.2.2.1.2 x hx).2.2.1.1⟩, ⟨w0.2.2.2.2.1.1, fun x hx => ⟨(w0.2.2.2.2.1.2 x hx).1, fun x1 hx1 => ⟨((w0.2.2.2.2.1.2 x hx).2 x1 hx1).1.1, fun x2 hx2 => ⟨(((w0.2.2.2.2.1.2 x hx).2 x1 hx1).1.2 x2 hx2).2.2.1.1, ⟨(((w0.2.2.2.2.1.2 x hx).2 x1 hx1).1.2 x2 hx2).2.2.2.1.2.2.2.2.1.1, (((w0.2.2.2.2.1.2 x hx).2 x1 hx1).1.2 x2 hx2).2.2.2.1.2.2.2.2.2.1.1, ⟨(((w0.2.2.2.2.1.2 x hx).2 x1 hx1).1.2 x2 hx2).2.2.2.1.2.2.2.2.2.2.1.1, fun x3 hx3 => ((((w0.2.2.2.2.1.2 x hx).2 x1 hx1).1.2 x2 hx2).2.2.2.1.2.2.2.2.2.2.1.2 x3 hx3).1⟩⟩⟩⟩⟩⟩, ⟨w0.2.2.2.2.2.1.1, fun x hx => (w0.2.2.2.2.2.1.2 x hx).2.2.1.1⟩, ⟨w0.2.2.2.2.2.2.2.1.1, fun x hx => ⟨(w0.2.2.2.2.2.2.2.1.2 x hx).2.2.1.1, ⟨(w0.2.2.2.2.2.2.2.1.2 x hx).2.2.2.1.2.2.2.2.1.1, (w0.2.2.2.2.2.2.2.1.2 x hx).2.2.2.1.2.2.2.2.2.1.1, ⟨(w0.2.2.2.2.2.2.2.1.2 x hx).2.2.2.1.2.2.2.2.2.2.1.1, fun x1 hx1 => ((w0.2.2.2.2.2.2.2.1.2 x hx).2.2.2.1.2.2.2.2.2.2.1.2 x1 hx1).1⟩⟩⟩⟩, ⟨w0.2.2.2.2.2.2.2.2.1.1, fun x hx => ⟨(w0.2.2.2.2.2.2.2.2.1.2 x hx).2.1.2.2.1.1, ⟨(w0.2.2.2.2.2.2.2.2.1.2 x hx).2.1.2.2.2.1.2.2.2.2.1.1, (w0.2.2.2.2.2.2.2.2.1.2 x hx).2.1.2.2.2.1.2.2.2.2.2.1.1, ⟨(w0.2.2.2.2.2.2.2.2.1.2 x hx).2.1.2.2.2.1.2.2.2.2.2.2.1.1, fun x1 hx1 => ((w0.2.2.2.2.2.2.2.2.1.2 x hx).2.1.2.2.2.1.2.2.2.2.2.2.1.2 x1 hx1).1⟩⟩⟩⟩⟩
  refine (law_calls [.val (.cons (.cons (.int .i64) (.cons (.int .i64) (.cons (.int .i64) (.cons (.sl false 3 (.int .i64)) (.cons (.int .i64) (.cons (.int .i64) (.cons (.int .i64) (.cons (.int .i64) .nil)))))))) (.cons (.int .i64) (.cons .bool (.cons (.sl false 190 (.cons (.int .i64) (.cons (.int .i64) (.cons (.sl false 182 (.cons (.int .i64) (.cons (.int .i64) .nil))) (.cons (.int .i64) (.cons (.int .i64) .nil)))))) (.cons (.sl false 192 (.sl false 260 (.cons (.sl false 40 (.cons (.int .i64) (.cons (.int .i64) (.cons (.sl false 182 (.cons (.int .i64) (.cons (.int .i64) .nil))) (.cons (.cons (.int .i64) (.cons (.int .i64) (.cons (.int .i64) (.cons (.int .i64) (.cons (.sl false 3 (.int .i64)) (.cons (.sl false 3 (.int .i64)) (.cons (.sl false 26 (.sl false 3 (.int .i64))) .nil))))))) .nil))))) .nil))) (.cons (.sl false 194 (.cons (.int .i64) (.cons .bool (.cons (.sl false 3 (.int .i64)) .nil)))) (.cons (.int .i64) (.cons (.sl false 40 (.cons (.int .i64) (.cons (.int .i64) (.cons (.sl false 182 (.cons (.int .i64) (.cons (.int .i64) .nil))) (.cons (.cons (.int .i64) (.cons (.int .i64) (.cons (.int .i64) (.cons (.int .i64) (.cons (.sl false 3 (.int .i64)) (.cons (.sl false 3 (.int .i64)) (.cons (.sl false 26 (.sl false 3 (.int .i64))) .nil))))))) .nil))))) (.cons (.sl false 197 (.cons (.int .i64) (.cons (.cons (.int .i64) (.cons (.int .i64) (.cons (.sl false 182 (.cons (.int .i64) (.cons (.int .i64) .nil))) (.cons (.cons (.int .i64) (.cons (.int .i64) (.cons (.int .i64) (.cons (.int .i64) (.cons (.sl false 3 (.int .i64)) (.cons (.sl false 3 (.int .i64)) (.cons (.sl false 26 (.sl false 3 (.int .i64))) .nil))))))) .nil)))) .nil))) .nil)))))))))] ok.laws_FnExactMergeStep (x := (y0, ())) (y := true) (vs := [v0]) hf rfl ⟨⟨hy0, rfl⟩, trivial⟩).mono fun e W' ⟨he, bel⟩ => ?_
  subst he
  exact ⟨_, rfl, _, _, _, [], _, [], hW', trodAll_mk1 (shut_bool Tryz.underlying4 _), trodAll_after tb_ok bel.block (by kernel_rfl) hA, rfl, bel.frame _, fun h => by cases h⟩
theorem andI {a b : Bool} (h : a = true) (k : b = true) : (a && b) = true := by rw [h, k]; rfl
set_option maxHeartbeats 4000000 in
theorem joined : joinedFacts Tryz.pinned.checked.prog 6 Tryz.f6 Rows.fnExactMergeStepSpec Rows.fnExactMergeStepRow = true := by
  unfold joinedFacts
  repeat' (with_reducible refine andI ?_ ?_)
  all_goals (as_aux_lemma => kernel_rfl)
set_option maxHeartbeats 4000000 in
theorem wrapped : Tryz.f6.isWrapper Tryz.pinned.checked.prog Rows.fnExactMergeStepRow.wrapper Rows.fnExactMergeStepRow.mainSum := by
  unfold Func.isWrapper
  first | (rw [if_pos (by decide +kernel)]; kernel_rfl) | (rw [if_neg (by decide +kernel)]; exact ⟨rfl, rfl⟩)
theorem over : Rows.fnExactMergeStepRow.holds Tryz.pinned (OpenSpec.ofChange Rows.fnExactMergeStepSpec) :=
  OpenClaim.holds_of_wide 6 Tryz.f6 rfl rfl rfl rfl rfl rfl rfl ⟨rfl, rfl, rfl, rfl, rfl⟩ rfl rfl rfl rfl rfl (by kernel_rfl) Tryz.func6 joined
    (of_decide_eq_true (by kernel_rfl)) wrapped
    (fun os started H enc _ => lifted os started H enc)
theorem proved : Rows.FnExactMergeStepSaid := over
#print axioms proved
end Go.Proofs.YtipaepbmdooekaaGreat.fnExactMergeStep
namespace Go.Proofs.YtipaepbmdooekaaGreat
/-- The row, under a short name, for the claim. -/
theorem fnExactMergeStep_holds : Rows.FnExactMergeStepSaid := fnExactMergeStep.proved
end Go.Proofs.YtipaepbmdooekaaGreat
