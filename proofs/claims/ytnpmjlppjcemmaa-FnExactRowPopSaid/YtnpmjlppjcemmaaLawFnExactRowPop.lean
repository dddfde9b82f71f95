/- The program's RowPop returns what the reference's returns, for all arguments. -/
import Derived.Test.YtnpmjlppjcemmaaRows
import Derived.Test.YtnpmjlppjcemmaaGo
import Derived.Test.YtnpmjlppjcemmaaV3
import Derived.Test.YtnpmjlppjcemmaaPA
import Derived.WalkKit
import Derived.ProofKit
import Derived.OpenShut
import Derived.ShutString
import Derived.ChangeOld
import Derived.Below
import Derived.SizedLaws
namespace Go.Proofs.Ytnpmjlppjcemmaa.fnExactRowPop
open Go.ChangeShapes Go.WideShapes Go.ChangeAt Go.RowKit Go.Proofs.Ytnpmjlppjcemmaa.Vm
set_option linter.unusedVariables false
theorem own : ownKnob Try.prog.godebug = none := by kernel_rfl
set_option maxRecDepth 100000 in
theorem lifted (os : Os) (started : os.Started) (H : Type) (enc : TypeId × Value → H) :
    ReturnsInHanded {} Try.checked os 5 .any (Rows.fnExactRowPopSpec.pre6 enc Try.prog Try.f5 Rows.fnExactRowPopRow.domain false) (Rows.fnExactRowPopSpec.post enc Try.prog Try.f5 false true false false) := by
  refine returnsInHanded_of_change_sized (C := Try.checked) own started (by kernel_rfl) Try.func5
    (ChangeSpec.witness6 (enc := enc) (C := Try.checked) false ⟨#[], #[.agg #[.slice none 0 0]], []⟩ 8 (by kernel_rfl) (by kernel_rfl) (by kernel_rfl) (by kernel_rfl)) ?_
  intro W base args ds gs before hval0 hW hcnd hsz0 _
  have hval : ∀ (j : Nat) t v, Try.f5.params[j]? = some t → args[j]? = some v → Value.okWide Try.prog W .any base t v := hval0
  have hW' := hW
  obtain ⟨p, q, hA0, hV, rfl, hfz, hnd⟩ := hW
  have hA : DataW.TrodAll enc Try.prog W 0 (fun _ => true) true Try.f5.params.toList args.toList ds p := hA0
  rw [Try.params5] at hA hval
  obtain ⟨v0, vs0, d0, ds0, p0, q0, hargs, rfl, rfl, h0, r0⟩ := trodAll_cons hA
  obtain ⟨rfl, rfl, rfl⟩ := trodAll_nil r0
  obtain rfl : args = #[v0] := by cases args; simp_all
  obtain ⟨rfl, rfl⟩ := trodVars_none hV
  obtain ⟨y0, hy0, w0⟩ := open_arg (t := 53) (row := ⟨(.cons (.sl false 153 (.cons (.int .i64) (.cons (.int .i64) (.cons (.sl false 180 (.cons (.int .i64) (.cons (.int .i64) .nil))) (.cons (.cons (.int .i64) (.cons (.int .i64) (.cons (.int .i64) (.cons (.int .i64) (.cons (.sl false 3 (.int .i64)) (.cons (.sl false 3 (.int .i64)) (.cons (.sl false 29 (.sl false 3 (.int .i64))) .nil))))))) .nil))))) .nil), 24, [51]⟩) tb_ok (by kernel_rfl) (hval 0 _ v0 rfl rfl) h0
  have hf : F.laws_FnExactRowPop y0 = some true := fnExactRowPop_law y0 ⟨w0.1.1, fun x hx => ⟨(w0.1.2 x hx).2.2.1.1, ⟨(w0.1.2 x hx).2.2.2.1.2.2.2.2.1.1, (w0.1.2 x hx).2.2.2.1.2.2.2.2.2.1.1, ⟨(w0.1.2 x hx).2.2.2.1.2.2.2.2.2.2.1.1, fun x1 hx1 => ((w0.1.2 x hx).2.2.2.1.2.2.2.2.2.2.1.2 x1 hx1).1⟩⟩⟩⟩
  refine (law_calls [.val (.cons (.sl false 153 (.cons (.int .i64) (.cons (.int .i64) (.cons (.sl false 180 (.cons (.int .i64) (.cons (.int .i64) .nil))) (.cons (.cons (.int .i64) (.cons (.int .i64) (.cons (.int .i64) (.cons (.int .i64) (.cons (.sl false 3 (.int .i64)) (.cons (.sl false 3 (.int .i64)) (.cons (.sl false 29 (.sl false 3 (.int .i64))) .nil))))))) .nil))))) .nil)] ok.laws_FnExactRowPop (x := (y0, ())) (y := true) (vs := [v0]) hf rfl ⟨⟨hy0, rfl⟩, trivial⟩).mono fun e W' ⟨he, bel⟩ => ?_
  subst he
  exact ⟨_, rfl, _, _, _, [], _, [], hW', trodAll_mk1 (shut_bool Try.underlying4 _), trodAll_after tb_ok bel.block (by kernel_rfl) hA, rfl, bel.frame _, fun h => by cases h⟩
theorem andI {a b : Bool} (h : a = true) (k : b = true) : (a && b) = true := by rw [h, k]; rfl
set_option maxHeartbeats 4000000 in
theorem joined : joinedFacts Try.pinned.checked.prog 5 Try.f5 Rows.fnExactRowPopSpec Rows.fnExactRowPopRow = true := by
  unfold joinedFacts
  repeat' (with_reducible refine andI ?_ ?_)
  all_goals (as_aux_lemma => kernel_rfl)
set_option maxHeartbeats 4000000 in
theorem wrapped : Try.f5.isWrapper Try.pinned.checked.prog Rows.fnExactRowPopRow.wrapper Rows.fnExactRowPopRow.mainSum := by
  unfold Func.isWrapper
  first | (rw [if_pos (by decide +kernel)]; kernel_rfl) | (rw [if_neg (by decide +kernel)]; exact ⟨rfl, rfl⟩)
theorem over : Rows.fnExactRowPopRow.holds Try.pinned (OpenSpec.ofChange Rows.fnExactRowPopSpec) :=
  OpenClaim.holds_of_wide 5 Try.f5 rfl rfl rfl rfl rfl rfl rfl ⟨rfl, rfl, rfl, rfl, rfl⟩ rfl rfl rfl rfl rfl (by kernel_rfl) Try.func5 joined
    (of_decide_eq_true (by kernel_rfl)) wrapped
    (fun os started H enc _ => lifted os started H enc)
theorem proved : Rows.FnExactRowPopSaid := over
#print axioms proved
end Go.Proofs.Ytnpmjlppjcemmaa.fnExactRowPop
namespace Go.Proofs.Ytnpmjlppjcemmaa
/-- The row, under a short name, for the claim. -/
theorem fnExactRowPop_holds : Rows.FnExactRowPopSaid := fnExactRowPop.proved
end Go.Proofs.Ytnpmjlppjcemmaa
