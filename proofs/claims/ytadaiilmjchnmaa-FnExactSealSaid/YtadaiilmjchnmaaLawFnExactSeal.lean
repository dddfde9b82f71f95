/- The program's Seal returns what the reference's returns, for all arguments. -/
import Derived.Test.YtadaiilmjchnmaaRows
import Derived.Test.YtadaiilmjchnmaaGo
import Derived.Test.YtadaiilmjchnmaaV3
import Derived.Test.YtadaiilmjchnmaaPA
import Derived.WalkKit
import Derived.ProofKit
import Derived.OpenShut
import Derived.ShutString
import Derived.ChangeOld
import Derived.Below
import Derived.SizedLaws
namespace Go.Proofs.Ytadaiilmjchnmaa.fnExactSeal
open Go.ChangeShapes Go.WideShapes Go.ChangeAt Go.RowKit Go.Proofs.Ytadaiilmjchnmaa.Vm
set_option linter.unusedVariables false
theorem own : ownKnob Try.prog.godebug = none := by kernel_rfl
set_option maxRecDepth 100000 in
theorem lifted (os : Os) (started : os.Started) (H : Type) (enc : TypeId × Value → H) :
    ReturnsInHanded {} Try.checked os 4 .any (Rows.fnExactSealSpec.pre6 enc Try.prog Try.f4 Rows.fnExactSealRow.domain false) (Rows.fnExactSealSpec.post enc Try.prog Try.f4 false true false false) := by
  refine returnsInHanded_of_change_sized (C := Try.checked) own started (by kernel_rfl) Try.func4
    (ChangeSpec.witness6 (enc := enc) (C := Try.checked) false ⟨#[], #[.agg #[.int .i64 0, .int .i64 0, .bool false, .int .i64 0, .slice none 0 0, .slice none 0 0, .int .i64 0], .int .i64 0, .int .i64 0, .int .i64 0, .agg #[.int .i64 0, .int .i64 0, .int .i64 0, .int .i64 0, .slice none 0 0, .slice none 0 0, .slice none 0 0]], []⟩ 8 (by kernel_rfl) (by kernel_rfl) (by kernel_rfl) (by kernel_rfl)) ?_
  intro W base args ds gs before hval0 hW hcnd hsz0 _
  have hval : ∀ (j : Nat) t v, Try.f4.params[j]? = some t → args[j]? = some v → Value.okWide Try.prog W .any base t v := hval0
  have hW' := hW
  obtain ⟨p, q, hA0, hV, rfl, hfz, hnd⟩ := hW
  have hA : DataW.TrodAll enc Try.prog W 0 (fun _ => true) true Try.f4.params.toList args.toList ds p := hA0
  rw [Try.params4] at hA hval
  obtain ⟨v0, vs0, d0, ds0, p0, q0, hargs, rfl, rfl, h0, r0⟩ := trodAll_cons hA
  obtain ⟨v1, vs1, d1, ds1, p1, q1, hargs1, rfl, rfl, h1, r1⟩ := trodAll_cons r0
  obtain ⟨v2, vs2, d2, ds2, p2, q2, hargs2, rfl, rfl, h2, r2⟩ := trodAll_cons r1
  obtain ⟨v3, vs3, d3, ds3, p3, q3, hargs3, rfl, rfl, h3, r3⟩ := trodAll_cons r2
  obtain ⟨v4, vs4, d4, ds4, p4, q4, hargs4, rfl, rfl, h4, r4⟩ := trodAll_cons r3
  obtain ⟨rfl, rfl, rfl⟩ := trodAll_nil r4
  subst hargs4
  subst hargs3
  subst hargs2
  subst hargs1
  obtain rfl : args = #[v0, v1, v2, v3, v4] := by cases args; simp_all
  obtain ⟨rfl, rfl⟩ := trodVars_none hV
  obtain ⟨y0, hy0, w0⟩ := open_arg (t := 47) (row := ⟨(.cons (.int .i64) (.cons (.int .i64) (.cons .bool (.cons (.int .i64) (.cons (.sl false 248 (.cons (.int .i64) (.cons (.int .i64) (.cons (.int .i64) (.cons (.int .i64) (.cons (.cons (.int .i64) (.cons (.int .i64) (.cons (.int .i64) (.cons (.int .i64) (.cons (.sl false 3 (.int .i64)) (.cons (.sl false 3 (.int .i64)) (.cons (.sl false 27 (.sl false 3 (.int .i64))) .nil))))))) .nil)))))) (.cons (.sl false 252 (.cons (.int .i64) (.cons (.int .i64) .nil))) (.cons (.int .i64) .nil))))))), 88, [3, 3, 4, 3, 44, 45, 3]⟩) tb_ok (by kernel_rfl) (hval 0 _ v0 rfl rfl) h0
  obtain ⟨y1, hy1, w1⟩ := open_arg (t := 3) (row := ⟨(.int .i64), 8, []⟩) tb_ok (by kernel_rfl) (hval 1 _ v1 rfl rfl) h1
  obtain ⟨y2, hy2, w2⟩ := open_arg (t := 3) (row := ⟨(.int .i64), 8, []⟩) tb_ok (by kernel_rfl) (hval 2 _ v2 rfl rfl) h2
  obtain ⟨y3, hy3, w3⟩ := open_arg (t := 3) (row := ⟨(.int .i64), 8, []⟩) tb_ok (by kernel_rfl) (hval 3 _ v3 rfl rfl) h3
  obtain ⟨y4, hy4, w4⟩ := open_arg (t := 48) (row := ⟨(.cons (.int .i64) (.cons (.int .i64) (.cons (.int .i64) (.cons (.int .i64) (.cons (.sl false 3 (.int .i64)) (.cons (.sl false 3 (.int .i64)) (.cons (.sl false 27 (.sl false 3 (.int .i64))) .nil))))))), 104, [3, 3, 3, 3, 27, 27, 28]⟩) tb_ok (by kernel_rfl) (hval 4 _ v4 rfl rfl) h4
  have hf : F.laws_FnExactSeal y0 y1 y2 y3 y4 = some true := fnExactSeal_law y0 y1 y2 y3 y4 ⟨⟨w0.2.2.2.2.1.1, fun x hx => ⟨(w0.2.2.2.2.1.2 x hx).2.2.2.2.1.2.2.2.2.1.1, (w0.2.2.2.2.1.2 x hx).2.2.2.2.1.2.2.2.2.2.1.1, ⟨(w0.2.2.2.2.1.2 x hx).2.2.2.2.1.2.2.2.2.2.2.1.1, fun x1 hx1 => ((w0.2.2.2.2.1.2 x hx).2.2.2.2.1.2.2.2.2.2.2.1.2 x1 hx1).1⟩⟩⟩, w0.2.2.2.2.2.1.1⟩ ⟨w4.2.2.2.2.1.1, w4.2.2.2.2.2.1.1, ⟨w4.2.2.2.2.2.2.1.1, fun x hx => (w4.2.2.2.2.2.2.1.2 x hx).1⟩⟩
  refine (law_calls [.val (.cons (.int .i64) (.cons (.int .i64) (.cons .bool (.cons (.int .i64) (.cons (.sl false 248 (.cons (.int .i64) (.cons (.int .i64) (.cons (.int .i64) (.cons (.int .i64) (.cons (.cons (.int .i64) (.cons (.int .i64) (.cons (.int .i64) (.cons (.int .i64) (.cons (.sl false 3 (.int .i64)) (.cons (.sl false 3 (.int .i64)) (.cons (.sl false 27 (.sl false 3 (.int .i64))) .nil))))))) .nil)))))) (.cons (.sl false 252 (.cons (.int .i64) (.cons (.int .i64) .nil))) (.cons (.int .i64) .nil))))))), .val (.int .i64), .val (.int .i64), .val (.int .i64), .val (.cons (.int .i64) (.cons (.int .i64) (.cons (.int .i64) (.cons (.int .i64) (.cons (.sl false 3 (.int .i64)) (.cons (.sl false 3 (.int .i64)) (.cons (.sl false 27 (.sl false 3 (.int .i64))) .nil)))))))] ok.laws_FnExactSeal (x := (y0, y1, y2, y3, y4, ())) (y := true) (vs := [v0, v1, v2, v3, v4]) hf rfl ⟨⟨hy0, rfl⟩, ⟨hy1, rfl⟩, ⟨hy2, rfl⟩, ⟨hy3, rfl⟩, ⟨hy4, rfl⟩, trivial⟩).mono fun e W' ⟨he, bel⟩ => ?_
  subst he
  exact ⟨_, rfl, _, _, _, [], _, [], hW', trodAll_mk1 (shut_bool Try.underlying4 _), trodAll_after tb_ok bel.block (by kernel_rfl) hA, rfl, bel.frame _, fun h => by cases h⟩
theorem andI {a b : Bool} (h : a = true) (k : b = true) : (a && b) = true := by rw [h, k]; rfl
set_option maxHeartbeats 4000000 in
theorem joined : joinedFacts Try.pinned.checked.prog 4 Try.f4 Rows.fnExactSealSpec Rows.fnExactSealRow = true := by
  unfold joinedFacts
  repeat' (with_reducible refine andI ?_ ?_)
  all_goals (as_aux_lemma => kernel_rfl)
set_option maxHeartbeats 4000000 in
theorem wrapped : Try.f4.isWrapper Try.pinned.checked.prog Rows.fnExactSealRow.wrapper Rows.fnExactSealRow.mainSum := by
  unfold Func.isWrapper
  first | (rw [if_pos (by decide +kernel)]; kernel_rfl) | (rw [if_neg (by decide +kernel)]; exact ⟨rfl, rfl⟩)
theorem over : Rows.fnExactSealRow.holds Try.pinned (OpenSpec.ofChange Rows.fnExactSealSpec) :=
  OpenClaim.holds_of_wide 4 Try.f4 rfl rfl rfl rfl rfl rfl rfl ⟨rfl, rfl, rfl, rfl, rfl⟩ rfl rfl rfl rfl rfl (by kernel_rfl) Try.func4 joined
    (of_decide_eq_true (by kernel_rfl)) wrapped
    (fun os started H enc _ => lifted os started H enc)
theorem proved : Rows.FnExactSealSaid := over
#print axioms proved
end Go.Proofs.Ytadaiilmjchnmaa.fnExactSeal
namespace Go.Proofs.Ytadaiilmjchnmaa
/-- The row, under a short name, for the claim. -/
theorem fnExactSeal_holds : Rows.FnExactSealSaid := fnExactSeal.proved
end Go.Proofs.Ytadaiilmjchnmaa
