/- The law FnRootAdded holds of the given program, at every row of bytes. -/
import Derived.Test.YtipaepbmdooekaaGreatRows
import Derived.Test.YtipaepbmdooekaaGreatGo
import Derived.Test.YtipaepbmdooekaaGreatV3
import Derived.Test.YtipaepbmdooekaaGreatPA
import Derived.WalkKit
import Derived.ProofKit
import Derived.OpenShut
import Derived.ShutString
import Derived.ChangeOld
import Derived.Below
import Derived.SizedLaws
namespace Go.Proofs.YtipaepbmdooekaaGreat.fnRootAdded
open Go.ChangeShapes Go.WideShapes Go.ChangeAt Go.RowKit Go.Proofs.YtipaepbmdooekaaGreat.Vm
set_option linter.unusedVariables false
theorem own : ownKnob Tryz.prog.godebug = none := by kernel_rfl
set_option maxRecDepth 100000 in
theorem lifted (os : Os) (started : os.Started) (H : Type) (enc : TypeId × Value → H) :
    ReturnsInHanded {} Tryz.checked os 3 .any (Rows.fnRootAddedSpec.pre6 enc Tryz.prog Tryz.f3 Rows.fnRootAddedRow.domain false) (Rows.fnRootAddedSpec.post enc Tryz.prog Tryz.f3 false true false false) := by
  refine returnsInHanded_of_change_sized (C := Tryz.checked) own started (by kernel_rfl) Tryz.func3
    (ChangeSpec.witness6 (enc := enc) (C := Tryz.checked) false ⟨#[], #[.slice none 0 0], []⟩ 8 (by kernel_rfl) (by kernel_rfl) (by kernel_rfl) (by kernel_rfl)) ?_
  intro W base args ds gs before hval0 hW hcnd hsz0 _
  have hval : ∀ (j : Nat) t v, Tryz.f3.params[j]? = some t → args[j]? = some v → Value.okWide Tryz.prog W .any base t v := hval0
  have hW' := hW
  obtain ⟨p, q, hA0, hV, rfl, hfz, hnd⟩ := hW
  have hA : DataW.TrodAll enc Tryz.prog W 0 (fun _ => true) true Tryz.f3.params.toList args.toList ds p := hA0
  rw [Tryz.params3] at hA hval
  obtain ⟨v0, vs0, d0, ds0, p0, q0, hargs, rfl, rfl, h0, r0⟩ := trodAll_cons hA
  obtain ⟨rfl, rfl, rfl⟩ := trodAll_nil r0
  obtain rfl : args = #[v0] := by cases args; simp_all
  obtain ⟨rfl, rfl⟩ := trodVars_none hV
  obtain ⟨y0, hy0, w0⟩ := open_arg (t := 22) (row := ⟨(.sl false 5 (.int .u8)), 24, []⟩) tb_ok (by kernel_rfl) (hval 0 _ v0 rfl rfl) h0
  have hf : F.laws_FnRootAdded y0 = some true := fnRootAdded_law y0
  refine (law_calls [.val (.sl false 5 (.int .u8))] ok.laws_FnRootAdded (x := (y0, ())) (y := true) (vs := [v0]) hf rfl ⟨⟨hy0, rfl⟩, trivial⟩).mono fun e W' ⟨he, bel⟩ => ?_
  subst he
  exact ⟨_, rfl, _, _, _, [], _, [], hW', trodAll_mk1 (shut_bool Tryz.underlying4 _), trodAll_after tb_ok bel.block (by kernel_rfl) hA, rfl, bel.frame _, fun h => by cases h⟩
theorem andI {a b : Bool} (h : a = true) (k : b = true) : (a && b) = true := by rw [h, k]; rfl
set_option maxHeartbeats 4000000 in
theorem joined : joinedFacts Tryz.pinned.checked.prog 3 Tryz.f3 Rows.fnRootAddedSpec Rows.fnRootAddedRow = true := by
  unfold joinedFacts
  repeat' (with_reducible refine andI ?_ ?_)
  all_goals (as_aux_lemma => kernel_rfl)
set_option maxHeartbeats 4000000 in
theorem wrapped : Tryz.f3.isWrapper Tryz.pinned.checked.prog Rows.fnRootAddedRow.wrapper Rows.fnRootAddedRow.mainSum := by
  unfold Func.isWrapper
  first | (rw [if_pos (by decide +kernel)]; kernel_rfl) | (rw [if_neg (by decide +kernel)]; exact ⟨rfl, rfl⟩)
theorem over : Rows.fnRootAddedRow.holds Tryz.pinned (OpenSpec.ofChange Rows.fnRootAddedSpec) :=
  OpenClaim.holds_of_wide 3 Tryz.f3 rfl rfl rfl rfl rfl rfl rfl ⟨rfl, rfl, rfl, rfl, rfl⟩ rfl rfl rfl rfl rfl (by kernel_rfl) Tryz.func3 joined
    (of_decide_eq_true (by kernel_rfl)) wrapped
    (fun os started H enc _ => lifted os started H enc)
theorem proved : Rows.FnRootAddedSaid := over
#print axioms proved
end Go.Proofs.YtipaepbmdooekaaGreat.fnRootAdded
namespace Go.Proofs.YtipaepbmdooekaaGreat
/-- The row, under a short name, for the claim. -/
theorem fnRootAdded_holds : Rows.FnRootAddedSaid := fnRootAdded.proved
end Go.Proofs.YtipaepbmdooekaaGreat
