/- The law FnExactPickClass, over numbers alone: the program's choice of a class and the reference's are the same. No condition. -/
import Derived.Test.YtabjfkongckhaaaPFnExactPickClassx1
namespace Go.Proofs.Ytabjfkongckhaaa.Pure
open Go.RowKit Go.Proofs.Ytabjfkongckhaaa.PFnExactPickClass Go.Proofs.YtabjfkongckhaaaW.PrintWords Go.Proofs.YtabjfkongckhaaaW.PrintLast

theorem FnExactPickClass : laws_FnExactPickClass.Pure := by
  intro a b c d _ _
  refine ⟨1, ?_⟩
  have e : spec_PickClass.f 1 a b c d = impl_PickClass.f 1 a b c d := rfl
  have h : ∃ r, impl_PickClass.f 1 a b c d = some r := by
    unfold impl_PickClass.f impl_within.f
    by_cases h0 : c ≥ 0 <;> by_cases h1 : c ≤ 1000 <;> by_cases h2 : d ≥ 1 <;> by_cases h3 : d ≤ 10 <;> cases a <;> cases b <;>
      simp [h0, h1, h2, h3, impl_PickClass.j0] <;> (split <;> simp)
  obtain ⟨r, hr⟩ := h
  unfold laws_FnExactPickClass.f
  rw [e, hr]
  simp
end Go.Proofs.Ytabjfkongckhaaa.Pure
