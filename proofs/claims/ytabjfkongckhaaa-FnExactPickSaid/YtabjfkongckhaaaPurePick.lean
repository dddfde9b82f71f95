/- The law Pick, on the printed functions alone. -/
import Derived.Test.YtabjfkongckhaaaPureMarks
namespace Go.Proofs.Ytabjfkongckhaaa.Vm
open Go Go.RowKit
set_option linter.unusedVariables false

theorem l1Min_eq (v : Int) : F.spec_l1Min v 1000 = some (mnI 1000 v) := by
  unfold F.spec_l1Min mnI
  by_cases h : v < 1000
  · simp [h]
  · simp [h]
theorem pick_step : F.spec_Pick.s6 = F.impl_Pick.s6 := by
  funext x
  obtain ⟨x8, x9, x10, x11, x12, u⟩ := x
  unfold F.spec_Pick.s6 F.impl_Pick.s6 F.spec_l11Next
  simp only [l1Min_eq, Option.bind_some]
end Go.Proofs.Ytabjfkongckhaaa.Vm
