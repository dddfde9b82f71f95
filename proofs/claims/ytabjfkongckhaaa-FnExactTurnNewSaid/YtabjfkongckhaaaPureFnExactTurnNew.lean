/- The law FnExactTurnNew, over numbers alone: the program's new turn is the reference's, and holds what is marked into it. No condition. -/
import Derived.Test.YtabjfkongckhaaaPFnExactTurnNewx1
namespace Go.Proofs.Ytabjfkongckhaaa.Pure
open Go.RowKit Go.Proofs.Ytabjfkongckhaaa.PFnExactTurnNew Go.Proofs.YtabjfkongckhaaaW.PrintWords Go.Proofs.YtabjfkongckhaaaW.PrintLast

theorem FnExactTurnNew : laws_FnExactTurnNew.Pure := by
  refine ⟨5, ?_⟩
  decide +kernel
end Go.Proofs.Ytabjfkongckhaaa.Pure
