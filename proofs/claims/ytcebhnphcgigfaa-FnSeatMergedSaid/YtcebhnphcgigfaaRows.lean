/-
  No cell of these rows narrows 'for every input' (looked for: loops, veiled, ifaces, maps, wideKeys, modest, calm, conditions, laid).
  DERIVED. THE GIVEN ROWS OF THIS SEAT. 12 by the template 'for every input the law returns true; each argument reads behind the call as it read before'; 0 by the template 'total and deterministic' (their statements: YtcebhnphcgigfaaTotals.lean).
  GIVEN WITH THE SEED: the statements are not yours to turn. If you find one false, say at which input.
  Laid BY PROGRAM, IN A SANDBOX (cutbox-rows.mjs): the forced cells as the released guide's own fill.sh prints them over the translation a3d40e4494c474e8… (all of the seat's roots in one cut). By AI agents, Wed Nov 11 2026. No macro, syntax, notation, axiom, sorry.
-/
import Derived.Test.YtcebhnphcgigfaaChecked
import GoSem.Claim
import GoSem.ClaimJoined
import GoSem.ClaimMapViews
import Derived.JoinedTies
import Derived.KernelRfl
namespace Go.Proofs.Ytcebhnphcgigfaa
/- THE CELL 'sum', in the pinned program and in every row, IS THE sha256 OF THE DUMP (.gsa) THAT YtcebhnphcgigfaaProg.lean LOADS. Nothing in Lean hashes anything: it is a label: what it is worth is what the hold of that sum in a sandbox is worth. -/
noncomputable def Try.pinned : Pinned := { name := "ytcebhnphcgigfaa", sum := "a3d40e4494c474e8b1fbd68a57bca5bbf3eb0357947f227b722ed4384470a55e", checked := Try.checked }
namespace Rows
def none {H : Type} : Left H := { results := [], args := [] }

/-- 'laws.FnExactSeatMerge': WHATEVER THE INPUT: true; the input reads as it did. -/
def fnExactSeatMergeSpec : ChangeSpec := { name := "fnExactSeatMerge", fn := fun _ => fun
  | [d1, d2, d3] => { results := [.lit (.bool true)], args := [d1, d2, d3] }
  | _ => none }
def fnExactSeatMergeRow : OpenClaim := { program := "ytcebhnphcgigfaa", sum := "a3d40e4494c474e8b1fbd68a57bca5bbf3eb0357947f227b722ed4384470a55e", func := "loop.example/g00491/laws.FnExactSeatMerge", spec := "fnExactSeatMerge", apart := false }
def FnExactSeatMergeSaid : Prop := fnExactSeatMergeRow.holds Try.pinned (OpenSpec.ofChange fnExactSeatMergeSpec)

/-- ITS FALSE NEIGHBOUR: 'it returns false'. Refute it at one input. -/
def fnExactSeatMergeWrong : ChangeSpec := { name := "fnExactSeatMerge", fn := fun _ => fun
  | [d1, d2, d3] => { results := [.lit (.bool false)], args := [d1, d2, d3] }
  | _ => none }
def FnExactSeatMergeWrongFalsely : Prop := fnExactSeatMergeRow.holds Try.pinned (OpenSpec.ofChange fnExactSeatMergeWrong)

/-- 'laws.FnExactSeatReclaim': WHATEVER THE INPUT: true; the input reads as it did. -/
def fnExactSeatReclaimSpec : ChangeSpec := { name := "fnExactSeatReclaim", fn := fun _ => fun
  | [d1, d2] => { results := [.lit (.bool true)], args := [d1, d2] }
  | _ => none }
def fnExactSeatReclaimRow : OpenClaim := { program := "ytcebhnphcgigfaa", sum := "a3d40e4494c474e8b1fbd68a57bca5bbf3eb0357947f227b722ed4384470a55e", func := "loop.example/g00491/laws.FnExactSeatReclaim", spec := "fnExactSeatReclaim", apart := false }
def FnExactSeatReclaimSaid : Prop := fnExactSeatReclaimRow.holds Try.pinned (OpenSpec.ofChange fnExactSeatReclaimSpec)

/-- ITS FALSE NEIGHBOUR: 'it returns false'. Refute it at one input. -/
def fnExactSeatReclaimWrong : ChangeSpec := { name := "fnExactSeatReclaim", fn := fun _ => fun
  | [d1, d2] => { results := [.lit (.bool false)], args := [d1, d2] }
  | _ => none }
def FnExactSeatReclaimWrongFalsely : Prop := fnExactSeatReclaimRow.holds Try.pinned (OpenSpec.ofChange fnExactSeatReclaimWrong)

/-- 'laws.FnSeatMerged': WHATEVER THE INPUT: true; the input reads as it did. -/
def fnSeatMergedSpec : ChangeSpec := { name := "fnSeatMerged", fn := fun _ => fun
  | [d] => { results := [.lit (.bool true)], args := [d] }
  | _ => none }
def fnSeatMergedRow : OpenClaim := { program := "ytcebhnphcgigfaa", sum := "a3d40e4494c474e8b1fbd68a57bca5bbf3eb0357947f227b722ed4384470a55e", func := "loop.example/g00491/laws.FnSeatMerged", spec := "fnSeatMerged", apart := false }
def FnSeatMergedSaid : Prop := fnSeatMergedRow.holds Try.pinned (OpenSpec.ofChange fnSeatMergedSpec)

/-- ITS FALSE NEIGHBOUR: 'it returns false'. Refute it at one input. -/
def fnSeatMergedWrong : ChangeSpec := { name := "fnSeatMerged", fn := fun _ => fun
  | [d] => { results := [.lit (.bool false)], args := [d] }
  | _ => none }
def FnSeatMergedWrongFalsely : Prop := fnSeatMergedRow.holds Try.pinned (OpenSpec.ofChange fnSeatMergedWrong)

/-- 'laws.FnExactFrameSame': WHATEVER THE INPUT: true; the input reads as it did. -/
def fnExactFrameSameSpec : ChangeSpec := { name := "fnExactFrameSame", fn := fun _ => fun
  | [d1, d2] => { results := [.lit (.bool true)], args := [d1, d2] }
  | _ => none }
def fnExactFrameSameRow : OpenClaim := { program := "ytcebhnphcgigfaa", sum := "a3d40e4494c474e8b1fbd68a57bca5bbf3eb0357947f227b722ed4384470a55e", func := "loop.example/g00491/laws.FnExactFrameSame", spec := "fnExactFrameSame", unfollowed := true, recurses := true, apart := false }
def FnExactFrameSameSaid : Prop := fnExactFrameSameRow.holds Try.pinned (OpenSpec.ofChange fnExactFrameSameSpec)

/-- ITS FALSE NEIGHBOUR: 'it returns false'. Refute it at one input. -/
def fnExactFrameSameWrong : ChangeSpec := { name := "fnExactFrameSame", fn := fun _ => fun
  | [d1, d2] => { results := [.lit (.bool false)], args := [d1, d2] }
  | _ => none }
def FnExactFrameSameWrongFalsely : Prop := fnExactFrameSameRow.holds Try.pinned (OpenSpec.ofChange fnExactFrameSameWrong)

/-- 'laws.FnExactRowSame': WHATEVER THE INPUT: true; the input reads as it did. -/
def fnExactRowSameSpec : ChangeSpec := { name := "fnExactRowSame", fn := fun _ => fun
  | [d1, d2] => { results := [.lit (.bool true)], args := [d1, d2] }
  | _ => none }
def fnExactRowSameRow : OpenClaim := { program := "ytcebhnphcgigfaa", sum := "a3d40e4494c474e8b1fbd68a57bca5bbf3eb0357947f227b722ed4384470a55e", func := "loop.example/g00491/laws.FnExactRowSame", spec := "fnExactRowSame", unfollowed := true, recurses := true, apart := false }
def FnExactRowSameSaid : Prop := fnExactRowSameRow.holds Try.pinned (OpenSpec.ofChange fnExactRowSameSpec)

/-- ITS FALSE NEIGHBOUR: 'it returns false'. Refute it at one input. -/
def fnExactRowSameWrong : ChangeSpec := { name := "fnExactRowSame", fn := fun _ => fun
  | [d1, d2] => { results := [.lit (.bool false)], args := [d1, d2] }
  | _ => none }
def FnExactRowSameWrongFalsely : Prop := fnExactRowSameRow.holds Try.pinned (OpenSpec.ofChange fnExactRowSameWrong)

/-- 'laws.FnExactFrameOk': WHATEVER THE INPUT: true; the input reads as it did. -/
def fnExactFrameOkSpec : ChangeSpec := { name := "fnExactFrameOk", fn := fun _ => fun
  | [d] => { results := [.lit (.bool true)], args := [d] }
  | _ => none }
def fnExactFrameOkRow : OpenClaim := { program := "ytcebhnphcgigfaa", sum := "a3d40e4494c474e8b1fbd68a57bca5bbf3eb0357947f227b722ed4384470a55e", func := "loop.example/g00491/laws.FnExactFrameOk", spec := "fnExactFrameOk", unfollowed := true, recurses := true, apart := false }
def FnExactFrameOkSaid : Prop := fnExactFrameOkRow.holds Try.pinned (OpenSpec.ofChange fnExactFrameOkSpec)

/-- ITS FALSE NEIGHBOUR: 'it returns false'. Refute it at one input. -/
def fnExactFrameOkWrong : ChangeSpec := { name := "fnExactFrameOk", fn := fun _ => fun
  | [d] => { results := [.lit (.bool false)], args := [d] }
  | _ => none }
def FnExactFrameOkWrongFalsely : Prop := fnExactFrameOkRow.holds Try.pinned (OpenSpec.ofChange fnExactFrameOkWrong)

/-- 'laws.FnExactRowOk': WHATEVER THE INPUT: true; the input reads as it did. -/
def fnExactRowOkSpec : ChangeSpec := { name := "fnExactRowOk", fn := fun _ => fun
  | [d] => { results := [.lit (.bool true)], args := [d] }
  | _ => none }
def fnExactRowOkRow : OpenClaim := { program := "ytcebhnphcgigfaa", sum := "a3d40e4494c474e8b1fbd68a57bca5bbf3eb0357947f227b722ed4384470a55e", func := "loop.example/g00491/laws.FnExactRowOk", spec := "fnExactRowOk", apart := false }
def FnExactRowOkSaid : Prop := fnExactRowOkRow.holds Try.pinned (OpenSpec.ofChange fnExactRowOkSpec)

/-- ITS FALSE NEIGHBOUR: 'it returns false'. Refute it at one input. -/
def fnExactRowOkWrong : ChangeSpec := { name := "fnExactRowOk", fn := fun _ => fun
  | [d] => { results := [.lit (.bool false)], args := [d] }
  | _ => none }
def FnExactRowOkWrongFalsely : Prop := fnExactRowOkRow.holds Try.pinned (OpenSpec.ofChange fnExactRowOkWrong)

/-- 'laws.FnExactAgentOk': WHATEVER THE INPUT: true; the input reads as it did. -/
def fnExactAgentOkSpec : ChangeSpec := { name := "fnExactAgentOk", fn := fun _ => fun
  | [d] => { results := [.lit (.bool true)], args := [d] }
  | _ => none }
def fnExactAgentOkRow : OpenClaim := { program := "ytcebhnphcgigfaa", sum := "a3d40e4494c474e8b1fbd68a57bca5bbf3eb0357947f227b722ed4384470a55e", func := "loop.example/g00491/laws.FnExactAgentOk", spec := "fnExactAgentOk", apart := false }
def FnExactAgentOkSaid : Prop := fnExactAgentOkRow.holds Try.pinned (OpenSpec.ofChange fnExactAgentOkSpec)

/-- ITS FALSE NEIGHBOUR: 'it returns false'. Refute it at one input. -/
def fnExactAgentOkWrong : ChangeSpec := { name := "fnExactAgentOk", fn := fun _ => fun
  | [d] => { results := [.lit (.bool false)], args := [d] }
  | _ => none }
def FnExactAgentOkWrongFalsely : Prop := fnExactAgentOkRow.holds Try.pinned (OpenSpec.ofChange fnExactAgentOkWrong)

/-- 'laws.FnExactAgentNew': WHATEVER THE INPUT: true; the input reads as it did. -/
def fnExactAgentNewSpec : ChangeSpec := { name := "fnExactAgentNew", fn := fun _ => fun
  | [d] => { results := [.lit (.bool true)], args := [d] }
  | _ => none }
def fnExactAgentNewRow : OpenClaim := { program := "ytcebhnphcgigfaa", sum := "a3d40e4494c474e8b1fbd68a57bca5bbf3eb0357947f227b722ed4384470a55e", func := "loop.example/g00491/laws.FnExactAgentNew", spec := "fnExactAgentNew", apart := false }
def FnExactAgentNewSaid : Prop := fnExactAgentNewRow.holds Try.pinned (OpenSpec.ofChange fnExactAgentNewSpec)

/-- ITS FALSE NEIGHBOUR: 'it returns false'. Refute it at one input. -/
def fnExactAgentNewWrong : ChangeSpec := { name := "fnExactAgentNew", fn := fun _ => fun
  | [d] => { results := [.lit (.bool false)], args := [d] }
  | _ => none }
def FnExactAgentNewWrongFalsely : Prop := fnExactAgentNewRow.holds Try.pinned (OpenSpec.ofChange fnExactAgentNewWrong)

/-- 'laws.FnExactWaiting': WHATEVER THE INPUT: true; the input reads as it did. -/
def fnExactWaitingSpec : ChangeSpec := { name := "fnExactWaiting", fn := fun _ => fun
  | [d] => { results := [.lit (.bool true)], args := [d] }
  | _ => none }
def fnExactWaitingRow : OpenClaim := { program := "ytcebhnphcgigfaa", sum := "a3d40e4494c474e8b1fbd68a57bca5bbf3eb0357947f227b722ed4384470a55e", func := "loop.example/g00491/laws.FnExactWaiting", spec := "fnExactWaiting", unfollowed := true, recurses := true, apart := false }
def FnExactWaitingSaid : Prop := fnExactWaitingRow.holds Try.pinned (OpenSpec.ofChange fnExactWaitingSpec)

/-- ITS FALSE NEIGHBOUR: 'it returns false'. Refute it at one input. -/
def fnExactWaitingWrong : ChangeSpec := { name := "fnExactWaiting", fn := fun _ => fun
  | [d] => { results := [.lit (.bool false)], args := [d] }
  | _ => none }
def FnExactWaitingWrongFalsely : Prop := fnExactWaitingRow.holds Try.pinned (OpenSpec.ofChange fnExactWaitingWrong)

/-- 'laws.FnSpoilt': WHATEVER THE INPUT: true; the input reads as it did. -/
def fnSpoiltSpec : ChangeSpec := { name := "fnSpoilt", fn := fun _ => fun
  | [d] => { results := [.lit (.bool true)], args := [d] }
  | _ => none }
def fnSpoiltRow : OpenClaim := { program := "ytcebhnphcgigfaa", sum := "a3d40e4494c474e8b1fbd68a57bca5bbf3eb0357947f227b722ed4384470a55e", func := "loop.example/g00491/laws.FnSpoilt", spec := "fnSpoilt", unfollowed := true, recurses := true, apart := false }
def FnSpoiltSaid : Prop := fnSpoiltRow.holds Try.pinned (OpenSpec.ofChange fnSpoiltSpec)

/-- ITS FALSE NEIGHBOUR: 'it returns false'. Refute it at one input. -/
def fnSpoiltWrong : ChangeSpec := { name := "fnSpoilt", fn := fun _ => fun
  | [d] => { results := [.lit (.bool false)], args := [d] }
  | _ => none }
def FnSpoiltWrongFalsely : Prop := fnSpoiltRow.holds Try.pinned (OpenSpec.ofChange fnSpoiltWrong)

/-- 'laws.FnExactFrameBytes': WHATEVER THE INPUT: true; the input reads as it did. -/
def fnExactFrameBytesSpec : ChangeSpec := { name := "fnExactFrameBytes", fn := fun _ => fun
  | [d] => { results := [.lit (.bool true)], args := [d] }
  | _ => none }
def fnExactFrameBytesRow : OpenClaim := { program := "ytcebhnphcgigfaa", sum := "a3d40e4494c474e8b1fbd68a57bca5bbf3eb0357947f227b722ed4384470a55e", func := "loop.example/g00491/laws.FnExactFrameBytes", spec := "fnExactFrameBytes", unfollowed := true, recurses := true, apart := false }
def FnExactFrameBytesSaid : Prop := fnExactFrameBytesRow.holds Try.pinned (OpenSpec.ofChange fnExactFrameBytesSpec)

/-- ITS FALSE NEIGHBOUR: 'it returns false'. Refute it at one input. -/
def fnExactFrameBytesWrong : ChangeSpec := { name := "fnExactFrameBytes", fn := fun _ => fun
  | [d] => { results := [.lit (.bool false)], args := [d] }
  | _ => none }
def FnExactFrameBytesWrongFalsely : Prop := fnExactFrameBytesRow.holds Try.pinned (OpenSpec.ofChange fnExactFrameBytesWrong)

/- THE SECOND FORM. 'bulk': how many values and letters a reading holds, each counted each time it is reached (what is shared counts as often as it is met; a slice's spare places count too). A statement '..UptoSaid' is the law's where the arguments, and the package variables that the reading takes, are together of bulk at most 1048576: NARROWER than '..Said'. Prove '..Said' where nothing that the law and all that it calls make is longer than what came in: it says more and counts as full. Else prove '..UptoSaid'. A law counts once. -/
mutual
def uptoBulk {H : Type} : DataW H → Nat
  | .lit (.string bytes) => bytes.length + 1
  | .lit _ => 1
  | .nil => 1
  | .ptr d => uptoBulk d + 1
  | .slice elems spare => uptoBulkAll elems + uptoBulkAll spare + 1
  | .agg parts => uptoBulkAll parts + 1
  | .iface _ d => uptoBulk d + 1
  | .map entries => uptoBulkEntries entries + 1
  | .held _ => 1
def uptoBulkAll {H : Type} : List (DataW H) → Nat
  | [] => 0
  | d :: r => uptoBulk d + uptoBulkAll r
def uptoBulkEntries {H : Type} : List (Lit × DataW H) → Nat
  | [] => 0
  | x :: r => uptoBulkEntry x + uptoBulkEntries r
def uptoBulkEntry {H : Type} : Lit × DataW H → Nat
  | (.string bytes, d) => bytes.length + uptoBulk d + 1
  | (_, d) => uptoBulk d + 1
 end
def uptoSmall : (H : Type) → List (DataW H) → Bool := fun _ ds => decide (uptoBulkAll ds ≤ 1048576)
def OpenSpec.upto (s : _root_.Go.ChangeSpec) : _root_.Go.OpenSpec := { _root_.Go.OpenSpec.ofChange s with cond := some uptoSmall }

/-- 'laws.FnExactSeatMerge', WHERE WHAT IT READS IS OF BULK AT MOST 1048576: true; the input reads as it did. -/
def fnExactSeatMergeUptoRow : OpenClaim := { program := "ytcebhnphcgigfaa", sum := "a3d40e4494c474e8b1fbd68a57bca5bbf3eb0357947f227b722ed4384470a55e", func := "loop.example/g00491/laws.FnExactSeatMerge", spec := "fnExactSeatMerge", apart := false, narrowed := true }
def FnExactSeatMergeUptoSaid : Prop := fnExactSeatMergeUptoRow.holds Try.pinned (OpenSpec.upto fnExactSeatMergeSpec)

/-- 'laws.FnExactSeatReclaim', WHERE WHAT IT READS IS OF BULK AT MOST 1048576: true; the input reads as it did. -/
def fnExactSeatReclaimUptoRow : OpenClaim := { program := "ytcebhnphcgigfaa", sum := "a3d40e4494c474e8b1fbd68a57bca5bbf3eb0357947f227b722ed4384470a55e", func := "loop.example/g00491/laws.FnExactSeatReclaim", spec := "fnExactSeatReclaim", apart := false, narrowed := true }
def FnExactSeatReclaimUptoSaid : Prop := fnExactSeatReclaimUptoRow.holds Try.pinned (OpenSpec.upto fnExactSeatReclaimSpec)

/-- 'laws.FnSeatMerged', WHERE WHAT IT READS IS OF BULK AT MOST 1048576: true; the input reads as it did. -/
def fnSeatMergedUptoRow : OpenClaim := { program := "ytcebhnphcgigfaa", sum := "a3d40e4494c474e8b1fbd68a57bca5bbf3eb0357947f227b722ed4384470a55e", func := "loop.example/g00491/laws.FnSeatMerged", spec := "fnSeatMerged", apart := false, narrowed := true }
def FnSeatMergedUptoSaid : Prop := fnSeatMergedUptoRow.holds Try.pinned (OpenSpec.upto fnSeatMergedSpec)

/-- 'laws.FnExactFrameSame', WHERE WHAT IT READS IS OF BULK AT MOST 1048576: true; the input reads as it did. -/
def fnExactFrameSameUptoRow : OpenClaim := { program := "ytcebhnphcgigfaa", sum := "a3d40e4494c474e8b1fbd68a57bca5bbf3eb0357947f227b722ed4384470a55e", func := "loop.example/g00491/laws.FnExactFrameSame", spec := "fnExactFrameSame", unfollowed := true, recurses := true, apart := false, narrowed := true }
def FnExactFrameSameUptoSaid : Prop := fnExactFrameSameUptoRow.holds Try.pinned (OpenSpec.upto fnExactFrameSameSpec)

/-- 'laws.FnExactRowSame', WHERE WHAT IT READS IS OF BULK AT MOST 1048576: true; the input reads as it did. -/
def fnExactRowSameUptoRow : OpenClaim := { program := "ytcebhnphcgigfaa", sum := "a3d40e4494c474e8b1fbd68a57bca5bbf3eb0357947f227b722ed4384470a55e", func := "loop.example/g00491/laws.FnExactRowSame", spec := "fnExactRowSame", unfollowed := true, recurses := true, apart := false, narrowed := true }
def FnExactRowSameUptoSaid : Prop := fnExactRowSameUptoRow.holds Try.pinned (OpenSpec.upto fnExactRowSameSpec)

/-- 'laws.FnExactFrameOk', WHERE WHAT IT READS IS OF BULK AT MOST 1048576: true; the input reads as it did. -/
def fnExactFrameOkUptoRow : OpenClaim := { program := "ytcebhnphcgigfaa", sum := "a3d40e4494c474e8b1fbd68a57bca5bbf3eb0357947f227b722ed4384470a55e", func := "loop.example/g00491/laws.FnExactFrameOk", spec := "fnExactFrameOk", unfollowed := true, recurses := true, apart := false, narrowed := true }
def FnExactFrameOkUptoSaid : Prop := fnExactFrameOkUptoRow.holds Try.pinned (OpenSpec.upto fnExactFrameOkSpec)

/-- 'laws.FnExactRowOk', WHERE WHAT IT READS IS OF BULK AT MOST 1048576: true; the input reads as it did. -/
def fnExactRowOkUptoRow : OpenClaim := { program := "ytcebhnphcgigfaa", sum := "a3d40e4494c474e8b1fbd68a57bca5bbf3eb0357947f227b722ed4384470a55e", func := "loop.example/g00491/laws.FnExactRowOk", spec := "fnExactRowOk", apart := false, narrowed := true }
def FnExactRowOkUptoSaid : Prop := fnExactRowOkUptoRow.holds Try.pinned (OpenSpec.upto fnExactRowOkSpec)

/-- 'laws.FnExactAgentOk', WHERE WHAT IT READS IS OF BULK AT MOST 1048576: true; the input reads as it did. -/
def fnExactAgentOkUptoRow : OpenClaim := { program := "ytcebhnphcgigfaa", sum := "a3d40e4494c474e8b1fbd68a57bca5bbf3eb0357947f227b722ed4384470a55e", func := "loop.example/g00491/laws.FnExactAgentOk", spec := "fnExactAgentOk", apart := false, narrowed := true }
def FnExactAgentOkUptoSaid : Prop := fnExactAgentOkUptoRow.holds Try.pinned (OpenSpec.upto fnExactAgentOkSpec)

/-- 'laws.FnExactAgentNew', WHERE WHAT IT READS IS OF BULK AT MOST 1048576: true; the input reads as it did. -/
def fnExactAgentNewUptoRow : OpenClaim := { program := "ytcebhnphcgigfaa", sum := "a3d40e4494c474e8b1fbd68a57bca5bbf3eb0357947f227b722ed4384470a55e", func := "loop.example/g00491/laws.FnExactAgentNew", spec := "fnExactAgentNew", apart := false, narrowed := true }
def FnExactAgentNewUptoSaid : Prop := fnExactAgentNewUptoRow.holds Try.pinned (OpenSpec.upto fnExactAgentNewSpec)

/-- 'laws.FnExactWaiting', WHERE WHAT IT READS IS OF BULK AT MOST 1048576: true; the input reads as it did. -/
def fnExactWaitingUptoRow : OpenClaim := { program := "ytcebhnphcgigfaa", sum := "a3d40e4494c474e8b1fbd68a57bca5bbf3eb0357947f227b722ed4384470a55e", func := "loop.example/g00491/laws.FnExactWaiting", spec := "fnExactWaiting", unfollowed := true, recurses := true, apart := false, narrowed := true }
def FnExactWaitingUptoSaid : Prop := fnExactWaitingUptoRow.holds Try.pinned (OpenSpec.upto fnExactWaitingSpec)

/-- 'laws.FnSpoilt', WHERE WHAT IT READS IS OF BULK AT MOST 1048576: true; the input reads as it did. -/
def fnSpoiltUptoRow : OpenClaim := { program := "ytcebhnphcgigfaa", sum := "a3d40e4494c474e8b1fbd68a57bca5bbf3eb0357947f227b722ed4384470a55e", func := "loop.example/g00491/laws.FnSpoilt", spec := "fnSpoilt", unfollowed := true, recurses := true, apart := false, narrowed := true }
def FnSpoiltUptoSaid : Prop := fnSpoiltUptoRow.holds Try.pinned (OpenSpec.upto fnSpoiltSpec)

/-- 'laws.FnExactFrameBytes', WHERE WHAT IT READS IS OF BULK AT MOST 1048576: true; the input reads as it did. -/
def fnExactFrameBytesUptoRow : OpenClaim := { program := "ytcebhnphcgigfaa", sum := "a3d40e4494c474e8b1fbd68a57bca5bbf3eb0357947f227b722ed4384470a55e", func := "loop.example/g00491/laws.FnExactFrameBytes", spec := "fnExactFrameBytes", unfollowed := true, recurses := true, apart := false, narrowed := true }
def FnExactFrameBytesUptoSaid : Prop := fnExactFrameBytesUptoRow.holds Try.pinned (OpenSpec.upto fnExactFrameBytesSpec)

end Rows
end Go.Proofs.Ytcebhnphcgigfaa
