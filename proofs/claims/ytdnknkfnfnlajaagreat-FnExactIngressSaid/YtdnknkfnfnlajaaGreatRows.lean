/-
  No cell of these rows narrows 'for every input' (looked for: loops, veiled, ifaces, maps, wideKeys, modest, calm, conditions, laid).
  DERIVED. THE GIVEN ROWS OF THIS SEAT. 9 by the template 'for every input the law returns true; each argument reads behind the call as it read before'; 0 by the template 'total and deterministic' (their statements: YtdnknkfnfnlajaaGreatTotals.lean).
  GIVEN WITH THE SEED: the statements are not yours to turn. If you find one false, say at which input.
  Laid BY PROGRAM, IN A SANDBOX (cutbox-rows.mjs): the forced cells as the released guide's own fill.sh prints them over the translation 35e8951d3c85ce45… (all of the seat's roots in one cut). By AI agents, Wed Nov 11 2026. No macro, syntax, notation, axiom, sorry.
-/
import Derived.Test.YtdnknkfnfnlajaaGreatChecked
import GoSem.Claim
import GoSem.ClaimJoined
import GoSem.ClaimMapViews
import Derived.JoinedTies
import Derived.KernelRfl
namespace Go.Proofs.YtdnknkfnfnlajaaGreat
/- THE CELL 'sum', in the pinned program and in every row, IS THE sha256 OF THE DUMP (.gsa) THAT YtdnknkfnfnlajaaGreatProg.lean LOADS. Nothing in Lean hashes anything: it is a label: what it is worth is what the hold of that sum in a sandbox is worth. -/
noncomputable def Tryz.pinned : Pinned := { name := "ytdnknkfnfnlajaagreat", sum := "35e8951d3c85ce45d5f29e4429685a879001fe1aea6ff72bd2175a96beab4a6e", checked := Tryz.checked }
namespace Rows
def none {H : Type} : Left H := { results := [], args := [] }

/-- 'laws.FnRootAdded': WHATEVER THE INPUT: true; the input reads as it did. -/
def fnRootAddedSpec : ChangeSpec := { name := "fnRootAdded", fn := fun _ => fun
  | [d] => { results := [.lit (.bool true)], args := [d] }
  | _ => none }
def fnRootAddedRow : OpenClaim := { program := "ytdnknkfnfnlajaagreat", sum := "35e8951d3c85ce45d5f29e4429685a879001fe1aea6ff72bd2175a96beab4a6e", func := "loop.example/g00491/laws.FnRootAdded", spec := "fnRootAdded", inPlace := ["slices.overlaps[loop.example/g00491/impl.Entry]"], unfollowed := true, recurses := true, apart := false }
def FnRootAddedSaid : Prop := fnRootAddedRow.holds Tryz.pinned (OpenSpec.ofChange fnRootAddedSpec)

/-- ITS FALSE NEIGHBOUR: 'it returns false'. Refute it at one input. -/
def fnRootAddedWrong : ChangeSpec := { name := "fnRootAdded", fn := fun _ => fun
  | [d] => { results := [.lit (.bool false)], args := [d] }
  | _ => none }
def FnRootAddedWrongFalsely : Prop := fnRootAddedRow.holds Tryz.pinned (OpenSpec.ofChange fnRootAddedWrong)

/-- 'laws.FnExactRootAdd': WHATEVER THE INPUT: true; the input reads as it did. -/
def fnExactRootAddSpec : ChangeSpec := { name := "fnExactRootAdd", fn := fun _ => fun
  | [d1, d2] => { results := [.lit (.bool true)], args := [d1, d2] }
  | _ => none }
def fnExactRootAddRow : OpenClaim := { program := "ytdnknkfnfnlajaagreat", sum := "35e8951d3c85ce45d5f29e4429685a879001fe1aea6ff72bd2175a96beab4a6e", func := "loop.example/g00491/laws.FnExactRootAdd", spec := "fnExactRootAdd", inPlace := ["slices.overlaps[loop.example/g00491/impl.Entry]"], unfollowed := true, recurses := true, apart := false }
def FnExactRootAddSaid : Prop := fnExactRootAddRow.holds Tryz.pinned (OpenSpec.ofChange fnExactRootAddSpec)

/-- ITS FALSE NEIGHBOUR: 'it returns false'. Refute it at one input. -/
def fnExactRootAddWrong : ChangeSpec := { name := "fnExactRootAdd", fn := fun _ => fun
  | [d1, d2] => { results := [.lit (.bool false)], args := [d1, d2] }
  | _ => none }
def FnExactRootAddWrongFalsely : Prop := fnExactRootAddRow.holds Tryz.pinned (OpenSpec.ofChange fnExactRootAddWrong)

/-- 'laws.FnExactHouseOk': WHATEVER THE INPUT: true; the input reads as it did. -/
def fnExactHouseOkSpec : ChangeSpec := { name := "fnExactHouseOk", fn := fun _ => fun
  | [d] => { results := [.lit (.bool true)], args := [d] }
  | _ => none }
def fnExactHouseOkRow : OpenClaim := { program := "ytdnknkfnfnlajaagreat", sum := "35e8951d3c85ce45d5f29e4429685a879001fe1aea6ff72bd2175a96beab4a6e", func := "loop.example/g00491/laws.FnExactHouseOk", spec := "fnExactHouseOk", unfollowed := true, recurses := true, apart := false }
def FnExactHouseOkSaid : Prop := fnExactHouseOkRow.holds Tryz.pinned (OpenSpec.ofChange fnExactHouseOkSpec)

/-- ITS FALSE NEIGHBOUR: 'it returns false'. Refute it at one input. -/
def fnExactHouseOkWrong : ChangeSpec := { name := "fnExactHouseOk", fn := fun _ => fun
  | [d] => { results := [.lit (.bool false)], args := [d] }
  | _ => none }
def FnExactHouseOkWrongFalsely : Prop := fnExactHouseOkRow.holds Tryz.pinned (OpenSpec.ofChange fnExactHouseOkWrong)

/-- 'laws.FnExactSizes': WHATEVER THE INPUT: true; the input reads as it did. -/
def fnExactSizesSpec : ChangeSpec := { name := "fnExactSizes", fn := fun _ => fun
  | [d1, d2] => { results := [.lit (.bool true)], args := [d1, d2] }
  | _ => none }
def fnExactSizesRow : OpenClaim := { program := "ytdnknkfnfnlajaagreat", sum := "35e8951d3c85ce45d5f29e4429685a879001fe1aea6ff72bd2175a96beab4a6e", func := "loop.example/g00491/laws.FnExactSizes", spec := "fnExactSizes", unfollowed := true, recurses := true, apart := false }
def FnExactSizesSaid : Prop := fnExactSizesRow.holds Tryz.pinned (OpenSpec.ofChange fnExactSizesSpec)

/-- ITS FALSE NEIGHBOUR: 'it returns false'. Refute it at one input. -/
def fnExactSizesWrong : ChangeSpec := { name := "fnExactSizes", fn := fun _ => fun
  | [d1, d2] => { results := [.lit (.bool false)], args := [d1, d2] }
  | _ => none }
def FnExactSizesWrongFalsely : Prop := fnExactSizesRow.holds Tryz.pinned (OpenSpec.ofChange fnExactSizesWrong)

/-- 'laws.FnExactAnswer': WHATEVER THE INPUT: true; the input reads as it did. -/
def fnExactAnswerSpec : ChangeSpec := { name := "fnExactAnswer", fn := fun _ => fun
  | [d1, d2] => { results := [.lit (.bool true)], args := [d1, d2] }
  | _ => none }
def fnExactAnswerRow : OpenClaim := { program := "ytdnknkfnfnlajaagreat", sum := "35e8951d3c85ce45d5f29e4429685a879001fe1aea6ff72bd2175a96beab4a6e", func := "loop.example/g00491/laws.FnExactAnswer", spec := "fnExactAnswer", unfollowed := true, recurses := true, apart := false }
def FnExactAnswerSaid : Prop := fnExactAnswerRow.holds Tryz.pinned (OpenSpec.ofChange fnExactAnswerSpec)

/-- ITS FALSE NEIGHBOUR: 'it returns false'. Refute it at one input. -/
def fnExactAnswerWrong : ChangeSpec := { name := "fnExactAnswer", fn := fun _ => fun
  | [d1, d2] => { results := [.lit (.bool false)], args := [d1, d2] }
  | _ => none }
def FnExactAnswerWrongFalsely : Prop := fnExactAnswerRow.holds Tryz.pinned (OpenSpec.ofChange fnExactAnswerWrong)

/-- 'laws.FnExactNextOf': WHATEVER THE INPUT: true; the input reads as it did. -/
def fnExactNextOfSpec : ChangeSpec := { name := "fnExactNextOf", fn := fun _ => fun
  | [d] => { results := [.lit (.bool true)], args := [d] }
  | _ => none }
def fnExactNextOfRow : OpenClaim := { program := "ytdnknkfnfnlajaagreat", sum := "35e8951d3c85ce45d5f29e4429685a879001fe1aea6ff72bd2175a96beab4a6e", func := "loop.example/g00491/laws.FnExactNextOf", spec := "fnExactNextOf", unfollowed := true, recurses := true, apart := false }
def FnExactNextOfSaid : Prop := fnExactNextOfRow.holds Tryz.pinned (OpenSpec.ofChange fnExactNextOfSpec)

/-- ITS FALSE NEIGHBOUR: 'it returns false'. Refute it at one input. -/
def fnExactNextOfWrong : ChangeSpec := { name := "fnExactNextOf", fn := fun _ => fun
  | [d] => { results := [.lit (.bool false)], args := [d] }
  | _ => none }
def FnExactNextOfWrongFalsely : Prop := fnExactNextOfRow.holds Tryz.pinned (OpenSpec.ofChange fnExactNextOfWrong)

/-- 'laws.FnExactIngress': WHATEVER THE INPUT: true; the input reads as it did. -/
def fnExactIngressSpec : ChangeSpec := { name := "fnExactIngress", fn := fun _ => fun
  | [d1, d2] => { results := [.lit (.bool true)], args := [d1, d2] }
  | _ => none }
def fnExactIngressRow : OpenClaim := { program := "ytdnknkfnfnlajaagreat", sum := "35e8951d3c85ce45d5f29e4429685a879001fe1aea6ff72bd2175a96beab4a6e", func := "loop.example/g00491/laws.FnExactIngress", spec := "fnExactIngress", unfollowed := true, recurses := true, apart := false }
def FnExactIngressSaid : Prop := fnExactIngressRow.holds Tryz.pinned (OpenSpec.ofChange fnExactIngressSpec)

/-- ITS FALSE NEIGHBOUR: 'it returns false'. Refute it at one input. -/
def fnExactIngressWrong : ChangeSpec := { name := "fnExactIngress", fn := fun _ => fun
  | [d1, d2] => { results := [.lit (.bool false)], args := [d1, d2] }
  | _ => none }
def FnExactIngressWrongFalsely : Prop := fnExactIngressRow.holds Tryz.pinned (OpenSpec.ofChange fnExactIngressWrong)

/-- 'laws.FnExactMergeStep': WHATEVER THE INPUT: true; the input reads as it did. -/
def fnExactMergeStepSpec : ChangeSpec := { name := "fnExactMergeStep", fn := fun _ => fun
  | [d] => { results := [.lit (.bool true)], args := [d] }
  | _ => none }
def fnExactMergeStepRow : OpenClaim := { program := "ytdnknkfnfnlajaagreat", sum := "35e8951d3c85ce45d5f29e4429685a879001fe1aea6ff72bd2175a96beab4a6e", func := "loop.example/g00491/laws.FnExactMergeStep", spec := "fnExactMergeStep", inPlace := ["slices.overlaps[loop.example/g00491/impl.Entry]"], unfollowed := true, recurses := true, apart := false }
def FnExactMergeStepSaid : Prop := fnExactMergeStepRow.holds Tryz.pinned (OpenSpec.ofChange fnExactMergeStepSpec)

/-- ITS FALSE NEIGHBOUR: 'it returns false'. Refute it at one input. -/
def fnExactMergeStepWrong : ChangeSpec := { name := "fnExactMergeStep", fn := fun _ => fun
  | [d] => { results := [.lit (.bool false)], args := [d] }
  | _ => none }
def FnExactMergeStepWrongFalsely : Prop := fnExactMergeStepRow.holds Tryz.pinned (OpenSpec.ofChange fnExactMergeStepWrong)

/-- 'laws.FnExactIngressBytes': WHATEVER THE INPUT: true; the input reads as it did. -/
def fnExactIngressBytesSpec : ChangeSpec := { name := "fnExactIngressBytes", fn := fun _ => fun
  | [d1, d2] => { results := [.lit (.bool true)], args := [d1, d2] }
  | _ => none }
def fnExactIngressBytesRow : OpenClaim := { program := "ytdnknkfnfnlajaagreat", sum := "35e8951d3c85ce45d5f29e4429685a879001fe1aea6ff72bd2175a96beab4a6e", func := "loop.example/g00491/laws.FnExactIngressBytes", spec := "fnExactIngressBytes", unfollowed := true, recurses := true, apart := false }
def FnExactIngressBytesSaid : Prop := fnExactIngressBytesRow.holds Tryz.pinned (OpenSpec.ofChange fnExactIngressBytesSpec)

/-- ITS FALSE NEIGHBOUR: 'it returns false'. Refute it at one input. -/
def fnExactIngressBytesWrong : ChangeSpec := { name := "fnExactIngressBytes", fn := fun _ => fun
  | [d1, d2] => { results := [.lit (.bool false)], args := [d1, d2] }
  | _ => none }
def FnExactIngressBytesWrongFalsely : Prop := fnExactIngressBytesRow.holds Tryz.pinned (OpenSpec.ofChange fnExactIngressBytesWrong)

/- THE SECOND FORM. 'bulk': how many values and letters a reading holds, each counted each time it is reached (what is shared counts as often as it is met; a slice's spare places count too). A statement '..UptoSaid' is the law's where the arguments, and the package variables that the reading takes, are together of bulk at most 1048576: NARROWER than '..Said'. Prove '..Said' where nothing that the law and all that it calls make is longer than what came in: it says more and counts as full. Else prove '..UptoSaid'. A law counts once. -/
mutual
def uptoBulk {H : Type} : DataW H → Nat
  | .lit (.string bytes) => bytes.length + 1
  | .lit _ => 1
  | .nil => 1
  | .ptr d => uptoBulk d + 1
  | .slice elems spare => uptoBulkAll elems + uptoBulkAll spare + 1
  | .agg parts => uptoBulkAll parts + 1
  | .iface _ d => uptoBulk d + 1
  | .map entries => uptoBulkEntries entries + 1
  | .held _ => 1
def uptoBulkAll {H : Type} : List (DataW H) → Nat
  | [] => 0
  | d :: r => uptoBulk d + uptoBulkAll r
def uptoBulkEntries {H : Type} : List (Lit × DataW H) → Nat
  | [] => 0
  | x :: r => uptoBulkEntry x + uptoBulkEntries r
def uptoBulkEntry {H : Type} : Lit × DataW H → Nat
  | (.string bytes, d) => bytes.length + uptoBulk d + 1
  | (_, d) => uptoBulk d + 1
 end
def uptoSmall : (H : Type) → List (DataW H) → Bool := fun _ ds => decide (uptoBulkAll ds ≤ 1048576)
def OpenSpec.upto (s : _root_.Go.ChangeSpec) : _root_.Go.OpenSpec := { _root_.Go.OpenSpec.ofChange s with cond := some uptoSmall }

/-- 'laws.FnRootAdded', WHERE WHAT IT READS IS OF BULK AT MOST 1048576: true; the input reads as it did. -/
def fnRootAddedUptoRow : OpenClaim := { program := "ytdnknkfnfnlajaagreat", sum := "35e8951d3c85ce45d5f29e4429685a879001fe1aea6ff72bd2175a96beab4a6e", func := "loop.example/g00491/laws.FnRootAdded", spec := "fnRootAdded", inPlace := ["slices.overlaps[loop.example/g00491/impl.Entry]"], unfollowed := true, recurses := true, apart := false, narrowed := true }
def FnRootAddedUptoSaid : Prop := fnRootAddedUptoRow.holds Tryz.pinned (OpenSpec.upto fnRootAddedSpec)

/-- 'laws.FnExactRootAdd', WHERE WHAT IT READS IS OF BULK AT MOST 1048576: true; the input reads as it did. -/
def fnExactRootAddUptoRow : OpenClaim := { program := "ytdnknkfnfnlajaagreat", sum := "35e8951d3c85ce45d5f29e4429685a879001fe1aea6ff72bd2175a96beab4a6e", func := "loop.example/g00491/laws.FnExactRootAdd", spec := "fnExactRootAdd", inPlace := ["slices.overlaps[loop.example/g00491/impl.Entry]"], unfollowed := true, recurses := true, apart := false, narrowed := true }
def FnExactRootAddUptoSaid : Prop := fnExactRootAddUptoRow.holds Tryz.pinned (OpenSpec.upto fnExactRootAddSpec)

/-- 'laws.FnExactHouseOk', WHERE WHAT IT READS IS OF BULK AT MOST 1048576: true; the input reads as it did. -/
def fnExactHouseOkUptoRow : OpenClaim := { program := "ytdnknkfnfnlajaagreat", sum := "35e8951d3c85ce45d5f29e4429685a879001fe1aea6ff72bd2175a96beab4a6e", func := "loop.example/g00491/laws.FnExactHouseOk", spec := "fnExactHouseOk", unfollowed := true, recurses := true, apart := false, narrowed := true }
def FnExactHouseOkUptoSaid : Prop := fnExactHouseOkUptoRow.holds Tryz.pinned (OpenSpec.upto fnExactHouseOkSpec)

/-- 'laws.FnExactSizes', WHERE WHAT IT READS IS OF BULK AT MOST 1048576: true; the input reads as it did. -/
def fnExactSizesUptoRow : OpenClaim := { program := "ytdnknkfnfnlajaagreat", sum := "35e8951d3c85ce45d5f29e4429685a879001fe1aea6ff72bd2175a96beab4a6e", func := "loop.example/g00491/laws.FnExactSizes", spec := "fnExactSizes", unfollowed := true, recurses := true, apart := false, narrowed := true }
def FnExactSizesUptoSaid : Prop := fnExactSizesUptoRow.holds Tryz.pinned (OpenSpec.upto fnExactSizesSpec)

/-- 'laws.FnExactAnswer', WHERE WHAT IT READS IS OF BULK AT MOST 1048576: true; the input reads as it did. -/
def fnExactAnswerUptoRow : OpenClaim := { program := "ytdnknkfnfnlajaagreat", sum := "35e8951d3c85ce45d5f29e4429685a879001fe1aea6ff72bd2175a96beab4a6e", func := "loop.example/g00491/laws.FnExactAnswer", spec := "fnExactAnswer", unfollowed := true, recurses := true, apart := false, narrowed := true }
def FnExactAnswerUptoSaid : Prop := fnExactAnswerUptoRow.holds Tryz.pinned (OpenSpec.upto fnExactAnswerSpec)

/-- 'laws.FnExactNextOf', WHERE WHAT IT READS IS OF BULK AT MOST 1048576: true; the input reads as it did. -/
def fnExactNextOfUptoRow : OpenClaim := { program := "ytdnknkfnfnlajaagreat", sum := "35e8951d3c85ce45d5f29e4429685a879001fe1aea6ff72bd2175a96beab4a6e", func := "loop.example/g00491/laws.FnExactNextOf", spec := "fnExactNextOf", unfollowed := true, recurses := true, apart := false, narrowed := true }
def FnExactNextOfUptoSaid : Prop := fnExactNextOfUptoRow.holds Tryz.pinned (OpenSpec.upto fnExactNextOfSpec)

/-- 'laws.FnExactIngress', WHERE WHAT IT READS IS OF BULK AT MOST 1048576: true; the input reads as it did. -/
def fnExactIngressUptoRow : OpenClaim := { program := "ytdnknkfnfnlajaagreat", sum := "35e8951d3c85ce45d5f29e4429685a879001fe1aea6ff72bd2175a96beab4a6e", func := "loop.example/g00491/laws.FnExactIngress", spec := "fnExactIngress", unfollowed := true, recurses := true, apart := false, narrowed := true }
def FnExactIngressUptoSaid : Prop := fnExactIngressUptoRow.holds Tryz.pinned (OpenSpec.upto fnExactIngressSpec)

/-- 'laws.FnExactMergeStep', WHERE WHAT IT READS IS OF BULK AT MOST 1048576: true; the input reads as it did. -/
def fnExactMergeStepUptoRow : OpenClaim := { program := "ytdnknkfnfnlajaagreat", sum := "35e8951d3c85ce45d5f29e4429685a879001fe1aea6ff72bd2175a96beab4a6e", func := "loop.example/g00491/laws.FnExactMergeStep", spec := "fnExactMergeStep", inPlace := ["slices.overlaps[loop.example/g00491/impl.Entry]"], unfollowed := true, recurses := true, apart := false, narrowed := true }
def FnExactMergeStepUptoSaid : Prop := fnExactMergeStepUptoRow.holds Tryz.pinned (OpenSpec.upto fnExactMergeStepSpec)

/-- 'laws.FnExactIngressBytes', WHERE WHAT IT READS IS OF BULK AT MOST 1048576: true; the input reads as it did. -/
def fnExactIngressBytesUptoRow : OpenClaim := { program := "ytdnknkfnfnlajaagreat", sum := "35e8951d3c85ce45d5f29e4429685a879001fe1aea6ff72bd2175a96beab4a6e", func := "loop.example/g00491/laws.FnExactIngressBytes", spec := "fnExactIngressBytes", unfollowed := true, recurses := true, apart := false, narrowed := true }
def FnExactIngressBytesUptoSaid : Prop := fnExactIngressBytesUptoRow.holds Tryz.pinned (OpenSpec.upto fnExactIngressBytesSpec)

end Rows
end Go.Proofs.YtdnknkfnfnlajaaGreat
