/-
  No cell of these rows narrows 'for every input' (looked for: loops, veiled, ifaces, maps, wideKeys, modest, calm, conditions, laid).
  DERIVED. THE GIVEN ROWS OF THIS SEAT. 6 by the template 'for every input the law returns true; each argument reads behind the call as it read before'; 0 by the template 'total and deterministic' (their statements: YtnpmjlppjcemmaaTotals.lean).
  GIVEN WITH THE SEED: the statements are not yours to turn. If you find one false, say at which input.
  Laid BY PROGRAM, IN A SANDBOX (cutbox-rows.mjs): the forced cells as the released guide's own fill.sh prints them over the translation 3ee1a026d31880b5… (all of the seat's roots in one cut). By AI agents, Wed Nov 11 2026. No macro, syntax, notation, axiom, sorry.
-/
import Derived.Test.YtnpmjlppjcemmaaChecked
import GoSem.Claim
import GoSem.ClaimJoined
import GoSem.ClaimMapViews
import Derived.JoinedTies
import Derived.KernelRfl
namespace Go.Proofs.Ytnpmjlppjcemmaa
/- THE CELL 'sum', in the pinned program and in every row, IS THE sha256 OF THE DUMP (.gsa) THAT YtnpmjlppjcemmaaProg.lean LOADS. Nothing in Lean hashes anything: it is a label: what it is worth is what the hold of that sum in a sandbox is worth. -/
noncomputable def Try.pinned : Pinned := { name := "ytnpmjlppjcemmaa", sum := "3ee1a026d31880b520bbe42c430490b60744f5f7875c0d78d6583f1c7ede82d0", checked := Try.checked }
namespace Rows
def none {H : Type} : Left H := { results := [], args := [] }

/-- 'laws.FnSent': WHATEVER THE INPUT: true; the input reads as it did. -/
def fnSentSpec : ChangeSpec := { name := "fnSent", fn := fun _ => fun
  | [d] => { results := [.lit (.bool true)], args := [d] }
  | _ => none }
def fnSentRow : OpenClaim := { program := "ytnpmjlppjcemmaa", sum := "3ee1a026d31880b520bbe42c430490b60744f5f7875c0d78d6583f1c7ede82d0", func := "loop.example/g00491/laws.FnSent", spec := "fnSent", unfollowed := true, recurses := true, apart := false }
def FnSentSaid : Prop := fnSentRow.holds Try.pinned (OpenSpec.ofChange fnSentSpec)

/-- ITS FALSE NEIGHBOUR: 'it returns false'. Refute it at one input. -/
def fnSentWrong : ChangeSpec := { name := "fnSent", fn := fun _ => fun
  | [d] => { results := [.lit (.bool false)], args := [d] }
  | _ => none }
def FnSentWrongFalsely : Prop := fnSentRow.holds Try.pinned (OpenSpec.ofChange fnSentWrong)

/-- 'laws.FnSpoilt': WHATEVER THE INPUT: true; the input reads as it did. -/
def fnSpoiltSpec : ChangeSpec := { name := "fnSpoilt", fn := fun _ => fun
  | [d] => { results := [.lit (.bool true)], args := [d] }
  | _ => none }
def fnSpoiltRow : OpenClaim := { program := "ytnpmjlppjcemmaa", sum := "3ee1a026d31880b520bbe42c430490b60744f5f7875c0d78d6583f1c7ede82d0", func := "loop.example/g00491/laws.FnSpoilt", spec := "fnSpoilt", unfollowed := true, recurses := true, apart := false }
def FnSpoiltSaid : Prop := fnSpoiltRow.holds Try.pinned (OpenSpec.ofChange fnSpoiltSpec)

/-- ITS FALSE NEIGHBOUR: 'it returns false'. Refute it at one input. -/
def fnSpoiltWrong : ChangeSpec := { name := "fnSpoilt", fn := fun _ => fun
  | [d] => { results := [.lit (.bool false)], args := [d] }
  | _ => none }
def FnSpoiltWrongFalsely : Prop := fnSpoiltRow.holds Try.pinned (OpenSpec.ofChange fnSpoiltWrong)

/-- 'laws.FnExactRowPop': WHATEVER THE INPUT: true; the input reads as it did. -/
def fnExactRowPopSpec : ChangeSpec := { name := "fnExactRowPop", fn := fun _ => fun
  | [d] => { results := [.lit (.bool true)], args := [d] }
  | _ => none }
def fnExactRowPopRow : OpenClaim := { program := "ytnpmjlppjcemmaa", sum := "3ee1a026d31880b520bbe42c430490b60744f5f7875c0d78d6583f1c7ede82d0", func := "loop.example/g00491/laws.FnExactRowPop", spec := "fnExactRowPop", apart := false }
def FnExactRowPopSaid : Prop := fnExactRowPopRow.holds Try.pinned (OpenSpec.ofChange fnExactRowPopSpec)

/-- ITS FALSE NEIGHBOUR: 'it returns false'. Refute it at one input. -/
def fnExactRowPopWrong : ChangeSpec := { name := "fnExactRowPop", fn := fun _ => fun
  | [d] => { results := [.lit (.bool false)], args := [d] }
  | _ => none }
def FnExactRowPopWrongFalsely : Prop := fnExactRowPopRow.holds Try.pinned (OpenSpec.ofChange fnExactRowPopWrong)

/-- 'laws.FnFrames': WHATEVER THE INPUT: true; the input reads as it did. -/
def fnFramesSpec : ChangeSpec := { name := "fnFrames", fn := fun _ => fun
  | [d] => { results := [.lit (.bool true)], args := [d] }
  | _ => none }
def fnFramesRow : OpenClaim := { program := "ytnpmjlppjcemmaa", sum := "3ee1a026d31880b520bbe42c430490b60744f5f7875c0d78d6583f1c7ede82d0", func := "loop.example/g00491/laws.FnFrames", spec := "fnFrames", unfollowed := true, recurses := true, apart := false }
def FnFramesSaid : Prop := fnFramesRow.holds Try.pinned (OpenSpec.ofChange fnFramesSpec)

/-- ITS FALSE NEIGHBOUR: 'it returns false'. Refute it at one input. -/
def fnFramesWrong : ChangeSpec := { name := "fnFrames", fn := fun _ => fun
  | [d] => { results := [.lit (.bool false)], args := [d] }
  | _ => none }
def FnFramesWrongFalsely : Prop := fnFramesRow.holds Try.pinned (OpenSpec.ofChange fnFramesWrong)

/-- 'laws.FnSealed': WHATEVER THE INPUT: true; the input reads as it did. -/
def fnSealedSpec : ChangeSpec := { name := "fnSealed", fn := fun _ => fun
  | [d] => { results := [.lit (.bool true)], args := [d] }
  | _ => none }
def fnSealedRow : OpenClaim := { program := "ytnpmjlppjcemmaa", sum := "3ee1a026d31880b520bbe42c430490b60744f5f7875c0d78d6583f1c7ede82d0", func := "loop.example/g00491/laws.FnSealed", spec := "fnSealed", unfollowed := true, recurses := true, apart := false }
def FnSealedSaid : Prop := fnSealedRow.holds Try.pinned (OpenSpec.ofChange fnSealedSpec)

/-- ITS FALSE NEIGHBOUR: 'it returns false'. Refute it at one input. -/
def fnSealedWrong : ChangeSpec := { name := "fnSealed", fn := fun _ => fun
  | [d] => { results := [.lit (.bool false)], args := [d] }
  | _ => none }
def FnSealedWrongFalsely : Prop := fnSealedRow.holds Try.pinned (OpenSpec.ofChange fnSealedWrong)

/-- 'laws.FnExactRowSum': WHATEVER THE INPUT: true; the input reads as it did. -/
def fnExactRowSumSpec : ChangeSpec := { name := "fnExactRowSum", fn := fun _ => fun
  | [d] => { results := [.lit (.bool true)], args := [d] }
  | _ => none }
def fnExactRowSumRow : OpenClaim := { program := "ytnpmjlppjcemmaa", sum := "3ee1a026d31880b520bbe42c430490b60744f5f7875c0d78d6583f1c7ede82d0", func := "loop.example/g00491/laws.FnExactRowSum", spec := "fnExactRowSum", unfollowed := true, recurses := true, apart := false }
def FnExactRowSumSaid : Prop := fnExactRowSumRow.holds Try.pinned (OpenSpec.ofChange fnExactRowSumSpec)

/-- ITS FALSE NEIGHBOUR: 'it returns false'. Refute it at one input. -/
def fnExactRowSumWrong : ChangeSpec := { name := "fnExactRowSum", fn := fun _ => fun
  | [d] => { results := [.lit (.bool false)], args := [d] }
  | _ => none }
def FnExactRowSumWrongFalsely : Prop := fnExactRowSumRow.holds Try.pinned (OpenSpec.ofChange fnExactRowSumWrong)

/- THE SECOND FORM. 'bulk': how many values and letters a reading holds, each counted each time it is reached (what is shared counts as often as it is met; a slice's spare places count too). A statement '..UptoSaid' is the law's where the arguments, and the package variables that the reading takes, are together of bulk at most 1048576: NARROWER than '..Said'. Prove '..Said' where nothing that the law and all that it calls make is longer than what came in: it says more and counts as full. Else prove '..UptoSaid'. A law counts once. -/
mutual
def uptoBulk {H : Type} : DataW H → Nat
  | .lit (.string bytes) => bytes.length + 1
  | .lit _ => 1
  | .nil => 1
  | .ptr d => uptoBulk d + 1
  | .slice elems spare => uptoBulkAll elems + uptoBulkAll spare + 1
  | .agg parts => uptoBulkAll parts + 1
  | .iface _ d => uptoBulk d + 1
  | .map entries => uptoBulkEntries entries + 1
  | .held _ => 1
def uptoBulkAll {H : Type} : List (DataW H) → Nat
  | [] => 0
  | d :: r => uptoBulk d + uptoBulkAll r
def uptoBulkEntries {H : Type} : List (Lit × DataW H) → Nat
  | [] => 0
  | x :: r => uptoBulkEntry x + uptoBulkEntries r
def uptoBulkEntry {H : Type} : Lit × DataW H → Nat
  | (.string bytes, d) => bytes.length + uptoBulk d + 1
  | (_, d) => uptoBulk d + 1
 end
def uptoSmall : (H : Type) → List (DataW H) → Bool := fun _ ds => decide (uptoBulkAll ds ≤ 1048576)
def OpenSpec.upto (s : _root_.Go.ChangeSpec) : _root_.Go.OpenSpec := { _root_.Go.OpenSpec.ofChange s with cond := some uptoSmall }

/-- 'laws.FnSent', WHERE WHAT IT READS IS OF BULK AT MOST 1048576: true; the input reads as it did. -/
def fnSentUptoRow : OpenClaim := { program := "ytnpmjlppjcemmaa", sum := "3ee1a026d31880b520bbe42c430490b60744f5f7875c0d78d6583f1c7ede82d0", func := "loop.example/g00491/laws.FnSent", spec := "fnSent", unfollowed := true, recurses := true, apart := false, narrowed := true }
def FnSentUptoSaid : Prop := fnSentUptoRow.holds Try.pinned (OpenSpec.upto fnSentSpec)

/-- 'laws.FnSpoilt', WHERE WHAT IT READS IS OF BULK AT MOST 1048576: true; the input reads as it did. -/
def fnSpoiltUptoRow : OpenClaim := { program := "ytnpmjlppjcemmaa", sum := "3ee1a026d31880b520bbe42c430490b60744f5f7875c0d78d6583f1c7ede82d0", func := "loop.example/g00491/laws.FnSpoilt", spec := "fnSpoilt", unfollowed := true, recurses := true, apart := false, narrowed := true }
def FnSpoiltUptoSaid : Prop := fnSpoiltUptoRow.holds Try.pinned (OpenSpec.upto fnSpoiltSpec)

/-- 'laws.FnExactRowPop', WHERE WHAT IT READS IS OF BULK AT MOST 1048576: true; the input reads as it did. -/
def fnExactRowPopUptoRow : OpenClaim := { program := "ytnpmjlppjcemmaa", sum := "3ee1a026d31880b520bbe42c430490b60744f5f7875c0d78d6583f1c7ede82d0", func := "loop.example/g00491/laws.FnExactRowPop", spec := "fnExactRowPop", apart := false, narrowed := true }
def FnExactRowPopUptoSaid : Prop := fnExactRowPopUptoRow.holds Try.pinned (OpenSpec.upto fnExactRowPopSpec)

/-- 'laws.FnFrames', WHERE WHAT IT READS IS OF BULK AT MOST 1048576: true; the input reads as it did. -/
def fnFramesUptoRow : OpenClaim := { program := "ytnpmjlppjcemmaa", sum := "3ee1a026d31880b520bbe42c430490b60744f5f7875c0d78d6583f1c7ede82d0", func := "loop.example/g00491/laws.FnFrames", spec := "fnFrames", unfollowed := true, recurses := true, apart := false, narrowed := true }
def FnFramesUptoSaid : Prop := fnFramesUptoRow.holds Try.pinned (OpenSpec.upto fnFramesSpec)

/-- 'laws.FnSealed', WHERE WHAT IT READS IS OF BULK AT MOST 1048576: true; the input reads as it did. -/
def fnSealedUptoRow : OpenClaim := { program := "ytnpmjlppjcemmaa", sum := "3ee1a026d31880b520bbe42c430490b60744f5f7875c0d78d6583f1c7ede82d0", func := "loop.example/g00491/laws.FnSealed", spec := "fnSealed", unfollowed := true, recurses := true, apart := false, narrowed := true }
def FnSealedUptoSaid : Prop := fnSealedUptoRow.holds Try.pinned (OpenSpec.upto fnSealedSpec)

/-- 'laws.FnExactRowSum', WHERE WHAT IT READS IS OF BULK AT MOST 1048576: true; the input reads as it did. -/
def fnExactRowSumUptoRow : OpenClaim := { program := "ytnpmjlppjcemmaa", sum := "3ee1a026d31880b520bbe42c430490b60744f5f7875c0d78d6583f1c7ede82d0", func := "loop.example/g00491/laws.FnExactRowSum", spec := "fnExactRowSum", unfollowed := true, recurses := true, apart := false, narrowed := true }
def FnExactRowSumUptoSaid : Prop := fnExactRowSumUptoRow.holds Try.pinned (OpenSpec.upto fnExactRowSumSpec)

end Rows
end Go.Proofs.Ytnpmjlppjcemmaa
