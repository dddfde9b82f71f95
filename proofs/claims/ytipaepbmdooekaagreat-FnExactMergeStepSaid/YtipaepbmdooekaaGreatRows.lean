/-
  No cell of these rows narrows 'for every input' (looked for: loops, veiled, ifaces, maps, wideKeys, modest, calm, conditions, laid).
  DERIVED. THE GIVEN ROWS OF THIS SEAT. 5 by the template 'for every input the law returns true; each argument reads behind the call as it read before'; 0 by the template 'total and deterministic' (their statements: YtipaepbmdooekaaGreatTotals.lean).
  GIVEN WITH THE SEED: the statements are not yours to turn. If you find one false, say at which input.
  Laid BY PROGRAM, IN A SANDBOX (cutbox-rows.mjs): the forced cells as the released guide's own fill.sh prints them over the translation dc3dca3fb8035353… (all of the seat's roots in one cut). By AI agents, Wed Nov 11 2026. No macro, syntax, notation, axiom, sorry.
-/
import Derived.Test.YtipaepbmdooekaaGreatChecked
import GoSem.Claim
import GoSem.ClaimJoined
import GoSem.ClaimMapViews
import Derived.JoinedTies
import Derived.KernelRfl
namespace Go.Proofs.YtipaepbmdooekaaGreat
/- THE CELL 'sum', in the pinned program and in every row, IS THE sha256 OF THE DUMP (.gsa) THAT YtipaepbmdooekaaGreatProg.lean LOADS. Nothing in Lean hashes anything: it is a label: what it is worth is what the hold of that sum in a sandbox is worth. -/
noncomputable def Tryz.pinned : Pinned := { name := "ytipaepbmdooekaagreat", sum := "dc3dca3fb80353534d611f1959af2ffa0a5a98a57c7083892d28ef1d4305b24e", checked := Tryz.checked }
namespace Rows
def none {H : Type} : Left H := { results := [], args := [] }

/-- 'laws.FnRootAdded': WHATEVER THE INPUT: true; the input reads as it did. -/
def fnRootAddedSpec : ChangeSpec := { name := "fnRootAdded", fn := fun _ => fun
  | [d] => { results := [.lit (.bool true)], args := [d] }
  | _ => none }
def fnRootAddedRow : OpenClaim := { program := "ytipaepbmdooekaagreat", sum := "dc3dca3fb80353534d611f1959af2ffa0a5a98a57c7083892d28ef1d4305b24e", func := "loop.example/g00491/laws.FnRootAdded", spec := "fnRootAdded", inPlace := ["slices.overlaps[loop.example/g00491/impl.Entry]"], unfollowed := true, recurses := true, apart := false }
def FnRootAddedSaid : Prop := fnRootAddedRow.holds Tryz.pinned (OpenSpec.ofChange fnRootAddedSpec)

/-- ITS FALSE NEIGHBOUR: 'it returns false'. Refute it at one input. -/
def fnRootAddedWrong : ChangeSpec := { name := "fnRootAdded", fn := fun _ => fun
  | [d] => { results := [.lit (.bool false)], args := [d] }
  | _ => none }
def FnRootAddedWrongFalsely : Prop := fnRootAddedRow.holds Tryz.pinned (OpenSpec.ofChange fnRootAddedWrong)

/-- 'laws.FnExactRootAdd': WHATEVER THE INPUT: true; the input reads as it did. -/
def fnExactRootAddSpec : ChangeSpec := { name := "fnExactRootAdd", fn := fun _ => fun
  | [d1, d2] => { results := [.lit (.bool true)], args := [d1, d2] }
  | _ => none }
def fnExactRootAddRow : OpenClaim := { program := "ytipaepbmdooekaagreat", sum := "dc3dca3fb80353534d611f1959af2ffa0a5a98a57c7083892d28ef1d4305b24e", func := "loop.example/g00491/laws.FnExactRootAdd", spec := "fnExactRootAdd", inPlace := ["slices.overlaps[loop.example/g00491/impl.Entry]"], unfollowed := true, recurses := true, apart := false }
def FnExactRootAddSaid : Prop := fnExactRootAddRow.holds Tryz.pinned (OpenSpec.ofChange fnExactRootAddSpec)

/-- ITS FALSE NEIGHBOUR: 'it returns false'. Refute it at one input. -/
def fnExactRootAddWrong : ChangeSpec := { name := "fnExactRootAdd", fn := fun _ => fun
  | [d1, d2] => { results := [.lit (.bool false)], args := [d1, d2] }
  | _ => none }
def FnExactRootAddWrongFalsely : Prop := fnExactRootAddRow.holds Tryz.pinned (OpenSpec.ofChange fnExactRootAddWrong)

/-- 'laws.FnExactNextOf': WHATEVER THE INPUT: true; the input reads as it did. -/
def fnExactNextOfSpec : ChangeSpec := { name := "fnExactNextOf", fn := fun _ => fun
  | [d] => { results := [.lit (.bool true)], args := [d] }
  | _ => none }
def fnExactNextOfRow : OpenClaim := { program := "ytipaepbmdooekaagreat", sum := "dc3dca3fb80353534d611f1959af2ffa0a5a98a57c7083892d28ef1d4305b24e", func := "loop.example/g00491/laws.FnExactNextOf", spec := "fnExactNextOf", unfollowed := true, recurses := true, apart := false }
def FnExactNextOfSaid : Prop := fnExactNextOfRow.holds Tryz.pinned (OpenSpec.ofChange fnExactNextOfSpec)

/-- ITS FALSE NEIGHBOUR: 'it returns false'. Refute it at one input. -/
def fnExactNextOfWrong : ChangeSpec := { name := "fnExactNextOf", fn := fun _ => fun
  | [d] => { results := [.lit (.bool false)], args := [d] }
  | _ => none }
def FnExactNextOfWrongFalsely : Prop := fnExactNextOfRow.holds Tryz.pinned (OpenSpec.ofChange fnExactNextOfWrong)

/-- 'laws.FnExactMergeStep': WHATEVER THE INPUT: true; the input reads as it did. -/
def fnExactMergeStepSpec : ChangeSpec := { name := "fnExactMergeStep", fn := fun _ => fun
  | [d] => { results := [.lit (.bool true)], args := [d] }
  | _ => none }
def fnExactMergeStepRow : OpenClaim := { program := "ytipaepbmdooekaagreat", sum := "dc3dca3fb80353534d611f1959af2ffa0a5a98a57c7083892d28ef1d4305b24e", func := "loop.example/g00491/laws.FnExactMergeStep", spec := "fnExactMergeStep", inPlace := ["slices.overlaps[loop.example/g00491/impl.Entry]"], unfollowed := true, recurses := true, apart := false }
def FnExactMergeStepSaid : Prop := fnExactMergeStepRow.holds Tryz.pinned (OpenSpec.ofChange fnExactMergeStepSpec)

/-- ITS FALSE NEIGHBOUR: 'it returns false'. Refute it at one input. -/
def fnExactMergeStepWrong : ChangeSpec := { name := "fnExactMergeStep", fn := fun _ => fun
  | [d] => { results := [.lit (.bool false)], args := [d] }
  | _ => none }
def FnExactMergeStepWrongFalsely : Prop := fnExactMergeStepRow.holds Tryz.pinned (OpenSpec.ofChange fnExactMergeStepWrong)

/-- 'laws.FnExactIngressBytes': WHATEVER THE INPUT: true; the input reads as it did. -/
def fnExactIngressBytesSpec : ChangeSpec := { name := "fnExactIngressBytes", fn := fun _ => fun
  | [d1, d2] => { results := [.lit (.bool true)], args := [d1, d2] }
  | _ => none }
def fnExactIngressBytesRow : OpenClaim := { program := "ytipaepbmdooekaagreat", sum := "dc3dca3fb80353534d611f1959af2ffa0a5a98a57c7083892d28ef1d4305b24e", func := "loop.example/g00491/laws.FnExactIngressBytes", spec := "fnExactIngressBytes", unfollowed := true, recurses := true, apart := false }
def FnExactIngressBytesSaid : Prop := fnExactIngressBytesRow.holds Tryz.pinned (OpenSpec.ofChange fnExactIngressBytesSpec)

/-- ITS FALSE NEIGHBOUR: 'it returns false'. Refute it at one input. -/
def fnExactIngressBytesWrong : ChangeSpec := { name := "fnExactIngressBytes", fn := fun _ => fun
  | [d1, d2] => { results := [.lit (.bool false)], args := [d1, d2] }
  | _ => none }
def FnExactIngressBytesWrongFalsely : Prop := fnExactIngressBytesRow.holds Tryz.pinned (OpenSpec.ofChange fnExactIngressBytesWrong)

/- THE SECOND FORM. 'bulk': how many values and letters a reading holds, each counted each time it is reached (what is shared counts as often as it is met; a slice's spare places count too). A statement '..UptoSaid' is the law's where the arguments, and the package variables that the reading takes, are together of bulk at most 1048576: NARROWER than '..Said'. Prove '..Said' where nothing that the law and all that it calls make is longer than what came in: it says more and counts as full. Else prove '..UptoSaid'. A law counts once. -/
mutual
def uptoBulk {H : Type} : DataW H → Nat
  | .lit (.string bytes) => bytes.length + 1
  | .lit _ => 1
  | .nil => 1
  | .ptr d => uptoBulk d + 1
  | .slice elems spare => uptoBulkAll elems + uptoBulkAll spare + 1
  | .agg parts => uptoBulkAll parts + 1
  | .iface _ d => uptoBulk d + 1
  | .map entries => uptoBulkEntries entries + 1
  | .held _ => 1
def uptoBulkAll {H : Type} : List (DataW H) → Nat
  | [] => 0
  | d :: r => uptoBulk d + uptoBulkAll r
def uptoBulkEntries {H : Type} : List (Lit × DataW H) → Nat
  | [] => 0
  | x :: r => uptoBulkEntry x + uptoBulkEntries r
def uptoBulkEntry {H : Type} : Lit × DataW H → Nat
  | (.string bytes, d) => bytes.length + uptoBulk d + 1
  | (_, d) => uptoBulk d + 1
 end
def uptoSmall : (H : Type) → List (DataW H) → Bool := fun _ ds => decide (uptoBulkAll ds ≤ 1048576)
def OpenSpec.upto (s : _root_.Go.ChangeSpec) : _root_.Go.OpenSpec := { _root_.Go.OpenSpec.ofChange s with cond := some uptoSmall }

/-- 'laws.FnRootAdded', WHERE WHAT IT READS IS OF BULK AT MOST 1048576: true; the input reads as it did. -/
def fnRootAddedUptoRow : OpenClaim := { program := "ytipaepbmdooekaagreat", sum := "dc3dca3fb80353534d611f1959af2ffa0a5a98a57c7083892d28ef1d4305b24e", func := "loop.example/g00491/laws.FnRootAdded", spec := "fnRootAdded", inPlace := ["slices.overlaps[loop.example/g00491/impl.Entry]"], unfollowed := true, recurses := true, apart := false, narrowed := true }
def FnRootAddedUptoSaid : Prop := fnRootAddedUptoRow.holds Tryz.pinned (OpenSpec.upto fnRootAddedSpec)

/-- 'laws.FnExactRootAdd', WHERE WHAT IT READS IS OF BULK AT MOST 1048576: true; the input reads as it did. -/
def fnExactRootAddUptoRow : OpenClaim := { program := "ytipaepbmdooekaagreat", sum := "dc3dca3fb80353534d611f1959af2ffa0a5a98a57c7083892d28ef1d4305b24e", func := "loop.example/g00491/laws.FnExactRootAdd", spec := "fnExactRootAdd", inPlace := ["slices.overlaps[loop.example/g00491/impl.Entry]"], unfollowed := true, recurses := true, apart := false, narrowed := true }
def FnExactRootAddUptoSaid : Prop := fnExactRootAddUptoRow.holds Tryz.pinned (OpenSpec.upto fnExactRootAddSpec)

/-- 'laws.FnExactNextOf', WHERE WHAT IT READS IS OF BULK AT MOST 1048576: true; the input reads as it did. -/
def fnExactNextOfUptoRow : OpenClaim := { program := "ytipaepbmdooekaagreat", sum := "dc3dca3fb80353534d611f1959af2ffa0a5a98a57c7083892d28ef1d4305b24e", func := "loop.example/g00491/laws.FnExactNextOf", spec := "fnExactNextOf", unfollowed := true, recurses := true, apart := false, narrowed := true }
def FnExactNextOfUptoSaid : Prop := fnExactNextOfUptoRow.holds Tryz.pinned (OpenSpec.upto fnExactNextOfSpec)

/-- 'laws.FnExactMergeStep', WHERE WHAT IT READS IS OF BULK AT MOST 1048576: true; the input reads as it did. -/
def fnExactMergeStepUptoRow : OpenClaim := { program := "ytipaepbmdooekaagreat", sum := "dc3dca3fb80353534d611f1959af2ffa0a5a98a57c7083892d28ef1d4305b24e", func := "loop.example/g00491/laws.FnExactMergeStep", spec := "fnExactMergeStep", inPlace := ["slices.overlaps[loop.example/g00491/impl.Entry]"], unfollowed := true, recurses := true, apart := false, narrowed := true }
def FnExactMergeStepUptoSaid : Prop := fnExactMergeStepUptoRow.holds Tryz.pinned (OpenSpec.upto fnExactMergeStepSpec)

/-- 'laws.FnExactIngressBytes', WHERE WHAT IT READS IS OF BULK AT MOST 1048576: true; the input reads as it did. -/
def fnExactIngressBytesUptoRow : OpenClaim := { program := "ytipaepbmdooekaagreat", sum := "dc3dca3fb80353534d611f1959af2ffa0a5a98a57c7083892d28ef1d4305b24e", func := "loop.example/g00491/laws.FnExactIngressBytes", spec := "fnExactIngressBytes", unfollowed := true, recurses := true, apart := false, narrowed := true }
def FnExactIngressBytesUptoSaid : Prop := fnExactIngressBytesUptoRow.holds Tryz.pinned (OpenSpec.upto fnExactIngressBytesSpec)

end Rows
end Go.Proofs.YtipaepbmdooekaaGreat
