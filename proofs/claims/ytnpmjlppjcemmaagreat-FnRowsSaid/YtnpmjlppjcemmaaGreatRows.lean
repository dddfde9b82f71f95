/-
  No cell of these rows narrows 'for every input' (looked for: loops, veiled, ifaces, maps, wideKeys, modest, calm, conditions, laid).
  DERIVED. THE GIVEN ROWS OF THIS SEAT. 3 by the template 'for every input the law returns true; each argument reads behind the call as it read before'; 0 by the template 'total and deterministic' (their statements: YtnpmjlppjcemmaaGreatTotals.lean).
  GIVEN WITH THE SEED: the statements are not yours to turn. If you find one false, say at which input.
  Laid BY PROGRAM, IN A SANDBOX (cutbox-rows.mjs): the forced cells as the released guide's own fill.sh prints them over the translation 055b10bf2ba5236b… (all of the seat's roots in one cut). By AI agents, Wed Nov 11 2026. No macro, syntax, notation, axiom, sorry.
-/
import Derived.Test.YtnpmjlppjcemmaaGreatChecked
import GoSem.Claim
import GoSem.ClaimJoined
import GoSem.ClaimMapViews
import Derived.JoinedTies
import Derived.KernelRfl
namespace Go.Proofs.YtnpmjlppjcemmaaGreat
/- THE CELL 'sum', in the pinned program and in every row, IS THE sha256 OF THE DUMP (.gsa) THAT YtnpmjlppjcemmaaGreatProg.lean LOADS. Nothing in Lean hashes anything: it is a label: what it is worth is what the hold of that sum in a sandbox is worth. -/
noncomputable def Tryz.pinned : Pinned := { name := "ytnpmjlppjcemmaagreat", sum := "055b10bf2ba5236b628d79f2b408d5259828e8854f66afe447a5780229f14b2a", checked := Tryz.checked }
namespace Rows
def none {H : Type} : Left H := { results := [], args := [] }

/-- 'laws.FnRows': WHATEVER THE INPUT: true; the input reads as it did. -/
def fnRowsSpec : ChangeSpec := { name := "fnRows", fn := fun _ => fun
  | [d] => { results := [.lit (.bool true)], args := [d] }
  | _ => none }
def fnRowsRow : OpenClaim := { program := "ytnpmjlppjcemmaagreat", sum := "055b10bf2ba5236b628d79f2b408d5259828e8854f66afe447a5780229f14b2a", func := "loop.example/g00491/laws.FnRows", spec := "fnRows", unfollowed := true, recurses := true, apart := false }
def FnRowsSaid : Prop := fnRowsRow.holds Tryz.pinned (OpenSpec.ofChange fnRowsSpec)

/-- ITS FALSE NEIGHBOUR: 'it returns false'. Refute it at one input. -/
def fnRowsWrong : ChangeSpec := { name := "fnRows", fn := fun _ => fun
  | [d] => { results := [.lit (.bool false)], args := [d] }
  | _ => none }
def FnRowsWrongFalsely : Prop := fnRowsRow.holds Tryz.pinned (OpenSpec.ofChange fnRowsWrong)

/-- 'laws.FnExactRowPush': WHATEVER THE INPUT: true; the input reads as it did. -/
def fnExactRowPushSpec : ChangeSpec := { name := "fnExactRowPush", fn := fun _ => fun
  | [d1, d2, d3] => { results := [.lit (.bool true)], args := [d1, d2, d3] }
  | _ => none }
def fnExactRowPushRow : OpenClaim := { program := "ytnpmjlppjcemmaagreat", sum := "055b10bf2ba5236b628d79f2b408d5259828e8854f66afe447a5780229f14b2a", func := "loop.example/g00491/laws.FnExactRowPush", spec := "fnExactRowPush", unfollowed := true, recurses := true, apart := false }
def FnExactRowPushSaid : Prop := fnExactRowPushRow.holds Tryz.pinned (OpenSpec.ofChange fnExactRowPushSpec)

/-- ITS FALSE NEIGHBOUR: 'it returns false'. Refute it at one input. -/
def fnExactRowPushWrong : ChangeSpec := { name := "fnExactRowPush", fn := fun _ => fun
  | [d1, d2, d3] => { results := [.lit (.bool false)], args := [d1, d2, d3] }
  | _ => none }
def FnExactRowPushWrongFalsely : Prop := fnExactRowPushRow.holds Tryz.pinned (OpenSpec.ofChange fnExactRowPushWrong)

/-- 'laws.FnExactAgentHear': WHATEVER THE INPUT: true; the input reads as it did. -/
def fnExactAgentHearSpec : ChangeSpec := { name := "fnExactAgentHear", fn := fun _ => fun
  | [d1, d2] => { results := [.lit (.bool true)], args := [d1, d2] }
  | _ => none }
def fnExactAgentHearRow : OpenClaim := { program := "ytnpmjlppjcemmaagreat", sum := "055b10bf2ba5236b628d79f2b408d5259828e8854f66afe447a5780229f14b2a", func := "loop.example/g00491/laws.FnExactAgentHear", spec := "fnExactAgentHear", unfollowed := true, recurses := true, apart := false }
def FnExactAgentHearSaid : Prop := fnExactAgentHearRow.holds Tryz.pinned (OpenSpec.ofChange fnExactAgentHearSpec)

/-- ITS FALSE NEIGHBOUR: 'it returns false'. Refute it at one input. -/
def fnExactAgentHearWrong : ChangeSpec := { name := "fnExactAgentHear", fn := fun _ => fun
  | [d1, d2] => { results := [.lit (.bool false)], args := [d1, d2] }
  | _ => none }
def FnExactAgentHearWrongFalsely : Prop := fnExactAgentHearRow.holds Tryz.pinned (OpenSpec.ofChange fnExactAgentHearWrong)

/- THE SECOND FORM. 'bulk': how many values and letters a reading holds, each counted each time it is reached (what is shared counts as often as it is met; a slice's spare places count too). A statement '..UptoSaid' is the law's where the arguments, and the package variables that the reading takes, are together of bulk at most 1048576: NARROWER than '..Said'. Prove '..Said' where nothing that the law and all that it calls make is longer than what came in: it says more and counts as full. Else prove '..UptoSaid'. A law counts once. -/
mutual
def uptoBulk {H : Type} : DataW H → Nat
  | .lit (.string bytes) => bytes.length + 1
  | .lit _ => 1
  | .nil => 1
  | .ptr d => uptoBulk d + 1
  | .slice elems spare => uptoBulkAll elems + uptoBulkAll spare + 1
  | .agg parts => uptoBulkAll parts + 1
  | .iface _ d => uptoBulk d + 1
  | .map entries => uptoBulkEntries entries + 1
  | .held _ => 1
def uptoBulkAll {H : Type} : List (DataW H) → Nat
  | [] => 0
  | d :: r => uptoBulk d + uptoBulkAll r
def uptoBulkEntries {H : Type} : List (Lit × DataW H) → Nat
  | [] => 0
  | x :: r => uptoBulkEntry x + uptoBulkEntries r
def uptoBulkEntry {H : Type} : Lit × DataW H → Nat
  | (.string bytes, d) => bytes.length + uptoBulk d + 1
  | (_, d) => uptoBulk d + 1
 end
def uptoSmall : (H : Type) → List (DataW H) → Bool := fun _ ds => decide (uptoBulkAll ds ≤ 1048576)
def OpenSpec.upto (s : _root_.Go.ChangeSpec) : _root_.Go.OpenSpec := { _root_.Go.OpenSpec.ofChange s with cond := some uptoSmall }

/-- 'laws.FnRows', WHERE WHAT IT READS IS OF BULK AT MOST 1048576: true; the input reads as it did. -/
def fnRowsUptoRow : OpenClaim := { program := "ytnpmjlppjcemmaagreat", sum := "055b10bf2ba5236b628d79f2b408d5259828e8854f66afe447a5780229f14b2a", func := "loop.example/g00491/laws.FnRows", spec := "fnRows", unfollowed := true, recurses := true, apart := false, narrowed := true }
def FnRowsUptoSaid : Prop := fnRowsUptoRow.holds Tryz.pinned (OpenSpec.upto fnRowsSpec)

/-- 'laws.FnExactRowPush', WHERE WHAT IT READS IS OF BULK AT MOST 1048576: true; the input reads as it did. -/
def fnExactRowPushUptoRow : OpenClaim := { program := "ytnpmjlppjcemmaagreat", sum := "055b10bf2ba5236b628d79f2b408d5259828e8854f66afe447a5780229f14b2a", func := "loop.example/g00491/laws.FnExactRowPush", spec := "fnExactRowPush", unfollowed := true, recurses := true, apart := false, narrowed := true }
def FnExactRowPushUptoSaid : Prop := fnExactRowPushUptoRow.holds Tryz.pinned (OpenSpec.upto fnExactRowPushSpec)

/-- 'laws.FnExactAgentHear', WHERE WHAT IT READS IS OF BULK AT MOST 1048576: true; the input reads as it did. -/
def fnExactAgentHearUptoRow : OpenClaim := { program := "ytnpmjlppjcemmaagreat", sum := "055b10bf2ba5236b628d79f2b408d5259828e8854f66afe447a5780229f14b2a", func := "loop.example/g00491/laws.FnExactAgentHear", spec := "fnExactAgentHear", unfollowed := true, recurses := true, apart := false, narrowed := true }
def FnExactAgentHearUptoSaid : Prop := fnExactAgentHearUptoRow.holds Tryz.pinned (OpenSpec.upto fnExactAgentHearSpec)

end Rows
end Go.Proofs.YtnpmjlppjcemmaaGreat
