/-
  No cell of these rows narrows 'for every input' (looked for: loops, veiled, ifaces, maps, wideKeys, modest, calm, conditions, laid).
  DERIVED. THE GIVEN ROWS OF THIS SEAT. 12 by the template 'for every input the law returns true; each argument reads behind the call as it read before'; 0 by the template 'total and deterministic' (their statements: YtabjfkongckhaaaTotals.lean).
  GIVEN WITH THE SEED: the statements are not yours to turn. If you find one false, say at which input.
  Laid BY PROGRAM, IN A SANDBOX (cutbox-rows.mjs): the forced cells as the released guide's own fill.sh prints them over the translation 9583d22822cb8ea5… (all of the seat's roots in one cut). By AI agents, Wed Nov 11 2026. No macro, syntax, notation, axiom, sorry.
-/
import Derived.Test.YtabjfkongckhaaaChecked
import GoSem.Claim
import GoSem.ClaimJoined
import GoSem.ClaimMapViews
import Derived.JoinedTies
import Derived.KernelRfl
namespace Go.Proofs.Ytabjfkongckhaaa
/- THE CELL 'sum', in the pinned program and in every row, IS THE sha256 OF THE DUMP (.gsa) THAT YtabjfkongckhaaaProg.lean LOADS. Nothing in Lean hashes anything: it is a label: what it is worth is what the hold of that sum in a sandbox is worth. -/
noncomputable def Try.pinned : Pinned := { name := "ytabjfkongckhaaa", sum := "9583d22822cb8ea57c27144e5376a02e0be84d11c0652be8466646d4fdf0c7f4", checked := Try.checked }
namespace Rows
def none {H : Type} : Left H := { results := [], args := [] }

/-- 'laws.FnExactInText': WHATEVER THE INPUT: true; the input reads as it did. -/
def fnExactInTextSpec : ChangeSpec := { name := "fnExactInText", fn := fun _ => fun
  | [d] => { results := [.lit (.bool true)], args := [d] }
  | _ => none }
def fnExactInTextRow : OpenClaim := { program := "ytabjfkongckhaaa", sum := "9583d22822cb8ea57c27144e5376a02e0be84d11c0652be8466646d4fdf0c7f4", func := "loop.example/g00491/laws.FnExactInText", spec := "fnExactInText", apart := false }
def FnExactInTextSaid : Prop := fnExactInTextRow.holds Try.pinned (OpenSpec.ofChange fnExactInTextSpec)

/-- ITS FALSE NEIGHBOUR: 'it returns false'. Refute it at one input. -/
def fnExactInTextWrong : ChangeSpec := { name := "fnExactInText", fn := fun _ => fun
  | [d] => { results := [.lit (.bool false)], args := [d] }
  | _ => none }
def FnExactInTextWrongFalsely : Prop := fnExactInTextRow.holds Try.pinned (OpenSpec.ofChange fnExactInTextWrong)

/-- 'laws.FnExactPickClass': WHATEVER THE INPUT: true; the input reads as it did. -/
def fnExactPickClassSpec : ChangeSpec := { name := "fnExactPickClass", fn := fun _ => fun
  | [d1, d2, d3, d4] => { results := [.lit (.bool true)], args := [d1, d2, d3, d4] }
  | _ => none }
def fnExactPickClassRow : OpenClaim := { program := "ytabjfkongckhaaa", sum := "9583d22822cb8ea57c27144e5376a02e0be84d11c0652be8466646d4fdf0c7f4", func := "loop.example/g00491/laws.FnExactPickClass", spec := "fnExactPickClass", apart := false }
def FnExactPickClassSaid : Prop := fnExactPickClassRow.holds Try.pinned (OpenSpec.ofChange fnExactPickClassSpec)

/-- ITS FALSE NEIGHBOUR: 'it returns false'. Refute it at one input. -/
def fnExactPickClassWrong : ChangeSpec := { name := "fnExactPickClass", fn := fun _ => fun
  | [d1, d2, d3, d4] => { results := [.lit (.bool false)], args := [d1, d2, d3, d4] }
  | _ => none }
def FnExactPickClassWrongFalsely : Prop := fnExactPickClassRow.holds Try.pinned (OpenSpec.ofChange fnExactPickClassWrong)

/-- 'laws.FnExactTurnNew': WHATEVER THE INPUT: true; the input reads as it did. -/
def fnExactTurnNewSpec : ChangeSpec := { name := "fnExactTurnNew", fn := fun _ => fun
  | [] => { results := [.lit (.bool true)], args := [] }
  | _ => none }
def fnExactTurnNewRow : OpenClaim := { program := "ytabjfkongckhaaa", sum := "9583d22822cb8ea57c27144e5376a02e0be84d11c0652be8466646d4fdf0c7f4", func := "loop.example/g00491/laws.FnExactTurnNew", spec := "fnExactTurnNew", apart := false }
def FnExactTurnNewSaid : Prop := fnExactTurnNewRow.holds Try.pinned (OpenSpec.ofChange fnExactTurnNewSpec)

/-- ITS FALSE NEIGHBOUR: 'it returns false'. Refute it at one input. -/
def fnExactTurnNewWrong : ChangeSpec := { name := "fnExactTurnNew", fn := fun _ => fun
  | [] => { results := [.lit (.bool false)], args := [] }
  | _ => none }
def FnExactTurnNewWrongFalsely : Prop := fnExactTurnNewRow.holds Try.pinned (OpenSpec.ofChange fnExactTurnNewWrong)

/-- 'laws.FnClasses': WHATEVER THE INPUT: true; the input reads as it did. -/
def fnClassesSpec : ChangeSpec := { name := "fnClasses", fn := fun _ => fun
  | [d] => { results := [.lit (.bool true)], args := [d] }
  | _ => none }
def fnClassesRow : OpenClaim := { program := "ytabjfkongckhaaa", sum := "9583d22822cb8ea57c27144e5376a02e0be84d11c0652be8466646d4fdf0c7f4", func := "loop.example/g00491/laws.FnClasses", spec := "fnClasses", apart := false }
def FnClassesSaid : Prop := fnClassesRow.holds Try.pinned (OpenSpec.ofChange fnClassesSpec)

/-- ITS FALSE NEIGHBOUR: 'it returns false'. Refute it at one input. -/
def fnClassesWrong : ChangeSpec := { name := "fnClasses", fn := fun _ => fun
  | [d] => { results := [.lit (.bool false)], args := [d] }
  | _ => none }
def FnClassesWrongFalsely : Prop := fnClassesRow.holds Try.pinned (OpenSpec.ofChange fnClassesWrong)

/-- 'laws.FnExactTurnOk': WHATEVER THE INPUT: true; the input reads as it did. -/
def fnExactTurnOkSpec : ChangeSpec := { name := "fnExactTurnOk", fn := fun _ => fun
  | [d] => { results := [.lit (.bool true)], args := [d] }
  | _ => none }
def fnExactTurnOkRow : OpenClaim := { program := "ytabjfkongckhaaa", sum := "9583d22822cb8ea57c27144e5376a02e0be84d11c0652be8466646d4fdf0c7f4", func := "loop.example/g00491/laws.FnExactTurnOk", spec := "fnExactTurnOk", apart := false }
def FnExactTurnOkSaid : Prop := fnExactTurnOkRow.holds Try.pinned (OpenSpec.ofChange fnExactTurnOkSpec)

/-- ITS FALSE NEIGHBOUR: 'it returns false'. Refute it at one input. -/
def fnExactTurnOkWrong : ChangeSpec := { name := "fnExactTurnOk", fn := fun _ => fun
  | [d] => { results := [.lit (.bool false)], args := [d] }
  | _ => none }
def FnExactTurnOkWrongFalsely : Prop := fnExactTurnOkRow.holds Try.pinned (OpenSpec.ofChange fnExactTurnOkWrong)

/-- 'laws.FnExactOwed': WHATEVER THE INPUT: true; the input reads as it did. -/
def fnExactOwedSpec : ChangeSpec := { name := "fnExactOwed", fn := fun _ => fun
  | [d] => { results := [.lit (.bool true)], args := [d] }
  | _ => none }
def fnExactOwedRow : OpenClaim := { program := "ytabjfkongckhaaa", sum := "9583d22822cb8ea57c27144e5376a02e0be84d11c0652be8466646d4fdf0c7f4", func := "loop.example/g00491/laws.FnExactOwed", spec := "fnExactOwed", apart := false }
def FnExactOwedSaid : Prop := fnExactOwedRow.holds Try.pinned (OpenSpec.ofChange fnExactOwedSpec)

/-- ITS FALSE NEIGHBOUR: 'it returns false'. Refute it at one input. -/
def fnExactOwedWrong : ChangeSpec := { name := "fnExactOwed", fn := fun _ => fun
  | [d] => { results := [.lit (.bool false)], args := [d] }
  | _ => none }
def FnExactOwedWrongFalsely : Prop := fnExactOwedRow.holds Try.pinned (OpenSpec.ofChange fnExactOwedWrong)

/-- 'laws.FnSent': WHATEVER THE INPUT: true; the input reads as it did. -/
def fnSentSpec : ChangeSpec := { name := "fnSent", fn := fun _ => fun
  | [d] => { results := [.lit (.bool true)], args := [d] }
  | _ => none }
def fnSentRow : OpenClaim := { program := "ytabjfkongckhaaa", sum := "9583d22822cb8ea57c27144e5376a02e0be84d11c0652be8466646d4fdf0c7f4", func := "loop.example/g00491/laws.FnSent", spec := "fnSent", unfollowed := true, recurses := true, apart := false }
def FnSentSaid : Prop := fnSentRow.holds Try.pinned (OpenSpec.ofChange fnSentSpec)

/-- ITS FALSE NEIGHBOUR: 'it returns false'. Refute it at one input. -/
def fnSentWrong : ChangeSpec := { name := "fnSent", fn := fun _ => fun
  | [d] => { results := [.lit (.bool false)], args := [d] }
  | _ => none }
def FnSentWrongFalsely : Prop := fnSentRow.holds Try.pinned (OpenSpec.ofChange fnSentWrong)

/-- 'laws.FnExactConfOk': WHATEVER THE INPUT: true; the input reads as it did. -/
def fnExactConfOkSpec : ChangeSpec := { name := "fnExactConfOk", fn := fun _ => fun
  | [d] => { results := [.lit (.bool true)], args := [d] }
  | _ => none }
def fnExactConfOkRow : OpenClaim := { program := "ytabjfkongckhaaa", sum := "9583d22822cb8ea57c27144e5376a02e0be84d11c0652be8466646d4fdf0c7f4", func := "loop.example/g00491/laws.FnExactConfOk", spec := "fnExactConfOk", apart := false }
def FnExactConfOkSaid : Prop := fnExactConfOkRow.holds Try.pinned (OpenSpec.ofChange fnExactConfOkSpec)

/-- ITS FALSE NEIGHBOUR: 'it returns false'. Refute it at one input. -/
def fnExactConfOkWrong : ChangeSpec := { name := "fnExactConfOk", fn := fun _ => fun
  | [d] => { results := [.lit (.bool false)], args := [d] }
  | _ => none }
def FnExactConfOkWrongFalsely : Prop := fnExactConfOkRow.holds Try.pinned (OpenSpec.ofChange fnExactConfOkWrong)

/-- 'laws.FnExactSeatOk': WHATEVER THE INPUT: true; the input reads as it did. -/
def fnExactSeatOkSpec : ChangeSpec := { name := "fnExactSeatOk", fn := fun _ => fun
  | [d1, d2] => { results := [.lit (.bool true)], args := [d1, d2] }
  | _ => none }
def fnExactSeatOkRow : OpenClaim := { program := "ytabjfkongckhaaa", sum := "9583d22822cb8ea57c27144e5376a02e0be84d11c0652be8466646d4fdf0c7f4", func := "loop.example/g00491/laws.FnExactSeatOk", spec := "fnExactSeatOk", apart := false }
def FnExactSeatOkSaid : Prop := fnExactSeatOkRow.holds Try.pinned (OpenSpec.ofChange fnExactSeatOkSpec)

/-- ITS FALSE NEIGHBOUR: 'it returns false'. Refute it at one input. -/
def fnExactSeatOkWrong : ChangeSpec := { name := "fnExactSeatOk", fn := fun _ => fun
  | [d1, d2] => { results := [.lit (.bool false)], args := [d1, d2] }
  | _ => none }
def FnExactSeatOkWrongFalsely : Prop := fnExactSeatOkRow.holds Try.pinned (OpenSpec.ofChange fnExactSeatOkWrong)

/-- 'laws.FnPicked': WHATEVER THE INPUT: true; the input reads as it did. -/
def fnPickedSpec : ChangeSpec := { name := "fnPicked", fn := fun _ => fun
  | [d] => { results := [.lit (.bool true)], args := [d] }
  | _ => none }
def fnPickedRow : OpenClaim := { program := "ytabjfkongckhaaa", sum := "9583d22822cb8ea57c27144e5376a02e0be84d11c0652be8466646d4fdf0c7f4", func := "loop.example/g00491/laws.FnPicked", spec := "fnPicked", apart := false }
def FnPickedSaid : Prop := fnPickedRow.holds Try.pinned (OpenSpec.ofChange fnPickedSpec)

/-- ITS FALSE NEIGHBOUR: 'it returns false'. Refute it at one input. -/
def fnPickedWrong : ChangeSpec := { name := "fnPicked", fn := fun _ => fun
  | [d] => { results := [.lit (.bool false)], args := [d] }
  | _ => none }
def FnPickedWrongFalsely : Prop := fnPickedRow.holds Try.pinned (OpenSpec.ofChange fnPickedWrong)

/-- 'laws.FnExactPick': WHATEVER THE INPUT: true; the input reads as it did. -/
def fnExactPickSpec : ChangeSpec := { name := "fnExactPick", fn := fun _ => fun
  | [d1, d2, d3, d4] => { results := [.lit (.bool true)], args := [d1, d2, d3, d4] }
  | _ => none }
def fnExactPickRow : OpenClaim := { program := "ytabjfkongckhaaa", sum := "9583d22822cb8ea57c27144e5376a02e0be84d11c0652be8466646d4fdf0c7f4", func := "loop.example/g00491/laws.FnExactPick", spec := "fnExactPick", apart := false }
def FnExactPickSaid : Prop := fnExactPickRow.holds Try.pinned (OpenSpec.ofChange fnExactPickSpec)

/-- ITS FALSE NEIGHBOUR: 'it returns false'. Refute it at one input. -/
def fnExactPickWrong : ChangeSpec := { name := "fnExactPick", fn := fun _ => fun
  | [d1, d2, d3, d4] => { results := [.lit (.bool false)], args := [d1, d2, d3, d4] }
  | _ => none }
def FnExactPickWrongFalsely : Prop := fnExactPickRow.holds Try.pinned (OpenSpec.ofChange fnExactPickWrong)

/-- 'laws.FnExactSeatGrant': WHATEVER THE INPUT: true; the input reads as it did. -/
def fnExactSeatGrantSpec : ChangeSpec := { name := "fnExactSeatGrant", fn := fun _ => fun
  | [d1, d2] => { results := [.lit (.bool true)], args := [d1, d2] }
  | _ => none }
def fnExactSeatGrantRow : OpenClaim := { program := "ytabjfkongckhaaa", sum := "9583d22822cb8ea57c27144e5376a02e0be84d11c0652be8466646d4fdf0c7f4", func := "loop.example/g00491/laws.FnExactSeatGrant", spec := "fnExactSeatGrant", apart := false }
def FnExactSeatGrantSaid : Prop := fnExactSeatGrantRow.holds Try.pinned (OpenSpec.ofChange fnExactSeatGrantSpec)

/-- ITS FALSE NEIGHBOUR: 'it returns false'. Refute it at one input. -/
def fnExactSeatGrantWrong : ChangeSpec := { name := "fnExactSeatGrant", fn := fun _ => fun
  | [d1, d2] => { results := [.lit (.bool false)], args := [d1, d2] }
  | _ => none }
def FnExactSeatGrantWrongFalsely : Prop := fnExactSeatGrantRow.holds Try.pinned (OpenSpec.ofChange fnExactSeatGrantWrong)

/- THE SECOND FORM. 'bulk': how many values and letters a reading holds, each counted each time it is reached (what is shared counts as often as it is met; a slice's spare places count too). A statement '..UptoSaid' is the law's where the arguments, and the package variables that the reading takes, are together of bulk at most 1048576: NARROWER than '..Said'. Prove '..Said' where nothing that the law and all that it calls make is longer than what came in: it says more and counts as full. Else prove '..UptoSaid'. A law counts once. -/
mutual
def uptoBulk {H : Type} : DataW H → Nat
  | .lit (.string bytes) => bytes.length + 1
  | .lit _ => 1
  | .nil => 1
  | .ptr d => uptoBulk d + 1
  | .slice elems spare => uptoBulkAll elems + uptoBulkAll spare + 1
  | .agg parts => uptoBulkAll parts + 1
  | .iface _ d => uptoBulk d + 1
  | .map entries => uptoBulkEntries entries + 1
  | .held _ => 1
def uptoBulkAll {H : Type} : List (DataW H) → Nat
  | [] => 0
  | d :: r => uptoBulk d + uptoBulkAll r
def uptoBulkEntries {H : Type} : List (Lit × DataW H) → Nat
  | [] => 0
  | x :: r => uptoBulkEntry x + uptoBulkEntries r
def uptoBulkEntry {H : Type} : Lit × DataW H → Nat
  | (.string bytes, d) => bytes.length + uptoBulk d + 1
  | (_, d) => uptoBulk d + 1
 end
def uptoSmall : (H : Type) → List (DataW H) → Bool := fun _ ds => decide (uptoBulkAll ds ≤ 1048576)
def OpenSpec.upto (s : _root_.Go.ChangeSpec) : _root_.Go.OpenSpec := { _root_.Go.OpenSpec.ofChange s with cond := some uptoSmall }

/-- 'laws.FnExactInText', WHERE WHAT IT READS IS OF BULK AT MOST 1048576: true; the input reads as it did. -/
def fnExactInTextUptoRow : OpenClaim := { program := "ytabjfkongckhaaa", sum := "9583d22822cb8ea57c27144e5376a02e0be84d11c0652be8466646d4fdf0c7f4", func := "loop.example/g00491/laws.FnExactInText", spec := "fnExactInText", apart := false, narrowed := true }
def FnExactInTextUptoSaid : Prop := fnExactInTextUptoRow.holds Try.pinned (OpenSpec.upto fnExactInTextSpec)

/-- 'laws.FnExactPickClass', WHERE WHAT IT READS IS OF BULK AT MOST 1048576: true; the input reads as it did. -/
def fnExactPickClassUptoRow : OpenClaim := { program := "ytabjfkongckhaaa", sum := "9583d22822cb8ea57c27144e5376a02e0be84d11c0652be8466646d4fdf0c7f4", func := "loop.example/g00491/laws.FnExactPickClass", spec := "fnExactPickClass", apart := false, narrowed := true }
def FnExactPickClassUptoSaid : Prop := fnExactPickClassUptoRow.holds Try.pinned (OpenSpec.upto fnExactPickClassSpec)

/-- 'laws.FnExactTurnNew', WHERE WHAT IT READS IS OF BULK AT MOST 1048576: true; the input reads as it did. -/
def fnExactTurnNewUptoRow : OpenClaim := { program := "ytabjfkongckhaaa", sum := "9583d22822cb8ea57c27144e5376a02e0be84d11c0652be8466646d4fdf0c7f4", func := "loop.example/g00491/laws.FnExactTurnNew", spec := "fnExactTurnNew", apart := false, narrowed := true }
def FnExactTurnNewUptoSaid : Prop := fnExactTurnNewUptoRow.holds Try.pinned (OpenSpec.upto fnExactTurnNewSpec)

/-- 'laws.FnClasses', WHERE WHAT IT READS IS OF BULK AT MOST 1048576: true; the input reads as it did. -/
def fnClassesUptoRow : OpenClaim := { program := "ytabjfkongckhaaa", sum := "9583d22822cb8ea57c27144e5376a02e0be84d11c0652be8466646d4fdf0c7f4", func := "loop.example/g00491/laws.FnClasses", spec := "fnClasses", apart := false, narrowed := true }
def FnClassesUptoSaid : Prop := fnClassesUptoRow.holds Try.pinned (OpenSpec.upto fnClassesSpec)

/-- 'laws.FnExactTurnOk', WHERE WHAT IT READS IS OF BULK AT MOST 1048576: true; the input reads as it did. -/
def fnExactTurnOkUptoRow : OpenClaim := { program := "ytabjfkongckhaaa", sum := "9583d22822cb8ea57c27144e5376a02e0be84d11c0652be8466646d4fdf0c7f4", func := "loop.example/g00491/laws.FnExactTurnOk", spec := "fnExactTurnOk", apart := false, narrowed := true }
def FnExactTurnOkUptoSaid : Prop := fnExactTurnOkUptoRow.holds Try.pinned (OpenSpec.upto fnExactTurnOkSpec)

/-- 'laws.FnExactOwed', WHERE WHAT IT READS IS OF BULK AT MOST 1048576: true; the input reads as it did. -/
def fnExactOwedUptoRow : OpenClaim := { program := "ytabjfkongckhaaa", sum := "9583d22822cb8ea57c27144e5376a02e0be84d11c0652be8466646d4fdf0c7f4", func := "loop.example/g00491/laws.FnExactOwed", spec := "fnExactOwed", apart := false, narrowed := true }
def FnExactOwedUptoSaid : Prop := fnExactOwedUptoRow.holds Try.pinned (OpenSpec.upto fnExactOwedSpec)

/-- 'laws.FnSent', WHERE WHAT IT READS IS OF BULK AT MOST 1048576: true; the input reads as it did. -/
def fnSentUptoRow : OpenClaim := { program := "ytabjfkongckhaaa", sum := "9583d22822cb8ea57c27144e5376a02e0be84d11c0652be8466646d4fdf0c7f4", func := "loop.example/g00491/laws.FnSent", spec := "fnSent", unfollowed := true, recurses := true, apart := false, narrowed := true }
def FnSentUptoSaid : Prop := fnSentUptoRow.holds Try.pinned (OpenSpec.upto fnSentSpec)

/-- 'laws.FnExactConfOk', WHERE WHAT IT READS IS OF BULK AT MOST 1048576: true; the input reads as it did. -/
def fnExactConfOkUptoRow : OpenClaim := { program := "ytabjfkongckhaaa", sum := "9583d22822cb8ea57c27144e5376a02e0be84d11c0652be8466646d4fdf0c7f4", func := "loop.example/g00491/laws.FnExactConfOk", spec := "fnExactConfOk", apart := false, narrowed := true }
def FnExactConfOkUptoSaid : Prop := fnExactConfOkUptoRow.holds Try.pinned (OpenSpec.upto fnExactConfOkSpec)

/-- 'laws.FnExactSeatOk', WHERE WHAT IT READS IS OF BULK AT MOST 1048576: true; the input reads as it did. -/
def fnExactSeatOkUptoRow : OpenClaim := { program := "ytabjfkongckhaaa", sum := "9583d22822cb8ea57c27144e5376a02e0be84d11c0652be8466646d4fdf0c7f4", func := "loop.example/g00491/laws.FnExactSeatOk", spec := "fnExactSeatOk", apart := false, narrowed := true }
def FnExactSeatOkUptoSaid : Prop := fnExactSeatOkUptoRow.holds Try.pinned (OpenSpec.upto fnExactSeatOkSpec)

/-- 'laws.FnPicked', WHERE WHAT IT READS IS OF BULK AT MOST 1048576: true; the input reads as it did. -/
def fnPickedUptoRow : OpenClaim := { program := "ytabjfkongckhaaa", sum := "9583d22822cb8ea57c27144e5376a02e0be84d11c0652be8466646d4fdf0c7f4", func := "loop.example/g00491/laws.FnPicked", spec := "fnPicked", apart := false, narrowed := true }
def FnPickedUptoSaid : Prop := fnPickedUptoRow.holds Try.pinned (OpenSpec.upto fnPickedSpec)

/-- 'laws.FnExactPick', WHERE WHAT IT READS IS OF BULK AT MOST 1048576: true; the input reads as it did. -/
def fnExactPickUptoRow : OpenClaim := { program := "ytabjfkongckhaaa", sum := "9583d22822cb8ea57c27144e5376a02e0be84d11c0652be8466646d4fdf0c7f4", func := "loop.example/g00491/laws.FnExactPick", spec := "fnExactPick", apart := false, narrowed := true }
def FnExactPickUptoSaid : Prop := fnExactPickUptoRow.holds Try.pinned (OpenSpec.upto fnExactPickSpec)

/-- 'laws.FnExactSeatGrant', WHERE WHAT IT READS IS OF BULK AT MOST 1048576: true; the input reads as it did. -/
def fnExactSeatGrantUptoRow : OpenClaim := { program := "ytabjfkongckhaaa", sum := "9583d22822cb8ea57c27144e5376a02e0be84d11c0652be8466646d4fdf0c7f4", func := "loop.example/g00491/laws.FnExactSeatGrant", spec := "fnExactSeatGrant", apart := false, narrowed := true }
def FnExactSeatGrantUptoSaid : Prop := fnExactSeatGrantUptoRow.holds Try.pinned (OpenSpec.upto fnExactSeatGrantSpec)

end Rows
end Go.Proofs.Ytabjfkongckhaaa
