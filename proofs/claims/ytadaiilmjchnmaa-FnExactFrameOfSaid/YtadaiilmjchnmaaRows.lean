/-
  No cell of these rows narrows 'for every input' (looked for: loops, veiled, ifaces, maps, wideKeys, modest, calm, conditions, laid).
  DERIVED. THE GIVEN ROWS OF THIS SEAT. 11 by the template 'for every input the law returns true; each argument reads behind the call as it read before'; 0 by the template 'total and deterministic' (their statements: YtadaiilmjchnmaaTotals.lean).
  GIVEN WITH THE SEED: the statements are not yours to turn. If you find one false, say at which input.
  Laid BY PROGRAM, IN A SANDBOX (cutbox-rows.mjs): the forced cells as the released guide's own fill.sh prints them over the translation 7f560ad1ee5d3c97… (all of the seat's roots in one cut). By AI agents, Wed Nov 11 2026. No macro, syntax, notation, axiom, sorry.
-/
import Derived.Test.YtadaiilmjchnmaaChecked
import GoSem.Claim
import GoSem.ClaimJoined
import GoSem.ClaimMapViews
import Derived.JoinedTies
import Derived.KernelRfl
namespace Go.Proofs.Ytadaiilmjchnmaa
/- THE CELL 'sum', in the pinned program and in every row, IS THE sha256 OF THE DUMP (.gsa) THAT YtadaiilmjchnmaaProg.lean LOADS. Nothing in Lean hashes anything: it is a label: what it is worth is what the hold of that sum in a sandbox is worth. -/
noncomputable def Try.pinned : Pinned := { name := "ytadaiilmjchnmaa", sum := "7f560ad1ee5d3c97fb7ceb30d52988fc9ef6738b2f3ec345725c7d41e7252de6", checked := Try.checked }
namespace Rows
def none {H : Type} : Left H := { results := [], args := [] }

/-- 'laws.FnExactRowPop': WHATEVER THE INPUT: true; the input reads as it did. -/
def fnExactRowPopSpec : ChangeSpec := { name := "fnExactRowPop", fn := fun _ => fun
  | [d] => { results := [.lit (.bool true)], args := [d] }
  | _ => none }
def fnExactRowPopRow : OpenClaim := { program := "ytadaiilmjchnmaa", sum := "7f560ad1ee5d3c97fb7ceb30d52988fc9ef6738b2f3ec345725c7d41e7252de6", func := "loop.example/g00491/laws.FnExactRowPop", spec := "fnExactRowPop", apart := false }
def FnExactRowPopSaid : Prop := fnExactRowPopRow.holds Try.pinned (OpenSpec.ofChange fnExactRowPopSpec)

/-- ITS FALSE NEIGHBOUR: 'it returns false'. Refute it at one input. -/
def fnExactRowPopWrong : ChangeSpec := { name := "fnExactRowPop", fn := fun _ => fun
  | [d] => { results := [.lit (.bool false)], args := [d] }
  | _ => none }
def FnExactRowPopWrongFalsely : Prop := fnExactRowPopRow.holds Try.pinned (OpenSpec.ofChange fnExactRowPopWrong)

/-- 'laws.FnExactSeal': WHATEVER THE INPUT: true; the input reads as it did. -/
def fnExactSealSpec : ChangeSpec := { name := "fnExactSeal", fn := fun _ => fun
  | [d1, d2, d3, d4, d5] => { results := [.lit (.bool true)], args := [d1, d2, d3, d4, d5] }
  | _ => none }
def fnExactSealRow : OpenClaim := { program := "ytadaiilmjchnmaa", sum := "7f560ad1ee5d3c97fb7ceb30d52988fc9ef6738b2f3ec345725c7d41e7252de6", func := "loop.example/g00491/laws.FnExactSeal", spec := "fnExactSeal", apart := false }
def FnExactSealSaid : Prop := fnExactSealRow.holds Try.pinned (OpenSpec.ofChange fnExactSealSpec)

/-- ITS FALSE NEIGHBOUR: 'it returns false'. Refute it at one input. -/
def fnExactSealWrong : ChangeSpec := { name := "fnExactSeal", fn := fun _ => fun
  | [d1, d2, d3, d4, d5] => { results := [.lit (.bool false)], args := [d1, d2, d3, d4, d5] }
  | _ => none }
def FnExactSealWrongFalsely : Prop := fnExactSealRow.holds Try.pinned (OpenSpec.ofChange fnExactSealWrong)

/-- 'laws.FnExactItems': WHATEVER THE INPUT: true; the input reads as it did. -/
def fnExactItemsSpec : ChangeSpec := { name := "fnExactItems", fn := fun _ => fun
  | [d] => { results := [.lit (.bool true)], args := [d] }
  | _ => none }
def fnExactItemsRow : OpenClaim := { program := "ytadaiilmjchnmaa", sum := "7f560ad1ee5d3c97fb7ceb30d52988fc9ef6738b2f3ec345725c7d41e7252de6", func := "loop.example/g00491/laws.FnExactItems", spec := "fnExactItems", apart := false }
def FnExactItemsSaid : Prop := fnExactItemsRow.holds Try.pinned (OpenSpec.ofChange fnExactItemsSpec)

/-- ITS FALSE NEIGHBOUR: 'it returns false'. Refute it at one input. -/
def fnExactItemsWrong : ChangeSpec := { name := "fnExactItems", fn := fun _ => fun
  | [d] => { results := [.lit (.bool false)], args := [d] }
  | _ => none }
def FnExactItemsWrongFalsely : Prop := fnExactItemsRow.holds Try.pinned (OpenSpec.ofChange fnExactItemsWrong)

/-- 'laws.FnExactSeatData': WHATEVER THE INPUT: true; the input reads as it did. -/
def fnExactSeatDataSpec : ChangeSpec := { name := "fnExactSeatData", fn := fun _ => fun
  | [d1, d2, d3, d4] => { results := [.lit (.bool true)], args := [d1, d2, d3, d4] }
  | _ => none }
def fnExactSeatDataRow : OpenClaim := { program := "ytadaiilmjchnmaa", sum := "7f560ad1ee5d3c97fb7ceb30d52988fc9ef6738b2f3ec345725c7d41e7252de6", func := "loop.example/g00491/laws.FnExactSeatData", spec := "fnExactSeatData", unfollowed := true, recurses := true, apart := false }
def FnExactSeatDataSaid : Prop := fnExactSeatDataRow.holds Try.pinned (OpenSpec.ofChange fnExactSeatDataSpec)

/-- ITS FALSE NEIGHBOUR: 'it returns false'. Refute it at one input. -/
def fnExactSeatDataWrong : ChangeSpec := { name := "fnExactSeatData", fn := fun _ => fun
  | [d1, d2, d3, d4] => { results := [.lit (.bool false)], args := [d1, d2, d3, d4] }
  | _ => none }
def FnExactSeatDataWrongFalsely : Prop := fnExactSeatDataRow.holds Try.pinned (OpenSpec.ofChange fnExactSeatDataWrong)

/-- 'laws.FnExactFrameOf': WHATEVER THE INPUT: true; the input reads as it did. -/
def fnExactFrameOfSpec : ChangeSpec := { name := "fnExactFrameOf", fn := fun _ => fun
  | [d] => { results := [.lit (.bool true)], args := [d] }
  | _ => none }
def fnExactFrameOfRow : OpenClaim := { program := "ytadaiilmjchnmaa", sum := "7f560ad1ee5d3c97fb7ceb30d52988fc9ef6738b2f3ec345725c7d41e7252de6", func := "loop.example/g00491/laws.FnExactFrameOf", spec := "fnExactFrameOf", unfollowed := true, recurses := true, apart := false }
def FnExactFrameOfSaid : Prop := fnExactFrameOfRow.holds Try.pinned (OpenSpec.ofChange fnExactFrameOfSpec)

/-- ITS FALSE NEIGHBOUR: 'it returns false'. Refute it at one input. -/
def fnExactFrameOfWrong : ChangeSpec := { name := "fnExactFrameOf", fn := fun _ => fun
  | [d] => { results := [.lit (.bool false)], args := [d] }
  | _ => none }
def FnExactFrameOfWrongFalsely : Prop := fnExactFrameOfRow.holds Try.pinned (OpenSpec.ofChange fnExactFrameOfWrong)

/-- 'laws.FnExactAgentSend': WHATEVER THE INPUT: true; the input reads as it did. -/
def fnExactAgentSendSpec : ChangeSpec := { name := "fnExactAgentSend", fn := fun _ => fun
  | [d] => { results := [.lit (.bool true)], args := [d] }
  | _ => none }
def fnExactAgentSendRow : OpenClaim := { program := "ytadaiilmjchnmaa", sum := "7f560ad1ee5d3c97fb7ceb30d52988fc9ef6738b2f3ec345725c7d41e7252de6", func := "loop.example/g00491/laws.FnExactAgentSend", spec := "fnExactAgentSend", unfollowed := true, recurses := true, apart := false }
def FnExactAgentSendSaid : Prop := fnExactAgentSendRow.holds Try.pinned (OpenSpec.ofChange fnExactAgentSendSpec)

/-- ITS FALSE NEIGHBOUR: 'it returns false'. Refute it at one input. -/
def fnExactAgentSendWrong : ChangeSpec := { name := "fnExactAgentSend", fn := fun _ => fun
  | [d] => { results := [.lit (.bool false)], args := [d] }
  | _ => none }
def FnExactAgentSendWrongFalsely : Prop := fnExactAgentSendRow.holds Try.pinned (OpenSpec.ofChange fnExactAgentSendWrong)

/-- 'laws.FnExactHouseSame': WHATEVER THE INPUT: true; the input reads as it did. -/
def fnExactHouseSameSpec : ChangeSpec := { name := "fnExactHouseSame", fn := fun _ => fun
  | [d1, d2] => { results := [.lit (.bool true)], args := [d1, d2] }
  | _ => none }
def fnExactHouseSameRow : OpenClaim := { program := "ytadaiilmjchnmaa", sum := "7f560ad1ee5d3c97fb7ceb30d52988fc9ef6738b2f3ec345725c7d41e7252de6", func := "loop.example/g00491/laws.FnExactHouseSame", spec := "fnExactHouseSame", unfollowed := true, recurses := true, apart := false }
def FnExactHouseSameSaid : Prop := fnExactHouseSameRow.holds Try.pinned (OpenSpec.ofChange fnExactHouseSameSpec)

/-- ITS FALSE NEIGHBOUR: 'it returns false'. Refute it at one input. -/
def fnExactHouseSameWrong : ChangeSpec := { name := "fnExactHouseSame", fn := fun _ => fun
  | [d1, d2] => { results := [.lit (.bool false)], args := [d1, d2] }
  | _ => none }
def FnExactHouseSameWrongFalsely : Prop := fnExactHouseSameRow.holds Try.pinned (OpenSpec.ofChange fnExactHouseSameWrong)

/-- 'laws.FnFrames': WHATEVER THE INPUT: true; the input reads as it did. -/
def fnFramesSpec : ChangeSpec := { name := "fnFrames", fn := fun _ => fun
  | [d] => { results := [.lit (.bool true)], args := [d] }
  | _ => none }
def fnFramesRow : OpenClaim := { program := "ytadaiilmjchnmaa", sum := "7f560ad1ee5d3c97fb7ceb30d52988fc9ef6738b2f3ec345725c7d41e7252de6", func := "loop.example/g00491/laws.FnFrames", spec := "fnFrames", unfollowed := true, recurses := true, apart := false }
def FnFramesSaid : Prop := fnFramesRow.holds Try.pinned (OpenSpec.ofChange fnFramesSpec)

/-- ITS FALSE NEIGHBOUR: 'it returns false'. Refute it at one input. -/
def fnFramesWrong : ChangeSpec := { name := "fnFrames", fn := fun _ => fun
  | [d] => { results := [.lit (.bool false)], args := [d] }
  | _ => none }
def FnFramesWrongFalsely : Prop := fnFramesRow.holds Try.pinned (OpenSpec.ofChange fnFramesWrong)

/-- 'laws.FnExactHouseNew': WHATEVER THE INPUT: true; the input reads as it did. -/
def fnExactHouseNewSpec : ChangeSpec := { name := "fnExactHouseNew", fn := fun _ => fun
  | [d] => { results := [.lit (.bool true)], args := [d] }
  | _ => none }
def fnExactHouseNewRow : OpenClaim := { program := "ytadaiilmjchnmaa", sum := "7f560ad1ee5d3c97fb7ceb30d52988fc9ef6738b2f3ec345725c7d41e7252de6", func := "loop.example/g00491/laws.FnExactHouseNew", spec := "fnExactHouseNew", apart := false }
def FnExactHouseNewSaid : Prop := fnExactHouseNewRow.holds Try.pinned (OpenSpec.ofChange fnExactHouseNewSpec)

/-- ITS FALSE NEIGHBOUR: 'it returns false'. Refute it at one input. -/
def fnExactHouseNewWrong : ChangeSpec := { name := "fnExactHouseNew", fn := fun _ => fun
  | [d] => { results := [.lit (.bool false)], args := [d] }
  | _ => none }
def FnExactHouseNewWrongFalsely : Prop := fnExactHouseNewRow.holds Try.pinned (OpenSpec.ofChange fnExactHouseNewWrong)

/-- 'laws.FnExactRowIds': WHATEVER THE INPUT: true; the input reads as it did. -/
def fnExactRowIdsSpec : ChangeSpec := { name := "fnExactRowIds", fn := fun _ => fun
  | [d] => { results := [.lit (.bool true)], args := [d] }
  | _ => none }
def fnExactRowIdsRow : OpenClaim := { program := "ytadaiilmjchnmaa", sum := "7f560ad1ee5d3c97fb7ceb30d52988fc9ef6738b2f3ec345725c7d41e7252de6", func := "loop.example/g00491/laws.FnExactRowIds", spec := "fnExactRowIds", unfollowed := true, recurses := true, apart := false }
def FnExactRowIdsSaid : Prop := fnExactRowIdsRow.holds Try.pinned (OpenSpec.ofChange fnExactRowIdsSpec)

/-- ITS FALSE NEIGHBOUR: 'it returns false'. Refute it at one input. -/
def fnExactRowIdsWrong : ChangeSpec := { name := "fnExactRowIds", fn := fun _ => fun
  | [d] => { results := [.lit (.bool false)], args := [d] }
  | _ => none }
def FnExactRowIdsWrongFalsely : Prop := fnExactRowIdsRow.holds Try.pinned (OpenSpec.ofChange fnExactRowIdsWrong)

/-- 'laws.FnSealed': WHATEVER THE INPUT: true; the input reads as it did. -/
def fnSealedSpec : ChangeSpec := { name := "fnSealed", fn := fun _ => fun
  | [d] => { results := [.lit (.bool true)], args := [d] }
  | _ => none }
def fnSealedRow : OpenClaim := { program := "ytadaiilmjchnmaa", sum := "7f560ad1ee5d3c97fb7ceb30d52988fc9ef6738b2f3ec345725c7d41e7252de6", func := "loop.example/g00491/laws.FnSealed", spec := "fnSealed", unfollowed := true, recurses := true, apart := false }
def FnSealedSaid : Prop := fnSealedRow.holds Try.pinned (OpenSpec.ofChange fnSealedSpec)

/-- ITS FALSE NEIGHBOUR: 'it returns false'. Refute it at one input. -/
def fnSealedWrong : ChangeSpec := { name := "fnSealed", fn := fun _ => fun
  | [d] => { results := [.lit (.bool false)], args := [d] }
  | _ => none }
def FnSealedWrongFalsely : Prop := fnSealedRow.holds Try.pinned (OpenSpec.ofChange fnSealedWrong)

/- THE SECOND FORM. 'bulk': how many values and letters a reading holds, each counted each time it is reached (what is shared counts as often as it is met; a slice's spare places count too). A statement '..UptoSaid' is the law's where the arguments, and the package variables that the reading takes, are together of bulk at most 1048576: NARROWER than '..Said'. Prove '..Said' where nothing that the law and all that it calls make is longer than what came in: it says more and counts as full. Else prove '..UptoSaid'. A law counts once. -/
mutual
def uptoBulk {H : Type} : DataW H → Nat
  | .lit (.string bytes) => bytes.length + 1
  | .lit _ => 1
  | .nil => 1
  | .ptr d => uptoBulk d + 1
  | .slice elems spare => uptoBulkAll elems + uptoBulkAll spare + 1
  | .agg parts => uptoBulkAll parts + 1
  | .iface _ d => uptoBulk d + 1
  | .map entries => uptoBulkEntries entries + 1
  | .held _ => 1
def uptoBulkAll {H : Type} : List (DataW H) → Nat
  | [] => 0
  | d :: r => uptoBulk d + uptoBulkAll r
def uptoBulkEntries {H : Type} : List (Lit × DataW H) → Nat
  | [] => 0
  | x :: r => uptoBulkEntry x + uptoBulkEntries r
def uptoBulkEntry {H : Type} : Lit × DataW H → Nat
  | (.string bytes, d) => bytes.length + uptoBulk d + 1
  | (_, d) => uptoBulk d + 1
 end
def uptoSmall : (H : Type) → List (DataW H) → Bool := fun _ ds => decide (uptoBulkAll ds ≤ 1048576)
def OpenSpec.upto (s : _root_.Go.ChangeSpec) : _root_.Go.OpenSpec := { _root_.Go.OpenSpec.ofChange s with cond := some uptoSmall }

/-- 'laws.FnExactRowPop', WHERE WHAT IT READS IS OF BULK AT MOST 1048576: true; the input reads as it did. -/
def fnExactRowPopUptoRow : OpenClaim := { program := "ytadaiilmjchnmaa", sum := "7f560ad1ee5d3c97fb7ceb30d52988fc9ef6738b2f3ec345725c7d41e7252de6", func := "loop.example/g00491/laws.FnExactRowPop", spec := "fnExactRowPop", apart := false, narrowed := true }
def FnExactRowPopUptoSaid : Prop := fnExactRowPopUptoRow.holds Try.pinned (OpenSpec.upto fnExactRowPopSpec)

/-- 'laws.FnExactSeal', WHERE WHAT IT READS IS OF BULK AT MOST 1048576: true; the input reads as it did. -/
def fnExactSealUptoRow : OpenClaim := { program := "ytadaiilmjchnmaa", sum := "7f560ad1ee5d3c97fb7ceb30d52988fc9ef6738b2f3ec345725c7d41e7252de6", func := "loop.example/g00491/laws.FnExactSeal", spec := "fnExactSeal", apart := false, narrowed := true }
def FnExactSealUptoSaid : Prop := fnExactSealUptoRow.holds Try.pinned (OpenSpec.upto fnExactSealSpec)

/-- 'laws.FnExactItems', WHERE WHAT IT READS IS OF BULK AT MOST 1048576: true; the input reads as it did. -/
def fnExactItemsUptoRow : OpenClaim := { program := "ytadaiilmjchnmaa", sum := "7f560ad1ee5d3c97fb7ceb30d52988fc9ef6738b2f3ec345725c7d41e7252de6", func := "loop.example/g00491/laws.FnExactItems", spec := "fnExactItems", apart := false, narrowed := true }
def FnExactItemsUptoSaid : Prop := fnExactItemsUptoRow.holds Try.pinned (OpenSpec.upto fnExactItemsSpec)

/-- 'laws.FnExactSeatData', WHERE WHAT IT READS IS OF BULK AT MOST 1048576: true; the input reads as it did. -/
def fnExactSeatDataUptoRow : OpenClaim := { program := "ytadaiilmjchnmaa", sum := "7f560ad1ee5d3c97fb7ceb30d52988fc9ef6738b2f3ec345725c7d41e7252de6", func := "loop.example/g00491/laws.FnExactSeatData", spec := "fnExactSeatData", unfollowed := true, recurses := true, apart := false, narrowed := true }
def FnExactSeatDataUptoSaid : Prop := fnExactSeatDataUptoRow.holds Try.pinned (OpenSpec.upto fnExactSeatDataSpec)

/-- 'laws.FnExactFrameOf', WHERE WHAT IT READS IS OF BULK AT MOST 1048576: true; the input reads as it did. -/
def fnExactFrameOfUptoRow : OpenClaim := { program := "ytadaiilmjchnmaa", sum := "7f560ad1ee5d3c97fb7ceb30d52988fc9ef6738b2f3ec345725c7d41e7252de6", func := "loop.example/g00491/laws.FnExactFrameOf", spec := "fnExactFrameOf", unfollowed := true, recurses := true, apart := false, narrowed := true }
def FnExactFrameOfUptoSaid : Prop := fnExactFrameOfUptoRow.holds Try.pinned (OpenSpec.upto fnExactFrameOfSpec)

/-- 'laws.FnExactAgentSend', WHERE WHAT IT READS IS OF BULK AT MOST 1048576: true; the input reads as it did. -/
def fnExactAgentSendUptoRow : OpenClaim := { program := "ytadaiilmjchnmaa", sum := "7f560ad1ee5d3c97fb7ceb30d52988fc9ef6738b2f3ec345725c7d41e7252de6", func := "loop.example/g00491/laws.FnExactAgentSend", spec := "fnExactAgentSend", unfollowed := true, recurses := true, apart := false, narrowed := true }
def FnExactAgentSendUptoSaid : Prop := fnExactAgentSendUptoRow.holds Try.pinned (OpenSpec.upto fnExactAgentSendSpec)

/-- 'laws.FnExactHouseSame', WHERE WHAT IT READS IS OF BULK AT MOST 1048576: true; the input reads as it did. -/
def fnExactHouseSameUptoRow : OpenClaim := { program := "ytadaiilmjchnmaa", sum := "7f560ad1ee5d3c97fb7ceb30d52988fc9ef6738b2f3ec345725c7d41e7252de6", func := "loop.example/g00491/laws.FnExactHouseSame", spec := "fnExactHouseSame", unfollowed := true, recurses := true, apart := false, narrowed := true }
def FnExactHouseSameUptoSaid : Prop := fnExactHouseSameUptoRow.holds Try.pinned (OpenSpec.upto fnExactHouseSameSpec)

/-- 'laws.FnFrames', WHERE WHAT IT READS IS OF BULK AT MOST 1048576: true; the input reads as it did. -/
def fnFramesUptoRow : OpenClaim := { program := "ytadaiilmjchnmaa", sum := "7f560ad1ee5d3c97fb7ceb30d52988fc9ef6738b2f3ec345725c7d41e7252de6", func := "loop.example/g00491/laws.FnFrames", spec := "fnFrames", unfollowed := true, recurses := true, apart := false, narrowed := true }
def FnFramesUptoSaid : Prop := fnFramesUptoRow.holds Try.pinned (OpenSpec.upto fnFramesSpec)

/-- 'laws.FnExactHouseNew', WHERE WHAT IT READS IS OF BULK AT MOST 1048576: true; the input reads as it did. -/
def fnExactHouseNewUptoRow : OpenClaim := { program := "ytadaiilmjchnmaa", sum := "7f560ad1ee5d3c97fb7ceb30d52988fc9ef6738b2f3ec345725c7d41e7252de6", func := "loop.example/g00491/laws.FnExactHouseNew", spec := "fnExactHouseNew", apart := false, narrowed := true }
def FnExactHouseNewUptoSaid : Prop := fnExactHouseNewUptoRow.holds Try.pinned (OpenSpec.upto fnExactHouseNewSpec)

/-- 'laws.FnExactRowIds', WHERE WHAT IT READS IS OF BULK AT MOST 1048576: true; the input reads as it did. -/
def fnExactRowIdsUptoRow : OpenClaim := { program := "ytadaiilmjchnmaa", sum := "7f560ad1ee5d3c97fb7ceb30d52988fc9ef6738b2f3ec345725c7d41e7252de6", func := "loop.example/g00491/laws.FnExactRowIds", spec := "fnExactRowIds", unfollowed := true, recurses := true, apart := false, narrowed := true }
def FnExactRowIdsUptoSaid : Prop := fnExactRowIdsUptoRow.holds Try.pinned (OpenSpec.upto fnExactRowIdsSpec)

/-- 'laws.FnSealed', WHERE WHAT IT READS IS OF BULK AT MOST 1048576: true; the input reads as it did. -/
def fnSealedUptoRow : OpenClaim := { program := "ytadaiilmjchnmaa", sum := "7f560ad1ee5d3c97fb7ceb30d52988fc9ef6738b2f3ec345725c7d41e7252de6", func := "loop.example/g00491/laws.FnSealed", spec := "fnSealed", unfollowed := true, recurses := true, apart := false, narrowed := true }
def FnSealedUptoSaid : Prop := fnSealedUptoRow.holds Try.pinned (OpenSpec.upto fnSealedSpec)

end Rows
end Go.Proofs.Ytadaiilmjchnmaa
