import Derived.Test.YtnpmjlppjcemmaaGreatV1
import Derived.Test.YtnpmjlppjcemmaaGreatProg
import Derived.Test.YtnpmjlppjcemmaaGreatVS0
import Derived.KernelRfl
namespace Go.Proofs.YtnpmjlppjcemmaaGreat.Vm
open Go Go.RowKit
set_option maxRecDepth 100000
set_option linter.unusedVariables false
def lookL (l : List (Nat × Loop)) : Loops := fun n => lookN l n
def eqNs : List Nat → List Nat → Bool
  | [], [] => true
  | a :: l, b :: m => Nat.beq a b && eqNs l m
  | _, _ => false
def lookK : List (FuncId × List Nat × Con) → Cons
  | [], _, _ => none
  | (f, ks, c) :: l, g, xs => bif Nat.beq f g && eqNs ks xs then some c else lookK l g xs
abbrev DSpan : Type := Int × Int × Unit
abbrev DSketch : Type := Int × Int × Int × Int × (List Int) × (List Int) × (List (List Int)) × Unit
abbrev DEntry : Type := Int × Int × (List DSpan) × DSketch × Unit
abbrev DL1Cur : Type := (List Int) × Int × Int × Unit
abbrev DItem : Type := Int × Int × Int × Int × DSketch × Unit
abbrev DRow : Type := (List DEntry) × Unit
abbrev y0 : Ty := .cons (.sl false 5 (.int .u8)) (.cons (.int .i64) (.cons (.int .i64) .nil))
abbrev y1 : Ty := .cons (.int .i64) (.cons (.int .i64) (.cons (.int .i64) (.cons (.int .i64) (.cons (.sl true 3 (.int .i64)) (.cons (.sl true 3 (.int .i64)) (.cons (.sl true 28 (.sl true 3 (.int .i64))) .nil))))))
abbrev y2 : Ty := .cons (.int .i64) (.cons (.int .i64) (.cons (.int .i64) (.cons (.int .i64) (.cons (.sl false 3 (.int .i64)) (.cons (.sl false 3 (.int .i64)) (.cons (.sl false 28 (.sl false 3 (.int .i64))) .nil))))))
abbrev y3 : Ty := .cons (.int .i64) (.cons (.int .i64) (.cons (.int .i64) (.cons (.int .i64) (.cons y1 .nil))))
abbrev y4 : Ty := .cons (.int .i64) (.cons (.int .i64) (.cons (.int .i64) (.cons (.int .i64) (.cons y2 .nil))))
abbrev y5 : Ty := .cons (.int .i64) (.cons (.int .i64) .nil)
abbrev y6 : Ty := .cons (.int .i64) (.cons (.int .i64) (.cons (.sl true 102 y5) (.cons y1 .nil)))
abbrev y7 : Ty := .cons (.int .i64) (.cons (.int .i64) (.cons (.sl false 102 y5) (.cons y2 .nil)))
abbrev y8 : Ty := .cons (.int .i64) (.cons (.int .i64) (.cons (.sl false 157 y5) (.cons y2 .nil)))
abbrev y9 : Ty := .cons (.int .i64) (.cons (.int .i64) (.cons .bool (.cons (.int .i64) (.cons (.sl false 64 y4) (.cons (.sl false 157 y5) (.cons (.int .i64) .nil))))))
abbrev y10 : Ty := .cons (.int .i64) (.cons (.int .i64) (.cons (.int .i64) (.cons (.int .i64) (.cons (.sl false 157 y5) (.cons y4 .nil)))))
abbrev y11 : Ty := .cons (.int .i64) (.cons (.int .i64) (.cons .bool (.cons (.int .i64) (.cons (.sl false 76 y4) (.cons (.sl false 102 y5) (.cons (.int .i64) .nil))))))
abbrev y12 : Ty := .cons (.int .i64) (.cons (.int .i64) (.cons (.int .i64) (.cons (.int .i64) (.cons (.sl false 102 y5) (.cons y4 .nil)))))
def tb : List (TypeId × TRow) := [
  (2, ⟨(.int .i64), 8, []⟩),
  (3, ⟨(.int .i64), 8, []⟩),
  (4, ⟨.bool, 1, []⟩),
  (5, ⟨(.int .u8), 1, []⟩),
  (6, ⟨(.int .u8), 1, []⟩),
  (9, ⟨.str, 16, []⟩),
  (10, ⟨.str, 16, []⟩),
  (11, ⟨.str, 16, []⟩),
  (12, ⟨(.int .u64), 8, []⟩),
  (21, ⟨(.int .i32), 4, []⟩),
  (22, ⟨(.sl false 5 (.int .u8)), 24, []⟩),
  (24, ⟨(.sl false 33 y7), 24, []⟩),
  (25, ⟨(.cons (.sl false 33 y7) .nil), 24, [24]⟩),
  (26, ⟨(.cons (.sl false 33 y7) .nil), 24, [24]⟩),
  (27, ⟨(.sl false 102 y5), 24, []⟩),
  (28, ⟨(.sl false 3 (.int .i64)), 24, []⟩),
  (29, ⟨(.sl false 28 (.sl false 3 (.int .i64))), 24, []⟩),
  (30, ⟨y2, 104, [3, 3, 3, 3, 28, 28, 29]⟩),
  (31, ⟨y2, 104, [3, 3, 3, 3, 28, 28, 29]⟩),
  (32, ⟨y7, 144, [3, 3, 27, 31]⟩),
  (33, ⟨y7, 144, [3, 3, 27, 31]⟩),
  (46, ⟨(.sl false 52 y8), 24, []⟩),
  (47, ⟨(.cons (.sl false 52 y8) .nil), 24, [46]⟩),
  (48, ⟨(.cons (.sl false 52 y8) .nil), 24, [46]⟩),
  (49, ⟨(.sl false 157 y5), 24, []⟩),
  (50, ⟨y2, 104, [3, 3, 3, 3, 28, 28, 29]⟩),
  (51, ⟨y8, 144, [3, 3, 49, 50]⟩),
  (52, ⟨y8, 144, [3, 3, 49, 50]⟩),
  (60, ⟨(.sl false 64 y4), 24, []⟩),
  (61, ⟨y9, 88, [3, 3, 4, 3, 60, 49, 3]⟩),
  (62, ⟨y9, 88, [3, 3, 4, 3, 60, 49, 3]⟩),
  (63, ⟨y4, 136, [3, 3, 3, 3, 50]⟩),
  (64, ⟨y4, 136, [3, 3, 3, 3, 50]⟩),
  (65, ⟨y10, 192, [3, 3, 3, 3, 49, 64]⟩),
  (66, ⟨y10, 192, [3, 3, 3, 3, 49, 64]⟩),
  (69, ⟨(.sl false 76 y4), 24, []⟩),
  (70, ⟨y11, 88, [3, 3, 4, 3, 69, 27, 3]⟩),
  (71, ⟨y11, 88, [3, 3, 4, 3, 69, 27, 3]⟩),
  (75, ⟨y4, 136, [3, 3, 3, 3, 31]⟩),
  (76, ⟨y4, 136, [3, 3, 3, 3, 31]⟩),
  (77, ⟨y12, 192, [3, 3, 3, 3, 27, 76]⟩),
  (78, ⟨y12, 192, [3, 3, 3, 3, 27, 76]⟩),
  (101, ⟨y5, 16, [3, 3]⟩),
  (102, ⟨y5, 16, [3, 3]⟩),
  (133, ⟨y0, 40, [22, 3, 3]⟩),
  (134, ⟨y0, 40, [22, 3, 3]⟩),
  (157, ⟨y5, 16, [3, 3]⟩),
  (174, ⟨(.int .u64), 8, []⟩),
  (182, ⟨(.int .i64), 8, []⟩),
  (190, ⟨(.int .u32), 4, []⟩),
  (192, ⟨(.int .u64), 8, []⟩),
  (193, ⟨(.int .u64), 8, []⟩),
  (209, ⟨(.int .u8), 1, []⟩),
  (210, ⟨(.int .u8), 1, []⟩),
  (213, ⟨(.int .i32), 4, []⟩),
  (214, ⟨(.int .i32), 4, []⟩)]

/-! ### laws.big: function 6 -/
noncomputable def F.laws_big (a0 : List Int) : Option Bool :=
  some (decide ((len a0) > 1048576))
noncomputable def C.laws_big : Con := ⟨[.r (.val (.sl false 5 (.int .u8)))], .one .bool, fun x => F.laws_big x.1⟩
def L.laws_big : Loops := fun _ => none
noncomputable def K.laws_big : Cons := lookK []
theorem run.laws_big : ∀ x, runF tb K.laws_big L.laws_big [] Tryz.f6 C.laws_big x = C.laws_big.fn x := fun x => by kernel_rfl

/-! ### spec.l1New: function 37 -/
noncomputable def F.spec_l1New.s3 : ((List Int) × Int × Int × Unit) → Option (Lp ((List Int) × Int × Int × Unit) DL1Cur) := fun (x1, x2, x3, _) =>
  bif decide (x3 < (len x1)) then
    bif decide (x3 < 4000) then
      chk (inb x3 (List.length x1)) <|
      some (.again (x1, ibits .and .i64 (w64 ((w64 ((w64 (x2 * 131)) + (w64 (List.getD x1 ((Int.toNat x3)) 0)))) + 7)) 1073741823, w64 (x3 + 1), ()))
    else
      some (.exit (x1, x2, x3, ()))
  else
    some (.exit (x1, x2, x3, ()))
noncomputable def F.spec_l1New (a0 : List Int) : Option DL1Cur :=
  afterO (loopO F.spec_l1New.s3 (a0, w64 (26583 + (len a0)), 0, ())) fun (x4, x5, x6, _) =>
  some (x4, 0, x5, ())
noncomputable def C.spec_l1New : Con := ⟨[.r (.val (.sl false 5 (.int .u8)))], .ptr y0, fun x => F.spec_l1New x.1⟩
def L.spec_l1New : Loops := lookL [(3, ⟨[.pat 0 (.val (.sl false 5 (.int .u8))), .pat 3 (.val (.int .i64)), .pat 4 (.val (.int .i64))], 0⟩)]
noncomputable def K.spec_l1New : Cons := lookK []
theorem run.spec_l1New : ∀ x, runF tb K.spec_l1New L.spec_l1New [] Tryz.f37 C.spec_l1New x = C.spec_l1New.fn x := fun x => by kernel_rfl

/-! ### spec.l1Byte: function 143 -/
noncomputable def F.spec_l1Byte (a0 : DL1Cur) : Option (Int × DL1Cur) :=
  bif decide (a0.2.1 < (len a0.1)) then
    chk (inb a0.2.1 (List.length a0.1)) <|
    some (ibits .and .i64 (w64 ((ibits .and .i64 (ibits .xor .i64 (Int.fdiv (w64 ((w64 (a0.2.2.1 * 6364136223846793005)) + 1442695040888963407)) (2 ^ (min 33 64))) (Int.fdiv (w64 ((w64 (a0.2.2.1 * 6364136223846793005)) + 1442695040888963407)) (2 ^ (min 45 64)))) 255) + (w64 (List.getD a0.1 ((Int.toNat a0.2.1)) 0)))) 255, (a0.1, w64 (a0.2.1 + 1), w64 ((w64 (a0.2.2.1 * 6364136223846793005)) + 1442695040888963407), a0.2.2.2))
  else
    some (ibits .and .i64 (ibits .xor .i64 (Int.fdiv (w64 ((w64 (a0.2.2.1 * 6364136223846793005)) + 1442695040888963407)) (2 ^ (min 33 64))) (Int.fdiv (w64 ((w64 (a0.2.2.1 * 6364136223846793005)) + 1442695040888963407)) (2 ^ (min 45 64)))) 255, (a0.1, a0.2.1, w64 ((w64 (a0.2.2.1 * 6364136223846793005)) + 1442695040888963407), a0.2.2.2))
noncomputable def C.spec_l1Byte : Con := ⟨[.p y0 y0], .one (.int .i64), fun x => F.spec_l1Byte x.1⟩
def L.spec_l1Byte : Loops := fun _ => none
noncomputable def K.spec_l1Byte : Cons := lookK []
theorem run.spec_l1Byte : ∀ x, runF tb K.spec_l1Byte L.spec_l1Byte [0] Tryz.f143 C.spec_l1Byte x = C.spec_l1Byte.fn x := fun x => by kernel_rfl

/-! ### spec.l1Below: function 94 -/
noncomputable def F.spec_l1Below (a0 : DL1Cur) (a1 : Int) : Option (Int × DL1Cur) :=
  bif decide (a1 ≤ 0) then
    some (0, a0)
  else
  bif decide (a1 ≤ 256) then
    (F.spec_l1Byte a0).bind fun r1 =>
    nchk (a1 == 0) <|
    some (Int.tmod r1.1 a1, r1.2)
  else
  (F.spec_l1Byte a0).bind fun r2 =>
  (F.spec_l1Byte r2.2).bind fun r3 =>
  (F.spec_l1Byte r3.2).bind fun r4 =>
  (F.spec_l1Byte r4.2).bind fun r5 =>
  nchk (a1 == 0) <|
  some (Int.tmod (w64 ((w64 ((w64 ((w64 (r2.1 * 16777216)) + (w64 (r3.1 * 65536)))) + (w64 (r4.1 * 256)))) + r5.1)) a1, r5.2)
noncomputable def C.spec_l1Below : Con := ⟨[.p y0 y0, .r (.val (.int .i64))], .one (.int .i64), fun x => F.spec_l1Below x.1 x.2.1⟩
def L.spec_l1Below : Loops := fun _ => none
noncomputable def K.spec_l1Below : Cons := lookK [(143, [], C.spec_l1Byte)]
theorem run.spec_l1Below : ∀ x, runF tb K.spec_l1Below L.spec_l1Below [0] Tryz.f94 C.spec_l1Below x = C.spec_l1Below.fn x := fun x => by kernel_rfl

/-! ### spec.l1PickInt: function 99 -/
noncomputable def F.spec_l1PickInt (a0 : DL1Cur) (a1 : List Int) : Option (Int × DL1Cur) :=
  (F.spec_l1Below a0 (len a1)).bind fun r1 =>
  chk (inb r1.1 (List.length a1)) <|
  some (List.getD a1 ((Int.toNat r1.1)) 0, r1.2)
noncomputable def C.spec_l1PickInt : Con := ⟨[.p y0 y0, .r (.val (.sl false 3 (.int .i64)))], .one (.int .i64), fun x => F.spec_l1PickInt x.1 x.2.1⟩
def L.spec_l1PickInt : Loops := fun _ => none
noncomputable def K.spec_l1PickInt : Cons := lookK [(94, [], C.spec_l1Below)]
theorem run.spec_l1PickInt : ∀ x, runF tb K.spec_l1PickInt L.spec_l1PickInt [0] Tryz.f99 C.spec_l1PickInt x = C.spec_l1PickInt.fn x := fun x => by kernel_rfl

/-! ### spec.l3Values: function 146 -/
noncomputable def F.spec_l3Values.s4 : ((List Int) × Int × Int × DL1Cur × Unit) → Option (Lp ((List Int) × Int × Int × DL1Cur × Unit) ((List Int) × DL1Cur)) := fun (x2, x3, x4, x5, _) =>
  bif decide (x4 < x3) then
    (F.spec_l1Byte x5).bind fun r6 =>
    (F.spec_l1PickInt r6.2 ([0, 1, 7, 8, 100, 5000, 1000000, r6.1, 1000001, -1])).bind fun r7 =>
    chk (fits (List.length x2 + List.length ([r7.1])) 8) <|
    some (.again (x2 ++ ([r7.1]), x3, w64 (x4 + 1), r7.2, ()))
  else
    some (.exit (x2, x3, x4, x5, ()))
noncomputable def F.spec_l3Values (a0 : DL1Cur) : Option ((List Int) × DL1Cur) :=
  (F.spec_l1Below a0 6).bind fun r1 =>
  afterO (loopO F.spec_l3Values.s4 (([] : List Int), r1.1, 0, r1.2, ())) fun (x8, x9, x10, x11, _) =>
  some (x8, x11)
noncomputable def C.spec_l3Values : Con := ⟨[.p y0 y0], .one (.sl true 3 (.int .i64)), fun x => F.spec_l3Values x.1⟩
def L.spec_l3Values : Loops := lookL [(4, ⟨[.own 3 (.sl true 3 (.int .i64)), .pat 4 (.val (.int .i64)), .pat 5 (.val (.int .i64)), .root 0 true y0 [0]], 0⟩)]
noncomputable def K.spec_l3Values : Cons := lookK [(94, [], C.spec_l1Below), (99, [], C.spec_l1PickInt), (143, [], C.spec_l1Byte)]
theorem run.spec_l3Values : ∀ x, runF tb K.spec_l3Values L.spec_l3Values [0] Tryz.f146 C.spec_l3Values x = C.spec_l3Values.fn x := fun x => by kernel_rfl

/-! ### spec.SketchNew: function 161 -/
noncomputable def F.spec_SketchNew : Option DSketch :=
  chk (mk 8 8 8) <|
  chk (mk 8 8 8) <|
  chk (mk 8 4 4) <|
  chk (mk 8 4 4) <|
  some (0, 0, 0, 0, List.replicate 8 0, List.replicate 8 0, [List.replicate 4 0, List.replicate 4 0], ())
noncomputable def C.spec_SketchNew : Con := ⟨[], .one y1, fun x => F.spec_SketchNew⟩
def L.spec_SketchNew : Loops := fun _ => none
noncomputable def K.spec_SketchNew : Cons := lookK []
theorem run.spec_SketchNew : ∀ x, runF tb K.spec_SketchNew L.spec_SketchNew [] Tryz.f161 C.spec_SketchNew x = C.spec_SketchNew.fn x := fun x => by kernel_rfl

/-! ### spec.l3Copy: function 115 -/
noncomputable def F.spec_l3Copy.s6 : (Int × DSketch × DSketch × DSketch × Unit) → Option (Lp (Int × DSketch × DSketch × DSketch × Unit) DSketch) := fun (x1, x2, x3, x4, _) =>
  bif decide (x1 < (len x2.2.2.2.2.2.2.1)) then
    chk (inb x1 (List.length x2.2.2.2.2.2.2.1)) <|
    chk (fits (List.length (([] : List Int)) + List.length (List.getD x2.2.2.2.2.2.2.1 ((Int.toNat x1)) (([] : List Int)))) 8) <|
    chk (fits (List.length x4.2.2.2.2.2.2.1 + List.length ([(([] : List Int)) ++ (List.getD x2.2.2.2.2.2.2.1 ((Int.toNat x1)) (([] : List Int)))])) 24) <|
    some (.again (w64 (x1 + 1), x2, x3, (x4.1, x4.2.1, x4.2.2.1, x4.2.2.2.1, x4.2.2.2.2.1, x4.2.2.2.2.2.1, x4.2.2.2.2.2.2.1 ++ ([(([] : List Int)) ++ (List.getD x2.2.2.2.2.2.2.1 ((Int.toNat x1)) (([] : List Int)))]), x4.2.2.2.2.2.2.2), ()))
  else
    some (.exit (x1, x2, x3, x4, ()))
noncomputable def F.spec_l3Copy (a0 : DSketch) : Option DSketch :=
  chk (fits (List.length (([] : List Int)) + List.length a0.2.2.2.2.1) 8) <|
  chk (fits (List.length (([] : List Int)) + List.length a0.2.2.2.2.2.1) 8) <|
  afterO (loopO F.spec_l3Copy.s6 (0, a0, (0, 0, 0, 0, ([] : List Int), ([] : List Int), ([] : List (List Int)), ()), (a0.1, a0.2.1, a0.2.2.1, a0.2.2.2.1, (([] : List Int)) ++ a0.2.2.2.2.1, (([] : List Int)) ++ a0.2.2.2.2.2.1, ([] : List (List Int)), a0.2.2.2.2.2.2.2), ())) fun (x5, x6, x7, x8, _) =>
  some x8
noncomputable def C.spec_l3Copy : Con := ⟨[.r (.val y2)], .one y1, fun x => F.spec_l3Copy x.1⟩
def L.spec_l3Copy : Loops := lookL [(6, ⟨[.pat 4 (.val (.int .i64)), .root 1 true y2 [1], .root 2 true y1 [2], .root 3 true y1 [3]], 0⟩)]
noncomputable def K.spec_l3Copy : Cons := lookK []
theorem run.spec_l3Copy : ∀ x, runF tb K.spec_l3Copy L.spec_l3Copy [] Tryz.f115 C.spec_l3Copy x = C.spec_l3Copy.fn x := fun x => by kernel_rfl

/-! ### spec.l1In: function 136 -/
noncomputable def F.spec_l1In (a0 : Int) (a1 : Int) (a2 : Int) : Option Bool :=
  bif decide (a0 ≥ a1) then
    some (decide (a0 ≤ a2))
  else
    some false
noncomputable def C.spec_l1In : Con := ⟨[.r (.val (.int .i64)), .r (.val (.int .i64)), .r (.val (.int .i64))], .one .bool, fun x => F.spec_l1In x.1 x.2.1 x.2.2.1⟩
def L.spec_l1In : Loops := fun _ => none
noncomputable def K.spec_l1In : Cons := lookK []
theorem run.spec_l1In : ∀ x, runF tb K.spec_l1In L.spec_l1In [] Tryz.f136 C.spec_l1In x = C.spec_l1In.fn x := fun x => by kernel_rfl

/-! ### spec.l3List: function 152 -/
noncomputable def F.spec_l3List.s4 : ((List Int) × Int × Int × Bool × Int × Unit) → Option (Lp ((List Int) × Int × Int × Bool × Int × Unit) Bool) := fun (x1, x2, x3, x4, x5, _) =>
  bif decide (x5 < x2) then
    chk (inb x5 (List.length x1)) <|
    (F.spec_l1In (List.getD x1 ((Int.toNat x5)) 0) 0 x3).bind fun r6 =>
    bif !r6 then
      some (.ret false)
    else
    bif x4 then
      chk (inb x5 (List.length x1)) <|
      bif (List.getD x1 ((Int.toNat x5)) 0) != 0 then
        some (.ret false)
      else
        some (.again (x1, x2, x3, x4, w64 (x5 + 1), ()))
    else
      some (.again (x1, x2, x3, x4, w64 (x5 + 1), ()))
  else
    some (.exit (x1, x2, x3, x4, x5, ()))
noncomputable def F.spec_l3List (a0 : List Int) (a1 : Int) (a2 : Int) (a3 : Bool) : Option Bool :=
  bif (len a0) != a1 then
    some false
  else
  afterO (loopO F.spec_l3List.s4 (a0, a1, a2, a3, 0, ())) fun (x7, x8, x9, x10, x11, _) =>
  some true
noncomputable def C.spec_l3List : Con := ⟨[.r (.val (.sl false 3 (.int .i64))), .r (.val (.int .i64)), .r (.val (.int .i64)), .r (.val .bool)], .one .bool, fun x => F.spec_l3List x.1 x.2.1 x.2.2.1 x.2.2.2.1⟩
def L.spec_l3List : Loops := lookL [(4, ⟨[.pat 0 (.val (.sl false 3 (.int .i64))), .pat 1 (.val (.int .i64)), .pat 2 (.val (.int .i64)), .pat 3 (.val .bool), .pat 9 (.val (.int .i64))], 0⟩)]
noncomputable def K.spec_l3List : Cons := lookK [(136, [], C.spec_l1In)]
theorem run.spec_l3List : ∀ x, runF tb K.spec_l3List L.spec_l3List [] Tryz.f152 C.spec_l3List x = C.spec_l3List.fn x := fun x => by kernel_rfl

/-! ### spec.SketchOk: function 112 -/
noncomputable def F.spec_SketchOk (a0 : DSketch) : Option Bool :=
  (F.spec_l1In a0.1 0 1000000000).bind fun r1 =>
  bif !r1 then
    some false
  else
  (F.spec_l1In a0.2.1 0 1000000000).bind fun r2 =>
  bif !r2 then
    some false
  else
  (F.spec_l1In a0.2.2.1 0 1000000).bind fun r3 =>
  bif !r3 then
    some false
  else
  (F.spec_l1In a0.2.2.2.1 0 1000000).bind fun r4 =>
  bif !r4 then
    some false
  else
  bif decide (a0.2.2.1 > a0.2.2.2.1) then
    some false
  else
  bif (len a0.2.2.2.2.2.2.1) != 2 then
    some false
  else
  bif a0.1 == 0 then
    bif a0.2.1 != 0 then
      some false
    else
    bif a0.2.2.2.1 != 0 then
      some false
    else
    (F.spec_l3List a0.2.2.2.2.1 8 1000000000 (a0.1 == 0)).bind fun r5 =>
    bif r5 then
      (F.spec_l3List a0.2.2.2.2.2.1 8 17 (a0.1 == 0)).bind fun r6 =>
      bif r6 then
        chk (inb 0 (List.length a0.2.2.2.2.2.2.1)) <|
        (F.spec_l3List (List.getD a0.2.2.2.2.2.2.1 0 (([] : List Int))) 4 1000000000 (a0.1 == 0)).bind fun r7 =>
        bif r7 then
          chk (inb 1 (List.length a0.2.2.2.2.2.2.1)) <|
          (F.spec_l3List (List.getD a0.2.2.2.2.2.2.1 1 (([] : List Int))) 4 1000000000 (a0.1 == 0)).bind fun r8 =>
          some r8
        else
          some false
      else
        some false
    else
      some false
  else
  (F.spec_l3List a0.2.2.2.2.1 8 1000000000 (a0.1 == 0)).bind fun r9 =>
  bif r9 then
    (F.spec_l3List a0.2.2.2.2.2.1 8 17 (a0.1 == 0)).bind fun r10 =>
    bif r10 then
      chk (inb 0 (List.length a0.2.2.2.2.2.2.1)) <|
      (F.spec_l3List (List.getD a0.2.2.2.2.2.2.1 0 (([] : List Int))) 4 1000000000 (a0.1 == 0)).bind fun r11 =>
      bif r11 then
        chk (inb 1 (List.length a0.2.2.2.2.2.2.1)) <|
        (F.spec_l3List (List.getD a0.2.2.2.2.2.2.1 1 (([] : List Int))) 4 1000000000 (a0.1 == 0)).bind fun r12 =>
        some r12
      else
        some false
    else
      some false
  else
    some false
noncomputable def C.spec_SketchOk : Con := ⟨[.r (.val y2)], .one .bool, fun x => F.spec_SketchOk x.1⟩
def L.spec_SketchOk : Loops := fun _ => none
noncomputable def K.spec_SketchOk : Cons := lookK [(136, [], C.spec_l1In), (152, [], C.spec_l3List)]
theorem run.spec_SketchOk : ∀ x, runF tb K.spec_SketchOk L.spec_SketchOk [] Tryz.f112 C.spec_SketchOk x = C.spec_SketchOk.fn x := fun x => by kernel_rfl

/-! ### spec.l1Min: function 154 -/
noncomputable def F.spec_l1Min (a0 : Int) (a1 : Int) : Option Int :=
  bif decide (a0 < a1) then
    some a0
  else
    some a1
noncomputable def C.spec_l1Min : Con := ⟨[.r (.val (.int .i64)), .r (.val (.int .i64))], .one (.int .i64), fun x => F.spec_l1Min x.1 x.2.1⟩
def L.spec_l1Min : Loops := fun _ => none
noncomputable def K.spec_l1Min : Cons := lookK []
theorem run.spec_l1Min : ∀ x, runF tb K.spec_l1Min L.spec_l1Min [] Tryz.f154 C.spec_l1Min x = C.spec_l1Min.fn x := fun x => by kernel_rfl

/-! ### spec.l1Max: function 79 -/
noncomputable def F.spec_l1Max (a0 : Int) (a1 : Int) : Option Int :=
  bif decide (a0 > a1) then
    some a0
  else
    some a1
noncomputable def C.spec_l1Max : Con := ⟨[.r (.val (.int .i64)), .r (.val (.int .i64))], .one (.int .i64), fun x => F.spec_l1Max x.1 x.2.1⟩
def L.spec_l1Max : Loops := fun _ => none
noncomputable def K.spec_l1Max : Cons := lookK []
theorem run.spec_l1Max : ∀ x, runF tb K.spec_l1Max L.spec_l1Max [] Tryz.f79 C.spec_l1Max x = C.spec_l1Max.fn x := fun x => by kernel_rfl

/-! ### spec.l2Clip: function 164 -/
noncomputable def F.spec_l2Clip (a0 : Int) (a1 : Int) : Option Int :=
  (F.spec_l1Min a0 a1).bind fun r1 =>
  (F.spec_l1Max 0 r1).bind fun r2 =>
  some r2
noncomputable def C.spec_l2Clip : Con := ⟨[.r (.val (.int .i64)), .r (.val (.int .i64))], .one (.int .i64), fun x => F.spec_l2Clip x.1 x.2.1⟩
def L.spec_l2Clip : Loops := fun _ => none
noncomputable def K.spec_l2Clip : Cons := lookK [(79, [], C.spec_l1Max), (154, [], C.spec_l1Min)]
theorem run.spec_l2Clip : ∀ x, runF tb K.spec_l2Clip L.spec_l2Clip [] Tryz.f164 C.spec_l2Clip x = C.spec_l2Clip.fn x := fun x => by kernel_rfl

/-! ### spec.Add: function 153 -/
noncomputable def F.spec_Add (a0 : Int) (a1 : Int) : Option Int :=
  (F.spec_l2Clip a0 1000000000).bind fun r1 =>
  (F.spec_l2Clip a1 1000000000).bind fun r2 =>
  (F.spec_l1Min (w64 (r1 + r2)) 1000000000).bind fun r3 =>
  some r3
noncomputable def C.spec_Add : Con := ⟨[.r (.val (.int .i64)), .r (.val (.int .i64))], .one (.int .i64), fun x => F.spec_Add x.1 x.2.1⟩
def L.spec_Add : Loops := fun _ => none
noncomputable def K.spec_Add : Cons := lookK [(154, [], C.spec_l1Min), (164, [], C.spec_l2Clip)]
theorem run.spec_Add : ∀ x, runF tb K.spec_Add L.spec_Add [] Tryz.f153 C.spec_Add x = C.spec_Add.fn x := fun x => by kernel_rfl

/-! ### spec.BucketOf: function 169 -/
noncomputable def F.spec_BucketOf.s3 : (Int × Int × Unit) → Option (Lp (Int × Int × Unit) Int) := fun (x2, x3, _) =>
  bif decide (x2 > 0) then
    some (.again (w64 (Int.tdiv x2 2), w64 (x3 + 1), ()))
  else
    some (.exit (x2, x3, ()))
noncomputable def F.spec_BucketOf (a0 : Int) : Option Int :=
  (F.spec_l2Clip a0 1000000).bind fun r1 =>
  afterO (loopO F.spec_BucketOf.s3 (r1, 0, ())) fun (x4, x5, _) =>
  some (w64 (Int.tdiv (w64 (x5 + 2)) 3))
noncomputable def C.spec_BucketOf : Con := ⟨[.r (.val (.int .i64))], .one (.int .i64), fun x => F.spec_BucketOf x.1⟩
def L.spec_BucketOf : Loops := lookL [(3, ⟨[.pat 3 (.val (.int .i64)), .pat 4 (.val (.int .i64))], 0⟩)]
noncomputable def K.spec_BucketOf : Cons := lookK [(164, [], C.spec_l2Clip)]
theorem run.spec_BucketOf : ∀ x, runF tb K.spec_BucketOf L.spec_BucketOf [] Tryz.f169 C.spec_BucketOf x = C.spec_BucketOf.fn x := fun x => by kernel_rfl

/-! ### spec.Mix: function 170 -/
noncomputable def F.spec_Mix (a0 : Int) : Option Int :=
  (F.spec_l2Clip a0 1000000).bind fun r1 =>
  some (ibits .xor .i64 (Int.tmod (w64 ((w64 (r1 * 40503)) + 12345)) 65536) (w64 (Int.tdiv (Int.tmod (w64 ((w64 (r1 * 40503)) + 12345)) 65536) 256)))
noncomputable def C.spec_Mix : Con := ⟨[.r (.val (.int .i64))], .one (.int .i64), fun x => F.spec_Mix x.1⟩
def L.spec_Mix : Loops := fun _ => none
noncomputable def K.spec_Mix : Cons := lookK [(164, [], C.spec_l2Clip)]
theorem run.spec_Mix : ∀ x, runF tb K.spec_Mix L.spec_Mix [] Tryz.f170 C.spec_Mix x = C.spec_Mix.fn x := fun x => by kernel_rfl

/-! ### spec.RankOf: function 171 -/
noncomputable def F.spec_RankOf.s5 : (Int × Int × Unit) → Option (Lp (Int × Int × Unit) Int) := fun (x2, x3, _) =>
  bif (Int.tmod x2 2) == 0 then
    some (.again (w64 (Int.tdiv x2 2), w64 (x3 + 1), ()))
  else
    some (.exit (x2, x3, ()))
noncomputable def F.spec_RankOf (a0 : Int) : Option Int :=
  (F.spec_Mix a0).bind fun r1 =>
  bif r1 == 0 then
    some 17
  else
  afterO (loopO F.spec_RankOf.s5 (r1, 1, ())) fun (x4, x5, _) =>
  some x5
noncomputable def C.spec_RankOf : Con := ⟨[.r (.val (.int .i64))], .one (.int .i64), fun x => F.spec_RankOf x.1⟩
def L.spec_RankOf : Loops := lookL [(5, ⟨[.pat 3 (.val (.int .i64)), .pat 4 (.val (.int .i64))], 0⟩)]
noncomputable def K.spec_RankOf : Cons := lookK [(170, [], C.spec_Mix)]
theorem run.spec_RankOf : ∀ x, runF tb K.spec_RankOf L.spec_RankOf [] Tryz.f171 C.spec_RankOf x = C.spec_RankOf.fn x := fun x => by kernel_rfl

/-! ### spec.Insert: function 162 -/
noncomputable def F.spec_Insert.s14 : (Int × Int × DSketch × DSketch × Unit) → Option (Lp (Int × Int × DSketch × DSketch × Unit) (DSketch × Bool)) := fun (x14, x15, x16, x17, _) =>
  bif decide (x15 < 2) then
    (F.spec_Mix x14).bind fun r18 =>
    chk (inb x15 (List.length x17.2.2.2.2.2.2.1)) <|
    chk (inb x15 (List.length x17.2.2.2.2.2.2.1)) <|
    chk (inb (Int.tmod (w64 (r18 + x15)) 4) (List.length (List.getD x17.2.2.2.2.2.2.1 ((Int.toNat x15)) (([] : List Int))))) <|
    (F.spec_Add (List.getD (List.getD x17.2.2.2.2.2.2.1 ((Int.toNat x15)) (([] : List Int))) ((Int.toNat (Int.tmod (w64 (r18 + x15)) 4))) 0) 1).bind fun r19 =>
    chk (inb (Int.tmod (w64 (r18 + x15)) 4) (List.length (List.getD x17.2.2.2.2.2.2.1 ((Int.toNat x15)) (([] : List Int))))) <|
    (some (List.set x17.2.2.2.2.2.2.1 ((Int.toNat x15)) (List.set (List.getD x17.2.2.2.2.2.2.1 ((Int.toNat x15)) (([] : List Int))) ((Int.toNat (Int.tmod (w64 (r18 + x15)) 4))) r19))).bind fun r20 =>
    some (.again (x14, w64 (x15 + 1), x16, (x17.1, x17.2.1, x17.2.2.1, x17.2.2.2.1, x17.2.2.2.2.1, x17.2.2.2.2.2.1, r20, x17.2.2.2.2.2.2.2), ()))
  else
    some (.exit (x14, x15, x16, x17, ()))
noncomputable def F.spec_Insert (a0 : DSketch) (a1 : Int) : Option (DSketch × Bool) :=
  (F.spec_l3Copy a0).bind fun r1 =>
  (F.spec_SketchOk a0).bind fun r2 =>
  bif !r2 then
    some (r1, false)
  else
  (F.spec_l1In a1 0 1000000).bind fun r3 =>
  bif !r3 then
    some (r1, false)
  else
  (F.spec_Add a0.1 1).bind fun r4 =>
  (F.spec_Add a0.2.1 a1).bind fun r5 =>
  (F.spec_l1Min a0.2.2.1 a1).bind fun r6 =>
  bif a0.1 == 0 then
    (F.spec_l1Max a0.2.2.2.1 a1).bind fun r7 =>
    (F.spec_BucketOf a1).bind fun r8 =>
    (F.spec_BucketOf a1).bind fun r9 =>
    chk (inb r9 (List.length r1.2.2.2.2.1)) <|
    (F.spec_Add (List.getD r1.2.2.2.2.1 ((Int.toNat r9)) 0) 1).bind fun r10 =>
    chk (inb r8 (List.length r1.2.2.2.2.1)) <|
    (F.spec_Mix a1).bind fun r11 =>
    chk (inb (Int.tmod r11 8) (List.length r1.2.2.2.2.2.1)) <|
    (F.spec_RankOf a1).bind fun r12 =>
    (F.spec_l1Max (List.getD r1.2.2.2.2.2.1 ((Int.toNat (Int.tmod r11 8))) 0) r12).bind fun r13 =>
    chk (inb (Int.tmod r11 8) (List.length r1.2.2.2.2.2.1)) <|
    afterO (loopO F.spec_Insert.s14 (a1, 0, (0, 0, 0, 0, ([] : List Int), ([] : List Int), ([] : List (List Int)), ()), (r4, r5, a1, r7, List.set r1.2.2.2.2.1 ((Int.toNat r8)) r10, List.set r1.2.2.2.2.2.1 ((Int.toNat (Int.tmod r11 8))) r13, r1.2.2.2.2.2.2), ())) fun (x21, x22, x23, x24, _) =>
    some (x24, true)
  else
  (F.spec_l1Max a0.2.2.2.1 a1).bind fun r25 =>
  (F.spec_BucketOf a1).bind fun r26 =>
  (F.spec_BucketOf a1).bind fun r27 =>
  chk (inb r27 (List.length r1.2.2.2.2.1)) <|
  (F.spec_Add (List.getD r1.2.2.2.2.1 ((Int.toNat r27)) 0) 1).bind fun r28 =>
  chk (inb r26 (List.length r1.2.2.2.2.1)) <|
  (F.spec_Mix a1).bind fun r29 =>
  chk (inb (Int.tmod r29 8) (List.length r1.2.2.2.2.2.1)) <|
  (F.spec_RankOf a1).bind fun r30 =>
  (F.spec_l1Max (List.getD r1.2.2.2.2.2.1 ((Int.toNat (Int.tmod r29 8))) 0) r30).bind fun r31 =>
  chk (inb (Int.tmod r29 8) (List.length r1.2.2.2.2.2.1)) <|
  afterO (loopO F.spec_Insert.s14 (a1, 0, (0, 0, 0, 0, ([] : List Int), ([] : List Int), ([] : List (List Int)), ()), (r4, r5, r6, r25, List.set r1.2.2.2.2.1 ((Int.toNat r26)) r28, List.set r1.2.2.2.2.2.1 ((Int.toNat (Int.tmod r29 8))) r31, r1.2.2.2.2.2.2), ())) fun (x39, x40, x41, x42, _) =>
  some (x42, true)
noncomputable def C.spec_Insert : Con := ⟨[.r (.val y2), .r (.val (.int .i64))], .many [y1, .bool], fun x => F.spec_Insert x.1 x.2.1⟩
def L.spec_Insert : Loops := lookL [(14, ⟨[.pat 1 (.val (.int .i64)), .pat 8 (.val (.int .i64)), .root 4 true y1 [4], .root 6 true y1 [6]], 0⟩)]
noncomputable def K.spec_Insert : Cons := lookK [(79, [], C.spec_l1Max), (112, [], C.spec_SketchOk), (115, [], C.spec_l3Copy), (136, [], C.spec_l1In), (153, [], C.spec_Add), (154, [], C.spec_l1Min), (169, [], C.spec_BucketOf), (170, [], C.spec_Mix), (171, [], C.spec_RankOf)]
theorem run.spec_Insert : ∀ x, runF tb K.spec_Insert L.spec_Insert [] Tryz.f162 C.spec_Insert x = C.spec_Insert.fn x := fun x => by kernel_rfl

/-! ### spec.Sketched: function 145 -/
noncomputable def F.spec_Sketched.s3 : ((List Int) × Int × DSketch × DSketch × Unit) → Option (Lp ((List Int) × Int × DSketch × DSketch × Unit) DSketch) := fun (x2, x3, x4, x5, _) =>
  bif decide (x3 < (len x2)) then
    chk (inb x3 (List.length x2)) <|
    (F.spec_Insert x5 (List.getD x2 ((Int.toNat x3)) 0)).bind fun r6 =>
    some (.again (x2, w64 (x3 + 1), x4, r6.1, ()))
  else
    some (.exit (x2, x3, x4, x5, ()))
noncomputable def F.spec_Sketched (a0 : List Int) : Option DSketch :=
  (F.spec_SketchNew).bind fun r1 =>
  afterO (loopO F.spec_Sketched.s3 (a0, 0, (0, 0, 0, 0, ([] : List Int), ([] : List Int), ([] : List (List Int)), ()), r1, ())) fun (x7, x8, x9, x10, _) =>
  some x10
noncomputable def C.spec_Sketched : Con := ⟨[.r (.val (.sl false 3 (.int .i64)))], .one y1, fun x => F.spec_Sketched x.1⟩
def L.spec_Sketched : Loops := lookL [(3, ⟨[.pat 0 (.val (.sl false 3 (.int .i64))), .pat 4 (.val (.int .i64)), .root 2 true y1 [2], .root 3 true y1 [3]], 0⟩)]
noncomputable def K.spec_Sketched : Cons := lookK [(161, [], C.spec_SketchNew), (162, [], C.spec_Insert)]
theorem run.spec_Sketched : ∀ x, runF tb K.spec_Sketched L.spec_Sketched [] Tryz.f145 C.spec_Sketched x = C.spec_Sketched.fn x := fun x => by kernel_rfl

/-! ### spec.l6Right: function 96 -/
noncomputable def F.spec_l6Right (a0 : DL1Cur) : Option (DItem × DL1Cur) :=
  (F.spec_l1Below a0 8).bind fun r1 =>
  (F.spec_l1Below r1.2 2).bind fun r2 =>
  (F.spec_l1Below r2.2 2).bind fun r3 =>
  (F.spec_l1Below r3.2 3).bind fun r4 =>
  (F.spec_l3Values r4.2).bind fun r5 =>
  (F.spec_Sketched r5.1).bind fun r6 =>
  some ((w64 (1 + r1.1), r2.1, r3.1, r4.1, r6, ()), r5.2)
noncomputable def C.spec_l6Right : Con := ⟨[.p y0 y0], .one y3, fun x => F.spec_l6Right x.1⟩
def L.spec_l6Right : Loops := fun _ => none
noncomputable def K.spec_l6Right : Cons := lookK [(94, [], C.spec_l1Below), (145, [], C.spec_Sketched), (146, [], C.spec_l3Values)]
theorem run.spec_l6Right : ∀ x, runF tb K.spec_l6Right L.spec_l6Right [0] Tryz.f96 C.spec_l6Right x = C.spec_l6Right.fn x := fun x => by kernel_rfl

/-! ### spec.l6Agent: function 135 -/
noncomputable def F.spec_l6Agent (a0 : Int) : Option Bool :=
  (F.spec_l1In a0 0 2).bind fun r1 =>
  some r1
noncomputable def C.spec_l6Agent : Con := ⟨[.r (.val (.int .i64))], .one .bool, fun x => F.spec_l6Agent x.1⟩
def L.spec_l6Agent : Loops := fun _ => none
noncomputable def K.spec_l6Agent : Cons := lookK [(136, [], C.spec_l1In)]
theorem run.spec_l6Agent : ∀ x, runF tb K.spec_l6Agent L.spec_l6Agent [] Tryz.f135 C.spec_l6Agent x = C.spec_l6Agent.fn x := fun x => by kernel_rfl

/-! ### spec.IdOf: function 144 -/
noncomputable def F.spec_IdOf (a0 : Int) (a1 : Int) : Option Int :=
  (F.spec_l6Agent a0).bind fun r1 =>
  bif !r1 then
    some (-1)
  else
  (F.spec_l1In a1 1 60).bind fun r2 =>
  bif !r2 then
    some (-1)
  else
    some (w64 ((w64 (100 * a0)) + a1))
noncomputable def C.spec_IdOf : Con := ⟨[.r (.val (.int .i64)), .r (.val (.int .i64))], .one (.int .i64), fun x => F.spec_IdOf x.1 x.2.1⟩
def L.spec_IdOf : Loops := fun _ => none
noncomputable def K.spec_IdOf : Cons := lookK [(135, [], C.spec_l6Agent), (136, [], C.spec_l1In)]
theorem run.spec_IdOf : ∀ x, runF tb K.spec_IdOf L.spec_IdOf [] Tryz.f144 C.spec_IdOf x = C.spec_IdOf.fn x := fun x => by kernel_rfl

/-! ### spec.l6Place: function 110 -/
noncomputable def F.spec_l6Place (a0 : Int) (a1 : Int) : Option Bool :=
  (F.spec_l1In a0 0 4).bind fun r1 =>
  bif r1 then
    (F.spec_l1In a1 0 20).bind fun r2 =>
    some r2
  else
    some false
noncomputable def C.spec_l6Place : Con := ⟨[.r (.val (.int .i64)), .r (.val (.int .i64))], .one .bool, fun x => F.spec_l6Place x.1 x.2.1⟩
def L.spec_l6Place : Loops := fun _ => none
noncomputable def K.spec_l6Place : Cons := lookK [(136, [], C.spec_l1In)]
theorem run.spec_l6Place : ∀ x, runF tb K.spec_l6Place L.spec_l6Place [] Tryz.f110 C.spec_l6Place x = C.spec_l6Place.fn x := fun x => by kernel_rfl

/-! ### spec.ItemOk: function 137 -/
noncomputable def F.spec_ItemOk (a0 : DItem) : Option Bool :=
  (F.spec_l1In a0.1 1 60).bind fun r1 =>
  bif r1 then
    (F.spec_l1In a0.2.1 0 1).bind fun r2 =>
    bif r2 then
      (F.spec_l6Place a0.2.2.1 a0.2.2.2.1).bind fun r3 =>
      bif r3 then
        (F.spec_SketchOk a0.2.2.2.2.1).bind fun r4 =>
        some r4
      else
        some false
    else
      some false
  else
    some false
noncomputable def C.spec_ItemOk : Con := ⟨[.r (.val y4)], .one .bool, fun x => F.spec_ItemOk x.1⟩
def L.spec_ItemOk : Loops := fun _ => none
noncomputable def K.spec_ItemOk : Cons := lookK [(110, [], C.spec_l6Place), (112, [], C.spec_SketchOk), (136, [], C.spec_l1In)]
theorem run.spec_ItemOk : ∀ x, runF tb K.spec_ItemOk L.spec_ItemOk [] Tryz.f137 C.spec_ItemOk x = C.spec_ItemOk.fn x := fun x => by kernel_rfl

/-! ### spec.EntryOf: function 95 -/
noncomputable def F.spec_EntryOf (a0 : Int) (a1 : DItem) : Option (DEntry × Bool) :=
  (F.spec_IdOf a0 a1.1).bind fun r1 =>
  (F.spec_ItemOk a1).bind fun r2 =>
  bif !r2 then
    some ((0, 0, ([] : List DSpan), (0, 0, 0, 0, ([] : List Int), ([] : List Int), ([] : List (List Int)), ()), ()), false)
  else
  bif decide (r1 < 0) then
    some ((0, 0, ([] : List DSpan), (0, 0, 0, 0, ([] : List Int), ([] : List Int), ([] : List (List Int)), ()), ()), false)
  else
  (F.spec_l3Copy a1.2.2.2.2.1).bind fun r3 =>
  some ((a1.2.2.1, a1.2.2.2.1, [(r1, r1, ())], r3, ()), true)
noncomputable def C.spec_EntryOf : Con := ⟨[.r (.val (.int .i64)), .r (.val y4)], .many [y6, .bool], fun x => F.spec_EntryOf x.1 x.2.1⟩
def L.spec_EntryOf : Loops := fun _ => none
noncomputable def K.spec_EntryOf : Cons := lookK [(115, [], C.spec_l3Copy), (137, [], C.spec_ItemOk), (144, [], C.spec_IdOf)]
theorem run.spec_EntryOf : ∀ x, runF tb K.spec_EntryOf L.spec_EntryOf [] Tryz.f95 C.spec_EntryOf x = C.spec_EntryOf.fn x := fun x => by kernel_rfl

/-! ### spec.l1Once: function 40 -/
noncomputable def F.spec_l1Once (a0 : DL1Cur) (a1 : Int) : Option (Bool × DL1Cur) :=
  (F.spec_l1Below a0 a1).bind fun r1 =>
  some (r1.1 == 0, r1.2)
noncomputable def C.spec_l1Once : Con := ⟨[.p y0 y0, .r (.val (.int .i64))], .one .bool, fun x => F.spec_l1Once x.1 x.2.1⟩
def L.spec_l1Once : Loops := fun _ => none
noncomputable def K.spec_l1Once : Cons := lookK [(94, [], C.spec_l1Below)]
theorem run.spec_l1Once : ∀ x, runF tb K.spec_l1Once L.spec_l1Once [0] Tryz.f40 C.spec_l1Once x = C.spec_l1Once.fn x := fun x => by kernel_rfl

/-! ### spec.l5Copy: function 114 -/
noncomputable def F.spec_l5Copy (a0 : List DSpan) : Option ((List DSpan)) :=
  chk (fits (List.length (([] : List DSpan)) + List.length a0) 16) <|
  some ((([] : List DSpan)) ++ a0)
noncomputable def C.spec_l5Copy : Con := ⟨[.r (.val (.sl false 102 y5))], .one (.sl true 102 y5), fun x => F.spec_l5Copy x.1⟩
def L.spec_l5Copy : Loops := fun _ => none
noncomputable def K.spec_l5Copy : Cons := lookK []
theorem run.spec_l5Copy : ∀ x, runF tb K.spec_l5Copy L.spec_l5Copy [] Tryz.f114 C.spec_l5Copy x = C.spec_l5Copy.fn x := fun x => by kernel_rfl

/-! ### spec.l6Copy: function 51 -/
noncomputable def F.spec_l6Copy (a0 : DEntry) : Option DEntry :=
  (F.spec_l5Copy a0.2.2.1).bind fun r1 =>
  (F.spec_l3Copy a0.2.2.2.1).bind fun r2 =>
  some (a0.1, a0.2.1, r1, r2, ())
noncomputable def C.spec_l6Copy : Con := ⟨[.r (.val y7)], .one y6, fun x => F.spec_l6Copy x.1⟩
def L.spec_l6Copy : Loops := fun _ => none
noncomputable def K.spec_l6Copy : Cons := lookK [(114, [], C.spec_l5Copy), (115, [], C.spec_l3Copy)]
theorem run.spec_l6Copy : ∀ x, runF tb K.spec_l6Copy L.spec_l6Copy [] Tryz.f51 C.spec_l6Copy x = C.spec_l6Copy.fn x := fun x => by kernel_rfl

/-! ### spec.l10Copy: function 46 -/
noncomputable def F.spec_l10Copy.s3 : (Int × DRow × DRow × DRow × Unit) → Option (Lp (Int × DRow × DRow × DRow × Unit) DRow) := fun (x1, x2, x3, x4, _) =>
  bif decide (x1 < (len x2.1)) then
    chk (inb x1 (List.length x2.1)) <|
    (F.spec_l6Copy (List.getD x2.1 ((Int.toNat x1)) ((0, 0, ([] : List DSpan), (0, 0, 0, 0, ([] : List Int), ([] : List Int), ([] : List (List Int)), ()), ())))).bind fun r5 =>
    chk (fits (List.length x4.1 + List.length ([r5])) 144) <|
    some (.again (w64 (x1 + 1), x2, x3, (x4.1 ++ ([r5]), x4.2), ()))
  else
    some (.exit (x1, x2, x3, x4, ()))
noncomputable def F.spec_l10Copy (a0 : DRow) : Option DRow :=
  afterO (loopO F.spec_l10Copy.s3 (0, a0, (([] : List DEntry), ()), (([] : List DEntry), ()), ())) fun (x6, x7, x8, x9, _) =>
  some x9
noncomputable def C.spec_l10Copy : Con := ⟨[.r (.val (.cons (.sl false 33 y7) .nil))], .one (.cons (.sl true 33 y6) .nil), fun x => F.spec_l10Copy x.1⟩
def L.spec_l10Copy : Loops := lookL [(3, ⟨[.pat 4 (.val (.int .i64)), .root 1 true (.cons (.sl false 33 y7) .nil) [1], .root 2 true (.cons (.sl true 33 y6) .nil) [2], .root 3 true (.cons (.sl true 33 y6) .nil) [3]], 0⟩)]
noncomputable def K.spec_l10Copy : Cons := lookK [(51, [], C.spec_l6Copy)]
theorem run.spec_l10Copy : ∀ x, runF tb K.spec_l10Copy L.spec_l10Copy [] Tryz.f46 C.spec_l10Copy x = C.spec_l10Copy.fn x := fun x => by kernel_rfl

/-! ### spec.SetOk: function 111 -/
noncomputable def F.spec_SetOk.s2 : ((List DSpan) × Int × Unit) → Option (Lp ((List DSpan) × Int × Unit) Bool) := fun (x1, x2, _) =>
  bif decide (x2 < (len x1)) then
    chk (inb x2 (List.length x1)) <|
    (F.spec_l1In ((List.getD x1 ((Int.toNat x2)) ((0, 0, ()))).1) 0 9999).bind fun r3 =>
    bif !r3 then
      some (.ret false)
    else
    chk (inb x2 (List.length x1)) <|
    chk (inb x2 (List.length x1)) <|
    (F.spec_l1In (((List.getD x1 ((Int.toNat x2)) ((0, 0, ()))).2).1) ((List.getD x1 ((Int.toNat x2)) ((0, 0, ()))).1) 9999).bind fun r4 =>
    bif !r4 then
      some (.ret false)
    else
    bif decide (x2 > 0) then
      chk (inb x2 (List.length x1)) <|
      chk (inb (w64 (x2 - 1)) (List.length x1)) <|
      bif decide (((List.getD x1 ((Int.toNat x2)) ((0, 0, ()))).1) ≤ (w64 ((((List.getD x1 ((Int.toNat (w64 (x2 - 1)))) ((0, 0, ()))).2).1) + 1))) then
        some (.ret false)
      else
        some (.again (x1, w64 (x2 + 1), ()))
    else
      some (.again (x1, w64 (x2 + 1), ()))
  else
    some (.exit (x1, x2, ()))
noncomputable def F.spec_SetOk (a0 : List DSpan) : Option Bool :=
  afterO (loopO F.spec_SetOk.s2 (a0, 0, ())) fun (x5, x6, _) =>
  some true
noncomputable def C.spec_SetOk : Con := ⟨[.r (.val (.sl false 102 y5))], .one .bool, fun x => F.spec_SetOk x.1⟩
def L.spec_SetOk : Loops := lookL [(2, ⟨[.pat 0 (.val (.sl false 102 y5)), .pat 3 (.val (.int .i64))], 0⟩)]
noncomputable def K.spec_SetOk : Cons := lookK [(136, [], C.spec_l1In)]
theorem run.spec_SetOk : ∀ x, runF tb K.spec_SetOk L.spec_SetOk [] Tryz.f111 C.spec_SetOk x = C.spec_SetOk.fn x := fun x => by kernel_rfl

/-! ### spec.EntryOk: function 48 -/
noncomputable def F.spec_EntryOk (a0 : DEntry) : Option Bool :=
  (F.spec_l6Place a0.1 a0.2.1).bind fun r1 =>
  bif r1 then
    bif decide ((len a0.2.2.1) > 0) then
      (F.spec_SetOk a0.2.2.1).bind fun r2 =>
      bif r2 then
        (F.spec_SketchOk a0.2.2.2.1).bind fun r3 =>
        some r3
      else
        some false
    else
      some false
  else
    some false
noncomputable def C.spec_EntryOk : Con := ⟨[.r (.val y7)], .one .bool, fun x => F.spec_EntryOk x.1⟩
def L.spec_EntryOk : Loops := fun _ => none
noncomputable def K.spec_EntryOk : Cons := lookK [(110, [], C.spec_l6Place), (111, [], C.spec_SetOk), (112, [], C.spec_SketchOk)]
theorem run.spec_EntryOk : ∀ x, runF tb K.spec_EntryOk L.spec_EntryOk [] Tryz.f48 C.spec_EntryOk x = C.spec_EntryOk.fn x := fun x => by kernel_rfl

/-! ### spec.SetApart: function 109 -/
noncomputable def F.spec_SetApart.s7 : ((List DSpan) × (List DSpan) × Int × Int × Unit) → Option (Lp ((List DSpan) × (List DSpan) × Int × Int × Unit) (Lp ((List DSpan) × (List DSpan) × Int × Unit) Bool)) := fun (x6, x7, x8, x9, _) =>
  bif decide (x9 < (len x7)) then
    chk (inb x8 (List.length x6)) <|
    chk (inb x9 (List.length x7)) <|
    bif decide (((List.getD x6 ((Int.toNat x8)) ((0, 0, ()))).1) ≤ (((List.getD x7 ((Int.toNat x9)) ((0, 0, ()))).2).1)) then
      chk (inb x9 (List.length x7)) <|
      chk (inb x8 (List.length x6)) <|
      bif decide (((List.getD x7 ((Int.toNat x9)) ((0, 0, ()))).1) ≤ (((List.getD x6 ((Int.toNat x8)) ((0, 0, ()))).2).1)) then
        some (.ret (.ret false))
      else
        some (.again (x6, x7, x8, w64 (x9 + 1), ()))
    else
      some (.again (x6, x7, x8, w64 (x9 + 1), ()))
  else
    some (.exit (x6, x7, x8, x9, ()))
noncomputable def F.spec_SetApart.s4 : ((List DSpan) × (List DSpan) × Int × Unit) → Option (Lp ((List DSpan) × (List DSpan) × Int × Unit) Bool) := fun (x3, x4, x5, _) =>
  bif decide (x5 < (len x3)) then
    afterO (loopO F.spec_SetApart.s7 (x3, x4, x5, 0, ())) fun (x10, x11, x12, x13, _) =>
    some (.again (x10, x11, w64 (x12 + 1), ()))
  else
    some (.exit (x3, x4, x5, ()))
noncomputable def F.spec_SetApart (a0 : List DSpan) (a1 : List DSpan) : Option Bool :=
  (F.spec_SetOk a0).bind fun r1 =>
  bif !r1 then
    some false
  else
  (F.spec_SetOk a1).bind fun r2 =>
  bif !r2 then
    some false
  else
  afterO (loopO F.spec_SetApart.s4 (a0, a1, 0, ())) fun (x14, x15, x16, _) =>
  some true
noncomputable def C.spec_SetApart : Con := ⟨[.r (.val (.sl false 102 y5)), .r (.val (.sl false 102 y5))], .one .bool, fun x => F.spec_SetApart x.1 x.2.1⟩
def L.spec_SetApart : Loops := lookL [(7, ⟨[.pat 0 (.val (.sl false 102 y5)), .pat 1 (.val (.sl false 102 y5)), .pat 5 (.val (.int .i64)), .pat 6 (.val (.int .i64))], 2⟩), (4, ⟨[.pat 0 (.val (.sl false 102 y5)), .pat 1 (.val (.sl false 102 y5)), .pat 5 (.val (.int .i64))], 0⟩)]
noncomputable def K.spec_SetApart : Cons := lookK [(111, [], C.spec_SetOk)]
theorem run.spec_SetApart : ∀ x, runF tb K.spec_SetApart L.spec_SetApart [] Tryz.f109 C.spec_SetApart x = C.spec_SetApart.fn x := fun x => by kernel_rfl

/-! ### spec.RowOk: function 47 -/
noncomputable def F.spec_RowOk.s9 : (Int × Int × DRow × Unit) → Option (Lp (Int × Int × DRow × Unit) (Lp (Int × DRow × Unit) Bool)) := fun (x4, x5, x6, _) =>
  bif decide (x5 < x4) then
    chk (inb x4 (List.length x6.1)) <|
    chk (inb x5 (List.length x6.1)) <|
    (F.spec_SetApart ((((List.getD x6.1 ((Int.toNat x4)) ((0, 0, ([] : List DSpan), (0, 0, 0, 0, ([] : List Int), ([] : List Int), ([] : List (List Int)), ()), ()))).2).2).1) ((((List.getD x6.1 ((Int.toNat x5)) ((0, 0, ([] : List DSpan), (0, 0, 0, 0, ([] : List Int), ([] : List Int), ([] : List (List Int)), ()), ()))).2).2).1)).bind fun r7 =>
    bif !r7 then
      some (.ret (.ret false))
    else
      some (.again (x4, w64 (x5 + 1), x6, ()))
  else
    some (.exit (x4, x5, x6, ()))
noncomputable def F.spec_RowOk.s4 : (Int × DRow × Unit) → Option (Lp (Int × DRow × Unit) Bool) := fun (x1, x2, _) =>
  bif decide (x1 < (len x2.1)) then
    chk (inb x1 (List.length x2.1)) <|
    (F.spec_EntryOk (List.getD x2.1 ((Int.toNat x1)) ((0, 0, ([] : List DSpan), (0, 0, 0, 0, ([] : List Int), ([] : List Int), ([] : List (List Int)), ()), ())))).bind fun r3 =>
    bif !r3 then
      some (.ret false)
    else
    afterO (loopO F.spec_RowOk.s9 (x1, 0, x2, ())) fun (x8, x9, x10, _) =>
    some (.again (w64 (x8 + 1), x10, ()))
  else
    some (.exit (x1, x2, ()))
noncomputable def F.spec_RowOk (a0 : DRow) : Option Bool :=
  bif decide ((len a0.1) > 24) then
    some false
  else
  afterO (loopO F.spec_RowOk.s4 (0, a0, ())) fun (x11, x12, _) =>
  some true
noncomputable def C.spec_RowOk : Con := ⟨[.r (.val (.cons (.sl false 33 y7) .nil))], .one .bool, fun x => F.spec_RowOk x.1⟩
def L.spec_RowOk : Loops := lookL [(9, ⟨[.pat 3 (.val (.int .i64)), .pat 4 (.val (.int .i64)), .root 1 true (.cons (.sl false 33 y7) .nil) [1]], 2⟩), (4, ⟨[.pat 3 (.val (.int .i64)), .root 1 true (.cons (.sl false 33 y7) .nil) [1]], 0⟩)]
noncomputable def K.spec_RowOk : Cons := lookK [(48, [], C.spec_EntryOk), (109, [], C.spec_SetApart)]
theorem run.spec_RowOk : ∀ x, runF tb K.spec_RowOk L.spec_RowOk [] Tryz.f47 C.spec_RowOk x = C.spec_RowOk.fn x := fun x => by kernel_rfl

/-! ### spec.l10Apart: function 49 -/
noncomputable def F.spec_l10Apart.s2 : ((List DSpan) × Int × DRow × Unit) → Option (Lp ((List DSpan) × Int × DRow × Unit) Bool) := fun (x1, x2, x3, _) =>
  bif decide (x2 < (len x3.1)) then
    chk (inb x2 (List.length x3.1)) <|
    (F.spec_SetApart ((((List.getD x3.1 ((Int.toNat x2)) ((0, 0, ([] : List DSpan), (0, 0, 0, 0, ([] : List Int), ([] : List Int), ([] : List (List Int)), ()), ()))).2).2).1) x1).bind fun r4 =>
    bif !r4 then
      some (.ret false)
    else
      some (.again (x1, w64 (x2 + 1), x3, ()))
  else
    some (.exit (x1, x2, x3, ()))
noncomputable def F.spec_l10Apart (a0 : DRow) (a1 : List DSpan) : Option Bool :=
  afterO (loopO F.spec_l10Apart.s2 (a1, 0, a0, ())) fun (x5, x6, x7, _) =>
  some true
noncomputable def C.spec_l10Apart : Con := ⟨[.r (.val (.cons (.sl false 33 y7) .nil)), .r (.val (.sl false 102 y5))], .one .bool, fun x => F.spec_l10Apart x.1 x.2.1⟩
def L.spec_l10Apart : Loops := lookL [(2, ⟨[.pat 1 (.val (.sl false 102 y5)), .pat 5 (.val (.int .i64)), .root 2 true (.cons (.sl false 33 y7) .nil) [2]], 0⟩)]
noncomputable def K.spec_l10Apart : Cons := lookK [(109, [], C.spec_SetApart)]
theorem run.spec_l10Apart : ∀ x, runF tb K.spec_l10Apart L.spec_l10Apart [] Tryz.f49 C.spec_l10Apart x = C.spec_l10Apart.fn x := fun x => by kernel_rfl

/-! ### spec.l5Put: function 139 -/
noncomputable def F.spec_l5Put.s4 : ((List DSpan) × (List DSpan) × Bool × Int × DSpan × Unit) → Option (Lp ((List DSpan) × (List DSpan) × Bool × Int × DSpan × Unit) ((List DSpan))) := fun (x1, x2, x3, x4, x5, _) =>
  bif decide (x4 < (len x1)) then
    chk (inb x4 (List.length x1)) <|
    bif decide ((w64 ((((List.getD x1 ((Int.toNat x4)) ((0, 0, ()))).2).1) + 1)) < x5.1) then
      chk (inb x4 (List.length x1)) <|
      chk (fits (List.length x2 + List.length ([List.getD x1 ((Int.toNat x4)) ((0, 0, ()))])) 16) <|
      some (.again (x1, x2 ++ ([List.getD x1 ((Int.toNat x4)) ((0, 0, ()))]), x3, w64 (x4 + 1), x5, ()))
    else
    chk (inb x4 (List.length x1)) <|
    bif decide (((List.getD x1 ((Int.toNat x4)) ((0, 0, ()))).1) > (w64 (x5.2.1 + 1))) then
      bif !x3 then
        chk (fits (List.length x2 + List.length ([x5])) 16) <|
        chk (inb x4 (List.length x1)) <|
        chk (fits (List.length (x2 ++ ([x5])) + List.length ([List.getD x1 ((Int.toNat x4)) ((0, 0, ()))])) 16) <|
        some (.again (x1, (x2 ++ ([x5])) ++ ([List.getD x1 ((Int.toNat x4)) ((0, 0, ()))]), true, w64 (x4 + 1), x5, ()))
      else
      chk (inb x4 (List.length x1)) <|
      chk (fits (List.length x2 + List.length ([List.getD x1 ((Int.toNat x4)) ((0, 0, ()))])) 16) <|
      some (.again (x1, x2 ++ ([List.getD x1 ((Int.toNat x4)) ((0, 0, ()))]), x3, w64 (x4 + 1), x5, ()))
    else
    chk (inb x4 (List.length x1)) <|
    (F.spec_l1Min x5.1 ((List.getD x1 ((Int.toNat x4)) ((0, 0, ()))).1)).bind fun r6 =>
    chk (inb x4 (List.length x1)) <|
    (F.spec_l1Max x5.2.1 (((List.getD x1 ((Int.toNat x4)) ((0, 0, ()))).2).1)).bind fun r7 =>
    some (.again (x1, x2, x3, w64 (x4 + 1), (r6, r7, ()), ()))
  else
    some (.exit (x1, x2, x3, x4, x5, ()))
noncomputable def F.spec_l5Put (a0 : List DSpan) (a1 : DSpan) : Option ((List DSpan)) :=
  afterO (loopO F.spec_l5Put.s4 (a0, ([] : List DSpan), false, 0, a1, ())) fun (x8, x9, x10, x11, x12, _) =>
  bif !x10 then
    chk (fits (List.length x9 + List.length ([x12])) 16) <|
    some (x9 ++ ([x12]))
  else
    some x9
noncomputable def C.spec_l5Put : Con := ⟨[.r (.val (.sl false 102 y5)), .r (.val y5)], .one (.sl true 102 y5), fun x => F.spec_l5Put x.1 x.2.1⟩
def L.spec_l5Put : Loops := lookL [(4, ⟨[.pat 0 (.val (.sl false 102 y5)), .own 5 (.sl true 102 y5), .pat 6 (.val .bool), .pat 7 (.val (.int .i64)), .root 3 true y5 [3]], 0⟩)]
noncomputable def K.spec_l5Put : Cons := lookK [(79, [], C.spec_l1Max), (154, [], C.spec_l1Min)]
theorem run.spec_l5Put : ∀ x, runF tb K.spec_l5Put L.spec_l5Put [] Tryz.f139 C.spec_l5Put x = C.spec_l5Put.fn x := fun x => by kernel_rfl

/-! ### spec.l5Join: function 78 -/
noncomputable def F.spec_l5Join.s3 : ((List DSpan) × (List DSpan) × Int × Unit) → Option (Lp ((List DSpan) × (List DSpan) × Int × Unit) ((List DSpan))) := fun (x2, x3, x4, _) =>
  bif decide (x4 < (len x2)) then
    chk (inb x4 (List.length x2)) <|
    (F.spec_l5Put x3 (List.getD x2 ((Int.toNat x4)) ((0, 0, ())))).bind fun r5 =>
    some (.again (x2, r5, w64 (x4 + 1), ()))
  else
    some (.exit (x2, x3, x4, ()))
noncomputable def F.spec_l5Join (a0 : List DSpan) (a1 : List DSpan) : Option ((List DSpan)) :=
  (F.spec_l5Copy a0).bind fun r1 =>
  afterO (loopO F.spec_l5Join.s3 (a1, r1, 0, ())) fun (x6, x7, x8, _) =>
  some x7
noncomputable def C.spec_l5Join : Con := ⟨[.r (.val (.sl false 102 y5)), .r (.val (.sl false 102 y5))], .one (.sl true 102 y5), fun x => F.spec_l5Join x.1 x.2.1⟩
def L.spec_l5Join : Loops := lookL [(3, ⟨[.pat 1 (.val (.sl false 102 y5)), .own 5 (.sl true 102 y5), .pat 6 (.val (.int .i64))], 0⟩)]
noncomputable def K.spec_l5Join : Cons := lookK [(114, [], C.spec_l5Copy), (139, [], C.spec_l5Put)]
theorem run.spec_l5Join : ∀ x, runF tb K.spec_l5Join L.spec_l5Join [] Tryz.f78 C.spec_l5Join x = C.spec_l5Join.fn x := fun x => by kernel_rfl

/-! ### spec.l3Sum: function 155 -/
noncomputable def F.spec_l3Sum.s3 : ((List Int) × (List Int) × (List Int) × Int × Unit) → Option (Lp ((List Int) × (List Int) × (List Int) × Int × Unit) ((List Int))) := fun (x1, x2, x3, x4, _) =>
  bif decide (x4 < (len x1)) then
    chk (inb x4 (List.length x1)) <|
    chk (inb x4 (List.length x2)) <|
    (F.spec_Add (List.getD x1 ((Int.toNat x4)) 0) (List.getD x2 ((Int.toNat x4)) 0)).bind fun r5 =>
    chk (fits (List.length x3 + List.length ([r5])) 8) <|
    some (.again (x1, x2, x3 ++ ([r5]), w64 (x4 + 1), ()))
  else
    some (.exit (x1, x2, x3, x4, ()))
noncomputable def F.spec_l3Sum (a0 : List Int) (a1 : List Int) : Option ((List Int)) :=
  afterO (loopO F.spec_l3Sum.s3 (a0, a1, ([] : List Int), 0, ())) fun (x6, x7, x8, x9, _) =>
  some x8
noncomputable def C.spec_l3Sum : Con := ⟨[.r (.val (.sl false 3 (.int .i64))), .r (.val (.sl false 3 (.int .i64)))], .one (.sl true 3 (.int .i64)), fun x => F.spec_l3Sum x.1 x.2.1⟩
def L.spec_l3Sum : Loops := lookL [(3, ⟨[.pat 0 (.val (.sl false 3 (.int .i64))), .pat 1 (.val (.sl false 3 (.int .i64))), .own 5 (.sl true 3 (.int .i64)), .pat 6 (.val (.int .i64))], 0⟩)]
noncomputable def K.spec_l3Sum : Cons := lookK [(153, [], C.spec_Add)]
theorem run.spec_l3Sum : ∀ x, runF tb K.spec_l3Sum L.spec_l3Sum [] Tryz.f155 C.spec_l3Sum x = C.spec_l3Sum.fn x := fun x => by kernel_rfl

/-! ### spec.l3Merge: function 113 -/
noncomputable def F.spec_l3Merge.s7 : (Int × DSketch × DSketch × DSketch × DSketch × Unit) → Option (Lp (Int × DSketch × DSketch × DSketch × DSketch × Unit) DSketch) := fun (x8, x9, x10, x11, x12, _) =>
  bif decide (x8 < 8) then
    chk (inb x8 (List.length x9.2.2.2.2.2.1)) <|
    chk (inb x8 (List.length x10.2.2.2.2.2.1)) <|
    (F.spec_l1Max (List.getD x9.2.2.2.2.2.1 ((Int.toNat x8)) 0) (List.getD x10.2.2.2.2.2.1 ((Int.toNat x8)) 0)).bind fun r13 =>
    chk (fits (List.length x12.2.2.2.2.2.1 + List.length ([r13])) 8) <|
    some (.again (w64 (x8 + 1), x9, x10, x11, (x12.1, x12.2.1, x12.2.2.1, x12.2.2.2.1, x12.2.2.2.2.1, x12.2.2.2.2.2.1 ++ ([r13]), x12.2.2.2.2.2.2), ()))
  else
    some (.exit (x8, x9, x10, x11, x12, ()))
noncomputable def F.spec_l3Merge (a0 : DSketch) (a1 : DSketch) : Option DSketch :=
  (F.spec_Add a0.1 a1.1).bind fun r1 =>
  (F.spec_Add a0.2.1 a1.2.1).bind fun r2 =>
  (F.spec_l1Min a0.2.2.1 a1.2.2.1).bind fun r3 =>
  (F.spec_l1Max a0.2.2.2.1 a1.2.2.2.1).bind fun r4 =>
  (F.spec_l3Sum a0.2.2.2.2.1 a1.2.2.2.2.1).bind fun r5 =>
  chk (inb 0 (List.length a0.2.2.2.2.2.2.1)) <|
  chk (inb 0 (List.length a1.2.2.2.2.2.2.1)) <|
  (F.spec_l3Sum (List.getD a0.2.2.2.2.2.2.1 0 (([] : List Int))) (List.getD a1.2.2.2.2.2.2.1 0 (([] : List Int)))).bind fun r6 =>
  chk (inb 1 (List.length a0.2.2.2.2.2.2.1)) <|
  chk (inb 1 (List.length a1.2.2.2.2.2.2.1)) <|
  (F.spec_l3Sum (List.getD a0.2.2.2.2.2.2.1 1 (([] : List Int))) (List.getD a1.2.2.2.2.2.2.1 1 (([] : List Int)))).bind fun r7 =>
  bif a0.1 == 0 then
    bif a1.1 == 0 then
      afterO (loopO F.spec_l3Merge.s7 (0, a0, a1, (0, 0, 0, 0, ([] : List Int), ([] : List Int), ([] : List (List Int)), ()), (r1, r2, a0.2.2.1, r4, r5, ([] : List Int), [r6, r7], ()), ())) fun (x14, x15, x16, x17, x18, _) =>
      some x18
    else
    afterO (loopO F.spec_l3Merge.s7 (0, a0, a1, (0, 0, 0, 0, ([] : List Int), ([] : List Int), ([] : List (List Int)), ()), (r1, r2, a1.2.2.1, r4, r5, ([] : List Int), [r6, r7], ()), ())) fun (x25, x26, x27, x28, x29, _) =>
    some x29
  else
  bif a1.1 == 0 then
    afterO (loopO F.spec_l3Merge.s7 (0, a0, a1, (0, 0, 0, 0, ([] : List Int), ([] : List Int), ([] : List (List Int)), ()), (r1, r2, a0.2.2.1, r4, r5, ([] : List Int), [r6, r7], ()), ())) fun (x36, x37, x38, x39, x40, _) =>
    some x40
  else
  afterO (loopO F.spec_l3Merge.s7 (0, a0, a1, (0, 0, 0, 0, ([] : List Int), ([] : List Int), ([] : List (List Int)), ()), (r1, r2, r3, r4, r5, ([] : List Int), [r6, r7], ()), ())) fun (x47, x48, x49, x50, x51, _) =>
  some x51
noncomputable def C.spec_l3Merge : Con := ⟨[.r (.val y2), .r (.val y2)], .one y1, fun x => F.spec_l3Merge x.1 x.2.1⟩
def L.spec_l3Merge : Loops := lookL [(7, ⟨[.pat 6 (.val (.int .i64)), .root 2 true y2 [2], .root 3 true y2 [3], .root 4 true y1 [4], .root 5 true y1 [5]], 0⟩)]
noncomputable def K.spec_l3Merge : Cons := lookK [(79, [], C.spec_l1Max), (153, [], C.spec_Add), (154, [], C.spec_l1Min), (155, [], C.spec_l3Sum)]
theorem run.spec_l3Merge : ∀ x, runF tb K.spec_l3Merge L.spec_l3Merge [] Tryz.f113 C.spec_l3Merge x = C.spec_l3Merge.fn x := fun x => by kernel_rfl

/-! ### spec.l6Add: function 50 -/
noncomputable def F.spec_l6Add (a0 : DEntry) (a1 : DEntry) : Option DEntry :=
  (F.spec_l5Join a0.2.2.1 a1.2.2.1).bind fun r1 =>
  (F.spec_l3Merge a0.2.2.2.1 a1.2.2.2.1).bind fun r2 =>
  some (a0.1, a0.2.1, r1, r2, ())
noncomputable def C.spec_l6Add : Con := ⟨[.r (.val y7), .r (.val y7)], .one y6, fun x => F.spec_l6Add x.1 x.2.1⟩
def L.spec_l6Add : Loops := fun _ => none
noncomputable def K.spec_l6Add : Cons := lookK [(78, [], C.spec_l5Join), (113, [], C.spec_l3Merge)]
theorem run.spec_l6Add : ∀ x, runF tb K.spec_l6Add L.spec_l6Add [] Tryz.f50 C.spec_l6Add x = C.spec_l6Add.fn x := fun x => by kernel_rfl

/-! ### spec.RowPush: function 9 -/
noncomputable def F.spec_RowPush.s5 : (Bool × Int × DRow × DEntry × DRow × DRow × Unit) → Option (Lp (Bool × Int × DRow × DEntry × DRow × DRow × Unit) (DRow × Bool)) := fun (x5, x6, x7, x8, x9, x10, _) =>
  bif decide (x6 < (len x10.1)) then
    bif x5 then
      chk (inb x6 (List.length x10.1)) <|
      bif ((List.getD x10.1 ((Int.toNat x6)) ((0, 0, ([] : List DSpan), (0, 0, 0, 0, ([] : List Int), ([] : List Int), ([] : List (List Int)), ()), ()))).1) == x8.1 then
        chk (inb x6 (List.length x10.1)) <|
        bif (((List.getD x10.1 ((Int.toNat x6)) ((0, 0, ([] : List DSpan), (0, 0, 0, 0, ([] : List Int), ([] : List Int), ([] : List (List Int)), ()), ()))).2).1) == x8.2.1 then
          chk (inb x6 (List.length x10.1)) <|
          (F.spec_l6Add (List.getD x10.1 ((Int.toNat x6)) ((0, 0, ([] : List DSpan), (0, 0, 0, 0, ([] : List Int), ([] : List Int), ([] : List (List Int)), ()), ()))) x8).bind fun r11 =>
          chk (inb x6 (List.length x10.1)) <|
          some (.ret ((List.set x10.1 ((Int.toNat x6)) r11, x10.2), true))
        else
          some (.again (x5, w64 (x6 + 1), x7, x8, x9, x10, ()))
      else
        some (.again (x5, w64 (x6 + 1), x7, x8, x9, x10, ()))
    else
      some (.exit (x5, x6, x7, x8, x9, x10, ()))
  else
    some (.exit (x5, x6, x7, x8, x9, x10, ()))
noncomputable def F.spec_RowPush (a0 : DRow) (a1 : DEntry) (a2 : Bool) : Option (DRow × Bool) :=
  (F.spec_l10Copy a0).bind fun r1 =>
  (F.spec_RowOk a0).bind fun r2 =>
  bif !r2 then
    some (r1, false)
  else
  (F.spec_EntryOk a1).bind fun r3 =>
  bif !r3 then
    some (r1, false)
  else
  (F.spec_l10Apart a0 a1.2.2.1).bind fun r4 =>
  bif !r4 then
    some (r1, false)
  else
  afterO (loopO F.spec_RowPush.s5 (a2, 0, a0, a1, (([] : List DEntry), ()), r1, ())) fun (x12, x13, x14, x15, x16, x17, _) =>
  bif (len x14.1) == 24 then
    some (x17, false)
  else
  (F.spec_l6Copy x15).bind fun r18 =>
  chk (fits (List.length x17.1 + List.length ([r18])) 144) <|
  some ((x17.1 ++ ([r18]), x17.2), true)
noncomputable def C.spec_RowPush : Con := ⟨[.r (.val (.cons (.sl false 33 y7) .nil)), .r (.val y7), .r (.val .bool)], .many [(.cons (.sl true 33 y6) .nil), .bool], fun x => F.spec_RowPush x.1 x.2.1 x.2.2.1⟩
def L.spec_RowPush : Loops := lookL [(5, ⟨[.pat 2 (.val .bool), .pat 9 (.val (.int .i64)), .root 3 true (.cons (.sl false 33 y7) .nil) [3], .root 4 true y7 [4], .root 6 true (.cons (.sl true 33 y6) .nil) [6], .root 8 true (.cons (.sl true 33 y6) .nil) [8]], 0⟩)]
noncomputable def K.spec_RowPush : Cons := lookK [(46, [], C.spec_l10Copy), (47, [], C.spec_RowOk), (48, [], C.spec_EntryOk), (49, [], C.spec_l10Apart), (50, [], C.spec_l6Add), (51, [], C.spec_l6Copy)]
theorem run.spec_RowPush : ∀ x, runF tb K.spec_RowPush L.spec_RowPush [] Tryz.f9 C.spec_RowPush x = C.spec_RowPush.fn x := fun x => by kernel_rfl

/-! ### spec.l10Right: function 93 -/
noncomputable def F.spec_l10Right.s5 : (Int × Int × Int × DL1Cur × DRow × DRow × Unit) → Option (Lp (Int × Int × Int × DL1Cur × DRow × DRow × Unit) (DRow × DL1Cur)) := fun (x3, x4, x5, x6, x7, x8, _) =>
  bif decide (x5 < x3) then
    (F.spec_l6Right x6).bind fun r9 =>
    (F.spec_l1Below r9.2 30).bind fun r10 =>
    (F.spec_EntryOf x4 ((w64 (1 + r10.1), r9.1.2))).bind fun r11 =>
    (F.spec_l1Once r10.2 3).bind fun r12 =>
    (F.spec_RowPush x8 r11.1 r12.1).bind fun r13 =>
    some (.again (x3, x4, w64 (x5 + 1), r12.2, x7, r13.1, ()))
  else
    some (.exit (x3, x4, x5, x6, x7, x8, ()))
noncomputable def F.spec_l10Right (a0 : DL1Cur) : Option (DRow × DL1Cur) :=
  (F.spec_l1Below a0 6).bind fun r1 =>
  (F.spec_l1Below r1.2 3).bind fun r2 =>
  afterO (loopO F.spec_l10Right.s5 (r1.1, r2.1, 0, r2.2, (([] : List DEntry), ()), (([] : List DEntry), ()), ())) fun (x14, x15, x16, x17, x18, x19, _) =>
  some (x19, x17)
noncomputable def C.spec_l10Right : Con := ⟨[.p y0 y0], .one (.cons (.sl true 33 y6) .nil), fun x => F.spec_l10Right x.1⟩
def L.spec_l10Right : Loops := lookL [(5, ⟨[.pat 4 (.val (.int .i64)), .pat 5 (.val (.int .i64)), .pat 6 (.val (.int .i64)), .root 0 true y0 [0], .root 2 true (.cons (.sl true 33 y6) .nil) [2], .root 3 true (.cons (.sl true 33 y6) .nil) [3]], 0⟩)]
noncomputable def K.spec_l10Right : Cons := lookK [(9, [], C.spec_RowPush), (40, [], C.spec_l1Once), (94, [], C.spec_l1Below), (95, [], C.spec_EntryOf), (96, [], C.spec_l6Right)]
theorem run.spec_l10Right : ∀ x, runF tb K.spec_l10Right L.spec_l10Right [0] Tryz.f93 C.spec_l10Right x = C.spec_l10Right.fn x := fun x => by kernel_rfl

/-! ### spec.l5Right: function 147 -/
noncomputable def F.spec_l5Right.s4 : ((List DSpan) × Int × Int × DL1Cur × Unit) → Option (Lp ((List DSpan) × Int × Int × DL1Cur × Unit) ((List DSpan) × DL1Cur)) := fun (x2, x3, x4, x5, _) =>
  bif decide (x4 < x3) then
    (F.spec_l1Below x5 20).bind fun r6 =>
    (F.spec_l1Below r6.2 20).bind fun r7 =>
    (F.spec_l1Below r7.2 10).bind fun r8 =>
    (F.spec_l1PickInt r8.2 ([r6.1, r7.1, w64 (9990 + r8.1)])).bind fun r9 =>
    (F.spec_l1Below r9.2 3).bind fun r10 =>
    (F.spec_l1Min (w64 (r9.1 + r10.1)) 9999).bind fun r11 =>
    (F.spec_l5Put x2 ((r9.1, r11, ()))).bind fun r12 =>
    some (.again (r12, x3, w64 (x4 + 1), r10.2, ()))
  else
    some (.exit (x2, x3, x4, x5, ()))
noncomputable def F.spec_l5Right (a0 : DL1Cur) : Option ((List DSpan) × DL1Cur) :=
  (F.spec_l1Below a0 7).bind fun r1 =>
  afterO (loopO F.spec_l5Right.s4 (([] : List DSpan), r1.1, 0, r1.2, ())) fun (x13, x14, x15, x16, _) =>
  some (x13, x16)
noncomputable def C.spec_l5Right : Con := ⟨[.p y0 y0], .one (.sl true 102 y5), fun x => F.spec_l5Right x.1⟩
def L.spec_l5Right : Loops := lookL [(4, ⟨[.own 3 (.sl true 102 y5), .pat 4 (.val (.int .i64)), .pat 5 (.val (.int .i64)), .root 0 true y0 [0]], 0⟩)]
noncomputable def K.spec_l5Right : Cons := lookK [(94, [], C.spec_l1Below), (99, [], C.spec_l1PickInt), (139, [], C.spec_l5Put), (154, [], C.spec_l1Min)]
theorem run.spec_l5Right : ∀ x, runF tb K.spec_l5Right L.spec_l5Right [0] Tryz.f147 C.spec_l5Right x = C.spec_l5Right.fn x := fun x => by kernel_rfl

/-! ### spec.l5Draw: function 97 -/
noncomputable def F.spec_l5Draw (a0 : DL1Cur) : Option ((List DSpan) × DL1Cur) :=
  (F.spec_l5Right a0).bind fun r1 =>
  (F.spec_l1Once r1.2 8).bind fun r2 =>
  bif r2.1 then
    (F.spec_l1PickInt r2.2 ([-1, 3, 10000])).bind fun r3 =>
    (F.spec_l1PickInt r3.2 ([5, 10000, 9223372036854775807])).bind fun r4 =>
    chk (fits (List.length r1.1 + List.length ([(r3.1, r4.1, ())])) 16) <|
    some (r1.1 ++ ([(r3.1, r4.1, ())]), r4.2)
  else
    some (r1.1, r2.2)
noncomputable def C.spec_l5Draw : Con := ⟨[.p y0 y0], .one (.sl true 102 y5), fun x => F.spec_l5Draw x.1⟩
def L.spec_l5Draw : Loops := fun _ => none
noncomputable def K.spec_l5Draw : Cons := lookK [(40, [], C.spec_l1Once), (99, [], C.spec_l1PickInt), (147, [], C.spec_l5Right)]
theorem run.spec_l5Draw : ∀ x, runF tb K.spec_l5Draw L.spec_l5Draw [0] Tryz.f97 C.spec_l5Draw x = C.spec_l5Draw.fn x := fun x => by kernel_rfl

/-! ### spec.l3Right: function 148 -/
noncomputable def F.spec_l3Right (a0 : DL1Cur) : Option (DSketch × DL1Cur) :=
  (F.spec_l3Values a0).bind fun r1 =>
  (F.spec_Sketched r1.1).bind fun r2 =>
  (F.spec_l1Once r1.2 16).bind fun r3 =>
  bif r3.1 then
    bif decide (r2.1 > 0) then
      (F.spec_l1Below r3.2 2).bind fun r4 =>
      chk (inb 3 (List.length r2.2.2.2.2.1)) <|
      some ((w64 (1000000000 - r4.1), 999999997, r2.2.2.1, r2.2.2.2.1, List.set r2.2.2.2.2.1 3 1000000000, r2.2.2.2.2.2), r4.2)
    else
      some (r2, r3.2)
  else
    some (r2, r3.2)
noncomputable def C.spec_l3Right : Con := ⟨[.p y0 y0], .one y1, fun x => F.spec_l3Right x.1⟩
def L.spec_l3Right : Loops := fun _ => none
noncomputable def K.spec_l3Right : Cons := lookK [(40, [], C.spec_l1Once), (94, [], C.spec_l1Below), (145, [], C.spec_Sketched), (146, [], C.spec_l3Values)]
theorem run.spec_l3Right : ∀ x, runF tb K.spec_l3Right L.spec_l3Right [0] Tryz.f148 C.spec_l3Right x = C.spec_l3Right.fn x := fun x => by kernel_rfl

/-! ### spec.l3Draw: function 98 -/
noncomputable def F.spec_l3Draw (a0 : DL1Cur) : Option (DSketch × DL1Cur) :=
  (F.spec_l3Right a0).bind fun r1 =>
  (F.spec_l1Below r1.2 16).bind fun r2 =>
  bif r2.1 == 0 then
    (F.spec_l1PickInt r2.2 ([-1, 1000001, 500])).bind fun r3 =>
    some ((r1.1.1, r1.1.2.1, r3.1, r1.1.2.2.2), r3.2)
  else
  bif r2.1 == 1 then
    (F.spec_l1Below r2.2 8).bind fun r4 =>
    (F.spec_l1PickInt r4.2 ([-1, 17, 18])).bind fun r5 =>
    chk (inb r4.1 (List.length r1.1.2.2.2.2.2.1)) <|
    some ((r1.1.1, r1.1.2.1, r1.1.2.2.1, r1.1.2.2.2.1, r1.1.2.2.2.2.1, List.set r1.1.2.2.2.2.2.1 ((Int.toNat r4.1)) r5.1, r1.1.2.2.2.2.2.2), r5.2)
  else
  bif r2.1 == 2 then
    chk (fits (List.length r1.1.2.2.2.2.1 + List.length ([0])) 8) <|
    some ((r1.1.1, r1.1.2.1, r1.1.2.2.1, r1.1.2.2.2.1, r1.1.2.2.2.2.1 ++ ([0]), r1.1.2.2.2.2.2), r2.2)
  else
  bif r2.1 == 3 then
    chk (cutOk 0 1 (List.length r1.1.2.2.2.2.2.2.1)) <|
    some ((r1.1.1, r1.1.2.1, r1.1.2.2.1, r1.1.2.2.2.1, r1.1.2.2.2.2.1, r1.1.2.2.2.2.2.1, List.take (1 - 0) (List.drop 0 r1.1.2.2.2.2.2.2.1), r1.1.2.2.2.2.2.2.2), r2.2)
  else
  bif r2.1 == 4 then
    (F.spec_l1PickInt r2.2 ([0, -1, 1000000001])).bind fun r6 =>
    some ((r6.1, r1.1.2), r6.2)
  else
  bif r2.1 == 5 then
    chk (inb 1 (List.length r1.1.2.2.2.2.2.2.1)) <|
    (F.spec_l1PickInt r2.2 ([-1, 3, 1000000001])).bind fun r7 =>
    chk (inb 2 (List.length (List.getD r1.1.2.2.2.2.2.2.1 1 (([] : List Int))))) <|
    some ((r1.1.1, r1.1.2.1, r1.1.2.2.1, r1.1.2.2.2.1, r1.1.2.2.2.2.1, r1.1.2.2.2.2.2.1, List.set r1.1.2.2.2.2.2.2.1 1 (List.set (List.getD r1.1.2.2.2.2.2.2.1 1 (([] : List Int))) 2 r7.1), r1.1.2.2.2.2.2.2.2), r7.2)
  else
    some (r1.1, r2.2)
noncomputable def C.spec_l3Draw : Con := ⟨[.p y0 y0], .one y2, fun x => F.spec_l3Draw x.1⟩
def L.spec_l3Draw : Loops := fun _ => none
noncomputable def K.spec_l3Draw : Cons := lookK [(94, [], C.spec_l1Below), (99, [], C.spec_l1PickInt), (148, [], C.spec_l3Right)]
theorem run.spec_l3Draw : ∀ x, runF tb K.spec_l3Draw L.spec_l3Draw [0] Tryz.f98 C.spec_l3Draw x = C.spec_l3Draw.fn x := fun x => by kernel_rfl

/-! ### spec.l6Entry: function 39 -/
noncomputable def F.spec_l6Entry (a0 : DL1Cur) : Option (DEntry × DL1Cur) :=
  (F.spec_l1Below a0 3).bind fun r1 =>
  (F.spec_l6Right r1.2).bind fun r2 =>
  (F.spec_EntryOf r1.1 r2.1).bind fun r3 =>
  (F.spec_l1Once r2.2 4).bind fun r4 =>
  bif r4.1 then
    (F.spec_l5Draw r4.2).bind fun r5 =>
    (F.spec_l1Once r5.2 14).bind fun r6 =>
    bif r6.1 then
      (F.spec_l3Draw r6.2).bind fun r7 =>
      (F.spec_l1Once r7.2 20).bind fun r8 =>
      bif r8.1 then
        (F.spec_l1PickInt r8.2 ([-1, 5])).bind fun r9 =>
        some ((r9.1, r3.1.2.1, r5.1, r7.1, r3.1.2.2.2.2), r9.2)
      else
        some ((r3.1.1, r3.1.2.1, r5.1, r7.1, r3.1.2.2.2.2), r8.2)
    else
    (F.spec_l1Once r6.2 20).bind fun r10 =>
    bif r10.1 then
      (F.spec_l1PickInt r10.2 ([-1, 5])).bind fun r11 =>
      some ((r11.1, r3.1.2.1, r5.1, r3.1.2.2.2), r11.2)
    else
      some ((r3.1.1, r3.1.2.1, r5.1, r3.1.2.2.2), r10.2)
  else
  (F.spec_l1Once r4.2 14).bind fun r12 =>
  bif r12.1 then
    (F.spec_l3Draw r12.2).bind fun r13 =>
    (F.spec_l1Once r13.2 20).bind fun r14 =>
    bif r14.1 then
      (F.spec_l1PickInt r14.2 ([-1, 5])).bind fun r15 =>
      some ((r15.1, r3.1.2.1, r3.1.2.2.1, r13.1, r3.1.2.2.2.2), r15.2)
    else
      some ((r3.1.1, r3.1.2.1, r3.1.2.2.1, r13.1, r3.1.2.2.2.2), r14.2)
  else
  (F.spec_l1Once r12.2 20).bind fun r16 =>
  bif r16.1 then
    (F.spec_l1PickInt r16.2 ([-1, 5])).bind fun r17 =>
    some ((r17.1, r3.1.2), r17.2)
  else
    some (r3.1, r16.2)
noncomputable def C.spec_l6Entry : Con := ⟨[.p y0 y0], .one y7, fun x => F.spec_l6Entry x.1⟩
def L.spec_l6Entry : Loops := fun _ => none
noncomputable def K.spec_l6Entry : Cons := lookK [(40, [], C.spec_l1Once), (94, [], C.spec_l1Below), (95, [], C.spec_EntryOf), (96, [], C.spec_l6Right), (97, [], C.spec_l5Draw), (98, [], C.spec_l3Draw), (99, [], C.spec_l1PickInt)]
theorem run.spec_l6Entry : ∀ x, runF tb K.spec_l6Entry L.spec_l6Entry [0] Tryz.f39 C.spec_l6Entry x = C.spec_l6Entry.fn x := fun x => by kernel_rfl

/-! ### spec.l10Draw: function 38 -/
noncomputable def F.spec_l10Draw (a0 : DL1Cur) : Option (DRow × DL1Cur) :=
  (F.spec_l10Right a0).bind fun r1 =>
  (F.spec_l1Below r1.2 10).bind fun r2 =>
  bif r2.1 == 0 then
    (F.spec_l6Entry r2.2).bind fun r3 =>
    chk (fits (List.length r1.1.1 + List.length ([r3.1])) 144) <|
    some ((r1.1.1 ++ ([r3.1]), r1.1.2), r3.2)
  else
  bif r2.1 == 1 then
    bif decide ((len r1.1.1) > 0) then
      chk (inb 0 (List.length r1.1.1)) <|
      (F.spec_l6Copy (List.getD r1.1.1 0 ((0, 0, ([] : List DSpan), (0, 0, 0, 0, ([] : List Int), ([] : List Int), ([] : List (List Int)), ()), ())))).bind fun r4 =>
      chk (fits (List.length r1.1.1 + List.length ([r4])) 144) <|
      some ((r1.1.1 ++ ([r4]), r1.1.2), r2.2)
    else
      some (r1.1, r2.2)
  else
    some (r1.1, r2.2)
noncomputable def C.spec_l10Draw : Con := ⟨[.p y0 y0], .one (.cons (.sl false 33 y7) .nil), fun x => F.spec_l10Draw x.1⟩
def L.spec_l10Draw : Loops := fun _ => none
noncomputable def K.spec_l10Draw : Cons := lookK [(39, [], C.spec_l6Entry), (51, [], C.spec_l6Copy), (93, [], C.spec_l10Right), (94, [], C.spec_l1Below)]
theorem run.spec_l10Draw : ∀ x, runF tb K.spec_l10Draw L.spec_l10Draw [0] Tryz.f38 C.spec_l10Draw x = C.spec_l10Draw.fn x := fun x => by kernel_rfl

/-! ### spec.DrawRowPush: function 7 -/
noncomputable def F.spec_DrawRowPush (a0 : List Int) : Option (DRow × DEntry × Bool) :=
  (F.spec_l1New a0).bind fun r1 =>
  (F.spec_l10Draw r1).bind fun r2 =>
  (F.spec_l6Entry r2.2).bind fun r3 =>
  bif decide ((len r2.1.1) > 0) then
    (F.spec_l1Once r3.2 2).bind fun r4 =>
    bif r4.1 then
      chk (inb 0 (List.length r2.1.1)) <|
      chk (inb 0 (List.length r2.1.1)) <|
      (F.spec_l1Once r4.2 2).bind fun r5 =>
      some (r2.1, ((List.getD r2.1.1 0 ((0, 0, ([] : List DSpan), (0, 0, 0, 0, ([] : List Int), ([] : List Int), ([] : List (List Int)), ()), ()))).1, ((List.getD r2.1.1 0 ((0, 0, ([] : List DSpan), (0, 0, 0, 0, ([] : List Int), ([] : List Int), ([] : List (List Int)), ()), ()))).2).1, r3.1.2.2), r5.1)
    else
    (F.spec_l1Once r4.2 2).bind fun r6 =>
    some (r2.1, r3.1, r6.1)
  else
  (F.spec_l1Once r3.2 2).bind fun r7 =>
  some (r2.1, r3.1, r7.1)
noncomputable def C.spec_DrawRowPush : Con := ⟨[.r (.val (.sl false 5 (.int .u8)))], .many [(.cons (.sl false 33 y7) .nil), y7, .bool], fun x => F.spec_DrawRowPush x.1⟩
def L.spec_DrawRowPush : Loops := fun _ => none
noncomputable def K.spec_DrawRowPush : Cons := lookK [(37, [], C.spec_l1New), (38, [], C.spec_l10Draw), (39, [], C.spec_l6Entry), (40, [], C.spec_l1Once)]
theorem run.spec_DrawRowPush : ∀ x, runF tb K.spec_DrawRowPush L.spec_DrawRowPush [] Tryz.f7 C.spec_DrawRowPush x = C.spec_DrawRowPush.fn x := fun x => by kernel_rfl

/-! ### impl.within: function 100 -/
noncomputable def F.impl_within (a0 : Int) (a1 : Int) (a2 : Int) : Option Bool :=
  bif decide (a0 ≥ a1) then
    some (decide (a0 ≤ a2))
  else
    some false
noncomputable def C.impl_within : Con := ⟨[.r (.val (.int .i64)), .r (.val (.int .i64)), .r (.val (.int .i64))], .one .bool, fun x => F.impl_within x.1 x.2.1 x.2.2.1⟩
def L.impl_within : Loops := fun _ => none
noncomputable def K.impl_within : Cons := lookK []
theorem run.impl_within : ∀ x, runF tb K.impl_within L.impl_within [] Tryz.f100 C.impl_within x = C.impl_within.fn x := fun x => by kernel_rfl

/-! ### impl.SetOk: function 57 -/
noncomputable def F.impl_SetOk.s2 : ((List DSpan) × (List DSpan) × Int × Int × Unit) → Option (Lp ((List DSpan) × (List DSpan) × Int × Int × Unit) Bool) := fun (x1, x2, x3, x4, _) =>
  bif decide (x4 < x3) then
    chk (inb x4 (List.length x2)) <|
    (F.impl_within ((List.getD x2 ((Int.toNat x4)) ((0, 0, ()))).1) 0 9999).bind fun r5 =>
    bif !r5 then
      some (.ret false)
    else
    (F.impl_within (((List.getD x2 ((Int.toNat x4)) ((0, 0, ()))).2).1) ((List.getD x2 ((Int.toNat x4)) ((0, 0, ()))).1) 9999).bind fun r6 =>
    bif !r6 then
      some (.ret false)
    else
    bif decide (x4 > 0) then
      chk (inb (w64 (x4 - 1)) (List.length x1)) <|
      bif decide (((List.getD x2 ((Int.toNat x4)) ((0, 0, ()))).1) ≤ (w64 ((((List.getD x1 ((Int.toNat (w64 (x4 - 1)))) ((0, 0, ()))).2).1) + 1))) then
        some (.ret false)
      else
        some (.again (x1, x2, x3, w64 (x4 + 1), ()))
    else
      some (.again (x1, x2, x3, w64 (x4 + 1), ()))
  else
    some (.exit (x1, x2, x3, x4, ()))
noncomputable def F.impl_SetOk (a0 : List DSpan) : Option Bool :=
  afterO (loopO F.impl_SetOk.s2 (a0, a0, len a0, 0, ())) fun (x7, x8, x9, x10, _) =>
  some true
noncomputable def C.impl_SetOk : Con := ⟨[.r (.val (.sl false 102 y5))], .one .bool, fun x => F.impl_SetOk x.1⟩
def L.impl_SetOk : Loops := lookL [(2, ⟨[.pat 0 (.val (.sl false 102 y5)), .pat 5 (.val (.sl false 102 y5)), .pat 6 (.val (.int .i64)), .pat 7 (.val (.int .i64))], 0⟩)]
noncomputable def K.impl_SetOk : Cons := lookK [(100, [], C.impl_within)]
theorem run.impl_SetOk : ∀ x, runF tb K.impl_SetOk L.impl_SetOk [] Tryz.f57 C.impl_SetOk x = C.impl_SetOk.fn x := fun x => by kernel_rfl

/-! ### impl.copyInts: function 151 -/
noncomputable def F.impl_copyInts (a0 : List Int) : Option ((List Int)) :=
  chk (fits (List.length a0) 8) <|
  some a0
noncomputable def C.impl_copyInts : Con := ⟨[.r (.val (.sl false 3 (.int .i64)))], .one (.sl true 3 (.int .i64)), fun x => F.impl_copyInts x.1⟩
def L.impl_copyInts : Loops := fun _ => none
noncomputable def K.impl_copyInts : Cons := lookK []
theorem run.impl_copyInts : ∀ x, runF tb K.impl_copyInts L.impl_copyInts [] Tryz.f151 C.impl_copyInts x = C.impl_copyInts.fn x := fun x => by kernel_rfl

/-! ### impl.counts: function 149 -/
noncomputable def F.impl_counts.s3 : ((List Int) × (List (List Int)) × Int × Int × Unit) → Option (Lp ((List Int) × (List (List Int)) × Int × Int × Unit) ((List Int))) := fun (x2, x3, x4, x5, _) =>
  bif decide (x5 < x4) then
    chk (inb x5 (List.length x3)) <|
    chk (fits (List.length x2 + List.length (List.getD x3 ((Int.toNat x5)) (([] : List Int)))) 8) <|
    some (.again (x2 ++ (List.getD x3 ((Int.toNat x5)) (([] : List Int))), x3, x4, w64 (x5 + 1), ()))
  else
    some (.exit (x2, x3, x4, x5, ()))
noncomputable def F.impl_counts (a0 : DSketch) : Option ((List Int)) :=
  (F.impl_copyInts a0.2.2.2.2.1).bind fun r1 =>
  chk (fits (List.length r1 + List.length a0.2.2.2.2.2.1) 8) <|
  afterO (loopO F.impl_counts.s3 (r1 ++ a0.2.2.2.2.2.1, a0.2.2.2.2.2.2.1, len a0.2.2.2.2.2.2.1, 0, ())) fun (x6, x7, x8, x9, _) =>
  some x6
noncomputable def C.impl_counts : Con := ⟨[.r (.val y2)], .one (.sl true 3 (.int .i64)), fun x => F.impl_counts x.1⟩
def L.impl_counts : Loops := lookL [(3, ⟨[.own 3 (.sl true 3 (.int .i64)), .pat 13 (.val (.sl false 28 (.sl false 3 (.int .i64)))), .pat 14 (.val (.int .i64)), .pat 15 (.val (.int .i64))], 0⟩)]
noncomputable def K.impl_counts : Cons := lookK [(151, [], C.impl_copyInts)]
theorem run.impl_counts : ∀ x, runF tb K.impl_counts L.impl_counts [] Tryz.f149 C.impl_counts x = C.impl_counts.fn x := fun x => by kernel_rfl

/-! ### impl.SketchOk: function 101 -/
noncomputable def F.impl_SketchOk.s5 : (Int × (List Int) × Int × Int × DSketch × Unit) → Option (Lp (Int × (List Int) × Int × Int × DSketch × Unit) Bool) := fun (x2, x3, x4, x5, x6, _) =>
  bif decide (x5 < x4) then
    chk (inb x5 (List.length x3)) <|
    (F.impl_within (List.getD x3 ((Int.toNat x5)) 0) 0 1000000000).bind fun r7 =>
    bif !r7 then
      some (.ret false)
    else
      some (.again (w64 (x2 + (List.getD x3 ((Int.toNat x5)) 0)), x3, x4, w64 (x5 + 1), x6, ()))
  else
    some (.exit (x2, x3, x4, x5, x6, ()))
noncomputable def F.impl_SketchOk.s12 : (Int × (List Int) × Int × Int × DSketch × Unit) → Option (Lp (Int × (List Int) × Int × Int × DSketch × Unit) Bool) := fun (x13, x14, x15, x16, x17, _) =>
  bif decide (x16 < x15) then
    chk (inb x16 (List.length x14)) <|
    bif decide ((List.getD x14 ((Int.toNat x16)) 0) > 17) then
      some (.ret false)
    else
      some (.again (x13, x14, x15, w64 (x16 + 1), x17, ()))
  else
    some (.exit (x13, x14, x15, x16, x17, ()))
noncomputable def F.impl_SketchOk (a0 : DSketch) : Option Bool :=
  bif (len a0.2.2.2.2.1) != 8 then
    some false
  else
  bif (len a0.2.2.2.2.2.1) != 8 then
    some false
  else
  bif (len a0.2.2.2.2.2.2.1) != 2 then
    some false
  else
  chk (inb 0 (List.length a0.2.2.2.2.2.2.1)) <|
  bif (len (List.getD a0.2.2.2.2.2.2.1 0 (([] : List Int)))) != 4 then
    some false
  else
  chk (inb 1 (List.length a0.2.2.2.2.2.2.1)) <|
  bif (len (List.getD a0.2.2.2.2.2.2.1 1 (([] : List Int)))) != 4 then
    some false
  else
  (F.impl_counts a0).bind fun r1 =>
  chk (fits (List.length r1 + List.length ([a0.1, a0.2.1, a0.2.2.1, a0.2.2.2.1])) 8) <|
  afterO (loopO F.impl_SketchOk.s5 (0, r1 ++ ([a0.1, a0.2.1, a0.2.2.1, a0.2.2.2.1]), len (r1 ++ ([a0.1, a0.2.1, a0.2.2.1, a0.2.2.2.1])), 0, a0, ())) fun (x8, x9, x10, x11, x12, _) =>
  afterO (loopO F.impl_SketchOk.s12 (x8, x12.2.2.2.2.2.1, len x12.2.2.2.2.2.1, 0, x12, ())) fun (x18, x19, x20, x21, x22, _) =>
  bif x22.1 == 0 then
    some (x18 == 0)
  else
  bif decide (x22.2.2.1 ≤ x22.2.2.2.1) then
    some (decide (x22.2.2.2.1 ≤ 1000000))
  else
    some false
noncomputable def C.impl_SketchOk : Con := ⟨[.r (.val y2)], .one .bool, fun x => F.impl_SketchOk x.1⟩
def L.impl_SketchOk : Loops := lookL [(5, ⟨[.pat 3 (.val (.int .i64)), .own 51 (.sl true 3 (.int .i64)), .pat 52 (.val (.int .i64)), .pat 53 (.val (.int .i64)), .root 1 true y2 [1]], 0⟩), (12, ⟨[.pat 3 (.val (.int .i64)), .pat 65 (.val (.sl false 3 (.int .i64))), .pat 66 (.val (.int .i64)), .pat 67 (.val (.int .i64)), .root 1 true y2 [1]], 2⟩)]
noncomputable def K.impl_SketchOk : Cons := lookK [(100, [], C.impl_within), (149, [], C.impl_counts)]
theorem run.impl_SketchOk : ∀ x, runF tb K.impl_SketchOk L.impl_SketchOk [] Tryz.f101 C.impl_SketchOk x = C.impl_SketchOk.fn x := fun x => by kernel_rfl

/-! ### impl.EntryOk: function 41 -/
noncomputable def F.impl_EntryOk (a0 : DEntry) : Option Bool :=
  (F.impl_within a0.1 0 4).bind fun r1 =>
  bif r1 then
    (F.impl_within a0.2.1 0 20).bind fun r2 =>
    bif r2 then
      (F.impl_SetOk a0.2.2.1).bind fun r3 =>
      bif r3 then
        bif decide ((len a0.2.2.1) > 0) then
          (F.impl_SketchOk a0.2.2.2.1).bind fun r4 =>
          some r4
        else
          some false
      else
        some false
    else
      some false
  else
    some false
noncomputable def C.impl_EntryOk : Con := ⟨[.r (.val y7)], .one .bool, fun x => F.impl_EntryOk x.1⟩
def L.impl_EntryOk : Loops := fun _ => none
noncomputable def K.impl_EntryOk : Cons := lookK [(57, [], C.impl_SetOk), (100, [], C.impl_within), (101, [], C.impl_SketchOk)]
theorem run.impl_EntryOk : ∀ x, runF tb K.impl_EntryOk L.impl_EntryOk [] Tryz.f41 C.impl_EntryOk x = C.impl_EntryOk.fn x := fun x => by kernel_rfl

/-! ### impl.SetApart: function 105 -/
noncomputable def F.impl_SetApart.s7 : ((List DSpan) × (List DSpan) × Int × Int × (List DSpan) × Int × Int × DSpan × Unit) → Option (Lp ((List DSpan) × (List DSpan) × Int × Int × (List DSpan) × Int × Int × DSpan × Unit) (Lp ((List DSpan) × (List DSpan) × Int × Int × Unit) Bool)) := fun (x7, x8, x9, x10, x11, x12, x13, x14, _) =>
  bif decide (x13 < x12) then
    chk (inb x13 (List.length x11)) <|
    bif decide (x14.1 ≤ (((List.getD x11 ((Int.toNat x13)) ((0, 0, ()))).2).1)) then
      bif decide (((List.getD x11 ((Int.toNat x13)) ((0, 0, ()))).1) ≤ x14.2.1) then
        some (.ret (.ret false))
      else
        some (.again (x7, x8, x9, x10, x11, x12, w64 (x13 + 1), x14, ()))
    else
      some (.again (x7, x8, x9, x10, x11, x12, w64 (x13 + 1), x14, ()))
  else
    some (.exit (x7, x8, x9, x10, x11, x12, x13, x14, ()))
noncomputable def F.impl_SetApart.s4 : ((List DSpan) × (List DSpan) × Int × Int × Unit) → Option (Lp ((List DSpan) × (List DSpan) × Int × Int × Unit) Bool) := fun (x3, x4, x5, x6, _) =>
  bif decide (x6 < x5) then
    chk (inb x6 (List.length x4)) <|
    afterO (loopO F.impl_SetApart.s7 (x3, x4, x5, x6, x3, len x3, 0, List.getD x4 ((Int.toNat x6)) ((0, 0, ())), ())) fun (x15, x16, x17, x18, x19, x20, x21, x22, _) =>
    some (.again (x15, x16, x17, w64 (x18 + 1), ()))
  else
    some (.exit (x3, x4, x5, x6, ()))
noncomputable def F.impl_SetApart (a0 : List DSpan) (a1 : List DSpan) : Option Bool :=
  (F.impl_SetOk a0).bind fun r1 =>
  bif !r1 then
    some false
  else
  (F.impl_SetOk a1).bind fun r2 =>
  bif !r2 then
    some false
  else
  afterO (loopO F.impl_SetApart.s4 (a1, a0, len a0, 0, ())) fun (x23, x24, x25, x26, _) =>
  some true
noncomputable def C.impl_SetApart : Con := ⟨[.r (.val (.sl false 102 y5)), .r (.val (.sl false 102 y5))], .one .bool, fun x => F.impl_SetApart x.1 x.2.1⟩
def L.impl_SetApart : Loops := lookL [(7, ⟨[.pat 1 (.val (.sl false 102 y5)), .pat 17 (.val (.sl false 102 y5)), .pat 18 (.val (.int .i64)), .pat 19 (.val (.int .i64)), .pat 23 (.val (.sl false 102 y5)), .pat 24 (.val (.int .i64)), .pat 25 (.val (.int .i64)), .root 6 true y5 [6]], 2⟩), (4, ⟨[.pat 1 (.val (.sl false 102 y5)), .pat 17 (.val (.sl false 102 y5)), .pat 18 (.val (.int .i64)), .pat 19 (.val (.int .i64))], 0⟩)]
noncomputable def K.impl_SetApart : Cons := lookK [(57, [], C.impl_SetOk)]
theorem run.impl_SetApart : ∀ x, runF tb K.impl_SetApart L.impl_SetApart [] Tryz.f105 C.impl_SetApart x = C.impl_SetApart.fn x := fun x => by kernel_rfl

/-! ### impl.apart: function 56 -/
noncomputable def F.impl_apart.s7 : ((List DEntry) × (List DEntry) × Int × Int × (List DEntry) × Int × Int × DEntry × Unit) → Option (Lp ((List DEntry) × (List DEntry) × Int × Int × (List DEntry) × Int × Int × DEntry × Unit) (Lp ((List DEntry) × (List DEntry) × Int × Int × Unit) Bool)) := fun (x6, x7, x8, x9, x10, x11, x12, x13, _) =>
  bif decide (x12 < x11) then
    chk (inb x12 (List.length x10)) <|
    (F.impl_SetApart x13.2.2.1 ((((List.getD x10 ((Int.toNat x12)) ((0, 0, ([] : List DSpan), (0, 0, 0, 0, ([] : List Int), ([] : List Int), ([] : List (List Int)), ()), ()))).2).2).1)).bind fun r14 =>
    bif !r14 then
      some (.ret (.ret false))
    else
      some (.again (x6, x7, x8, x9, x10, x11, w64 (x12 + 1), x13, ()))
  else
    some (.exit (x6, x7, x8, x9, x10, x11, x12, x13, ()))
noncomputable def F.impl_apart.s2 : ((List DEntry) × (List DEntry) × Int × Int × Unit) → Option (Lp ((List DEntry) × (List DEntry) × Int × Int × Unit) Bool) := fun (x1, x2, x3, x4, _) =>
  bif decide (x4 < x3) then
    chk (inb x4 (List.length x2)) <|
    (F.impl_EntryOk (List.getD x2 ((Int.toNat x4)) ((0, 0, ([] : List DSpan), (0, 0, 0, 0, ([] : List Int), ([] : List Int), ([] : List (List Int)), ()), ())))).bind fun r5 =>
    bif !r5 then
      some (.ret false)
    else
    chk (cutOk 0 x4 (List.length x1)) <|
    afterO (loopO F.impl_apart.s7 (x1, x2, x3, x4, List.take ((Int.toNat x4) - 0) (List.drop 0 x1), len (List.take ((Int.toNat x4) - 0) (List.drop 0 x1)), 0, List.getD x2 ((Int.toNat x4)) ((0, 0, ([] : List DSpan), (0, 0, 0, 0, ([] : List Int), ([] : List Int), ([] : List (List Int)), ()), ())), ())) fun (x15, x16, x17, x18, x19, x20, x21, x22, _) =>
    some (.again (x15, x16, x17, w64 (x18 + 1), ()))
  else
    some (.exit (x1, x2, x3, x4, ()))
noncomputable def F.impl_apart (a0 : List DEntry) : Option Bool :=
  afterO (loopO F.impl_apart.s2 (a0, a0, len a0, 0, ())) fun (x23, x24, x25, x26, _) =>
  some true
noncomputable def C.impl_apart : Con := ⟨[.r (.val (.sl false 33 y7))], .one .bool, fun x => F.impl_apart x.1⟩
def L.impl_apart : Loops := lookL [(7, ⟨[.pat 0 (.val (.sl false 33 y7)), .pat 7 (.val (.sl false 33 y7)), .pat 8 (.val (.int .i64)), .pat 9 (.val (.int .i64)), .pat 19 (.val (.sl false 33 y7)), .pat 20 (.val (.int .i64)), .pat 21 (.val (.int .i64)), .root 4 true y7 [4]], 2⟩), (2, ⟨[.pat 0 (.val (.sl false 33 y7)), .pat 7 (.val (.sl false 33 y7)), .pat 8 (.val (.int .i64)), .pat 9 (.val (.int .i64))], 0⟩)]
noncomputable def K.impl_apart : Cons := lookK [(41, [], C.impl_EntryOk), (105, [], C.impl_SetApart)]
theorem run.impl_apart : ∀ x, runF tb K.impl_apart L.impl_apart [] Tryz.f56 C.impl_apart x = C.impl_apart.fn x := fun x => by kernel_rfl

/-! ### impl.RowOk: function 14 -/
noncomputable def F.impl_RowOk (a0 : DRow) : Option Bool :=
  bif decide ((len a0.1) ≤ 24) then
    (F.impl_apart a0.1).bind fun r1 =>
    some r1
  else
    some false
noncomputable def C.impl_RowOk : Con := ⟨[.r (.val (.cons (.sl false 33 y7) .nil))], .one .bool, fun x => F.impl_RowOk x.1⟩
def L.impl_RowOk : Loops := fun _ => none
noncomputable def K.impl_RowOk : Cons := lookK [(56, [], C.impl_apart)]
theorem run.impl_RowOk : ∀ x, runF tb K.impl_RowOk L.impl_RowOk [] Tryz.f14 C.impl_RowOk x = C.impl_RowOk.fn x := fun x => by kernel_rfl

/-! ### impl.copySet: function 107 -/
noncomputable def F.impl_copySet (a0 : List DSpan) : Option ((List DSpan)) :=
  chk (fits (List.length a0) 16) <|
  some a0
noncomputable def C.impl_copySet : Con := ⟨[.r (.val (.sl false 102 y5))], .one (.sl true 102 y5), fun x => F.impl_copySet x.1⟩
def L.impl_copySet : Loops := fun _ => none
noncomputable def K.impl_copySet : Cons := lookK []
theorem run.impl_copySet : ∀ x, runF tb K.impl_copySet L.impl_copySet [] Tryz.f107 C.impl_copySet x = C.impl_copySet.fn x := fun x => by kernel_rfl

/-! ### impl.copySketch: function 108 -/
noncomputable def F.impl_copySketch.s6 : ((List (List Int)) × Int × Int × DSketch × DSketch × Unit) → Option (Lp ((List (List Int)) × Int × Int × DSketch × DSketch × Unit) DSketch) := fun (x3, x4, x5, x6, x7, _) =>
  bif decide (x5 < x4) then
    chk (inb x5 (List.length x3)) <|
    (F.impl_copyInts (List.getD x3 ((Int.toNat x5)) (([] : List Int)))).bind fun r8 =>
    chk (fits (List.length x7.2.2.2.2.2.2.1 + List.length ([r8])) 24) <|
    some (.again (x3, x4, w64 (x5 + 1), x6, (x7.1, x7.2.1, x7.2.2.1, x7.2.2.2.1, x7.2.2.2.2.1, x7.2.2.2.2.2.1, x7.2.2.2.2.2.2.1 ++ ([r8]), x7.2.2.2.2.2.2.2), ()))
  else
    some (.exit (x3, x4, x5, x6, x7, ()))
noncomputable def F.impl_copySketch (a0 : DSketch) : Option DSketch :=
  (F.impl_copyInts a0.2.2.2.2.1).bind fun r1 =>
  (F.impl_copyInts a0.2.2.2.2.2.1).bind fun r2 =>
  afterO (loopO F.impl_copySketch.s6 (a0.2.2.2.2.2.2.1, len a0.2.2.2.2.2.2.1, 0, (0, 0, 0, 0, ([] : List Int), ([] : List Int), ([] : List (List Int)), ()), (a0.1, a0.2.1, a0.2.2.1, a0.2.2.2.1, r1, r2, ([] : List (List Int)), a0.2.2.2.2.2.2.2), ())) fun (x9, x10, x11, x12, x13, _) =>
  some x13
noncomputable def C.impl_copySketch : Con := ⟨[.r (.val y2)], .one y1, fun x => F.impl_copySketch x.1⟩
def L.impl_copySketch : Loops := lookL [(6, ⟨[.pat 17 (.val (.sl false 28 (.sl false 3 (.int .i64)))), .pat 18 (.val (.int .i64)), .pat 19 (.val (.int .i64)), .root 2 true y1 [2], .root 3 true y1 [3]], 0⟩)]
noncomputable def K.impl_copySketch : Cons := lookK [(151, [], C.impl_copyInts)]
theorem run.impl_copySketch : ∀ x, runF tb K.impl_copySketch L.impl_copySketch [] Tryz.f108 C.impl_copySketch x = C.impl_copySketch.fn x := fun x => by kernel_rfl

/-! ### impl.copyEntry: function 45 -/
noncomputable def F.impl_copyEntry (a0 : DEntry) : Option DEntry :=
  (F.impl_copySet a0.2.2.1).bind fun r1 =>
  (F.impl_copySketch a0.2.2.2.1).bind fun r2 =>
  some (a0.1, a0.2.1, r1, r2, a0.2.2.2.2)
noncomputable def C.impl_copyEntry : Con := ⟨[.r (.val y7)], .one y6, fun x => F.impl_copyEntry x.1⟩
def L.impl_copyEntry : Loops := fun _ => none
noncomputable def K.impl_copyEntry : Cons := lookK [(107, [], C.impl_copySet), (108, [], C.impl_copySketch)]
theorem run.impl_copyEntry : ∀ x, runF tb K.impl_copyEntry L.impl_copyEntry [] Tryz.f45 C.impl_copyEntry x = C.impl_copyEntry.fn x := fun x => by kernel_rfl

/-! ### impl.copyEntries: function 102 -/
noncomputable def F.impl_copyEntries.s3 : ((List DEntry) × (List DEntry) × Int × Int × Unit) → Option (Lp ((List DEntry) × (List DEntry) × Int × Int × Unit) ((List DEntry))) := fun (x1, x2, x3, x4, _) =>
  bif decide (x4 < x3) then
    chk (inb x4 (List.length x2)) <|
    (F.impl_copyEntry (List.getD x2 ((Int.toNat x4)) ((0, 0, ([] : List DSpan), (0, 0, 0, 0, ([] : List Int), ([] : List Int), ([] : List (List Int)), ()), ())))).bind fun r5 =>
    chk (fits (List.length x1 + List.length ([r5])) 144) <|
    some (.again (x1 ++ ([r5]), x2, x3, w64 (x4 + 1), ()))
  else
    some (.exit (x1, x2, x3, x4, ()))
noncomputable def F.impl_copyEntries (a0 : List DEntry) : Option ((List DEntry)) :=
  afterO (loopO F.impl_copyEntries.s3 (([] : List DEntry), a0, len a0, 0, ())) fun (x6, x7, x8, x9, _) =>
  some x6
noncomputable def C.impl_copyEntries : Con := ⟨[.r (.val (.sl false 33 y7))], .one (.sl true 33 y6), fun x => F.impl_copyEntries x.1⟩
def L.impl_copyEntries : Loops := lookL [(3, ⟨[.own 3 (.sl true 33 y6), .pat 6 (.val (.sl false 33 y7)), .pat 7 (.val (.int .i64)), .pat 8 (.val (.int .i64))], 0⟩)]
noncomputable def K.impl_copyEntries : Cons := lookK [(45, [], C.impl_copyEntry)]
theorem run.impl_copyEntries : ∀ x, runF tb K.impl_copyEntries L.impl_copyEntries [] Tryz.f102 C.impl_copyEntries x = C.impl_copyEntries.fn x := fun x => by kernel_rfl

/-! ### impl.copyRow: function 42 -/
noncomputable def F.impl_copyRow (a0 : DRow) : Option DRow :=
  (F.impl_copyEntries a0.1).bind fun r1 =>
  some (r1, ())
noncomputable def C.impl_copyRow : Con := ⟨[.r (.val (.cons (.sl false 33 y7) .nil))], .one (.cons (.sl true 33 y6) .nil), fun x => F.impl_copyRow x.1⟩
def L.impl_copyRow : Loops := fun _ => none
noncomputable def K.impl_copyRow : Cons := lookK [(102, [], C.impl_copyEntries)]
theorem run.impl_copyRow : ∀ x, runF tb K.impl_copyRow L.impl_copyRow [] Tryz.f42 C.impl_copyRow x = C.impl_copyRow.fn x := fun x => by kernel_rfl

/-! ### impl.placeOf$1: function 104 -/
noncomputable def F.impl_placeOf_1 (a0 : DEntry) (a1 : Int) (a2 : Int) : Option Bool :=
  bif a0.1 == a1 then
    some (a0.2.1 == a2)
  else
    some false
noncomputable def C.impl_placeOf_1 : Con := ⟨[.r (.val y7), .r (.sptr (.int .i64)), .r (.sptr (.int .i64))], .one .bool, fun x => F.impl_placeOf_1 x.1 x.2.1 x.2.2.1⟩
def L.impl_placeOf_1 : Loops := fun _ => none
noncomputable def K.impl_placeOf_1 : Cons := lookK []
theorem run.impl_placeOf_1 : ∀ x, runF tb K.impl_placeOf_1 L.impl_placeOf_1 [] Tryz.f104 C.impl_placeOf_1 x = C.impl_placeOf_1.fn x := fun x => by kernel_rfl

/-! ### slices.IndexFunc[[]impl.Entry,impl.Entry]: function 103 -/
noncomputable def F.slices_IndexFunc_Entry__impl_placeOf_1.s2 : ((List DEntry) × (Int × Int × Unit) × Int × Int × Unit) → Option (Lp ((List DEntry) × (Int × Int × Unit) × Int × Int × Unit) Int) := fun (x1, x2, x3, x4, _) =>
  bif decide (x4 < x3) then
    chk (inb x4 (List.length x1)) <|
    (F.impl_placeOf_1 (List.getD x1 ((Int.toNat x4)) ((0, 0, ([] : List DSpan), (0, 0, 0, 0, ([] : List Int), ([] : List Int), ([] : List (List Int)), ()), ()))) x2.1 x2.2.1).bind fun r5 =>
    bif r5 then
      some (.ret x4)
    else
      some (.again (x1, (x2.1, x2.2.1, ()), x3, w64 (x4 + 1), ()))
  else
    some (.exit (x1, (x2.1, x2.2.1, ()), x3, x4, ()))
noncomputable def F.slices_IndexFunc_Entry__impl_placeOf_1 (a0 : List DEntry) (a1 : Int × Int × Unit) : Option Int :=
  afterO (loopO F.slices_IndexFunc_Entry__impl_placeOf_1.s2 (a0, (a1.1, a1.2.1, ()), len a0, 0, ())) fun (x6, x7, x8, x9, _) =>
  some (-1)
noncomputable def C.slices_IndexFunc_Entry__impl_placeOf_1 : Con := ⟨[.r (.val (.sl false 33 y7)), .r (.fn 104 (.cons (.sptr (.int .i64)) (.cons (.sptr (.int .i64)) .nil)))], .one (.int .i64), fun x => F.slices_IndexFunc_Entry__impl_placeOf_1 x.1 x.2.1⟩
def L.slices_IndexFunc_Entry__impl_placeOf_1 : Loops := lookL [(2, ⟨[.pat 0 (.val (.sl false 33 y7)), .pat 1 (.fn 104 (.cons (.sptr (.int .i64)) (.cons (.sptr (.int .i64)) .nil))), .pat 7 (.val (.int .i64)), .pat 8 (.val (.int .i64))], 0⟩)]
noncomputable def K.slices_IndexFunc_Entry__impl_placeOf_1 : Cons := lookK [(104, [], C.impl_placeOf_1)]
theorem run.slices_IndexFunc_Entry__impl_placeOf_1 : ∀ x, runF tb K.slices_IndexFunc_Entry__impl_placeOf_1 L.slices_IndexFunc_Entry__impl_placeOf_1 [] Tryz.f103 C.slices_IndexFunc_Entry__impl_placeOf_1 x = C.slices_IndexFunc_Entry__impl_placeOf_1.fn x := fun x => by kernel_rfl

/-! ### impl.placeOf: function 43 -/
noncomputable def F.impl_placeOf (a0 : List DEntry) (a1 : Int) (a2 : Int) : Option Int :=
  (F.slices_IndexFunc_Entry__impl_placeOf_1 a0 ((a1, a2, ()))).bind fun r1 =>
  some r1
noncomputable def C.impl_placeOf : Con := ⟨[.r (.val (.sl false 33 y7)), .r (.val (.int .i64)), .r (.val (.int .i64))], .one (.int .i64), fun x => F.impl_placeOf x.1 x.2.1 x.2.2.1⟩
def L.impl_placeOf : Loops := fun _ => none
noncomputable def K.impl_placeOf : Cons := lookK [(103, [104], C.slices_IndexFunc_Entry__impl_placeOf_1)]
theorem run.impl_placeOf : ∀ x, runF tb K.impl_placeOf L.impl_placeOf [] Tryz.f43 C.impl_placeOf x = C.impl_placeOf.fn x := fun x => by kernel_rfl

/-! ### slices.SortFunc[[]impl.Span,impl.Span]: function 158: by its contract -/
noncomputable def F.slices_SortFunc_Span__impl_union_1 (a0 : List DSpan) (a1 : Unit) : Option (List DSpan) :=
  chk (decide (a0.length ≤ 4000000000000)) <|
  some (sortS a0)
noncomputable def C.slices_SortFunc_Span__impl_union_1 : Con := ⟨[.c (.sl true 102 y5), .r (.fn 159 .nil)], .many [], fun x => F.slices_SortFunc_Span__impl_union_1 x.1 x.2.1⟩
-- EXT slices_SortFunc_Span__impl_union_1 158 sort 102 159

/-! ### impl.union: function 121 -/
noncomputable def F.impl_union.s5 : ((List DSpan) × (List DSpan) × Int × Int × Unit) → Option (Lp ((List DSpan) × (List DSpan) × Int × Int × Unit) ((List DSpan))) := fun (x3, x4, x5, x6, _) =>
  bif decide (x6 < x5) then
    chk (inb x6 (List.length x4)) <|
    bif decide ((len x3) > 0) then
      chk (inb (w64 ((len x3) - 1)) (List.length x3)) <|
      bif decide (((List.getD x4 ((Int.toNat x6)) ((0, 0, ()))).1) ≤ (w64 ((((List.getD x3 ((Int.toNat (w64 ((len x3) - 1)))) ((0, 0, ()))).2).1) + 1))) then
        chk (inb (w64 ((len x3) - 1)) (List.length x3)) <|
        chk (inb (w64 ((len x3) - 1)) (List.length x3)) <|
        (some (List.set x3 ((Int.toNat (w64 ((len x3) - 1)))) (((List.getD x3 ((Int.toNat (w64 ((len x3) - 1)))) ((0, 0, ()))).1, mxI (((List.getD x3 ((Int.toNat (w64 ((len x3) - 1)))) ((0, 0, ()))).2).1) (((List.getD x4 ((Int.toNat x6)) ((0, 0, ()))).2).1), ((List.getD x3 ((Int.toNat (w64 ((len x3) - 1)))) ((0, 0, ()))).2).2)))).bind fun r7 =>
        some (.again (r7, x4, x5, w64 (x6 + 1), ()))
      else
      chk (fits (List.length x3 + List.length ([List.getD x4 ((Int.toNat x6)) ((0, 0, ()))])) 16) <|
      some (.again (x3 ++ ([List.getD x4 ((Int.toNat x6)) ((0, 0, ()))]), x4, x5, w64 (x6 + 1), ()))
    else
    chk (fits (List.length x3 + List.length ([List.getD x4 ((Int.toNat x6)) ((0, 0, ()))])) 16) <|
    some (.again (x3 ++ ([List.getD x4 ((Int.toNat x6)) ((0, 0, ()))]), x4, x5, w64 (x6 + 1), ()))
  else
    some (.exit (x3, x4, x5, x6, ()))
noncomputable def F.impl_union (a0 : List DSpan) : Option ((List DSpan)) :=
  (F.impl_copySet a0).bind fun r1 =>
  (F.slices_SortFunc_Span__impl_union_1 r1 (())).bind fun r2 =>
  afterO (loopO F.impl_union.s5 (([] : List DSpan), r2, len r2, 0, ())) fun (x8, x9, x10, x11, _) =>
  some x8
noncomputable def C.impl_union : Con := ⟨[.r (.val (.sl false 102 y5))], .one (.sl true 102 y5), fun x => F.impl_union x.1⟩
def L.impl_union : Loops := lookL [(5, ⟨[.own 4 (.sl true 102 y5), .own 12 (.sl true 102 y5), .pat 13 (.val (.int .i64)), .pat 14 (.val (.int .i64))], 0⟩)]
noncomputable def K.impl_union : Cons := lookK [(107, [], C.impl_copySet), (158, [159], C.slices_SortFunc_Span__impl_union_1)]
theorem run.impl_union : ∀ x, runF tb K.impl_union L.impl_union [] Tryz.f121 C.impl_union x = C.impl_union.fn x := fun x => by kernel_rfl

/-! ### impl.SetJoin: function 86 -/
noncomputable def F.impl_SetJoin (a0 : List DSpan) (a1 : List DSpan) : Option ((List DSpan) × Bool) :=
  (F.impl_SetOk a0).bind fun r1 =>
  bif !r1 then
    some (([] : List DSpan), false)
  else
  (F.impl_SetOk a1).bind fun r2 =>
  bif !r2 then
    some (([] : List DSpan), false)
  else
  (F.impl_copySet a0).bind fun r3 =>
  chk (fits (List.length r3 + List.length a1) 16) <|
  (F.impl_union (r3 ++ a1)).bind fun r4 =>
  some (r4, true)
noncomputable def C.impl_SetJoin : Con := ⟨[.r (.val (.sl false 102 y5)), .r (.val (.sl false 102 y5))], .many [(.sl true 102 y5), .bool], fun x => F.impl_SetJoin x.1 x.2.1⟩
def L.impl_SetJoin : Loops := fun _ => none
noncomputable def K.impl_SetJoin : Cons := lookK [(57, [], C.impl_SetOk), (107, [], C.impl_copySet), (121, [], C.impl_union)]
theorem run.impl_SetJoin : ∀ x, runF tb K.impl_SetJoin L.impl_SetJoin [] Tryz.f86 C.impl_SetJoin x = C.impl_SetJoin.fn x := fun x => by kernel_rfl

/-! ### impl.limited: function 163 -/
noncomputable def F.impl_limited (a0 : Int) (a1 : Int) (a2 : Int) : Option Int :=
  some (mnI (mxI a0 a1) a2)
noncomputable def C.impl_limited : Con := ⟨[.r (.val (.int .i64)), .r (.val (.int .i64)), .r (.val (.int .i64))], .one (.int .i64), fun x => F.impl_limited x.1 x.2.1 x.2.2.1⟩
def L.impl_limited : Loops := fun _ => none
noncomputable def K.impl_limited : Cons := lookK []
theorem run.impl_limited : ∀ x, runF tb K.impl_limited L.impl_limited [] Tryz.f163 C.impl_limited x = C.impl_limited.fn x := fun x => by kernel_rfl

/-! ### impl.Add: function 150 -/
noncomputable def F.impl_Add (a0 : Int) (a1 : Int) : Option Int :=
  (F.impl_limited a0 0 1000000000).bind fun r1 =>
  (F.impl_limited a1 0 1000000000).bind fun r2 =>
  some (mnI (w64 (r1 + r2)) 1000000000)
noncomputable def C.impl_Add : Con := ⟨[.r (.val (.int .i64)), .r (.val (.int .i64))], .one (.int .i64), fun x => F.impl_Add x.1 x.2.1⟩
def L.impl_Add : Loops := fun _ => none
noncomputable def K.impl_Add : Cons := lookK [(163, [], C.impl_limited)]
theorem run.impl_Add : ∀ x, runF tb K.impl_Add L.impl_Add [] Tryz.f150 C.impl_Add x = C.impl_Add.fn x := fun x => by kernel_rfl

/-! ### impl.Merge: function 106 -/
noncomputable def F.impl_Merge.s10 : ((List Int) × Int × Int × DSketch × DSketch × DSketch × Unit) → Option (Lp ((List Int) × Int × Int × DSketch × DSketch × DSketch × Unit) (DSketch × Bool)) := fun (x6, x7, x8, x9, x10, x11, _) =>
  bif decide (x8 < x7) then
    chk (inb x8 (List.length x6)) <|
    chk (inb x8 (List.length x11.2.2.2.2.1)) <|
    (F.impl_Add (List.getD x11.2.2.2.2.1 ((Int.toNat x8)) 0) (List.getD x6 ((Int.toNat x8)) 0)).bind fun r12 =>
    chk (inb x8 (List.length x11.2.2.2.2.1)) <|
    some (.again (x6, x7, w64 (x8 + 1), x9, x10, (x11.1, x11.2.1, x11.2.2.1, x11.2.2.2.1, List.set x11.2.2.2.2.1 ((Int.toNat x8)) r12, x11.2.2.2.2.2), ()))
  else
    some (.exit (x6, x7, x8, x9, x10, x11, ()))
noncomputable def F.impl_Merge.s15 : ((List Int) × Int × Int × DSketch × DSketch × DSketch × Unit) → Option (Lp ((List Int) × Int × Int × DSketch × DSketch × DSketch × Unit) (DSketch × Bool)) := fun (x19, x20, x21, x22, x23, x24, _) =>
  bif decide (x21 < x20) then
    chk (inb x21 (List.length x19)) <|
    chk (inb x21 (List.length x24.2.2.2.2.2.1)) <|
    chk (inb x21 (List.length x24.2.2.2.2.2.1)) <|
    (some (List.set x24.2.2.2.2.2.1 ((Int.toNat x21)) (mxI (List.getD x24.2.2.2.2.2.1 ((Int.toNat x21)) 0) (List.getD x19 ((Int.toNat x21)) 0)))).bind fun r25 =>
    some (.again (x19, x20, w64 (x21 + 1), x22, x23, (x24.1, x24.2.1, x24.2.2.1, x24.2.2.2.1, x24.2.2.2.2.1, r25, x24.2.2.2.2.2.2), ()))
  else
    some (.exit (x19, x20, x21, x22, x23, x24, ()))
noncomputable def F.impl_Merge.s23 : (Int × (List (List Int)) × Int × Int × (List Int) × Int × Int × DSketch × DSketch × Unit) → Option (Lp (Int × (List (List Int)) × Int × Int × (List Int) × Int × Int × DSketch × DSketch × Unit) (Lp ((List (List Int)) × Int × Int × DSketch × DSketch × Unit) (DSketch × Bool))) := fun (x37, x38, x39, x40, x41, x42, x43, x44, x45, _) =>
  bif decide (x43 < x42) then
    chk (inb x43 (List.length x41)) <|
    chk (inb x37 (List.length x45.2.2.2.2.2.2.1)) <|
    chk (inb x37 (List.length x45.2.2.2.2.2.2.1)) <|
    chk (inb x43 (List.length (List.getD x45.2.2.2.2.2.2.1 ((Int.toNat x37)) (([] : List Int))))) <|
    (F.impl_Add (List.getD (List.getD x45.2.2.2.2.2.2.1 ((Int.toNat x37)) (([] : List Int))) ((Int.toNat x43)) 0) (List.getD x41 ((Int.toNat x43)) 0)).bind fun r46 =>
    chk (inb x43 (List.length (List.getD x45.2.2.2.2.2.2.1 ((Int.toNat x37)) (([] : List Int))))) <|
    (some (List.set x45.2.2.2.2.2.2.1 ((Int.toNat x37)) (List.set (List.getD x45.2.2.2.2.2.2.1 ((Int.toNat x37)) (([] : List Int))) ((Int.toNat x43)) r46))).bind fun r47 =>
    some (.again (x37, x38, x39, x40, x41, x42, w64 (x43 + 1), x44, (x45.1, x45.2.1, x45.2.2.1, x45.2.2.2.1, x45.2.2.2.2.1, x45.2.2.2.2.2.1, r47, x45.2.2.2.2.2.2.2), ()))
  else
    some (.exit (x37, x38, x39, x40, x41, x42, x43, x44, x45, ()))
noncomputable def F.impl_Merge.s20 : ((List (List Int)) × Int × Int × DSketch × DSketch × Unit) → Option (Lp ((List (List Int)) × Int × Int × DSketch × DSketch × Unit) (DSketch × Bool)) := fun (x32, x33, x34, x35, x36, _) =>
  bif decide (x34 < x33) then
    chk (inb x34 (List.length x32)) <|
    afterO (loopO F.impl_Merge.s23 (x34, x32, x33, x34, List.getD x32 ((Int.toNat x34)) (([] : List Int)), len (List.getD x32 ((Int.toNat x34)) (([] : List Int))), 0, x35, x36, ())) fun (x48, x49, x50, x51, x52, x53, x54, x55, x56, _) =>
    some (.again (x49, x50, w64 (x51 + 1), x55, x56, ()))
  else
    some (.exit (x32, x33, x34, x35, x36, ()))
noncomputable def F.impl_Merge (a0 : DSketch) (a1 : DSketch) : Option (DSketch × Bool) :=
  (F.impl_SketchOk a0).bind fun r1 =>
  bif !r1 then
    some ((0, 0, 0, 0, ([] : List Int), ([] : List Int), ([] : List (List Int)), ()), false)
  else
  (F.impl_SketchOk a1).bind fun r2 =>
  bif !r2 then
    some ((0, 0, 0, 0, ([] : List Int), ([] : List Int), ([] : List (List Int)), ()), false)
  else
  (F.impl_copySketch a0).bind fun r3 =>
  bif a0.1 == 0 then
    (F.impl_Add a0.1 a1.1).bind fun r4 =>
    (F.impl_Add a0.2.1 a1.2.1).bind fun r5 =>
    afterO (loopO F.impl_Merge.s10 (a1.2.2.2.2.1, len a1.2.2.2.2.1, 0, a1, (0, 0, 0, 0, ([] : List Int), ([] : List Int), ([] : List (List Int)), ()), (r4, r5, a1.2.2.1, mxI a0.2.2.2.1 a1.2.2.2.1, r3.2.2.2.2), ())) fun (x13, x14, x15, x16, x17, x18, _) =>
    afterO (loopO F.impl_Merge.s15 (x16.2.2.2.2.2.1, len x16.2.2.2.2.2.1, 0, x16, x17, x18, ())) fun (x26, x27, x28, x29, x30, x31, _) =>
    afterO (loopO F.impl_Merge.s20 (x29.2.2.2.2.2.2.1, len x29.2.2.2.2.2.2.1, 0, x30, x31, ())) fun (x57, x58, x59, x60, x61, _) =>
    some (x61, true)
  else
  bif decide (a1.1 > 0) then
    bif decide (a1.2.2.1 < a0.2.2.1) then
      (F.impl_Add a0.1 a1.1).bind fun r62 =>
      (F.impl_Add a0.2.1 a1.2.1).bind fun r63 =>
      afterO (loopO F.impl_Merge.s10 (a1.2.2.2.2.1, len a1.2.2.2.2.1, 0, a1, (0, 0, 0, 0, ([] : List Int), ([] : List Int), ([] : List (List Int)), ()), (r62, r63, a1.2.2.1, mxI a0.2.2.2.1 a1.2.2.2.1, r3.2.2.2.2), ())) fun (x71, x72, x73, x74, x75, x76, _) =>
      afterO (loopO F.impl_Merge.s15 (x74.2.2.2.2.2.1, len x74.2.2.2.2.2.1, 0, x74, x75, x76, ())) fun (x84, x85, x86, x87, x88, x89, _) =>
      afterO (loopO F.impl_Merge.s20 (x87.2.2.2.2.2.2.1, len x87.2.2.2.2.2.2.1, 0, x88, x89, ())) fun (x115, x116, x117, x118, x119, _) =>
      some (x119, true)
    else
    (F.impl_Add a0.1 a1.1).bind fun r120 =>
    (F.impl_Add a0.2.1 a1.2.1).bind fun r121 =>
    afterO (loopO F.impl_Merge.s10 (a1.2.2.2.2.1, len a1.2.2.2.2.1, 0, a1, (0, 0, 0, 0, ([] : List Int), ([] : List Int), ([] : List (List Int)), ()), (r120, r121, r3.2.2.1, mxI a0.2.2.2.1 a1.2.2.2.1, r3.2.2.2.2), ())) fun (x129, x130, x131, x132, x133, x134, _) =>
    afterO (loopO F.impl_Merge.s15 (x132.2.2.2.2.2.1, len x132.2.2.2.2.2.1, 0, x132, x133, x134, ())) fun (x142, x143, x144, x145, x146, x147, _) =>
    afterO (loopO F.impl_Merge.s20 (x145.2.2.2.2.2.2.1, len x145.2.2.2.2.2.2.1, 0, x146, x147, ())) fun (x173, x174, x175, x176, x177, _) =>
    some (x177, true)
  else
  (F.impl_Add a0.1 a1.1).bind fun r178 =>
  (F.impl_Add a0.2.1 a1.2.1).bind fun r179 =>
  afterO (loopO F.impl_Merge.s10 (a1.2.2.2.2.1, len a1.2.2.2.2.1, 0, a1, (0, 0, 0, 0, ([] : List Int), ([] : List Int), ([] : List (List Int)), ()), (r178, r179, r3.2.2.1, mxI a0.2.2.2.1 a1.2.2.2.1, r3.2.2.2.2), ())) fun (x187, x188, x189, x190, x191, x192, _) =>
  afterO (loopO F.impl_Merge.s15 (x190.2.2.2.2.2.1, len x190.2.2.2.2.2.1, 0, x190, x191, x192, ())) fun (x200, x201, x202, x203, x204, x205, _) =>
  afterO (loopO F.impl_Merge.s20 (x203.2.2.2.2.2.2.1, len x203.2.2.2.2.2.2.1, 0, x204, x205, ())) fun (x231, x232, x233, x234, x235, _) =>
  some (x235, true)
noncomputable def C.impl_Merge : Con := ⟨[.r (.val y2), .r (.val y2)], .many [y1, .bool], fun x => F.impl_Merge x.1 x.2.1⟩
def L.impl_Merge : Loops := lookL [(10, ⟨[.pat 63 (.val (.sl false 3 (.int .i64))), .pat 64 (.val (.int .i64)), .pat 65 (.val (.int .i64)), .root 3 true y2 [3], .root 4 true y1 [4], .root 6 true y1 [6]], 0⟩), (15, ⟨[.pat 83 (.val (.sl false 3 (.int .i64))), .pat 84 (.val (.int .i64)), .pat 85 (.val (.int .i64)), .root 3 true y2 [3], .root 4 true y1 [4], .root 6 true y1 [6]], 2⟩), (23, ⟨[.pat 11 (.val (.int .i64)), .pat 103 (.val (.sl false 28 (.sl false 3 (.int .i64)))), .pat 104 (.val (.int .i64)), .pat 105 (.val (.int .i64)), .pat 110 (.val (.sl false 3 (.int .i64))), .pat 111 (.val (.int .i64)), .pat 112 (.val (.int .i64)), .root 4 true y1 [4], .root 6 true y1 [6]], 6⟩), (20, ⟨[.pat 103 (.val (.sl false 28 (.sl false 3 (.int .i64)))), .pat 104 (.val (.int .i64)), .pat 105 (.val (.int .i64)), .root 4 true y1 [4], .root 6 true y1 [6]], 4⟩)]
noncomputable def K.impl_Merge : Cons := lookK [(101, [], C.impl_SketchOk), (108, [], C.impl_copySketch), (150, [], C.impl_Add)]
theorem run.impl_Merge : ∀ x, runF tb K.impl_Merge L.impl_Merge [] Tryz.f106 C.impl_Merge x = C.impl_Merge.fn x := fun x => by kernel_rfl

/-! ### impl.EntryAdd: function 44 -/
noncomputable def F.impl_EntryAdd (a0 : DEntry) (a1 : DEntry) : Option (DEntry × Bool) :=
  (F.impl_EntryOk a0).bind fun r1 =>
  bif !r1 then
    some ((0, 0, ([] : List DSpan), (0, 0, 0, 0, ([] : List Int), ([] : List Int), ([] : List (List Int)), ()), ()), false)
  else
  (F.impl_EntryOk a1).bind fun r2 =>
  bif !r2 then
    some ((0, 0, ([] : List DSpan), (0, 0, 0, 0, ([] : List Int), ([] : List Int), ([] : List (List Int)), ()), ()), false)
  else
  bif a0.1 != a1.1 then
    some ((0, 0, ([] : List DSpan), (0, 0, 0, 0, ([] : List Int), ([] : List Int), ([] : List (List Int)), ()), ()), false)
  else
  bif a0.2.1 != a1.2.1 then
    some ((0, 0, ([] : List DSpan), (0, 0, 0, 0, ([] : List Int), ([] : List Int), ([] : List (List Int)), ()), ()), false)
  else
  (F.impl_SetApart a0.2.2.1 a1.2.2.1).bind fun r3 =>
  bif !r3 then
    some ((0, 0, ([] : List DSpan), (0, 0, 0, 0, ([] : List Int), ([] : List Int), ([] : List (List Int)), ()), ()), false)
  else
  (F.impl_SetJoin a0.2.2.1 a1.2.2.1).bind fun r4 =>
  (F.impl_Merge a0.2.2.2.1 a1.2.2.2.1).bind fun r5 =>
  some ((a0.1, a0.2.1, r4.1, r5.1, ()), true)
noncomputable def C.impl_EntryAdd : Con := ⟨[.r (.val y7), .r (.val y7)], .many [y6, .bool], fun x => F.impl_EntryAdd x.1 x.2.1⟩
def L.impl_EntryAdd : Loops := fun _ => none
noncomputable def K.impl_EntryAdd : Cons := lookK [(41, [], C.impl_EntryOk), (86, [], C.impl_SetJoin), (105, [], C.impl_SetApart), (106, [], C.impl_Merge)]
theorem run.impl_EntryAdd : ∀ x, runF tb K.impl_EntryAdd L.impl_EntryAdd [] Tryz.f44 C.impl_EntryAdd x = C.impl_EntryAdd.fn x := fun x => by kernel_rfl

/-! ### impl.RowPush: function 8 -/
noncomputable def F.impl_RowPush (a0 : DRow) (a1 : DEntry) (a2 : Bool) : Option (DRow × Bool) :=
  (F.impl_RowOk a0).bind fun r1 =>
  bif !r1 then
    (F.impl_copyRow a0).bind fun r2 =>
    some (r2, false)
  else
  (F.impl_EntryOk a1).bind fun r3 =>
  bif !r3 then
    (F.impl_copyRow a0).bind fun r4 =>
    some (r4, false)
  else
  (F.impl_copyRow a0).bind fun r5 =>
  (F.impl_placeOf a0.1 a1.1 a1.2.1).bind fun r6 =>
  bif a2 then
    bif decide (r6 ≥ 0) then
      chk (inb r6 (List.length a0.1)) <|
      (F.impl_EntryAdd (List.getD a0.1 ((Int.toNat r6)) ((0, 0, ([] : List DSpan), (0, 0, 0, 0, ([] : List Int), ([] : List Int), ([] : List (List Int)), ()), ()))) a1).bind fun r7 =>
      bif !r7.2 then
        some (r5, false)
      else
      chk (inb r6 (List.length r5.1)) <|
      (F.impl_RowOk ((List.set r5.1 ((Int.toNat r6)) r7.1, r5.2))).bind fun r8 =>
      bif !r8 then
        (F.impl_copyRow a0).bind fun r9 =>
        some (r9, false)
      else
        some ((List.set r5.1 ((Int.toNat r6)) r7.1, r5.2), true)
    else
    (F.impl_copyEntry a1).bind fun r10 =>
    chk (fits (List.length r5.1 + List.length ([r10])) 144) <|
    (F.impl_RowOk ((r5.1 ++ ([r10]), r5.2))).bind fun r11 =>
    bif !r11 then
      (F.impl_copyRow a0).bind fun r12 =>
      some (r12, false)
    else
      some ((r5.1 ++ ([r10]), r5.2), true)
  else
  (F.impl_copyEntry a1).bind fun r13 =>
  chk (fits (List.length r5.1 + List.length ([r13])) 144) <|
  (F.impl_RowOk ((r5.1 ++ ([r13]), r5.2))).bind fun r14 =>
  bif !r14 then
    (F.impl_copyRow a0).bind fun r15 =>
    some (r15, false)
  else
    some ((r5.1 ++ ([r13]), r5.2), true)
noncomputable def C.impl_RowPush : Con := ⟨[.r (.val (.cons (.sl false 33 y7) .nil)), .r (.val y7), .r (.val .bool)], .many [(.cons (.sl true 33 y6) .nil), .bool], fun x => F.impl_RowPush x.1 x.2.1 x.2.2.1⟩
def L.impl_RowPush : Loops := fun _ => none
noncomputable def K.impl_RowPush : Cons := lookK [(14, [], C.impl_RowOk), (41, [], C.impl_EntryOk), (42, [], C.impl_copyRow), (43, [], C.impl_placeOf), (44, [], C.impl_EntryAdd), (45, [], C.impl_copyEntry)]
theorem run.impl_RowPush : ∀ x, runF tb K.impl_RowPush L.impl_RowPush [] Tryz.f8 C.impl_RowPush x = C.impl_RowPush.fn x := fun x => by kernel_rfl

/-! ### spec.l5Same: function 156 -/
noncomputable def F.spec_l5Same.s4 : ((List DSpan) × (List DSpan) × Int × Unit) → Option (Lp ((List DSpan) × (List DSpan) × Int × Unit) Bool) := fun (x1, x2, x3, _) =>
  bif decide (x3 < (len x1)) then
    chk (inb x3 (List.length x1)) <|
    chk (inb x3 (List.length x2)) <|
    bif !(Ty.eqX (.cons (.int .i64) (.cons (.int .i64) .nil)) (List.getD x1 ((Int.toNat x3)) ((0, 0, ()))) (List.getD x2 ((Int.toNat x3)) ((0, 0, ())))) then
      some (.ret false)
    else
      some (.again (x1, x2, w64 (x3 + 1), ()))
  else
    some (.exit (x1, x2, x3, ()))
noncomputable def F.spec_l5Same (a0 : List DSpan) (a1 : List DSpan) : Option Bool :=
  bif (len a0) != (len a1) then
    some false
  else
  afterO (loopO F.spec_l5Same.s4 (a0, a1, 0, ())) fun (x4, x5, x6, _) =>
  some true
noncomputable def C.spec_l5Same : Con := ⟨[.r (.val (.sl false 102 y5)), .r (.val (.sl false 102 y5))], .one .bool, fun x => F.spec_l5Same x.1 x.2.1⟩
def L.spec_l5Same : Loops := lookL [(4, ⟨[.pat 0 (.val (.sl false 102 y5)), .pat 1 (.val (.sl false 102 y5)), .pat 5 (.val (.int .i64))], 0⟩)]
noncomputable def K.spec_l5Same : Cons := lookK []
theorem run.spec_l5Same : ∀ x, runF tb K.spec_l5Same L.spec_l5Same [] Tryz.f156 C.spec_l5Same x = C.spec_l5Same.fn x := fun x => by kernel_rfl

/-! ### spec.l1Same: function 165 -/
noncomputable def F.spec_l1Same.s4 : ((List Int) × (List Int) × Int × Unit) → Option (Lp ((List Int) × (List Int) × Int × Unit) Bool) := fun (x1, x2, x3, _) =>
  bif decide (x3 < (len x1)) then
    chk (inb x3 (List.length x1)) <|
    chk (inb x3 (List.length x2)) <|
    bif (List.getD x1 ((Int.toNat x3)) 0) != (List.getD x2 ((Int.toNat x3)) 0) then
      some (.ret false)
    else
      some (.again (x1, x2, w64 (x3 + 1), ()))
  else
    some (.exit (x1, x2, x3, ()))
noncomputable def F.spec_l1Same (a0 : List Int) (a1 : List Int) : Option Bool :=
  bif (len a0) != (len a1) then
    some false
  else
  afterO (loopO F.spec_l1Same.s4 (a0, a1, 0, ())) fun (x4, x5, x6, _) =>
  some true
noncomputable def C.spec_l1Same : Con := ⟨[.r (.val (.sl false 3 (.int .i64))), .r (.val (.sl false 3 (.int .i64)))], .one .bool, fun x => F.spec_l1Same x.1 x.2.1⟩
def L.spec_l1Same : Loops := lookL [(4, ⟨[.pat 0 (.val (.sl false 3 (.int .i64))), .pat 1 (.val (.sl false 3 (.int .i64))), .pat 5 (.val (.int .i64))], 0⟩)]
noncomputable def K.spec_l1Same : Cons := lookK []
theorem run.spec_l1Same : ∀ x, runF tb K.spec_l1Same L.spec_l1Same [] Tryz.f165 C.spec_l1Same x = C.spec_l1Same.fn x := fun x => by kernel_rfl

/-! ### spec.SketchSame: function 157 -/
noncomputable def F.spec_SketchSame.s4 : (Int × DSketch × DSketch × Unit) → Option (Lp (Int × DSketch × DSketch × Unit) Bool) := fun (x3, x4, x5, _) =>
  bif decide (x3 < (len x4.2.2.2.2.2.2.1)) then
    chk (inb x3 (List.length x4.2.2.2.2.2.2.1)) <|
    chk (inb x3 (List.length x5.2.2.2.2.2.2.1)) <|
    (F.spec_l1Same (List.getD x4.2.2.2.2.2.2.1 ((Int.toNat x3)) (([] : List Int))) (List.getD x5.2.2.2.2.2.2.1 ((Int.toNat x3)) (([] : List Int)))).bind fun r6 =>
    bif !r6 then
      some (.ret false)
    else
      some (.again (w64 (x3 + 1), x4, x5, ()))
  else
    some (.exit (x3, x4, x5, ()))
noncomputable def F.spec_SketchSame (a0 : DSketch) (a1 : DSketch) : Option Bool :=
  bif a0.1 != a1.1 then
    some false
  else
  bif a0.2.1 != a1.2.1 then
    some false
  else
  bif a0.2.2.1 != a1.2.2.1 then
    some false
  else
  bif a0.2.2.2.1 != a1.2.2.2.1 then
    some false
  else
  (F.spec_l1Same a0.2.2.2.2.1 a1.2.2.2.2.1).bind fun r1 =>
  bif !r1 then
    some false
  else
  (F.spec_l1Same a0.2.2.2.2.2.1 a1.2.2.2.2.2.1).bind fun r2 =>
  bif !r2 then
    some false
  else
  bif (len a0.2.2.2.2.2.2.1) != (len a1.2.2.2.2.2.2.1) then
    some false
  else
  afterO (loopO F.spec_SketchSame.s4 (0, a0, a1, ())) fun (x7, x8, x9, _) =>
  some true
noncomputable def C.spec_SketchSame : Con := ⟨[.r (.val y2), .r (.val y2)], .one .bool, fun x => F.spec_SketchSame x.1 x.2.1⟩
def L.spec_SketchSame : Loops := lookL [(4, ⟨[.pat 5 (.val (.int .i64)), .root 2 true y2 [2], .root 3 true y2 [3]], 0⟩)]
noncomputable def K.spec_SketchSame : Cons := lookK [(165, [], C.spec_l1Same)]
theorem run.spec_SketchSame : ∀ x, runF tb K.spec_SketchSame L.spec_SketchSame [] Tryz.f157 C.spec_SketchSame x = C.spec_SketchSame.fn x := fun x => by kernel_rfl

/-! ### spec.EntrySame: function 116 -/
noncomputable def F.spec_EntrySame (a0 : DEntry) (a1 : DEntry) : Option Bool :=
  bif a0.1 == a1.1 then
    bif a0.2.1 == a1.2.1 then
      (F.spec_l5Same a0.2.2.1 a1.2.2.1).bind fun r1 =>
      bif r1 then
        (F.spec_SketchSame a0.2.2.2.1 a1.2.2.2.1).bind fun r2 =>
        some r2
      else
        some false
    else
      some false
  else
    some false
noncomputable def C.spec_EntrySame : Con := ⟨[.r (.val y7), .r (.val y7)], .one .bool, fun x => F.spec_EntrySame x.1 x.2.1⟩
def L.spec_EntrySame : Loops := fun _ => none
noncomputable def K.spec_EntrySame : Cons := lookK [(156, [], C.spec_l5Same), (157, [], C.spec_SketchSame)]
theorem run.spec_EntrySame : ∀ x, runF tb K.spec_EntrySame L.spec_EntrySame [] Tryz.f116 C.spec_EntrySame x = C.spec_EntrySame.fn x := fun x => by kernel_rfl

/-! ### spec.l10Entries: function 52 -/
noncomputable def F.spec_l10Entries.s4 : ((List DEntry) × (List DEntry) × Int × Unit) → Option (Lp ((List DEntry) × (List DEntry) × Int × Unit) Bool) := fun (x1, x2, x3, _) =>
  bif decide (x3 < (len x1)) then
    chk (inb x3 (List.length x1)) <|
    chk (inb x3 (List.length x2)) <|
    (F.spec_EntrySame (List.getD x1 ((Int.toNat x3)) ((0, 0, ([] : List DSpan), (0, 0, 0, 0, ([] : List Int), ([] : List Int), ([] : List (List Int)), ()), ()))) (List.getD x2 ((Int.toNat x3)) ((0, 0, ([] : List DSpan), (0, 0, 0, 0, ([] : List Int), ([] : List Int), ([] : List (List Int)), ()), ())))).bind fun r4 =>
    bif !r4 then
      some (.ret false)
    else
      some (.again (x1, x2, w64 (x3 + 1), ()))
  else
    some (.exit (x1, x2, x3, ()))
noncomputable def F.spec_l10Entries (a0 : List DEntry) (a1 : List DEntry) : Option Bool :=
  bif (len a0) != (len a1) then
    some false
  else
  afterO (loopO F.spec_l10Entries.s4 (a0, a1, 0, ())) fun (x5, x6, x7, _) =>
  some true
noncomputable def C.spec_l10Entries : Con := ⟨[.r (.val (.sl false 33 y7)), .r (.val (.sl false 33 y7))], .one .bool, fun x => F.spec_l10Entries x.1 x.2.1⟩
def L.spec_l10Entries : Loops := lookL [(4, ⟨[.pat 0 (.val (.sl false 33 y7)), .pat 1 (.val (.sl false 33 y7)), .pat 5 (.val (.int .i64))], 0⟩)]
noncomputable def K.spec_l10Entries : Cons := lookK [(116, [], C.spec_EntrySame)]
theorem run.spec_l10Entries : ∀ x, runF tb K.spec_l10Entries L.spec_l10Entries [] Tryz.f52 C.spec_l10Entries x = C.spec_l10Entries.fn x := fun x => by kernel_rfl

/-! ### spec.RowSame: function 10 -/
noncomputable def F.spec_RowSame (a0 : DRow) (a1 : DRow) : Option Bool :=
  (F.spec_l10Entries a0.1 a1.1).bind fun r1 =>
  some r1
noncomputable def C.spec_RowSame : Con := ⟨[.r (.val (.cons (.sl false 33 y7) .nil)), .r (.val (.cons (.sl false 33 y7) .nil))], .one .bool, fun x => F.spec_RowSame x.1 x.2.1⟩
def L.spec_RowSame : Loops := fun _ => none
noncomputable def K.spec_RowSame : Cons := lookK [(52, [], C.spec_l10Entries)]
theorem run.spec_RowSame : ∀ x, runF tb K.spec_RowSame L.spec_RowSame [] Tryz.f10 C.spec_RowSame x = C.spec_RowSame.fn x := fun x => by kernel_rfl

/-! ### impl.of: function 117 -/
noncomputable def F.impl_of.s3 : (Int × Int × (List DEntry) × (List DEntry) × Int × Int × Unit) → Option (Lp (Int × Int × (List DEntry) × (List DEntry) × Int × Int × Unit) ((List DEntry))) := fun (x1, x2, x3, x4, x5, x6, _) =>
  bif decide (x6 < x5) then
    chk (inb x6 (List.length x4)) <|
    bif ((List.getD x4 ((Int.toNat x6)) ((0, 0, ([] : List DSpan), (0, 0, 0, 0, ([] : List Int), ([] : List Int), ([] : List (List Int)), ()), ()))).1) == x1 then
      bif (((List.getD x4 ((Int.toNat x6)) ((0, 0, ([] : List DSpan), (0, 0, 0, 0, ([] : List Int), ([] : List Int), ([] : List (List Int)), ()), ()))).2).1) == x2 then
        chk (fits (List.length x3 + List.length ([List.getD x4 ((Int.toNat x6)) ((0, 0, ([] : List DSpan), (0, 0, 0, 0, ([] : List Int), ([] : List Int), ([] : List (List Int)), ()), ()))])) 144) <|
        some (.again (x1, x2, x3 ++ ([List.getD x4 ((Int.toNat x6)) ((0, 0, ([] : List DSpan), (0, 0, 0, 0, ([] : List Int), ([] : List Int), ([] : List (List Int)), ()), ()))]), x4, x5, w64 (x6 + 1), ()))
      else
        some (.again (x1, x2, x3, x4, x5, w64 (x6 + 1), ()))
    else
      some (.again (x1, x2, x3, x4, x5, w64 (x6 + 1), ()))
  else
    some (.exit (x1, x2, x3, x4, x5, x6, ()))
noncomputable def F.impl_of (a0 : List DEntry) (a1 : Int) (a2 : Int) : Option ((List DEntry)) :=
  afterO (loopO F.impl_of.s3 (a1, a2, ([] : List DEntry), a0, len a0, 0, ())) fun (x7, x8, x9, x10, x11, x12, _) =>
  some x9
noncomputable def C.impl_of : Con := ⟨[.r (.val (.sl false 33 y7)), .r (.val (.int .i64)), .r (.val (.int .i64))], .one (.sl false 33 y7), fun x => F.impl_of x.1 x.2.1 x.2.2.1⟩
def L.impl_of : Loops := lookL [(3, ⟨[.pat 1 (.val (.int .i64)), .pat 2 (.val (.int .i64)), .own 7 (.sl true 33 y7), .pat 10 (.val (.sl false 33 y7)), .pat 11 (.val (.int .i64)), .pat 12 (.val (.int .i64))], 0⟩)]
noncomputable def K.impl_of : Cons := lookK []
theorem run.impl_of : ∀ x, runF tb K.impl_of L.impl_of [] Tryz.f117 C.impl_of x = C.impl_of.fn x := fun x => by kernel_rfl

/-! ### impl.idsOf: function 58 -/
noncomputable def F.impl_idsOf.s3 : ((List DSpan) × (List DEntry) × Int × Int × Unit) → Option (Lp ((List DSpan) × (List DEntry) × Int × Int × Unit) ((List DSpan))) := fun (x1, x2, x3, x4, _) =>
  bif decide (x4 < x3) then
    chk (inb x4 (List.length x2)) <|
    chk (fits (List.length x1 + List.length ((((List.getD x2 ((Int.toNat x4)) ((0, 0, ([] : List DSpan), (0, 0, 0, 0, ([] : List Int), ([] : List Int), ([] : List (List Int)), ()), ()))).2).2).1)) 16) <|
    some (.again (x1 ++ ((((List.getD x2 ((Int.toNat x4)) ((0, 0, ([] : List DSpan), (0, 0, 0, 0, ([] : List Int), ([] : List Int), ([] : List (List Int)), ()), ()))).2).2).1), x2, x3, w64 (x4 + 1), ()))
  else
    some (.exit (x1, x2, x3, x4, ()))
noncomputable def F.impl_idsOf (a0 : List DEntry) : Option ((List DSpan)) :=
  afterO (loopO F.impl_idsOf.s3 (([] : List DSpan), a0, len a0, 0, ())) fun (x5, x6, x7, x8, _) =>
  (F.impl_union x5).bind fun r9 =>
  some r9
noncomputable def C.impl_idsOf : Con := ⟨[.r (.val (.sl false 33 y7))], .one (.sl true 102 y5), fun x => F.impl_idsOf x.1⟩
def L.impl_idsOf : Loops := lookL [(3, ⟨[.own 3 (.sl true 102 y5), .pat 6 (.val (.sl false 33 y7)), .pat 7 (.val (.int .i64)), .pat 8 (.val (.int .i64))], 0⟩)]
noncomputable def K.impl_idsOf : Cons := lookK [(121, [], C.impl_union)]
theorem run.impl_idsOf : ∀ x, runF tb K.impl_idsOf L.impl_idsOf [] Tryz.f58 C.impl_idsOf x = C.impl_idsOf.fn x := fun x => by kernel_rfl

/-! ### impl.total: function 118 -/
noncomputable def F.impl_total.s3 : ((List DEntry) × (List DEntry) × Int × Int × DEntry × DEntry × Unit) → Option (Lp ((List DEntry) × (List DEntry) × Int × Int × DEntry × DEntry × Unit) DEntry) := fun (x2, x3, x4, x5, x6, x7, _) =>
  bif decide (x5 < x4) then
    chk (inb x5 (List.length x3)) <|
    (F.impl_Merge x7.2.2.2.1 (((((List.getD x3 ((Int.toNat x5)) ((0, 0, ([] : List DSpan), (0, 0, 0, 0, ([] : List Int), ([] : List Int), ([] : List (List Int)), ()), ()))).2).2).2).1)).bind fun r8 =>
    some (.again (x2, x3, x4, w64 (x5 + 1), x6, (x7.1, x7.2.1, x7.2.2.1, r8.1, x7.2.2.2.2), ()))
  else
    some (.exit (x2, x3, x4, x5, x6, x7, ()))
noncomputable def F.impl_total (a0 : List DEntry) : Option DEntry :=
  chk (inb 0 (List.length a0)) <|
  (F.impl_copyEntry (List.getD a0 0 ((0, 0, ([] : List DSpan), (0, 0, 0, 0, ([] : List Int), ([] : List Int), ([] : List (List Int)), ()), ())))).bind fun r1 =>
  chk (cutOk 1 (len a0) (List.length a0)) <|
  afterO (loopO F.impl_total.s3 (a0, List.take ((Int.toNat (len a0)) - 1) (List.drop 1 a0), len (List.take ((Int.toNat (len a0)) - 1) (List.drop 1 a0)), 0, (0, 0, ([] : List DSpan), (0, 0, 0, 0, ([] : List Int), ([] : List Int), ([] : List (List Int)), ()), ()), r1, ())) fun (x9, x10, x11, x12, x13, x14, _) =>
  (F.impl_idsOf x9).bind fun r15 =>
  some (x14.1, x14.2.1, r15, x14.2.2.2)
noncomputable def C.impl_total : Con := ⟨[.r (.val (.sl false 33 y7))], .one y6, fun x => F.impl_total x.1⟩
def L.impl_total : Loops := lookL [(3, ⟨[.pat 0 (.val (.sl false 33 y7)), .pat 11 (.val (.sl false 33 y7)), .pat 12 (.val (.int .i64)), .pat 13 (.val (.int .i64)), .root 2 true y6 [2], .root 3 true y6 [3]], 0⟩)]
noncomputable def K.impl_total : Cons := lookK [(45, [], C.impl_copyEntry), (58, [], C.impl_idsOf), (106, [], C.impl_Merge)]
theorem run.impl_total : ∀ x, runF tb K.impl_total L.impl_total [] Tryz.f118 C.impl_total x = C.impl_total.fn x := fun x => by kernel_rfl

/-! ### impl.sums: function 53 -/
noncomputable def F.impl_sums.s6 : ((List DEntry) × (List DEntry) × Int × Int × Unit) → Option (Lp ((List DEntry) × (List DEntry) × Int × Int × Unit) (Lp ((List DEntry) × (List DEntry) × Int × Unit) ((List DEntry)))) := fun (x4, x5, x6, x7, _) =>
  bif decide (x7 ≤ 20) then
    (F.impl_of x4 x6 x7).bind fun r8 =>
    bif decide ((len r8) > 0) then
      (F.impl_total r8).bind fun r9 =>
      chk (fits (List.length x5 + List.length ([r9])) 144) <|
      some (.again (x4, x5 ++ ([r9]), x6, w64 (x7 + 1), ()))
    else
      some (.again (x4, x5, x6, w64 (x7 + 1), ()))
  else
    some (.exit (x4, x5, x6, x7, ()))
noncomputable def F.impl_sums.s3 : ((List DEntry) × (List DEntry) × Int × Unit) → Option (Lp ((List DEntry) × (List DEntry) × Int × Unit) ((List DEntry))) := fun (x1, x2, x3, _) =>
  bif decide (x3 ≤ 4) then
    afterO (loopO F.impl_sums.s6 (x1, x2, x3, 0, ())) fun (x10, x11, x12, x13, _) =>
    some (.again (x10, x11, w64 (x12 + 1), ()))
  else
    some (.exit (x1, x2, x3, ()))
noncomputable def F.impl_sums (a0 : List DEntry) : Option ((List DEntry)) :=
  afterO (loopO F.impl_sums.s3 (a0, ([] : List DEntry), 0, ())) fun (x14, x15, x16, _) =>
  some x15
noncomputable def C.impl_sums : Con := ⟨[.r (.val (.sl false 33 y7))], .one (.sl true 33 y6), fun x => F.impl_sums x.1⟩
def L.impl_sums : Loops := lookL [(6, ⟨[.pat 0 (.val (.sl false 33 y7)), .own 3 (.sl true 33 y6), .pat 4 (.val (.int .i64)), .pat 5 (.val (.int .i64))], 2⟩), (3, ⟨[.pat 0 (.val (.sl false 33 y7)), .own 3 (.sl true 33 y6), .pat 4 (.val (.int .i64))], 0⟩)]
noncomputable def K.impl_sums : Cons := lookK [(117, [], C.impl_of), (118, [], C.impl_total)]
theorem run.impl_sums : ∀ x, runF tb K.impl_sums L.impl_sums [] Tryz.f53 C.impl_sums x = C.impl_sums.fn x := fun x => by kernel_rfl

/-! ### impl.RowSum: function 11 -/
noncomputable def F.impl_RowSum (a0 : DRow) : Option ((List DEntry)) :=
  (F.impl_RowOk a0).bind fun r1 =>
  bif !r1 then
    some ([] : List DEntry)
  else
  (F.impl_sums a0.1).bind fun r2 =>
  some r2
noncomputable def C.impl_RowSum : Con := ⟨[.r (.val (.cons (.sl false 33 y7) .nil))], .one (.sl true 33 y6), fun x => F.impl_RowSum x.1⟩
def L.impl_RowSum : Loops := fun _ => none
noncomputable def K.impl_RowSum : Cons := lookK [(14, [], C.impl_RowOk), (53, [], C.impl_sums)]
theorem run.impl_RowSum : ∀ x, runF tb K.impl_RowSum L.impl_RowSum [] Tryz.f11 C.impl_RowSum x = C.impl_RowSum.fn x := fun x => by kernel_rfl

/-! ### impl.RowPop: function 12 -/
noncomputable def F.impl_RowPop (a0 : DRow) : Option (DEntry × DRow × Bool) :=
  (F.impl_copyRow a0).bind fun r1 =>
  (F.impl_RowOk a0).bind fun r2 =>
  bif !r2 then
    some ((0, 0, ([] : List DSpan), (0, 0, 0, 0, ([] : List Int), ([] : List Int), ([] : List (List Int)), ()), ()), r1, false)
  else
  bif (len a0.1) == 0 then
    some ((0, 0, ([] : List DSpan), (0, 0, 0, 0, ([] : List Int), ([] : List Int), ([] : List (List Int)), ()), ()), r1, false)
  else
  chk (inb 0 (List.length r1.1)) <|
  chk (cutOk 1 (len r1.1) (List.length r1.1)) <|
  some (List.getD r1.1 0 ((0, 0, ([] : List DSpan), (0, 0, 0, 0, ([] : List Int), ([] : List Int), ([] : List (List Int)), ()), ())), (List.take ((Int.toNat (len r1.1)) - 1) (List.drop 1 r1.1), ()), true)
noncomputable def C.impl_RowPop : Con := ⟨[.r (.val (.cons (.sl false 33 y7) .nil))], .many [y6, (.cons (.sl true 33 y6) .nil), .bool], fun x => F.impl_RowPop x.1⟩
def L.impl_RowPop : Loops := lookL [(2000004, ⟨[.pat 26 .nil], 8⟩)]
noncomputable def K.impl_RowPop : Cons := lookK [(14, [], C.impl_RowOk), (42, [], C.impl_copyRow)]
theorem run.impl_RowPop : ∀ x, runF tb K.impl_RowPop L.impl_RowPop [] Tryz.f12 C.impl_RowPop x = C.impl_RowPop.fn x := fun x => by kernel_rfl

/-! ### slices.Equal[[]impl.Span,impl.Span]: function 54 -/
noncomputable def F.slices_Equal_Span.s4 : ((List DSpan) × (List DSpan) × Int × Int × Unit) → Option (Lp ((List DSpan) × (List DSpan) × Int × Int × Unit) Bool) := fun (x1, x2, x3, x4, _) =>
  bif decide (x4 < x3) then
    chk (inb x4 (List.length x1)) <|
    chk (inb x4 (List.length x2)) <|
    bif !(Ty.eqX (.cons (.int .i64) (.cons (.int .i64) .nil)) (List.getD x1 ((Int.toNat x4)) ((0, 0, ()))) (List.getD x2 ((Int.toNat x4)) ((0, 0, ())))) then
      some (.ret false)
    else
      some (.again (x1, x2, x3, w64 (x4 + 1), ()))
  else
    some (.exit (x1, x2, x3, x4, ()))
noncomputable def F.slices_Equal_Span (a0 : List DSpan) (a1 : List DSpan) : Option Bool :=
  bif (len a0) != (len a1) then
    some false
  else
  afterO (loopO F.slices_Equal_Span.s4 (a0, a1, len a0, 0, ())) fun (x5, x6, x7, x8, _) =>
  some true
noncomputable def C.slices_Equal_Span : Con := ⟨[.r (.val (.sl false 102 y5)), .r (.val (.sl false 102 y5))], .one .bool, fun x => F.slices_Equal_Span x.1 x.2.1⟩
def L.slices_Equal_Span : Loops := lookL [(4, ⟨[.pat 0 (.val (.sl false 102 y5)), .pat 1 (.val (.sl false 102 y5)), .pat 12 (.val (.int .i64)), .pat 13 (.val (.int .i64))], 0⟩)]
noncomputable def K.slices_Equal_Span : Cons := lookK []
theorem run.slices_Equal_Span : ∀ x, runF tb K.slices_Equal_Span L.slices_Equal_Span [] Tryz.f54 C.slices_Equal_Span x = C.slices_Equal_Span.fn x := fun x => by kernel_rfl

/-! ### slices.Equal[[]int,int]: function 119 -/
noncomputable def F.slices_Equal_int.s4 : ((List Int) × (List Int) × Int × Int × Unit) → Option (Lp ((List Int) × (List Int) × Int × Int × Unit) Bool) := fun (x1, x2, x3, x4, _) =>
  bif decide (x4 < x3) then
    chk (inb x4 (List.length x1)) <|
    chk (inb x4 (List.length x2)) <|
    bif (List.getD x1 ((Int.toNat x4)) 0) != (List.getD x2 ((Int.toNat x4)) 0) then
      some (.ret false)
    else
      some (.again (x1, x2, x3, w64 (x4 + 1), ()))
  else
    some (.exit (x1, x2, x3, x4, ()))
noncomputable def F.slices_Equal_int (a0 : List Int) (a1 : List Int) : Option Bool :=
  bif (len a0) != (len a1) then
    some false
  else
  afterO (loopO F.slices_Equal_int.s4 (a0, a1, len a0, 0, ())) fun (x5, x6, x7, x8, _) =>
  some true
noncomputable def C.slices_Equal_int : Con := ⟨[.r (.val (.sl false 3 (.int .i64))), .r (.val (.sl false 3 (.int .i64)))], .one .bool, fun x => F.slices_Equal_int x.1 x.2.1⟩
def L.slices_Equal_int : Loops := lookL [(4, ⟨[.pat 0 (.val (.sl false 3 (.int .i64))), .pat 1 (.val (.sl false 3 (.int .i64))), .pat 12 (.val (.int .i64)), .pat 13 (.val (.int .i64))], 0⟩)]
noncomputable def K.slices_Equal_int : Cons := lookK []
theorem run.slices_Equal_int : ∀ x, runF tb K.slices_Equal_int L.slices_Equal_int [] Tryz.f119 C.slices_Equal_int x = C.slices_Equal_int.fn x := fun x => by kernel_rfl

/-! ### slices.EqualFunc[[][]int,[][]int,[]int,[]int]: function 120 -/
noncomputable def F.slices_EqualFunc_SSint__slices_Equal_int.s4 : ((List (List Int)) × Unit × (List (List Int)) × Int × Int × Unit) → Option (Lp ((List (List Int)) × Unit × (List (List Int)) × Int × Int × Unit) Bool) := fun (x1, x2, x3, x4, x5, _) =>
  bif decide (x5 < x4) then
    chk (inb x5 (List.length x3)) <|
    chk (inb x5 (List.length x1)) <|
    (F.slices_Equal_int (List.getD x3 ((Int.toNat x5)) (([] : List Int))) (List.getD x1 ((Int.toNat x5)) (([] : List Int)))).bind fun r6 =>
    bif !r6 then
      some (.ret false)
    else
      some (.again (x1, (), x3, x4, w64 (x5 + 1), ()))
  else
    some (.exit (x1, (), x3, x4, x5, ()))
noncomputable def F.slices_EqualFunc_SSint__slices_Equal_int (a0 : List (List Int)) (a1 : List (List Int)) (a2 : Unit) : Option Bool :=
  bif (len a0) != (len a1) then
    some false
  else
  afterO (loopO F.slices_EqualFunc_SSint__slices_Equal_int.s4 (a1, (), a0, len a0, 0, ())) fun (x7, x8, x9, x10, x11, _) =>
  some true
noncomputable def C.slices_EqualFunc_SSint__slices_Equal_int : Con := ⟨[.r (.val (.sl false 28 (.sl false 3 (.int .i64)))), .r (.val (.sl false 28 (.sl false 3 (.int .i64)))), .r (.fn 119 .nil)], .one .bool, fun x => F.slices_EqualFunc_SSint__slices_Equal_int x.1 x.2.1 x.2.2.1⟩
def L.slices_EqualFunc_SSint__slices_Equal_int : Loops := lookL [(4, ⟨[.pat 1 (.val (.sl false 28 (.sl false 3 (.int .i64)))), .pat 2 (.fn 119 .nil), .pat 15 (.val (.sl false 28 (.sl false 3 (.int .i64)))), .pat 16 (.val (.int .i64)), .pat 17 (.val (.int .i64))], 0⟩)]
noncomputable def K.slices_EqualFunc_SSint__slices_Equal_int : Cons := lookK [(119, [], C.slices_Equal_int)]
theorem run.slices_EqualFunc_SSint__slices_Equal_int : ∀ x, runF tb K.slices_EqualFunc_SSint__slices_Equal_int L.slices_EqualFunc_SSint__slices_Equal_int [] Tryz.f120 C.slices_EqualFunc_SSint__slices_Equal_int x = C.slices_EqualFunc_SSint__slices_Equal_int.fn x := fun x => by kernel_rfl

/-! ### impl.SketchSame: function 55 -/
noncomputable def F.impl_SketchSame (a0 : DSketch) (a1 : DSketch) : Option Bool :=
  bif a0.1 == a1.1 then
    bif a0.2.1 == a1.2.1 then
      bif a0.2.2.1 == a1.2.2.1 then
        bif a0.2.2.2.1 == a1.2.2.2.1 then
          (F.slices_Equal_int a0.2.2.2.2.1 a1.2.2.2.2.1).bind fun r1 =>
          bif r1 then
            (F.slices_Equal_int a0.2.2.2.2.2.1 a1.2.2.2.2.2.1).bind fun r2 =>
            bif r2 then
              (F.slices_EqualFunc_SSint__slices_Equal_int a0.2.2.2.2.2.2.1 a1.2.2.2.2.2.2.1 (())).bind fun r3 =>
              some r3
            else
              some false
          else
            some false
        else
          some false
      else
        some false
    else
      some false
  else
    some false
noncomputable def C.impl_SketchSame : Con := ⟨[.r (.val y2), .r (.val y2)], .one .bool, fun x => F.impl_SketchSame x.1 x.2.1⟩
def L.impl_SketchSame : Loops := fun _ => none
noncomputable def K.impl_SketchSame : Cons := lookK [(119, [], C.slices_Equal_int), (120, [119], C.slices_EqualFunc_SSint__slices_Equal_int)]
theorem run.impl_SketchSame : ∀ x, runF tb K.impl_SketchSame L.impl_SketchSame [] Tryz.f55 C.impl_SketchSame x = C.impl_SketchSame.fn x := fun x => by kernel_rfl

/-! ### impl.EntrySame: function 13 -/
noncomputable def F.impl_EntrySame (a0 : DEntry) (a1 : DEntry) : Option Bool :=
  bif a0.1 == a1.1 then
    bif a0.2.1 == a1.2.1 then
      (F.slices_Equal_Span a0.2.2.1 a1.2.2.1).bind fun r1 =>
      bif r1 then
        (F.impl_SketchSame a0.2.2.2.1 a1.2.2.2.1).bind fun r2 =>
        some r2
      else
        some false
    else
      some false
  else
    some false
noncomputable def C.impl_EntrySame : Con := ⟨[.r (.val y7), .r (.val y7)], .one .bool, fun x => F.impl_EntrySame x.1 x.2.1⟩
def L.impl_EntrySame : Loops := fun _ => none
noncomputable def K.impl_EntrySame : Cons := lookK [(54, [], C.slices_Equal_Span), (55, [], C.impl_SketchSame)]
theorem run.impl_EntrySame : ∀ x, runF tb K.impl_EntrySame L.impl_EntrySame [] Tryz.f13 C.impl_EntrySame x = C.impl_EntrySame.fn x := fun x => by kernel_rfl

/-! ### impl.RowIds: function 16 -/
noncomputable def F.impl_RowIds (a0 : DRow) : Option ((List DSpan)) :=
  (F.impl_RowOk a0).bind fun r1 =>
  bif !r1 then
    some ([] : List DSpan)
  else
  (F.impl_idsOf a0.1).bind fun r2 =>
  some r2
noncomputable def C.impl_RowIds : Con := ⟨[.r (.val (.cons (.sl false 33 y7) .nil))], .one (.sl true 102 y5), fun x => F.impl_RowIds x.1⟩
def L.impl_RowIds : Loops := fun _ => none
noncomputable def K.impl_RowIds : Cons := lookK [(14, [], C.impl_RowOk), (58, [], C.impl_idsOf)]
theorem run.impl_RowIds : ∀ x, runF tb K.impl_RowIds L.impl_RowIds [] Tryz.f16 C.impl_RowIds x = C.impl_RowIds.fn x := fun x => by kernel_rfl

/-! ### impl.SetSize: function 15 -/
noncomputable def F.impl_SetSize.s5 : (Int × (List DSpan) × Int × Int × Unit) → Option (Lp (Int × (List DSpan) × Int × Int × Unit) Int) := fun (x2, x3, x4, x5, _) =>
  bif decide (x5 < x4) then
    chk (inb x5 (List.length x3)) <|
    some (.again (w64 (x2 + (w64 ((w64 ((((List.getD x3 ((Int.toNat x5)) ((0, 0, ()))).2).1) - ((List.getD x3 ((Int.toNat x5)) ((0, 0, ()))).1))) + 1))), x3, x4, w64 (x5 + 1), ()))
  else
    some (.exit (x2, x3, x4, x5, ()))
noncomputable def F.impl_SetSize (a0 : List DSpan) : Option Int :=
  (F.impl_SetOk a0).bind fun r1 =>
  bif !r1 then
    some 0
  else
  afterO (loopO F.impl_SetSize.s5 (0, a0, len a0, 0, ())) fun (x6, x7, x8, x9, _) =>
  some x6
noncomputable def C.impl_SetSize : Con := ⟨[.r (.val (.sl false 102 y5))], .one (.int .i64), fun x => F.impl_SetSize x.1⟩
def L.impl_SetSize : Loops := lookL [(5, ⟨[.pat 3 (.val (.int .i64)), .pat 9 (.val (.sl false 102 y5)), .pat 10 (.val (.int .i64)), .pat 11 (.val (.int .i64))], 0⟩)]
noncomputable def K.impl_SetSize : Cons := lookK [(57, [], C.impl_SetOk)]
theorem run.impl_SetSize : ∀ x, runF tb K.impl_SetSize L.impl_SetSize [] Tryz.f15 C.impl_SetSize x = C.impl_SetSize.fn x := fun x => by kernel_rfl

/-! ### laws.FnRows: function 3 -/
noncomputable def F.laws_FnRows.s20 : ((List DEntry) × (List DEntry) × Int × DRow × DEntry × DRow × Unit) → Option (Lp ((List DEntry) × (List DEntry) × Int × DRow × DEntry × DRow × Unit) Bool) := fun (x13, x14, x15, x16, x17, x18, _) =>
  bif decide (x15 < (len x13)) then
    bif (len x13) == (len x14) then
      chk (inb x15 (List.length x13)) <|
      chk (inb x15 (List.length x14)) <|
      (F.impl_EntrySame (List.getD x13 ((Int.toNat x15)) ((0, 0, ([] : List DSpan), (0, 0, 0, 0, ([] : List Int), ([] : List Int), ([] : List (List Int)), ()), ()))) (List.getD x14 ((Int.toNat x15)) ((0, 0, ([] : List DSpan), (0, 0, 0, 0, ([] : List Int), ([] : List Int), ([] : List (List Int)), ()), ())))).bind fun r19 =>
      bif !r19 then
        some (.ret false)
      else
        some (.again (x13, x14, w64 (x15 + 1), x16, x17, x18, ()))
    else
      some (.exit (x13, x14, x15, x16, x17, x18, ()))
  else
    some (.exit (x13, x14, x15, x16, x17, x18, ()))
noncomputable def F.laws_FnRows (a0 : List Int) : Option Bool :=
  (F.laws_big a0).bind fun r1 =>
  bif r1 then
    some true
  else
  (F.spec_DrawRowPush a0).bind fun r2 =>
  (F.impl_RowPush r2.1 r2.2.1 r2.2.2).bind fun r3 =>
  (F.spec_RowPush r2.1 r2.2.1 r2.2.2).bind fun r4 =>
  bif !(r3.2 == r4.2) then
    some false
  else
  bif !r3.2 then
    (F.spec_RowSame r3.1 r2.1).bind fun r5 =>
    some r5
  else
  (F.impl_RowPush r2.1 r2.2.1 (!r2.2.2)).bind fun r6 =>
  (F.impl_RowSum r3.1).bind fun r7 =>
  (F.impl_RowSum r6.1).bind fun r8 =>
  bif (len r7) != (len r8) then
    bif decide ((len r6.1.1) > (len r2.1.1)) then
      some false
    else
    (F.impl_RowPush r3.1 r2.2.1 r2.2.2).bind fun r9 =>
    (F.impl_RowPop r3.1).bind fun r10 =>
    bif r9.2 then
      some false
    else
    bif !r10.2.2 then
      some false
    else
    bif (len r10.2.1.1) != (w64 ((len r3.1.1) - 1)) then
      some false
    else
    chk (inb 0 (List.length r3.1.1)) <|
    (F.impl_EntrySame r10.1 (List.getD r3.1.1 0 ((0, 0, ([] : List DSpan), (0, 0, 0, 0, ([] : List Int), ([] : List Int), ([] : List (List Int)), ()), ())))).bind fun r11 =>
    bif !r11 then
      some false
    else
    (F.impl_RowOk r3.1).bind fun r12 =>
    bif !r12 then
      some false
    else
    afterO (loopO F.laws_FnRows.s20 (r7, r8, 0, r2.1, r2.2.1, r3.1, ())) fun (x20, x21, x22, x23, x24, x25, _) =>
    (F.impl_RowIds x25).bind fun r26 =>
    (F.impl_SetSize r26).bind fun r27 =>
    (F.impl_RowIds x23).bind fun r28 =>
    (F.impl_SetSize r28).bind fun r29 =>
    (F.impl_SetSize x24.2.2.1).bind fun r30 =>
    bif r27 == (w64 (r29 + r30)) then
      some (decide ((len x25.1) ≤ (w64 ((len x23.1) + 1))))
    else
      some false
  else
  (F.impl_RowPush r3.1 r2.2.1 r2.2.2).bind fun r31 =>
  (F.impl_RowPop r3.1).bind fun r32 =>
  bif r31.2 then
    some false
  else
  bif !r32.2.2 then
    some false
  else
  bif (len r32.2.1.1) != (w64 ((len r3.1.1) - 1)) then
    some false
  else
  chk (inb 0 (List.length r3.1.1)) <|
  (F.impl_EntrySame r32.1 (List.getD r3.1.1 0 ((0, 0, ([] : List DSpan), (0, 0, 0, 0, ([] : List Int), ([] : List Int), ([] : List (List Int)), ()), ())))).bind fun r33 =>
  bif !r33 then
    some false
  else
  (F.impl_RowOk r3.1).bind fun r34 =>
  bif !r34 then
    some false
  else
  afterO (loopO F.laws_FnRows.s20 (r7, r8, 0, r2.1, r2.2.1, r3.1, ())) fun (x42, x43, x44, x45, x46, x47, _) =>
  (F.impl_RowIds x47).bind fun r48 =>
  (F.impl_SetSize r48).bind fun r49 =>
  (F.impl_RowIds x45).bind fun r50 =>
  (F.impl_SetSize r50).bind fun r51 =>
  (F.impl_SetSize x46.2.2.1).bind fun r52 =>
  bif r49 == (w64 (r51 + r52)) then
    some (decide ((len x47.1) ≤ (w64 ((len x45.1) + 1))))
  else
    some false
noncomputable def C.laws_FnRows : Con := ⟨[.r (.val (.sl false 5 (.int .u8)))], .one .bool, fun x => F.laws_FnRows x.1⟩
def L.laws_FnRows : Loops := lookL [(20, ⟨[.own 12 (.sl true 33 y6), .own 13 (.sl true 33 y6), .pat 19 (.val (.int .i64)), .root 3 true (.cons (.sl false 33 y7) .nil) [3], .root 4 true y7 [4], .root 6 true (.cons (.sl true 33 y6) .nil) [6]], 0⟩)]
noncomputable def K.laws_FnRows : Cons := lookK [(6, [], C.laws_big), (7, [], C.spec_DrawRowPush), (8, [], C.impl_RowPush), (9, [], C.spec_RowPush), (10, [], C.spec_RowSame), (11, [], C.impl_RowSum), (12, [], C.impl_RowPop), (13, [], C.impl_EntrySame), (14, [], C.impl_RowOk), (15, [], C.impl_SetSize), (16, [], C.impl_RowIds)]
theorem run.laws_FnRows : ∀ x, runF tb K.laws_FnRows L.laws_FnRows [] Tryz.f3 C.laws_FnRows x = C.laws_FnRows.fn x := fun x => by kernel_rfl
end Go.Proofs.YtnpmjlppjcemmaaGreat.Vm
