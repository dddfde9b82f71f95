import Derived.Test.YtipaepbmdooekaaGreatDoorV1
import Derived.Test.YtipaepbmdooekaaGreatDoorProg
import Derived.Test.YtipaepbmdooekaaGreatDoorVS0
import Derived.Test.YtipaepbmdooekaaGreatDoorVX
import Derived.KernelRfl
namespace Go.Proofs.YtipaepbmdooekaaGreatDoor.Vm
open Go Go.RowKit
set_option maxRecDepth 100000
set_option linter.unusedVariables false
def lookL (l : List (Nat × Loop)) : Loops := fun n => lookN l n
def eqNs : List Nat → List Nat → Bool
  | [], [] => true
  | a :: l, b :: m => Nat.beq a b && eqNs l m
  | _, _ => false
def lookK : List (FuncId × List Nat × Con) → Cons
  | [], _, _ => none
  | (f, ks, c) :: l, g, xs => bif Nat.beq f g && eqNs ks xs then some c else lookK l g xs
abbrev Stp (T A : Type) : Type := T → Option (Lp T A)
abbrev DSketch : Type := Int × Int × Int × Int × (List Int) × (List Int) × (List (List Int)) × Unit
abbrev DItem : Type := Int × Int × Int × Int × DSketch × Unit
abbrev DSpan : Type := Int × Int × Unit
abbrev DL1Cur : Type := (List Int) × Int × Int × Unit
abbrev DAgent : Type := Int × Int × Bool × Int × (List DItem) × (List DSpan) × Int × Unit
abbrev DFrame : Type := Int × Int × Int × Int × (List DSpan) × DItem × Unit
abbrev y0 : Ty := .cons (.sl false 5 (.int .u8)) (.cons (.int .i64) (.cons (.int .i64) .nil))
abbrev y1 : Ty := .cons (.int .i64) (.cons (.int .i64) .nil)
abbrev y2 : Ty := .cons (.int .i64) (.cons (.int .i64) (.cons (.int .i64) (.cons (.int .i64) (.cons (.sl false 3 (.int .i64)) (.cons (.sl false 3 (.int .i64)) (.cons (.sl false 28 (.sl false 3 (.int .i64))) .nil))))))
abbrev y3 : Ty := .cons (.int .i64) (.cons (.int .i64) (.cons (.int .i64) (.cons (.int .i64) (.cons y2 .nil))))
abbrev y4 : Ty := .cons (.int .i64) (.cons (.int .i64) (.cons .bool (.cons (.int .i64) (.cons (.sl false 33 y3) (.cons (.sl false 51 y1) (.cons (.int .i64) .nil))))))
abbrev y5 : Ty := .cons (.int .i64) (.cons (.int .i64) (.cons (.int .i64) (.cons (.int .i64) (.cons (.sl true 3 (.int .i64)) (.cons (.sl true 3 (.int .i64)) (.cons (.sl true 28 (.sl true 3 (.int .i64))) .nil))))))
abbrev y6 : Ty := .cons (.int .i64) (.cons (.int .i64) (.cons (.int .i64) (.cons (.int .i64) (.cons y5 .nil))))
abbrev y7 : Ty := .cons (.int .i64) (.cons (.int .i64) (.cons .bool (.cons (.int .i64) (.cons (.sl true 33 y6) (.cons (.sl true 51 y1) (.cons (.int .i64) .nil))))))
abbrev y8 : Ty := .cons (.int .i64) (.cons (.int .i64) (.cons (.int .i64) (.cons (.int .i64) (.cons (.sl true 51 y1) (.cons y6 .nil)))))
abbrev y9 : Ty := .cons (.int .i64) (.cons (.int .i64) (.cons (.int .i64) (.cons (.int .i64) (.cons (.sl false 51 y1) (.cons y3 .nil)))))
def tb : List (TypeId × TRow) := [
  (2, ⟨(.int .i64), 8, []⟩),
  (3, ⟨(.int .i64), 8, []⟩),
  (4, ⟨.bool, 1, []⟩),
  (5, ⟨(.int .u8), 1, []⟩),
  (6, ⟨(.int .u8), 1, []⟩),
  (9, ⟨.str, 16, []⟩),
  (10, ⟨.str, 16, []⟩),
  (11, ⟨.str, 16, []⟩),
  (12, ⟨(.int .u64), 8, []⟩),
  (21, ⟨(.int .i32), 4, []⟩),
  (22, ⟨(.sl false 5 (.int .u8)), 24, []⟩),
  (24, ⟨(.sl false 33 y3), 24, []⟩),
  (25, ⟨(.sl false 51 y1), 24, []⟩),
  (26, ⟨y4, 88, [3, 3, 4, 3, 24, 25, 3]⟩),
  (27, ⟨y4, 88, [3, 3, 4, 3, 24, 25, 3]⟩),
  (28, ⟨(.sl false 3 (.int .i64)), 24, []⟩),
  (29, ⟨(.sl false 28 (.sl false 3 (.int .i64))), 24, []⟩),
  (30, ⟨y2, 104, [3, 3, 3, 3, 28, 28, 29]⟩),
  (31, ⟨y2, 104, [3, 3, 3, 3, 28, 28, 29]⟩),
  (32, ⟨y3, 136, [3, 3, 3, 3, 31]⟩),
  (33, ⟨y3, 136, [3, 3, 3, 3, 31]⟩),
  (34, ⟨y9, 192, [3, 3, 3, 3, 25, 33]⟩),
  (35, ⟨y9, 192, [3, 3, 3, 3, 25, 33]⟩),
  (50, ⟨y1, 16, [3, 3]⟩),
  (51, ⟨y1, 16, [3, 3]⟩),
  (59, ⟨(.sl false 9 .str), 24, []⟩),
  (66, ⟨y0, 40, [22, 3, 3]⟩),
  (67, ⟨y0, 40, [22, 3, 3]⟩),
  (92, ⟨(.int .u64), 8, []⟩),
  (111, ⟨(.int .i64), 8, []⟩),
  (119, ⟨(.int .u32), 4, []⟩),
  (121, ⟨(.int .u64), 8, []⟩),
  (129, ⟨(.int .u64), 8, []⟩),
  (150, ⟨(.int .u8), 1, []⟩),
  (151, ⟨(.int .u8), 1, []⟩),
  (153, ⟨(.int .i32), 4, []⟩),
  (154, ⟨(.int .i32), 4, []⟩)]
def L0 : Loops := fun _ => none
abbrev Rn (K : Cons) (L : Loops) (ids : List Nat) (f : Func) (c : Con) : Prop := ∀ x, runF tb K L ids f c x = c.fn x

/-! ### laws.big: function 4 -/
noncomputable def F.laws_big (a0 : List Int) : Option Bool :=
  some (decide ((len a0) > 1048576))
noncomputable def C.laws_big : Con := ⟨[.r (.val (.sl false 5 (.int .u8)))], .one .bool, fun x => F.laws_big x.1⟩
noncomputable def K.laws_big : Cons := lookK []
theorem run.laws_big : Rn K.laws_big L0 [] Tryz.f4 C.laws_big := fun x => by kernel_rfl

/-! ### spec.l1New: function 11 -/
noncomputable def F.spec_l1New.s3 : Stp ((List Int) × Int × Int × Unit) DL1Cur := fun (x1, x2, x3, _) =>
  bif decide (x3 < (len x1)) then
    bif decide (x3 < 4000) then
      chk (inb x3 x1.length) <|
      some (.again (x1, ibits .and .i64 (w64 ((w64 ((w64 (x2 * 131)) + (w64 (x1.getD x3.toNat 0)))) + 7)) 1073741823, w64 (x3 + 1), ()))
    else
      some (.exit (x1, x2, x3, ()))
  else
    some (.exit (x1, x2, x3, ()))
noncomputable def F.spec_l1New (a0 : List Int) : Option DL1Cur :=
  afterO (loopO F.spec_l1New.s3 (a0, w64 (26583 + (len a0)), 0, ())) fun (x4, x5, x6, _) =>
  some (x4, 0, x5, ())
noncomputable def C.spec_l1New : Con := ⟨[.r (.val (.sl false 5 (.int .u8)))], .ptr y0, fun x => F.spec_l1New x.1⟩
def L.spec_l1New : Loops := lookL [(3, ⟨[.pat 0 (.val (.sl false 5 (.int .u8))), .pat 3 (.val (.int .i64)), .pat 4 (.val (.int .i64))], 0⟩)]
noncomputable def K.spec_l1New : Cons := lookK []
theorem run.spec_l1New : Rn K.spec_l1New L.spec_l1New [] Tryz.f11 C.spec_l1New := fun x => by kernel_rfl

/-! ### spec.l1Byte: function 38 -/
noncomputable def F.spec_l1Byte (a0 : DL1Cur) : Option (Int × DL1Cur) :=
  bif decide (a0.2.1 < (len a0.1)) then
    chk (inb a0.2.1 a0.1.length) <|
    some (ibits .and .i64 (w64 ((ibits .and .i64 (ibits .xor .i64 (Int.fdiv (w64 ((w64 (a0.2.2.1 * 6364136223846793005)) + 1442695040888963407)) (2 ^ (min 33 64))) (Int.fdiv (w64 ((w64 (a0.2.2.1 * 6364136223846793005)) + 1442695040888963407)) (2 ^ (min 45 64)))) 255) + (w64 (a0.1.getD (Int.toNat a0.2.1) 0)))) 255, (a0.1, w64 (a0.2.1 + 1), w64 ((w64 (a0.2.2.1 * 6364136223846793005)) + 1442695040888963407), a0.2.2.2))
  else
    some (ibits .and .i64 (ibits .xor .i64 (Int.fdiv (w64 ((w64 (a0.2.2.1 * 6364136223846793005)) + 1442695040888963407)) (2 ^ (min 33 64))) (Int.fdiv (w64 ((w64 (a0.2.2.1 * 6364136223846793005)) + 1442695040888963407)) (2 ^ (min 45 64)))) 255, (a0.1, a0.2.1, w64 ((w64 (a0.2.2.1 * 6364136223846793005)) + 1442695040888963407), a0.2.2.2))
noncomputable def C.spec_l1Byte : Con := ⟨[.p y0 y0], .one (.int .i64), fun x => F.spec_l1Byte x.1⟩
noncomputable def K.spec_l1Byte : Cons := lookK []
theorem run.spec_l1Byte : Rn K.spec_l1Byte L0 [0] Tryz.f38 C.spec_l1Byte := fun x => by kernel_rfl

/-! ### spec.l1Below: function 15 -/
noncomputable def F.spec_l1Below (a0 : DL1Cur) (a1 : Int) : Option (Int × DL1Cur) :=
  bif decide (a1 ≤ 0) then
    some (0, a0)
  else
  bif decide (a1 ≤ 256) then
    (F.spec_l1Byte a0).bind fun r1 =>
    nchk (a1 == 0) <|
    some (Int.tmod r1.1 a1, r1.2)
  else
  (F.spec_l1Byte a0).bind fun r2 =>
  (F.spec_l1Byte r2.2).bind fun r3 =>
  (F.spec_l1Byte r3.2).bind fun r4 =>
  (F.spec_l1Byte r4.2).bind fun r5 =>
  nchk (a1 == 0) <|
  some (Int.tmod (w64 ((w64 ((w64 ((w64 (r2.1 * 16777216)) + (w64 (r3.1 * 65536)))) + (w64 (r4.1 * 256)))) + r5.1)) a1, r5.2)
noncomputable def C.spec_l1Below : Con := ⟨[.p y0 y0, .r (.val (.int .i64))], .one (.int .i64), fun x => F.spec_l1Below x.1 x.2.1⟩
noncomputable def K.spec_l1Below : Cons := lookK [(38, [], C.spec_l1Byte)]
theorem run.spec_l1Below : Rn K.spec_l1Below L0 [0] Tryz.f15 C.spec_l1Below := fun x => by kernel_rfl

/-! ### spec.l1In: function 44 -/
noncomputable def F.spec_l1In (a0 : Int) (a1 : Int) (a2 : Int) : Option Bool :=
  bif decide (a0 ≥ a1) then
    some (decide (a0 ≤ a2))
  else
    some false
noncomputable def C.spec_l1In : Con := ⟨[.r (.val (.int .i64)), .r (.val (.int .i64)), .r (.val (.int .i64))], .one .bool, fun x => F.spec_l1In x.1 x.2.1 x.2.2.1⟩
noncomputable def K.spec_l1In : Cons := lookK []
theorem run.spec_l1In : Rn K.spec_l1In L0 [] Tryz.f44 C.spec_l1In := fun x => by kernel_rfl

/-! ### spec.l6Agent: function 43 -/
noncomputable def F.spec_l6Agent (a0 : Int) : Option Bool :=
  (F.spec_l1In a0 0 2).bind fun r1 =>
  some r1
noncomputable def C.spec_l6Agent : Con := ⟨[.r (.val (.int .i64))], .one .bool, fun x => F.spec_l6Agent x.1⟩
noncomputable def K.spec_l6Agent : Cons := lookK [(44, [], C.spec_l1In)]
theorem run.spec_l6Agent : Rn K.spec_l6Agent L0 [] Tryz.f43 C.spec_l6Agent := fun x => by kernel_rfl

/-! ### spec.SetOk: function 46 -/
noncomputable def F.spec_SetOk.s2 : Stp ((List DSpan) × Int × Unit) Bool := fun (x1, x2, _) =>
  bif decide (x2 < (len x1)) then
    chk (inb x2 x1.length) <|
    (F.spec_l1In ((x1.getD x2.toNat (0, 0, ())).1) 0 9999).bind fun r3 =>
    bif !r3 then
      some (.ret false)
    else
    chk (inb x2 x1.length) <|
    chk (inb x2 x1.length) <|
    (F.spec_l1In (((x1.getD x2.toNat (0, 0, ())).2).1) ((x1.getD x2.toNat (0, 0, ())).1) 9999).bind fun r4 =>
    bif !r4 then
      some (.ret false)
    else
    bif decide (x2 > 0) then
      chk (inb x2 x1.length) <|
      chk (inb (w64 (x2 - 1)) x1.length) <|
      bif decide (((x1.getD x2.toNat (0, 0, ())).1) ≤ (w64 ((((x1.getD (Int.toNat (w64 (x2 - 1))) (0, 0, ())).2).1) + 1))) then
        some (.ret false)
      else
        some (.again (x1, w64 (x2 + 1), ()))
    else
      some (.again (x1, w64 (x2 + 1), ()))
  else
    some (.exit (x1, x2, ()))
noncomputable def F.spec_SetOk (a0 : List DSpan) : Option Bool :=
  afterO (loopO F.spec_SetOk.s2 (a0, 0, ())) fun (x5, x6, _) =>
  some true
noncomputable def C.spec_SetOk : Con := ⟨[.r (.val (.sl false 51 y1))], .one .bool, fun x => F.spec_SetOk x.1⟩
def L.spec_SetOk : Loops := lookL [(2, ⟨[.pat 0 (.val (.sl false 51 y1)), .pat 3 (.val (.int .i64))], 0⟩)]
noncomputable def K.spec_SetOk : Cons := lookK [(44, [], C.spec_l1In)]
theorem run.spec_SetOk : Rn K.spec_SetOk L.spec_SetOk [] Tryz.f46 C.spec_SetOk := fun x => by kernel_rfl

/-! ### spec.l8Below: function 23 -/
noncomputable def F.spec_l8Below.s4 : Stp ((List DSpan) × Int × Int × Unit) Bool := fun (x2, x3, x4, _) =>
  bif decide (x4 < (len x2)) then
    chk (inb x4 x2.length) <|
    bif decide (((x2.getD x4.toNat (0, 0, ())).1) < 1) then
      some (.ret false)
    else
    chk (inb x4 x2.length) <|
    bif decide ((((x2.getD x4.toNat (0, 0, ())).2).1) > x3) then
      some (.ret false)
    else
      some (.again (x2, x3, w64 (x4 + 1), ()))
  else
    some (.exit (x2, x3, x4, ()))
noncomputable def F.spec_l8Below (a0 : List DSpan) (a1 : Int) : Option Bool :=
  (F.spec_SetOk a0).bind fun r1 =>
  bif !r1 then
    some false
  else
  afterO (loopO F.spec_l8Below.s4 (a0, a1, 0, ())) fun (x5, x6, x7, _) =>
  some true
noncomputable def C.spec_l8Below : Con := ⟨[.r (.val (.sl false 51 y1)), .r (.val (.int .i64))], .one .bool, fun x => F.spec_l8Below x.1 x.2.1⟩
def L.spec_l8Below : Loops := lookL [(4, ⟨[.pat 0 (.val (.sl false 51 y1)), .pat 1 (.val (.int .i64)), .pat 5 (.val (.int .i64))], 0⟩)]
noncomputable def K.spec_l8Below : Cons := lookK [(46, [], C.spec_SetOk)]
theorem run.spec_l8Below : Rn K.spec_l8Below L.spec_l8Below [] Tryz.f23 C.spec_l8Below := fun x => by kernel_rfl

/-! ### spec.l6Place: function 65 -/
noncomputable def F.spec_l6Place (a0 : Int) (a1 : Int) : Option Bool :=
  (F.spec_l1In a0 0 4).bind fun r1 =>
  bif r1 then
    (F.spec_l1In a1 0 20).bind fun r2 =>
    some r2
  else
    some false
noncomputable def C.spec_l6Place : Con := ⟨[.r (.val (.int .i64)), .r (.val (.int .i64))], .one .bool, fun x => F.spec_l6Place x.1 x.2.1⟩
noncomputable def K.spec_l6Place : Cons := lookK [(44, [], C.spec_l1In)]
theorem run.spec_l6Place : Rn K.spec_l6Place L0 [] Tryz.f65 C.spec_l6Place := fun x => by kernel_rfl

/-! ### spec.l3List: function 81 -/
noncomputable def F.spec_l3List.s4 : Stp ((List Int) × Int × Int × Bool × Int × Unit) Bool := fun (x1, x2, x3, x4, x5, _) =>
  bif decide (x5 < x2) then
    chk (inb x5 x1.length) <|
    (F.spec_l1In (x1.getD x5.toNat 0) 0 x3).bind fun r6 =>
    bif !r6 then
      some (.ret false)
    else
    bif x4 then
      chk (inb x5 x1.length) <|
      bif (x1.getD x5.toNat 0) != 0 then
        some (.ret false)
      else
        some (.again (x1, x2, x3, x4, w64 (x5 + 1), ()))
    else
      some (.again (x1, x2, x3, x4, w64 (x5 + 1), ()))
  else
    some (.exit (x1, x2, x3, x4, x5, ()))
noncomputable def F.spec_l3List (a0 : List Int) (a1 : Int) (a2 : Int) (a3 : Bool) : Option Bool :=
  bif (len a0) != a1 then
    some false
  else
  afterO (loopO F.spec_l3List.s4 (a0, a1, a2, a3, 0, ())) fun (x7, x8, x9, x10, x11, _) =>
  some true
noncomputable def C.spec_l3List : Con := ⟨[.r (.val (.sl false 3 (.int .i64))), .r (.val (.int .i64)), .r (.val (.int .i64)), .r (.val .bool)], .one .bool, fun x => F.spec_l3List x.1 x.2.1 x.2.2.1 x.2.2.2.1⟩
def L.spec_l3List : Loops := lookL [(4, ⟨[.pat 0 (.val (.sl false 3 (.int .i64))), .pat 1 (.val (.int .i64)), .pat 2 (.val (.int .i64)), .pat 3 (.val .bool), .pat 9 (.val (.int .i64))], 0⟩)]
noncomputable def K.spec_l3List : Cons := lookK [(44, [], C.spec_l1In)]
theorem run.spec_l3List : Rn K.spec_l3List L.spec_l3List [] Tryz.f81 C.spec_l3List := fun x => by kernel_rfl

/-! ### spec.SketchOk: function 66 -/
noncomputable def F.spec_SketchOk (a0 : DSketch) : Option Bool :=
  (F.spec_l1In a0.1 0 1000000000).bind fun r1 =>
  bif !r1 then
    some false
  else
  (F.spec_l1In a0.2.1 0 1000000000).bind fun r2 =>
  bif !r2 then
    some false
  else
  (F.spec_l1In a0.2.2.1 0 1000000).bind fun r3 =>
  bif !r3 then
    some false
  else
  (F.spec_l1In a0.2.2.2.1 0 1000000).bind fun r4 =>
  bif !r4 then
    some false
  else
  bif decide (a0.2.2.1 > a0.2.2.2.1) then
    some false
  else
  bif (len a0.2.2.2.2.2.2.1) != 2 then
    some false
  else
  bif a0.1 == 0 then
    bif a0.2.1 != 0 then
      some false
    else
    bif a0.2.2.2.1 != 0 then
      some false
    else
    (F.spec_l3List a0.2.2.2.2.1 8 1000000000 (a0.1 == 0)).bind fun r5 =>
    bif r5 then
      (F.spec_l3List a0.2.2.2.2.2.1 8 17 (a0.1 == 0)).bind fun r6 =>
      bif r6 then
        chk (inb 0 a0.2.2.2.2.2.2.1.length) <|
        (F.spec_l3List (a0.2.2.2.2.2.2.1.getD 0 ([])) 4 1000000000 (a0.1 == 0)).bind fun r7 =>
        bif r7 then
          chk (inb 1 a0.2.2.2.2.2.2.1.length) <|
          (F.spec_l3List (a0.2.2.2.2.2.2.1.getD 1 ([])) 4 1000000000 (a0.1 == 0)).bind fun r8 =>
          some r8
        else
          some false
      else
        some false
    else
      some false
  else
  (F.spec_l3List a0.2.2.2.2.1 8 1000000000 (a0.1 == 0)).bind fun r9 =>
  bif r9 then
    (F.spec_l3List a0.2.2.2.2.2.1 8 17 (a0.1 == 0)).bind fun r10 =>
    bif r10 then
      chk (inb 0 a0.2.2.2.2.2.2.1.length) <|
      (F.spec_l3List (a0.2.2.2.2.2.2.1.getD 0 ([])) 4 1000000000 (a0.1 == 0)).bind fun r11 =>
      bif r11 then
        chk (inb 1 a0.2.2.2.2.2.2.1.length) <|
        (F.spec_l3List (a0.2.2.2.2.2.2.1.getD 1 ([])) 4 1000000000 (a0.1 == 0)).bind fun r12 =>
        some r12
      else
        some false
    else
      some false
  else
    some false
noncomputable def C.spec_SketchOk : Con := ⟨[.r (.val y2)], .one .bool, fun x => F.spec_SketchOk x.1⟩
noncomputable def K.spec_SketchOk : Cons := lookK [(44, [], C.spec_l1In), (81, [], C.spec_l3List)]
theorem run.spec_SketchOk : Rn K.spec_SketchOk L0 [] Tryz.f66 C.spec_SketchOk := fun x => by kernel_rfl

/-! ### spec.ItemOk: function 45 -/
noncomputable def F.spec_ItemOk (a0 : DItem) : Option Bool :=
  (F.spec_l1In a0.1 1 60).bind fun r1 =>
  bif r1 then
    (F.spec_l1In a0.2.1 0 1).bind fun r2 =>
    bif r2 then
      (F.spec_l6Place a0.2.2.1 a0.2.2.2.1).bind fun r3 =>
      bif r3 then
        (F.spec_SketchOk a0.2.2.2.2.1).bind fun r4 =>
        some r4
      else
        some false
    else
      some false
  else
    some false
noncomputable def C.spec_ItemOk : Con := ⟨[.r (.val y3)], .one .bool, fun x => F.spec_ItemOk x.1⟩
noncomputable def K.spec_ItemOk : Cons := lookK [(44, [], C.spec_l1In), (65, [], C.spec_l6Place), (66, [], C.spec_SketchOk)]
theorem run.spec_ItemOk : Rn K.spec_ItemOk L0 [] Tryz.f45 C.spec_ItemOk := fun x => by kernel_rfl

/-! ### spec.AgentOk: function 21 -/
noncomputable def F.spec_AgentOk.s4 : Stp (Int × DAgent × Unit) Bool := fun (x6, x7, _) =>
  bif decide (x6 < (len x7.2.2.2.2.1)) then
    chk (inb x6 x7.2.2.2.2.1.length) <|
    (F.spec_ItemOk (x7.2.2.2.2.1.getD x6.toNat (0, 0, 0, 0, (0, 0, 0, 0, [], [], [], ()), ()))).bind fun r8 =>
    bif !r8 then
      some (.ret false)
    else
    chk (inb x6 x7.2.2.2.2.1.length) <|
    bif ((x7.2.2.2.2.1.getD x6.toNat (0, 0, 0, 0, (0, 0, 0, 0, [], [], [], ()), ())).1) != (w64 (x6 + 1)) then
      some (.ret false)
    else
      some (.again (w64 (x6 + 1), x7, ()))
  else
    some (.exit (x6, x7, ()))
noncomputable def F.spec_AgentOk (a0 : DAgent) : Option Bool :=
  (F.spec_l6Agent a0.1).bind fun r1 =>
  bif !r1 then
    some false
  else
  (F.spec_l1In a0.2.1 0 1000).bind fun r2 =>
  bif !r2 then
    some false
  else
  (F.spec_l1In a0.2.2.2.1 0 60).bind fun r3 =>
  bif !r3 then
    some false
  else
  bif decide ((len a0.2.2.2.2.1) > 60) then
    some false
  else
  (F.spec_l1In a0.2.2.2.2.2.2.1 0 60).bind fun r4 =>
  bif !r4 then
    some false
  else
  (F.spec_l8Below a0.2.2.2.2.2.1 (len a0.2.2.2.2.1)).bind fun r5 =>
  bif !r5 then
    some false
  else
  bif !a0.2.2.1 then
    bif decide (a0.2.2.2.1 > 0) then
      some false
    else
    afterO (loopO F.spec_AgentOk.s4 (0, a0, ())) fun (x9, x10, _) =>
    some true
  else
  afterO (loopO F.spec_AgentOk.s4 (0, a0, ())) fun (x14, x15, _) =>
  some true
noncomputable def C.spec_AgentOk : Con := ⟨[.r (.val y4)], .one .bool, fun x => F.spec_AgentOk x.1⟩
def L.spec_AgentOk : Loops := lookL [(4, ⟨[.pat 3 (.val (.int .i64)), .root 1 true y4 [1]], 0⟩)]
noncomputable def K.spec_AgentOk : Cons := lookK [(23, [], C.spec_l8Below), (43, [], C.spec_l6Agent), (44, [], C.spec_l1In), (45, [], C.spec_ItemOk)]
theorem run.spec_AgentOk : Rn K.spec_AgentOk L.spec_AgentOk [] Tryz.f21 C.spec_AgentOk := fun x => by kernel_rfl

/-! ### spec.AgentNew: function 57 -/
noncomputable def F.spec_AgentNew (a0 : Int) : Option (DAgent × Bool) :=
  (F.spec_AgentOk (a0, 0, false, 0, ([] : List DItem), ([] : List DSpan), 0, ())).bind fun r1 =>
  bif !r1 then
    some ((0, 0, false, 0, ([] : List DItem), ([] : List DSpan), 0, ()), false)
  else
    some ((a0, 0, false, 0, ([] : List DItem), ([] : List DSpan), 0, ()), true)
noncomputable def C.spec_AgentNew : Con := ⟨[.r (.val (.int .i64))], .many [y7, .bool], fun x => F.spec_AgentNew x.1⟩
noncomputable def K.spec_AgentNew : Cons := lookK [(21, [], C.spec_AgentOk)]
theorem run.spec_AgentNew : Rn K.spec_AgentNew L0 [] Tryz.f57 C.spec_AgentNew := fun x => by kernel_rfl

/-! ### spec.l1PickInt: function 34 -/
noncomputable def F.spec_l1PickInt (a0 : DL1Cur) (a1 : List Int) : Option (Int × DL1Cur) :=
  (F.spec_l1Below a0 (len a1)).bind fun r1 =>
  chk (inb r1.1 a1.length) <|
  some (a1.getD (Int.toNat r1.1) 0, r1.2)
noncomputable def C.spec_l1PickInt : Con := ⟨[.p y0 y0, .r (.val (.sl false 3 (.int .i64)))], .one (.int .i64), fun x => F.spec_l1PickInt x.1 x.2.1⟩
noncomputable def K.spec_l1PickInt : Cons := lookK [(15, [], C.spec_l1Below)]
theorem run.spec_l1PickInt : Rn K.spec_l1PickInt L0 [0] Tryz.f34 C.spec_l1PickInt := fun x => by kernel_rfl

/-! ### spec.l3Values: function 76 -/
noncomputable def F.spec_l3Values.s4 : Stp ((List Int) × Int × Int × DL1Cur × Unit) ((List Int) × DL1Cur) := fun (x2, x3, x4, x5, _) =>
  bif decide (x4 < x3) then
    (F.spec_l1Byte x5).bind fun r6 =>
    (F.spec_l1PickInt r6.2 ([0, 1, 7, 8, 100, 5000, 1000000, r6.1, 1000001, -1])).bind fun r7 =>
    chk (fits (List.length x2 + List.length ([r7.1])) 8) <|
    some (.again (x2 ++ ([r7.1]), x3, w64 (x4 + 1), r7.2, ()))
  else
    some (.exit (x2, x3, x4, x5, ()))
noncomputable def F.spec_l3Values (a0 : DL1Cur) : Option ((List Int) × DL1Cur) :=
  (F.spec_l1Below a0 6).bind fun r1 =>
  afterO (loopO F.spec_l3Values.s4 (([] : List Int), r1.1, 0, r1.2, ())) fun (x8, x9, x10, x11, _) =>
  some (x8, x11)
noncomputable def C.spec_l3Values : Con := ⟨[.p y0 y0], .one (.sl true 3 (.int .i64)), fun x => F.spec_l3Values x.1⟩
def L.spec_l3Values : Loops := lookL [(4, ⟨[.own 3 (.sl true 3 (.int .i64)), .pat 4 (.val (.int .i64)), .pat 5 (.val (.int .i64)), .root 0 true y0 [0]], 0⟩)]
noncomputable def K.spec_l3Values : Cons := lookK [(15, [], C.spec_l1Below), (34, [], C.spec_l1PickInt), (38, [], C.spec_l1Byte)]
theorem run.spec_l3Values : Rn K.spec_l3Values L.spec_l3Values [0] Tryz.f76 C.spec_l3Values := fun x => by kernel_rfl

/-! ### spec.SketchNew: function 95 -/
noncomputable def F.spec_SketchNew : Option DSketch :=
  chk (mk 8 8 8) <|
  chk (mk 8 8 8) <|
  chk (mk 8 4 4) <|
  chk (mk 8 4 4) <|
  some (0, 0, 0, 0, List.replicate 8 0, List.replicate 8 0, [List.replicate 4 0, List.replicate 4 0], ())
noncomputable def C.spec_SketchNew : Con := ⟨[], .one y5, fun x => F.spec_SketchNew⟩
noncomputable def K.spec_SketchNew : Cons := lookK []
theorem run.spec_SketchNew : Rn K.spec_SketchNew L0 [] Tryz.f95 C.spec_SketchNew := fun x => by kernel_rfl

/-! ### spec.l3Copy: function 64 -/
noncomputable def F.spec_l3Copy.s6 : Stp (Int × DSketch × DSketch × DSketch × Unit) DSketch := fun (x1, x2, x3, x4, _) =>
  bif decide (x1 < (len x2.2.2.2.2.2.2.1)) then
    chk (inb x1 x2.2.2.2.2.2.2.1.length) <|
    chk (fits (List.length ([] : List Int) + List.length (x2.2.2.2.2.2.2.1.getD x1.toNat ([]))) 8) <|
    chk (fits (List.length x4.2.2.2.2.2.2.1 + List.length ([([] : List Int) ++ (x2.2.2.2.2.2.2.1.getD x1.toNat ([]))])) 24) <|
    some (.again (w64 (x1 + 1), x2, x3, (x4.1, x4.2.1, x4.2.2.1, x4.2.2.2.1, x4.2.2.2.2.1, x4.2.2.2.2.2.1, x4.2.2.2.2.2.2.1 ++ ([([] : List Int) ++ (x2.2.2.2.2.2.2.1.getD x1.toNat ([]))]), x4.2.2.2.2.2.2.2), ()))
  else
    some (.exit (x1, x2, x3, x4, ()))
noncomputable def F.spec_l3Copy (a0 : DSketch) : Option DSketch :=
  chk (fits (List.length ([] : List Int) + List.length a0.2.2.2.2.1) 8) <|
  chk (fits (List.length ([] : List Int) + List.length a0.2.2.2.2.2.1) 8) <|
  afterO (loopO F.spec_l3Copy.s6 (0, a0, (0, 0, 0, 0, ([] : List Int), ([] : List Int), ([] : List (List Int)), ()), (a0.1, a0.2.1, a0.2.2.1, a0.2.2.2.1, ([] : List Int) ++ a0.2.2.2.2.1, ([] : List Int) ++ a0.2.2.2.2.2.1, ([] : List (List Int)), a0.2.2.2.2.2.2.2), ())) fun (x5, x6, x7, x8, _) =>
  some x8
noncomputable def C.spec_l3Copy : Con := ⟨[.r (.val y2)], .one y5, fun x => F.spec_l3Copy x.1⟩
def L.spec_l3Copy : Loops := lookL [(6, ⟨[.pat 4 (.val (.int .i64)), .root 1 true y2 [1], .root 2 true y5 [2], .root 3 true y5 [3]], 0⟩)]
noncomputable def K.spec_l3Copy : Cons := lookK []
theorem run.spec_l3Copy : Rn K.spec_l3Copy L.spec_l3Copy [] Tryz.f64 C.spec_l3Copy := fun x => by kernel_rfl

/-! ### spec.l1Min: function 67 -/
noncomputable def F.spec_l1Min (a0 : Int) (a1 : Int) : Option Int :=
  bif decide (a0 < a1) then
    some a0
  else
    some a1
noncomputable def C.spec_l1Min : Con := ⟨[.r (.val (.int .i64)), .r (.val (.int .i64))], .one (.int .i64), fun x => F.spec_l1Min x.1 x.2.1⟩
noncomputable def K.spec_l1Min : Cons := lookK []
theorem run.spec_l1Min : Rn K.spec_l1Min L0 [] Tryz.f67 C.spec_l1Min := fun x => by kernel_rfl

/-! ### spec.l1Max: function 25 -/
noncomputable def F.spec_l1Max (a0 : Int) (a1 : Int) : Option Int :=
  bif decide (a0 > a1) then
    some a0
  else
    some a1
noncomputable def C.spec_l1Max : Con := ⟨[.r (.val (.int .i64)), .r (.val (.int .i64))], .one (.int .i64), fun x => F.spec_l1Max x.1 x.2.1⟩
noncomputable def K.spec_l1Max : Cons := lookK []
theorem run.spec_l1Max : Rn K.spec_l1Max L0 [] Tryz.f25 C.spec_l1Max := fun x => by kernel_rfl

/-! ### spec.l2Clip: function 115 -/
noncomputable def F.spec_l2Clip (a0 : Int) (a1 : Int) : Option Int :=
  (F.spec_l1Min a0 a1).bind fun r1 =>
  (F.spec_l1Max 0 r1).bind fun r2 =>
  some r2
noncomputable def C.spec_l2Clip : Con := ⟨[.r (.val (.int .i64)), .r (.val (.int .i64))], .one (.int .i64), fun x => F.spec_l2Clip x.1 x.2.1⟩
noncomputable def K.spec_l2Clip : Cons := lookK [(25, [], C.spec_l1Max), (67, [], C.spec_l1Min)]
theorem run.spec_l2Clip : Rn K.spec_l2Clip L0 [] Tryz.f115 C.spec_l2Clip := fun x => by kernel_rfl

/-! ### spec.Add: function 106 -/
noncomputable def F.spec_Add (a0 : Int) (a1 : Int) : Option Int :=
  (F.spec_l2Clip a0 1000000000).bind fun r1 =>
  (F.spec_l2Clip a1 1000000000).bind fun r2 =>
  (F.spec_l1Min (w64 (r1 + r2)) 1000000000).bind fun r3 =>
  some r3
noncomputable def C.spec_Add : Con := ⟨[.r (.val (.int .i64)), .r (.val (.int .i64))], .one (.int .i64), fun x => F.spec_Add x.1 x.2.1⟩
noncomputable def K.spec_Add : Cons := lookK [(67, [], C.spec_l1Min), (115, [], C.spec_l2Clip)]
theorem run.spec_Add : Rn K.spec_Add L0 [] Tryz.f106 C.spec_Add := fun x => by kernel_rfl

/-! ### spec.BucketOf: function 107 -/
noncomputable def F.spec_BucketOf.s3 : Stp (Int × Int × Unit) Int := fun (x2, x3, _) =>
  bif decide (x2 > 0) then
    some (.again (w64 (Int.tdiv x2 2), w64 (x3 + 1), ()))
  else
    some (.exit (x2, x3, ()))
noncomputable def F.spec_BucketOf (a0 : Int) : Option Int :=
  (F.spec_l2Clip a0 1000000).bind fun r1 =>
  afterO (loopO F.spec_BucketOf.s3 (r1, 0, ())) fun (x4, x5, _) =>
  some (w64 (Int.tdiv (w64 (x5 + 2)) 3))
noncomputable def C.spec_BucketOf : Con := ⟨[.r (.val (.int .i64))], .one (.int .i64), fun x => F.spec_BucketOf x.1⟩
def L.spec_BucketOf : Loops := lookL [(3, ⟨[.pat 3 (.val (.int .i64)), .pat 4 (.val (.int .i64))], 0⟩)]
noncomputable def K.spec_BucketOf : Cons := lookK [(115, [], C.spec_l2Clip)]
theorem run.spec_BucketOf : Rn K.spec_BucketOf L.spec_BucketOf [] Tryz.f107 C.spec_BucketOf := fun x => by kernel_rfl

/-! ### spec.Mix: function 108 -/
noncomputable def F.spec_Mix (a0 : Int) : Option Int :=
  (F.spec_l2Clip a0 1000000).bind fun r1 =>
  some (ibits .xor .i64 (Int.tmod (w64 ((w64 (r1 * 40503)) + 12345)) 65536) (w64 (Int.tdiv (Int.tmod (w64 ((w64 (r1 * 40503)) + 12345)) 65536) 256)))
noncomputable def C.spec_Mix : Con := ⟨[.r (.val (.int .i64))], .one (.int .i64), fun x => F.spec_Mix x.1⟩
noncomputable def K.spec_Mix : Cons := lookK [(115, [], C.spec_l2Clip)]
theorem run.spec_Mix : Rn K.spec_Mix L0 [] Tryz.f108 C.spec_Mix := fun x => by kernel_rfl

/-! ### spec.RankOf: function 109 -/
noncomputable def F.spec_RankOf.s5 : Stp (Int × Int × Unit) Int := fun (x2, x3, _) =>
  bif (Int.tmod x2 2) == 0 then
    some (.again (w64 (Int.tdiv x2 2), w64 (x3 + 1), ()))
  else
    some (.exit (x2, x3, ()))
noncomputable def F.spec_RankOf (a0 : Int) : Option Int :=
  (F.spec_Mix a0).bind fun r1 =>
  bif r1 == 0 then
    some 17
  else
  afterO (loopO F.spec_RankOf.s5 (r1, 1, ())) fun (x4, x5, _) =>
  some x5
noncomputable def C.spec_RankOf : Con := ⟨[.r (.val (.int .i64))], .one (.int .i64), fun x => F.spec_RankOf x.1⟩
def L.spec_RankOf : Loops := lookL [(5, ⟨[.pat 3 (.val (.int .i64)), .pat 4 (.val (.int .i64))], 0⟩)]
noncomputable def K.spec_RankOf : Cons := lookK [(108, [], C.spec_Mix)]
theorem run.spec_RankOf : Rn K.spec_RankOf L.spec_RankOf [] Tryz.f109 C.spec_RankOf := fun x => by kernel_rfl

/-! ### spec.Insert: function 96 -/
noncomputable def F.spec_Insert.s14 : Stp (Int × Int × DSketch × DSketch × Unit) (DSketch × Bool) := fun (x14, x15, x16, x17, _) =>
  bif decide (x15 < 2) then
    (F.spec_Mix x14).bind fun r18 =>
    chk (inb x15 x17.2.2.2.2.2.2.1.length) <|
    chk (inb x15 x17.2.2.2.2.2.2.1.length) <|
    chk (inb (Int.tmod (w64 (r18 + x15)) 4) (List.length (x17.2.2.2.2.2.2.1.getD x15.toNat ([])))) <|
    (F.spec_Add (List.getD (x17.2.2.2.2.2.2.1.getD x15.toNat ([])) (Int.toNat (Int.tmod (w64 (r18 + x15)) 4)) 0) 1).bind fun r19 =>
    chk (inb (Int.tmod (w64 (r18 + x15)) 4) (List.length (x17.2.2.2.2.2.2.1.getD x15.toNat ([])))) <|
    (some (List.set x17.2.2.2.2.2.2.1 x15.toNat (List.set (x17.2.2.2.2.2.2.1.getD x15.toNat ([])) (Int.toNat (Int.tmod (w64 (r18 + x15)) 4)) r19))).bind fun r20 =>
    some (.again (x14, w64 (x15 + 1), x16, (x17.1, x17.2.1, x17.2.2.1, x17.2.2.2.1, x17.2.2.2.2.1, x17.2.2.2.2.2.1, r20, x17.2.2.2.2.2.2.2), ()))
  else
    some (.exit (x14, x15, x16, x17, ()))
noncomputable def F.spec_Insert (a0 : DSketch) (a1 : Int) : Option (DSketch × Bool) :=
  (F.spec_l3Copy a0).bind fun r1 =>
  (F.spec_SketchOk a0).bind fun r2 =>
  bif !r2 then
    some (r1, false)
  else
  (F.spec_l1In a1 0 1000000).bind fun r3 =>
  bif !r3 then
    some (r1, false)
  else
  (F.spec_Add a0.1 1).bind fun r4 =>
  (F.spec_Add a0.2.1 a1).bind fun r5 =>
  (F.spec_l1Min a0.2.2.1 a1).bind fun r6 =>
  bif a0.1 == 0 then
    (F.spec_l1Max a0.2.2.2.1 a1).bind fun r7 =>
    (F.spec_BucketOf a1).bind fun r8 =>
    (F.spec_BucketOf a1).bind fun r9 =>
    chk (inb r9 r1.2.2.2.2.1.length) <|
    (F.spec_Add (r1.2.2.2.2.1.getD r9.toNat 0) 1).bind fun r10 =>
    chk (inb r8 r1.2.2.2.2.1.length) <|
    (F.spec_Mix a1).bind fun r11 =>
    chk (inb (Int.tmod r11 8) r1.2.2.2.2.2.1.length) <|
    (F.spec_RankOf a1).bind fun r12 =>
    (F.spec_l1Max (r1.2.2.2.2.2.1.getD (Int.toNat (Int.tmod r11 8)) 0) r12).bind fun r13 =>
    chk (inb (Int.tmod r11 8) r1.2.2.2.2.2.1.length) <|
    afterO (loopO F.spec_Insert.s14 (a1, 0, (0, 0, 0, 0, ([] : List Int), ([] : List Int), ([] : List (List Int)), ()), (r4, r5, a1, r7, List.set r1.2.2.2.2.1 r8.toNat r10, List.set r1.2.2.2.2.2.1 (Int.toNat (Int.tmod r11 8)) r13, r1.2.2.2.2.2.2), ())) fun (x21, x22, x23, x24, _) =>
    some (x24, true)
  else
  (F.spec_l1Max a0.2.2.2.1 a1).bind fun r25 =>
  (F.spec_BucketOf a1).bind fun r26 =>
  (F.spec_BucketOf a1).bind fun r27 =>
  chk (inb r27 r1.2.2.2.2.1.length) <|
  (F.spec_Add (r1.2.2.2.2.1.getD r27.toNat 0) 1).bind fun r28 =>
  chk (inb r26 r1.2.2.2.2.1.length) <|
  (F.spec_Mix a1).bind fun r29 =>
  chk (inb (Int.tmod r29 8) r1.2.2.2.2.2.1.length) <|
  (F.spec_RankOf a1).bind fun r30 =>
  (F.spec_l1Max (r1.2.2.2.2.2.1.getD (Int.toNat (Int.tmod r29 8)) 0) r30).bind fun r31 =>
  chk (inb (Int.tmod r29 8) r1.2.2.2.2.2.1.length) <|
  afterO (loopO F.spec_Insert.s14 (a1, 0, (0, 0, 0, 0, ([] : List Int), ([] : List Int), ([] : List (List Int)), ()), (r4, r5, r6, r25, List.set r1.2.2.2.2.1 r26.toNat r28, List.set r1.2.2.2.2.2.1 (Int.toNat (Int.tmod r29 8)) r31, r1.2.2.2.2.2.2), ())) fun (x39, x40, x41, x42, _) =>
  some (x42, true)
noncomputable def C.spec_Insert : Con := ⟨[.r (.val y2), .r (.val (.int .i64))], .many [y5, .bool], fun x => F.spec_Insert x.1 x.2.1⟩
def L.spec_Insert : Loops := lookL [(14, ⟨[.pat 1 (.val (.int .i64)), .pat 8 (.val (.int .i64)), .root 4 true y5 [4], .root 6 true y5 [6]], 0⟩)]
noncomputable def K.spec_Insert : Cons := lookK [(25, [], C.spec_l1Max), (44, [], C.spec_l1In), (64, [], C.spec_l3Copy), (66, [], C.spec_SketchOk), (67, [], C.spec_l1Min), (106, [], C.spec_Add), (107, [], C.spec_BucketOf), (108, [], C.spec_Mix), (109, [], C.spec_RankOf)]
theorem run.spec_Insert : Rn K.spec_Insert L.spec_Insert [] Tryz.f96 C.spec_Insert := fun x => by kernel_rfl

/-! ### spec.Sketched: function 75 -/
noncomputable def F.spec_Sketched.s3 : Stp ((List Int) × Int × DSketch × DSketch × Unit) DSketch := fun (x2, x3, x4, x5, _) =>
  bif decide (x3 < (len x2)) then
    chk (inb x3 x2.length) <|
    (F.spec_Insert x5 (x2.getD x3.toNat 0)).bind fun r6 =>
    some (.again (x2, w64 (x3 + 1), x4, r6.1, ()))
  else
    some (.exit (x2, x3, x4, x5, ()))
noncomputable def F.spec_Sketched (a0 : List Int) : Option DSketch :=
  (F.spec_SketchNew).bind fun r1 =>
  afterO (loopO F.spec_Sketched.s3 (a0, 0, (0, 0, 0, 0, ([] : List Int), ([] : List Int), ([] : List (List Int)), ()), r1, ())) fun (x7, x8, x9, x10, _) =>
  some x10
noncomputable def C.spec_Sketched : Con := ⟨[.r (.val (.sl false 3 (.int .i64)))], .one y5, fun x => F.spec_Sketched x.1⟩
def L.spec_Sketched : Loops := lookL [(3, ⟨[.pat 0 (.val (.sl false 3 (.int .i64))), .pat 4 (.val (.int .i64)), .root 2 true y5 [2], .root 3 true y5 [3]], 0⟩)]
noncomputable def K.spec_Sketched : Cons := lookK [(95, [], C.spec_SketchNew), (96, [], C.spec_Insert)]
theorem run.spec_Sketched : Rn K.spec_Sketched L.spec_Sketched [] Tryz.f75 C.spec_Sketched := fun x => by kernel_rfl

/-! ### spec.l6Right: function 58 -/
noncomputable def F.spec_l6Right (a0 : DL1Cur) : Option (DItem × DL1Cur) :=
  (F.spec_l1Below a0 8).bind fun r1 =>
  (F.spec_l1Below r1.2 2).bind fun r2 =>
  (F.spec_l1Below r2.2 2).bind fun r3 =>
  (F.spec_l1Below r3.2 3).bind fun r4 =>
  (F.spec_l3Values r4.2).bind fun r5 =>
  (F.spec_Sketched r5.1).bind fun r6 =>
  some ((w64 (1 + r1.1), r2.1, r3.1, r4.1, r6, ()), r5.2)
noncomputable def C.spec_l6Right : Con := ⟨[.p y0 y0], .one y6, fun x => F.spec_l6Right x.1⟩
noncomputable def K.spec_l6Right : Cons := lookK [(15, [], C.spec_l1Below), (75, [], C.spec_Sketched), (76, [], C.spec_l3Values)]
theorem run.spec_l6Right : Rn K.spec_l6Right L0 [0] Tryz.f58 C.spec_l6Right := fun x => by kernel_rfl

/-! ### spec.l5Copy: function 41 -/
noncomputable def F.spec_l5Copy (a0 : List DSpan) : Option (List DSpan) :=
  chk (fits (List.length ([] : List DSpan) + List.length a0) 16) <|
  some (([] : List DSpan) ++ a0)
noncomputable def C.spec_l5Copy : Con := ⟨[.r (.val (.sl false 51 y1))], .one (.sl true 51 y1), fun x => F.spec_l5Copy x.1⟩
noncomputable def K.spec_l5Copy : Cons := lookK []
theorem run.spec_l5Copy : Rn K.spec_l5Copy L0 [] Tryz.f41 C.spec_l5Copy := fun x => by kernel_rfl

/-! ### spec.l6Item: function 42 -/
noncomputable def F.spec_l6Item (a0 : DItem) : Option DItem :=
  (F.spec_l3Copy a0.2.2.2.2.1).bind fun r1 =>
  some (a0.1, a0.2.1, a0.2.2.1, a0.2.2.2.1, r1, a0.2.2.2.2.2)
noncomputable def C.spec_l6Item : Con := ⟨[.r (.val y3)], .one y6, fun x => F.spec_l6Item x.1⟩
noncomputable def K.spec_l6Item : Cons := lookK [(64, [], C.spec_l3Copy)]
theorem run.spec_l6Item : Rn K.spec_l6Item L0 [] Tryz.f42 C.spec_l6Item := fun x => by kernel_rfl

/-! ### spec.l8Copy: function 20 -/
noncomputable def F.spec_l8Copy.s5 : Stp (Int × DAgent × DAgent × DAgent × Unit) DAgent := fun (x2, x3, x4, x5, _) =>
  bif decide (x2 < (len x3.2.2.2.2.1)) then
    chk (inb x2 x3.2.2.2.2.1.length) <|
    (F.spec_l6Item (x3.2.2.2.2.1.getD x2.toNat (0, 0, 0, 0, (0, 0, 0, 0, [], [], [], ()), ()))).bind fun r6 =>
    chk (fits (List.length x5.2.2.2.2.1 + List.length ([r6])) 136) <|
    some (.again (w64 (x2 + 1), x3, x4, (x5.1, x5.2.1, x5.2.2.1, x5.2.2.2.1, x5.2.2.2.2.1 ++ ([r6]), x5.2.2.2.2.2), ()))
  else
    some (.exit (x2, x3, x4, x5, ()))
noncomputable def F.spec_l8Copy (a0 : DAgent) : Option DAgent :=
  (F.spec_l5Copy a0.2.2.2.2.2.1).bind fun r1 =>
  afterO (loopO F.spec_l8Copy.s5 (0, a0, (0, 0, false, 0, ([] : List DItem), ([] : List DSpan), 0, ()), (a0.1, a0.2.1, a0.2.2.1, a0.2.2.2.1, ([] : List DItem), r1, a0.2.2.2.2.2.2), ())) fun (x7, x8, x9, x10, _) =>
  some x10
noncomputable def C.spec_l8Copy : Con := ⟨[.r (.val y4)], .one y7, fun x => F.spec_l8Copy x.1⟩
def L.spec_l8Copy : Loops := lookL [(5, ⟨[.pat 4 (.val (.int .i64)), .root 1 true y4 [1], .root 2 true y7 [2], .root 3 true y7 [3]], 0⟩)]
noncomputable def K.spec_l8Copy : Cons := lookK [(41, [], C.spec_l5Copy), (42, [], C.spec_l6Item)]
theorem run.spec_l8Copy : Rn K.spec_l8Copy L.spec_l8Copy [] Tryz.f20 C.spec_l8Copy := fun x => by kernel_rfl

/-! ### spec.Seal: function 59 -/
noncomputable def F.spec_Seal (a0 : DAgent) (a1 : Int) (a2 : Int) (a3 : Int) (a4 : DSketch) : Option (DAgent × Int) :=
  (F.spec_AgentOk a0).bind fun r1 =>
  bif !r1 then
    (F.spec_l8Copy a0).bind fun r2 =>
    some (r2, 0)
  else
  (F.spec_l8Copy a0).bind fun r3 =>
  (F.spec_l3Copy a4).bind fun r4 =>
  chk (fits (List.length r3.2.2.2.2.1 + List.length ([(w64 ((len a0.2.2.2.2.1) + 1), a1, a2, a3, r4, ())])) 136) <|
  (F.spec_AgentOk (r3.1, r3.2.1, r3.2.2.1, r3.2.2.2.1, r3.2.2.2.2.1 ++ ([(w64 ((len a0.2.2.2.2.1) + 1), a1, a2, a3, r4, ())]), r3.2.2.2.2.2)).bind fun r5 =>
  bif !r5 then
    (F.spec_l8Copy a0).bind fun r6 =>
    some (r6, 0)
  else
    some ((r3.1, r3.2.1, r3.2.2.1, r3.2.2.2.1, r3.2.2.2.2.1 ++ ([(w64 ((len a0.2.2.2.2.1) + 1), a1, a2, a3, r4, ())]), r3.2.2.2.2.2), len (r3.2.2.2.2.1 ++ ([(w64 ((len a0.2.2.2.2.1) + 1), a1, a2, a3, r4, ())])))
noncomputable def C.spec_Seal : Con := ⟨[.r (.val y4), .r (.val (.int .i64)), .r (.val (.int .i64)), .r (.val (.int .i64)), .r (.val y2)], .many [y7, (.int .i64)], fun x => F.spec_Seal x.1 x.2.1 x.2.2.1 x.2.2.2.1 x.2.2.2.2.1⟩
def L.spec_Seal : Loops := lookL [(2000007, ⟨[], 4⟩)]
noncomputable def K.spec_Seal : Cons := lookK [(20, [], C.spec_l8Copy), (21, [], C.spec_AgentOk), (64, [], C.spec_l3Copy)]
theorem run.spec_Seal : Rn K.spec_Seal L.spec_Seal [] Tryz.f59 C.spec_Seal := fun x => by kernel_rfl

/-! ### spec.l1Once: function 14 -/
noncomputable def F.spec_l1Once (a0 : DL1Cur) (a1 : Int) : Option (Bool × DL1Cur) :=
  (F.spec_l1Below a0 a1).bind fun r1 =>
  some (r1.1 == 0, r1.2)
noncomputable def C.spec_l1Once : Con := ⟨[.p y0 y0, .r (.val (.int .i64))], .one .bool, fun x => F.spec_l1Once x.1 x.2.1⟩
noncomputable def K.spec_l1Once : Cons := lookK [(15, [], C.spec_l1Below)]
theorem run.spec_l1Once : Rn K.spec_l1Once L0 [0] Tryz.f14 C.spec_l1Once := fun x => by kernel_rfl

/-! ### spec.l8One: function 16 -/
noncomputable def F.spec_l8One (a0 : Int) : Option DSpan :=
  some (a0, a0, ())
noncomputable def C.spec_l8One : Con := ⟨[.r (.val (.int .i64))], .one y1, fun x => F.spec_l8One x.1⟩
noncomputable def K.spec_l8One : Cons := lookK []
theorem run.spec_l8One : Rn K.spec_l8One L0 [] Tryz.f16 C.spec_l8One := fun x => by kernel_rfl

/-! ### spec.l5Put: function 48 -/
noncomputable def F.spec_l5Put.s4 : Stp ((List DSpan) × (List DSpan) × Bool × Int × DSpan × Unit) (List DSpan) := fun (x1, x2, x3, x4, x5, _) =>
  bif decide (x4 < (len x1)) then
    chk (inb x4 x1.length) <|
    bif decide ((w64 ((((x1.getD x4.toNat (0, 0, ())).2).1) + 1)) < x5.1) then
      chk (inb x4 x1.length) <|
      chk (fits (List.length x2 + List.length ([x1.getD x4.toNat (0, 0, ())])) 16) <|
      some (.again (x1, x2 ++ ([x1.getD x4.toNat (0, 0, ())]), x3, w64 (x4 + 1), x5, ()))
    else
    chk (inb x4 x1.length) <|
    bif decide (((x1.getD x4.toNat (0, 0, ())).1) > (w64 (x5.2.1 + 1))) then
      bif !x3 then
        chk (fits (List.length x2 + List.length ([x5])) 16) <|
        chk (inb x4 x1.length) <|
        chk (fits (List.length (x2 ++ ([x5])) + List.length ([x1.getD x4.toNat (0, 0, ())])) 16) <|
        some (.again (x1, (x2 ++ ([x5])) ++ ([x1.getD x4.toNat (0, 0, ())]), true, w64 (x4 + 1), x5, ()))
      else
      chk (inb x4 x1.length) <|
      chk (fits (List.length x2 + List.length ([x1.getD x4.toNat (0, 0, ())])) 16) <|
      some (.again (x1, x2 ++ ([x1.getD x4.toNat (0, 0, ())]), x3, w64 (x4 + 1), x5, ()))
    else
    chk (inb x4 x1.length) <|
    (F.spec_l1Min x5.1 ((x1.getD x4.toNat (0, 0, ())).1)).bind fun r6 =>
    chk (inb x4 x1.length) <|
    (F.spec_l1Max x5.2.1 (((x1.getD x4.toNat (0, 0, ())).2).1)).bind fun r7 =>
    some (.again (x1, x2, x3, w64 (x4 + 1), (r6, r7, ()), ()))
  else
    some (.exit (x1, x2, x3, x4, x5, ()))
noncomputable def F.spec_l5Put (a0 : List DSpan) (a1 : DSpan) : Option (List DSpan) :=
  afterO (loopO F.spec_l5Put.s4 (a0, ([] : List DSpan), false, 0, a1, ())) fun (x8, x9, x10, x11, x12, _) =>
  bif !x10 then
    chk (fits (List.length x9 + List.length ([x12])) 16) <|
    some (x9 ++ ([x12]))
  else
    some x9
noncomputable def C.spec_l5Put : Con := ⟨[.r (.val (.sl false 51 y1)), .r (.val y1)], .one (.sl true 51 y1), fun x => F.spec_l5Put x.1 x.2.1⟩
def L.spec_l5Put : Loops := lookL [(4, ⟨[.pat 0 (.val (.sl false 51 y1)), .own 5 (.sl true 51 y1), .pat 6 (.val .bool), .pat 7 (.val (.int .i64)), .root 3 true y1 [3]], 0⟩)]
noncomputable def K.spec_l5Put : Cons := lookK [(25, [], C.spec_l1Max), (67, [], C.spec_l1Min)]
theorem run.spec_l5Put : Rn K.spec_l5Put L.spec_l5Put [] Tryz.f48 C.spec_l5Put := fun x => by kernel_rfl

/-! ### spec.l8Right: function 33 -/
noncomputable def F.spec_l8Right.s4 : Stp (Int × Int × DL1Cur × DAgent × DAgent × Unit) (DAgent × DL1Cur) := fun (x4, x5, x6, x7, x8, _) =>
  bif decide (x5 < x4) then
    (F.spec_l6Right x6).bind fun r9 =>
    (F.spec_Seal x8 r9.1.2.1 r9.1.2.2.1 r9.1.2.2.2.1 r9.1.2.2.2.2.1).bind fun r10 =>
    some (.again (x4, w64 (x5 + 1), r9.2, x7, r10.1, ()))
  else
    some (.exit (x4, x5, x6, x7, x8, ()))
noncomputable def F.spec_l8Right.s14 : Stp (Int × Int × Int × DL1Cur × DAgent × DAgent × Unit) (DAgent × DL1Cur) := fun (x20, x21, x22, x23, x24, x25, _) =>
  bif decide (x22 < x21) then
    bif decide (x20 > 0) then
      (F.spec_l1Below x23 x20).bind fun r26 =>
      (F.spec_l8One (w64 (1 + r26.1))).bind fun r27 =>
      (F.spec_l5Put x25.2.2.2.2.2.1 r27).bind fun r28 =>
      some (.again (x20, x21, w64 (x22 + 1), r26.2, x24, (x25.1, x25.2.1, x25.2.2.1, x25.2.2.2.1, x25.2.2.2.2.1, r28, x25.2.2.2.2.2.2), ()))
    else
      some (.exit (x20, x21, x22, x23, x24, x25, ()))
  else
    some (.exit (x20, x21, x22, x23, x24, x25, ()))
noncomputable def F.spec_l8Right (a0 : DL1Cur) : Option (DAgent × DL1Cur) :=
  (F.spec_l1Below a0 3).bind fun r1 =>
  (F.spec_AgentNew r1.1).bind fun r2 =>
  (F.spec_l1Below r1.2 7).bind fun r3 =>
  afterO (loopO F.spec_l8Right.s4 (r3.1, 0, r3.2, (0, 0, false, 0, ([] : List DItem), ([] : List DSpan), 0, ()), r2.1, ())) fun (x11, x12, x13, x14, x15, _) =>
  (F.spec_l1Below x13 3).bind fun r16 =>
  (F.spec_l1Once r16.2 4).bind fun r17 =>
  bif !r17.1 then
    (F.spec_l1Below r17.2 9).bind fun r18 =>
    (F.spec_l1Below r18.2 3).bind fun r19 =>
    afterO (loopO F.spec_l8Right.s14 (x11, r19.1, 0, r19.2, x14, (x15.1, r16.1, true, r18.1, x15.2.2.2.2), ())) fun (x29, x30, x31, x32, x33, x34, _) =>
    (F.spec_l1Below x32 8).bind fun r35 =>
    some ((x34.1, x34.2.1, x34.2.2.1, x34.2.2.2.1, x34.2.2.2.2.1, x34.2.2.2.2.2.1, r35.1, x34.2.2.2.2.2.2.2), r35.2)
  else
  (F.spec_l1Below r17.2 3).bind fun r36 =>
  afterO (loopO F.spec_l8Right.s14 (x11, r36.1, 0, r36.2, x14, (x15.1, r16.1, x15.2.2), ())) fun (x46, x47, x48, x49, x50, x51, _) =>
  (F.spec_l1Below x49 8).bind fun r52 =>
  some ((x51.1, x51.2.1, x51.2.2.1, x51.2.2.2.1, x51.2.2.2.2.1, x51.2.2.2.2.2.1, r52.1, x51.2.2.2.2.2.2.2), r52.2)
noncomputable def C.spec_l8Right : Con := ⟨[.p y0 y0], .one y7, fun x => F.spec_l8Right x.1⟩
def L.spec_l8Right : Loops := lookL [(4, ⟨[.pat 5 (.val (.int .i64)), .pat 6 (.val (.int .i64)), .root 0 true y0 [0], .root 2 true y7 [2], .root 3 true y7 [3]], 0⟩), (14, ⟨[.pat 5 (.val (.int .i64)), .pat 8 (.val (.int .i64)), .pat 9 (.val (.int .i64)), .root 0 true y0 [0], .root 2 true y7 [2], .root 3 true y7 [3]], 2⟩)]
noncomputable def K.spec_l8Right : Cons := lookK [(14, [], C.spec_l1Once), (15, [], C.spec_l1Below), (16, [], C.spec_l8One), (48, [], C.spec_l5Put), (57, [], C.spec_AgentNew), (58, [], C.spec_l6Right), (59, [], C.spec_Seal)]
theorem run.spec_l8Right : Rn K.spec_l8Right L.spec_l8Right [0] Tryz.f33 C.spec_l8Right := fun x => by kernel_rfl

/-! ### spec.l3Right: function 77 -/
noncomputable def F.spec_l3Right (a0 : DL1Cur) : Option (DSketch × DL1Cur) :=
  (F.spec_l3Values a0).bind fun r1 =>
  (F.spec_Sketched r1.1).bind fun r2 =>
  (F.spec_l1Once r1.2 16).bind fun r3 =>
  bif r3.1 then
    bif decide (r2.1 > 0) then
      (F.spec_l1Below r3.2 2).bind fun r4 =>
      chk (inb 3 r2.2.2.2.2.1.length) <|
      some ((w64 (1000000000 - r4.1), 999999997, r2.2.2.1, r2.2.2.2.1, List.set r2.2.2.2.2.1 3 1000000000, r2.2.2.2.2.2), r4.2)
    else
      some (r2, r3.2)
  else
    some (r2, r3.2)
noncomputable def C.spec_l3Right : Con := ⟨[.p y0 y0], .one y5, fun x => F.spec_l3Right x.1⟩
noncomputable def K.spec_l3Right : Cons := lookK [(14, [], C.spec_l1Once), (15, [], C.spec_l1Below), (75, [], C.spec_Sketched), (76, [], C.spec_l3Values)]
theorem run.spec_l3Right : Rn K.spec_l3Right L0 [0] Tryz.f77 C.spec_l3Right := fun x => by kernel_rfl

/-! ### spec.l3Draw: function 60 -/
noncomputable def F.spec_l3Draw (a0 : DL1Cur) : Option (DSketch × DL1Cur) :=
  (F.spec_l3Right a0).bind fun r1 =>
  (F.spec_l1Below r1.2 16).bind fun r2 =>
  bif r2.1 == 0 then
    (F.spec_l1PickInt r2.2 ([-1, 1000001, 500])).bind fun r3 =>
    some ((r1.1.1, r1.1.2.1, r3.1, r1.1.2.2.2), r3.2)
  else
  bif r2.1 == 1 then
    (F.spec_l1Below r2.2 8).bind fun r4 =>
    (F.spec_l1PickInt r4.2 ([-1, 17, 18])).bind fun r5 =>
    chk (inb r4.1 r1.1.2.2.2.2.2.1.length) <|
    some ((r1.1.1, r1.1.2.1, r1.1.2.2.1, r1.1.2.2.2.1, r1.1.2.2.2.2.1, List.set r1.1.2.2.2.2.2.1 (Int.toNat r4.1) r5.1, r1.1.2.2.2.2.2.2), r5.2)
  else
  bif r2.1 == 2 then
    chk (fits (List.length r1.1.2.2.2.2.1 + List.length ([0])) 8) <|
    some ((r1.1.1, r1.1.2.1, r1.1.2.2.1, r1.1.2.2.2.1, r1.1.2.2.2.2.1 ++ ([0]), r1.1.2.2.2.2.2), r2.2)
  else
  bif r2.1 == 3 then
    chk (cutOk 0 1 r1.1.2.2.2.2.2.2.1.length) <|
    some ((r1.1.1, r1.1.2.1, r1.1.2.2.1, r1.1.2.2.2.1, r1.1.2.2.2.2.1, r1.1.2.2.2.2.2.1, List.take (1 - 0) (List.drop 0 r1.1.2.2.2.2.2.2.1), r1.1.2.2.2.2.2.2.2), r2.2)
  else
  bif r2.1 == 4 then
    (F.spec_l1PickInt r2.2 ([0, -1, 1000000001])).bind fun r6 =>
    some ((r6.1, r1.1.2), r6.2)
  else
  bif r2.1 == 5 then
    chk (inb 1 r1.1.2.2.2.2.2.2.1.length) <|
    (F.spec_l1PickInt r2.2 ([-1, 3, 1000000001])).bind fun r7 =>
    chk (inb 2 (List.length (r1.1.2.2.2.2.2.2.1.getD 1 ([])))) <|
    some ((r1.1.1, r1.1.2.1, r1.1.2.2.1, r1.1.2.2.2.1, r1.1.2.2.2.2.1, r1.1.2.2.2.2.2.1, List.set r1.1.2.2.2.2.2.2.1 1 (List.set (r1.1.2.2.2.2.2.2.1.getD 1 ([])) 2 r7.1), r1.1.2.2.2.2.2.2.2), r7.2)
  else
    some (r1.1, r2.2)
noncomputable def C.spec_l3Draw : Con := ⟨[.p y0 y0], .one y2, fun x => F.spec_l3Draw x.1⟩
noncomputable def K.spec_l3Draw : Cons := lookK [(15, [], C.spec_l1Below), (34, [], C.spec_l1PickInt), (77, [], C.spec_l3Right)]
theorem run.spec_l3Draw : Rn K.spec_l3Draw L0 [0] Tryz.f60 C.spec_l3Draw := fun x => by kernel_rfl

/-! ### spec.l6Draw: function 35 -/
noncomputable def F.spec_l6Draw (a0 : DL1Cur) : Option (DItem × DL1Cur) :=
  (F.spec_l6Right a0).bind fun r1 =>
  (F.spec_l1Below r1.2 14).bind fun r2 =>
  bif r2.1 == 0 then
    (F.spec_l1PickInt r2.2 ([0, 60, 61, -1])).bind fun r3 =>
    some ((r3.1, r1.1.2), r3.2)
  else
  bif r2.1 == 1 then
    (F.spec_l1PickInt r2.2 ([-1, 2])).bind fun r4 =>
    some ((r1.1.1, r4.1, r1.1.2.2), r4.2)
  else
  bif r2.1 == 2 then
    (F.spec_l1PickInt r2.2 ([-1, 4, 5])).bind fun r5 =>
    some ((r1.1.1, r1.1.2.1, r5.1, r1.1.2.2.2), r5.2)
  else
  bif r2.1 == 3 then
    (F.spec_l1PickInt r2.2 ([-1, 20, 21])).bind fun r6 =>
    some ((r1.1.1, r1.1.2.1, r1.1.2.2.1, r6.1, r1.1.2.2.2.2), r6.2)
  else
  bif r2.1 == 4 then
    (F.spec_l3Draw r2.2).bind fun r7 =>
    some ((r1.1.1, r1.1.2.1, r1.1.2.2.1, r1.1.2.2.2.1, r7.1, r1.1.2.2.2.2.2), r7.2)
  else
    some (r1.1, r2.2)
noncomputable def C.spec_l6Draw : Con := ⟨[.p y0 y0], .one y3, fun x => F.spec_l6Draw x.1⟩
noncomputable def K.spec_l6Draw : Cons := lookK [(15, [], C.spec_l1Below), (34, [], C.spec_l1PickInt), (58, [], C.spec_l6Right), (60, [], C.spec_l3Draw)]
theorem run.spec_l6Draw : Rn K.spec_l6Draw L0 [0] Tryz.f35 C.spec_l6Draw := fun x => by kernel_rfl

/-! ### spec.l5Right: function 61 -/
noncomputable def F.spec_l5Right.s4 : Stp ((List DSpan) × Int × Int × DL1Cur × Unit) ((List DSpan) × DL1Cur) := fun (x2, x3, x4, x5, _) =>
  bif decide (x4 < x3) then
    (F.spec_l1Below x5 20).bind fun r6 =>
    (F.spec_l1Below r6.2 20).bind fun r7 =>
    (F.spec_l1Below r7.2 10).bind fun r8 =>
    (F.spec_l1PickInt r8.2 ([r6.1, r7.1, w64 (9990 + r8.1)])).bind fun r9 =>
    (F.spec_l1Below r9.2 3).bind fun r10 =>
    (F.spec_l1Min (w64 (r9.1 + r10.1)) 9999).bind fun r11 =>
    (F.spec_l5Put x2 (r9.1, r11, ())).bind fun r12 =>
    some (.again (r12, x3, w64 (x4 + 1), r10.2, ()))
  else
    some (.exit (x2, x3, x4, x5, ()))
noncomputable def F.spec_l5Right (a0 : DL1Cur) : Option ((List DSpan) × DL1Cur) :=
  (F.spec_l1Below a0 7).bind fun r1 =>
  afterO (loopO F.spec_l5Right.s4 (([] : List DSpan), r1.1, 0, r1.2, ())) fun (x13, x14, x15, x16, _) =>
  some (x13, x16)
noncomputable def C.spec_l5Right : Con := ⟨[.p y0 y0], .one (.sl true 51 y1), fun x => F.spec_l5Right x.1⟩
def L.spec_l5Right : Loops := lookL [(4, ⟨[.own 3 (.sl true 51 y1), .pat 4 (.val (.int .i64)), .pat 5 (.val (.int .i64)), .root 0 true y0 [0]], 0⟩)]
noncomputable def K.spec_l5Right : Cons := lookK [(15, [], C.spec_l1Below), (34, [], C.spec_l1PickInt), (48, [], C.spec_l5Put), (67, [], C.spec_l1Min)]
theorem run.spec_l5Right : Rn K.spec_l5Right L.spec_l5Right [0] Tryz.f61 C.spec_l5Right := fun x => by kernel_rfl

/-! ### spec.l5Draw: function 36 -/
noncomputable def F.spec_l5Draw (a0 : DL1Cur) : Option ((List DSpan) × DL1Cur) :=
  (F.spec_l5Right a0).bind fun r1 =>
  (F.spec_l1Once r1.2 8).bind fun r2 =>
  bif r2.1 then
    (F.spec_l1PickInt r2.2 ([-1, 3, 10000])).bind fun r3 =>
    (F.spec_l1PickInt r3.2 ([5, 10000, 9223372036854775807])).bind fun r4 =>
    chk (fits (List.length r1.1 + List.length ([(r3.1, r4.1, ())])) 16) <|
    some (r1.1 ++ ([(r3.1, r4.1, ())]), r4.2)
  else
    some (r1.1, r2.2)
noncomputable def C.spec_l5Draw : Con := ⟨[.p y0 y0], .one (.sl true 51 y1), fun x => F.spec_l5Draw x.1⟩
noncomputable def K.spec_l5Draw : Cons := lookK [(14, [], C.spec_l1Once), (34, [], C.spec_l1PickInt), (61, [], C.spec_l5Right)]
theorem run.spec_l5Draw : Rn K.spec_l5Draw L0 [0] Tryz.f36 C.spec_l5Draw := fun x => by kernel_rfl

/-! ### spec.l8Draw: function 12 -/
noncomputable def F.spec_l8Draw (a0 : DL1Cur) : Option (DAgent × DL1Cur) :=
  (F.spec_l8Right a0).bind fun r1 =>
  (F.spec_l1Below r1.2 14).bind fun r2 =>
  bif r2.1 == 0 then
    (F.spec_l1PickInt r2.2 ([-1, 3])).bind fun r3 =>
    some ((r3.1, r1.1.2), r3.2)
  else
  bif r2.1 == 1 then
    (F.spec_l1PickInt r2.2 ([-1, 60, 61])).bind fun r4 =>
    some ((r1.1.1, r1.1.2.1, r1.1.2.2.1, r4.1, r1.1.2.2.2.2), r4.2)
  else
  bif r2.1 == 2 then
    (F.spec_l6Draw r2.2).bind fun r5 =>
    chk (fits (List.length r1.1.2.2.2.2.1 + List.length ([r5.1])) 136) <|
    some ((r1.1.1, r1.1.2.1, r1.1.2.2.1, r1.1.2.2.2.1, r1.1.2.2.2.2.1 ++ ([r5.1]), r1.1.2.2.2.2.2), r5.2)
  else
  bif r2.1 == 3 then
    (F.spec_l5Draw r2.2).bind fun r6 =>
    some ((r1.1.1, r1.1.2.1, r1.1.2.2.1, r1.1.2.2.2.1, r1.1.2.2.2.2.1, r6.1, r1.1.2.2.2.2.2.2), r6.2)
  else
  bif r2.1 == 4 then
    (F.spec_l1PickInt r2.2 ([-1, 60, 61])).bind fun r7 =>
    some ((r1.1.1, r1.1.2.1, r1.1.2.2.1, r1.1.2.2.2.1, r1.1.2.2.2.2.1, r1.1.2.2.2.2.2.1, r7.1, r1.1.2.2.2.2.2.2.2), r7.2)
  else
  bif r2.1 == 5 then
    some ((r1.1.1, r1.1.2.1, false, r1.1.2.2.2), r2.2)
  else
    some (r1.1, r2.2)
noncomputable def C.spec_l8Draw : Con := ⟨[.p y0 y0], .one y4, fun x => F.spec_l8Draw x.1⟩
noncomputable def K.spec_l8Draw : Cons := lookK [(15, [], C.spec_l1Below), (33, [], C.spec_l8Right), (34, [], C.spec_l1PickInt), (35, [], C.spec_l6Draw), (36, [], C.spec_l5Draw)]
theorem run.spec_l8Draw : Rn K.spec_l8Draw L0 [0] Tryz.f12 C.spec_l8Draw := fun x => by kernel_rfl

/-! ### spec.l7Right: function 37 -/
noncomputable def F.spec_l7Right.s4 : Stp (Int × Int × DL1Cur × DFrame × DFrame × Unit) (DFrame × DL1Cur) := fun (x6, x7, x8, x9, x10, _) =>
  bif decide (x7 < x6) then
    (F.spec_l1Below x8 12).bind fun r11 =>
    (F.spec_l1Below r11.2 3).bind fun r12 =>
    (F.spec_l5Put x10.2.2.2.2.1 (w64 (1 + r11.1), w64 ((w64 (1 + r11.1)) + r12.1), ())).bind fun r13 =>
    some (.again (x6, w64 (x7 + 1), r12.2, x9, (x10.1, x10.2.1, x10.2.2.1, x10.2.2.2.1, r13, x10.2.2.2.2.2), ()))
  else
    some (.exit (x6, x7, x8, x9, x10, ()))
noncomputable def F.spec_l7Right (a0 : DL1Cur) : Option (DFrame × DL1Cur) :=
  (F.spec_l1Below a0 4).bind fun r1 =>
  (F.spec_l1Below r1.2 3).bind fun r2 =>
  (F.spec_l1Below r2.2 3).bind fun r3 =>
  (F.spec_l1Below r3.2 9).bind fun r4 =>
  (F.spec_l1Below r4.2 3).bind fun r5 =>
  afterO (loopO F.spec_l7Right.s4 (r5.1, 0, r5.2, (0, 0, 0, 0, ([] : List DSpan), (0, 0, 0, 0, (0, 0, 0, 0, ([] : List Int), ([] : List Int), ([] : List (List Int)), ()), ()), ()), (r1.1, r2.1, r3.1, r4.1, ([] : List DSpan), (0, 0, 0, 0, (0, 0, 0, 0, ([] : List Int), ([] : List Int), ([] : List (List Int)), ()), ()), ()), ())) fun (x14, x15, x16, x17, x18, _) =>
  bif x18.1 == 1 then
    (F.spec_l6Right x16).bind fun r19 =>
    some ((x18.1, x18.2.1, x18.2.2.1, x18.2.2.2.1, x18.2.2.2.2.1, r19.1, x18.2.2.2.2.2.2), r19.2)
  else
    some (x18, x16)
noncomputable def C.spec_l7Right : Con := ⟨[.p y0 y0], .one y8, fun x => F.spec_l7Right x.1⟩
def L.spec_l7Right : Loops := lookL [(4, ⟨[.pat 4 (.val (.int .i64)), .pat 5 (.val (.int .i64)), .root 0 true y0 [0], .root 2 true y8 [2], .root 3 true y8 [3]], 0⟩)]
noncomputable def K.spec_l7Right : Cons := lookK [(15, [], C.spec_l1Below), (48, [], C.spec_l5Put), (58, [], C.spec_l6Right)]
theorem run.spec_l7Right : Rn K.spec_l7Right L.spec_l7Right [0] Tryz.f37 C.spec_l7Right := fun x => by kernel_rfl

/-! ### spec.l7Draw: function 13 -/
noncomputable def F.spec_l7Draw (a0 : DL1Cur) : Option (DFrame × DL1Cur) :=
  (F.spec_l7Right a0).bind fun r1 =>
  (F.spec_l1Below r1.2 14).bind fun r2 =>
  bif r2.1 == 0 then
    (F.spec_l1PickInt r2.2 ([-1, 4, 1, 0])).bind fun r3 =>
    some ((r3.1, r1.1.2), r3.2)
  else
  bif r2.1 == 1 then
    (F.spec_l1PickInt r2.2 ([-1, 3])).bind fun r4 =>
    some ((r1.1.1, r4.1, r1.1.2.2), r4.2)
  else
  bif r2.1 == 2 then
    (F.spec_l1PickInt r2.2 ([-1, 1000, 1001])).bind fun r5 =>
    some ((r1.1.1, r1.1.2.1, r5.1, r1.1.2.2.2), r5.2)
  else
  bif r2.1 == 3 then
    (F.spec_l1PickInt r2.2 ([-1, 60, 61])).bind fun r6 =>
    some ((r1.1.1, r1.1.2.1, r1.1.2.2.1, r6.1, r1.1.2.2.2.2), r6.2)
  else
  bif r2.1 == 4 then
    (F.spec_l5Draw r2.2).bind fun r7 =>
    some ((r1.1.1, r1.1.2.1, r1.1.2.2.1, r1.1.2.2.2.1, r7.1, r1.1.2.2.2.2.2), r7.2)
  else
  bif r2.1 == 5 then
    (F.spec_l6Draw r2.2).bind fun r8 =>
    some ((r1.1.1, r1.1.2.1, r1.1.2.2.1, r1.1.2.2.2.1, r1.1.2.2.2.2.1, r8.1, r1.1.2.2.2.2.2.2), r8.2)
  else
    some (r1.1, r2.2)
noncomputable def C.spec_l7Draw : Con := ⟨[.p y0 y0], .one y9, fun x => F.spec_l7Draw x.1⟩
noncomputable def K.spec_l7Draw : Cons := lookK [(15, [], C.spec_l1Below), (34, [], C.spec_l1PickInt), (35, [], C.spec_l6Draw), (36, [], C.spec_l5Draw), (37, [], C.spec_l7Right)]
theorem run.spec_l7Draw : Rn K.spec_l7Draw L0 [0] Tryz.f13 C.spec_l7Draw := fun x => by kernel_rfl

/-! ### spec.DrawAgentHear: function 5 -/
noncomputable def F.spec_DrawAgentHear (a0 : List Int) : Option (DAgent × DFrame) :=
  (F.spec_l1New a0).bind fun r1 =>
  (F.spec_l8Draw r1).bind fun r2 =>
  (F.spec_l7Draw r2.2).bind fun r3 =>
  (F.spec_l1Once r3.2 4).bind fun r4 =>
  bif !r4.1 then
    (F.spec_l1Below r4.2 2).bind fun r5 =>
    (F.spec_l1Below r5.2 4).bind fun r6 =>
    (F.spec_l1Below r6.2 9).bind fun r7 =>
    bif decide ((len r2.1.2.2.2.2.1) > 0) then
      (F.spec_l1Once r7.2 2).bind fun r8 =>
      bif r8.1 then
        (F.spec_l1Below r8.2 (len r2.1.2.2.2.2.1)).bind fun r9 =>
        (F.spec_l8One (w64 (1 + r9.1))).bind fun r10 =>
        some (r2.1, (w64 (2 + r5.1), r2.1.1, r6.1, r7.1, [r10], (0, 0, 0, 0, (0, 0, 0, 0, ([] : List Int), ([] : List Int), ([] : List (List Int)), ()), ()), ()))
      else
        some (r2.1, (w64 (2 + r5.1), r2.1.1, r6.1, r7.1, ([] : List DSpan), (0, 0, 0, 0, (0, 0, 0, 0, ([] : List Int), ([] : List Int), ([] : List (List Int)), ()), ()), ()))
    else
      some (r2.1, (w64 (2 + r5.1), r2.1.1, r6.1, r7.1, ([] : List DSpan), (0, 0, 0, 0, (0, 0, 0, 0, ([] : List Int), ([] : List Int), ([] : List (List Int)), ()), ()), ()))
  else
    some (r2.1, r3.1)
noncomputable def C.spec_DrawAgentHear : Con := ⟨[.r (.val (.sl false 5 (.int .u8)))], .many [y4, y9], fun x => F.spec_DrawAgentHear x.1⟩
noncomputable def K.spec_DrawAgentHear : Cons := lookK [(11, [], C.spec_l1New), (12, [], C.spec_l8Draw), (13, [], C.spec_l7Draw), (14, [], C.spec_l1Once), (15, [], C.spec_l1Below), (16, [], C.spec_l8One)]
theorem run.spec_DrawAgentHear : Rn K.spec_DrawAgentHear L0 [] Tryz.f5 C.spec_DrawAgentHear := fun x => by kernel_rfl

/-! ### impl.copySet: function 30 -/
noncomputable def F.impl_copySet (a0 : List DSpan) : Option (List DSpan) :=
  chk (fits a0.length 16) <|
  some a0
noncomputable def C.impl_copySet : Con := ⟨[.r (.val (.sl false 51 y1))], .one (.sl true 51 y1), fun x => F.impl_copySet x.1⟩
noncomputable def K.impl_copySet : Cons := lookK []
theorem run.impl_copySet : Rn K.impl_copySet L0 [] Tryz.f30 C.impl_copySet := fun x => by kernel_rfl

/-! ### impl.copyInts: function 78 -/
noncomputable def F.impl_copyInts (a0 : List Int) : Option (List Int) :=
  chk (fits a0.length 8) <|
  some a0
noncomputable def C.impl_copyInts : Con := ⟨[.r (.val (.sl false 3 (.int .i64)))], .one (.sl true 3 (.int .i64)), fun x => F.impl_copyInts x.1⟩
noncomputable def K.impl_copyInts : Cons := lookK []
theorem run.impl_copyInts : Rn K.impl_copyInts L0 [] Tryz.f78 C.impl_copyInts := fun x => by kernel_rfl

/-! ### impl.copySketch: function 62 -/
noncomputable def F.impl_copySketch.s6 : Stp ((List (List Int)) × Int × Int × DSketch × DSketch × Unit) DSketch := fun (x3, x4, x5, x6, x7, _) =>
  bif decide (x5 < x4) then
    chk (inb x5 x3.length) <|
    (F.impl_copyInts (x3.getD x5.toNat ([]))).bind fun r8 =>
    chk (fits (List.length x7.2.2.2.2.2.2.1 + List.length ([r8])) 24) <|
    some (.again (x3, x4, w64 (x5 + 1), x6, (x7.1, x7.2.1, x7.2.2.1, x7.2.2.2.1, x7.2.2.2.2.1, x7.2.2.2.2.2.1, x7.2.2.2.2.2.2.1 ++ ([r8]), x7.2.2.2.2.2.2.2), ()))
  else
    some (.exit (x3, x4, x5, x6, x7, ()))
noncomputable def F.impl_copySketch (a0 : DSketch) : Option DSketch :=
  (F.impl_copyInts a0.2.2.2.2.1).bind fun r1 =>
  (F.impl_copyInts a0.2.2.2.2.2.1).bind fun r2 =>
  afterO (loopO F.impl_copySketch.s6 (a0.2.2.2.2.2.2.1, len a0.2.2.2.2.2.2.1, 0, (0, 0, 0, 0, ([] : List Int), ([] : List Int), ([] : List (List Int)), ()), (a0.1, a0.2.1, a0.2.2.1, a0.2.2.2.1, r1, r2, ([] : List (List Int)), a0.2.2.2.2.2.2.2), ())) fun (x9, x10, x11, x12, x13, _) =>
  some x13
noncomputable def C.impl_copySketch : Con := ⟨[.r (.val y2)], .one y5, fun x => F.impl_copySketch x.1⟩
def L.impl_copySketch : Loops := lookL [(6, ⟨[.pat 17 (.val (.sl false 28 (.sl false 3 (.int .i64)))), .pat 18 (.val (.int .i64)), .pat 19 (.val (.int .i64)), .root 2 true y5 [2], .root 3 true y5 [3]], 0⟩)]
noncomputable def K.impl_copySketch : Cons := lookK [(78, [], C.impl_copyInts)]
theorem run.impl_copySketch : Rn K.impl_copySketch L.impl_copySketch [] Tryz.f62 C.impl_copySketch := fun x => by kernel_rfl

/-! ### impl.copyItem: function 39 -/
noncomputable def F.impl_copyItem (a0 : DItem) : Option DItem :=
  (F.impl_copySketch a0.2.2.2.2.1).bind fun r1 =>
  some (a0.1, a0.2.1, a0.2.2.1, a0.2.2.2.1, r1, a0.2.2.2.2.2)
noncomputable def C.impl_copyItem : Con := ⟨[.r (.val y3)], .one y6, fun x => F.impl_copyItem x.1⟩
noncomputable def K.impl_copyItem : Cons := lookK [(62, [], C.impl_copySketch)]
theorem run.impl_copyItem : Rn K.impl_copyItem L0 [] Tryz.f39 C.impl_copyItem := fun x => by kernel_rfl

/-! ### impl.copyAgent: function 17 -/
noncomputable def F.impl_copyAgent.s5 : Stp ((List DItem) × Int × Int × DAgent × DAgent × Unit) DAgent := fun (x2, x3, x4, x5, x6, _) =>
  bif decide (x4 < x3) then
    chk (inb x4 x2.length) <|
    (F.impl_copyItem (x2.getD x4.toNat (0, 0, 0, 0, (0, 0, 0, 0, [], [], [], ()), ()))).bind fun r7 =>
    chk (fits (List.length x6.2.2.2.2.1 + List.length ([r7])) 136) <|
    some (.again (x2, x3, w64 (x4 + 1), x5, (x6.1, x6.2.1, x6.2.2.1, x6.2.2.2.1, x6.2.2.2.2.1 ++ ([r7]), x6.2.2.2.2.2), ()))
  else
    some (.exit (x2, x3, x4, x5, x6, ()))
noncomputable def F.impl_copyAgent (a0 : DAgent) : Option DAgent :=
  (F.impl_copySet a0.2.2.2.2.2.1).bind fun r1 =>
  afterO (loopO F.impl_copyAgent.s5 (a0.2.2.2.2.1, len a0.2.2.2.2.1, 0, (0, 0, false, 0, ([] : List DItem), ([] : List DSpan), 0, ()), (a0.1, a0.2.1, a0.2.2.1, a0.2.2.2.1, ([] : List DItem), r1, a0.2.2.2.2.2.2), ())) fun (x8, x9, x10, x11, x12, _) =>
  some x12
noncomputable def C.impl_copyAgent : Con := ⟨[.r (.val y4)], .one y7, fun x => F.impl_copyAgent x.1⟩
def L.impl_copyAgent : Loops := lookL [(5, ⟨[.pat 13 (.val (.sl false 33 y3)), .pat 14 (.val (.int .i64)), .pat 15 (.val (.int .i64)), .root 2 true y7 [2], .root 3 true y7 [3]], 0⟩)]
noncomputable def K.impl_copyAgent : Cons := lookK [(30, [], C.impl_copySet), (39, [], C.impl_copyItem)]
theorem run.impl_copyAgent : Rn K.impl_copyAgent L.impl_copyAgent [] Tryz.f17 C.impl_copyAgent := fun x => by kernel_rfl

/-! ### impl.within: function 31 -/
noncomputable def F.impl_within (a0 : Int) (a1 : Int) (a2 : Int) : Option Bool :=
  bif decide (a0 ≥ a1) then
    some (decide (a0 ≤ a2))
  else
    some false
noncomputable def C.impl_within : Con := ⟨[.r (.val (.int .i64)), .r (.val (.int .i64)), .r (.val (.int .i64))], .one .bool, fun x => F.impl_within x.1 x.2.1 x.2.2.1⟩
noncomputable def K.impl_within : Cons := lookK []
theorem run.impl_within : Rn K.impl_within L0 [] Tryz.f31 C.impl_within := fun x => by kernel_rfl

/-! ### impl.counts: function 74 -/
noncomputable def F.impl_counts.s3 : Stp ((List Int) × (List (List Int)) × Int × Int × Unit) (List Int) := fun (x2, x3, x4, x5, _) =>
  bif decide (x5 < x4) then
    chk (inb x5 x3.length) <|
    chk (fits (List.length x2 + List.length (x3.getD x5.toNat ([]))) 8) <|
    some (.again (x2 ++ (x3.getD x5.toNat ([])), x3, x4, w64 (x5 + 1), ()))
  else
    some (.exit (x2, x3, x4, x5, ()))
noncomputable def F.impl_counts (a0 : DSketch) : Option (List Int) :=
  (F.impl_copyInts a0.2.2.2.2.1).bind fun r1 =>
  chk (fits (List.length r1 + List.length a0.2.2.2.2.2.1) 8) <|
  afterO (loopO F.impl_counts.s3 (r1 ++ a0.2.2.2.2.2.1, a0.2.2.2.2.2.2.1, len a0.2.2.2.2.2.2.1, 0, ())) fun (x6, x7, x8, x9, _) =>
  some x6
noncomputable def C.impl_counts : Con := ⟨[.r (.val y2)], .one (.sl true 3 (.int .i64)), fun x => F.impl_counts x.1⟩
def L.impl_counts : Loops := lookL [(3, ⟨[.own 3 (.sl true 3 (.int .i64)), .pat 13 (.val (.sl false 28 (.sl false 3 (.int .i64)))), .pat 14 (.val (.int .i64)), .pat 15 (.val (.int .i64))], 0⟩)]
noncomputable def K.impl_counts : Cons := lookK [(78, [], C.impl_copyInts)]
theorem run.impl_counts : Rn K.impl_counts L.impl_counts [] Tryz.f74 C.impl_counts := fun x => by kernel_rfl

/-! ### impl.SketchOk: function 56 -/
noncomputable def F.impl_SketchOk.s5 : Stp (Int × (List Int) × Int × Int × DSketch × Unit) Bool := fun (x2, x3, x4, x5, x6, _) =>
  bif decide (x5 < x4) then
    chk (inb x5 x3.length) <|
    (F.impl_within (x3.getD x5.toNat 0) 0 1000000000).bind fun r7 =>
    bif !r7 then
      some (.ret false)
    else
      some (.again (w64 (x2 + (x3.getD x5.toNat 0)), x3, x4, w64 (x5 + 1), x6, ()))
  else
    some (.exit (x2, x3, x4, x5, x6, ()))
noncomputable def F.impl_SketchOk.s12 : Stp (Int × (List Int) × Int × Int × DSketch × Unit) Bool := fun (x13, x14, x15, x16, x17, _) =>
  bif decide (x16 < x15) then
    chk (inb x16 x14.length) <|
    bif decide ((x14.getD x16.toNat 0) > 17) then
      some (.ret false)
    else
      some (.again (x13, x14, x15, w64 (x16 + 1), x17, ()))
  else
    some (.exit (x13, x14, x15, x16, x17, ()))
noncomputable def F.impl_SketchOk (a0 : DSketch) : Option Bool :=
  bif (len a0.2.2.2.2.1) != 8 then
    some false
  else
  bif (len a0.2.2.2.2.2.1) != 8 then
    some false
  else
  bif (len a0.2.2.2.2.2.2.1) != 2 then
    some false
  else
  chk (inb 0 a0.2.2.2.2.2.2.1.length) <|
  bif (len (a0.2.2.2.2.2.2.1.getD 0 ([]))) != 4 then
    some false
  else
  chk (inb 1 a0.2.2.2.2.2.2.1.length) <|
  bif (len (a0.2.2.2.2.2.2.1.getD 1 ([]))) != 4 then
    some false
  else
  (F.impl_counts a0).bind fun r1 =>
  chk (fits (List.length r1 + List.length ([a0.1, a0.2.1, a0.2.2.1, a0.2.2.2.1])) 8) <|
  afterO (loopO F.impl_SketchOk.s5 (0, r1 ++ ([a0.1, a0.2.1, a0.2.2.1, a0.2.2.2.1]), len (r1 ++ ([a0.1, a0.2.1, a0.2.2.1, a0.2.2.2.1])), 0, a0, ())) fun (x8, x9, x10, x11, x12, _) =>
  afterO (loopO F.impl_SketchOk.s12 (x8, x12.2.2.2.2.2.1, len x12.2.2.2.2.2.1, 0, x12, ())) fun (x18, x19, x20, x21, x22, _) =>
  bif x22.1 == 0 then
    some (x18 == 0)
  else
  bif decide (x22.2.2.1 ≤ x22.2.2.2.1) then
    some (decide (x22.2.2.2.1 ≤ 1000000))
  else
    some false
noncomputable def C.impl_SketchOk : Con := ⟨[.r (.val y2)], .one .bool, fun x => F.impl_SketchOk x.1⟩
def L.impl_SketchOk : Loops := lookL [(5, ⟨[.pat 3 (.val (.int .i64)), .own 51 (.sl true 3 (.int .i64)), .pat 52 (.val (.int .i64)), .pat 53 (.val (.int .i64)), .root 1 true y2 [1]], 0⟩), (12, ⟨[.pat 3 (.val (.int .i64)), .pat 65 (.val (.sl false 3 (.int .i64))), .pat 66 (.val (.int .i64)), .pat 67 (.val (.int .i64)), .root 1 true y2 [1]], 2⟩)]
noncomputable def K.impl_SketchOk : Cons := lookK [(31, [], C.impl_within), (74, [], C.impl_counts)]
theorem run.impl_SketchOk : Rn K.impl_SketchOk L.impl_SketchOk [] Tryz.f56 C.impl_SketchOk := fun x => by kernel_rfl

/-! ### impl.ItemOk: function 32 -/
noncomputable def F.impl_ItemOk (a0 : DItem) : Option Bool :=
  (F.impl_within a0.1 1 60).bind fun r1 =>
  bif r1 then
    (F.impl_within a0.2.1 0 1).bind fun r2 =>
    bif r2 then
      (F.impl_within a0.2.2.1 0 4).bind fun r3 =>
      bif r3 then
        (F.impl_within a0.2.2.2.1 0 20).bind fun r4 =>
        bif r4 then
          (F.impl_SketchOk a0.2.2.2.2.1).bind fun r5 =>
          some r5
        else
          some false
      else
        some false
    else
      some false
  else
    some false
noncomputable def C.impl_ItemOk : Con := ⟨[.r (.val y3)], .one .bool, fun x => F.impl_ItemOk x.1⟩
noncomputable def K.impl_ItemOk : Cons := lookK [(31, [], C.impl_within), (56, [], C.impl_SketchOk)]
theorem run.impl_ItemOk : Rn K.impl_ItemOk L0 [] Tryz.f32 C.impl_ItemOk := fun x => by kernel_rfl

/-! ### impl.SetOk: function 28 -/
noncomputable def F.impl_SetOk.s2 : Stp ((List DSpan) × (List DSpan) × Int × Int × Unit) Bool := fun (x1, x2, x3, x4, _) =>
  bif decide (x4 < x3) then
    chk (inb x4 x2.length) <|
    (F.impl_within ((x2.getD x4.toNat (0, 0, ())).1) 0 9999).bind fun r5 =>
    bif !r5 then
      some (.ret false)
    else
    (F.impl_within (((x2.getD x4.toNat (0, 0, ())).2).1) ((x2.getD x4.toNat (0, 0, ())).1) 9999).bind fun r6 =>
    bif !r6 then
      some (.ret false)
    else
    bif decide (x4 > 0) then
      chk (inb (w64 (x4 - 1)) x1.length) <|
      bif decide (((x2.getD x4.toNat (0, 0, ())).1) ≤ (w64 ((((x1.getD (Int.toNat (w64 (x4 - 1))) (0, 0, ())).2).1) + 1))) then
        some (.ret false)
      else
        some (.again (x1, x2, x3, w64 (x4 + 1), ()))
    else
      some (.again (x1, x2, x3, w64 (x4 + 1), ()))
  else
    some (.exit (x1, x2, x3, x4, ()))
noncomputable def F.impl_SetOk (a0 : List DSpan) : Option Bool :=
  afterO (loopO F.impl_SetOk.s2 (a0, a0, len a0, 0, ())) fun (x7, x8, x9, x10, _) =>
  some true
noncomputable def C.impl_SetOk : Con := ⟨[.r (.val (.sl false 51 y1))], .one .bool, fun x => F.impl_SetOk x.1⟩
def L.impl_SetOk : Loops := lookL [(2, ⟨[.pat 0 (.val (.sl false 51 y1)), .pat 5 (.val (.sl false 51 y1)), .pat 6 (.val (.int .i64)), .pat 7 (.val (.int .i64))], 0⟩)]
noncomputable def K.impl_SetOk : Cons := lookK [(31, [], C.impl_within)]
theorem run.impl_SetOk : Rn K.impl_SetOk L.impl_SetOk [] Tryz.f28 C.impl_SetOk := fun x => by kernel_rfl

/-! ### impl.allIn: function 19 -/
noncomputable def F.impl_allIn (a0 : List DSpan) (a1 : Int) (a2 : Int) : Option Bool :=
  (F.impl_SetOk a0).bind fun r1 =>
  bif r1 then
    bif (len a0) == 0 then
      some true
    else
    chk (inb 0 a0.length) <|
    bif decide (((a0.getD 0 (0, 0, ())).1) ≥ a1) then
      chk (inb (w64 ((len a0) - 1)) a0.length) <|
      some (decide ((((a0.getD (Int.toNat (w64 ((len a0) - 1))) (0, 0, ())).2).1) ≤ a2))
    else
      some false
  else
    some false
noncomputable def C.impl_allIn : Con := ⟨[.r (.val (.sl false 51 y1)), .r (.val (.int .i64)), .r (.val (.int .i64))], .one .bool, fun x => F.impl_allIn x.1 x.2.1 x.2.2.1⟩
noncomputable def K.impl_allIn : Cons := lookK [(28, [], C.impl_SetOk)]
theorem run.impl_allIn : Rn K.impl_allIn L0 [] Tryz.f19 C.impl_allIn := fun x => by kernel_rfl

/-! ### impl.AgentOk: function 10 -/
noncomputable def F.impl_AgentOk.s4 : Stp ((List DItem) × Int × Int × DAgent × Unit) Bool := fun (x5, x6, x7, x8, _) =>
  bif decide (x7 < x6) then
    chk (inb x7 x5.length) <|
    (F.impl_ItemOk (x5.getD x7.toNat (0, 0, 0, 0, (0, 0, 0, 0, [], [], [], ()), ()))).bind fun r9 =>
    bif !r9 then
      some (.ret false)
    else
    bif ((x5.getD x7.toNat (0, 0, 0, 0, (0, 0, 0, 0, [], [], [], ()), ())).1) != (w64 (x7 + 1)) then
      some (.ret false)
    else
      some (.again (x5, x6, w64 (x7 + 1), x8, ()))
  else
    some (.exit (x5, x6, x7, x8, ()))
noncomputable def F.impl_AgentOk (a0 : DAgent) : Option Bool :=
  (F.impl_within a0.1 0 2).bind fun r1 =>
  bif !r1 then
    some false
  else
  (F.impl_within a0.2.1 0 1000).bind fun r2 =>
  bif !r2 then
    some false
  else
  (F.impl_within a0.2.2.2.1 0 60).bind fun r3 =>
  bif !r3 then
    some false
  else
  bif decide ((len a0.2.2.2.2.1) > 60) then
    some false
  else
  (F.impl_within a0.2.2.2.2.2.2.1 0 60).bind fun r4 =>
  bif !r4 then
    some false
  else
  afterO (loopO F.impl_AgentOk.s4 (a0.2.2.2.2.1, len a0.2.2.2.2.1, 0, a0, ())) fun (x10, x11, x12, x13, _) =>
  (F.impl_allIn x13.2.2.2.2.2.1 1 (len x13.2.2.2.2.1)).bind fun r14 =>
  bif r14 then
    bif x13.2.2.1 then
      some true
    else
      some (x13.2.2.2.1 == 0)
  else
    some false
noncomputable def C.impl_AgentOk : Con := ⟨[.r (.val y4)], .one .bool, fun x => F.impl_AgentOk x.1⟩
def L.impl_AgentOk : Loops := lookL [(4, ⟨[.pat 34 (.val (.sl false 33 y3)), .pat 35 (.val (.int .i64)), .pat 36 (.val (.int .i64)), .root 1 true y4 [1]], 0⟩)]
noncomputable def K.impl_AgentOk : Cons := lookK [(19, [], C.impl_allIn), (31, [], C.impl_within), (32, [], C.impl_ItemOk)]
theorem run.impl_AgentOk : Rn K.impl_AgentOk L.impl_AgentOk [] Tryz.f10 C.impl_AgentOk := fun x => by kernel_rfl

/-! ### slices.Equal[[]int,int]: function 79 -/
noncomputable def F.slices_Equal_int.s4 : Stp ((List Int) × (List Int) × Int × Int × Unit) Bool := fun (x1, x2, x3, x4, _) =>
  bif decide (x4 < x3) then
    chk (inb x4 x1.length) <|
    chk (inb x4 x2.length) <|
    bif (x1.getD x4.toNat 0) != (x2.getD x4.toNat 0) then
      some (.ret false)
    else
      some (.again (x1, x2, x3, w64 (x4 + 1), ()))
  else
    some (.exit (x1, x2, x3, x4, ()))
noncomputable def F.slices_Equal_int (a0 : List Int) (a1 : List Int) : Option Bool :=
  bif (len a0) != (len a1) then
    some false
  else
  afterO (loopO F.slices_Equal_int.s4 (a0, a1, len a0, 0, ())) fun (x5, x6, x7, x8, _) =>
  some true
noncomputable def C.slices_Equal_int : Con := ⟨[.r (.val (.sl false 3 (.int .i64))), .r (.val (.sl false 3 (.int .i64)))], .one .bool, fun x => F.slices_Equal_int x.1 x.2.1⟩
def L.slices_Equal_int : Loops := lookL [(4, ⟨[.pat 0 (.val (.sl false 3 (.int .i64))), .pat 1 (.val (.sl false 3 (.int .i64))), .pat 12 (.val (.int .i64)), .pat 13 (.val (.int .i64))], 0⟩)]
noncomputable def K.slices_Equal_int : Cons := lookK []
theorem run.slices_Equal_int : Rn K.slices_Equal_int L.slices_Equal_int [] Tryz.f79 C.slices_Equal_int := fun x => by kernel_rfl

/-! ### slices.EqualFunc[[][]int,[][]int,[]int,[]int]: function 80 -/
noncomputable def F.slices_EqualFunc_SSint__slices_Equal_int.s4 : Stp ((List (List Int)) × Unit × (List (List Int)) × Int × Int × Unit) Bool := fun (x1, x2, x3, x4, x5, _) =>
  bif decide (x5 < x4) then
    chk (inb x5 x3.length) <|
    chk (inb x5 x1.length) <|
    (F.slices_Equal_int (x3.getD x5.toNat ([])) (x1.getD x5.toNat ([]))).bind fun r6 =>
    bif !r6 then
      some (.ret false)
    else
      some (.again (x1, (), x3, x4, w64 (x5 + 1), ()))
  else
    some (.exit (x1, (), x3, x4, x5, ()))
noncomputable def F.slices_EqualFunc_SSint__slices_Equal_int (a0 : List (List Int)) (a1 : List (List Int)) (a2 : Unit) : Option Bool :=
  bif (len a0) != (len a1) then
    some false
  else
  afterO (loopO F.slices_EqualFunc_SSint__slices_Equal_int.s4 (a1, (), a0, len a0, 0, ())) fun (x7, x8, x9, x10, x11, _) =>
  some true
noncomputable def C.slices_EqualFunc_SSint__slices_Equal_int : Con := ⟨[.r (.val (.sl false 28 (.sl false 3 (.int .i64)))), .r (.val (.sl false 28 (.sl false 3 (.int .i64)))), .r (.fn 79 .nil)], .one .bool, fun x => F.slices_EqualFunc_SSint__slices_Equal_int x.1 x.2.1 x.2.2.1⟩
def L.slices_EqualFunc_SSint__slices_Equal_int : Loops := lookL [(4, ⟨[.pat 1 (.val (.sl false 28 (.sl false 3 (.int .i64)))), .pat 2 (.fn 79 .nil), .pat 15 (.val (.sl false 28 (.sl false 3 (.int .i64)))), .pat 16 (.val (.int .i64)), .pat 17 (.val (.int .i64))], 0⟩)]
noncomputable def K.slices_EqualFunc_SSint__slices_Equal_int : Cons := lookK [(79, [], C.slices_Equal_int)]
theorem run.slices_EqualFunc_SSint__slices_Equal_int : Rn K.slices_EqualFunc_SSint__slices_Equal_int L.slices_EqualFunc_SSint__slices_Equal_int [] Tryz.f80 C.slices_EqualFunc_SSint__slices_Equal_int := fun x => by kernel_rfl

/-! ### impl.SketchSame: function 63 -/
noncomputable def F.impl_SketchSame (a0 : DSketch) (a1 : DSketch) : Option Bool :=
  bif a0.1 == a1.1 then
    bif a0.2.1 == a1.2.1 then
      bif a0.2.2.1 == a1.2.2.1 then
        bif a0.2.2.2.1 == a1.2.2.2.1 then
          (F.slices_Equal_int a0.2.2.2.2.1 a1.2.2.2.2.1).bind fun r1 =>
          bif r1 then
            (F.slices_Equal_int a0.2.2.2.2.2.1 a1.2.2.2.2.2.1).bind fun r2 =>
            bif r2 then
              (F.slices_EqualFunc_SSint__slices_Equal_int a0.2.2.2.2.2.2.1 a1.2.2.2.2.2.2.1 ()).bind fun r3 =>
              some r3
            else
              some false
          else
            some false
        else
          some false
      else
        some false
    else
      some false
  else
    some false
noncomputable def C.impl_SketchSame : Con := ⟨[.r (.val y2), .r (.val y2)], .one .bool, fun x => F.impl_SketchSame x.1 x.2.1⟩
noncomputable def K.impl_SketchSame : Cons := lookK [(79, [], C.slices_Equal_int), (80, [79], C.slices_EqualFunc_SSint__slices_Equal_int)]
theorem run.impl_SketchSame : Rn K.impl_SketchSame L0 [] Tryz.f63 C.impl_SketchSame := fun x => by kernel_rfl

/-! ### impl.itemSame: function 40 -/
noncomputable def F.impl_itemSame (a0 : DItem) (a1 : DItem) : Option Bool :=
  bif a0.1 == a1.1 then
    bif a0.2.1 == a1.2.1 then
      bif a0.2.2.1 == a1.2.2.1 then
        bif a0.2.2.2.1 == a1.2.2.2.1 then
          (F.impl_SketchSame a0.2.2.2.2.1 a1.2.2.2.2.1).bind fun r1 =>
          some r1
        else
          some false
      else
        some false
    else
      some false
  else
    some false
noncomputable def C.impl_itemSame : Con := ⟨[.r (.val y3), .r (.val y3)], .one .bool, fun x => F.impl_itemSame x.1 x.2.1⟩
noncomputable def K.impl_itemSame : Cons := lookK [(63, [], C.impl_SketchSame)]
theorem run.impl_itemSame : Rn K.impl_itemSame L0 [] Tryz.f40 C.impl_itemSame := fun x => by kernel_rfl

/-! ### impl.FrameOk: function 18 -/
noncomputable def F.impl_FrameOk (a0 : DFrame) : Option Bool :=
  (F.impl_within a0.1 0 3).bind fun r1 =>
  bif !r1 then
    some false
  else
  (F.impl_within a0.2.1 0 2).bind fun r2 =>
  bif !r2 then
    some false
  else
  (F.impl_within a0.2.2.1 0 1000).bind fun r3 =>
  bif !r3 then
    some false
  else
  (F.impl_within a0.2.2.2.1 0 60).bind fun r4 =>
  bif !r4 then
    some false
  else
  (F.impl_allIn a0.2.2.2.2.1 1 60).bind fun r5 =>
  bif !r5 then
    some false
  else
  bif a0.1 == 1 then
    (F.impl_ItemOk a0.2.2.2.2.2.1).bind fun r6 =>
    some r6
  else
  (F.impl_itemSame a0.2.2.2.2.2.1 (0, 0, 0, 0, (0, 0, 0, 0, ([] : List Int), ([] : List Int), ([] : List (List Int)), ()), ())).bind fun r7 =>
  some r7
noncomputable def C.impl_FrameOk : Con := ⟨[.r (.val y9)], .one .bool, fun x => F.impl_FrameOk x.1⟩
noncomputable def K.impl_FrameOk : Cons := lookK [(19, [], C.impl_allIn), (31, [], C.impl_within), (32, [], C.impl_ItemOk), (40, [], C.impl_itemSame)]
theorem run.impl_FrameOk : Rn K.impl_FrameOk L0 [] Tryz.f18 C.impl_FrameOk := fun x => by kernel_rfl

/-! ### slices.SortFunc[[]impl.Span,impl.Span]: function 53: by its contract -/
noncomputable def F.slices_SortFunc_Span__impl_union_1 (a0 : List DSpan) (a1 : Unit) : Option (List DSpan) :=
  chk (decide (a0.length ≤ 4000000000000)) <|
  some (sortS a0)
noncomputable def C.slices_SortFunc_Span__impl_union_1 : Con := ⟨[.c (.sl true 51 y1), .r (.fn 54 .nil)], .many [], fun x => F.slices_SortFunc_Span__impl_union_1 x.1 x.2.1⟩
-- EXT slices_SortFunc_Span__impl_union_1 53 sort 51 54

/-! ### impl.union: function 29 -/
noncomputable def F.impl_union.s5 : Stp ((List DSpan) × (List DSpan) × Int × Int × Unit) (List DSpan) := fun (x3, x4, x5, x6, _) =>
  bif decide (x6 < x5) then
    chk (inb x6 x4.length) <|
    bif decide ((len x3) > 0) then
      chk (inb (w64 ((len x3) - 1)) x3.length) <|
      bif decide (((x4.getD x6.toNat (0, 0, ())).1) ≤ (w64 ((((x3.getD (Int.toNat (w64 ((len x3) - 1))) (0, 0, ())).2).1) + 1))) then
        chk (inb (w64 ((len x3) - 1)) x3.length) <|
        chk (inb (w64 ((len x3) - 1)) x3.length) <|
        (some (List.set x3 (Int.toNat (w64 ((len x3) - 1))) ((x3.getD (Int.toNat (w64 ((len x3) - 1))) (0, 0, ())).1, mxI (((x3.getD (Int.toNat (w64 ((len x3) - 1))) (0, 0, ())).2).1) (((x4.getD x6.toNat (0, 0, ())).2).1), ((x3.getD (Int.toNat (w64 ((len x3) - 1))) (0, 0, ())).2).2))).bind fun r7 =>
        some (.again (r7, x4, x5, w64 (x6 + 1), ()))
      else
      chk (fits (List.length x3 + List.length ([x4.getD x6.toNat (0, 0, ())])) 16) <|
      some (.again (x3 ++ ([x4.getD x6.toNat (0, 0, ())]), x4, x5, w64 (x6 + 1), ()))
    else
    chk (fits (List.length x3 + List.length ([x4.getD x6.toNat (0, 0, ())])) 16) <|
    some (.again (x3 ++ ([x4.getD x6.toNat (0, 0, ())]), x4, x5, w64 (x6 + 1), ()))
  else
    some (.exit (x3, x4, x5, x6, ()))
noncomputable def F.impl_union (a0 : List DSpan) : Option (List DSpan) :=
  (F.impl_copySet a0).bind fun r1 =>
  (F.slices_SortFunc_Span__impl_union_1 r1 ()).bind fun r2 =>
  afterO (loopO F.impl_union.s5 (([] : List DSpan), r2, len r2, 0, ())) fun (x8, x9, x10, x11, _) =>
  some x8
noncomputable def C.impl_union : Con := ⟨[.r (.val (.sl false 51 y1))], .one (.sl true 51 y1), fun x => F.impl_union x.1⟩
def L.impl_union : Loops := lookL [(5, ⟨[.own 4 (.sl true 51 y1), .own 12 (.sl true 51 y1), .pat 13 (.val (.int .i64)), .pat 14 (.val (.int .i64))], 0⟩)]
noncomputable def K.impl_union : Cons := lookK [(30, [], C.impl_copySet), (53, [54], C.slices_SortFunc_Span__impl_union_1)]
theorem run.impl_union : Rn K.impl_union L.impl_union [] Tryz.f29 C.impl_union := fun x => by kernel_rfl

/-! ### impl.SetJoin: function 9 -/
noncomputable def F.impl_SetJoin (a0 : List DSpan) (a1 : List DSpan) : Option ((List DSpan) × Bool) :=
  (F.impl_SetOk a0).bind fun r1 =>
  bif !r1 then
    some (([] : List DSpan), false)
  else
  (F.impl_SetOk a1).bind fun r2 =>
  bif !r2 then
    some (([] : List DSpan), false)
  else
  (F.impl_copySet a0).bind fun r3 =>
  chk (fits (List.length r3 + List.length a1) 16) <|
  (F.impl_union (r3 ++ a1)).bind fun r4 =>
  some (r4, true)
noncomputable def C.impl_SetJoin : Con := ⟨[.r (.val (.sl false 51 y1)), .r (.val (.sl false 51 y1))], .many [(.sl true 51 y1), .bool], fun x => F.impl_SetJoin x.1 x.2.1⟩
noncomputable def K.impl_SetJoin : Cons := lookK [(28, [], C.impl_SetOk), (29, [], C.impl_union), (30, [], C.impl_copySet)]
theorem run.impl_SetJoin : Rn K.impl_SetJoin L0 [] Tryz.f9 C.impl_SetJoin := fun x => by kernel_rfl

/-! ### impl.AgentHear: function 6 -/
noncomputable def F.impl_AgentHear (a0 : DAgent) (a1 : DFrame) : Option (DAgent × Int) :=
  (F.impl_copyAgent a0).bind fun r1 =>
  (F.impl_AgentOk a0).bind fun r2 =>
  bif !r2 then
    some (r1, 1)
  else
  (F.impl_FrameOk a1).bind fun r3 =>
  bif !r3 then
    some (r1, 1)
  else
  bif a1.1 != 2 then
    bif a1.1 != 3 then
      some (r1, 1)
    else
    bif a1.2.1 != a0.1 then
      some (r1, 1)
    else
    (F.impl_allIn a1.2.2.2.2.1 1 (len a0.2.2.2.2.1)).bind fun r4 =>
    bif !r4 then
      some (r1, 1)
    else
    bif decide (a1.2.2.1 < a0.2.1) then
      some (r1, 2)
    else
    (F.impl_SetJoin a0.2.2.2.2.2.1 a1.2.2.2.2.1).bind fun r5 =>
    bif a1.1 == 2 then
      bif a1.2.2.1 == a0.2.1 then
        some ((r1.1, r1.2.1, true, mxI a0.2.2.2.1 a1.2.2.2.1, r1.2.2.2.2.1, r5.1, r1.2.2.2.2.2.2), 0)
      else
      bif a1.1 == 2 then
        some ((r1.1, a1.2.2.1, true, a1.2.2.2.1, r1.2.2.2.2.1, r5.1, r1.2.2.2.2.2.2), 0)
      else
        some ((r1.1, a1.2.2.1, false, 0, r1.2.2.2.2.1, r5.1, r1.2.2.2.2.2.2), 0)
    else
    bif a1.1 == 2 then
      some ((r1.1, a1.2.2.1, true, a1.2.2.2.1, r1.2.2.2.2.1, r5.1, r1.2.2.2.2.2.2), 0)
    else
      some ((r1.1, a1.2.2.1, false, 0, r1.2.2.2.2.1, r5.1, r1.2.2.2.2.2.2), 0)
  else
  bif a1.2.1 != a0.1 then
    some (r1, 1)
  else
  (F.impl_allIn a1.2.2.2.2.1 1 (len a0.2.2.2.2.1)).bind fun r6 =>
  bif !r6 then
    some (r1, 1)
  else
  bif decide (a1.2.2.1 < a0.2.1) then
    some (r1, 2)
  else
  (F.impl_SetJoin a0.2.2.2.2.2.1 a1.2.2.2.2.1).bind fun r7 =>
  bif a1.1 == 2 then
    bif a1.2.2.1 == a0.2.1 then
      some ((r1.1, r1.2.1, true, mxI a0.2.2.2.1 a1.2.2.2.1, r1.2.2.2.2.1, r7.1, r1.2.2.2.2.2.2), 0)
    else
    bif a1.1 == 2 then
      some ((r1.1, a1.2.2.1, true, a1.2.2.2.1, r1.2.2.2.2.1, r7.1, r1.2.2.2.2.2.2), 0)
    else
      some ((r1.1, a1.2.2.1, false, 0, r1.2.2.2.2.1, r7.1, r1.2.2.2.2.2.2), 0)
  else
  bif a1.1 == 2 then
    some ((r1.1, a1.2.2.1, true, a1.2.2.2.1, r1.2.2.2.2.1, r7.1, r1.2.2.2.2.2.2), 0)
  else
    some ((r1.1, a1.2.2.1, false, 0, r1.2.2.2.2.1, r7.1, r1.2.2.2.2.2.2), 0)
noncomputable def C.impl_AgentHear : Con := ⟨[.r (.val y4), .r (.val y9)], .many [y7, (.int .i64)], fun x => F.impl_AgentHear x.1 x.2.1⟩
noncomputable def K.impl_AgentHear : Cons := lookK [(9, [], C.impl_SetJoin), (10, [], C.impl_AgentOk), (17, [], C.impl_copyAgent), (18, [], C.impl_FrameOk), (19, [], C.impl_allIn)]
theorem run.impl_AgentHear : Rn K.impl_AgentHear L0 [] Tryz.f6 C.impl_AgentHear := fun x => by kernel_rfl

/-! ### spec.l7Zero: function 47 -/
noncomputable def F.spec_l7Zero (a0 : DItem) : Option Bool :=
  bif a0.1 == 0 then
    bif a0.2.1 == 0 then
      bif a0.2.2.1 == 0 then
        bif a0.2.2.2.1 == 0 then
          bif a0.2.2.2.2.1.1 == 0 then
            bif a0.2.2.2.2.1.2.1 == 0 then
              bif a0.2.2.2.2.1.2.2.1 == 0 then
                bif a0.2.2.2.2.1.2.2.2.1 == 0 then
                  bif (len a0.2.2.2.2.1.2.2.2.2.1) == 0 then
                    bif (len a0.2.2.2.2.1.2.2.2.2.2.1) == 0 then
                      some ((len a0.2.2.2.2.1.2.2.2.2.2.2.1) == 0)
                    else
                      some false
                  else
                    some false
                else
                  some false
              else
                some false
            else
              some false
          else
            some false
        else
          some false
      else
        some false
    else
      some false
  else
    some false
noncomputable def C.spec_l7Zero : Con := ⟨[.r (.val y3)], .one .bool, fun x => F.spec_l7Zero x.1⟩
noncomputable def K.spec_l7Zero : Cons := lookK []
theorem run.spec_l7Zero : Rn K.spec_l7Zero L0 [] Tryz.f47 C.spec_l7Zero := fun x => by kernel_rfl

/-! ### spec.FrameOk: function 22 -/
noncomputable def F.spec_FrameOk.s4 : Stp (Int × DFrame × Unit) Bool := fun (x6, x7, _) =>
  bif decide (x6 < (len x7.2.2.2.2.1)) then
    chk (inb x6 x7.2.2.2.2.1.length) <|
    bif decide (((x7.2.2.2.2.1.getD x6.toNat (0, 0, ())).1) < 1) then
      some (.ret false)
    else
    chk (inb x6 x7.2.2.2.2.1.length) <|
    bif decide ((((x7.2.2.2.2.1.getD x6.toNat (0, 0, ())).2).1) > 60) then
      some (.ret false)
    else
      some (.again (w64 (x6 + 1), x7, ()))
  else
    some (.exit (x6, x7, ()))
noncomputable def F.spec_FrameOk (a0 : DFrame) : Option Bool :=
  (F.spec_l1In a0.1 0 3).bind fun r1 =>
  bif !r1 then
    some false
  else
  (F.spec_l6Agent a0.2.1).bind fun r2 =>
  bif !r2 then
    some false
  else
  (F.spec_l1In a0.2.2.1 0 1000).bind fun r3 =>
  bif !r3 then
    some false
  else
  (F.spec_l1In a0.2.2.2.1 0 60).bind fun r4 =>
  bif !r4 then
    some false
  else
  (F.spec_SetOk a0.2.2.2.2.1).bind fun r5 =>
  bif !r5 then
    some false
  else
  afterO (loopO F.spec_FrameOk.s4 (0, a0, ())) fun (x8, x9, _) =>
  bif x9.1 == 1 then
    (F.spec_ItemOk x9.2.2.2.2.2.1).bind fun r10 =>
    some r10
  else
  (F.spec_l7Zero x9.2.2.2.2.2.1).bind fun r11 =>
  some r11
noncomputable def C.spec_FrameOk : Con := ⟨[.r (.val y9)], .one .bool, fun x => F.spec_FrameOk x.1⟩
def L.spec_FrameOk : Loops := lookL [(4, ⟨[.pat 3 (.val (.int .i64)), .root 1 true y9 [1]], 0⟩)]
noncomputable def K.spec_FrameOk : Cons := lookK [(43, [], C.spec_l6Agent), (44, [], C.spec_l1In), (45, [], C.spec_ItemOk), (46, [], C.spec_SetOk), (47, [], C.spec_l7Zero)]
theorem run.spec_FrameOk : Rn K.spec_FrameOk L.spec_FrameOk [] Tryz.f22 C.spec_FrameOk := fun x => by kernel_rfl

/-! ### spec.l5Join: function 24 -/
noncomputable def F.spec_l5Join.s3 : Stp ((List DSpan) × (List DSpan) × Int × Unit) (List DSpan) := fun (x2, x3, x4, _) =>
  bif decide (x4 < (len x2)) then
    chk (inb x4 x2.length) <|
    (F.spec_l5Put x3 (x2.getD x4.toNat (0, 0, ()))).bind fun r5 =>
    some (.again (x2, r5, w64 (x4 + 1), ()))
  else
    some (.exit (x2, x3, x4, ()))
noncomputable def F.spec_l5Join (a0 : List DSpan) (a1 : List DSpan) : Option (List DSpan) :=
  (F.spec_l5Copy a0).bind fun r1 =>
  afterO (loopO F.spec_l5Join.s3 (a1, r1, 0, ())) fun (x6, x7, x8, _) =>
  some x7
noncomputable def C.spec_l5Join : Con := ⟨[.r (.val (.sl false 51 y1)), .r (.val (.sl false 51 y1))], .one (.sl true 51 y1), fun x => F.spec_l5Join x.1 x.2.1⟩
def L.spec_l5Join : Loops := lookL [(3, ⟨[.pat 1 (.val (.sl false 51 y1)), .own 5 (.sl true 51 y1), .pat 6 (.val (.int .i64))], 0⟩)]
noncomputable def K.spec_l5Join : Cons := lookK [(41, [], C.spec_l5Copy), (48, [], C.spec_l5Put)]
theorem run.spec_l5Join : Rn K.spec_l5Join L.spec_l5Join [] Tryz.f24 C.spec_l5Join := fun x => by kernel_rfl

/-! ### spec.AgentHear: function 7 -/
noncomputable def F.spec_AgentHear (a0 : DAgent) (a1 : DFrame) : Option (DAgent × Int) :=
  (F.spec_l8Copy a0).bind fun r1 =>
  (F.spec_AgentOk a0).bind fun r2 =>
  bif !r2 then
    some (r1, 1)
  else
  (F.spec_FrameOk a1).bind fun r3 =>
  bif !r3 then
    some (r1, 1)
  else
  bif decide (a1.1 < 2) then
    some (r1, 1)
  else
  bif a1.2.1 != a0.1 then
    some (r1, 1)
  else
  (F.spec_l8Below a1.2.2.2.2.1 (len a0.2.2.2.2.1)).bind fun r4 =>
  bif !r4 then
    some (r1, 1)
  else
  bif decide (a1.2.2.1 < a0.2.1) then
    some (r1, 2)
  else
  (F.spec_l5Join a0.2.2.2.2.2.1 a1.2.2.2.2.1).bind fun r5 =>
  bif a1.1 == 2 then
    bif a1.2.2.1 == a0.2.1 then
      (F.spec_l1Max a0.2.2.2.1 a1.2.2.2.1).bind fun r6 =>
      some ((r1.1, r1.2.1, true, r6, r1.2.2.2.2.1, r5, r1.2.2.2.2.2.2), 0)
    else
    bif a1.1 == 2 then
      some ((r1.1, a1.2.2.1, a1.1 == 2, a1.2.2.2.1, r1.2.2.2.2.1, r5, r1.2.2.2.2.2.2), 0)
    else
      some ((r1.1, a1.2.2.1, a1.1 == 2, 0, r1.2.2.2.2.1, r5, r1.2.2.2.2.2.2), 0)
  else
  bif a1.1 == 2 then
    some ((r1.1, a1.2.2.1, a1.1 == 2, a1.2.2.2.1, r1.2.2.2.2.1, r5, r1.2.2.2.2.2.2), 0)
  else
    some ((r1.1, a1.2.2.1, a1.1 == 2, 0, r1.2.2.2.2.1, r5, r1.2.2.2.2.2.2), 0)
noncomputable def C.spec_AgentHear : Con := ⟨[.r (.val y4), .r (.val y9)], .many [y7, (.int .i64)], fun x => F.spec_AgentHear x.1 x.2.1⟩
noncomputable def K.spec_AgentHear : Cons := lookK [(20, [], C.spec_l8Copy), (21, [], C.spec_AgentOk), (22, [], C.spec_FrameOk), (23, [], C.spec_l8Below), (24, [], C.spec_l5Join), (25, [], C.spec_l1Max)]
theorem run.spec_AgentHear : Rn K.spec_AgentHear L0 [] Tryz.f7 C.spec_AgentHear := fun x => by kernel_rfl

/-! ### strconv.Itoa: function 49: by its contract -/
noncomputable def F.strconv_Itoa (a0 : Int) : Option ByteArray :=
  chk (decide (-9223372036854775808 ≤ a0) && decide (a0 ≤ 9223372036854775807)) <|
  some (itoaS a0)
noncomputable def C.strconv_Itoa : Con := ⟨[.r (.val (.int .i64))], .one .str, fun x => F.strconv_Itoa x.1⟩
-- EXT strconv_Itoa 49 itoa

/-! ### impl.Digits: function 26 -/
noncomputable def F.impl_Digits (a0 : Int) : Option ByteArray :=
  (F.strconv_Itoa a0).bind fun r1 =>
  some r1
noncomputable def C.impl_Digits : Con := ⟨[.r (.val (.int .i64))], .one .str, fun x => F.impl_Digits x.1⟩
noncomputable def K.impl_Digits : Cons := lookK [(49, [], C.strconv_Itoa)]
theorem run.impl_Digits : Rn K.impl_Digits L0 [] Tryz.f26 C.impl_Digits := fun x => by kernel_rfl

/-! ### strings.Join: function 27: by its contract -/
noncomputable def F.strings_Join (a0 : List ByteArray) (a1 : ByteArray) : Option ByteArray :=
  chk (decide (a0.length ≤ 140737488355328) && decide ((joinL a0 a1).length ≤ 140737488355328)) <|
  some (joinT a0 a1)
noncomputable def C.strings_Join : Con := ⟨[.r (.val (.sl false 9 .str)), .r (.val .str)], .one .str, fun x => F.strings_Join x.1 x.2.1⟩
-- EXT strings_Join 27 join 9

/-! ### impl.SetText: function 8 -/
noncomputable def F.impl_SetText.s3 : Stp ((List ByteArray) × (List DSpan) × Int × Int × Unit) ByteArray := fun (x1, x2, x3, x4, _) =>
  bif decide (x4 < x3) then
    chk (inb x4 x2.length) <|
    (F.impl_Digits ((x2.getD x4.toNat (0, 0, ())).1)).bind fun r5 =>
    bif (((x2.getD x4.toNat (0, 0, ())).2).1) != ((x2.getD x4.toNat (0, 0, ())).1) then
      (F.impl_Digits (((x2.getD x4.toNat (0, 0, ())).2).1)).bind fun r6 =>
      chk (decide (ByteArray.size (ByteArray.mk #[45]) + ByteArray.size r6 ≤ 9223372036854775807)) <|
      chk (decide (ByteArray.size r5 + ByteArray.size ((ByteArray.mk #[45]) ++ r6) ≤ 9223372036854775807)) <|
      chk (fits (List.length x1 + List.length ([r5 ++ ((ByteArray.mk #[45]) ++ r6)])) 16) <|
      some (.again (x1 ++ ([r5 ++ ((ByteArray.mk #[45]) ++ r6)]), x2, x3, w64 (x4 + 1), ()))
    else
    chk (fits (List.length x1 + List.length ([r5])) 16) <|
    some (.again (x1 ++ ([r5]), x2, x3, w64 (x4 + 1), ()))
  else
    some (.exit (x1, x2, x3, x4, ()))
noncomputable def F.impl_SetText (a0 : List DSpan) : Option ByteArray :=
  afterO (loopO F.impl_SetText.s3 (([] : List ByteArray), a0, len a0, 0, ())) fun (x7, x8, x9, x10, _) =>
  (F.strings_Join x7 (ByteArray.mk #[44])).bind fun r11 =>
  some r11
noncomputable def C.impl_SetText : Con := ⟨[.r (.val (.sl false 51 y1))], .one .str, fun x => F.impl_SetText x.1⟩
def L.impl_SetText : Loops := lookL [(3, ⟨[.own 3 (.sl true 9 .str), .pat 7 (.val (.sl false 51 y1)), .pat 8 (.val (.int .i64)), .pat 9 (.val (.int .i64))], 0⟩)]
noncomputable def K.impl_SetText : Cons := lookK [(26, [], C.impl_Digits), (27, [], C.strings_Join)]
theorem run.impl_SetText : Rn K.impl_SetText L.impl_SetText [] Tryz.f8 C.impl_SetText := fun x => by kernel_rfl

/-! ### laws.FnHeard: function 3 -/
noncomputable def F.laws_FnHeard (a0 : List Int) : Option Bool :=
  (F.laws_big a0).bind fun r1 =>
  bif r1 then
    some true
  else
  (F.spec_DrawAgentHear a0).bind fun r2 =>
  (F.impl_AgentHear r2.1 r2.2).bind fun r3 =>
  (F.spec_AgentHear r2.1 r2.2).bind fun r4 =>
  bif r3.2 != r4.2 then
    some false
  else
  (F.impl_AgentHear r3.1 r2.2).bind fun r5 =>
  bif r3.2 != 0 then
    bif r5.2 == r3.2 then
      bif r3.1.2.1 == r2.1.2.1 then
        bif r3.1.2.2.2.1 == r2.1.2.2.2.1 then
          bif r3.1.2.2.1 == r2.1.2.2.1 then
            (F.impl_SetText r3.1.2.2.2.2.2.1).bind fun r6 =>
            (F.impl_SetText r2.1.2.2.2.2.2.1).bind fun r7 =>
            some (ByteArray.toList r6 == ByteArray.toList r7)
          else
            some false
        else
          some false
      else
        some false
    else
      some false
  else
  (F.impl_SetJoin r2.1.2.2.2.2.2.1 r2.2.2.2.2.2.1).bind fun r8 =>
  bif r5.2 == 0 then
    (F.impl_AgentOk r3.1).bind fun r9 =>
    bif r9 then
      bif decide (r3.1.2.1 ≥ r2.1.2.1) then
        (F.impl_SetText r3.1.2.2.2.2.2.1).bind fun r10 =>
        (F.impl_SetText r8.1).bind fun r11 =>
        bif ByteArray.toList r10 == ByteArray.toList r11 then
          bif r5.1.2.2.2.1 == r3.1.2.2.2.1 then
            bif r5.1.2.2.1 == r3.1.2.2.1 then
              bif r5.1.2.1 == r3.1.2.1 then
                bif decide (r3.1.2.1 > r2.1.2.1) then
                  some true
                else
                bif r2.2.1 == 3 then
                  some true
                else
                  some (decide (r3.1.2.2.2.1 ≥ r2.1.2.2.2.1))
              else
                some false
            else
              some false
          else
            some false
        else
          some false
      else
        some false
    else
      some false
  else
    some false
noncomputable def C.laws_FnHeard : Con := ⟨[.r (.val (.sl false 5 (.int .u8)))], .one .bool, fun x => F.laws_FnHeard x.1⟩
noncomputable def K.laws_FnHeard : Cons := lookK [(4, [], C.laws_big), (5, [], C.spec_DrawAgentHear), (6, [], C.impl_AgentHear), (7, [], C.spec_AgentHear), (8, [], C.impl_SetText), (9, [], C.impl_SetJoin), (10, [], C.impl_AgentOk)]
theorem run.laws_FnHeard : Rn K.laws_FnHeard L0 [] Tryz.f3 C.laws_FnHeard := fun x => by kernel_rfl
end Go.Proofs.YtipaepbmdooekaaGreatDoor.Vm
