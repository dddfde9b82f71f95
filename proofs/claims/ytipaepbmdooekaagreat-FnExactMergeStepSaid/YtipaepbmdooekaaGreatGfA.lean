-- compact
import Derived.Test.YtipaepbmdooekaaGreatV1
import Derived.Test.YtipaepbmdooekaaGreatProg
import Derived.Test.YtipaepbmdooekaaGreatVS0
import Derived.KernelRfl
namespace Go.Proofs.YtipaepbmdooekaaGreat.Vm
noncomputable section
open Go Go.RowKit
set_option maxRecDepth 100000
set_option linter.unusedVariables false
def lookL (l : List (Nat × Loop)) : Loops := fun n => lookN l n
def eqNs : List Nat -> List Nat -> Bool
 | [], [] => true
 | a :: l, b :: m => Nat.beq a b && eqNs l m
 | _, _ => false
def lookK : List (FuncId × List Nat × Con) -> Cons
 | [], _, _ => none
 | (f, ks, c) :: l, g, xs => bif Nat.beq f g && eqNs ks xs then some c else lookK l g xs
abbrev Stp (T A : Type) : Type := T -> Option (Lp T A)
abbrev DSpan : Type := Int × Int × Unit
abbrev DL1Cur : Type := (List Int) × Int × Int × Unit
abbrev DSketch : Type := Int × Int × Int × Int × (List Int) × (List Int) × (List (List Int)) × Unit
abbrev DEntry : Type := Int × Int × (List DSpan) × DSketch × Unit
abbrev DItem : Type := Int × Int × Int × Int × DSketch × Unit
abbrev DRow : Type := (List DEntry) × Unit
abbrev DConf : Type := Int × Int × Int × (List Int) × Int × Int × Int × Int × Unit
abbrev DSeat : Type := Int × Int × (List DSpan) × Int × Int × Unit
abbrev DTurn : Type := Int × Bool × (List Int) × Unit
abbrev DOut : Type := Int × DEntry × Unit
abbrev DHouse : Type := DConf × Int × Bool × (List DSeat) × (List (List DRow)) × (List DTurn) × Int × (List DEntry) × (List DOut) × Unit
abbrev y0 : Ty := .cons (.sl false 5 (.int .u8)) (.cons (.int .i64) (.cons (.int .i64) .nil))
abbrev y1 : Ty := .cons (.int .i64) (.cons (.int .i64) (.cons (.int .i64) (.cons (.int .i64) (.cons (.sl true 3 (.int .i64)) (.cons (.sl true 3 (.int .i64)) (.cons (.sl true 26 (.sl true 3 (.int .i64))) .nil))))))
abbrev y2 : Ty := .cons (.int .i64) (.cons (.int .i64) (.cons (.int .i64) (.cons (.int .i64) (.cons (.sl false 3 (.int .i64)) (.cons (.sl false 3 (.int .i64)) (.cons (.sl false 26 (.sl false 3 (.int .i64))) .nil))))))
abbrev y3 : Ty := .cons (.int .i64) (.cons (.int .i64) (.cons (.int .i64) (.cons (.int .i64) (.cons y1 .nil))))
abbrev y4 : Ty := .cons (.int .i64) (.cons (.int .i64) (.cons (.int .i64) (.cons (.int .i64) (.cons y2 .nil))))
abbrev y5 : Ty := .cons (.int .i64) (.cons (.int .i64) .nil)
abbrev y6 : Ty := .cons (.int .i64) (.cons (.int .i64) (.cons (.sl true 180 y5) (.cons y1 .nil)))
abbrev y7 : Ty := .cons (.int .i64) (.cons (.int .i64) (.cons (.sl false 180 y5) (.cons y2 .nil)))
abbrev y8 : Ty := .cons (.int .i64) (.cons (.int .i64) (.cons (.sl false 182 y5) (.cons y2 .nil)))
abbrev y9 : Ty := .cons (.int .i64) (.cons (.int .i64) (.cons (.int .i64) (.cons (.sl false 3 (.int .i64)) (.cons (.int .i64) (.cons (.int .i64) (.cons (.int .i64) (.cons (.int .i64) .nil)))))))
abbrev y10 : Ty := .cons (.int .i64) (.cons (.int .i64) (.cons (.sl false 182 y5) (.cons (.int .i64) (.cons (.int .i64) .nil))))
abbrev y11 : Ty := .cons (.int .i64) (.cons .bool (.cons (.sl false 3 (.int .i64)) .nil))
abbrev y12 : Ty := .cons (.int .i64) (.cons y8 .nil)
abbrev y13 : Ty := .cons y9 (.cons (.int .i64) (.cons .bool (.cons (.sl false 190 y10) (.cons (.sl false 192 (.sl false 260 (.cons (.sl false 40 y8) .nil))) (.cons (.sl false 194 y11) (.cons (.int .i64) (.cons (.sl false 40 y8) (.cons (.sl false 197 y12) .nil))))))))
abbrev y14 : Ty := .cons (.int .i64) (.cons (.int .i64) (.cons (.int .i64) (.cons (.sl true 3 (.int .i64)) (.cons (.int .i64) (.cons (.int .i64) (.cons (.int .i64) (.cons (.int .i64) .nil)))))))
abbrev y15 : Ty := .cons (.int .i64) (.cons (.int .i64) (.cons (.sl true 180 y5) (.cons (.int .i64) (.cons (.int .i64) .nil))))
abbrev y16 : Ty := .cons (.int .i64) (.cons .bool (.cons (.sl true 3 (.int .i64)) .nil))
abbrev y17 : Ty := .cons (.int .i64) (.cons y6 .nil)
abbrev y18 : Ty := .cons y14 (.cons (.int .i64) (.cons .bool (.cons (.sl true 143 y15) (.cons (.sl true 121 (.sl true 84 (.cons (.sl true 31 y6) .nil))) (.cons (.sl true 125 y16) (.cons (.int .i64) (.cons (.sl true 31 y6) (.cons (.sl true 203 y17) .nil))))))))
abbrev y19 : Ty := .cons (.int .i64) (.cons (.int .i64) (.cons (.sl false 180 y5) (.cons (.int .i64) (.cons (.int .i64) .nil))))
abbrev y20 : Ty := .cons (.int .i64) (.cons y7 .nil)
abbrev y21 : Ty := .cons y9 (.cons (.int .i64) (.cons .bool (.cons (.sl false 143 y19) (.cons (.sl false 121 (.sl false 84 (.cons (.sl false 31 y7) .nil))) (.cons (.sl false 125 y11) (.cons (.int .i64) (.cons (.sl false 31 y7) (.cons (.sl false 203 y20) .nil))))))))
abbrev y22 : Ty := .cons y14 (.cons (.int .i64) (.cons .bool (.cons (.sl true 143 y15) (.cons (.sl true 121 (.sl true 84 (.cons (.sl false 31 y7) .nil))) (.cons (.sl true 125 y16) (.cons (.int .i64) (.cons (.sl true 31 y7) (.cons (.sl true 203 y17) .nil))))))))
abbrev y23 : Ty := .cons .bool (.cons .bool .nil)
abbrev y24 : Ty := .cons (.int .i64) (.cons (.int .i64) (.cons (.int .i64) (.cons (.int .i64) (.cons (.sl false 180 y5) (.cons y4 .nil)))))
abbrev y25 : Ty := .cons (.sl false 5 (.int .u8)) (.cons (.int .i64) (.cons .bool .nil))
def tb : List (TypeId × TRow) := [
 (2, ⟨(.int .i64), 8, []⟩),
 (3, ⟨(.int .i64), 8, []⟩),
 (4, ⟨.bool, 1, []⟩),
 (5, ⟨(.int .u8), 1, []⟩),
 (6, ⟨(.int .u8), 1, []⟩),
 (9, ⟨.str, 16, []⟩),
 (10, ⟨.str, 16, []⟩),
 (11, ⟨.str, 16, []⟩),
 (12, ⟨(.int .u64), 8, []⟩),
 (21, ⟨(.int .i32), 4, []⟩),
 (22, ⟨(.sl false 5 (.int .u8)), 24, []⟩),
 (24, ⟨(.sl false 31 y7), 24, []⟩),
 (25, ⟨(.sl false 180 y5), 24, []⟩),
 (26, ⟨(.sl false 3 (.int .i64)), 24, []⟩),
 (27, ⟨(.sl false 26 (.sl false 3 (.int .i64))), 24, []⟩),
 (28, ⟨y2, 104, [3, 3, 3, 3, 26, 26, 27]⟩),
 (29, ⟨y2, 104, [3, 3, 3, 3, 26, 26, 27]⟩),
 (30, ⟨y7, 144, [3, 3, 25, 29]⟩),
 (31, ⟨y7, 144, [3, 3, 25, 29]⟩),
 (36, ⟨(.sl false 40 y8), 24, []⟩),
 (37, ⟨(.sl false 182 y5), 24, []⟩),
 (38, ⟨y2, 104, [3, 3, 3, 3, 26, 26, 27]⟩),
 (39, ⟨y8, 144, [3, 3, 37, 38]⟩),
 (40, ⟨y8, 144, [3, 3, 37, 38]⟩),
 (50, ⟨y9, 80, [3, 3, 3, 26, 3, 3, 3, 3]⟩),
 (51, ⟨y9, 80, [3, 3, 3, 26, 3, 3, 3, 3]⟩),
 (52, ⟨(.sl false 190 y10), 24, []⟩),
 (53, ⟨(.sl false 192 (.sl false 260 (.cons (.sl false 40 y8) .nil))), 24, []⟩),
 (54, ⟨(.sl false 194 y11), 24, []⟩),
 (55, ⟨(.sl false 197 y12), 24, []⟩),
 (56, ⟨y13, 224, [51, 3, 4, 52, 53, 54, 3, 36, 55]⟩),
 (57, ⟨y13, 224, [51, 3, 4, 52, 53, 54, 3, 36, 55]⟩),
 (59, ⟨y9, 80, [3, 3, 3, 26, 3, 3, 3, 3]⟩),
 (60, ⟨(.sl false 143 y19), 24, []⟩),
 (61, ⟨(.sl false 121 (.sl false 84 (.cons (.sl false 31 y7) .nil))), 24, []⟩),
 (62, ⟨(.sl false 125 y11), 24, []⟩),
 (63, ⟨(.sl false 203 y20), 24, []⟩),
 (64, ⟨y21, 224, [59, 3, 4, 60, 61, 62, 3, 24, 63]⟩),
 (65, ⟨y21, 224, [59, 3, 4, 60, 61, 62, 3, 24, 63]⟩),
 (83, ⟨(.cons (.sl false 31 y7) .nil), 24, [24]⟩),
 (84, ⟨(.cons (.sl false 31 y7) .nil), 24, [24]⟩),
 (121, ⟨(.sl false 84 (.cons (.sl false 31 y7) .nil)), 24, []⟩),
 (124, ⟨y11, 40, [3, 4, 26]⟩),
 (125, ⟨y11, 40, [3, 4, 26]⟩),
 (142, ⟨y19, 56, [3, 3, 25, 3, 3]⟩),
 (143, ⟨y19, 56, [3, 3, 25, 3, 3]⟩),
 (148, ⟨y4, 136, [3, 3, 3, 3, 29]⟩),
 (149, ⟨y4, 136, [3, 3, 3, 3, 29]⟩),
 (150, ⟨y24, 192, [3, 3, 3, 3, 25, 149]⟩),
 (151, ⟨y24, 192, [3, 3, 3, 3, 25, 149]⟩),
 (157, ⟨y0, 40, [22, 3, 3]⟩),
 (158, ⟨y0, 40, [22, 3, 3]⟩),
 (179, ⟨y5, 16, [3, 3]⟩),
 (180, ⟨y5, 16, [3, 3]⟩),
 (182, ⟨y5, 16, [3, 3]⟩),
 (189, ⟨y10, 56, [3, 3, 37, 3, 3]⟩),
 (190, ⟨y10, 56, [3, 3, 37, 3, 3]⟩),
 (192, ⟨(.sl false 260 (.cons (.sl false 40 y8) .nil)), 24, []⟩),
 (194, ⟨y11, 40, [3, 4, 26]⟩),
 (196, ⟨y12, 152, [3, 40]⟩),
 (197, ⟨y12, 152, [3, 40]⟩),
 (202, ⟨y20, 152, [3, 31]⟩),
 (203, ⟨y20, 152, [3, 31]⟩),
 (240, ⟨y25, 40, [22, 3, 4]⟩),
 (241, ⟨y25, 40, [22, 3, 4]⟩),
 (250, ⟨(.int .u64), 8, []⟩),
 (259, ⟨(.cons (.sl false 40 y8) .nil), 24, [36]⟩),
 (260, ⟨(.cons (.sl false 40 y8) .nil), 24, [36]⟩),
 (290, ⟨(.int .i64), 8, []⟩),
 (298, ⟨(.int .u32), 4, []⟩),
 (300, ⟨(.int .u64), 8, []⟩),
 (302, ⟨(.int .u64), 8, []⟩),
 (316, ⟨(.int .u8), 1, []⟩),
 (317, ⟨(.int .u8), 1, []⟩),
 (320, ⟨(.int .i32), 4, []⟩),
 (321, ⟨(.int .i32), 4, []⟩),
 (120, ⟨y23, 0, [4]⟩)]
def L0 : Loops := fun _ => none
abbrev Rn (K : Cons) (L : Loops) (ids : List Nat) (f : Func) (c : Con) : Prop := ∀ x, runF tb K L ids f c x = c.fn x

/-! ### laws.big: function 8 -/
def F.laws_big (a0 : List Int) : Option Bool :=
 some (decide ((len a0) > 1048576))
def C.laws_big : Con := ⟨[.r (.val (.sl false 5 (.int .u8)))], .one .bool, fun x => F.laws_big x.1⟩
def K.laws_big : Cons := lookK []
theorem run.laws_big : Rn K.laws_big L0 [] Tryz.f8 C.laws_big := fun x => by kernel_rfl

/-! ### spec.l1New: function 36 -/
def F.spec_l1New.s3 : Stp ((List Int) × Int × Int × Unit) DL1Cur := fun (x1, x2, x3, _) =>
 bif decide (x3 < (len x1)) then
  bif decide (x3 < 4000) then
   chk (inb x3 x1.length) <|
   some (.again (x1, ibits .and .i64 (w64 ((w64 ((w64 (x2 * 131)) + (w64 (x1.getD x3.toNat 0)))) + 7)) 1073741823, w64 (x3 + 1), ()))
  else
   some (.exit (x1, x2, x3, ()))
 else
  some (.exit (x1, x2, x3, ()))
def F.spec_l1New (a0 : List Int) : Option DL1Cur :=
 afterO (loopO F.spec_l1New.s3 (a0, w64 (26583 + (len a0)), 0, ())) fun (x4, x5, x6, _) =>
 some (x4, 0, x5, ())
def C.spec_l1New : Con := ⟨[.r (.val (.sl false 5 (.int .u8)))], .ptr y0, fun x => F.spec_l1New x.1⟩
def L.spec_l1New : Loops := lookL [(3, ⟨[.pat 0 (.val (.sl false 5 (.int .u8))), .pat 3 (.val (.int .i64)), .pat 4 (.val (.int .i64))], 0⟩)]
def K.spec_l1New : Cons := lookK []
theorem run.spec_l1New : Rn K.spec_l1New L.spec_l1New [] Tryz.f36 C.spec_l1New := fun x => by kernel_rfl

/-! ### spec.l1Byte: function 228 -/
def F.spec_l1Byte (a0 : DL1Cur) : Option (Int × DL1Cur) :=
 bif decide (a0.2.1 < (len a0.1)) then
  chk (inb a0.2.1 a0.1.length) <|
  some (ibits .and .i64 (w64 ((ibits .and .i64 (ibits .xor .i64 (Int.fdiv (w64 ((w64 (a0.2.2.1 * 6364136223846793005)) + 1442695040888963407)) (2 ^ (min 33 64))) (Int.fdiv (w64 ((w64 (a0.2.2.1 * 6364136223846793005)) + 1442695040888963407)) (2 ^ (min 45 64)))) 255) + (w64 (a0.1.getD (Int.toNat a0.2.1) 0)))) 255, (a0.1, w64 (a0.2.1 + 1), w64 ((w64 (a0.2.2.1 * 6364136223846793005)) + 1442695040888963407), a0.2.2.2))
 else
  some (ibits .and .i64 (ibits .xor .i64 (Int.fdiv (w64 ((w64 (a0.2.2.1 * 6364136223846793005)) + 1442695040888963407)) (2 ^ (min 33 64))) (Int.fdiv (w64 ((w64 (a0.2.2.1 * 6364136223846793005)) + 1442695040888963407)) (2 ^ (min 45 64)))) 255, (a0.1, a0.2.1, w64 ((w64 (a0.2.2.1 * 6364136223846793005)) + 1442695040888963407), a0.2.2.2))
def C.spec_l1Byte : Con := ⟨[.p y0 y0], .one (.int .i64), fun x => F.spec_l1Byte x.1⟩
def K.spec_l1Byte : Cons := lookK []
theorem run.spec_l1Byte : Rn K.spec_l1Byte L0 [0] Tryz.f228 C.spec_l1Byte := fun x => by kernel_rfl

/-! ### spec.l1Below: function 117 -/
def F.spec_l1Below (a0 : DL1Cur) (a1 : Int) : Option (Int × DL1Cur) :=
 bif decide (a1 <= 0) then
  some (0, a0)
 else
 bif decide (a1 <= 256) then
  (F.spec_l1Byte a0).bind fun r1 =>
  nchk (a1 == 0) <|
  some (Int.tmod r1.1 a1, r1.2)
 else
 (F.spec_l1Byte a0).bind fun r2 =>
 (F.spec_l1Byte r2.2).bind fun r3 =>
 (F.spec_l1Byte r3.2).bind fun r4 =>
 (F.spec_l1Byte r4.2).bind fun r5 =>
 nchk (a1 == 0) <|
 some (Int.tmod (w64 ((w64 ((w64 ((w64 (r2.1 * 16777216)) + (w64 (r3.1 * 65536)))) + (w64 (r4.1 * 256)))) + r5.1)) a1, r5.2)
def C.spec_l1Below : Con := ⟨[.p y0 y0, .r (.val (.int .i64))], .one (.int .i64), fun x => F.spec_l1Below x.1 x.2.1⟩
def K.spec_l1Below : Cons := lookK [(228, [], C.spec_l1Byte)]
theorem run.spec_l1Below : Rn K.spec_l1Below L0 [0] Tryz.f117 C.spec_l1Below := fun x => by kernel_rfl

/-! ### spec.l1PickInt: function 122 -/
def F.spec_l1PickInt (a0 : DL1Cur) (a1 : List Int) : Option (Int × DL1Cur) :=
 (F.spec_l1Below a0 (len a1)).bind fun r1 =>
 chk (inb r1.1 a1.length) <|
 some (a1.getD (Int.toNat r1.1) 0, r1.2)
def C.spec_l1PickInt : Con := ⟨[.p y0 y0, .r (.val (.sl false 3 (.int .i64)))], .one (.int .i64), fun x => F.spec_l1PickInt x.1 x.2.1⟩
def K.spec_l1PickInt : Cons := lookK [(117, [], C.spec_l1Below)]
theorem run.spec_l1PickInt : Rn K.spec_l1PickInt L0 [0] Tryz.f122 C.spec_l1PickInt := fun x => by kernel_rfl

/-! ### spec.l3Values: function 232 -/
def F.spec_l3Values.s4 : Stp ((List Int) × Int × Int × DL1Cur × Unit) ((List Int) × DL1Cur) := fun (x2, x3, x4, x5, _) =>
 bif decide (x4 < x3) then
  (F.spec_l1Byte x5).bind fun r6 =>
  (F.spec_l1PickInt r6.2 ([0, 1, 7, 8, 100, 5000, 1000000, r6.1, 1000001, -1])).bind fun r7 =>
  chk (fits (List.length x2 + List.length ([r7.1])) 8) <|
  some (.again (x2 ++ ([r7.1]), x3, w64 (x4 + 1), r7.2, ()))
 else
  some (.exit (x2, x3, x4, x5, ()))
def F.spec_l3Values (a0 : DL1Cur) : Option ((List Int) × DL1Cur) :=
 (F.spec_l1Below a0 6).bind fun r1 =>
 afterO (loopO F.spec_l3Values.s4 (([] : List Int), r1.1, 0, r1.2, ())) fun (x8, x9, x10, x11, _) =>
 some (x8, x11)
def C.spec_l3Values : Con := ⟨[.p y0 y0], .one (.sl true 3 (.int .i64)), fun x => F.spec_l3Values x.1⟩
def L.spec_l3Values : Loops := lookL [(4, ⟨[.own 3 (.sl true 3 (.int .i64)), .pat 4 (.val (.int .i64)), .pat 5 (.val (.int .i64)), .root 0 true y0 [0]], 0⟩)]
def K.spec_l3Values : Cons := lookK [(117, [], C.spec_l1Below), (122, [], C.spec_l1PickInt), (228, [], C.spec_l1Byte)]
theorem run.spec_l3Values : Rn K.spec_l3Values L.spec_l3Values [0] Tryz.f232 C.spec_l3Values := fun x => by kernel_rfl

/-! ### spec.SketchNew: function 278 -/
def F.spec_SketchNew : Option DSketch :=
 chk (mk 8 8 8) <|
 chk (mk 8 8 8) <|
 chk (mk 8 4 4) <|
 chk (mk 8 4 4) <|
 some (0, 0, 0, 0, List.replicate 8 0, List.replicate 8 0, [List.replicate 4 0, List.replicate 4 0], ())
def C.spec_SketchNew : Con := ⟨[], .one y1, fun x => F.spec_SketchNew⟩
def K.spec_SketchNew : Cons := lookK []
theorem run.spec_SketchNew : Rn K.spec_SketchNew L0 [] Tryz.f278 C.spec_SketchNew := fun x => by kernel_rfl

/-! ### spec.l3Copy: function 140 -/
def F.spec_l3Copy.s6 : Stp (Int × DSketch × DSketch × DSketch × Unit) DSketch := fun (x1, x2, x3, x4, _) =>
 bif decide (x1 < (len x2.2.2.2.2.2.2.1)) then
  chk (inb x1 x2.2.2.2.2.2.2.1.length) <|
  chk (fits (List.length ([] : List Int) + List.length (x2.2.2.2.2.2.2.1.getD x1.toNat ([]))) 8) <|
  chk (fits (List.length x4.2.2.2.2.2.2.1 + List.length ([([] : List Int) ++ (x2.2.2.2.2.2.2.1.getD x1.toNat ([]))])) 24) <|
  some (.again (w64 (x1 + 1), x2, x3, (x4.1, x4.2.1, x4.2.2.1, x4.2.2.2.1, x4.2.2.2.2.1, x4.2.2.2.2.2.1, x4.2.2.2.2.2.2.1 ++ ([([] : List Int) ++ (x2.2.2.2.2.2.2.1.getD x1.toNat ([]))]), x4.2.2.2.2.2.2.2), ()))
 else
  some (.exit (x1, x2, x3, x4, ()))
def F.spec_l3Copy (a0 : DSketch) : Option DSketch :=
 chk (fits (List.length ([] : List Int) + List.length a0.2.2.2.2.1) 8) <|
 chk (fits (List.length ([] : List Int) + List.length a0.2.2.2.2.2.1) 8) <|
 afterO (loopO F.spec_l3Copy.s6 (0, a0, (0, 0, 0, 0, ([] : List Int), ([] : List Int), ([] : List (List Int)), ()), (a0.1, a0.2.1, a0.2.2.1, a0.2.2.2.1, ([] : List Int) ++ a0.2.2.2.2.1, ([] : List Int) ++ a0.2.2.2.2.2.1, ([] : List (List Int)), a0.2.2.2.2.2.2.2), ())) fun (x5, x6, x7, x8, _) =>
 some x8
def C.spec_l3Copy : Con := ⟨[.r (.val y2)], .one y1, fun x => F.spec_l3Copy x.1⟩
def L.spec_l3Copy : Loops := lookL [(6, ⟨[.pat 4 (.val (.int .i64)), .root 1 true y2 [1], .root 2 true y1 [2], .root 3 true y1 [3]], 0⟩)]
def K.spec_l3Copy : Cons := lookK []
theorem run.spec_l3Copy : Rn K.spec_l3Copy L.spec_l3Copy [] Tryz.f140 C.spec_l3Copy := fun x => by kernel_rfl

/-! ### spec.l1In: function 239 -/
def F.spec_l1In (a0 : Int) (a1 : Int) (a2 : Int) : Option Bool :=
 bif decide (a0 >= a1) then
  some (decide (a0 <= a2))
 else
  some false
def C.spec_l1In : Con := ⟨[.r (.val (.int .i64)), .r (.val (.int .i64)), .r (.val (.int .i64))], .one .bool, fun x => F.spec_l1In x.1 x.2.1 x.2.2.1⟩
def K.spec_l1In : Cons := lookK []
theorem run.spec_l1In : Rn K.spec_l1In L0 [] Tryz.f239 C.spec_l1In := fun x => by kernel_rfl

/-! ### spec.l3List: function 240 -/
def F.spec_l3List.s4 : Stp ((List Int) × Int × Int × Bool × Int × Unit) Bool := fun (x1, x2, x3, x4, x5, _) =>
 bif decide (x5 < x2) then
  chk (inb x5 x1.length) <|
  (F.spec_l1In (x1.getD x5.toNat 0) 0 x3).bind fun r6 =>
  bif !r6 then
   some (.ret false)
  else
  bif x4 then
   chk (inb x5 x1.length) <|
   bif (x1.getD x5.toNat 0) != 0 then
    some (.ret false)
   else
    some (.again (x1, x2, x3, x4, w64 (x5 + 1), ()))
  else
   some (.again (x1, x2, x3, x4, w64 (x5 + 1), ()))
 else
  some (.exit (x1, x2, x3, x4, x5, ()))
def F.spec_l3List (a0 : List Int) (a1 : Int) (a2 : Int) (a3 : Bool) : Option Bool :=
 bif (len a0) != a1 then
  some false
 else
 afterO (loopO F.spec_l3List.s4 (a0, a1, a2, a3, 0, ())) fun (x7, x8, x9, x10, x11, _) =>
 some true
def C.spec_l3List : Con := ⟨[.r (.val (.sl false 3 (.int .i64))), .r (.val (.int .i64)), .r (.val (.int .i64)), .r (.val .bool)], .one .bool, fun x => F.spec_l3List x.1 x.2.1 x.2.2.1 x.2.2.2.1⟩
def L.spec_l3List : Loops := lookL [(4, ⟨[.pat 0 (.val (.sl false 3 (.int .i64))), .pat 1 (.val (.int .i64)), .pat 2 (.val (.int .i64)), .pat 3 (.val .bool), .pat 9 (.val (.int .i64))], 0⟩)]
def K.spec_l3List : Cons := lookK [(239, [], C.spec_l1In)]
theorem run.spec_l3List : Rn K.spec_l3List L.spec_l3List [] Tryz.f240 C.spec_l3List := fun x => by kernel_rfl

/-! ### spec.SketchOk: function 136 -/
def F.spec_SketchOk (a0 : DSketch) : Option Bool :=
 (F.spec_l1In a0.1 0 1000000000).bind fun r1 =>
 bif !r1 then
  some false
 else
 (F.spec_l1In a0.2.1 0 1000000000).bind fun r2 =>
 bif !r2 then
  some false
 else
 (F.spec_l1In a0.2.2.1 0 1000000).bind fun r3 =>
 bif !r3 then
  some false
 else
 (F.spec_l1In a0.2.2.2.1 0 1000000).bind fun r4 =>
 bif !r4 then
  some false
 else
 bif decide (a0.2.2.1 > a0.2.2.2.1) then
  some false
 else
 bif (len a0.2.2.2.2.2.2.1) != 2 then
  some false
 else
 bif a0.1 == 0 then
  bif a0.2.1 != 0 then
   some false
  else
  bif a0.2.2.2.1 != 0 then
   some false
  else
  (F.spec_l3List a0.2.2.2.2.1 8 1000000000 (a0.1 == 0)).bind fun r5 =>
  bif r5 then
   (F.spec_l3List a0.2.2.2.2.2.1 8 17 (a0.1 == 0)).bind fun r6 =>
   bif r6 then
    chk (inb 0 a0.2.2.2.2.2.2.1.length) <|
    (F.spec_l3List (a0.2.2.2.2.2.2.1.getD 0 ([])) 4 1000000000 (a0.1 == 0)).bind fun r7 =>
    bif r7 then
     chk (inb 1 a0.2.2.2.2.2.2.1.length) <|
     (F.spec_l3List (a0.2.2.2.2.2.2.1.getD 1 ([])) 4 1000000000 (a0.1 == 0)).bind fun r8 =>
     some r8
    else
     some false
   else
    some false
  else
   some false
 else
 (F.spec_l3List a0.2.2.2.2.1 8 1000000000 (a0.1 == 0)).bind fun r9 =>
 bif r9 then
  (F.spec_l3List a0.2.2.2.2.2.1 8 17 (a0.1 == 0)).bind fun r10 =>
  bif r10 then
   chk (inb 0 a0.2.2.2.2.2.2.1.length) <|
   (F.spec_l3List (a0.2.2.2.2.2.2.1.getD 0 ([])) 4 1000000000 (a0.1 == 0)).bind fun r11 =>
   bif r11 then
    chk (inb 1 a0.2.2.2.2.2.2.1.length) <|
    (F.spec_l3List (a0.2.2.2.2.2.2.1.getD 1 ([])) 4 1000000000 (a0.1 == 0)).bind fun r12 =>
    some r12
   else
    some false
  else
   some false
 else
  some false
def C.spec_SketchOk : Con := ⟨[.r (.val y2)], .one .bool, fun x => F.spec_SketchOk x.1⟩
def K.spec_SketchOk : Cons := lookK [(239, [], C.spec_l1In), (240, [], C.spec_l3List)]
theorem run.spec_SketchOk : Rn K.spec_SketchOk L0 [] Tryz.f136 C.spec_SketchOk := fun x => by kernel_rfl

/-! ### spec.l1Min: function 249 -/
def F.spec_l1Min (a0 : Int) (a1 : Int) : Option Int :=
 bif decide (a0 < a1) then
  some a0
 else
  some a1
def C.spec_l1Min : Con := ⟨[.r (.val (.int .i64)), .r (.val (.int .i64))], .one (.int .i64), fun x => F.spec_l1Min x.1 x.2.1⟩
def K.spec_l1Min : Cons := lookK []
theorem run.spec_l1Min : Rn K.spec_l1Min L0 [] Tryz.f249 C.spec_l1Min := fun x => by kernel_rfl

/-! ### spec.l1Max: function 248 -/
def F.spec_l1Max (a0 : Int) (a1 : Int) : Option Int :=
 bif decide (a0 > a1) then
  some a0
 else
  some a1
def C.spec_l1Max : Con := ⟨[.r (.val (.int .i64)), .r (.val (.int .i64))], .one (.int .i64), fun x => F.spec_l1Max x.1 x.2.1⟩
def K.spec_l1Max : Cons := lookK []
theorem run.spec_l1Max : Rn K.spec_l1Max L0 [] Tryz.f248 C.spec_l1Max := fun x => by kernel_rfl

/-! ### spec.l2Clip: function 297 -/
def F.spec_l2Clip (a0 : Int) (a1 : Int) : Option Int :=
 (F.spec_l1Min a0 a1).bind fun r1 =>
 (F.spec_l1Max 0 r1).bind fun r2 =>
 some r2
def C.spec_l2Clip : Con := ⟨[.r (.val (.int .i64)), .r (.val (.int .i64))], .one (.int .i64), fun x => F.spec_l2Clip x.1 x.2.1⟩
def K.spec_l2Clip : Cons := lookK [(248, [], C.spec_l1Max), (249, [], C.spec_l1Min)]
theorem run.spec_l2Clip : Rn K.spec_l2Clip L0 [] Tryz.f297 C.spec_l2Clip := fun x => by kernel_rfl

/-! ### spec.Add: function 282 -/
def F.spec_Add (a0 : Int) (a1 : Int) : Option Int :=
 (F.spec_l2Clip a0 1000000000).bind fun r1 =>
 (F.spec_l2Clip a1 1000000000).bind fun r2 =>
 (F.spec_l1Min (w64 (r1 + r2)) 1000000000).bind fun r3 =>
 some r3
def C.spec_Add : Con := ⟨[.r (.val (.int .i64)), .r (.val (.int .i64))], .one (.int .i64), fun x => F.spec_Add x.1 x.2.1⟩
def K.spec_Add : Cons := lookK [(249, [], C.spec_l1Min), (297, [], C.spec_l2Clip)]
theorem run.spec_Add : Rn K.spec_Add L0 [] Tryz.f282 C.spec_Add := fun x => by kernel_rfl

/-! ### spec.BucketOf: function 294 -/
def F.spec_BucketOf.s3 : Stp (Int × Int × Unit) Int := fun (x2, x3, _) =>
 bif decide (x2 > 0) then
  some (.again (w64 (Int.tdiv x2 2), w64 (x3 + 1), ()))
 else
  some (.exit (x2, x3, ()))
def F.spec_BucketOf (a0 : Int) : Option Int :=
 (F.spec_l2Clip a0 1000000).bind fun r1 =>
 afterO (loopO F.spec_BucketOf.s3 (r1, 0, ())) fun (x4, x5, _) =>
 some (w64 (Int.tdiv (w64 (x5 + 2)) 3))
def C.spec_BucketOf : Con := ⟨[.r (.val (.int .i64))], .one (.int .i64), fun x => F.spec_BucketOf x.1⟩
def L.spec_BucketOf : Loops := lookL [(3, ⟨[.pat 3 (.val (.int .i64)), .pat 4 (.val (.int .i64))], 0⟩)]
def K.spec_BucketOf : Cons := lookK [(297, [], C.spec_l2Clip)]
theorem run.spec_BucketOf : Rn K.spec_BucketOf L.spec_BucketOf [] Tryz.f294 C.spec_BucketOf := fun x => by kernel_rfl

/-! ### spec.Mix: function 295 -/
def F.spec_Mix (a0 : Int) : Option Int :=
 (F.spec_l2Clip a0 1000000).bind fun r1 =>
 some (ibits .xor .i64 (Int.tmod (w64 ((w64 (r1 * 40503)) + 12345)) 65536) (w64 (Int.tdiv (Int.tmod (w64 ((w64 (r1 * 40503)) + 12345)) 65536) 256)))
def C.spec_Mix : Con := ⟨[.r (.val (.int .i64))], .one (.int .i64), fun x => F.spec_Mix x.1⟩
def K.spec_Mix : Cons := lookK [(297, [], C.spec_l2Clip)]
theorem run.spec_Mix : Rn K.spec_Mix L0 [] Tryz.f295 C.spec_Mix := fun x => by kernel_rfl

/-! ### spec.RankOf: function 296 -/
def F.spec_RankOf.s5 : Stp (Int × Int × Unit) Int := fun (x2, x3, _) =>
 bif (Int.tmod x2 2) == 0 then
  some (.again (w64 (Int.tdiv x2 2), w64 (x3 + 1), ()))
 else
  some (.exit (x2, x3, ()))
def F.spec_RankOf (a0 : Int) : Option Int :=
 (F.spec_Mix a0).bind fun r1 =>
 bif r1 == 0 then
  some 17
 else
 afterO (loopO F.spec_RankOf.s5 (r1, 1, ())) fun (x4, x5, _) =>
 some x5
def C.spec_RankOf : Con := ⟨[.r (.val (.int .i64))], .one (.int .i64), fun x => F.spec_RankOf x.1⟩
def L.spec_RankOf : Loops := lookL [(5, ⟨[.pat 3 (.val (.int .i64)), .pat 4 (.val (.int .i64))], 0⟩)]
def K.spec_RankOf : Cons := lookK [(295, [], C.spec_Mix)]
theorem run.spec_RankOf : Rn K.spec_RankOf L.spec_RankOf [] Tryz.f296 C.spec_RankOf := fun x => by kernel_rfl

/-! ### spec.Insert: function 279 -/
def F.spec_Insert.s14 : Stp (Int × Int × DSketch × DSketch × Unit) (DSketch × Bool) := fun (x14, x15, x16, x17, _) =>
 bif decide (x15 < 2) then
  (F.spec_Mix x14).bind fun r18 =>
  chk (inb x15 x17.2.2.2.2.2.2.1.length) <|
  chk (inb x15 x17.2.2.2.2.2.2.1.length) <|
  chk (inb (Int.tmod (w64 (r18 + x15)) 4) (List.length (x17.2.2.2.2.2.2.1.getD x15.toNat ([])))) <|
  (F.spec_Add (List.getD (x17.2.2.2.2.2.2.1.getD x15.toNat ([])) (Int.toNat (Int.tmod (w64 (r18 + x15)) 4)) 0) 1).bind fun r19 =>
  chk (inb (Int.tmod (w64 (r18 + x15)) 4) (List.length (x17.2.2.2.2.2.2.1.getD x15.toNat ([])))) <|
  (some (List.set x17.2.2.2.2.2.2.1 x15.toNat (List.set (x17.2.2.2.2.2.2.1.getD x15.toNat ([])) (Int.toNat (Int.tmod (w64 (r18 + x15)) 4)) r19))).bind fun r20 =>
  some (.again (x14, w64 (x15 + 1), x16, (x17.1, x17.2.1, x17.2.2.1, x17.2.2.2.1, x17.2.2.2.2.1, x17.2.2.2.2.2.1, r20, x17.2.2.2.2.2.2.2), ()))
 else
  some (.exit (x14, x15, x16, x17, ()))
def F.spec_Insert (a0 : DSketch) (a1 : Int) : Option (DSketch × Bool) :=
 (F.spec_l3Copy a0).bind fun r1 =>
 (F.spec_SketchOk a0).bind fun r2 =>
 bif !r2 then
  some (r1, false)
 else
 (F.spec_l1In a1 0 1000000).bind fun r3 =>
 bif !r3 then
  some (r1, false)
 else
 (F.spec_Add a0.1 1).bind fun r4 =>
 (F.spec_Add a0.2.1 a1).bind fun r5 =>
 (F.spec_l1Min a0.2.2.1 a1).bind fun r6 =>
 bif a0.1 == 0 then
  (F.spec_l1Max a0.2.2.2.1 a1).bind fun r7 =>
  (F.spec_BucketOf a1).bind fun r8 =>
  (F.spec_BucketOf a1).bind fun r9 =>
  chk (inb r9 r1.2.2.2.2.1.length) <|
  (F.spec_Add (r1.2.2.2.2.1.getD r9.toNat 0) 1).bind fun r10 =>
  chk (inb r8 r1.2.2.2.2.1.length) <|
  (F.spec_Mix a1).bind fun r11 =>
  chk (inb (Int.tmod r11 8) r1.2.2.2.2.2.1.length) <|
  (F.spec_RankOf a1).bind fun r12 =>
  (F.spec_l1Max (r1.2.2.2.2.2.1.getD (Int.toNat (Int.tmod r11 8)) 0) r12).bind fun r13 =>
  chk (inb (Int.tmod r11 8) r1.2.2.2.2.2.1.length) <|
  afterO (loopO F.spec_Insert.s14 (a1, 0, (0, 0, 0, 0, ([] : List Int), ([] : List Int), ([] : List (List Int)), ()), (r4, r5, a1, r7, List.set r1.2.2.2.2.1 r8.toNat r10, List.set r1.2.2.2.2.2.1 (Int.toNat (Int.tmod r11 8)) r13, r1.2.2.2.2.2.2), ())) fun (x21, x22, x23, x24, _) =>
  some (x24, true)
 else
 (F.spec_l1Max a0.2.2.2.1 a1).bind fun r25 =>
 (F.spec_BucketOf a1).bind fun r26 =>
 (F.spec_BucketOf a1).bind fun r27 =>
 chk (inb r27 r1.2.2.2.2.1.length) <|
 (F.spec_Add (r1.2.2.2.2.1.getD r27.toNat 0) 1).bind fun r28 =>
 chk (inb r26 r1.2.2.2.2.1.length) <|
 (F.spec_Mix a1).bind fun r29 =>
 chk (inb (Int.tmod r29 8) r1.2.2.2.2.2.1.length) <|
 (F.spec_RankOf a1).bind fun r30 =>
 (F.spec_l1Max (r1.2.2.2.2.2.1.getD (Int.toNat (Int.tmod r29 8)) 0) r30).bind fun r31 =>
 chk (inb (Int.tmod r29 8) r1.2.2.2.2.2.1.length) <|
 afterO (loopO F.spec_Insert.s14 (a1, 0, (0, 0, 0, 0, ([] : List Int), ([] : List Int), ([] : List (List Int)), ()), (r4, r5, r6, r25, List.set r1.2.2.2.2.1 r26.toNat r28, List.set r1.2.2.2.2.2.1 (Int.toNat (Int.tmod r29 8)) r31, r1.2.2.2.2.2.2), ())) fun (x39, x40, x41, x42, _) =>
 some (x42, true)
def C.spec_Insert : Con := ⟨[.r (.val y2), .r (.val (.int .i64))], .many [y1, .bool], fun x => F.spec_Insert x.1 x.2.1⟩
def L.spec_Insert : Loops := lookL [(14, ⟨[.pat 1 (.val (.int .i64)), .pat 8 (.val (.int .i64)), .root 4 true y1 [4], .root 6 true y1 [6]], 0⟩)]
def K.spec_Insert : Cons := lookK [(136, [], C.spec_SketchOk), (140, [], C.spec_l3Copy), (239, [], C.spec_l1In), (248, [], C.spec_l1Max), (249, [], C.spec_l1Min), (282, [], C.spec_Add), (294, [], C.spec_BucketOf), (295, [], C.spec_Mix), (296, [], C.spec_RankOf)]
theorem run.spec_Insert : Rn K.spec_Insert L.spec_Insert [] Tryz.f279 C.spec_Insert := fun x => by kernel_rfl

/-! ### spec.Sketched: function 231 -/
def F.spec_Sketched.s3 : Stp ((List Int) × Int × DSketch × DSketch × Unit) DSketch := fun (x2, x3, x4, x5, _) =>
 bif decide (x3 < (len x2)) then
  chk (inb x3 x2.length) <|
  (F.spec_Insert x5 (x2.getD x3.toNat 0)).bind fun r6 =>
  some (.again (x2, w64 (x3 + 1), x4, r6.1, ()))
 else
  some (.exit (x2, x3, x4, x5, ()))
def F.spec_Sketched (a0 : List Int) : Option DSketch :=
 (F.spec_SketchNew).bind fun r1 =>
 afterO (loopO F.spec_Sketched.s3 (a0, 0, (0, 0, 0, 0, ([] : List Int), ([] : List Int), ([] : List (List Int)), ()), r1, ())) fun (x7, x8, x9, x10, _) =>
 some x10
def C.spec_Sketched : Con := ⟨[.r (.val (.sl false 3 (.int .i64)))], .one y1, fun x => F.spec_Sketched x.1⟩
def L.spec_Sketched : Loops := lookL [(3, ⟨[.pat 0 (.val (.sl false 3 (.int .i64))), .pat 4 (.val (.int .i64)), .root 2 true y1 [2], .root 3 true y1 [3]], 0⟩)]
def K.spec_Sketched : Cons := lookK [(278, [], C.spec_SketchNew), (279, [], C.spec_Insert)]
theorem run.spec_Sketched : Rn K.spec_Sketched L.spec_Sketched [] Tryz.f231 C.spec_Sketched := fun x => by kernel_rfl

/-! ### spec.l6Right: function 119 -/
def F.spec_l6Right (a0 : DL1Cur) : Option (DItem × DL1Cur) :=
 (F.spec_l1Below a0 8).bind fun r1 =>
 (F.spec_l1Below r1.2 2).bind fun r2 =>
 (F.spec_l1Below r2.2 2).bind fun r3 =>
 (F.spec_l1Below r3.2 3).bind fun r4 =>
 (F.spec_l3Values r4.2).bind fun r5 =>
 (F.spec_Sketched r5.1).bind fun r6 =>
 some ((w64 (1 + r1.1), r2.1, r3.1, r4.1, r6, ()), r5.2)
def C.spec_l6Right : Con := ⟨[.p y0 y0], .one y3, fun x => F.spec_l6Right x.1⟩
def K.spec_l6Right : Cons := lookK [(117, [], C.spec_l1Below), (231, [], C.spec_Sketched), (232, [], C.spec_l3Values)]
theorem run.spec_l6Right : Rn K.spec_l6Right L0 [0] Tryz.f119 C.spec_l6Right := fun x => by kernel_rfl

/-! ### spec.l6Agent: function 265 -/
def F.spec_l6Agent (a0 : Int) : Option Bool :=
 (F.spec_l1In a0 0 2).bind fun r1 =>
 some r1
def C.spec_l6Agent : Con := ⟨[.r (.val (.int .i64))], .one .bool, fun x => F.spec_l6Agent x.1⟩
def K.spec_l6Agent : Cons := lookK [(239, [], C.spec_l1In)]
theorem run.spec_l6Agent : Rn K.spec_l6Agent L0 [] Tryz.f265 C.spec_l6Agent := fun x => by kernel_rfl

/-! ### spec.IdOf: function 229 -/
def F.spec_IdOf (a0 : Int) (a1 : Int) : Option Int :=
 (F.spec_l6Agent a0).bind fun r1 =>
 bif !r1 then
  some (-1)
 else
 (F.spec_l1In a1 1 60).bind fun r2 =>
 bif !r2 then
  some (-1)
 else
  some (w64 ((w64 (100 * a0)) + a1))
def C.spec_IdOf : Con := ⟨[.r (.val (.int .i64)), .r (.val (.int .i64))], .one (.int .i64), fun x => F.spec_IdOf x.1 x.2.1⟩
def K.spec_IdOf : Cons := lookK [(239, [], C.spec_l1In), (265, [], C.spec_l6Agent)]
theorem run.spec_IdOf : Rn K.spec_IdOf L0 [] Tryz.f229 C.spec_IdOf := fun x => by kernel_rfl

/-! ### spec.l6Place: function 134 -/
def F.spec_l6Place (a0 : Int) (a1 : Int) : Option Bool :=
 (F.spec_l1In a0 0 4).bind fun r1 =>
 bif r1 then
  (F.spec_l1In a1 0 20).bind fun r2 =>
  some r2
 else
  some false
def C.spec_l6Place : Con := ⟨[.r (.val (.int .i64)), .r (.val (.int .i64))], .one .bool, fun x => F.spec_l6Place x.1 x.2.1⟩
def K.spec_l6Place : Cons := lookK [(239, [], C.spec_l1In)]
theorem run.spec_l6Place : Rn K.spec_l6Place L0 [] Tryz.f134 C.spec_l6Place := fun x => by kernel_rfl

/-! ### spec.ItemOk: function 230 -/
def F.spec_ItemOk (a0 : DItem) : Option Bool :=
 (F.spec_l1In a0.1 1 60).bind fun r1 =>
 bif r1 then
  (F.spec_l1In a0.2.1 0 1).bind fun r2 =>
  bif r2 then
   (F.spec_l6Place a0.2.2.1 a0.2.2.2.1).bind fun r3 =>
   bif r3 then
    (F.spec_SketchOk a0.2.2.2.2.1).bind fun r4 =>
    some r4
   else
    some false
  else
   some false
 else
  some false
def C.spec_ItemOk : Con := ⟨[.r (.val y4)], .one .bool, fun x => F.spec_ItemOk x.1⟩
def K.spec_ItemOk : Cons := lookK [(134, [], C.spec_l6Place), (136, [], C.spec_SketchOk), (239, [], C.spec_l1In)]
theorem run.spec_ItemOk : Rn K.spec_ItemOk L0 [] Tryz.f230 C.spec_ItemOk := fun x => by kernel_rfl

/-! ### spec.EntryOf: function 118 -/
def F.spec_EntryOf (a0 : Int) (a1 : DItem) : Option (DEntry × Bool) :=
 (F.spec_IdOf a0 a1.1).bind fun r1 =>
 (F.spec_ItemOk a1).bind fun r2 =>
 bif !r2 then
  some ((0, 0, ([] : List DSpan), (0, 0, 0, 0, ([] : List Int), ([] : List Int), ([] : List (List Int)), ()), ()), false)
 else
 bif decide (r1 < 0) then
  some ((0, 0, ([] : List DSpan), (0, 0, 0, 0, ([] : List Int), ([] : List Int), ([] : List (List Int)), ()), ()), false)
 else
 (F.spec_l3Copy a1.2.2.2.2.1).bind fun r3 =>
 some ((a1.2.2.1, a1.2.2.2.1, [(r1, r1, ())], r3, ()), true)
def C.spec_EntryOf : Con := ⟨[.r (.val (.int .i64)), .r (.val y4)], .many [y6, .bool], fun x => F.spec_EntryOf x.1 x.2.1⟩
def K.spec_EntryOf : Cons := lookK [(140, [], C.spec_l3Copy), (229, [], C.spec_IdOf), (230, [], C.spec_ItemOk)]
theorem run.spec_EntryOf : Rn K.spec_EntryOf L0 [] Tryz.f118 C.spec_EntryOf := fun x => by kernel_rfl

/-! ### spec.l1Once: function 40 -/
def F.spec_l1Once (a0 : DL1Cur) (a1 : Int) : Option (Bool × DL1Cur) :=
 (F.spec_l1Below a0 a1).bind fun r1 =>
 some (r1.1 == 0, r1.2)
def C.spec_l1Once : Con := ⟨[.p y0 y0, .r (.val (.int .i64))], .one .bool, fun x => F.spec_l1Once x.1 x.2.1⟩
def K.spec_l1Once : Cons := lookK [(117, [], C.spec_l1Below)]
theorem run.spec_l1Once : Rn K.spec_l1Once L0 [0] Tryz.f40 C.spec_l1Once := fun x => by kernel_rfl

/-! ### spec.l5Copy: function 139 -/
def F.spec_l5Copy (a0 : List DSpan) : Option (List DSpan) :=
 chk (fits (List.length ([] : List DSpan) + List.length a0) 16) <|
 some (([] : List DSpan) ++ a0)
def C.spec_l5Copy : Con := ⟨[.r (.val (.sl false 180 y5))], .one (.sl true 180 y5), fun x => F.spec_l5Copy x.1⟩
def K.spec_l5Copy : Cons := lookK []
theorem run.spec_l5Copy : Rn K.spec_l5Copy L0 [] Tryz.f139 C.spec_l5Copy := fun x => by kernel_rfl

/-! ### spec.l6Copy: function 55 -/
def F.spec_l6Copy (a0 : DEntry) : Option DEntry :=
 (F.spec_l5Copy a0.2.2.1).bind fun r1 =>
 (F.spec_l3Copy a0.2.2.2.1).bind fun r2 =>
 some (a0.1, a0.2.1, r1, r2, ())
def C.spec_l6Copy : Con := ⟨[.r (.val y7)], .one y6, fun x => F.spec_l6Copy x.1⟩
def K.spec_l6Copy : Cons := lookK [(139, [], C.spec_l5Copy), (140, [], C.spec_l3Copy)]
theorem run.spec_l6Copy : Rn K.spec_l6Copy L0 [] Tryz.f55 C.spec_l6Copy := fun x => by kernel_rfl

/-! ### spec.l10Copy: function 163 -/
def F.spec_l10Copy.s3 : Stp (Int × DRow × DRow × DRow × Unit) DRow := fun (x1, x2, x3, x4, _) =>
 bif decide (x1 < (len x2.1)) then
  chk (inb x1 x2.1.length) <|
  (F.spec_l6Copy (x2.1.getD x1.toNat (0, 0, [], (0, 0, 0, 0, [], [], [], ()), ()))).bind fun r5 =>
  chk (fits (List.length x4.1 + List.length ([r5])) 144) <|
  some (.again (w64 (x1 + 1), x2, x3, (x4.1 ++ ([r5]), x4.2), ()))
 else
  some (.exit (x1, x2, x3, x4, ()))
def F.spec_l10Copy (a0 : DRow) : Option DRow :=
 afterO (loopO F.spec_l10Copy.s3 (0, a0, (([] : List DEntry), ()), (([] : List DEntry), ()), ())) fun (x6, x7, x8, x9, _) =>
 some x9
def C.spec_l10Copy : Con := ⟨[.r (.val (.cons (.sl false 31 y7) .nil))], .one (.cons (.sl true 31 y6) .nil), fun x => F.spec_l10Copy x.1⟩
def L.spec_l10Copy : Loops := lookL [(3, ⟨[.pat 4 (.val (.int .i64)), .root 1 true (.cons (.sl false 31 y7) .nil) [1], .root 2 true (.cons (.sl true 31 y6) .nil) [2], .root 3 true (.cons (.sl true 31 y6) .nil) [3]], 0⟩)]
def K.spec_l10Copy : Cons := lookK [(55, [], C.spec_l6Copy)]
theorem run.spec_l10Copy : Rn K.spec_l10Copy L.spec_l10Copy [] Tryz.f163 C.spec_l10Copy := fun x => by kernel_rfl

/-! ### spec.SetOk: function 135 -/
def F.spec_SetOk.s2 : Stp ((List DSpan) × Int × Unit) Bool := fun (x1, x2, _) =>
 bif decide (x2 < (len x1)) then
  chk (inb x2 x1.length) <|
  (F.spec_l1In ((x1.getD x2.toNat (0, 0, ())).1) 0 9999).bind fun r3 =>
  bif !r3 then
   some (.ret false)
  else
  chk (inb x2 x1.length) <|
  chk (inb x2 x1.length) <|
  (F.spec_l1In (((x1.getD x2.toNat (0, 0, ())).2).1) ((x1.getD x2.toNat (0, 0, ())).1) 9999).bind fun r4 =>
  bif !r4 then
   some (.ret false)
  else
  bif decide (x2 > 0) then
   chk (inb x2 x1.length) <|
   chk (inb (w64 (x2 - 1)) x1.length) <|
   bif decide (((x1.getD x2.toNat (0, 0, ())).1) <= (w64 ((((x1.getD (Int.toNat (w64 (x2 - 1))) (0, 0, ())).2).1) + 1))) then
    some (.ret false)
   else
    some (.again (x1, w64 (x2 + 1), ()))
  else
   some (.again (x1, w64 (x2 + 1), ()))
 else
  some (.exit (x1, x2, ()))
def F.spec_SetOk (a0 : List DSpan) : Option Bool :=
 afterO (loopO F.spec_SetOk.s2 (a0, 0, ())) fun (x5, x6, _) =>
 some true
def C.spec_SetOk : Con := ⟨[.r (.val (.sl false 180 y5))], .one .bool, fun x => F.spec_SetOk x.1⟩
def L.spec_SetOk : Loops := lookL [(2, ⟨[.pat 0 (.val (.sl false 180 y5)), .pat 3 (.val (.int .i64))], 0⟩)]
def K.spec_SetOk : Cons := lookK [(239, [], C.spec_l1In)]
theorem run.spec_SetOk : Rn K.spec_SetOk L.spec_SetOk [] Tryz.f135 C.spec_SetOk := fun x => by kernel_rfl

/-! ### spec.EntryOk: function 53 -/
def F.spec_EntryOk (a0 : DEntry) : Option Bool :=
 (F.spec_l6Place a0.1 a0.2.1).bind fun r1 =>
 bif r1 then
  bif decide ((len a0.2.2.1) > 0) then
   (F.spec_SetOk a0.2.2.1).bind fun r2 =>
   bif r2 then
    (F.spec_SketchOk a0.2.2.2.1).bind fun r3 =>
    some r3
   else
    some false
  else
   some false
 else
  some false
def C.spec_EntryOk : Con := ⟨[.r (.val y7)], .one .bool, fun x => F.spec_EntryOk x.1⟩
def K.spec_EntryOk : Cons := lookK [(134, [], C.spec_l6Place), (135, [], C.spec_SetOk), (136, [], C.spec_SketchOk)]
theorem run.spec_EntryOk : Rn K.spec_EntryOk L0 [] Tryz.f53 C.spec_EntryOk := fun x => by kernel_rfl

/-! ### spec.SetApart: function 137 -/
def F.spec_SetApart.s7 : Stp ((List DSpan) × (List DSpan) × Int × Int × Unit) (Lp ((List DSpan) × (List DSpan) × Int × Unit) Bool) := fun (x6, x7, x8, x9, _) =>
 bif decide (x9 < (len x7)) then
  chk (inb x8 x6.length) <|
  chk (inb x9 x7.length) <|
  bif decide (((x6.getD x8.toNat (0, 0, ())).1) <= (((x7.getD x9.toNat (0, 0, ())).2).1)) then
   chk (inb x9 x7.length) <|
   chk (inb x8 x6.length) <|
   bif decide (((x7.getD x9.toNat (0, 0, ())).1) <= (((x6.getD x8.toNat (0, 0, ())).2).1)) then
    some (.ret (.ret false))
   else
    some (.again (x6, x7, x8, w64 (x9 + 1), ()))
  else
   some (.again (x6, x7, x8, w64 (x9 + 1), ()))
 else
  some (.exit (x6, x7, x8, x9, ()))
def F.spec_SetApart.s4 : Stp ((List DSpan) × (List DSpan) × Int × Unit) Bool := fun (x3, x4, x5, _) =>
 bif decide (x5 < (len x3)) then
  afterO (loopO F.spec_SetApart.s7 (x3, x4, x5, 0, ())) fun (x10, x11, x12, x13, _) =>
  some (.again (x10, x11, w64 (x12 + 1), ()))
 else
  some (.exit (x3, x4, x5, ()))
def F.spec_SetApart (a0 : List DSpan) (a1 : List DSpan) : Option Bool :=
 (F.spec_SetOk a0).bind fun r1 =>
 bif !r1 then
  some false
 else
 (F.spec_SetOk a1).bind fun r2 =>
 bif !r2 then
  some false
 else
 afterO (loopO F.spec_SetApart.s4 (a0, a1, 0, ())) fun (x14, x15, x16, _) =>
 some true
def C.spec_SetApart : Con := ⟨[.r (.val (.sl false 180 y5)), .r (.val (.sl false 180 y5))], .one .bool, fun x => F.spec_SetApart x.1 x.2.1⟩
def L.spec_SetApart : Loops := lookL [(7, ⟨[.pat 0 (.val (.sl false 180 y5)), .pat 1 (.val (.sl false 180 y5)), .pat 5 (.val (.int .i64)), .pat 6 (.val (.int .i64))], 2⟩), (4, ⟨[.pat 0 (.val (.sl false 180 y5)), .pat 1 (.val (.sl false 180 y5)), .pat 5 (.val (.int .i64))], 0⟩)]
def K.spec_SetApart : Cons := lookK [(135, [], C.spec_SetOk)]
theorem run.spec_SetApart : Rn K.spec_SetApart L.spec_SetApart [] Tryz.f137 C.spec_SetApart := fun x => by kernel_rfl

/-! ### spec.RowOk: function 114 -/
def F.spec_RowOk.s9 : Stp (Int × Int × DRow × Unit) (Lp (Int × DRow × Unit) Bool) := fun (x4, x5, x6, _) =>
 bif decide (x5 < x4) then
  chk (inb x4 x6.1.length) <|
  chk (inb x5 x6.1.length) <|
  (F.spec_SetApart ((((x6.1.getD x4.toNat (0, 0, [], (0, 0, 0, 0, [], [], [], ()), ())).2).2).1) ((((x6.1.getD x5.toNat (0, 0, [], (0, 0, 0, 0, [], [], [], ()), ())).2).2).1)).bind fun r7 =>
  bif !r7 then
   some (.ret (.ret false))
  else
   some (.again (x4, w64 (x5 + 1), x6, ()))
 else
  some (.exit (x4, x5, x6, ()))
def F.spec_RowOk.s4 : Stp (Int × DRow × Unit) Bool := fun (x1, x2, _) =>
 bif decide (x1 < (len x2.1)) then
  chk (inb x1 x2.1.length) <|
  (F.spec_EntryOk (x2.1.getD x1.toNat (0, 0, [], (0, 0, 0, 0, [], [], [], ()), ()))).bind fun r3 =>
  bif !r3 then
   some (.ret false)
  else
  afterO (loopO F.spec_RowOk.s9 (x1, 0, x2, ())) fun (x8, x9, x10, _) =>
  some (.again (w64 (x8 + 1), x10, ()))
 else
  some (.exit (x1, x2, ()))
def F.spec_RowOk (a0 : DRow) : Option Bool :=
 bif decide ((len a0.1) > 24) then
  some false
 else
 afterO (loopO F.spec_RowOk.s4 (0, a0, ())) fun (x11, x12, _) =>
 some true
def C.spec_RowOk : Con := ⟨[.r (.val (.cons (.sl false 31 y7) .nil))], .one .bool, fun x => F.spec_RowOk x.1⟩
def L.spec_RowOk : Loops := lookL [(9, ⟨[.pat 3 (.val (.int .i64)), .pat 4 (.val (.int .i64)), .root 1 true (.cons (.sl false 31 y7) .nil) [1]], 2⟩), (4, ⟨[.pat 3 (.val (.int .i64)), .root 1 true (.cons (.sl false 31 y7) .nil) [1]], 0⟩)]
def K.spec_RowOk : Cons := lookK [(53, [], C.spec_EntryOk), (137, [], C.spec_SetApart)]
theorem run.spec_RowOk : Rn K.spec_RowOk L.spec_RowOk [] Tryz.f114 C.spec_RowOk := fun x => by kernel_rfl

/-! ### spec.l10Apart: function 269 -/
def F.spec_l10Apart.s2 : Stp ((List DSpan) × Int × DRow × Unit) Bool := fun (x1, x2, x3, _) =>
 bif decide (x2 < (len x3.1)) then
  chk (inb x2 x3.1.length) <|
  (F.spec_SetApart ((((x3.1.getD x2.toNat (0, 0, [], (0, 0, 0, 0, [], [], [], ()), ())).2).2).1) x1).bind fun r4 =>
  bif !r4 then
   some (.ret false)
  else
   some (.again (x1, w64 (x2 + 1), x3, ()))
 else
  some (.exit (x1, x2, x3, ()))
def F.spec_l10Apart (a0 : DRow) (a1 : List DSpan) : Option Bool :=
 afterO (loopO F.spec_l10Apart.s2 (a1, 0, a0, ())) fun (x5, x6, x7, _) =>
 some true
def C.spec_l10Apart : Con := ⟨[.r (.val (.cons (.sl false 31 y7) .nil)), .r (.val (.sl false 180 y5))], .one .bool, fun x => F.spec_l10Apart x.1 x.2.1⟩
def L.spec_l10Apart : Loops := lookL [(2, ⟨[.pat 1 (.val (.sl false 180 y5)), .pat 5 (.val (.int .i64)), .root 2 true (.cons (.sl false 31 y7) .nil) [2]], 0⟩)]
def K.spec_l10Apart : Cons := lookK [(137, [], C.spec_SetApart)]
theorem run.spec_l10Apart : Rn K.spec_l10Apart L.spec_l10Apart [] Tryz.f269 C.spec_l10Apart := fun x => by kernel_rfl

/-! ### spec.l5Put: function 247 -/
def F.spec_l5Put.s4 : Stp ((List DSpan) × (List DSpan) × Bool × Int × DSpan × Unit) (List DSpan) := fun (x1, x2, x3, x4, x5, _) =>
 bif decide (x4 < (len x1)) then
  chk (inb x4 x1.length) <|
  bif decide ((w64 ((((x1.getD x4.toNat (0, 0, ())).2).1) + 1)) < x5.1) then
   chk (inb x4 x1.length) <|
   chk (fits (List.length x2 + List.length ([x1.getD x4.toNat (0, 0, ())])) 16) <|
   some (.again (x1, x2 ++ ([x1.getD x4.toNat (0, 0, ())]), x3, w64 (x4 + 1), x5, ()))
  else
  chk (inb x4 x1.length) <|
  bif decide (((x1.getD x4.toNat (0, 0, ())).1) > (w64 (x5.2.1 + 1))) then
   bif !x3 then
    chk (fits (List.length x2 + List.length ([x5])) 16) <|
    chk (inb x4 x1.length) <|
    chk (fits (List.length (x2 ++ ([x5])) + List.length ([x1.getD x4.toNat (0, 0, ())])) 16) <|
    some (.again (x1, (x2 ++ ([x5])) ++ ([x1.getD x4.toNat (0, 0, ())]), true, w64 (x4 + 1), x5, ()))
   else
   chk (inb x4 x1.length) <|
   chk (fits (List.length x2 + List.length ([x1.getD x4.toNat (0, 0, ())])) 16) <|
   some (.again (x1, x2 ++ ([x1.getD x4.toNat (0, 0, ())]), x3, w64 (x4 + 1), x5, ()))
  else
  chk (inb x4 x1.length) <|
  (F.spec_l1Min x5.1 ((x1.getD x4.toNat (0, 0, ())).1)).bind fun r6 =>
  chk (inb x4 x1.length) <|
  (F.spec_l1Max x5.2.1 (((x1.getD x4.toNat (0, 0, ())).2).1)).bind fun r7 =>
  some (.again (x1, x2, x3, w64 (x4 + 1), (r6, r7, ()), ()))
 else
  some (.exit (x1, x2, x3, x4, x5, ()))
def F.spec_l5Put (a0 : List DSpan) (a1 : DSpan) : Option (List DSpan) :=
 afterO (loopO F.spec_l5Put.s4 (a0, ([] : List DSpan), false, 0, a1, ())) fun (x8, x9, x10, x11, x12, _) =>
 bif !x10 then
  chk (fits (List.length x9 + List.length ([x12])) 16) <|
  some (x9 ++ ([x12]))
 else
  some x9
def C.spec_l5Put : Con := ⟨[.r (.val (.sl false 180 y5)), .r (.val y5)], .one (.sl true 180 y5), fun x => F.spec_l5Put x.1 x.2.1⟩
def L.spec_l5Put : Loops := lookL [(4, ⟨[.pat 0 (.val (.sl false 180 y5)), .own 5 (.sl true 180 y5), .pat 6 (.val .bool), .pat 7 (.val (.int .i64)), .root 3 true y5 [3]], 0⟩)]
def K.spec_l5Put : Cons := lookK [(248, [], C.spec_l1Max), (249, [], C.spec_l1Min)]
theorem run.spec_l5Put : Rn K.spec_l5Put L.spec_l5Put [] Tryz.f247 C.spec_l5Put := fun x => by kernel_rfl

/-! ### spec.l5Join: function 157 -/
def F.spec_l5Join.s3 : Stp ((List DSpan) × (List DSpan) × Int × Unit) (List DSpan) := fun (x2, x3, x4, _) =>
 bif decide (x4 < (len x2)) then
  chk (inb x4 x2.length) <|
  (F.spec_l5Put x3 (x2.getD x4.toNat (0, 0, ()))).bind fun r5 =>
  some (.again (x2, r5, w64 (x4 + 1), ()))
 else
  some (.exit (x2, x3, x4, ()))
def F.spec_l5Join (a0 : List DSpan) (a1 : List DSpan) : Option (List DSpan) :=
 (F.spec_l5Copy a0).bind fun r1 =>
 afterO (loopO F.spec_l5Join.s3 (a1, r1, 0, ())) fun (x6, x7, x8, _) =>
 some x7
def C.spec_l5Join : Con := ⟨[.r (.val (.sl false 180 y5)), .r (.val (.sl false 180 y5))], .one (.sl true 180 y5), fun x => F.spec_l5Join x.1 x.2.1⟩
def L.spec_l5Join : Loops := lookL [(3, ⟨[.pat 1 (.val (.sl false 180 y5)), .own 5 (.sl true 180 y5), .pat 6 (.val (.int .i64))], 0⟩)]
def K.spec_l5Join : Cons := lookK [(139, [], C.spec_l5Copy), (247, [], C.spec_l5Put)]
theorem run.spec_l5Join : Rn K.spec_l5Join L.spec_l5Join [] Tryz.f157 C.spec_l5Join := fun x => by kernel_rfl

/-! ### spec.l3Sum: function 283 -/
def F.spec_l3Sum.s3 : Stp ((List Int) × (List Int) × (List Int) × Int × Unit) (List Int) := fun (x1, x2, x3, x4, _) =>
 bif decide (x4 < (len x1)) then
  chk (inb x4 x1.length) <|
  chk (inb x4 x2.length) <|
  (F.spec_Add (x1.getD x4.toNat 0) (x2.getD x4.toNat 0)).bind fun r5 =>
  chk (fits (List.length x3 + List.length ([r5])) 8) <|
  some (.again (x1, x2, x3 ++ ([r5]), w64 (x4 + 1), ()))
 else
  some (.exit (x1, x2, x3, x4, ()))
def F.spec_l3Sum (a0 : List Int) (a1 : List Int) : Option (List Int) :=
 afterO (loopO F.spec_l3Sum.s3 (a0, a1, ([] : List Int), 0, ())) fun (x6, x7, x8, x9, _) =>
 some x8
def C.spec_l3Sum : Con := ⟨[.r (.val (.sl false 3 (.int .i64))), .r (.val (.sl false 3 (.int .i64)))], .one (.sl true 3 (.int .i64)), fun x => F.spec_l3Sum x.1 x.2.1⟩
def L.spec_l3Sum : Loops := lookL [(3, ⟨[.pat 0 (.val (.sl false 3 (.int .i64))), .pat 1 (.val (.sl false 3 (.int .i64))), .own 5 (.sl true 3 (.int .i64)), .pat 6 (.val (.int .i64))], 0⟩)]
def K.spec_l3Sum : Cons := lookK [(282, [], C.spec_Add)]
theorem run.spec_l3Sum : Rn K.spec_l3Sum L.spec_l3Sum [] Tryz.f283 C.spec_l3Sum := fun x => by kernel_rfl

/-! ### spec.l3Merge: function 241 -/
def F.spec_l3Merge.s7 : Stp (Int × DSketch × DSketch × DSketch × DSketch × Unit) DSketch := fun (x8, x9, x10, x11, x12, _) =>
 bif decide (x8 < 8) then
  chk (inb x8 x9.2.2.2.2.2.1.length) <|
  chk (inb x8 x10.2.2.2.2.2.1.length) <|
  (F.spec_l1Max (x9.2.2.2.2.2.1.getD x8.toNat 0) (x10.2.2.2.2.2.1.getD x8.toNat 0)).bind fun r13 =>
  chk (fits (List.length x12.2.2.2.2.2.1 + List.length ([r13])) 8) <|
  some (.again (w64 (x8 + 1), x9, x10, x11, (x12.1, x12.2.1, x12.2.2.1, x12.2.2.2.1, x12.2.2.2.2.1, x12.2.2.2.2.2.1 ++ ([r13]), x12.2.2.2.2.2.2), ()))
 else
  some (.exit (x8, x9, x10, x11, x12, ()))
def F.spec_l3Merge (a0 : DSketch) (a1 : DSketch) : Option DSketch :=
 (F.spec_Add a0.1 a1.1).bind fun r1 =>
 (F.spec_Add a0.2.1 a1.2.1).bind fun r2 =>
 (F.spec_l1Min a0.2.2.1 a1.2.2.1).bind fun r3 =>
 (F.spec_l1Max a0.2.2.2.1 a1.2.2.2.1).bind fun r4 =>
 (F.spec_l3Sum a0.2.2.2.2.1 a1.2.2.2.2.1).bind fun r5 =>
 chk (inb 0 a0.2.2.2.2.2.2.1.length) <|
 chk (inb 0 a1.2.2.2.2.2.2.1.length) <|
 (F.spec_l3Sum (a0.2.2.2.2.2.2.1.getD 0 ([])) (a1.2.2.2.2.2.2.1.getD 0 ([]))).bind fun r6 =>
 chk (inb 1 a0.2.2.2.2.2.2.1.length) <|
 chk (inb 1 a1.2.2.2.2.2.2.1.length) <|
 (F.spec_l3Sum (a0.2.2.2.2.2.2.1.getD 1 ([])) (a1.2.2.2.2.2.2.1.getD 1 ([]))).bind fun r7 =>
 bif a0.1 == 0 then
  bif a1.1 == 0 then
   afterO (loopO F.spec_l3Merge.s7 (0, a0, a1, (0, 0, 0, 0, ([] : List Int), ([] : List Int), ([] : List (List Int)), ()), (r1, r2, a0.2.2.1, r4, r5, ([] : List Int), [r6, r7], ()), ())) fun (x14, x15, x16, x17, x18, _) =>
   some x18
  else
  afterO (loopO F.spec_l3Merge.s7 (0, a0, a1, (0, 0, 0, 0, ([] : List Int), ([] : List Int), ([] : List (List Int)), ()), (r1, r2, a1.2.2.1, r4, r5, ([] : List Int), [r6, r7], ()), ())) fun (x25, x26, x27, x28, x29, _) =>
  some x29
 else
 bif a1.1 == 0 then
  afterO (loopO F.spec_l3Merge.s7 (0, a0, a1, (0, 0, 0, 0, ([] : List Int), ([] : List Int), ([] : List (List Int)), ()), (r1, r2, a0.2.2.1, r4, r5, ([] : List Int), [r6, r7], ()), ())) fun (x36, x37, x38, x39, x40, _) =>
  some x40
 else
 afterO (loopO F.spec_l3Merge.s7 (0, a0, a1, (0, 0, 0, 0, ([] : List Int), ([] : List Int), ([] : List (List Int)), ()), (r1, r2, r3, r4, r5, ([] : List Int), [r6, r7], ()), ())) fun (x47, x48, x49, x50, x51, _) =>
 some x51
def C.spec_l3Merge : Con := ⟨[.r (.val y2), .r (.val y2)], .one y1, fun x => F.spec_l3Merge x.1 x.2.1⟩
def L.spec_l3Merge : Loops := lookL [(7, ⟨[.pat 6 (.val (.int .i64)), .root 2 true y2 [2], .root 3 true y2 [3], .root 4 true y1 [4], .root 5 true y1 [5]], 0⟩)]
def K.spec_l3Merge : Cons := lookK [(248, [], C.spec_l1Max), (249, [], C.spec_l1Min), (282, [], C.spec_Add), (283, [], C.spec_l3Sum)]
theorem run.spec_l3Merge : Rn K.spec_l3Merge L.spec_l3Merge [] Tryz.f241 C.spec_l3Merge := fun x => by kernel_rfl

/-! ### spec.l6Add: function 138 -/
def F.spec_l6Add (a0 : DEntry) (a1 : DEntry) : Option DEntry :=
 (F.spec_l5Join a0.2.2.1 a1.2.2.1).bind fun r1 =>
 (F.spec_l3Merge a0.2.2.2.1 a1.2.2.2.1).bind fun r2 =>
 some (a0.1, a0.2.1, r1, r2, ())
def C.spec_l6Add : Con := ⟨[.r (.val y7), .r (.val y7)], .one y6, fun x => F.spec_l6Add x.1 x.2.1⟩
def K.spec_l6Add : Cons := lookK [(157, [], C.spec_l5Join), (241, [], C.spec_l3Merge)]
theorem run.spec_l6Add : Rn K.spec_l6Add L0 [] Tryz.f138 C.spec_l6Add := fun x => by kernel_rfl

/-! ### spec.RowPush: function 212 -/
def F.spec_RowPush.s5 : Stp (Bool × Int × DRow × DEntry × DRow × DRow × Unit) (DRow × Bool) := fun (x5, x6, x7, x8, x9, x10, _) =>
 bif decide (x6 < (len x10.1)) then
  bif x5 then
   chk (inb x6 x10.1.length) <|
   bif ((x10.1.getD x6.toNat (0, 0, [], (0, 0, 0, 0, [], [], [], ()), ())).1) == x8.1 then
    chk (inb x6 x10.1.length) <|
    bif (((x10.1.getD x6.toNat (0, 0, [], (0, 0, 0, 0, [], [], [], ()), ())).2).1) == x8.2.1 then
     chk (inb x6 x10.1.length) <|
     (F.spec_l6Add (x10.1.getD x6.toNat (0, 0, [], (0, 0, 0, 0, [], [], [], ()), ())) x8).bind fun r11 =>
     chk (inb x6 x10.1.length) <|
     some (.ret ((List.set x10.1 x6.toNat r11, x10.2), true))
    else
     some (.again (x5, w64 (x6 + 1), x7, x8, x9, x10, ()))
   else
    some (.again (x5, w64 (x6 + 1), x7, x8, x9, x10, ()))
  else
   some (.exit (x5, x6, x7, x8, x9, x10, ()))
 else
  some (.exit (x5, x6, x7, x8, x9, x10, ()))
def F.spec_RowPush (a0 : DRow) (a1 : DEntry) (a2 : Bool) : Option (DRow × Bool) :=
 (F.spec_l10Copy a0).bind fun r1 =>
 (F.spec_RowOk a0).bind fun r2 =>
 bif !r2 then
  some (r1, false)
 else
 (F.spec_EntryOk a1).bind fun r3 =>
 bif !r3 then
  some (r1, false)
 else
 (F.spec_l10Apart a0 a1.2.2.1).bind fun r4 =>
 bif !r4 then
  some (r1, false)
 else
 afterO (loopO F.spec_RowPush.s5 (a2, 0, a0, a1, (([] : List DEntry), ()), r1, ())) fun (x12, x13, x14, x15, x16, x17, _) =>
 bif (len x14.1) == 24 then
  some (x17, false)
 else
 (F.spec_l6Copy x15).bind fun r18 =>
 chk (fits (List.length x17.1 + List.length ([r18])) 144) <|
 some ((x17.1 ++ ([r18]), x17.2), true)
def C.spec_RowPush : Con := ⟨[.r (.val (.cons (.sl false 31 y7) .nil)), .r (.val y7), .r (.val .bool)], .many [(.cons (.sl true 31 y6) .nil), .bool], fun x => F.spec_RowPush x.1 x.2.1 x.2.2.1⟩
def L.spec_RowPush : Loops := lookL [(5, ⟨[.pat 2 (.val .bool), .pat 9 (.val (.int .i64)), .root 3 true (.cons (.sl false 31 y7) .nil) [3], .root 4 true y7 [4], .root 6 true (.cons (.sl true 31 y6) .nil) [6], .root 8 true (.cons (.sl true 31 y6) .nil) [8]], 0⟩)]
def K.spec_RowPush : Cons := lookK [(53, [], C.spec_EntryOk), (55, [], C.spec_l6Copy), (114, [], C.spec_RowOk), (138, [], C.spec_l6Add), (163, [], C.spec_l10Copy), (269, [], C.spec_l10Apart)]
theorem run.spec_RowPush : Rn K.spec_RowPush L.spec_RowPush [] Tryz.f212 C.spec_RowPush := fun x => by kernel_rfl

/-! ### spec.l10Right: function 116 -/
def F.spec_l10Right.s5 : Stp (Int × Int × Int × DL1Cur × DRow × DRow × Unit) (DRow × DL1Cur) := fun (x3, x4, x5, x6, x7, x8, _) =>
 bif decide (x5 < x3) then
  (F.spec_l6Right x6).bind fun r9 =>
  (F.spec_l1Below r9.2 30).bind fun r10 =>
  (F.spec_EntryOf x4 (w64 (1 + r10.1), r9.1.2)).bind fun r11 =>
  (F.spec_l1Once r10.2 3).bind fun r12 =>
  (F.spec_RowPush x8 r11.1 r12.1).bind fun r13 =>
  some (.again (x3, x4, w64 (x5 + 1), r12.2, x7, r13.1, ()))
 else
  some (.exit (x3, x4, x5, x6, x7, x8, ()))
def F.spec_l10Right (a0 : DL1Cur) : Option (DRow × DL1Cur) :=
 (F.spec_l1Below a0 6).bind fun r1 =>
 (F.spec_l1Below r1.2 3).bind fun r2 =>
 afterO (loopO F.spec_l10Right.s5 (r1.1, r2.1, 0, r2.2, (([] : List DEntry), ()), (([] : List DEntry), ()), ())) fun (x14, x15, x16, x17, x18, x19, _) =>
 some (x19, x17)
def C.spec_l10Right : Con := ⟨[.p y0 y0], .one (.cons (.sl true 31 y6) .nil), fun x => F.spec_l10Right x.1⟩
def L.spec_l10Right : Loops := lookL [(5, ⟨[.pat 4 (.val (.int .i64)), .pat 5 (.val (.int .i64)), .pat 6 (.val (.int .i64)), .root 0 true y0 [0], .root 2 true (.cons (.sl true 31 y6) .nil) [2], .root 3 true (.cons (.sl true 31 y6) .nil) [3]], 0⟩)]
def K.spec_l10Right : Cons := lookK [(40, [], C.spec_l1Once), (117, [], C.spec_l1Below), (118, [], C.spec_EntryOf), (119, [], C.spec_l6Right), (212, [], C.spec_RowPush)]
theorem run.spec_l10Right : Rn K.spec_l10Right L.spec_l10Right [0] Tryz.f116 C.spec_l10Right := fun x => by kernel_rfl

/-! ### spec.l5Right: function 233 -/
def F.spec_l5Right.s4 : Stp ((List DSpan) × Int × Int × DL1Cur × Unit) ((List DSpan) × DL1Cur) := fun (x2, x3, x4, x5, _) =>
 bif decide (x4 < x3) then
  (F.spec_l1Below x5 20).bind fun r6 =>
  (F.spec_l1Below r6.2 20).bind fun r7 =>
  (F.spec_l1Below r7.2 10).bind fun r8 =>
  (F.spec_l1PickInt r8.2 ([r6.1, r7.1, w64 (9990 + r8.1)])).bind fun r9 =>
  (F.spec_l1Below r9.2 3).bind fun r10 =>
  (F.spec_l1Min (w64 (r9.1 + r10.1)) 9999).bind fun r11 =>
  (F.spec_l5Put x2 (r9.1, r11, ())).bind fun r12 =>
  some (.again (r12, x3, w64 (x4 + 1), r10.2, ()))
 else
  some (.exit (x2, x3, x4, x5, ()))
def F.spec_l5Right (a0 : DL1Cur) : Option ((List DSpan) × DL1Cur) :=
 (F.spec_l1Below a0 7).bind fun r1 =>
 afterO (loopO F.spec_l5Right.s4 (([] : List DSpan), r1.1, 0, r1.2, ())) fun (x13, x14, x15, x16, _) =>
 some (x13, x16)
def C.spec_l5Right : Con := ⟨[.p y0 y0], .one (.sl true 180 y5), fun x => F.spec_l5Right x.1⟩
def L.spec_l5Right : Loops := lookL [(4, ⟨[.own 3 (.sl true 180 y5), .pat 4 (.val (.int .i64)), .pat 5 (.val (.int .i64)), .root 0 true y0 [0]], 0⟩)]
def K.spec_l5Right : Cons := lookK [(117, [], C.spec_l1Below), (122, [], C.spec_l1PickInt), (247, [], C.spec_l5Put), (249, [], C.spec_l1Min)]
theorem run.spec_l5Right : Rn K.spec_l5Right L.spec_l5Right [0] Tryz.f233 C.spec_l5Right := fun x => by kernel_rfl

/-! ### spec.l5Draw: function 120 -/
def F.spec_l5Draw (a0 : DL1Cur) : Option ((List DSpan) × DL1Cur) :=
 (F.spec_l5Right a0).bind fun r1 =>
 (F.spec_l1Once r1.2 8).bind fun r2 =>
 bif r2.1 then
  (F.spec_l1PickInt r2.2 ([-1, 3, 10000])).bind fun r3 =>
  (F.spec_l1PickInt r3.2 ([5, 10000, 9223372036854775807])).bind fun r4 =>
  chk (fits (List.length r1.1 + List.length ([(r3.1, r4.1, ())])) 16) <|
  some (r1.1 ++ ([(r3.1, r4.1, ())]), r4.2)
 else
  some (r1.1, r2.2)
def C.spec_l5Draw : Con := ⟨[.p y0 y0], .one (.sl true 180 y5), fun x => F.spec_l5Draw x.1⟩
def K.spec_l5Draw : Cons := lookK [(40, [], C.spec_l1Once), (122, [], C.spec_l1PickInt), (233, [], C.spec_l5Right)]
theorem run.spec_l5Draw : Rn K.spec_l5Draw L0 [0] Tryz.f120 C.spec_l5Draw := fun x => by kernel_rfl

/-! ### spec.l3Right: function 234 -/
def F.spec_l3Right (a0 : DL1Cur) : Option (DSketch × DL1Cur) :=
 (F.spec_l3Values a0).bind fun r1 =>
 (F.spec_Sketched r1.1).bind fun r2 =>
 (F.spec_l1Once r1.2 16).bind fun r3 =>
 bif r3.1 then
  bif decide (r2.1 > 0) then
   (F.spec_l1Below r3.2 2).bind fun r4 =>
   chk (inb 3 r2.2.2.2.2.1.length) <|
   some ((w64 (1000000000 - r4.1), 999999997, r2.2.2.1, r2.2.2.2.1, List.set r2.2.2.2.2.1 3 1000000000, r2.2.2.2.2.2), r4.2)
  else
   some (r2, r3.2)
 else
  some (r2, r3.2)
def C.spec_l3Right : Con := ⟨[.p y0 y0], .one y1, fun x => F.spec_l3Right x.1⟩
def K.spec_l3Right : Cons := lookK [(40, [], C.spec_l1Once), (117, [], C.spec_l1Below), (231, [], C.spec_Sketched), (232, [], C.spec_l3Values)]
theorem run.spec_l3Right : Rn K.spec_l3Right L0 [0] Tryz.f234 C.spec_l3Right := fun x => by kernel_rfl

/-! ### spec.l3Draw: function 121 -/
def F.spec_l3Draw (a0 : DL1Cur) : Option (DSketch × DL1Cur) :=
 (F.spec_l3Right a0).bind fun r1 =>
 (F.spec_l1Below r1.2 16).bind fun r2 =>
 bif r2.1 == 0 then
  (F.spec_l1PickInt r2.2 ([-1, 1000001, 500])).bind fun r3 =>
  some ((r1.1.1, r1.1.2.1, r3.1, r1.1.2.2.2), r3.2)
 else
 bif r2.1 == 1 then
  (F.spec_l1Below r2.2 8).bind fun r4 =>
  (F.spec_l1PickInt r4.2 ([-1, 17, 18])).bind fun r5 =>
  chk (inb r4.1 r1.1.2.2.2.2.2.1.length) <|
  some ((r1.1.1, r1.1.2.1, r1.1.2.2.1, r1.1.2.2.2.1, r1.1.2.2.2.2.1, List.set r1.1.2.2.2.2.2.1 (Int.toNat r4.1) r5.1, r1.1.2.2.2.2.2.2), r5.2)
 else
 bif r2.1 == 2 then
  chk (fits (List.length r1.1.2.2.2.2.1 + List.length ([0])) 8) <|
  some ((r1.1.1, r1.1.2.1, r1.1.2.2.1, r1.1.2.2.2.1, r1.1.2.2.2.2.1 ++ ([0]), r1.1.2.2.2.2.2), r2.2)
 else
 bif r2.1 == 3 then
  chk (cutOk 0 1 r1.1.2.2.2.2.2.2.1.length) <|
  some ((r1.1.1, r1.1.2.1, r1.1.2.2.1, r1.1.2.2.2.1, r1.1.2.2.2.2.1, r1.1.2.2.2.2.2.1, List.take (1 - 0) (List.drop 0 r1.1.2.2.2.2.2.2.1), r1.1.2.2.2.2.2.2.2), r2.2)
 else
 bif r2.1 == 4 then
  (F.spec_l1PickInt r2.2 ([0, -1, 1000000001])).bind fun r6 =>
  some ((r6.1, r1.1.2), r6.2)
 else
 bif r2.1 == 5 then
  chk (inb 1 r1.1.2.2.2.2.2.2.1.length) <|
  (F.spec_l1PickInt r2.2 ([-1, 3, 1000000001])).bind fun r7 =>
  chk (inb 2 (List.length (r1.1.2.2.2.2.2.2.1.getD 1 ([])))) <|
  some ((r1.1.1, r1.1.2.1, r1.1.2.2.1, r1.1.2.2.2.1, r1.1.2.2.2.2.1, r1.1.2.2.2.2.2.1, List.set r1.1.2.2.2.2.2.2.1 1 (List.set (r1.1.2.2.2.2.2.2.1.getD 1 ([])) 2 r7.1), r1.1.2.2.2.2.2.2.2), r7.2)
 else
  some (r1.1, r2.2)
def C.spec_l3Draw : Con := ⟨[.p y0 y0], .one y2, fun x => F.spec_l3Draw x.1⟩
def K.spec_l3Draw : Cons := lookK [(117, [], C.spec_l1Below), (122, [], C.spec_l1PickInt), (234, [], C.spec_l3Right)]
theorem run.spec_l3Draw : Rn K.spec_l3Draw L0 [0] Tryz.f121 C.spec_l3Draw := fun x => by kernel_rfl

/-! ### spec.l6Entry: function 39 -/
def F.spec_l6Entry (a0 : DL1Cur) : Option (DEntry × DL1Cur) :=
 (F.spec_l1Below a0 3).bind fun r1 =>
 (F.spec_l6Right r1.2).bind fun r2 =>
 (F.spec_EntryOf r1.1 r2.1).bind fun r3 =>
 (F.spec_l1Once r2.2 4).bind fun r4 =>
 bif r4.1 then
  (F.spec_l5Draw r4.2).bind fun r5 =>
  (F.spec_l1Once r5.2 14).bind fun r6 =>
  bif r6.1 then
   (F.spec_l3Draw r6.2).bind fun r7 =>
   (F.spec_l1Once r7.2 20).bind fun r8 =>
   bif r8.1 then
    (F.spec_l1PickInt r8.2 ([-1, 5])).bind fun r9 =>
    some ((r9.1, r3.1.2.1, r5.1, r7.1, r3.1.2.2.2.2), r9.2)
   else
    some ((r3.1.1, r3.1.2.1, r5.1, r7.1, r3.1.2.2.2.2), r8.2)
  else
  (F.spec_l1Once r6.2 20).bind fun r10 =>
  bif r10.1 then
   (F.spec_l1PickInt r10.2 ([-1, 5])).bind fun r11 =>
   some ((r11.1, r3.1.2.1, r5.1, r3.1.2.2.2), r11.2)
  else
   some ((r3.1.1, r3.1.2.1, r5.1, r3.1.2.2.2), r10.2)
 else
 (F.spec_l1Once r4.2 14).bind fun r12 =>
 bif r12.1 then
  (F.spec_l3Draw r12.2).bind fun r13 =>
  (F.spec_l1Once r13.2 20).bind fun r14 =>
  bif r14.1 then
   (F.spec_l1PickInt r14.2 ([-1, 5])).bind fun r15 =>
   some ((r15.1, r3.1.2.1, r3.1.2.2.1, r13.1, r3.1.2.2.2.2), r15.2)
  else
   some ((r3.1.1, r3.1.2.1, r3.1.2.2.1, r13.1, r3.1.2.2.2.2), r14.2)
 else
 (F.spec_l1Once r12.2 20).bind fun r16 =>
 bif r16.1 then
  (F.spec_l1PickInt r16.2 ([-1, 5])).bind fun r17 =>
  some ((r17.1, r3.1.2), r17.2)
 else
  some (r3.1, r16.2)
def C.spec_l6Entry : Con := ⟨[.p y0 y0], .one y7, fun x => F.spec_l6Entry x.1⟩
def K.spec_l6Entry : Cons := lookK [(40, [], C.spec_l1Once), (117, [], C.spec_l1Below), (118, [], C.spec_EntryOf), (119, [], C.spec_l6Right), (120, [], C.spec_l5Draw), (121, [], C.spec_l3Draw), (122, [], C.spec_l1PickInt)]
theorem run.spec_l6Entry : Rn K.spec_l6Entry L0 [0] Tryz.f39 C.spec_l6Entry := fun x => by kernel_rfl

/-! ### spec.l10Draw: function 38 -/
def F.spec_l10Draw (a0 : DL1Cur) : Option (DRow × DL1Cur) :=
 (F.spec_l10Right a0).bind fun r1 =>
 (F.spec_l1Below r1.2 10).bind fun r2 =>
 bif r2.1 == 0 then
  (F.spec_l6Entry r2.2).bind fun r3 =>
  chk (fits (List.length r1.1.1 + List.length ([r3.1])) 144) <|
  some ((r1.1.1 ++ ([r3.1]), r1.1.2), r3.2)
 else
 bif r2.1 == 1 then
  bif decide ((len r1.1.1) > 0) then
   chk (inb 0 r1.1.1.length) <|
   (F.spec_l6Copy (r1.1.1.getD 0 (0, 0, [], (0, 0, 0, 0, [], [], [], ()), ()))).bind fun r4 =>
   chk (fits (List.length r1.1.1 + List.length ([r4])) 144) <|
   some ((r1.1.1 ++ ([r4]), r1.1.2), r2.2)
  else
   some (r1.1, r2.2)
 else
  some (r1.1, r2.2)
def C.spec_l10Draw : Con := ⟨[.p y0 y0], .one (.cons (.sl false 31 y7) .nil), fun x => F.spec_l10Draw x.1⟩
def K.spec_l10Draw : Cons := lookK [(39, [], C.spec_l6Entry), (55, [], C.spec_l6Copy), (116, [], C.spec_l10Right), (117, [], C.spec_l1Below)]
theorem run.spec_l10Draw : Rn K.spec_l10Draw L0 [0] Tryz.f38 C.spec_l10Draw := fun x => by kernel_rfl

/-! ### spec.l10Into: function 115 -/
def F.spec_l10Into.s3 : Stp ((List DEntry) × Int × Int × DEntry × Unit) (List DEntry) := fun (x1, x2, x3, x4, _) =>
 bif decide (x3 >= 0) then
  chk (inb x3 x1.length) <|
  bif ((x1.getD x3.toNat (0, 0, [], (0, 0, 0, 0, [], [], [], ()), ())).1) == x4.1 then
   chk (inb x3 x1.length) <|
   bif (((x1.getD x3.toNat (0, 0, [], (0, 0, 0, 0, [], [], [], ()), ())).2).1) == x4.2.1 then
    chk (inb x3 x1.length) <|
    (F.spec_l6Add (x1.getD x3.toNat (0, 0, [], (0, 0, 0, 0, [], [], [], ()), ())) x4).bind fun r5 =>
    chk (inb x3 x1.length) <|
    some (.ret (List.set x1 x3.toNat r5))
   else
   chk (inb x3 x1.length) <|
   bif decide (((x1.getD x3.toNat (0, 0, [], (0, 0, 0, 0, [], [], [], ()), ())).1) > x4.1) then
    some (.again (x1, x3, w64 (x3 - 1), x4, ()))
   else
   chk (inb x3 x1.length) <|
   bif ((x1.getD x3.toNat (0, 0, [], (0, 0, 0, 0, [], [], [], ()), ())).1) == x4.1 then
    chk (inb x3 x1.length) <|
    bif decide ((((x1.getD x3.toNat (0, 0, [], (0, 0, 0, 0, [], [], [], ()), ())).2).1) > x4.2.1) then
     some (.again (x1, x3, w64 (x3 - 1), x4, ()))
    else
     some (.again (x1, x2, w64 (x3 - 1), x4, ()))
   else
    some (.again (x1, x2, w64 (x3 - 1), x4, ()))
  else
  chk (inb x3 x1.length) <|
  bif decide (((x1.getD x3.toNat (0, 0, [], (0, 0, 0, 0, [], [], [], ()), ())).1) > x4.1) then
   some (.again (x1, x3, w64 (x3 - 1), x4, ()))
  else
  chk (inb x3 x1.length) <|
  bif ((x1.getD x3.toNat (0, 0, [], (0, 0, 0, 0, [], [], [], ()), ())).1) == x4.1 then
   chk (inb x3 x1.length) <|
   bif decide ((((x1.getD x3.toNat (0, 0, [], (0, 0, 0, 0, [], [], [], ()), ())).2).1) > x4.2.1) then
    some (.again (x1, x3, w64 (x3 - 1), x4, ()))
   else
    some (.again (x1, x2, w64 (x3 - 1), x4, ()))
  else
   some (.again (x1, x2, w64 (x3 - 1), x4, ()))
 else
  some (.exit (x1, x2, x3, x4, ()))
def F.spec_l10Into (a0 : List DEntry) (a1 : DEntry) : Option (List DEntry) :=
 afterO (loopO F.spec_l10Into.s3 (a0, len a0, w64 ((len a0) - 1), a1, ())) fun (x6, x7, x8, x9, _) =>
 chk (cutOk 0 x7 x6.length) <|
 chk (fits (List.length ([] : List DEntry) + List.length (List.take (x7.toNat - 0) (List.drop 0 x6))) 144) <|
 (F.spec_l6Copy x9).bind fun r10 =>
 chk (fits (List.length (([] : List DEntry) ++ (List.take (x7.toNat - 0) (List.drop 0 x6))) + List.length ([r10])) 144) <|
 chk (cutOk x7 (len x6) x6.length) <|
 chk (fits (List.length ((([] : List DEntry) ++ (List.take (x7.toNat - 0) (List.drop 0 x6))) ++ ([r10])) + List.length (List.take ((Int.toNat (len x6)) - x7.toNat) (List.drop x7.toNat x6))) 144) <|
 some (((([] : List DEntry) ++ (List.take (x7.toNat - 0) (List.drop 0 x6))) ++ ([r10])) ++ (List.take ((Int.toNat (len x6)) - x7.toNat) (List.drop x7.toNat x6)))
def C.spec_l10Into : Con := ⟨[.o (.sl true 31 y7), .r (.val y7)], .one (.sl true 31 y7), fun x => F.spec_l10Into x.1 x.2.1⟩
def L.spec_l10Into : Loops := lookL [(3, ⟨[.own 0 (.sl true 31 y7), .pat 5 (.val (.int .i64)), .pat 6 (.val (.int .i64)), .root 3 true y7 [3]], 0⟩)]
def K.spec_l10Into : Cons := lookK [(55, [], C.spec_l6Copy), (138, [], C.spec_l6Add)]
theorem run.spec_l10Into : Rn K.spec_l10Into L.spec_l10Into [] Tryz.f115 C.spec_l10Into := fun x => by kernel_rfl

/-! ### spec.RowSum: function 37 -/
def F.spec_RowSum.s5 : Stp ((List DEntry) × Int × DRow × Unit) (List DEntry) := fun (x2, x3, x4, _) =>
 bif decide (x3 < (len x4.1)) then
  chk (inb x3 x4.1.length) <|
  (F.spec_l10Into x2 (x4.1.getD x3.toNat (0, 0, [], (0, 0, 0, 0, [], [], [], ()), ()))).bind fun r5 =>
  some (.again (r5, w64 (x3 + 1), x4, ()))
 else
  some (.exit (x2, x3, x4, ()))
def F.spec_RowSum (a0 : DRow) : Option (List DEntry) :=
 (F.spec_RowOk a0).bind fun r1 =>
 bif !r1 then
  some ([] : List DEntry)
 else
 afterO (loopO F.spec_RowSum.s5 (([] : List DEntry), 0, a0, ())) fun (x6, x7, x8, _) =>
 some x6
def C.spec_RowSum : Con := ⟨[.r (.val (.cons (.sl false 31 y7) .nil))], .one (.sl true 31 y7), fun x => F.spec_RowSum x.1⟩
def L.spec_RowSum : Loops := lookL [(5, ⟨[.own 3 (.sl true 31 y7), .pat 4 (.val (.int .i64)), .root 1 true (.cons (.sl false 31 y7) .nil) [1]], 0⟩)]
def K.spec_RowSum : Cons := lookK [(114, [], C.spec_RowOk), (115, [], C.spec_l10Into)]
theorem run.spec_RowSum : Rn K.spec_RowSum L.spec_RowSum [] Tryz.f37 C.spec_RowSum := fun x => by kernel_rfl

/-! ### spec.DrawRootAdd: function 9 -/
def F.spec_DrawRootAdd (a0 : List Int) : Option ((List DEntry) × DEntry) :=
 (F.spec_l1New a0).bind fun r1 =>
 (F.spec_l10Draw r1).bind fun r2 =>
 (F.spec_RowSum r2.1).bind fun r3 =>
 (F.spec_l6Entry r2.2).bind fun r4 =>
 (F.spec_l1Once r4.2 12).bind fun r5 =>
 bif r5.1 then
  (F.spec_l6Entry r5.2).bind fun r6 =>
  chk (fits (List.length r3 + List.length ([r6.1])) 144) <|
  some (r3 ++ ([r6.1]), r4.1)
 else
  some (r3, r4.1)
def C.spec_DrawRootAdd : Con := ⟨[.r (.val (.sl false 5 (.int .u8)))], .many [(.sl false 31 y7), y7], fun x => F.spec_DrawRootAdd x.1⟩
def K.spec_DrawRootAdd : Cons := lookK [(36, [], C.spec_l1New), (37, [], C.spec_RowSum), (38, [], C.spec_l10Draw), (39, [], C.spec_l6Entry), (40, [], C.spec_l1Once)]
theorem run.spec_DrawRootAdd : Rn K.spec_DrawRootAdd L0 [] Tryz.f9 C.spec_DrawRootAdd := fun x => by kernel_rfl

/-! ### impl.copySet: function 132 -/
def F.impl_copySet (a0 : List DSpan) : Option (List DSpan) :=
 chk (fits a0.length 16) <|
 some a0
def C.impl_copySet : Con := ⟨[.r (.val (.sl false 180 y5))], .one (.sl true 180 y5), fun x => F.impl_copySet x.1⟩
def K.impl_copySet : Cons := lookK []
theorem run.impl_copySet : Rn K.impl_copySet L0 [] Tryz.f132 C.impl_copySet := fun x => by kernel_rfl

/-! ### impl.copyInts: function 238 -/
def F.impl_copyInts (a0 : List Int) : Option (List Int) :=
 chk (fits a0.length 8) <|
 some a0
def C.impl_copyInts : Con := ⟨[.r (.val (.sl false 3 (.int .i64)))], .one (.sl true 3 (.int .i64)), fun x => F.impl_copyInts x.1⟩
def K.impl_copyInts : Cons := lookK []
theorem run.impl_copyInts : Rn K.impl_copyInts L0 [] Tryz.f238 C.impl_copyInts := fun x => by kernel_rfl

/-! ### impl.copySketch: function 133 -/
def F.impl_copySketch.s6 : Stp ((List (List Int)) × Int × Int × DSketch × DSketch × Unit) DSketch := fun (x3, x4, x5, x6, x7, _) =>
 bif decide (x5 < x4) then
  chk (inb x5 x3.length) <|
  (F.impl_copyInts (x3.getD x5.toNat ([]))).bind fun r8 =>
  chk (fits (List.length x7.2.2.2.2.2.2.1 + List.length ([r8])) 24) <|
  some (.again (x3, x4, w64 (x5 + 1), x6, (x7.1, x7.2.1, x7.2.2.1, x7.2.2.2.1, x7.2.2.2.2.1, x7.2.2.2.2.2.1, x7.2.2.2.2.2.2.1 ++ ([r8]), x7.2.2.2.2.2.2.2), ()))
 else
  some (.exit (x3, x4, x5, x6, x7, ()))
def F.impl_copySketch (a0 : DSketch) : Option DSketch :=
 (F.impl_copyInts a0.2.2.2.2.1).bind fun r1 =>
 (F.impl_copyInts a0.2.2.2.2.2.1).bind fun r2 =>
 afterO (loopO F.impl_copySketch.s6 (a0.2.2.2.2.2.2.1, len a0.2.2.2.2.2.2.1, 0, (0, 0, 0, 0, ([] : List Int), ([] : List Int), ([] : List (List Int)), ()), (a0.1, a0.2.1, a0.2.2.1, a0.2.2.2.1, r1, r2, ([] : List (List Int)), a0.2.2.2.2.2.2.2), ())) fun (x9, x10, x11, x12, x13, _) =>
 some x13
def C.impl_copySketch : Con := ⟨[.r (.val y2)], .one y1, fun x => F.impl_copySketch x.1⟩
def L.impl_copySketch : Loops := lookL [(6, ⟨[.pat 17 (.val (.sl false 26 (.sl false 3 (.int .i64)))), .pat 18 (.val (.int .i64)), .pat 19 (.val (.int .i64)), .root 2 true y1 [2], .root 3 true y1 [3]], 0⟩)]
def K.impl_copySketch : Cons := lookK [(238, [], C.impl_copyInts)]
theorem run.impl_copySketch : Rn K.impl_copySketch L.impl_copySketch [] Tryz.f133 C.impl_copySketch := fun x => by kernel_rfl

/-! ### impl.copyEntry: function 51 -/
def F.impl_copyEntry (a0 : DEntry) : Option DEntry :=
 (F.impl_copySet a0.2.2.1).bind fun r1 =>
 (F.impl_copySketch a0.2.2.2.1).bind fun r2 =>
 some (a0.1, a0.2.1, r1, r2, a0.2.2.2.2)
def C.impl_copyEntry : Con := ⟨[.r (.val y7)], .one y6, fun x => F.impl_copyEntry x.1⟩
def K.impl_copyEntry : Cons := lookK [(132, [], C.impl_copySet), (133, [], C.impl_copySketch)]
theorem run.impl_copyEntry : Rn K.impl_copyEntry L0 [] Tryz.f51 C.impl_copyEntry := fun x => by kernel_rfl

/-! ### impl.copyEntries: function 41 -/
def F.impl_copyEntries.s3 : Stp ((List DEntry) × (List DEntry) × Int × Int × Unit) (List DEntry) := fun (x1, x2, x3, x4, _) =>
 bif decide (x4 < x3) then
  chk (inb x4 x2.length) <|
  (F.impl_copyEntry (x2.getD x4.toNat (0, 0, [], (0, 0, 0, 0, [], [], [], ()), ()))).bind fun r5 =>
  chk (fits (List.length x1 + List.length ([r5])) 144) <|
  some (.again (x1 ++ ([r5]), x2, x3, w64 (x4 + 1), ()))
 else
  some (.exit (x1, x2, x3, x4, ()))
def F.impl_copyEntries (a0 : List DEntry) : Option (List DEntry) :=
 afterO (loopO F.impl_copyEntries.s3 (([] : List DEntry), a0, len a0, 0, ())) fun (x6, x7, x8, x9, _) =>
 some x6
def C.impl_copyEntries : Con := ⟨[.r (.val (.sl false 31 y7))], .one (.sl true 31 y6), fun x => F.impl_copyEntries x.1⟩
def L.impl_copyEntries : Loops := lookL [(3, ⟨[.own 3 (.sl true 31 y6), .pat 6 (.val (.sl false 31 y7)), .pat 7 (.val (.int .i64)), .pat 8 (.val (.int .i64))], 0⟩)]
def K.impl_copyEntries : Cons := lookK [(51, [], C.impl_copyEntry)]
theorem run.impl_copyEntries : Rn K.impl_copyEntries L.impl_copyEntries [] Tryz.f41 C.impl_copyEntries := fun x => by kernel_rfl

/-! ### impl.within: function 123 -/
def F.impl_within (a0 : Int) (a1 : Int) (a2 : Int) : Option Bool :=
 bif decide (a0 >= a1) then
  some (decide (a0 <= a2))
 else
  some false
def C.impl_within : Con := ⟨[.r (.val (.int .i64)), .r (.val (.int .i64)), .r (.val (.int .i64))], .one .bool, fun x => F.impl_within x.1 x.2.1 x.2.2.1⟩
def K.impl_within : Cons := lookK []
theorem run.impl_within : Rn K.impl_within L0 [] Tryz.f123 C.impl_within := fun x => by kernel_rfl

/-! ### impl.SetOk: function 124 -/
def F.impl_SetOk.s2 : Stp ((List DSpan) × (List DSpan) × Int × Int × Unit) Bool := fun (x1, x2, x3, x4, _) =>
 bif decide (x4 < x3) then
  chk (inb x4 x2.length) <|
  (F.impl_within ((x2.getD x4.toNat (0, 0, ())).1) 0 9999).bind fun r5 =>
  bif !r5 then
   some (.ret false)
  else
  (F.impl_within (((x2.getD x4.toNat (0, 0, ())).2).1) ((x2.getD x4.toNat (0, 0, ())).1) 9999).bind fun r6 =>
  bif !r6 then
   some (.ret false)
  else
  bif decide (x4 > 0) then
   chk (inb (w64 (x4 - 1)) x1.length) <|
   bif decide (((x2.getD x4.toNat (0, 0, ())).1) <= (w64 ((((x1.getD (Int.toNat (w64 (x4 - 1))) (0, 0, ())).2).1) + 1))) then
    some (.ret false)
   else
    some (.again (x1, x2, x3, w64 (x4 + 1), ()))
  else
   some (.again (x1, x2, x3, w64 (x4 + 1), ()))
 else
  some (.exit (x1, x2, x3, x4, ()))
def F.impl_SetOk (a0 : List DSpan) : Option Bool :=
 afterO (loopO F.impl_SetOk.s2 (a0, a0, len a0, 0, ())) fun (x7, x8, x9, x10, _) =>
 some true
def C.impl_SetOk : Con := ⟨[.r (.val (.sl false 180 y5))], .one .bool, fun x => F.impl_SetOk x.1⟩
def L.impl_SetOk : Loops := lookL [(2, ⟨[.pat 0 (.val (.sl false 180 y5)), .pat 5 (.val (.sl false 180 y5)), .pat 6 (.val (.int .i64)), .pat 7 (.val (.int .i64))], 0⟩)]
def K.impl_SetOk : Cons := lookK [(123, [], C.impl_within)]
theorem run.impl_SetOk : Rn K.impl_SetOk L.impl_SetOk [] Tryz.f124 C.impl_SetOk := fun x => by kernel_rfl

/-! ### impl.counts: function 235 -/
def F.impl_counts.s3 : Stp ((List Int) × (List (List Int)) × Int × Int × Unit) (List Int) := fun (x2, x3, x4, x5, _) =>
 bif decide (x5 < x4) then
  chk (inb x5 x3.length) <|
  chk (fits (List.length x2 + List.length (x3.getD x5.toNat ([]))) 8) <|
  some (.again (x2 ++ (x3.getD x5.toNat ([])), x3, x4, w64 (x5 + 1), ()))
 else
  some (.exit (x2, x3, x4, x5, ()))
def F.impl_counts (a0 : DSketch) : Option (List Int) :=
 (F.impl_copyInts a0.2.2.2.2.1).bind fun r1 =>
 chk (fits (List.length r1 + List.length a0.2.2.2.2.2.1) 8) <|
 afterO (loopO F.impl_counts.s3 (r1 ++ a0.2.2.2.2.2.1, a0.2.2.2.2.2.2.1, len a0.2.2.2.2.2.2.1, 0, ())) fun (x6, x7, x8, x9, _) =>
 some x6
def C.impl_counts : Con := ⟨[.r (.val y2)], .one (.sl true 3 (.int .i64)), fun x => F.impl_counts x.1⟩
def L.impl_counts : Loops := lookL [(3, ⟨[.own 3 (.sl true 3 (.int .i64)), .pat 13 (.val (.sl false 26 (.sl false 3 (.int .i64)))), .pat 14 (.val (.int .i64)), .pat 15 (.val (.int .i64))], 0⟩)]
def K.impl_counts : Cons := lookK [(238, [], C.impl_copyInts)]
theorem run.impl_counts : Rn K.impl_counts L.impl_counts [] Tryz.f235 C.impl_counts := fun x => by kernel_rfl

/-! ### impl.SketchOk: function 125 -/
def F.impl_SketchOk.s5 : Stp (Int × (List Int) × Int × Int × DSketch × Unit) Bool := fun (x2, x3, x4, x5, x6, _) =>
 bif decide (x5 < x4) then
  chk (inb x5 x3.length) <|
  (F.impl_within (x3.getD x5.toNat 0) 0 1000000000).bind fun r7 =>
  bif !r7 then
   some (.ret false)
  else
   some (.again (w64 (x2 + (x3.getD x5.toNat 0)), x3, x4, w64 (x5 + 1), x6, ()))
 else
  some (.exit (x2, x3, x4, x5, x6, ()))
def F.impl_SketchOk.s12 : Stp (Int × (List Int) × Int × Int × DSketch × Unit) Bool := fun (x13, x14, x15, x16, x17, _) =>
 bif decide (x16 < x15) then
  chk (inb x16 x14.length) <|
  bif decide ((x14.getD x16.toNat 0) > 17) then
   some (.ret false)
  else
   some (.again (x13, x14, x15, w64 (x16 + 1), x17, ()))
 else
  some (.exit (x13, x14, x15, x16, x17, ()))
def F.impl_SketchOk (a0 : DSketch) : Option Bool :=
 bif (len a0.2.2.2.2.1) != 8 then
  some false
 else
 bif (len a0.2.2.2.2.2.1) != 8 then
  some false
 else
 bif (len a0.2.2.2.2.2.2.1) != 2 then
  some false
 else
 chk (inb 0 a0.2.2.2.2.2.2.1.length) <|
 bif (len (a0.2.2.2.2.2.2.1.getD 0 ([]))) != 4 then
  some false
 else
 chk (inb 1 a0.2.2.2.2.2.2.1.length) <|
 bif (len (a0.2.2.2.2.2.2.1.getD 1 ([]))) != 4 then
  some false
 else
 (F.impl_counts a0).bind fun r1 =>
 chk (fits (List.length r1 + List.length ([a0.1, a0.2.1, a0.2.2.1, a0.2.2.2.1])) 8) <|
 afterO (loopO F.impl_SketchOk.s5 (0, r1 ++ ([a0.1, a0.2.1, a0.2.2.1, a0.2.2.2.1]), len (r1 ++ ([a0.1, a0.2.1, a0.2.2.1, a0.2.2.2.1])), 0, a0, ())) fun (x8, x9, x10, x11, x12, _) =>
 afterO (loopO F.impl_SketchOk.s12 (x8, x12.2.2.2.2.2.1, len x12.2.2.2.2.2.1, 0, x12, ())) fun (x18, x19, x20, x21, x22, _) =>
 bif x22.1 == 0 then
  some (x18 == 0)
 else
 bif decide (x22.2.2.1 <= x22.2.2.2.1) then
  some (decide (x22.2.2.2.1 <= 1000000))
 else
  some false
def C.impl_SketchOk : Con := ⟨[.r (.val y2)], .one .bool, fun x => F.impl_SketchOk x.1⟩
def L.impl_SketchOk : Loops := lookL [(5, ⟨[.pat 3 (.val (.int .i64)), .own 51 (.sl true 3 (.int .i64)), .pat 52 (.val (.int .i64)), .pat 53 (.val (.int .i64)), .root 1 true y2 [1]], 0⟩), (12, ⟨[.pat 3 (.val (.int .i64)), .pat 65 (.val (.sl false 3 (.int .i64))), .pat 66 (.val (.int .i64)), .pat 67 (.val (.int .i64)), .root 1 true y2 [1]], 2⟩)]
def K.impl_SketchOk : Cons := lookK [(123, [], C.impl_within), (235, [], C.impl_counts)]
theorem run.impl_SketchOk : Rn K.impl_SketchOk L.impl_SketchOk [] Tryz.f125 C.impl_SketchOk := fun x => by kernel_rfl

/-! ### impl.EntryOk: function 42 -/
def F.impl_EntryOk (a0 : DEntry) : Option Bool :=
 (F.impl_within a0.1 0 4).bind fun r1 =>
 bif r1 then
  (F.impl_within a0.2.1 0 20).bind fun r2 =>
  bif r2 then
   (F.impl_SetOk a0.2.2.1).bind fun r3 =>
   bif r3 then
    bif decide ((len a0.2.2.1) > 0) then
     (F.impl_SketchOk a0.2.2.2.1).bind fun r4 =>
     some r4
    else
     some false
   else
    some false
  else
   some false
 else
  some false
def C.impl_EntryOk : Con := ⟨[.r (.val y7)], .one .bool, fun x => F.impl_EntryOk x.1⟩
def K.impl_EntryOk : Cons := lookK [(123, [], C.impl_within), (124, [], C.impl_SetOk), (125, [], C.impl_SketchOk)]
theorem run.impl_EntryOk : Rn K.impl_EntryOk L0 [] Tryz.f42 C.impl_EntryOk := fun x => by kernel_rfl

/-! ### impl.RootAdd$1: function 44 -/
def F.impl_RootAdd_1 (a0 : DEntry) : Option Bool :=
 (F.impl_EntryOk a0).bind fun r1 =>
 some (!r1)
def C.impl_RootAdd_1 : Con := ⟨[.r (.val y7)], .one .bool, fun x => F.impl_RootAdd_1 x.1⟩
def K.impl_RootAdd_1 : Cons := lookK [(42, [], C.impl_EntryOk)]
theorem run.impl_RootAdd_1 : Rn K.impl_RootAdd_1 L0 [] Tryz.f44 C.impl_RootAdd_1 := fun x => by kernel_rfl

/-! ### slices.IndexFunc[[]impl.Entry,impl.Entry]: function 47 -/
def F.slices_IndexFunc_Entry__impl_RootAdd_1.s2 : Stp ((List DEntry) × Unit × Int × Int × Unit) Int := fun (x1, x2, x3, x4, _) =>
 bif decide (x4 < x3) then
  chk (inb x4 x1.length) <|
  (F.impl_RootAdd_1 (x1.getD x4.toNat (0, 0, [], (0, 0, 0, 0, [], [], [], ()), ()))).bind fun r5 =>
  bif r5 then
   some (.ret x4)
  else
   some (.again (x1, (), x3, w64 (x4 + 1), ()))
 else
  some (.exit (x1, (), x3, x4, ()))
def F.slices_IndexFunc_Entry__impl_RootAdd_1 (a0 : List DEntry) (a1 : Unit) : Option Int :=
 afterO (loopO F.slices_IndexFunc_Entry__impl_RootAdd_1.s2 (a0, (), len a0, 0, ())) fun (x6, x7, x8, x9, _) =>
 some (-1)
def C.slices_IndexFunc_Entry__impl_RootAdd_1 : Con := ⟨[.r (.val (.sl false 31 y7)), .r (.fn 44 .nil)], .one (.int .i64), fun x => F.slices_IndexFunc_Entry__impl_RootAdd_1 x.1 x.2.1⟩
def L.slices_IndexFunc_Entry__impl_RootAdd_1 : Loops := lookL [(2, ⟨[.pat 0 (.val (.sl false 31 y7)), .pat 1 (.fn 44 .nil), .pat 7 (.val (.int .i64)), .pat 8 (.val (.int .i64))], 0⟩)]
def K.slices_IndexFunc_Entry__impl_RootAdd_1 : Cons := lookK [(44, [], C.impl_RootAdd_1)]
theorem run.slices_IndexFunc_Entry__impl_RootAdd_1 : Rn K.slices_IndexFunc_Entry__impl_RootAdd_1 L.slices_IndexFunc_Entry__impl_RootAdd_1 [] Tryz.f47 C.slices_IndexFunc_Entry__impl_RootAdd_1 := fun x => by kernel_rfl

/-! ### slices.ContainsFunc[[]impl.Entry,impl.Entry]: function 43 -/
def F.slices_ContainsFunc_Entry__impl_RootAdd_1 (a0 : List DEntry) (a1 : Unit) : Option Bool :=
 (F.slices_IndexFunc_Entry__impl_RootAdd_1 a0 ()).bind fun r1 =>
 some (decide (r1 >= 0))
def C.slices_ContainsFunc_Entry__impl_RootAdd_1 : Con := ⟨[.r (.val (.sl false 31 y7)), .r (.fn 44 .nil)], .one .bool, fun x => F.slices_ContainsFunc_Entry__impl_RootAdd_1 x.1 x.2.1⟩
def K.slices_ContainsFunc_Entry__impl_RootAdd_1 : Cons := lookK [(47, [44], C.slices_IndexFunc_Entry__impl_RootAdd_1)]
theorem run.slices_ContainsFunc_Entry__impl_RootAdd_1 : Rn K.slices_ContainsFunc_Entry__impl_RootAdd_1 L0 [] Tryz.f43 C.slices_ContainsFunc_Entry__impl_RootAdd_1 := fun x => by kernel_rfl

/-! ### impl.placeOf$1: function 126 -/
def F.impl_placeOf_1 (a0 : DEntry) (a1 : Int) (a2 : Int) : Option Bool :=
 bif a0.1 == a1 then
  some (a0.2.1 == a2)
 else
  some false
def C.impl_placeOf_1 : Con := ⟨[.r (.val y7), .r (.sptr (.int .i64)), .r (.sptr (.int .i64))], .one .bool, fun x => F.impl_placeOf_1 x.1 x.2.1 x.2.2.1⟩
def K.impl_placeOf_1 : Cons := lookK []
theorem run.impl_placeOf_1 : Rn K.impl_placeOf_1 L0 [] Tryz.f126 C.impl_placeOf_1 := fun x => by kernel_rfl

/-! ### slices.IndexFunc[[]impl.Entry,impl.Entry]: function 47 -/
def F.slices_IndexFunc_Entry__impl_placeOf_1.s2 : Stp ((List DEntry) × (Int × Int × Unit) × Int × Int × Unit) Int := fun (x1, x2, x3, x4, _) =>
 bif decide (x4 < x3) then
  chk (inb x4 x1.length) <|
  (F.impl_placeOf_1 (x1.getD x4.toNat (0, 0, [], (0, 0, 0, 0, [], [], [], ()), ())) x2.1 x2.2.1).bind fun r5 =>
  bif r5 then
   some (.ret x4)
  else
   some (.again (x1, (x2.1, x2.2.1, ()), x3, w64 (x4 + 1), ()))
 else
  some (.exit (x1, (x2.1, x2.2.1, ()), x3, x4, ()))
def F.slices_IndexFunc_Entry__impl_placeOf_1 (a0 : List DEntry) (a1 : Int × Int × Unit) : Option Int :=
 afterO (loopO F.slices_IndexFunc_Entry__impl_placeOf_1.s2 (a0, (a1.1, a1.2.1, ()), len a0, 0, ())) fun (x6, x7, x8, x9, _) =>
 some (-1)
def C.slices_IndexFunc_Entry__impl_placeOf_1 : Con := ⟨[.r (.val (.sl false 31 y7)), .r (.fn 126 (.cons (.sptr (.int .i64)) (.cons (.sptr (.int .i64)) .nil)))], .one (.int .i64), fun x => F.slices_IndexFunc_Entry__impl_placeOf_1 x.1 x.2.1⟩
def L.slices_IndexFunc_Entry__impl_placeOf_1 : Loops := lookL [(2, ⟨[.pat 0 (.val (.sl false 31 y7)), .pat 1 (.fn 126 (.cons (.sptr (.int .i64)) (.cons (.sptr (.int .i64)) .nil))), .pat 7 (.val (.int .i64)), .pat 8 (.val (.int .i64))], 0⟩)]
def K.slices_IndexFunc_Entry__impl_placeOf_1 : Cons := lookK [(126, [], C.impl_placeOf_1)]
theorem run.slices_IndexFunc_Entry__impl_placeOf_1 : Rn K.slices_IndexFunc_Entry__impl_placeOf_1 L.slices_IndexFunc_Entry__impl_placeOf_1 [] Tryz.f47 C.slices_IndexFunc_Entry__impl_placeOf_1 := fun x => by kernel_rfl

/-! ### impl.placeOf: function 45 -/
def F.impl_placeOf (a0 : List DEntry) (a1 : Int) (a2 : Int) : Option Int :=
 (F.slices_IndexFunc_Entry__impl_placeOf_1 a0 (a1, a2, ())).bind fun r1 =>
 some r1
def C.impl_placeOf : Con := ⟨[.r (.val (.sl false 31 y7)), .r (.val (.int .i64)), .r (.val (.int .i64))], .one (.int .i64), fun x => F.impl_placeOf x.1 x.2.1 x.2.2.1⟩
def K.impl_placeOf : Cons := lookK [(47, [126], C.slices_IndexFunc_Entry__impl_placeOf_1)]
theorem run.impl_placeOf : Rn K.impl_placeOf L0 [] Tryz.f45 C.impl_placeOf := fun x => by kernel_rfl

/-! ### impl.SetApart: function 127 -/
def F.impl_SetApart.s7 : Stp ((List DSpan) × (List DSpan) × Int × Int × (List DSpan) × Int × Int × DSpan × Unit) (Lp ((List DSpan) × (List DSpan) × Int × Int × Unit) Bool) := fun (x7, x8, x9, x10, x11, x12, x13, x14, _) =>
 bif decide (x13 < x12) then
  chk (inb x13 x11.length) <|
  bif decide (x14.1 <= (((x11.getD x13.toNat (0, 0, ())).2).1)) then
   bif decide (((x11.getD x13.toNat (0, 0, ())).1) <= x14.2.1) then
    some (.ret (.ret false))
   else
    some (.again (x7, x8, x9, x10, x11, x12, w64 (x13 + 1), x14, ()))
  else
   some (.again (x7, x8, x9, x10, x11, x12, w64 (x13 + 1), x14, ()))
 else
  some (.exit (x7, x8, x9, x10, x11, x12, x13, x14, ()))
def F.impl_SetApart.s4 : Stp ((List DSpan) × (List DSpan) × Int × Int × Unit) Bool := fun (x3, x4, x5, x6, _) =>
 bif decide (x6 < x5) then
  chk (inb x6 x4.length) <|
  afterO (loopO F.impl_SetApart.s7 (x3, x4, x5, x6, x3, len x3, 0, x4.getD x6.toNat (0, 0, ()), ())) fun (x15, x16, x17, x18, x19, x20, x21, x22, _) =>
  some (.again (x15, x16, x17, w64 (x18 + 1), ()))
 else
  some (.exit (x3, x4, x5, x6, ()))
def F.impl_SetApart (a0 : List DSpan) (a1 : List DSpan) : Option Bool :=
 (F.impl_SetOk a0).bind fun r1 =>
 bif !r1 then
  some false
 else
 (F.impl_SetOk a1).bind fun r2 =>
 bif !r2 then
  some false
 else
 afterO (loopO F.impl_SetApart.s4 (a1, a0, len a0, 0, ())) fun (x23, x24, x25, x26, _) =>
 some true
def C.impl_SetApart : Con := ⟨[.r (.val (.sl false 180 y5)), .r (.val (.sl false 180 y5))], .one .bool, fun x => F.impl_SetApart x.1 x.2.1⟩
def L.impl_SetApart : Loops := lookL [(7, ⟨[.pat 1 (.val (.sl false 180 y5)), .pat 17 (.val (.sl false 180 y5)), .pat 18 (.val (.int .i64)), .pat 19 (.val (.int .i64)), .pat 23 (.val (.sl false 180 y5)), .pat 24 (.val (.int .i64)), .pat 25 (.val (.int .i64)), .root 6 true y5 [6]], 2⟩), (4, ⟨[.pat 1 (.val (.sl false 180 y5)), .pat 17 (.val (.sl false 180 y5)), .pat 18 (.val (.int .i64)), .pat 19 (.val (.int .i64))], 0⟩)]
def K.impl_SetApart : Cons := lookK [(124, [], C.impl_SetOk)]
theorem run.impl_SetApart : Rn K.impl_SetApart L.impl_SetApart [] Tryz.f127 C.impl_SetApart := fun x => by kernel_rfl

/-! ### slices.SortFunc[[]impl.Span,impl.Span]: function 259: by its contract -/
def F.slices_SortFunc_Span__impl_union_1 (a0 : List DSpan) (a1 : Unit) : Option (List DSpan) :=
 chk (decide (a0.length <= 4000000000000)) <|
 some (sortS a0)
def C.slices_SortFunc_Span__impl_union_1 : Con := ⟨[.c (.sl true 180 y5), .r (.fn 260 .nil)], .many [], fun x => F.slices_SortFunc_Span__impl_union_1 x.1 x.2.1⟩
-- EXT slices_SortFunc_Span__impl_union_1 259 sort 180 260

/-! ### impl.union: function 186 -/
def F.impl_union.s5 : Stp ((List DSpan) × (List DSpan) × Int × Int × Unit) (List DSpan) := fun (x3, x4, x5, x6, _) =>
 bif decide (x6 < x5) then
  chk (inb x6 x4.length) <|
  bif decide ((len x3) > 0) then
   chk (inb (w64 ((len x3) - 1)) x3.length) <|
   bif decide (((x4.getD x6.toNat (0, 0, ())).1) <= (w64 ((((x3.getD (Int.toNat (w64 ((len x3) - 1))) (0, 0, ())).2).1) + 1))) then
    chk (inb (w64 ((len x3) - 1)) x3.length) <|
    chk (inb (w64 ((len x3) - 1)) x3.length) <|
    (some (List.set x3 (Int.toNat (w64 ((len x3) - 1))) ((x3.getD (Int.toNat (w64 ((len x3) - 1))) (0, 0, ())).1, mxI (((x3.getD (Int.toNat (w64 ((len x3) - 1))) (0, 0, ())).2).1) (((x4.getD x6.toNat (0, 0, ())).2).1), ((x3.getD (Int.toNat (w64 ((len x3) - 1))) (0, 0, ())).2).2))).bind fun r7 =>
    some (.again (r7, x4, x5, w64 (x6 + 1), ()))
   else
   chk (fits (List.length x3 + List.length ([x4.getD x6.toNat (0, 0, ())])) 16) <|
   some (.again (x3 ++ ([x4.getD x6.toNat (0, 0, ())]), x4, x5, w64 (x6 + 1), ()))
  else
  chk (fits (List.length x3 + List.length ([x4.getD x6.toNat (0, 0, ())])) 16) <|
  some (.again (x3 ++ ([x4.getD x6.toNat (0, 0, ())]), x4, x5, w64 (x6 + 1), ()))
 else
  some (.exit (x3, x4, x5, x6, ()))
def F.impl_union (a0 : List DSpan) : Option (List DSpan) :=
 (F.impl_copySet a0).bind fun r1 =>
 (F.slices_SortFunc_Span__impl_union_1 r1 ()).bind fun r2 =>
 afterO (loopO F.impl_union.s5 (([] : List DSpan), r2, len r2, 0, ())) fun (x8, x9, x10, x11, _) =>
 some x8
def C.impl_union : Con := ⟨[.r (.val (.sl false 180 y5))], .one (.sl true 180 y5), fun x => F.impl_union x.1⟩
def L.impl_union : Loops := lookL [(5, ⟨[.own 4 (.sl true 180 y5), .own 12 (.sl true 180 y5), .pat 13 (.val (.int .i64)), .pat 14 (.val (.int .i64))], 0⟩)]
def K.impl_union : Cons := lookK [(132, [], C.impl_copySet), (259, [260], C.slices_SortFunc_Span__impl_union_1)]
theorem run.impl_union : Rn K.impl_union L.impl_union [] Tryz.f186 C.impl_union := fun x => by kernel_rfl

/-! ### impl.SetJoin: function 128 -/
def F.impl_SetJoin (a0 : List DSpan) (a1 : List DSpan) : Option ((List DSpan) × Bool) :=
 (F.impl_SetOk a0).bind fun r1 =>
 bif !r1 then
  some (([] : List DSpan), false)
 else
 (F.impl_SetOk a1).bind fun r2 =>
 bif !r2 then
  some (([] : List DSpan), false)
 else
 (F.impl_copySet a0).bind fun r3 =>
 chk (fits (List.length r3 + List.length a1) 16) <|
 (F.impl_union (r3 ++ a1)).bind fun r4 =>
 some (r4, true)
def C.impl_SetJoin : Con := ⟨[.r (.val (.sl false 180 y5)), .r (.val (.sl false 180 y5))], .many [(.sl true 180 y5), .bool], fun x => F.impl_SetJoin x.1 x.2.1⟩
def K.impl_SetJoin : Cons := lookK [(124, [], C.impl_SetOk), (132, [], C.impl_copySet), (186, [], C.impl_union)]
theorem run.impl_SetJoin : Rn K.impl_SetJoin L0 [] Tryz.f128 C.impl_SetJoin := fun x => by kernel_rfl

/-! ### impl.limited: function 280 -/
def F.impl_limited (a0 : Int) (a1 : Int) (a2 : Int) : Option Int :=
 some (mnI (mxI a0 a1) a2)
def C.impl_limited : Con := ⟨[.r (.val (.int .i64)), .r (.val (.int .i64)), .r (.val (.int .i64))], .one (.int .i64), fun x => F.impl_limited x.1 x.2.1 x.2.2.1⟩
def K.impl_limited : Cons := lookK []
theorem run.impl_limited : Rn K.impl_limited L0 [] Tryz.f280 C.impl_limited := fun x => by kernel_rfl

/-! ### impl.Add: function 236 -/
def F.impl_Add (a0 : Int) (a1 : Int) : Option Int :=
 (F.impl_limited a0 0 1000000000).bind fun r1 =>
 (F.impl_limited a1 0 1000000000).bind fun r2 =>
 some (mnI (w64 (r1 + r2)) 1000000000)
def C.impl_Add : Con := ⟨[.r (.val (.int .i64)), .r (.val (.int .i64))], .one (.int .i64), fun x => F.impl_Add x.1 x.2.1⟩
def K.impl_Add : Cons := lookK [(280, [], C.impl_limited)]
theorem run.impl_Add : Rn K.impl_Add L0 [] Tryz.f236 C.impl_Add := fun x => by kernel_rfl

/-! ### impl.Merge: function 129 -/
def F.impl_Merge.s10 : Stp ((List Int) × Int × Int × DSketch × DSketch × DSketch × Unit) (DSketch × Bool) := fun (x6, x7, x8, x9, x10, x11, _) =>
 bif decide (x8 < x7) then
  chk (inb x8 x6.length) <|
  chk (inb x8 x11.2.2.2.2.1.length) <|
  (F.impl_Add (x11.2.2.2.2.1.getD x8.toNat 0) (x6.getD x8.toNat 0)).bind fun r12 =>
  chk (inb x8 x11.2.2.2.2.1.length) <|
  some (.again (x6, x7, w64 (x8 + 1), x9, x10, (x11.1, x11.2.1, x11.2.2.1, x11.2.2.2.1, List.set x11.2.2.2.2.1 x8.toNat r12, x11.2.2.2.2.2), ()))
 else
  some (.exit (x6, x7, x8, x9, x10, x11, ()))
def F.impl_Merge.s15 : Stp ((List Int) × Int × Int × DSketch × DSketch × DSketch × Unit) (DSketch × Bool) := fun (x19, x20, x21, x22, x23, x24, _) =>
 bif decide (x21 < x20) then
  chk (inb x21 x19.length) <|
  chk (inb x21 x24.2.2.2.2.2.1.length) <|
  chk (inb x21 x24.2.2.2.2.2.1.length) <|
  (some (List.set x24.2.2.2.2.2.1 x21.toNat (mxI (x24.2.2.2.2.2.1.getD x21.toNat 0) (x19.getD x21.toNat 0)))).bind fun r25 =>
  some (.again (x19, x20, w64 (x21 + 1), x22, x23, (x24.1, x24.2.1, x24.2.2.1, x24.2.2.2.1, x24.2.2.2.2.1, r25, x24.2.2.2.2.2.2), ()))
 else
  some (.exit (x19, x20, x21, x22, x23, x24, ()))
def F.impl_Merge.s23 : Stp (Int × (List (List Int)) × Int × Int × (List Int) × Int × Int × DSketch × DSketch × Unit) (Lp ((List (List Int)) × Int × Int × DSketch × DSketch × Unit) (DSketch × Bool)) := fun (x37, x38, x39, x40, x41, x42, x43, x44, x45, _) =>
 bif decide (x43 < x42) then
  chk (inb x43 x41.length) <|
  chk (inb x37 x45.2.2.2.2.2.2.1.length) <|
  chk (inb x37 x45.2.2.2.2.2.2.1.length) <|
  chk (inb x43 (List.length (x45.2.2.2.2.2.2.1.getD x37.toNat ([])))) <|
  (F.impl_Add (List.getD (x45.2.2.2.2.2.2.1.getD x37.toNat ([])) x43.toNat 0) (x41.getD x43.toNat 0)).bind fun r46 =>
  chk (inb x43 (List.length (x45.2.2.2.2.2.2.1.getD x37.toNat ([])))) <|
  (some (List.set x45.2.2.2.2.2.2.1 x37.toNat (List.set (x45.2.2.2.2.2.2.1.getD x37.toNat ([])) x43.toNat r46))).bind fun r47 =>
  some (.again (x37, x38, x39, x40, x41, x42, w64 (x43 + 1), x44, (x45.1, x45.2.1, x45.2.2.1, x45.2.2.2.1, x45.2.2.2.2.1, x45.2.2.2.2.2.1, r47, x45.2.2.2.2.2.2.2), ()))
 else
  some (.exit (x37, x38, x39, x40, x41, x42, x43, x44, x45, ()))
def F.impl_Merge.s20 : Stp ((List (List Int)) × Int × Int × DSketch × DSketch × Unit) (DSketch × Bool) := fun (x32, x33, x34, x35, x36, _) =>
 bif decide (x34 < x33) then
  chk (inb x34 x32.length) <|
  afterO (loopO F.impl_Merge.s23 (x34, x32, x33, x34, x32.getD x34.toNat ([]), len (x32.getD x34.toNat ([])), 0, x35, x36, ())) fun (x48, x49, x50, x51, x52, x53, x54, x55, x56, _) =>
  some (.again (x49, x50, w64 (x51 + 1), x55, x56, ()))
 else
  some (.exit (x32, x33, x34, x35, x36, ()))
def F.impl_Merge (a0 : DSketch) (a1 : DSketch) : Option (DSketch × Bool) :=
 (F.impl_SketchOk a0).bind fun r1 =>
 bif !r1 then
  some ((0, 0, 0, 0, ([] : List Int), ([] : List Int), ([] : List (List Int)), ()), false)
 else
 (F.impl_SketchOk a1).bind fun r2 =>
 bif !r2 then
  some ((0, 0, 0, 0, ([] : List Int), ([] : List Int), ([] : List (List Int)), ()), false)
 else
 (F.impl_copySketch a0).bind fun r3 =>
 bif a0.1 == 0 then
  (F.impl_Add a0.1 a1.1).bind fun r4 =>
  (F.impl_Add a0.2.1 a1.2.1).bind fun r5 =>
  afterO (loopO F.impl_Merge.s10 (a1.2.2.2.2.1, len a1.2.2.2.2.1, 0, a1, (0, 0, 0, 0, ([] : List Int), ([] : List Int), ([] : List (List Int)), ()), (r4, r5, a1.2.2.1, mxI a0.2.2.2.1 a1.2.2.2.1, r3.2.2.2.2), ())) fun (x13, x14, x15, x16, x17, x18, _) =>
  afterO (loopO F.impl_Merge.s15 (x16.2.2.2.2.2.1, len x16.2.2.2.2.2.1, 0, x16, x17, x18, ())) fun (x26, x27, x28, x29, x30, x31, _) =>
  afterO (loopO F.impl_Merge.s20 (x29.2.2.2.2.2.2.1, len x29.2.2.2.2.2.2.1, 0, x30, x31, ())) fun (x57, x58, x59, x60, x61, _) =>
  some (x61, true)
 else
 bif decide (a1.1 > 0) then
  bif decide (a1.2.2.1 < a0.2.2.1) then
   (F.impl_Add a0.1 a1.1).bind fun r62 =>
   (F.impl_Add a0.2.1 a1.2.1).bind fun r63 =>
   afterO (loopO F.impl_Merge.s10 (a1.2.2.2.2.1, len a1.2.2.2.2.1, 0, a1, (0, 0, 0, 0, ([] : List Int), ([] : List Int), ([] : List (List Int)), ()), (r62, r63, a1.2.2.1, mxI a0.2.2.2.1 a1.2.2.2.1, r3.2.2.2.2), ())) fun (x71, x72, x73, x74, x75, x76, _) =>
   afterO (loopO F.impl_Merge.s15 (x74.2.2.2.2.2.1, len x74.2.2.2.2.2.1, 0, x74, x75, x76, ())) fun (x84, x85, x86, x87, x88, x89, _) =>
   afterO (loopO F.impl_Merge.s20 (x87.2.2.2.2.2.2.1, len x87.2.2.2.2.2.2.1, 0, x88, x89, ())) fun (x115, x116, x117, x118, x119, _) =>
   some (x119, true)
  else
  (F.impl_Add a0.1 a1.1).bind fun r120 =>
  (F.impl_Add a0.2.1 a1.2.1).bind fun r121 =>
  afterO (loopO F.impl_Merge.s10 (a1.2.2.2.2.1, len a1.2.2.2.2.1, 0, a1, (0, 0, 0, 0, ([] : List Int), ([] : List Int), ([] : List (List Int)), ()), (r120, r121, r3.2.2.1, mxI a0.2.2.2.1 a1.2.2.2.1, r3.2.2.2.2), ())) fun (x129, x130, x131, x132, x133, x134, _) =>
  afterO (loopO F.impl_Merge.s15 (x132.2.2.2.2.2.1, len x132.2.2.2.2.2.1, 0, x132, x133, x134, ())) fun (x142, x143, x144, x145, x146, x147, _) =>
  afterO (loopO F.impl_Merge.s20 (x145.2.2.2.2.2.2.1, len x145.2.2.2.2.2.2.1, 0, x146, x147, ())) fun (x173, x174, x175, x176, x177, _) =>
  some (x177, true)
 else
 (F.impl_Add a0.1 a1.1).bind fun r178 =>
 (F.impl_Add a0.2.1 a1.2.1).bind fun r179 =>
 afterO (loopO F.impl_Merge.s10 (a1.2.2.2.2.1, len a1.2.2.2.2.1, 0, a1, (0, 0, 0, 0, ([] : List Int), ([] : List Int), ([] : List (List Int)), ()), (r178, r179, r3.2.2.1, mxI a0.2.2.2.1 a1.2.2.2.1, r3.2.2.2.2), ())) fun (x187, x188, x189, x190, x191, x192, _) =>
 afterO (loopO F.impl_Merge.s15 (x190.2.2.2.2.2.1, len x190.2.2.2.2.2.1, 0, x190, x191, x192, ())) fun (x200, x201, x202, x203, x204, x205, _) =>
 afterO (loopO F.impl_Merge.s20 (x203.2.2.2.2.2.2.1, len x203.2.2.2.2.2.2.1, 0, x204, x205, ())) fun (x231, x232, x233, x234, x235, _) =>
 some (x235, true)
def C.impl_Merge : Con := ⟨[.r (.val y2), .r (.val y2)], .many [y1, .bool], fun x => F.impl_Merge x.1 x.2.1⟩
def L.impl_Merge : Loops := lookL [(10, ⟨[.pat 63 (.val (.sl false 3 (.int .i64))), .pat 64 (.val (.int .i64)), .pat 65 (.val (.int .i64)), .root 3 true y2 [3], .root 4 true y1 [4], .root 6 true y1 [6]], 0⟩), (15, ⟨[.pat 83 (.val (.sl false 3 (.int .i64))), .pat 84 (.val (.int .i64)), .pat 85 (.val (.int .i64)), .root 3 true y2 [3], .root 4 true y1 [4], .root 6 true y1 [6]], 2⟩), (23, ⟨[.pat 11 (.val (.int .i64)), .pat 103 (.val (.sl false 26 (.sl false 3 (.int .i64)))), .pat 104 (.val (.int .i64)), .pat 105 (.val (.int .i64)), .pat 110 (.val (.sl false 3 (.int .i64))), .pat 111 (.val (.int .i64)), .pat 112 (.val (.int .i64)), .root 4 true y1 [4], .root 6 true y1 [6]], 6⟩), (20, ⟨[.pat 103 (.val (.sl false 26 (.sl false 3 (.int .i64)))), .pat 104 (.val (.int .i64)), .pat 105 (.val (.int .i64)), .root 4 true y1 [4], .root 6 true y1 [6]], 4⟩)]
def K.impl_Merge : Cons := lookK [(125, [], C.impl_SketchOk), (133, [], C.impl_copySketch), (236, [], C.impl_Add)]
theorem run.impl_Merge : Rn K.impl_Merge L.impl_Merge [] Tryz.f129 C.impl_Merge := fun x => by kernel_rfl

/-! ### impl.EntryAdd: function 46 -/
def F.impl_EntryAdd (a0 : DEntry) (a1 : DEntry) : Option (DEntry × Bool) :=
 (F.impl_EntryOk a0).bind fun r1 =>
 bif !r1 then
  some ((0, 0, ([] : List DSpan), (0, 0, 0, 0, ([] : List Int), ([] : List Int), ([] : List (List Int)), ()), ()), false)
 else
 (F.impl_EntryOk a1).bind fun r2 =>
 bif !r2 then
  some ((0, 0, ([] : List DSpan), (0, 0, 0, 0, ([] : List Int), ([] : List Int), ([] : List (List Int)), ()), ()), false)
 else
 bif a0.1 != a1.1 then
  some ((0, 0, ([] : List DSpan), (0, 0, 0, 0, ([] : List Int), ([] : List Int), ([] : List (List Int)), ()), ()), false)
 else
 bif a0.2.1 != a1.2.1 then
  some ((0, 0, ([] : List DSpan), (0, 0, 0, 0, ([] : List Int), ([] : List Int), ([] : List (List Int)), ()), ()), false)
 else
 (F.impl_SetApart a0.2.2.1 a1.2.2.1).bind fun r3 =>
 bif !r3 then
  some ((0, 0, ([] : List DSpan), (0, 0, 0, 0, ([] : List Int), ([] : List Int), ([] : List (List Int)), ()), ()), false)
 else
 (F.impl_SetJoin a0.2.2.1 a1.2.2.1).bind fun r4 =>
 (F.impl_Merge a0.2.2.2.1 a1.2.2.2.1).bind fun r5 =>
 some ((a0.1, a0.2.1, r4.1, r5.1, ()), true)
def C.impl_EntryAdd : Con := ⟨[.r (.val y7), .r (.val y7)], .many [y6, .bool], fun x => F.impl_EntryAdd x.1 x.2.1⟩
def K.impl_EntryAdd : Cons := lookK [(42, [], C.impl_EntryOk), (127, [], C.impl_SetApart), (128, [], C.impl_SetJoin), (129, [], C.impl_Merge)]
theorem run.impl_EntryAdd : Rn K.impl_EntryAdd L0 [] Tryz.f46 C.impl_EntryAdd := fun x => by kernel_rfl

/-! ### impl.ahead: function 49 -/
def F.impl_ahead (a0 : DEntry) (a1 : DEntry) : Option Bool :=
 bif decide (a0.1 < a1.1) then
  some true
 else
 bif a0.1 == a1.1 then
  some (decide (a0.2.1 < a1.2.1))
 else
  some false
def C.impl_ahead : Con := ⟨[.r (.val y7), .r (.val y7)], .one .bool, fun x => F.impl_ahead x.1 x.2.1⟩
def K.impl_ahead : Cons := lookK []
theorem run.impl_ahead : Rn K.impl_ahead L0 [] Tryz.f49 C.impl_ahead := fun x => by kernel_rfl

/-! ### impl.RootAdd$2: function 48 -/
def F.impl_RootAdd_2 (a0 : DEntry) (a1 : DEntry) : Option Bool :=
 (F.impl_ahead a1 a0).bind fun r1 =>
 some r1
def C.impl_RootAdd_2 : Con := ⟨[.r (.val y7), .r (.sptr y7)], .one .bool, fun x => F.impl_RootAdd_2 x.1 x.2.1⟩
def K.impl_RootAdd_2 : Cons := lookK [(49, [], C.impl_ahead)]
theorem run.impl_RootAdd_2 : Rn K.impl_RootAdd_2 L0 [] Tryz.f48 C.impl_RootAdd_2 := fun x => by kernel_rfl

/-! ### slices.IndexFunc[[]impl.Entry,impl.Entry]: function 47 -/
def F.slices_IndexFunc_Entry__impl_RootAdd_2.s2 : Stp ((List DEntry) × (DEntry × Unit) × Int × Int × Unit) Int := fun (x1, x2, x3, x4, _) =>
 bif decide (x4 < x3) then
  chk (inb x4 x1.length) <|
  (F.impl_RootAdd_2 (x1.getD x4.toNat (0, 0, [], (0, 0, 0, 0, [], [], [], ()), ())) x2.1).bind fun r5 =>
  bif r5 then
   some (.ret x4)
  else
   some (.again (x1, (x2.1, ()), x3, w64 (x4 + 1), ()))
 else
  some (.exit (x1, (x2.1, ()), x3, x4, ()))
def F.slices_IndexFunc_Entry__impl_RootAdd_2 (a0 : List DEntry) (a1 : DEntry × Unit) : Option Int :=
 afterO (loopO F.slices_IndexFunc_Entry__impl_RootAdd_2.s2 (a0, (a1.1, ()), len a0, 0, ())) fun (x6, x7, x8, x9, _) =>
 some (-1)
def C.slices_IndexFunc_Entry__impl_RootAdd_2 : Con := ⟨[.r (.val (.sl false 31 y7)), .r (.fn 48 (.cons (.sptr y7) .nil))], .one (.int .i64), fun x => F.slices_IndexFunc_Entry__impl_RootAdd_2 x.1 x.2.1⟩
def L.slices_IndexFunc_Entry__impl_RootAdd_2 : Loops := lookL [(2, ⟨[.pat 0 (.val (.sl false 31 y7)), .pat 1 (.fn 48 (.cons (.sptr y7) .nil)), .pat 7 (.val (.int .i64)), .pat 8 (.val (.int .i64))], 0⟩)]
def K.slices_IndexFunc_Entry__impl_RootAdd_2 : Cons := lookK [(48, [], C.impl_RootAdd_2)]
theorem run.slices_IndexFunc_Entry__impl_RootAdd_2 : Rn K.slices_IndexFunc_Entry__impl_RootAdd_2 L.slices_IndexFunc_Entry__impl_RootAdd_2 [] Tryz.f47 C.slices_IndexFunc_Entry__impl_RootAdd_2 := fun x => by kernel_rfl

/-! ### slices.Insert[[]impl.Entry,impl.Entry]: function 50: by its contract -/
def F.slices_Insert_Entry (a0 : List DEntry) (a1 : Int) (a2 : List DEntry) : Option (List DEntry) :=
 chk (decide (0 <= a1) && (decide (a1 <= (a0.length : Int)) && (Nat.beq a2.length 1 && fits (a0.length + 1) 144))) <|
 some (a0.take a1.toNat ++ (a2 ++ a0.drop a1.toNat))
def C.slices_Insert_Entry : Con := ⟨[.o (.sl true 31 y6), .r (.val (.int .i64)), .o (.sl true 31 y6)], .one (.sl true 31 y6), fun x => F.slices_Insert_Entry x.1 x.2.1 x.2.2.1⟩
-- EXT slices_Insert_Entry 50 insert 24 31

/-! ### impl.RootAdd: function 10 -/
def F.impl_RootAdd (a0 : List DEntry) (a1 : DEntry) : Option ((List DEntry) × Bool) :=
 (F.impl_copyEntries a0).bind fun r1 =>
 (F.impl_EntryOk a1).bind fun r2 =>
 bif !r2 then
  some (r1, false)
 else
 (F.slices_ContainsFunc_Entry__impl_RootAdd_1 a0 ()).bind fun r3 =>
 bif r3 then
  some (r1, false)
 else
 (F.impl_placeOf a0 a1.1 a1.2.1).bind fun r4 =>
 bif decide (r4 >= 0) then
  chk (inb r4 a0.length) <|
  (F.impl_EntryAdd (a0.getD r4.toNat (0, 0, [], (0, 0, 0, 0, [], [], [], ()), ())) a1).bind fun r5 =>
  bif r5.2 then
   chk (inb r4 r1.length) <|
   some (List.set r1 r4.toNat r5.1, r5.2)
  else
   some (r1, r5.2)
 else
 (F.slices_IndexFunc_Entry__impl_RootAdd_2 a0 (a1, ())).bind fun r6 =>
 bif decide (r6 < 0) then
  (F.impl_copyEntry a1).bind fun r7 =>
  (F.slices_Insert_Entry r1 (len r1) ([r7])).bind fun r8 =>
  some (r8, true)
 else
 (F.impl_copyEntry a1).bind fun r9 =>
 (F.slices_Insert_Entry r1 r6 ([r9])).bind fun r10 =>
 some (r10, true)
def C.impl_RootAdd : Con := ⟨[.r (.val (.sl false 31 y7)), .r (.val y7)], .many [(.sl true 31 y6), .bool], fun x => F.impl_RootAdd x.1 x.2.1⟩
def K.impl_RootAdd : Cons := lookK [(41, [], C.impl_copyEntries), (42, [], C.impl_EntryOk), (43, [44], C.slices_ContainsFunc_Entry__impl_RootAdd_1), (45, [], C.impl_placeOf), (46, [], C.impl_EntryAdd), (47, [48], C.slices_IndexFunc_Entry__impl_RootAdd_2), (50, [], C.slices_Insert_Entry), (51, [], C.impl_copyEntry)]
theorem run.impl_RootAdd : Rn K.impl_RootAdd L0 [] Tryz.f10 C.impl_RootAdd := fun x => by kernel_rfl

/-! ### spec.l14Entries: function 52 -/
def F.spec_l14Entries.s3 : Stp ((List DEntry) × (List DEntry) × Int × Unit) (List DEntry) := fun (x1, x2, x3, _) =>
 bif decide (x3 < (len x1)) then
  chk (inb x3 x1.length) <|
  (F.spec_l6Copy (x1.getD x3.toNat (0, 0, [], (0, 0, 0, 0, [], [], [], ()), ()))).bind fun r4 =>
  chk (fits (List.length x2 + List.length ([r4])) 144) <|
  some (.again (x1, x2 ++ ([r4]), w64 (x3 + 1), ()))
 else
  some (.exit (x1, x2, x3, ()))
def F.spec_l14Entries (a0 : List DEntry) : Option (List DEntry) :=
 afterO (loopO F.spec_l14Entries.s3 (a0, ([] : List DEntry), 0, ())) fun (x5, x6, x7, _) =>
 some x6
def C.spec_l14Entries : Con := ⟨[.r (.val (.sl false 31 y7))], .one (.sl true 31 y7), fun x => F.spec_l14Entries x.1⟩
def L.spec_l14Entries : Loops := lookL [(3, ⟨[.pat 0 (.val (.sl false 31 y7)), .own 3 (.sl true 31 y6), .pat 4 (.val (.int .i64))], 0⟩)]
def K.spec_l14Entries : Cons := lookK [(55, [], C.spec_l6Copy)]
theorem run.spec_l14Entries : Rn K.spec_l14Entries L.spec_l14Entries [] Tryz.f52 C.spec_l14Entries := fun x => by kernel_rfl

/-! ### spec.EntryAdd: function 54 -/
def F.spec_EntryAdd (a0 : DEntry) (a1 : DEntry) : Option (DEntry × Bool) :=
 (F.spec_EntryOk a0).bind fun r1 =>
 bif !r1 then
  some ((0, 0, ([] : List DSpan), (0, 0, 0, 0, ([] : List Int), ([] : List Int), ([] : List (List Int)), ()), ()), false)
 else
 (F.spec_EntryOk a1).bind fun r2 =>
 bif !r2 then
  some ((0, 0, ([] : List DSpan), (0, 0, 0, 0, ([] : List Int), ([] : List Int), ([] : List (List Int)), ()), ()), false)
 else
 bif a0.1 != a1.1 then
  some ((0, 0, ([] : List DSpan), (0, 0, 0, 0, ([] : List Int), ([] : List Int), ([] : List (List Int)), ()), ()), false)
 else
 bif a0.2.1 != a1.2.1 then
  some ((0, 0, ([] : List DSpan), (0, 0, 0, 0, ([] : List Int), ([] : List Int), ([] : List (List Int)), ()), ()), false)
 else
 (F.spec_SetApart a0.2.2.1 a1.2.2.1).bind fun r3 =>
 bif !r3 then
  some ((0, 0, ([] : List DSpan), (0, 0, 0, 0, ([] : List Int), ([] : List Int), ([] : List (List Int)), ()), ()), false)
 else
 (F.spec_l6Add a0 a1).bind fun r4 =>
 some (r4, true)
def C.spec_EntryAdd : Con := ⟨[.r (.val y7), .r (.val y7)], .many [y6, .bool], fun x => F.spec_EntryAdd x.1 x.2.1⟩
def K.spec_EntryAdd : Cons := lookK [(53, [], C.spec_EntryOk), (137, [], C.spec_SetApart), (138, [], C.spec_l6Add)]
theorem run.spec_EntryAdd : Rn K.spec_EntryAdd L0 [] Tryz.f54 C.spec_EntryAdd := fun x => by kernel_rfl

/-! ### spec.RootAdd: function 11 -/
def F.spec_RootAdd.s6 : Stp ((List DEntry) × (List DEntry) × Int × Int × DEntry × Unit) ((List DEntry) × Bool) := fun (x3, x4, x5, x6, x7, _) =>
 bif decide (x6 >= 0) then
  chk (inb x6 x3.length) <|
  (F.spec_EntryOk (x3.getD x6.toNat (0, 0, [], (0, 0, 0, 0, [], [], [], ()), ()))).bind fun r8 =>
  bif !r8 then
   some (.ret (x4, false))
  else
  chk (inb x6 x3.length) <|
  bif ((x3.getD x6.toNat (0, 0, [], (0, 0, 0, 0, [], [], [], ()), ())).1) == x7.1 then
   chk (inb x6 x3.length) <|
   bif (((x3.getD x6.toNat (0, 0, [], (0, 0, 0, 0, [], [], [], ()), ())).2).1) == x7.2.1 then
    some (.again (x3, x4, x6, w64 (x6 - 1), x7, ()))
   else
    some (.again (x3, x4, x5, w64 (x6 - 1), x7, ()))
  else
   some (.again (x3, x4, x5, w64 (x6 - 1), x7, ()))
 else
  some (.exit (x3, x4, x5, x6, x7, ()))
def F.spec_RootAdd.s20 : Stp ((List DEntry) × (List DEntry) × Int × Int × DEntry × Unit) ((List DEntry) × Bool) := fun (x15, x16, x17, x18, x19, _) =>
 bif decide (x18 >= 0) then
  chk (inb x18 x15.length) <|
  bif decide (((x15.getD x18.toNat (0, 0, [], (0, 0, 0, 0, [], [], [], ()), ())).1) > x19.1) then
   some (.again (x15, x16, x18, w64 (x18 - 1), x19, ()))
  else
  chk (inb x18 x15.length) <|
  bif ((x15.getD x18.toNat (0, 0, [], (0, 0, 0, 0, [], [], [], ()), ())).1) == x19.1 then
   chk (inb x18 x15.length) <|
   bif decide ((((x15.getD x18.toNat (0, 0, [], (0, 0, 0, 0, [], [], [], ()), ())).2).1) > x19.2.1) then
    some (.again (x15, x16, x18, w64 (x18 - 1), x19, ()))
   else
    some (.again (x15, x16, x17, w64 (x18 - 1), x19, ()))
  else
   some (.again (x15, x16, x17, w64 (x18 - 1), x19, ()))
 else
  some (.exit (x15, x16, x17, x18, x19, ()))
def F.spec_RootAdd (a0 : List DEntry) (a1 : DEntry) : Option ((List DEntry) × Bool) :=
 (F.spec_l14Entries a0).bind fun r1 =>
 (F.spec_EntryOk a1).bind fun r2 =>
 bif !r2 then
  some (r1, false)
 else
 afterO (loopO F.spec_RootAdd.s6 (a0, r1, -1, w64 ((len a0) - 1), a1, ())) fun (x9, x10, x11, x12, x13, _) =>
 bif decide (x11 >= 0) then
  chk (inb x11 x9.length) <|
  (F.spec_EntryAdd (x9.getD x11.toNat (0, 0, [], (0, 0, 0, 0, [], [], [], ()), ())) x13).bind fun r14 =>
  bif !r14.2 then
   some (x10, false)
  else
  chk (inb x11 x10.length) <|
  some (List.set x10 x11.toNat r14.1, true)
 else
 afterO (loopO F.spec_RootAdd.s20 (x9, x10, len x9, w64 ((len x9) - 1), x13, ())) fun (x20, x21, x22, x23, x24, _) =>
 chk (cutOk 0 x22 x21.length) <|
 chk (fits (List.length ([] : List DEntry) + List.length (List.take (x22.toNat - 0) (List.drop 0 x21))) 144) <|
 (F.spec_l6Copy x24).bind fun r25 =>
 chk (fits (List.length (([] : List DEntry) ++ (List.take (x22.toNat - 0) (List.drop 0 x21))) + List.length ([r25])) 144) <|
 chk (cutOk x22 (len x21) x21.length) <|
 chk (fits (List.length ((([] : List DEntry) ++ (List.take (x22.toNat - 0) (List.drop 0 x21))) ++ ([r25])) + List.length (List.take ((Int.toNat (len x21)) - x22.toNat) (List.drop x22.toNat x21))) 144) <|
 some (((([] : List DEntry) ++ (List.take (x22.toNat - 0) (List.drop 0 x21))) ++ ([r25])) ++ (List.take ((Int.toNat (len x21)) - x22.toNat) (List.drop x22.toNat x21)), true)
def C.spec_RootAdd : Con := ⟨[.r (.val (.sl false 31 y7)), .r (.val y7)], .many [(.sl false 31 y7), .bool], fun x => F.spec_RootAdd x.1 x.2.1⟩
def L.spec_RootAdd : Loops := lookL [(6, ⟨[.pat 0 (.val (.sl false 31 y7)), .own 6 (.sl true 31 y7), .pat 7 (.val (.int .i64)), .pat 8 (.val (.int .i64)), .root 3 true y7 [3]], 0⟩), (20, ⟨[.pat 0 (.val (.sl false 31 y7)), .own 6 (.sl true 31 y7), .pat 11 (.val (.int .i64)), .pat 12 (.val (.int .i64)), .root 3 true y7 [3]], 2⟩)]
def K.spec_RootAdd : Cons := lookK [(52, [], C.spec_l14Entries), (53, [], C.spec_EntryOk), (54, [], C.spec_EntryAdd), (55, [], C.spec_l6Copy)]
theorem run.spec_RootAdd : Rn K.spec_RootAdd L.spec_RootAdd [] Tryz.f11 C.spec_RootAdd := fun x => by kernel_rfl

/-! ### laws.FnRootAdded: function 3 -/
def F.laws_FnRootAdded.s13 : Stp ((List DEntry) × (List DEntry) × Bool × Bool × Int × DEntry × Unit) Bool := fun (x6, x7, x8, x9, x10, x11, _) =>
 bif decide (x10 < (len x7)) then
  bif x9 then
   some (.again (x6, x7, x8, true, w64 (x10 + 1), x11, ()))
  else
  chk (inb x10 x7.length) <|
  bif ((x7.getD x10.toNat (0, 0, [], (0, 0, 0, 0, [], [], [], ()), ())).1) == x11.1 then
   chk (inb x10 x7.length) <|
   bif (((x7.getD x10.toNat (0, 0, [], (0, 0, 0, 0, [], [], [], ()), ())).2).1) == x11.2.1 then
    chk (inb x10 x7.length) <|
    some (.again (x6, x7, x8, decide (((((((x7.getD x10.toNat (0, 0, [], (0, 0, 0, 0, [], [], [], ()), ())).2).2).2).1).1) >= x11.2.2.2.1.1), w64 (x10 + 1), x11, ()))
   else
    some (.again (x6, x7, x8, false, w64 (x10 + 1), x11, ()))
  else
   some (.again (x6, x7, x8, false, w64 (x10 + 1), x11, ()))
 else
  some (.exit (x6, x7, x8, x9, x10, x11, ()))
def F.laws_FnRootAdded (a0 : List Int) : Option Bool :=
 (F.laws_big a0).bind fun r1 =>
 bif r1 then
  some true
 else
 (F.spec_DrawRootAdd a0).bind fun r2 =>
 (F.impl_RootAdd r2.1 r2.2).bind fun r3 =>
 (F.spec_RootAdd r2.1 r2.2).bind fun r4 =>
 bif !(r3.2 == r4.2) then
  some false
 else
 bif !r3.2 then
  some ((len r3.1) == (len r2.1))
 else
 (F.impl_RootAdd r3.1 r2.2).bind fun r5 =>
 afterO (loopO F.laws_FnRootAdded.s13 (r2.1, r3.1, r5.2, false, 0, r2.2, ())) fun (x12, x13, x14, x15, x16, x17, _) =>
 bif !x14 then
  bif x15 then
   bif decide ((len x13) <= (w64 ((len x12) + 1))) then
    some (decide ((len x13) >= (len x12)))
   else
    some false
  else
   some false
 else
  some false
def C.laws_FnRootAdded : Con := ⟨[.r (.val (.sl false 5 (.int .u8)))], .one .bool, fun x => F.laws_FnRootAdded x.1⟩
def L.laws_FnRootAdded : Loops := lookL [(13, ⟨[.pat 3 (.val (.sl false 31 y7)), .own 5 (.sl true 31 y6), .pat 10 (.val .bool), .pat 11 (.val .bool), .pat 12 (.val (.int .i64)), .root 4 true y7 [4]], 0⟩)]
def K.laws_FnRootAdded : Cons := lookK [(8, [], C.laws_big), (9, [], C.spec_DrawRootAdd), (10, [], C.impl_RootAdd), (11, [], C.spec_RootAdd)]
theorem run.laws_FnRootAdded : Rn K.laws_FnRootAdded L.laws_FnRootAdded [] Tryz.f3 C.laws_FnRootAdded := fun x => by kernel_rfl

/-! ### laws.szSpanS: function 56 -/
def F.laws_szSpanS (a0 : List DSpan) (a1 : Int) : Option Int :=
 bif decide ((w64 (a1 - (len a0))) < 0) then
  some (-1)
 else
  some (w64 (a1 - (len a0)))
def C.laws_szSpanS : Con := ⟨[.r (.val (.sl false 182 y5)), .r (.val (.int .i64))], .one (.int .i64), fun x => F.laws_szSpanS x.1 x.2.1⟩
def K.laws_szSpanS : Cons := lookK []
theorem run.laws_szSpanS : Rn K.laws_szSpanS L0 [] Tryz.f56 C.laws_szSpanS := fun x => by kernel_rfl

/-! ### laws.szIntS: function 141 -/
def F.laws_szIntS (a0 : List Int) (a1 : Int) : Option Int :=
 bif decide ((w64 (a1 - (len a0))) < 0) then
  some (-1)
 else
  some (w64 (a1 - (len a0)))
def C.laws_szIntS : Con := ⟨[.r (.val (.sl false 3 (.int .i64))), .r (.val (.int .i64))], .one (.int .i64), fun x => F.laws_szIntS x.1 x.2.1⟩
def K.laws_szIntS : Cons := lookK []
theorem run.laws_szIntS : Rn K.laws_szIntS L0 [] Tryz.f141 C.laws_szIntS := fun x => by kernel_rfl

/-! ### laws.szIntSS: function 142 -/
def F.laws_szIntSS.s5 : Stp ((List (List Int)) × Int × Int × Unit) Int := fun (x1, x2, x3, _) =>
 bif decide (x3 < (len x1)) then
  chk (inb x3 x1.length) <|
  (F.laws_szIntS (x1.getD x3.toNat ([])) x2).bind fun r4 =>
  bif decide (r4 < 0) then
   some (.ret (-1))
  else
   some (.again (x1, r4, w64 (x3 + 1), ()))
 else
  some (.exit (x1, x2, x3, ()))
def F.laws_szIntSS (a0 : List (List Int)) (a1 : Int) : Option Int :=
 bif decide ((w64 (a1 - (len a0))) < 0) then
  some (-1)
 else
 afterO (loopO F.laws_szIntSS.s5 (a0, w64 (a1 - (len a0)), 0, ())) fun (x5, x6, x7, _) =>
 some x6
def C.laws_szIntSS : Con := ⟨[.r (.val (.sl false 26 (.sl false 3 (.int .i64)))), .r (.val (.int .i64))], .one (.int .i64), fun x => F.laws_szIntSS x.1 x.2.1⟩
def L.laws_szIntSS : Loops := lookL [(5, ⟨[.pat 0 (.val (.sl false 26 (.sl false 3 (.int .i64)))), .pat 1 (.val (.int .i64)), .pat 5 (.val (.int .i64))], 0⟩)]
def K.laws_szIntSS : Cons := lookK [(141, [], C.laws_szIntS)]
theorem run.laws_szIntSS : Rn K.laws_szIntSS L.laws_szIntSS [] Tryz.f142 C.laws_szIntSS := fun x => by kernel_rfl

/-! ### laws.szSketch: function 57 -/
def F.laws_szSketch (a0 : DSketch) (a1 : Int) : Option Int :=
 (F.laws_szIntS a0.2.2.2.2.1 a1).bind fun r1 =>
 bif decide (r1 < 0) then
  some (-1)
 else
 (F.laws_szIntS a0.2.2.2.2.2.1 r1).bind fun r2 =>
 bif decide (r2 < 0) then
  some (-1)
 else
 (F.laws_szIntSS a0.2.2.2.2.2.2.1 r2).bind fun r3 =>
 bif decide (r3 < 0) then
  some (-1)
 else
  some r3
def C.laws_szSketch : Con := ⟨[.r (.val y2), .r (.val (.int .i64))], .one (.int .i64), fun x => F.laws_szSketch x.1 x.2.1⟩
def K.laws_szSketch : Cons := lookK [(141, [], C.laws_szIntS), (142, [], C.laws_szIntSS)]
theorem run.laws_szSketch : Rn K.laws_szSketch L0 [] Tryz.f57 C.laws_szSketch := fun x => by kernel_rfl

/-! ### laws.szEntry: function 13 -/
def F.laws_szEntry (a0 : DEntry) (a1 : Int) : Option Int :=
 (F.laws_szSpanS a0.2.2.1 a1).bind fun r1 =>
 bif decide (r1 < 0) then
  some (-1)
 else
 (F.laws_szSketch a0.2.2.2.1 r1).bind fun r2 =>
 bif decide (r2 < 0) then
  some (-1)
 else
  some r2
def C.laws_szEntry : Con := ⟨[.r (.val y8), .r (.val (.int .i64))], .one (.int .i64), fun x => F.laws_szEntry x.1 x.2.1⟩
def K.laws_szEntry : Cons := lookK [(56, [], C.laws_szSpanS), (57, [], C.laws_szSketch)]
theorem run.laws_szEntry : Rn K.laws_szEntry L0 [] Tryz.f13 C.laws_szEntry := fun x => by kernel_rfl

/-! ### laws.szEntryS: function 12 -/
def F.laws_szEntryS.s5 : Stp ((List DEntry) × Int × Int × Unit) Int := fun (x1, x2, x3, _) =>
 bif decide (x3 < (len x1)) then
  chk (inb x3 x1.length) <|
  (F.laws_szEntry (x1.getD x3.toNat (0, 0, [], (0, 0, 0, 0, [], [], [], ()), ())) x2).bind fun r4 =>
  bif decide (r4 < 0) then
   some (.ret (-1))
  else
   some (.again (x1, r4, w64 (x3 + 1), ()))
 else
  some (.exit (x1, x2, x3, ()))
def F.laws_szEntryS (a0 : List DEntry) (a1 : Int) : Option Int :=
 bif decide ((w64 (a1 - (len a0))) < 0) then
  some (-1)
 else
 afterO (loopO F.laws_szEntryS.s5 (a0, w64 (a1 - (len a0)), 0, ())) fun (x5, x6, x7, _) =>
 some x6
def C.laws_szEntryS : Con := ⟨[.r (.val (.sl false 40 y8)), .r (.val (.int .i64))], .one (.int .i64), fun x => F.laws_szEntryS x.1 x.2.1⟩
def L.laws_szEntryS : Loops := lookL [(5, ⟨[.pat 0 (.val (.sl false 40 y8)), .pat 1 (.val (.int .i64)), .pat 5 (.val (.int .i64))], 0⟩)]
def K.laws_szEntryS : Cons := lookK [(13, [], C.laws_szEntry)]
theorem run.laws_szEntryS : Rn K.laws_szEntryS L.laws_szEntryS [] Tryz.f12 C.laws_szEntryS := fun x => by kernel_rfl

/-! ### laws.toSpan: function 143 -/
def F.laws_toSpan (a0 : DSpan) : Option DSpan :=
 some (a0.1, a0.2.1, ())
def C.laws_toSpan : Con := ⟨[.r (.val y5)], .one y5, fun x => F.laws_toSpan x.1⟩
def K.laws_toSpan : Cons := lookK []
theorem run.laws_toSpan : Rn K.laws_toSpan L0 [] Tryz.f143 C.laws_toSpan := fun x => by kernel_rfl

/-! ### laws.toSpanS: function 58 -/
def F.laws_toSpanS.s3 : Stp ((List DSpan) × (List DSpan) × Int × Unit) (List DSpan) := fun (x1, x2, x3, _) =>
 bif decide (x3 < (len x1)) then
  chk (inb x3 x1.length) <|
  (F.laws_toSpan (x1.getD x3.toNat (0, 0, ()))).bind fun r4 =>
  chk (inb x3 x2.length) <|
  some (.again (x1, List.set x2 x3.toNat r4, w64 (x3 + 1), ()))
 else
  some (.exit (x1, x2, x3, ()))
def F.laws_toSpanS (a0 : List DSpan) : Option (List DSpan) :=
 chk (mk 16 (len a0) (len a0)) <|
 afterO (loopO F.laws_toSpanS.s3 (a0, List.replicate (Int.toNat (len a0)) (0, 0, ()), 0, ())) fun (x5, x6, x7, _) =>
 some x6
def C.laws_toSpanS : Con := ⟨[.r (.val (.sl false 182 y5))], .one (.sl true 180 y5), fun x => F.laws_toSpanS x.1⟩
def L.laws_toSpanS : Loops := lookL [(3, ⟨[.pat 0 (.val (.sl false 182 y5)), .own 3 (.sl true 180 y5), .pat 4 (.val (.int .i64))], 0⟩)]
def K.laws_toSpanS : Cons := lookK [(143, [], C.laws_toSpan)]
theorem run.laws_toSpanS : Rn K.laws_toSpanS L.laws_toSpanS [] Tryz.f58 C.laws_toSpanS := fun x => by kernel_rfl

/-! ### laws.toIntS: function 144 -/
def F.laws_toIntS.s3 : Stp ((List Int) × (List Int) × Int × Unit) (List Int) := fun (x1, x2, x3, _) =>
 bif decide (x3 < (len x1)) then
  chk (inb x3 x1.length) <|
  chk (inb x3 x2.length) <|
  some (.again (x1, List.set x2 x3.toNat (x1.getD x3.toNat 0), w64 (x3 + 1), ()))
 else
  some (.exit (x1, x2, x3, ()))
def F.laws_toIntS (a0 : List Int) : Option (List Int) :=
 chk (mk 8 (len a0) (len a0)) <|
 afterO (loopO F.laws_toIntS.s3 (a0, List.replicate (Int.toNat (len a0)) 0, 0, ())) fun (x4, x5, x6, _) =>
 some x5
def C.laws_toIntS : Con := ⟨[.r (.val (.sl false 3 (.int .i64)))], .one (.sl true 3 (.int .i64)), fun x => F.laws_toIntS x.1⟩
def L.laws_toIntS : Loops := lookL [(3, ⟨[.pat 0 (.val (.sl false 3 (.int .i64))), .own 3 (.sl true 3 (.int .i64)), .pat 4 (.val (.int .i64))], 0⟩)]
def K.laws_toIntS : Cons := lookK []
theorem run.laws_toIntS : Rn K.laws_toIntS L.laws_toIntS [] Tryz.f144 C.laws_toIntS := fun x => by kernel_rfl

/-! ### laws.toIntSS: function 145 -/
def F.laws_toIntSS.s3 : Stp ((List (List Int)) × (List (List Int)) × Int × Unit) (List (List Int)) := fun (x1, x2, x3, _) =>
 bif decide (x3 < (len x1)) then
  chk (inb x3 x1.length) <|
  (F.laws_toIntS (x1.getD x3.toNat ([]))).bind fun r4 =>
  chk (inb x3 x2.length) <|
  some (.again (x1, List.set x2 x3.toNat r4, w64 (x3 + 1), ()))
 else
  some (.exit (x1, x2, x3, ()))
def F.laws_toIntSS (a0 : List (List Int)) : Option (List (List Int)) :=
 chk (mk 24 (len a0) (len a0)) <|
 afterO (loopO F.laws_toIntSS.s3 (a0, List.replicate (Int.toNat (len a0)) ([] : List Int), 0, ())) fun (x5, x6, x7, _) =>
 some x6
def C.laws_toIntSS : Con := ⟨[.r (.val (.sl false 26 (.sl false 3 (.int .i64))))], .one (.sl true 26 (.sl true 3 (.int .i64))), fun x => F.laws_toIntSS x.1⟩
def L.laws_toIntSS : Loops := lookL [(3, ⟨[.pat 0 (.val (.sl false 26 (.sl false 3 (.int .i64)))), .own 3 (.sl true 26 (.sl true 3 (.int .i64))), .pat 4 (.val (.int .i64))], 0⟩)]
def K.laws_toIntSS : Cons := lookK [(144, [], C.laws_toIntS)]
theorem run.laws_toIntSS : Rn K.laws_toIntSS L.laws_toIntSS [] Tryz.f145 C.laws_toIntSS := fun x => by kernel_rfl

/-! ### laws.toSketch: function 59 -/
def F.laws_toSketch (a0 : DSketch) : Option DSketch :=
 (F.laws_toIntS a0.2.2.2.2.1).bind fun r1 =>
 (F.laws_toIntS a0.2.2.2.2.2.1).bind fun r2 =>
 (F.laws_toIntSS a0.2.2.2.2.2.2.1).bind fun r3 =>
 some (a0.1, a0.2.1, a0.2.2.1, a0.2.2.2.1, r1, r2, r3, ())
def C.laws_toSketch : Con := ⟨[.r (.val y2)], .one y1, fun x => F.laws_toSketch x.1⟩
def K.laws_toSketch : Cons := lookK [(144, [], C.laws_toIntS), (145, [], C.laws_toIntSS)]
theorem run.laws_toSketch : Rn K.laws_toSketch L0 [] Tryz.f59 C.laws_toSketch := fun x => by kernel_rfl

/-! ### laws.toEntry: function 15 -/
def F.laws_toEntry (a0 : DEntry) : Option DEntry :=
 (F.laws_toSpanS a0.2.2.1).bind fun r1 =>
 (F.laws_toSketch a0.2.2.2.1).bind fun r2 =>
 some (a0.1, a0.2.1, r1, r2, ())
def C.laws_toEntry : Con := ⟨[.r (.val y8)], .one y6, fun x => F.laws_toEntry x.1⟩
def K.laws_toEntry : Cons := lookK [(58, [], C.laws_toSpanS), (59, [], C.laws_toSketch)]
theorem run.laws_toEntry : Rn K.laws_toEntry L0 [] Tryz.f15 C.laws_toEntry := fun x => by kernel_rfl

/-! ### laws.toEntryS: function 14 -/
def F.laws_toEntryS.s3 : Stp ((List DEntry) × (List DEntry) × Int × Unit) (List DEntry) := fun (x1, x2, x3, _) =>
 bif decide (x3 < (len x1)) then
  chk (inb x3 x1.length) <|
  (F.laws_toEntry (x1.getD x3.toNat (0, 0, [], (0, 0, 0, 0, [], [], [], ()), ()))).bind fun r4 =>
  chk (inb x3 x2.length) <|
  some (.again (x1, List.set x2 x3.toNat r4, w64 (x3 + 1), ()))
 else
  some (.exit (x1, x2, x3, ()))
def F.laws_toEntryS (a0 : List DEntry) : Option (List DEntry) :=
 chk (mk 144 (len a0) (len a0)) <|
 afterO (loopO F.laws_toEntryS.s3 (a0, List.replicate (Int.toNat (len a0)) (0, 0, ([] : List DSpan), (0, 0, 0, 0, ([] : List Int), ([] : List Int), ([] : List (List Int)), ()), ()), 0, ())) fun (x5, x6, x7, _) =>
 some x6
def C.laws_toEntryS : Con := ⟨[.r (.val (.sl false 40 y8))], .one (.sl true 31 y6), fun x => F.laws_toEntryS x.1⟩
def L.laws_toEntryS : Loops := lookL [(3, ⟨[.pat 0 (.val (.sl false 40 y8)), .own 3 (.sl true 31 y6), .pat 4 (.val (.int .i64))], 0⟩)]
def K.laws_toEntryS : Cons := lookK [(15, [], C.laws_toEntry)]
theorem run.laws_toEntryS : Rn K.laws_toEntryS L.laws_toEntryS [] Tryz.f14 C.laws_toEntryS := fun x => by kernel_rfl

/-! ### laws.eqSpan: function 146 -/
def F.laws_eqSpan (a0 : DSpan) (a1 : DSpan) : Option Bool :=
 bif a0.1 != a1.1 then
  some false
 else
 bif a0.2.1 != a1.2.1 then
  some false
 else
  some true
def C.laws_eqSpan : Con := ⟨[.r (.val y5), .r (.val y5)], .one .bool, fun x => F.laws_eqSpan x.1 x.2.1⟩
def K.laws_eqSpan : Cons := lookK []
theorem run.laws_eqSpan : Rn K.laws_eqSpan L0 [] Tryz.f146 C.laws_eqSpan := fun x => by kernel_rfl

/-! ### laws.eqSpanS: function 60 -/
def F.laws_eqSpanS.s4 : Stp ((List DSpan) × (List DSpan) × Int × Unit) Bool := fun (x1, x2, x3, _) =>
 bif decide (x3 < (len x1)) then
  chk (inb x3 x1.length) <|
  chk (inb x3 x2.length) <|
  (F.laws_eqSpan (x1.getD x3.toNat (0, 0, ())) (x2.getD x3.toNat (0, 0, ()))).bind fun r4 =>
  bif !r4 then
   some (.ret false)
  else
   some (.again (x1, x2, w64 (x3 + 1), ()))
 else
  some (.exit (x1, x2, x3, ()))
def F.laws_eqSpanS (a0 : List DSpan) (a1 : List DSpan) : Option Bool :=
 bif (len a0) != (len a1) then
  some false
 else
 afterO (loopO F.laws_eqSpanS.s4 (a0, a1, 0, ())) fun (x5, x6, x7, _) =>
 some true
def C.laws_eqSpanS : Con := ⟨[.r (.val (.sl false 180 y5)), .r (.val (.sl false 180 y5))], .one .bool, fun x => F.laws_eqSpanS x.1 x.2.1⟩
def L.laws_eqSpanS : Loops := lookL [(4, ⟨[.pat 0 (.val (.sl false 180 y5)), .pat 1 (.val (.sl false 180 y5)), .pat 5 (.val (.int .i64))], 0⟩)]
def K.laws_eqSpanS : Cons := lookK [(146, [], C.laws_eqSpan)]
theorem run.laws_eqSpanS : Rn K.laws_eqSpanS L.laws_eqSpanS [] Tryz.f60 C.laws_eqSpanS := fun x => by kernel_rfl

/-! ### laws.eqIntS: function 147 -/
def F.laws_eqIntS.s4 : Stp ((List Int) × (List Int) × Int × Unit) Bool := fun (x1, x2, x3, _) =>
 bif decide (x3 < (len x1)) then
  chk (inb x3 x1.length) <|
  chk (inb x3 x2.length) <|
  bif (x1.getD x3.toNat 0) != (x2.getD x3.toNat 0) then
   some (.ret false)
  else
   some (.again (x1, x2, w64 (x3 + 1), ()))
 else
  some (.exit (x1, x2, x3, ()))
def F.laws_eqIntS (a0 : List Int) (a1 : List Int) : Option Bool :=
 bif (len a0) != (len a1) then
  some false
 else
 afterO (loopO F.laws_eqIntS.s4 (a0, a1, 0, ())) fun (x4, x5, x6, _) =>
 some true
def C.laws_eqIntS : Con := ⟨[.r (.val (.sl false 3 (.int .i64))), .r (.val (.sl false 3 (.int .i64)))], .one .bool, fun x => F.laws_eqIntS x.1 x.2.1⟩
def L.laws_eqIntS : Loops := lookL [(4, ⟨[.pat 0 (.val (.sl false 3 (.int .i64))), .pat 1 (.val (.sl false 3 (.int .i64))), .pat 5 (.val (.int .i64))], 0⟩)]
def K.laws_eqIntS : Cons := lookK []
theorem run.laws_eqIntS : Rn K.laws_eqIntS L.laws_eqIntS [] Tryz.f147 C.laws_eqIntS := fun x => by kernel_rfl

/-! ### laws.eqIntSS: function 148 -/
def F.laws_eqIntSS.s4 : Stp ((List (List Int)) × (List (List Int)) × Int × Unit) Bool := fun (x1, x2, x3, _) =>
 bif decide (x3 < (len x1)) then
  chk (inb x3 x1.length) <|
  chk (inb x3 x2.length) <|
  (F.laws_eqIntS (x1.getD x3.toNat ([])) (x2.getD x3.toNat ([]))).bind fun r4 =>
  bif !r4 then
   some (.ret false)
  else
   some (.again (x1, x2, w64 (x3 + 1), ()))
 else
  some (.exit (x1, x2, x3, ()))
def F.laws_eqIntSS (a0 : List (List Int)) (a1 : List (List Int)) : Option Bool :=
 bif (len a0) != (len a1) then
  some false
 else
 afterO (loopO F.laws_eqIntSS.s4 (a0, a1, 0, ())) fun (x5, x6, x7, _) =>
 some true
def C.laws_eqIntSS : Con := ⟨[.r (.val (.sl false 26 (.sl false 3 (.int .i64)))), .r (.val (.sl false 26 (.sl false 3 (.int .i64))))], .one .bool, fun x => F.laws_eqIntSS x.1 x.2.1⟩
def L.laws_eqIntSS : Loops := lookL [(4, ⟨[.pat 0 (.val (.sl false 26 (.sl false 3 (.int .i64)))), .pat 1 (.val (.sl false 26 (.sl false 3 (.int .i64)))), .pat 5 (.val (.int .i64))], 0⟩)]
def K.laws_eqIntSS : Cons := lookK [(147, [], C.laws_eqIntS)]
theorem run.laws_eqIntSS : Rn K.laws_eqIntSS L.laws_eqIntSS [] Tryz.f148 C.laws_eqIntSS := fun x => by kernel_rfl

/-! ### laws.eqSketch: function 61 -/
def F.laws_eqSketch (a0 : DSketch) (a1 : DSketch) : Option Bool :=
 bif a0.1 != a1.1 then
  some false
 else
 bif a0.2.1 != a1.2.1 then
  some false
 else
 bif a0.2.2.1 != a1.2.2.1 then
  some false
 else
 bif a0.2.2.2.1 != a1.2.2.2.1 then
  some false
 else
 (F.laws_eqIntS a0.2.2.2.2.1 a1.2.2.2.2.1).bind fun r1 =>
 bif !r1 then
  some false
 else
 (F.laws_eqIntS a0.2.2.2.2.2.1 a1.2.2.2.2.2.1).bind fun r2 =>
 bif !r2 then
  some false
 else
 (F.laws_eqIntSS a0.2.2.2.2.2.2.1 a1.2.2.2.2.2.2.1).bind fun r3 =>
 bif !r3 then
  some false
 else
  some true
def C.laws_eqSketch : Con := ⟨[.r (.val y2), .r (.val y2)], .one .bool, fun x => F.laws_eqSketch x.1 x.2.1⟩
def K.laws_eqSketch : Cons := lookK [(147, [], C.laws_eqIntS), (148, [], C.laws_eqIntSS)]
theorem run.laws_eqSketch : Rn K.laws_eqSketch L0 [] Tryz.f61 C.laws_eqSketch := fun x => by kernel_rfl

/-! ### laws.eqEntry: function 17 -/
def F.laws_eqEntry (a0 : DEntry) (a1 : DEntry) : Option Bool :=
 bif a0.1 != a1.1 then
  some false
 else
 bif a0.2.1 != a1.2.1 then
  some false
 else
 (F.laws_eqSpanS a0.2.2.1 a1.2.2.1).bind fun r1 =>
 bif !r1 then
  some false
 else
 (F.laws_eqSketch a0.2.2.2.1 a1.2.2.2.1).bind fun r2 =>
 bif !r2 then
  some false
 else
  some true
def C.laws_eqEntry : Con := ⟨[.r (.val y7), .r (.val y7)], .one .bool, fun x => F.laws_eqEntry x.1 x.2.1⟩
def K.laws_eqEntry : Cons := lookK [(60, [], C.laws_eqSpanS), (61, [], C.laws_eqSketch)]
theorem run.laws_eqEntry : Rn K.laws_eqEntry L0 [] Tryz.f17 C.laws_eqEntry := fun x => by kernel_rfl

/-! ### laws.eqEntryS: function 16 -/
def F.laws_eqEntryS.s4 : Stp ((List DEntry) × (List DEntry) × Int × Unit) Bool := fun (x1, x2, x3, _) =>
 bif decide (x3 < (len x1)) then
  chk (inb x3 x1.length) <|
  chk (inb x3 x2.length) <|
  (F.laws_eqEntry (x1.getD x3.toNat (0, 0, [], (0, 0, 0, 0, [], [], [], ()), ())) (x2.getD x3.toNat (0, 0, [], (0, 0, 0, 0, [], [], [], ()), ()))).bind fun r4 =>
  bif !r4 then
   some (.ret false)
  else
   some (.again (x1, x2, w64 (x3 + 1), ()))
 else
  some (.exit (x1, x2, x3, ()))
def F.laws_eqEntryS (a0 : List DEntry) (a1 : List DEntry) : Option Bool :=
 bif (len a0) != (len a1) then
  some false
 else
 afterO (loopO F.laws_eqEntryS.s4 (a0, a1, 0, ())) fun (x5, x6, x7, _) =>
 some true
def C.laws_eqEntryS : Con := ⟨[.r (.val (.sl false 31 y7)), .r (.val (.sl false 31 y7))], .one .bool, fun x => F.laws_eqEntryS x.1 x.2.1⟩
def L.laws_eqEntryS : Loops := lookL [(4, ⟨[.pat 0 (.val (.sl false 31 y7)), .pat 1 (.val (.sl false 31 y7)), .pat 5 (.val (.int .i64))], 0⟩)]
def K.laws_eqEntryS : Cons := lookK [(17, [], C.laws_eqEntry)]
theorem run.laws_eqEntryS : Rn K.laws_eqEntryS L.laws_eqEntryS [] Tryz.f16 C.laws_eqEntryS := fun x => by kernel_rfl

/-! ### laws.markSpanS: function 62 -/
def F.laws_markSpanS.s2 : Stp (Int × Int × (List DSpan) × Unit) (Int × (List DSpan)) := fun (x1, x2, x3, _) =>
 bif decide (x2 < (len x3)) then
  chk (inb x2 x3.length) <|
  chk (inb x2 (List.length (List.set x3 x2.toNat (x1, (x3.getD x2.toNat (0, 0, ())).2)))) <|
  (some (List.set (List.set x3 x2.toNat (x1, (x3.getD x2.toNat (0, 0, ())).2)) x2.toNat ((List.getD (List.set x3 x2.toNat (x1, (x3.getD x2.toNat (0, 0, ())).2)) x2.toNat (0, 0, ())).1, w64 (x1 + 1), ((List.getD (List.set x3 x2.toNat (x1, (x3.getD x2.toNat (0, 0, ())).2)) x2.toNat (0, 0, ())).2).2))).bind fun r4 =>
  some (.again (w64 ((w64 (x1 + 1)) + 1), w64 (x2 + 1), r4, ()))
 else
  some (.exit (x1, x2, x3, ()))
def F.laws_markSpanS (a0 : List DSpan) (a1 : Int) : Option (Int × (List DSpan)) :=
 afterO (loopO F.laws_markSpanS.s2 (a1, 0, a0, ())) fun (x5, x6, x7, _) =>
 some (x5, x7)
def C.laws_markSpanS : Con := ⟨[.c (.sl true 180 y5), .r (.val (.int .i64))], .one (.int .i64), fun x => F.laws_markSpanS x.1 x.2.1⟩
def L.laws_markSpanS : Loops := lookL [(2, ⟨[.pat 1 (.val (.int .i64)), .pat 5 (.val (.int .i64)), .root 0 false (.sl true 180 y5) [0]], 0⟩)]
def K.laws_markSpanS : Cons := lookK []
theorem run.laws_markSpanS : Rn K.laws_markSpanS L.laws_markSpanS [0] Tryz.f62 C.laws_markSpanS := fun x => by kernel_rfl

/-! ### laws.markIntS: function 63 -/
def F.laws_markIntS.s2 : Stp (Int × Int × (List Int) × Unit) (Int × (List Int)) := fun (x1, x2, x3, _) =>
 bif decide (x2 < (len x3)) then
  chk (inb x2 x3.length) <|
  some (.again (w64 (x1 + 1), w64 (x2 + 1), List.set x3 x2.toNat x1, ()))
 else
  some (.exit (x1, x2, x3, ()))
def F.laws_markIntS (a0 : List Int) (a1 : Int) : Option (Int × (List Int)) :=
 afterO (loopO F.laws_markIntS.s2 (a1, 0, a0, ())) fun (x4, x5, x6, _) =>
 some (x4, x6)
def C.laws_markIntS : Con := ⟨[.c (.sl true 3 (.int .i64)), .r (.val (.int .i64))], .one (.int .i64), fun x => F.laws_markIntS x.1 x.2.1⟩
def L.laws_markIntS : Loops := lookL [(2, ⟨[.pat 1 (.val (.int .i64)), .pat 5 (.val (.int .i64)), .root 0 false (.sl true 3 (.int .i64)) [0]], 0⟩)]
def K.laws_markIntS : Cons := lookK []
theorem run.laws_markIntS : Rn K.laws_markIntS L.laws_markIntS [0] Tryz.f63 C.laws_markIntS := fun x => by kernel_rfl

/-! ### laws.markIntSS: function 64 -/
def F.laws_markIntSS.s2 : Stp (Int × Int × (List (List Int)) × Unit) (Int × (List (List Int))) := fun (x1, x2, x3, _) =>
 bif decide (x2 < (len x3)) then
  chk (inb x2 x3.length) <|
  (F.laws_markIntS (x3.getD x2.toNat ([])) x1).bind fun r4 =>
  some (.again (r4.1, w64 (x2 + 1), List.set x3 x2.toNat r4.2, ()))
 else
  some (.exit (x1, x2, x3, ()))
def F.laws_markIntSS (a0 : List (List Int)) (a1 : Int) : Option (Int × (List (List Int))) :=
 afterO (loopO F.laws_markIntSS.s2 (a1, 0, a0, ())) fun (x5, x6, x7, _) =>
 some (x5, x7)
def C.laws_markIntSS : Con := ⟨[.c (.sl true 26 (.sl true 3 (.int .i64))), .r (.val (.int .i64))], .one (.int .i64), fun x => F.laws_markIntSS x.1 x.2.1⟩
def L.laws_markIntSS : Loops := lookL [(2, ⟨[.pat 1 (.val (.int .i64)), .pat 5 (.val (.int .i64)), .root 0 false (.sl true 26 (.sl true 3 (.int .i64))) [0]], 0⟩)]
def K.laws_markIntSS : Cons := lookK [(63, [], C.laws_markIntS)]
theorem run.laws_markIntSS : Rn K.laws_markIntSS L.laws_markIntSS [0] Tryz.f64 C.laws_markIntSS := fun x => by kernel_rfl

/-! ### laws.markEntryS: function 18 -/
def F.laws_markEntryS.s2 : Stp (Int × Int × (List DEntry) × Unit) (Int × (List DEntry)) := fun (x1, x2, x3, _) =>
 bif decide (x2 < (len x3)) then
  chk (inb x2 x3.length) <|
  (some (List.set x3 x2.toNat (x1, (x3.getD x2.toNat (0, 0, [], (0, 0, 0, 0, [], [], [], ()), ())).2))).bind fun r4 =>
  chk (inb x2 r4.length) <|
  (some (List.set r4 x2.toNat ((r4.getD x2.toNat (0, 0, [], (0, 0, 0, 0, [], [], [], ()), ())).1, w64 (x1 + 1), ((r4.getD x2.toNat (0, 0, [], (0, 0, 0, 0, [], [], [], ()), ())).2).2))).bind fun r5 =>
  chk (inb x2 r5.length) <|
  (F.laws_markSpanS ((((r5.getD x2.toNat (0, 0, [], (0, 0, 0, 0, [], [], [], ()), ())).2).2).1) (w64 ((w64 (x1 + 1)) + 1))).bind fun r6 =>
  (some (List.set r5 x2.toNat ((r5.getD x2.toNat (0, 0, [], (0, 0, 0, 0, [], [], [], ()), ())).1, ((r5.getD x2.toNat (0, 0, [], (0, 0, 0, 0, [], [], [], ()), ())).2).1, r6.2, (((r5.getD x2.toNat (0, 0, [], (0, 0, 0, 0, [], [], [], ()), ())).2).2).2))).bind fun r7 =>
  chk (inb x2 r7.length) <|
  (some (List.set r7 x2.toNat ((r7.getD x2.toNat (0, 0, [], (0, 0, 0, 0, [], [], [], ()), ())).1, ((r7.getD x2.toNat (0, 0, [], (0, 0, 0, 0, [], [], [], ()), ())).2).1, (((r7.getD x2.toNat (0, 0, [], (0, 0, 0, 0, [], [], [], ()), ())).2).2).1, (r6.1, (((((r7.getD x2.toNat (0, 0, [], (0, 0, 0, 0, [], [], [], ()), ())).2).2).2).1).2), ((((r7.getD x2.toNat (0, 0, [], (0, 0, 0, 0, [], [], [], ()), ())).2).2).2).2))).bind fun r8 =>
  chk (inb x2 r8.length) <|
  (some (List.set r8 x2.toNat ((r8.getD x2.toNat (0, 0, [], (0, 0, 0, 0, [], [], [], ()), ())).1, ((r8.getD x2.toNat (0, 0, [], (0, 0, 0, 0, [], [], [], ()), ())).2).1, (((r8.getD x2.toNat (0, 0, [], (0, 0, 0, 0, [], [], [], ()), ())).2).2).1, ((((((r8.getD x2.toNat (0, 0, [], (0, 0, 0, 0, [], [], [], ()), ())).2).2).2).1).1, w64 (r6.1 + 1), ((((((r8.getD x2.toNat (0, 0, [], (0, 0, 0, 0, [], [], [], ()), ())).2).2).2).1).2).2), ((((r8.getD x2.toNat (0, 0, [], (0, 0, 0, 0, [], [], [], ()), ())).2).2).2).2))).bind fun r9 =>
  chk (inb x2 r9.length) <|
  (some (List.set r9 x2.toNat ((r9.getD x2.toNat (0, 0, [], (0, 0, 0, 0, [], [], [], ()), ())).1, ((r9.getD x2.toNat (0, 0, [], (0, 0, 0, 0, [], [], [], ()), ())).2).1, (((r9.getD x2.toNat (0, 0, [], (0, 0, 0, 0, [], [], [], ()), ())).2).2).1, ((((((r9.getD x2.toNat (0, 0, [], (0, 0, 0, 0, [], [], [], ()), ())).2).2).2).1).1, ((((((r9.getD x2.toNat (0, 0, [], (0, 0, 0, 0, [], [], [], ()), ())).2).2).2).1).2).1, w64 ((w64 (r6.1 + 1)) + 1), (((((((r9.getD x2.toNat (0, 0, [], (0, 0, 0, 0, [], [], [], ()), ())).2).2).2).1).2).2).2), ((((r9.getD x2.toNat (0, 0, [], (0, 0, 0, 0, [], [], [], ()), ())).2).2).2).2))).bind fun r10 =>
  chk (inb x2 r10.length) <|
  (some (List.set r10 x2.toNat ((r10.getD x2.toNat (0, 0, [], (0, 0, 0, 0, [], [], [], ()), ())).1, ((r10.getD x2.toNat (0, 0, [], (0, 0, 0, 0, [], [], [], ()), ())).2).1, (((r10.getD x2.toNat (0, 0, [], (0, 0, 0, 0, [], [], [], ()), ())).2).2).1, ((((((r10.getD x2.toNat (0, 0, [], (0, 0, 0, 0, [], [], [], ()), ())).2).2).2).1).1, ((((((r10.getD x2.toNat (0, 0, [], (0, 0, 0, 0, [], [], [], ()), ())).2).2).2).1).2).1, (((((((r10.getD x2.toNat (0, 0, [], (0, 0, 0, 0, [], [], [], ()), ())).2).2).2).1).2).2).1, w64 ((w64 ((w64 (r6.1 + 1)) + 1)) + 1), ((((((((r10.getD x2.toNat (0, 0, [], (0, 0, 0, 0, [], [], [], ()), ())).2).2).2).1).2).2).2).2), ((((r10.getD x2.toNat (0, 0, [], (0, 0, 0, 0, [], [], [], ()), ())).2).2).2).2))).bind fun r11 =>
  chk (inb x2 r11.length) <|
  (F.laws_markIntS ((((((((((r11.getD x2.toNat (0, 0, [], (0, 0, 0, 0, [], [], [], ()), ())).2).2).2).1).2).2).2).2).1) (w64 ((w64 ((w64 ((w64 (r6.1 + 1)) + 1)) + 1)) + 1))).bind fun r12 =>
  (some (List.set r11 x2.toNat ((r11.getD x2.toNat (0, 0, [], (0, 0, 0, 0, [], [], [], ()), ())).1, ((r11.getD x2.toNat (0, 0, [], (0, 0, 0, 0, [], [], [], ()), ())).2).1, (((r11.getD x2.toNat (0, 0, [], (0, 0, 0, 0, [], [], [], ()), ())).2).2).1, ((((((r11.getD x2.toNat (0, 0, [], (0, 0, 0, 0, [], [], [], ()), ())).2).2).2).1).1, ((((((r11.getD x2.toNat (0, 0, [], (0, 0, 0, 0, [], [], [], ()), ())).2).2).2).1).2).1, (((((((r11.getD x2.toNat (0, 0, [], (0, 0, 0, 0, [], [], [], ()), ())).2).2).2).1).2).2).1, ((((((((r11.getD x2.toNat (0, 0, [], (0, 0, 0, 0, [], [], [], ()), ())).2).2).2).1).2).2).2).1, r12.2, (((((((((r11.getD x2.toNat (0, 0, [], (0, 0, 0, 0, [], [], [], ()), ())).2).2).2).1).2).2).2).2).2), ((((r11.getD x2.toNat (0, 0, [], (0, 0, 0, 0, [], [], [], ()), ())).2).2).2).2))).bind fun r13 =>
  chk (inb x2 r13.length) <|
  (F.laws_markIntS (((((((((((r13.getD x2.toNat (0, 0, [], (0, 0, 0, 0, [], [], [], ()), ())).2).2).2).1).2).2).2).2).2).1) r12.1).bind fun r14 =>
  (some (List.set r13 x2.toNat ((r13.getD x2.toNat (0, 0, [], (0, 0, 0, 0, [], [], [], ()), ())).1, ((r13.getD x2.toNat (0, 0, [], (0, 0, 0, 0, [], [], [], ()), ())).2).1, (((r13.getD x2.toNat (0, 0, [], (0, 0, 0, 0, [], [], [], ()), ())).2).2).1, ((((((r13.getD x2.toNat (0, 0, [], (0, 0, 0, 0, [], [], [], ()), ())).2).2).2).1).1, ((((((r13.getD x2.toNat (0, 0, [], (0, 0, 0, 0, [], [], [], ()), ())).2).2).2).1).2).1, (((((((r13.getD x2.toNat (0, 0, [], (0, 0, 0, 0, [], [], [], ()), ())).2).2).2).1).2).2).1, ((((((((r13.getD x2.toNat (0, 0, [], (0, 0, 0, 0, [], [], [], ()), ())).2).2).2).1).2).2).2).1, (((((((((r13.getD x2.toNat (0, 0, [], (0, 0, 0, 0, [], [], [], ()), ())).2).2).2).1).2).2).2).2).1, r14.2, ((((((((((r13.getD x2.toNat (0, 0, [], (0, 0, 0, 0, [], [], [], ()), ())).2).2).2).1).2).2).2).2).2).2), ((((r13.getD x2.toNat (0, 0, [], (0, 0, 0, 0, [], [], [], ()), ())).2).2).2).2))).bind fun r15 =>
  chk (inb x2 r15.length) <|
  (F.laws_markIntSS ((((((((((((r15.getD x2.toNat (0, 0, [], (0, 0, 0, 0, [], [], [], ()), ())).2).2).2).1).2).2).2).2).2).2).1) r14.1).bind fun r16 =>
  (some (List.set r15 x2.toNat ((r15.getD x2.toNat (0, 0, [], (0, 0, 0, 0, [], [], [], ()), ())).1, ((r15.getD x2.toNat (0, 0, [], (0, 0, 0, 0, [], [], [], ()), ())).2).1, (((r15.getD x2.toNat (0, 0, [], (0, 0, 0, 0, [], [], [], ()), ())).2).2).1, ((((((r15.getD x2.toNat (0, 0, [], (0, 0, 0, 0, [], [], [], ()), ())).2).2).2).1).1, ((((((r15.getD x2.toNat (0, 0, [], (0, 0, 0, 0, [], [], [], ()), ())).2).2).2).1).2).1, (((((((r15.getD x2.toNat (0, 0, [], (0, 0, 0, 0, [], [], [], ()), ())).2).2).2).1).2).2).1, ((((((((r15.getD x2.toNat (0, 0, [], (0, 0, 0, 0, [], [], [], ()), ())).2).2).2).1).2).2).2).1, (((((((((r15.getD x2.toNat (0, 0, [], (0, 0, 0, 0, [], [], [], ()), ())).2).2).2).1).2).2).2).2).1, ((((((((((r15.getD x2.toNat (0, 0, [], (0, 0, 0, 0, [], [], [], ()), ())).2).2).2).1).2).2).2).2).2).1, r16.2, (((((((((((r15.getD x2.toNat (0, 0, [], (0, 0, 0, 0, [], [], [], ()), ())).2).2).2).1).2).2).2).2).2).2).2), ((((r15.getD x2.toNat (0, 0, [], (0, 0, 0, 0, [], [], [], ()), ())).2).2).2).2))).bind fun r17 =>
  some (.again (r16.1, w64 (x2 + 1), r17, ()))
 else
  some (.exit (x1, x2, x3, ()))
def F.laws_markEntryS (a0 : List DEntry) (a1 : Int) : Option (Int × (List DEntry)) :=
 afterO (loopO F.laws_markEntryS.s2 (a1, 0, a0, ())) fun (x18, x19, x20, _) =>
 some (x18, x20)
def C.laws_markEntryS : Con := ⟨[.c (.sl true 31 y6), .r (.val (.int .i64))], .one (.int .i64), fun x => F.laws_markEntryS x.1 x.2.1⟩
def L.laws_markEntryS : Loops := lookL [(2, ⟨[.pat 1 (.val (.int .i64)), .pat 5 (.val (.int .i64)), .root 0 false (.sl true 31 y6) [0]], 0⟩)]
def K.laws_markEntryS : Cons := lookK [(62, [], C.laws_markSpanS), (63, [], C.laws_markIntS), (64, [], C.laws_markIntSS)]
theorem run.laws_markEntryS : Rn K.laws_markEntryS L.laws_markEntryS [0] Tryz.f18 C.laws_markEntryS := fun x => by kernel_rfl

/-! ### laws.markSketch: function 65 -/
def F.laws_markSketch (a0 : DSketch) (a1 : Int) : Option (Int × DSketch) :=
 (F.laws_markIntS a0.2.2.2.2.1 a1).bind fun r1 =>
 (F.laws_markIntS a0.2.2.2.2.2.1 r1.1).bind fun r2 =>
 (F.laws_markIntSS a0.2.2.2.2.2.2.1 r2.1).bind fun r3 =>
 some (r3.1, (a0.1, a0.2.1, a0.2.2.1, a0.2.2.2.1, r1.2, r2.2, r3.2, a0.2.2.2.2.2.2.2))
def C.laws_markSketch : Con := ⟨[.c y1, .r (.val (.int .i64))], .one (.int .i64), fun x => F.laws_markSketch x.1 x.2.1⟩
def K.laws_markSketch : Cons := lookK [(63, [], C.laws_markIntS), (64, [], C.laws_markIntSS)]
theorem run.laws_markSketch : Rn K.laws_markSketch L0 [2] Tryz.f65 C.laws_markSketch := fun x => by kernel_rfl

/-! ### laws.markEntry: function 19 -/
def F.laws_markEntry (a0 : DEntry) (a1 : Int) : Option (Int × DEntry) :=
 (F.laws_markSpanS a0.2.2.1 a1).bind fun r1 =>
 (F.laws_markSketch a0.2.2.2.1 r1.1).bind fun r2 =>
 some (r2.1, (a0.1, a0.2.1, r1.2, r2.2, a0.2.2.2.2))
def C.laws_markEntry : Con := ⟨[.c y6, .r (.val (.int .i64))], .one (.int .i64), fun x => F.laws_markEntry x.1 x.2.1⟩
def K.laws_markEntry : Cons := lookK [(62, [], C.laws_markSpanS), (65, [], C.laws_markSketch)]
theorem run.laws_markEntry : Rn K.laws_markEntry L0 [2] Tryz.f19 C.laws_markEntry := fun x => by kernel_rfl

/-! ### laws.heldSpanS: function 66 -/
def F.laws_heldSpanS.s2 : Stp ((List DSpan) × Int × Int × Unit) Int := fun (x1, x2, x3, _) =>
 bif decide (x3 < (len x1)) then
  chk (inb x3 x1.length) <|
  bif ((x1.getD x3.toNat (0, 0, ())).1) != x2 then
   some (.ret (-1))
  else
  chk (inb x3 x1.length) <|
  bif (((x1.getD x3.toNat (0, 0, ())).2).1) != (w64 (x2 + 1)) then
   some (.ret (-1))
  else
   some (.again (x1, w64 ((w64 (x2 + 1)) + 1), w64 (x3 + 1), ()))
 else
  some (.exit (x1, x2, x3, ()))
def F.laws_heldSpanS (a0 : List DSpan) (a1 : Int) : Option Int :=
 afterO (loopO F.laws_heldSpanS.s2 (a0, a1, 0, ())) fun (x4, x5, x6, _) =>
 some x5
def C.laws_heldSpanS : Con := ⟨[.r (.val (.sl false 180 y5)), .r (.val (.int .i64))], .one (.int .i64), fun x => F.laws_heldSpanS x.1 x.2.1⟩
def L.laws_heldSpanS : Loops := lookL [(2, ⟨[.pat 0 (.val (.sl false 180 y5)), .pat 1 (.val (.int .i64)), .pat 5 (.val (.int .i64))], 0⟩)]
def K.laws_heldSpanS : Cons := lookK []
theorem run.laws_heldSpanS : Rn K.laws_heldSpanS L.laws_heldSpanS [] Tryz.f66 C.laws_heldSpanS := fun x => by kernel_rfl

/-! ### laws.heldIntS: function 67 -/
def F.laws_heldIntS.s2 : Stp ((List Int) × Int × Int × Unit) Int := fun (x1, x2, x3, _) =>
 bif decide (x3 < (len x1)) then
  chk (inb x3 x1.length) <|
  bif (x1.getD x3.toNat 0) != x2 then
   some (.ret (-1))
  else
   some (.again (x1, w64 (x2 + 1), w64 (x3 + 1), ()))
 else
  some (.exit (x1, x2, x3, ()))
def F.laws_heldIntS (a0 : List Int) (a1 : Int) : Option Int :=
 afterO (loopO F.laws_heldIntS.s2 (a0, a1, 0, ())) fun (x4, x5, x6, _) =>
 some x5
def C.laws_heldIntS : Con := ⟨[.r (.val (.sl false 3 (.int .i64))), .r (.val (.int .i64))], .one (.int .i64), fun x => F.laws_heldIntS x.1 x.2.1⟩
def L.laws_heldIntS : Loops := lookL [(2, ⟨[.pat 0 (.val (.sl false 3 (.int .i64))), .pat 1 (.val (.int .i64)), .pat 5 (.val (.int .i64))], 0⟩)]
def K.laws_heldIntS : Cons := lookK []
theorem run.laws_heldIntS : Rn K.laws_heldIntS L.laws_heldIntS [] Tryz.f67 C.laws_heldIntS := fun x => by kernel_rfl

/-! ### laws.heldIntSS: function 68 -/
def F.laws_heldIntSS.s2 : Stp ((List (List Int)) × Int × Int × Unit) Int := fun (x1, x2, x3, _) =>
 bif decide (x3 < (len x1)) then
  chk (inb x3 x1.length) <|
  (F.laws_heldIntS (x1.getD x3.toNat ([])) x2).bind fun r4 =>
  bif decide (r4 < 0) then
   some (.ret (-1))
  else
   some (.again (x1, r4, w64 (x3 + 1), ()))
 else
  some (.exit (x1, x2, x3, ()))
def F.laws_heldIntSS (a0 : List (List Int)) (a1 : Int) : Option Int :=
 afterO (loopO F.laws_heldIntSS.s2 (a0, a1, 0, ())) fun (x5, x6, x7, _) =>
 some x6
def C.laws_heldIntSS : Con := ⟨[.r (.val (.sl false 26 (.sl false 3 (.int .i64)))), .r (.val (.int .i64))], .one (.int .i64), fun x => F.laws_heldIntSS x.1 x.2.1⟩
def L.laws_heldIntSS : Loops := lookL [(2, ⟨[.pat 0 (.val (.sl false 26 (.sl false 3 (.int .i64)))), .pat 1 (.val (.int .i64)), .pat 5 (.val (.int .i64))], 0⟩)]
def K.laws_heldIntSS : Cons := lookK [(67, [], C.laws_heldIntS)]
theorem run.laws_heldIntSS : Rn K.laws_heldIntSS L.laws_heldIntSS [] Tryz.f68 C.laws_heldIntSS := fun x => by kernel_rfl

/-! ### laws.heldEntryS: function 20 -/
def F.laws_heldEntryS.s2 : Stp ((List DEntry) × Int × Int × Unit) Int := fun (x1, x2, x3, _) =>
 bif decide (x3 < (len x1)) then
  chk (inb x3 x1.length) <|
  bif ((x1.getD x3.toNat (0, 0, [], (0, 0, 0, 0, [], [], [], ()), ())).1) != x2 then
   some (.ret (-1))
  else
  chk (inb x3 x1.length) <|
  bif (((x1.getD x3.toNat (0, 0, [], (0, 0, 0, 0, [], [], [], ()), ())).2).1) != (w64 (x2 + 1)) then
   some (.ret (-1))
  else
  chk (inb x3 x1.length) <|
  (F.laws_heldSpanS ((((x1.getD x3.toNat (0, 0, [], (0, 0, 0, 0, [], [], [], ()), ())).2).2).1) (w64 ((w64 (x2 + 1)) + 1))).bind fun r4 =>
  bif decide (r4 < 0) then
   some (.ret (-1))
  else
  chk (inb x3 x1.length) <|
  bif ((((((x1.getD x3.toNat (0, 0, [], (0, 0, 0, 0, [], [], [], ()), ())).2).2).2).1).1) != r4 then
   some (.ret (-1))
  else
  chk (inb x3 x1.length) <|
  bif (((((((x1.getD x3.toNat (0, 0, [], (0, 0, 0, 0, [], [], [], ()), ())).2).2).2).1).2).1) != (w64 (r4 + 1)) then
   some (.ret (-1))
  else
  chk (inb x3 x1.length) <|
  bif ((((((((x1.getD x3.toNat (0, 0, [], (0, 0, 0, 0, [], [], [], ()), ())).2).2).2).1).2).2).1) != (w64 ((w64 (r4 + 1)) + 1)) then
   some (.ret (-1))
  else
  chk (inb x3 x1.length) <|
  bif (((((((((x1.getD x3.toNat (0, 0, [], (0, 0, 0, 0, [], [], [], ()), ())).2).2).2).1).2).2).2).1) != (w64 ((w64 ((w64 (r4 + 1)) + 1)) + 1)) then
   some (.ret (-1))
  else
  chk (inb x3 x1.length) <|
  (F.laws_heldIntS ((((((((((x1.getD x3.toNat (0, 0, [], (0, 0, 0, 0, [], [], [], ()), ())).2).2).2).1).2).2).2).2).1) (w64 ((w64 ((w64 ((w64 (r4 + 1)) + 1)) + 1)) + 1))).bind fun r5 =>
  bif decide (r5 < 0) then
   some (.ret (-1))
  else
  chk (inb x3 x1.length) <|
  (F.laws_heldIntS (((((((((((x1.getD x3.toNat (0, 0, [], (0, 0, 0, 0, [], [], [], ()), ())).2).2).2).1).2).2).2).2).2).1) r5).bind fun r6 =>
  bif decide (r6 < 0) then
   some (.ret (-1))
  else
  chk (inb x3 x1.length) <|
  (F.laws_heldIntSS ((((((((((((x1.getD x3.toNat (0, 0, [], (0, 0, 0, 0, [], [], [], ()), ())).2).2).2).1).2).2).2).2).2).2).1) r6).bind fun r7 =>
  bif decide (r7 < 0) then
   some (.ret (-1))
  else
   some (.again (x1, r7, w64 (x3 + 1), ()))
 else
  some (.exit (x1, x2, x3, ()))
def F.laws_heldEntryS (a0 : List DEntry) (a1 : Int) : Option Int :=
 afterO (loopO F.laws_heldEntryS.s2 (a0, a1, 0, ())) fun (x8, x9, x10, _) =>
 some x9
def C.laws_heldEntryS : Con := ⟨[.r (.val (.sl false 31 y7)), .r (.val (.int .i64))], .one (.int .i64), fun x => F.laws_heldEntryS x.1 x.2.1⟩
def L.laws_heldEntryS : Loops := lookL [(2, ⟨[.pat 0 (.val (.sl false 31 y7)), .pat 1 (.val (.int .i64)), .pat 5 (.val (.int .i64))], 0⟩)]
def K.laws_heldEntryS : Cons := lookK [(66, [], C.laws_heldSpanS), (67, [], C.laws_heldIntS), (68, [], C.laws_heldIntSS)]
theorem run.laws_heldEntryS : Rn K.laws_heldEntryS L.laws_heldEntryS [] Tryz.f20 C.laws_heldEntryS := fun x => by kernel_rfl

/-! ### laws.FnExactRootAdd: function 4 -/
def F.laws_FnExactRootAdd (a0 : List DEntry) (a1 : DEntry) : Option Bool :=
 (F.laws_szEntryS a0 1048576).bind fun r1 =>
 bif decide (r1 < 0) then
  some true
 else
 (F.laws_szEntry a1 r1).bind fun r2 =>
 bif decide (r2 < 0) then
  some true
 else
 (F.laws_toEntryS a0).bind fun r3 =>
 (F.laws_toEntry a1).bind fun r4 =>
 (F.spec_RootAdd r3 r4).bind fun r5 =>
 (F.laws_toEntryS a0).bind fun r6 =>
 (F.laws_toEntry a1).bind fun r7 =>
 (F.impl_RootAdd r6 r7).bind fun r8 =>
 (F.laws_eqEntryS r8.1 r5.1).bind fun r9 =>
 bif !r9 then
  some false
 else
 bif !(r8.2 == r5.2) then
  some false
 else
 (F.laws_toEntryS a0).bind fun r10 =>
 (F.laws_eqEntryS r6 r10).bind fun r11 =>
 bif !r11 then
  some false
 else
 (F.laws_toEntry a1).bind fun r12 =>
 (F.laws_eqEntry r7 r12).bind fun r13 =>
 bif !r13 then
  some false
 else
 (F.laws_markEntryS r6 1).bind fun r14 =>
 (F.laws_markEntry r7 r14.1).bind fun r15 =>
 bif decide (r15.1 < 0) then
  some false
 else
 (F.laws_eqEntryS r8.1 r5.1).bind fun r16 =>
 bif !r16 then
  some false
 else
 bif !(r8.2 == r5.2) then
  some false
 else
 (F.laws_markEntryS r8.1 1).bind fun r17 =>
 (F.laws_heldEntryS r17.2 1).bind fun r18 =>
 bif decide (r18 < 0) then
  some false
 else
 bif r18 != r17.1 then
  some false
 else
 (F.laws_toEntryS a0).bind fun r19 =>
 (F.laws_toEntry a1).bind fun r20 =>
 (F.impl_RootAdd r19 r20).bind fun r21 =>
 (F.laws_eqEntryS r21.1 r5.1).bind fun r22 =>
 bif !r22 then
  some false
 else
 bif !(r21.2 == r5.2) then
  some false
 else
 (F.laws_heldEntryS r17.2 1).bind fun r23 =>
 bif decide (r23 < 0) then
  some false
 else
 bif r23 != r17.1 then
  some false
 else
  some true
def C.laws_FnExactRootAdd : Con := ⟨[.r (.val (.sl false 40 y8)), .r (.val y8)], .one .bool, fun x => F.laws_FnExactRootAdd x.1 x.2.1⟩
def K.laws_FnExactRootAdd : Cons := lookK [(10, [], C.impl_RootAdd), (11, [], C.spec_RootAdd), (12, [], C.laws_szEntryS), (13, [], C.laws_szEntry), (14, [], C.laws_toEntryS), (15, [], C.laws_toEntry), (16, [], C.laws_eqEntryS), (17, [], C.laws_eqEntry), (18, [], C.laws_markEntryS), (19, [], C.laws_markEntry), (20, [], C.laws_heldEntryS)]
theorem run.laws_FnExactRootAdd : Rn K.laws_FnExactRootAdd L0 [] Tryz.f4 C.laws_FnExactRootAdd := fun x => by kernel_rfl

/-! ### laws.szConf: function 69 -/
def F.laws_szConf (a0 : DConf) (a1 : Int) : Option Int :=
 (F.laws_szIntS a0.2.2.2.1 a1).bind fun r1 =>
 bif decide (r1 < 0) then
  some (-1)
 else
  some r1
def C.laws_szConf : Con := ⟨[.r (.val y9), .r (.val (.int .i64))], .one (.int .i64), fun x => F.laws_szConf x.1 x.2.1⟩
def K.laws_szConf : Cons := lookK [(141, [], C.laws_szIntS)]
theorem run.laws_szConf : Rn K.laws_szConf L0 [] Tryz.f69 C.laws_szConf := fun x => by kernel_rfl

/-! ### laws.szSeat: function 149 -/
def F.laws_szSeat (a0 : DSeat) (a1 : Int) : Option Int :=
 (F.laws_szSpanS a0.2.2.1 a1).bind fun r1 =>
 bif decide (r1 < 0) then
  some (-1)
 else
  some r1
def C.laws_szSeat : Con := ⟨[.r (.val y10), .r (.val (.int .i64))], .one (.int .i64), fun x => F.laws_szSeat x.1 x.2.1⟩
def K.laws_szSeat : Cons := lookK [(56, [], C.laws_szSpanS)]
theorem run.laws_szSeat : Rn K.laws_szSeat L0 [] Tryz.f149 C.laws_szSeat := fun x => by kernel_rfl

/-! ### laws.szSeatS: function 70 -/
def F.laws_szSeatS.s5 : Stp ((List DSeat) × Int × Int × Unit) Int := fun (x1, x2, x3, _) =>
 bif decide (x3 < (len x1)) then
  chk (inb x3 x1.length) <|
  (F.laws_szSeat (x1.getD x3.toNat (0, 0, [], 0, 0, ())) x2).bind fun r4 =>
  bif decide (r4 < 0) then
   some (.ret (-1))
  else
   some (.again (x1, r4, w64 (x3 + 1), ()))
 else
  some (.exit (x1, x2, x3, ()))
def F.laws_szSeatS (a0 : List DSeat) (a1 : Int) : Option Int :=
 bif decide ((w64 (a1 - (len a0))) < 0) then
  some (-1)
 else
 afterO (loopO F.laws_szSeatS.s5 (a0, w64 (a1 - (len a0)), 0, ())) fun (x5, x6, x7, _) =>
 some x6
def C.laws_szSeatS : Con := ⟨[.r (.val (.sl false 190 y10)), .r (.val (.int .i64))], .one (.int .i64), fun x => F.laws_szSeatS x.1 x.2.1⟩
def L.laws_szSeatS : Loops := lookL [(5, ⟨[.pat 0 (.val (.sl false 190 y10)), .pat 1 (.val (.int .i64)), .pat 5 (.val (.int .i64))], 0⟩)]
def K.laws_szSeatS : Cons := lookK [(149, [], C.laws_szSeat)]
theorem run.laws_szSeatS : Rn K.laws_szSeatS L.laws_szSeatS [] Tryz.f70 C.laws_szSeatS := fun x => by kernel_rfl

/-! ### laws.szRow: function 242 -/
def F.laws_szRow (a0 : DRow) (a1 : Int) : Option Int :=
 (F.laws_szEntryS a0.1 a1).bind fun r1 =>
 bif decide (r1 < 0) then
  some (-1)
 else
  some r1
def C.laws_szRow : Con := ⟨[.r (.val (.cons (.sl false 40 y8) .nil)), .r (.val (.int .i64))], .one (.int .i64), fun x => F.laws_szRow x.1 x.2.1⟩
def K.laws_szRow : Cons := lookK [(12, [], C.laws_szEntryS)]
theorem run.laws_szRow : Rn K.laws_szRow L0 [] Tryz.f242 C.laws_szRow := fun x => by kernel_rfl

/-! ### laws.szRowS: function 150 -/
def F.laws_szRowS.s5 : Stp ((List DRow) × Int × Int × Unit) Int := fun (x1, x2, x3, _) =>
 bif decide (x3 < (len x1)) then
  chk (inb x3 x1.length) <|
  (F.laws_szRow (x1.getD x3.toNat ([], ())) x2).bind fun r4 =>
  bif decide (r4 < 0) then
   some (.ret (-1))
  else
   some (.again (x1, r4, w64 (x3 + 1), ()))
 else
  some (.exit (x1, x2, x3, ()))
def F.laws_szRowS (a0 : List DRow) (a1 : Int) : Option Int :=
 bif decide ((w64 (a1 - (len a0))) < 0) then
  some (-1)
 else
 afterO (loopO F.laws_szRowS.s5 (a0, w64 (a1 - (len a0)), 0, ())) fun (x5, x6, x7, _) =>
 some x6
def C.laws_szRowS : Con := ⟨[.r (.val (.sl false 260 (.cons (.sl false 40 y8) .nil))), .r (.val (.int .i64))], .one (.int .i64), fun x => F.laws_szRowS x.1 x.2.1⟩
def L.laws_szRowS : Loops := lookL [(5, ⟨[.pat 0 (.val (.sl false 260 (.cons (.sl false 40 y8) .nil))), .pat 1 (.val (.int .i64)), .pat 5 (.val (.int .i64))], 0⟩)]
def K.laws_szRowS : Cons := lookK [(242, [], C.laws_szRow)]
theorem run.laws_szRowS : Rn K.laws_szRowS L.laws_szRowS [] Tryz.f150 C.laws_szRowS := fun x => by kernel_rfl

/-! ### laws.szRowSS: function 71 -/
def F.laws_szRowSS.s5 : Stp ((List (List DRow)) × Int × Int × Unit) Int := fun (x1, x2, x3, _) =>
 bif decide (x3 < (len x1)) then
  chk (inb x3 x1.length) <|
  (F.laws_szRowS (x1.getD x3.toNat ([])) x2).bind fun r4 =>
  bif decide (r4 < 0) then
   some (.ret (-1))
  else
   some (.again (x1, r4, w64 (x3 + 1), ()))
 else
  some (.exit (x1, x2, x3, ()))
def F.laws_szRowSS (a0 : List (List DRow)) (a1 : Int) : Option Int :=
 bif decide ((w64 (a1 - (len a0))) < 0) then
  some (-1)
 else
 afterO (loopO F.laws_szRowSS.s5 (a0, w64 (a1 - (len a0)), 0, ())) fun (x5, x6, x7, _) =>
 some x6
def C.laws_szRowSS : Con := ⟨[.r (.val (.sl false 192 (.sl false 260 (.cons (.sl false 40 y8) .nil)))), .r (.val (.int .i64))], .one (.int .i64), fun x => F.laws_szRowSS x.1 x.2.1⟩
def L.laws_szRowSS : Loops := lookL [(5, ⟨[.pat 0 (.val (.sl false 192 (.sl false 260 (.cons (.sl false 40 y8) .nil)))), .pat 1 (.val (.int .i64)), .pat 5 (.val (.int .i64))], 0⟩)]
def K.laws_szRowSS : Cons := lookK [(150, [], C.laws_szRowS)]
theorem run.laws_szRowSS : Rn K.laws_szRowSS L.laws_szRowSS [] Tryz.f71 C.laws_szRowSS := fun x => by kernel_rfl

/-! ### laws.szTurn: function 151 -/
def F.laws_szTurn (a0 : DTurn) (a1 : Int) : Option Int :=
 (F.laws_szIntS a0.2.2.1 a1).bind fun r1 =>
 bif decide (r1 < 0) then
  some (-1)
 else
  some r1
def C.laws_szTurn : Con := ⟨[.r (.val y11), .r (.val (.int .i64))], .one (.int .i64), fun x => F.laws_szTurn x.1 x.2.1⟩
def K.laws_szTurn : Cons := lookK [(141, [], C.laws_szIntS)]
theorem run.laws_szTurn : Rn K.laws_szTurn L0 [] Tryz.f151 C.laws_szTurn := fun x => by kernel_rfl

/-! ### laws.szTurnS: function 72 -/
def F.laws_szTurnS.s5 : Stp ((List DTurn) × Int × Int × Unit) Int := fun (x1, x2, x3, _) =>
 bif decide (x3 < (len x1)) then
  chk (inb x3 x1.length) <|
  (F.laws_szTurn (x1.getD x3.toNat (0, false, [], ())) x2).bind fun r4 =>
  bif decide (r4 < 0) then
   some (.ret (-1))
  else
   some (.again (x1, r4, w64 (x3 + 1), ()))
 else
  some (.exit (x1, x2, x3, ()))
def F.laws_szTurnS (a0 : List DTurn) (a1 : Int) : Option Int :=
 bif decide ((w64 (a1 - (len a0))) < 0) then
  some (-1)
 else
 afterO (loopO F.laws_szTurnS.s5 (a0, w64 (a1 - (len a0)), 0, ())) fun (x5, x6, x7, _) =>
 some x6
def C.laws_szTurnS : Con := ⟨[.r (.val (.sl false 194 y11)), .r (.val (.int .i64))], .one (.int .i64), fun x => F.laws_szTurnS x.1 x.2.1⟩
def L.laws_szTurnS : Loops := lookL [(5, ⟨[.pat 0 (.val (.sl false 194 y11)), .pat 1 (.val (.int .i64)), .pat 5 (.val (.int .i64))], 0⟩)]
def K.laws_szTurnS : Cons := lookK [(151, [], C.laws_szTurn)]
theorem run.laws_szTurnS : Rn K.laws_szTurnS L.laws_szTurnS [] Tryz.f72 C.laws_szTurnS := fun x => by kernel_rfl

/-! ### laws.szOut: function 152 -/
def F.laws_szOut (a0 : DOut) (a1 : Int) : Option Int :=
 (F.laws_szEntry a0.2.1 a1).bind fun r1 =>
 bif decide (r1 < 0) then
  some (-1)
 else
  some r1
def C.laws_szOut : Con := ⟨[.r (.val y12), .r (.val (.int .i64))], .one (.int .i64), fun x => F.laws_szOut x.1 x.2.1⟩
def K.laws_szOut : Cons := lookK [(13, [], C.laws_szEntry)]
theorem run.laws_szOut : Rn K.laws_szOut L0 [] Tryz.f152 C.laws_szOut := fun x => by kernel_rfl

/-! ### laws.szOutS: function 73 -/
def F.laws_szOutS.s5 : Stp ((List DOut) × Int × Int × Unit) Int := fun (x1, x2, x3, _) =>
 bif decide (x3 < (len x1)) then
  chk (inb x3 x1.length) <|
  (F.laws_szOut (x1.getD x3.toNat (0, (0, 0, [], (0, 0, 0, 0, [], [], [], ()), ()), ())) x2).bind fun r4 =>
  bif decide (r4 < 0) then
   some (.ret (-1))
  else
   some (.again (x1, r4, w64 (x3 + 1), ()))
 else
  some (.exit (x1, x2, x3, ()))
def F.laws_szOutS (a0 : List DOut) (a1 : Int) : Option Int :=
 bif decide ((w64 (a1 - (len a0))) < 0) then
  some (-1)
 else
 afterO (loopO F.laws_szOutS.s5 (a0, w64 (a1 - (len a0)), 0, ())) fun (x5, x6, x7, _) =>
 some x6
def C.laws_szOutS : Con := ⟨[.r (.val (.sl false 197 y12)), .r (.val (.int .i64))], .one (.int .i64), fun x => F.laws_szOutS x.1 x.2.1⟩
def L.laws_szOutS : Loops := lookL [(5, ⟨[.pat 0 (.val (.sl false 197 y12)), .pat 1 (.val (.int .i64)), .pat 5 (.val (.int .i64))], 0⟩)]
def K.laws_szOutS : Cons := lookK [(152, [], C.laws_szOut)]
theorem run.laws_szOutS : Rn K.laws_szOutS L.laws_szOutS [] Tryz.f73 C.laws_szOutS := fun x => by kernel_rfl

/-! ### laws.szHouse: function 21 -/
def F.laws_szHouse (a0 : DHouse) (a1 : Int) : Option Int :=
 (F.laws_szConf a0.1 a1).bind fun r1 =>
 bif decide (r1 < 0) then
  some (-1)
 else
 (F.laws_szSeatS a0.2.2.2.1 r1).bind fun r2 =>
 bif decide (r2 < 0) then
  some (-1)
 else
 (F.laws_szRowSS a0.2.2.2.2.1 r2).bind fun r3 =>
 bif decide (r3 < 0) then
  some (-1)
 else
 (F.laws_szTurnS a0.2.2.2.2.2.1 r3).bind fun r4 =>
 bif decide (r4 < 0) then
  some (-1)
 else
 (F.laws_szEntryS a0.2.2.2.2.2.2.2.1 r4).bind fun r5 =>
 bif decide (r5 < 0) then
  some (-1)
 else
 (F.laws_szOutS a0.2.2.2.2.2.2.2.2.1 r5).bind fun r6 =>
 bif decide (r6 < 0) then
  some (-1)
 else
  some r6
def C.laws_szHouse : Con := ⟨[.r (.val y13), .r (.val (.int .i64))], .one (.int .i64), fun x => F.laws_szHouse x.1 x.2.1⟩
def K.laws_szHouse : Cons := lookK [(12, [], C.laws_szEntryS), (69, [], C.laws_szConf), (70, [], C.laws_szSeatS), (71, [], C.laws_szRowSS), (72, [], C.laws_szTurnS), (73, [], C.laws_szOutS)]
theorem run.laws_szHouse : Rn K.laws_szHouse L0 [] Tryz.f21 C.laws_szHouse := fun x => by kernel_rfl

/-! ### laws.toConf: function 77 -/
def F.laws_toConf (a0 : DConf) : Option DConf :=
 (F.laws_toIntS a0.2.2.2.1).bind fun r1 =>
 some (a0.1, a0.2.1, a0.2.2.1, r1, a0.2.2.2.2.1, a0.2.2.2.2.2.1, a0.2.2.2.2.2.2.1, a0.2.2.2.2.2.2.2.1, ())
def C.laws_toConf : Con := ⟨[.r (.val y9)], .one y14, fun x => F.laws_toConf x.1⟩
def K.laws_toConf : Cons := lookK [(144, [], C.laws_toIntS)]
theorem run.laws_toConf : Rn K.laws_toConf L0 [] Tryz.f77 C.laws_toConf := fun x => by kernel_rfl

/-! ### laws.toSeat: function 169 -/
def F.laws_toSeat (a0 : DSeat) : Option DSeat :=
 (F.laws_toSpanS a0.2.2.1).bind fun r1 =>
 some (a0.1, a0.2.1, r1, a0.2.2.2.1, a0.2.2.2.2.1, ())
def C.laws_toSeat : Con := ⟨[.r (.val y10)], .one y15, fun x => F.laws_toSeat x.1⟩
def K.laws_toSeat : Cons := lookK [(58, [], C.laws_toSpanS)]
theorem run.laws_toSeat : Rn K.laws_toSeat L0 [] Tryz.f169 C.laws_toSeat := fun x => by kernel_rfl

/-! ### laws.toSeatS: function 78 -/
def F.laws_toSeatS.s3 : Stp ((List DSeat) × (List DSeat) × Int × Unit) (List DSeat) := fun (x1, x2, x3, _) =>
 bif decide (x3 < (len x1)) then
  chk (inb x3 x1.length) <|
  (F.laws_toSeat (x1.getD x3.toNat (0, 0, [], 0, 0, ()))).bind fun r4 =>
  chk (inb x3 x2.length) <|
  some (.again (x1, List.set x2 x3.toNat r4, w64 (x3 + 1), ()))
 else
  some (.exit (x1, x2, x3, ()))
def F.laws_toSeatS (a0 : List DSeat) : Option (List DSeat) :=
 chk (mk 56 (len a0) (len a0)) <|
 afterO (loopO F.laws_toSeatS.s3 (a0, List.replicate (Int.toNat (len a0)) (0, 0, ([] : List DSpan), 0, 0, ()), 0, ())) fun (x5, x6, x7, _) =>
 some x6
def C.laws_toSeatS : Con := ⟨[.r (.val (.sl false 190 y10))], .one (.sl true 143 y15), fun x => F.laws_toSeatS x.1⟩
def L.laws_toSeatS : Loops := lookL [(3, ⟨[.pat 0 (.val (.sl false 190 y10)), .own 3 (.sl true 143 y15), .pat 4 (.val (.int .i64))], 0⟩)]
def K.laws_toSeatS : Cons := lookK [(169, [], C.laws_toSeat)]
theorem run.laws_toSeatS : Rn K.laws_toSeatS L.laws_toSeatS [] Tryz.f78 C.laws_toSeatS := fun x => by kernel_rfl

/-! ### laws.toRow: function 253 -/
def F.laws_toRow (a0 : DRow) : Option DRow :=
 (F.laws_toEntryS a0.1).bind fun r1 =>
 some (r1, ())
def C.laws_toRow : Con := ⟨[.r (.val (.cons (.sl false 40 y8) .nil))], .one (.cons (.sl true 31 y6) .nil), fun x => F.laws_toRow x.1⟩
def K.laws_toRow : Cons := lookK [(14, [], C.laws_toEntryS)]
theorem run.laws_toRow : Rn K.laws_toRow L0 [] Tryz.f253 C.laws_toRow := fun x => by kernel_rfl

/-! ### laws.toRowS: function 170 -/
def F.laws_toRowS.s3 : Stp ((List DRow) × (List DRow) × Int × Unit) (List DRow) := fun (x1, x2, x3, _) =>
 bif decide (x3 < (len x1)) then
  chk (inb x3 x1.length) <|
  (F.laws_toRow (x1.getD x3.toNat ([], ()))).bind fun r4 =>
  chk (inb x3 x2.length) <|
  some (.again (x1, List.set x2 x3.toNat r4, w64 (x3 + 1), ()))
 else
  some (.exit (x1, x2, x3, ()))
def F.laws_toRowS (a0 : List DRow) : Option (List DRow) :=
 chk (mk 24 (len a0) (len a0)) <|
 afterO (loopO F.laws_toRowS.s3 (a0, List.replicate (Int.toNat (len a0)) (([] : List DEntry), ()), 0, ())) fun (x5, x6, x7, _) =>
 some x6
def C.laws_toRowS : Con := ⟨[.r (.val (.sl false 260 (.cons (.sl false 40 y8) .nil)))], .one (.sl true 84 (.cons (.sl true 31 y6) .nil)), fun x => F.laws_toRowS x.1⟩
def L.laws_toRowS : Loops := lookL [(3, ⟨[.pat 0 (.val (.sl false 260 (.cons (.sl false 40 y8) .nil))), .own 3 (.sl true 84 (.cons (.sl true 31 y6) .nil)), .pat 4 (.val (.int .i64))], 0⟩)]
def K.laws_toRowS : Cons := lookK [(253, [], C.laws_toRow)]
theorem run.laws_toRowS : Rn K.laws_toRowS L.laws_toRowS [] Tryz.f170 C.laws_toRowS := fun x => by kernel_rfl

/-! ### laws.toRowSS: function 79 -/
def F.laws_toRowSS.s3 : Stp ((List (List DRow)) × (List (List DRow)) × Int × Unit) (List (List DRow)) := fun (x1, x2, x3, _) =>
 bif decide (x3 < (len x1)) then
  chk (inb x3 x1.length) <|
  (F.laws_toRowS (x1.getD x3.toNat ([]))).bind fun r4 =>
  chk (inb x3 x2.length) <|
  some (.again (x1, List.set x2 x3.toNat r4, w64 (x3 + 1), ()))
 else
  some (.exit (x1, x2, x3, ()))
def F.laws_toRowSS (a0 : List (List DRow)) : Option (List (List DRow)) :=
 chk (mk 24 (len a0) (len a0)) <|
 afterO (loopO F.laws_toRowSS.s3 (a0, List.replicate (Int.toNat (len a0)) ([] : List DRow), 0, ())) fun (x5, x6, x7, _) =>
 some x6
def C.laws_toRowSS : Con := ⟨[.r (.val (.sl false 192 (.sl false 260 (.cons (.sl false 40 y8) .nil))))], .one (.sl true 121 (.sl true 84 (.cons (.sl true 31 y6) .nil))), fun x => F.laws_toRowSS x.1⟩
def L.laws_toRowSS : Loops := lookL [(3, ⟨[.pat 0 (.val (.sl false 192 (.sl false 260 (.cons (.sl false 40 y8) .nil)))), .own 3 (.sl true 121 (.sl true 84 (.cons (.sl true 31 y6) .nil))), .pat 4 (.val (.int .i64))], 0⟩)]
def K.laws_toRowSS : Cons := lookK [(170, [], C.laws_toRowS)]
theorem run.laws_toRowSS : Rn K.laws_toRowSS L.laws_toRowSS [] Tryz.f79 C.laws_toRowSS := fun x => by kernel_rfl

/-! ### laws.toTurn: function 171 -/
def F.laws_toTurn (a0 : DTurn) : Option DTurn :=
 (F.laws_toIntS a0.2.2.1).bind fun r1 =>
 some (a0.1, a0.2.1, r1, ())
def C.laws_toTurn : Con := ⟨[.r (.val y11)], .one y16, fun x => F.laws_toTurn x.1⟩
def K.laws_toTurn : Cons := lookK [(144, [], C.laws_toIntS)]
theorem run.laws_toTurn : Rn K.laws_toTurn L0 [] Tryz.f171 C.laws_toTurn := fun x => by kernel_rfl

/-! ### laws.toTurnS: function 80 -/
def F.laws_toTurnS.s3 : Stp ((List DTurn) × (List DTurn) × Int × Unit) (List DTurn) := fun (x1, x2, x3, _) =>
 bif decide (x3 < (len x1)) then
  chk (inb x3 x1.length) <|
  (F.laws_toTurn (x1.getD x3.toNat (0, false, [], ()))).bind fun r4 =>
  chk (inb x3 x2.length) <|
  some (.again (x1, List.set x2 x3.toNat r4, w64 (x3 + 1), ()))
 else
  some (.exit (x1, x2, x3, ()))
def F.laws_toTurnS (a0 : List DTurn) : Option (List DTurn) :=
 chk (mk 40 (len a0) (len a0)) <|
 afterO (loopO F.laws_toTurnS.s3 (a0, List.replicate (Int.toNat (len a0)) (0, false, ([] : List Int), ()), 0, ())) fun (x5, x6, x7, _) =>
 some x6
def C.laws_toTurnS : Con := ⟨[.r (.val (.sl false 194 y11))], .one (.sl true 125 y16), fun x => F.laws_toTurnS x.1⟩
def L.laws_toTurnS : Loops := lookL [(3, ⟨[.pat 0 (.val (.sl false 194 y11)), .own 3 (.sl true 125 y16), .pat 4 (.val (.int .i64))], 0⟩)]
def K.laws_toTurnS : Cons := lookK [(171, [], C.laws_toTurn)]
theorem run.laws_toTurnS : Rn K.laws_toTurnS L.laws_toTurnS [] Tryz.f80 C.laws_toTurnS := fun x => by kernel_rfl

/-! ### laws.toOut: function 172 -/
def F.laws_toOut (a0 : DOut) : Option DOut :=
 (F.laws_toEntry a0.2.1).bind fun r1 =>
 some (a0.1, r1, ())
def C.laws_toOut : Con := ⟨[.r (.val y12)], .one y17, fun x => F.laws_toOut x.1⟩
def K.laws_toOut : Cons := lookK [(15, [], C.laws_toEntry)]
theorem run.laws_toOut : Rn K.laws_toOut L0 [] Tryz.f172 C.laws_toOut := fun x => by kernel_rfl

/-! ### laws.toOutS: function 81 -/
def F.laws_toOutS.s3 : Stp ((List DOut) × (List DOut) × Int × Unit) (List DOut) := fun (x1, x2, x3, _) =>
 bif decide (x3 < (len x1)) then
  chk (inb x3 x1.length) <|
  (F.laws_toOut (x1.getD x3.toNat (0, (0, 0, [], (0, 0, 0, 0, [], [], [], ()), ()), ()))).bind fun r4 =>
  chk (inb x3 x2.length) <|
  some (.again (x1, List.set x2 x3.toNat r4, w64 (x3 + 1), ()))
 else
  some (.exit (x1, x2, x3, ()))
def F.laws_toOutS (a0 : List DOut) : Option (List DOut) :=
 chk (mk 152 (len a0) (len a0)) <|
 afterO (loopO F.laws_toOutS.s3 (a0, List.replicate (Int.toNat (len a0)) (0, (0, 0, ([] : List DSpan), (0, 0, 0, 0, ([] : List Int), ([] : List Int), ([] : List (List Int)), ()), ()), ()), 0, ())) fun (x5, x6, x7, _) =>
 some x6
def C.laws_toOutS : Con := ⟨[.r (.val (.sl false 197 y12))], .one (.sl true 203 y17), fun x => F.laws_toOutS x.1⟩
def L.laws_toOutS : Loops := lookL [(3, ⟨[.pat 0 (.val (.sl false 197 y12)), .own 3 (.sl true 203 y17), .pat 4 (.val (.int .i64))], 0⟩)]
def K.laws_toOutS : Cons := lookK [(172, [], C.laws_toOut)]
theorem run.laws_toOutS : Rn K.laws_toOutS L.laws_toOutS [] Tryz.f81 C.laws_toOutS := fun x => by kernel_rfl

/-! ### laws.toHouse: function 23 -/
def F.laws_toHouse (a0 : DHouse) : Option DHouse :=
 (F.laws_toConf a0.1).bind fun r1 =>
 (F.laws_toSeatS a0.2.2.2.1).bind fun r2 =>
 (F.laws_toRowSS a0.2.2.2.2.1).bind fun r3 =>
 (F.laws_toTurnS a0.2.2.2.2.2.1).bind fun r4 =>
 (F.laws_toEntryS a0.2.2.2.2.2.2.2.1).bind fun r5 =>
 (F.laws_toOutS a0.2.2.2.2.2.2.2.2.1).bind fun r6 =>
 some (r1, a0.2.1, a0.2.2.1, r2, r3, r4, a0.2.2.2.2.2.2.1, r5, r6, ())
def C.laws_toHouse : Con := ⟨[.r (.val y13)], .one y18, fun x => F.laws_toHouse x.1⟩
def K.laws_toHouse : Cons := lookK [(14, [], C.laws_toEntryS), (77, [], C.laws_toConf), (78, [], C.laws_toSeatS), (79, [], C.laws_toRowSS), (80, [], C.laws_toTurnS), (81, [], C.laws_toOutS)]
theorem run.laws_toHouse : Rn K.laws_toHouse L0 [] Tryz.f23 C.laws_toHouse := fun x => by kernel_rfl

/-! ### spec.l11Nums: function 165 -/
def F.spec_l11Nums.s4 : Stp ((List Int) × Int × Int × Int × Unit) Bool := fun (x1, x2, x3, x4, _) =>
 bif decide (x4 < (len x1)) then
  chk (inb x4 x1.length) <|
  (F.spec_l1In (x1.getD x4.toNat 0) x2 x3).bind fun r5 =>
  bif !r5 then
   some (.ret false)
  else
   some (.again (x1, x2, x3, w64 (x4 + 1), ()))
 else
  some (.exit (x1, x2, x3, x4, ()))
def F.spec_l11Nums (a0 : List Int) (a1 : Int) (a2 : Int) : Option Bool :=
 bif (len a0) != 3 then
  some false
 else
 afterO (loopO F.spec_l11Nums.s4 (a0, a1, a2, 0, ())) fun (x6, x7, x8, x9, _) =>
 some true
def C.spec_l11Nums : Con := ⟨[.r (.val (.sl false 3 (.int .i64))), .r (.val (.int .i64)), .r (.val (.int .i64))], .one .bool, fun x => F.spec_l11Nums x.1 x.2.1 x.2.2.1⟩
def L.spec_l11Nums : Loops := lookL [(4, ⟨[.pat 0 (.val (.sl false 3 (.int .i64))), .pat 1 (.val (.int .i64)), .pat 2 (.val (.int .i64)), .pat 7 (.val (.int .i64))], 0⟩)]
def K.spec_l11Nums : Cons := lookK [(239, [], C.spec_l1In)]
theorem run.spec_l11Nums : Rn K.spec_l11Nums L.spec_l11Nums [] Tryz.f165 C.spec_l11Nums := fun x => by kernel_rfl

/-! ### spec.ConfOk: function 153 -/
def F.spec_ConfOk (a0 : DConf) : Option Bool :=
 (F.spec_l1In a0.1 1 8).bind fun r1 =>
 bif r1 then
  (F.spec_l1In a0.2.1 1 60).bind fun r2 =>
  bif r2 then
   (F.spec_l1In a0.2.2.1 1 10).bind fun r3 =>
   bif r3 then
    (F.spec_l11Nums a0.2.2.2.1 1 4).bind fun r4 =>
    bif r4 then
     (F.spec_l1In a0.2.2.2.2.1 1 100).bind fun r5 =>
     bif r5 then
      (F.spec_l1In a0.2.2.2.2.2.1 1 20).bind fun r6 =>
      bif r6 then
       (F.spec_l1In a0.2.2.2.2.2.2.1 0 20).bind fun r7 =>
       bif r7 then
        (F.spec_l1In a0.2.2.2.2.2.2.2.1 1 50).bind fun r8 =>
        some r8
       else
        some false
      else
       some false
     else
      some false
    else
     some false
   else
    some false
  else
   some false
 else
  some false
def C.spec_ConfOk : Con := ⟨[.r (.val y9)], .one .bool, fun x => F.spec_ConfOk x.1⟩
def K.spec_ConfOk : Cons := lookK [(165, [], C.spec_l11Nums), (239, [], C.spec_l1In)]
theorem run.spec_ConfOk : Rn K.spec_ConfOk L0 [] Tryz.f153 C.spec_ConfOk := fun x => by kernel_rfl

/-! ### spec.l8Below: function 284 -/
def F.spec_l8Below.s4 : Stp ((List DSpan) × Int × Int × Unit) Bool := fun (x2, x3, x4, _) =>
 bif decide (x4 < (len x2)) then
  chk (inb x4 x2.length) <|
  bif decide (((x2.getD x4.toNat (0, 0, ())).1) < 1) then
   some (.ret false)
  else
  chk (inb x4 x2.length) <|
  bif decide ((((x2.getD x4.toNat (0, 0, ())).2).1) > x3) then
   some (.ret false)
  else
   some (.again (x2, x3, w64 (x4 + 1), ()))
 else
  some (.exit (x2, x3, x4, ()))
def F.spec_l8Below (a0 : List DSpan) (a1 : Int) : Option Bool :=
 (F.spec_SetOk a0).bind fun r1 =>
 bif !r1 then
  some false
 else
 afterO (loopO F.spec_l8Below.s4 (a0, a1, 0, ())) fun (x5, x6, x7, _) =>
 some true
def C.spec_l8Below : Con := ⟨[.r (.val (.sl false 180 y5)), .r (.val (.int .i64))], .one .bool, fun x => F.spec_l8Below x.1 x.2.1⟩
def L.spec_l8Below : Loops := lookL [(4, ⟨[.pat 0 (.val (.sl false 180 y5)), .pat 1 (.val (.int .i64)), .pat 5 (.val (.int .i64))], 0⟩)]
def K.spec_l8Below : Cons := lookK [(135, [], C.spec_SetOk)]
theorem run.spec_l8Below : Rn K.spec_l8Below L.spec_l8Below [] Tryz.f284 C.spec_l8Below := fun x => by kernel_rfl

/-! ### spec.SetSize: function 202 -/
def F.spec_SetSize.s5 : Stp ((List DSpan) × Int × Int × Unit) Int := fun (x2, x3, x4, _) =>
 bif decide (x4 < (len x2)) then
  chk (inb x4 x2.length) <|
  chk (inb x4 x2.length) <|
  some (.again (x2, w64 ((w64 ((w64 (x3 + (((x2.getD x4.toNat (0, 0, ())).2).1))) - ((x2.getD x4.toNat (0, 0, ())).1))) + 1), w64 (x4 + 1), ()))
 else
  some (.exit (x2, x3, x4, ()))
def F.spec_SetSize (a0 : List DSpan) : Option Int :=
 (F.spec_SetOk a0).bind fun r1 =>
 bif !r1 then
  some 0
 else
 afterO (loopO F.spec_SetSize.s5 (a0, 0, 0, ())) fun (x5, x6, x7, _) =>
 some x6
def C.spec_SetSize : Con := ⟨[.r (.val (.sl false 180 y5))], .one (.int .i64), fun x => F.spec_SetSize x.1⟩
def L.spec_SetSize : Loops := lookL [(5, ⟨[.pat 0 (.val (.sl false 180 y5)), .pat 3 (.val (.int .i64)), .pat 4 (.val (.int .i64))], 0⟩)]
def K.spec_SetSize : Cons := lookK [(135, [], C.spec_SetOk)]
theorem run.spec_SetSize : Rn K.spec_SetSize L.spec_SetSize [] Tryz.f202 C.spec_SetSize := fun x => by kernel_rfl

/-! ### spec.SeatOk: function 243 -/
def F.spec_SeatOk (a0 : DSeat) (a1 : Int) : Option Bool :=
 (F.spec_l1In a1 1 8).bind fun r1 =>
 bif r1 then
  (F.spec_l1In a0.1 0 1000).bind fun r2 =>
  bif r2 then
   (F.spec_l1In a0.2.1 0 60).bind fun r3 =>
   bif r3 then
    (F.spec_l8Below a0.2.2.1 a0.2.1).bind fun r4 =>
    bif r4 then
     (F.spec_SetSize a0.2.2.1).bind fun r5 =>
     (F.spec_l1In a0.2.2.2.1 0 r5).bind fun r6 =>
     bif r6 then
      bif decide (a0.2.1 <= (w64 (a0.2.2.2.1 + a1))) then
       (F.spec_l1In a0.2.2.2.2.1 0 1000000).bind fun r7 =>
       some r7
      else
       some false
     else
      some false
    else
     some false
   else
    some false
  else
   some false
 else
  some false
def C.spec_SeatOk : Con := ⟨[.r (.val y19), .r (.val (.int .i64))], .one .bool, fun x => F.spec_SeatOk x.1 x.2.1⟩
def K.spec_SeatOk : Cons := lookK [(202, [], C.spec_SetSize), (239, [], C.spec_l1In), (284, [], C.spec_l8Below)]
theorem run.spec_SeatOk : Rn K.spec_SeatOk L0 [] Tryz.f243 C.spec_SeatOk := fun x => by kernel_rfl

/-! ### spec.RowIds: function 244 -/
def F.spec_RowIds.s5 : Stp ((List DSpan) × Int × DRow × Unit) (List DSpan) := fun (x2, x3, x4, _) =>
 bif decide (x3 < (len x4.1)) then
  chk (inb x3 x4.1.length) <|
  (F.spec_l5Join x2 ((((x4.1.getD x3.toNat (0, 0, [], (0, 0, 0, 0, [], [], [], ()), ())).2).2).1)).bind fun r5 =>
  some (.again (r5, w64 (x3 + 1), x4, ()))
 else
  some (.exit (x2, x3, x4, ()))
def F.spec_RowIds (a0 : DRow) : Option (List DSpan) :=
 (F.spec_RowOk a0).bind fun r1 =>
 bif !r1 then
  some ([] : List DSpan)
 else
 afterO (loopO F.spec_RowIds.s5 (([] : List DSpan), 0, a0, ())) fun (x6, x7, x8, _) =>
 some x6
def C.spec_RowIds : Con := ⟨[.r (.val (.cons (.sl false 31 y7) .nil))], .one (.sl true 180 y5), fun x => F.spec_RowIds x.1⟩
def L.spec_RowIds : Loops := lookL [(5, ⟨[.own 3 (.sl true 180 y5), .pat 4 (.val (.int .i64)), .root 1 true (.cons (.sl false 31 y7) .nil) [1]], 0⟩)]
def K.spec_RowIds : Cons := lookK [(114, [], C.spec_RowOk), (157, [], C.spec_l5Join)]
theorem run.spec_RowIds : Rn K.spec_RowIds L.spec_RowIds [] Tryz.f244 C.spec_RowIds := fun x => by kernel_rfl

/-! ### spec.l12Of: function 160 -/
def F.spec_l12Of.s3 : Stp ((List DSpan) × Int × Int × Int × Unit) Int := fun (x1, x2, x3, x4, _) =>
 bif decide (x4 < (len x1)) then
  chk (inb x4 x1.length) <|
  (F.spec_l1Max ((x1.getD x4.toNat (0, 0, ())).1) (w64 ((w64 (100 * x2)) + 1))).bind fun r5 =>
  chk (inb x4 x1.length) <|
  (F.spec_l1Min (((x1.getD x4.toNat (0, 0, ())).2).1) (w64 ((w64 (100 * x2)) + 60))).bind fun r6 =>
  (F.spec_l1Max (w64 ((w64 (r6 - r5)) + 1)) 0).bind fun r7 =>
  some (.again (x1, x2, w64 (x3 + r7), w64 (x4 + 1), ()))
 else
  some (.exit (x1, x2, x3, x4, ()))
def F.spec_l12Of (a0 : List DSpan) (a1 : Int) : Option Int :=
 afterO (loopO F.spec_l12Of.s3 (a0, a1, 0, 0, ())) fun (x8, x9, x10, x11, _) =>
 some x10
def C.spec_l12Of : Con := ⟨[.r (.val (.sl false 180 y5)), .r (.val (.int .i64))], .one (.int .i64), fun x => F.spec_l12Of x.1 x.2.1⟩
def L.spec_l12Of : Loops := lookL [(3, ⟨[.pat 0 (.val (.sl false 180 y5)), .pat 1 (.val (.int .i64)), .pat 5 (.val (.int .i64)), .pat 6 (.val (.int .i64))], 0⟩)]
def K.spec_l12Of : Cons := lookK [(248, [], C.spec_l1Max), (249, [], C.spec_l1Min)]
theorem run.spec_l12Of : Rn K.spec_l12Of L.spec_l12Of [] Tryz.f160 C.spec_l12Of := fun x => by kernel_rfl

/-! ### spec.TurnOk: function 245 -/
def F.spec_TurnOk (a0 : DTurn) : Option Bool :=
 (F.spec_l6Agent a0.1).bind fun r1 =>
 bif r1 then
  (F.spec_l11Nums a0.2.2.1 0 1000).bind fun r2 =>
  some r2
 else
  some false
def C.spec_TurnOk : Con := ⟨[.r (.val y11)], .one .bool, fun x => F.spec_TurnOk x.1⟩
def K.spec_TurnOk : Cons := lookK [(165, [], C.spec_l11Nums), (265, [], C.spec_l6Agent)]
theorem run.spec_TurnOk : Rn K.spec_TurnOk L0 [] Tryz.f245 C.spec_TurnOk := fun x => by kernel_rfl

/-! ### spec.l12Parts: function 154 -/
def F.spec_l12Parts.s9 : Stp (Int × Int × DHouse × Unit) (Lp (Int × DHouse × Unit) Bool) := fun (x6, x7, x8, _) =>
 bif decide (x7 < 2) then
  chk (inb x6 x8.2.2.2.2.1.length) <|
  chk (inb x7 (List.length (x8.2.2.2.2.1.getD x6.toNat ([])))) <|
  (F.spec_RowIds (List.getD (x8.2.2.2.2.1.getD x6.toNat ([])) x7.toNat ([], ()))).bind fun r9 =>
  chk (inb x6 x8.2.2.2.2.1.length) <|
  chk (inb x7 (List.length (x8.2.2.2.2.1.getD x6.toNat ([])))) <|
  (F.spec_RowOk (List.getD (x8.2.2.2.2.1.getD x6.toNat ([])) x7.toNat ([], ()))).bind fun r10 =>
  bif !r10 then
   some (.ret (.ret false))
  else
  (F.spec_l12Of r9 x6).bind fun r11 =>
  (F.spec_SetSize r9).bind fun r12 =>
  bif r11 != r12 then
   some (.ret (.ret false))
  else
   some (.again (x6, w64 (x7 + 1), x8, ()))
 else
  some (.exit (x6, x7, x8, ()))
def F.spec_l12Parts.s4 : Stp (Int × DHouse × Unit) Bool := fun (x3, x4, _) =>
 bif decide (x3 < 3) then
  chk (inb x3 x4.2.2.2.1.length) <|
  (F.spec_SeatOk (x4.2.2.2.1.getD x3.toNat (0, 0, [], 0, 0, ())) x4.1.1).bind fun r5 =>
  bif !r5 then
   some (.ret false)
  else
  chk (inb x3 x4.2.2.2.2.1.length) <|
  bif (len (x4.2.2.2.2.1.getD x3.toNat ([]))) != 2 then
   some (.ret false)
  else
  afterO (loopO F.spec_l12Parts.s9 (x3, 0, x4, ())) fun (x13, x14, x15, _) =>
  some (.again (w64 (x13 + 1), x15, ()))
 else
  some (.exit (x3, x4, ()))
def F.spec_l12Parts.s15 : Stp (Int × DHouse × Unit) Bool := fun (x18, x19, _) =>
 bif decide (x18 < 2) then
  chk (inb x18 x19.2.2.2.2.2.1.length) <|
  (F.spec_TurnOk (x19.2.2.2.2.2.1.getD x18.toNat (0, false, [], ()))).bind fun r20 =>
  bif !r20 then
   some (.ret false)
  else
   some (.again (w64 (x18 + 1), x19, ()))
 else
  some (.exit (x18, x19, ()))
def F.spec_l12Parts (a0 : DHouse) : Option Bool :=
 bif (len a0.2.2.2.1) != 3 then
  some false
 else
 bif (len a0.2.2.2.2.1) != 3 then
  some false
 else
 bif (len a0.2.2.2.2.2.1) != 2 then
  some false
 else
 (F.spec_l1In a0.2.2.2.2.2.2.1 0 1000).bind fun r1 =>
 bif !r1 then
  some false
 else
 (F.spec_l1In a0.2.1 0 100000).bind fun r2 =>
 bif !r2 then
  some false
 else
 afterO (loopO F.spec_l12Parts.s4 (0, a0, ())) fun (x16, x17, _) =>
 afterO (loopO F.spec_l12Parts.s15 (0, x17, ())) fun (x21, x22, _) =>
 some true
def C.spec_l12Parts : Con := ⟨[.r (.val y21)], .one .bool, fun x => F.spec_l12Parts x.1⟩
def L.spec_l12Parts : Loops := lookL [(9, ⟨[.pat 3 (.val (.int .i64)), .pat 4 (.val (.int .i64)), .root 1 true y21 [1]], 2⟩), (4, ⟨[.pat 3 (.val (.int .i64)), .root 1 true y21 [1]], 0⟩), (15, ⟨[.pat 6 (.val (.int .i64)), .root 1 true y21 [1]], 4⟩)]
def K.spec_l12Parts : Cons := lookK [(114, [], C.spec_RowOk), (160, [], C.spec_l12Of), (202, [], C.spec_SetSize), (239, [], C.spec_l1In), (243, [], C.spec_SeatOk), (244, [], C.spec_RowIds), (245, [], C.spec_TurnOk)]
theorem run.spec_l12Parts : Rn K.spec_l12Parts L.spec_l12Parts [] Tryz.f154 C.spec_l12Parts := fun x => by kernel_rfl

/-! ### spec.l1Bit: function 285 -/
def F.spec_l1Bit (a0 : Bool) : Option Int :=
 bif a0 then
  some 1
 else
  some 0
def C.spec_l1Bit : Con := ⟨[.r (.val .bool)], .one (.int .i64), fun x => F.spec_l1Bit x.1⟩
def K.spec_l1Bit : Cons := lookK []
theorem run.spec_l1Bit : Rn K.spec_l1Bit L0 [] Tryz.f285 C.spec_l1Bit := fun x => by kernel_rfl

/-! ### spec.l12Gen: function 246 -/
def F.spec_l12Gen.s3 : Stp ((List DOut) × Int × Int × Int × Int × Unit) Int := fun (x1, x2, x3, x4, x5, _) =>
 bif decide (x5 < (len x1)) then
  chk (inb x5 x1.length) <|
  bif ((((x1.getD x5.toNat (0, (0, 0, [], (0, 0, 0, 0, [], [], [], ()), ()), ())).2).1).1) == x2 then
   chk (inb x5 x1.length) <|
   (F.spec_l1Bit ((((((x1.getD x5.toNat (0, (0, 0, [], (0, 0, 0, 0, [], [], [], ()), ()), ())).2).1).2).1) == x3)).bind fun r6 =>
   some (.again (x1, x2, x3, w64 (x4 + r6), w64 (x5 + 1), ()))
  else
  (F.spec_l1Bit false).bind fun r7 =>
  some (.again (x1, x2, x3, w64 (x4 + r7), w64 (x5 + 1), ()))
 else
  some (.exit (x1, x2, x3, x4, x5, ()))
def F.spec_l12Gen (a0 : List DOut) (a1 : Int) (a2 : Int) : Option Int :=
 afterO (loopO F.spec_l12Gen.s3 (a0, a1, a2, 0, 0, ())) fun (x8, x9, x10, x11, x12, _) =>
 some x11
def C.spec_l12Gen : Con := ⟨[.r (.val (.sl false 203 y20)), .r (.val (.int .i64)), .r (.val (.int .i64))], .one (.int .i64), fun x => F.spec_l12Gen x.1 x.2.1 x.2.2.1⟩
def L.spec_l12Gen : Loops := lookL [(3, ⟨[.pat 0 (.val (.sl false 203 y20)), .pat 1 (.val (.int .i64)), .pat 2 (.val (.int .i64)), .pat 7 (.val (.int .i64)), .pat 8 (.val (.int .i64))], 0⟩)]
def K.spec_l12Gen : Cons := lookK [(285, [], C.spec_l1Bit)]
theorem run.spec_l12Gen : Rn K.spec_l12Gen L.spec_l12Gen [] Tryz.f246 C.spec_l12Gen := fun x => by kernel_rfl

/-! ### spec.l12Root: function 155 -/
def F.spec_l12Root.s2 : Stp (Int × DHouse × Unit) Bool := fun (x1, x2, _) =>
 bif decide (x1 < (len x2.2.2.2.2.2.2.2.1)) then
  chk (inb x1 x2.2.2.2.2.2.2.2.1.length) <|
  (F.spec_EntryOk (x2.2.2.2.2.2.2.2.1.getD x1.toNat (0, 0, [], (0, 0, 0, 0, [], [], [], ()), ()))).bind fun r3 =>
  bif !r3 then
   some (.ret false)
  else
  bif decide (x1 > 0) then
   chk (inb (w64 (x1 - 1)) x2.2.2.2.2.2.2.2.1.length) <|
   bif decide (((x2.2.2.2.2.2.2.2.1.getD x1.toNat (0, 0, [], (0, 0, 0, 0, [], [], [], ()), ())).1) < ((x2.2.2.2.2.2.2.2.1.getD (Int.toNat (w64 (x1 - 1))) (0, 0, [], (0, 0, 0, 0, [], [], [], ()), ())).1)) then
    some (.ret false)
   else
   chk (inb (w64 (x1 - 1)) x2.2.2.2.2.2.2.2.1.length) <|
   bif ((x2.2.2.2.2.2.2.2.1.getD x1.toNat (0, 0, [], (0, 0, 0, 0, [], [], [], ()), ())).1) == ((x2.2.2.2.2.2.2.2.1.getD (Int.toNat (w64 (x1 - 1))) (0, 0, [], (0, 0, 0, 0, [], [], [], ()), ())).1) then
    chk (inb (w64 (x1 - 1)) x2.2.2.2.2.2.2.2.1.length) <|
    bif decide ((((x2.2.2.2.2.2.2.2.1.getD x1.toNat (0, 0, [], (0, 0, 0, 0, [], [], [], ()), ())).2).1) <= (((x2.2.2.2.2.2.2.2.1.getD (Int.toNat (w64 (x1 - 1))) (0, 0, [], (0, 0, 0, 0, [], [], [], ()), ())).2).1)) then
     some (.ret false)
    else
     some (.again (w64 (x1 + 1), x2, ()))
   else
    some (.again (w64 (x1 + 1), x2, ()))
  else
   some (.again (w64 (x1 + 1), x2, ()))
 else
  some (.exit (x1, x2, ()))
def F.spec_l12Root.s10 : Stp (Int × DHouse × Unit) Bool := fun (x6, x7, _) =>
 bif decide (x6 < (len x7.2.2.2.2.2.2.2.2.1)) then
  chk (inb x6 x7.2.2.2.2.2.2.2.2.1.length) <|
  (F.spec_EntryOk (((x7.2.2.2.2.2.2.2.2.1.getD x6.toNat (0, (0, 0, [], (0, 0, 0, 0, [], [], [], ()), ()), ())).2).1)).bind fun r8 =>
  bif !r8 then
   some (.ret false)
  else
  chk (inb x6 x7.2.2.2.2.2.2.2.2.1.length) <|
  chk (cutOk 0 x6 x7.2.2.2.2.2.2.2.2.1.length) <|
  chk (inb x6 x7.2.2.2.2.2.2.2.2.1.length) <|
  chk (inb x6 x7.2.2.2.2.2.2.2.2.1.length) <|
  (F.spec_l12Gen (List.take (x6.toNat - 0) (List.drop 0 x7.2.2.2.2.2.2.2.2.1)) ((((x7.2.2.2.2.2.2.2.2.1.getD x6.toNat (0, (0, 0, [], (0, 0, 0, 0, [], [], [], ()), ()), ())).2).1).1) (((((x7.2.2.2.2.2.2.2.2.1.getD x6.toNat (0, (0, 0, [], (0, 0, 0, 0, [], [], [], ()), ()), ())).2).1).2).1)).bind fun r9 =>
  bif ((x7.2.2.2.2.2.2.2.2.1.getD x6.toNat (0, (0, 0, [], (0, 0, 0, 0, [], [], [], ()), ()), ())).1) != r9 then
   some (.ret false)
  else
   some (.again (w64 (x6 + 1), x7, ()))
 else
  some (.exit (x6, x7, ()))
def F.spec_l12Root (a0 : DHouse) : Option Bool :=
 afterO (loopO F.spec_l12Root.s2 (0, a0, ())) fun (x4, x5, _) =>
 afterO (loopO F.spec_l12Root.s10 (0, x5, ())) fun (x10, x11, _) =>
 some true
def C.spec_l12Root : Con := ⟨[.r (.val y21)], .one .bool, fun x => F.spec_l12Root x.1⟩
def L.spec_l12Root : Loops := lookL [(2, ⟨[.pat 3 (.val (.int .i64)), .root 1 true y21 [1]], 0⟩), (10, ⟨[.pat 5 (.val (.int .i64)), .root 1 true y21 [1]], 2⟩)]
def K.spec_l12Root : Cons := lookK [(53, [], C.spec_EntryOk), (246, [], C.spec_l12Gen)]
theorem run.spec_l12Root : Rn K.spec_l12Root L.spec_l12Root [] Tryz.f155 C.spec_l12Root := fun x => by kernel_rfl

/-! ### spec.l12All: function 156 -/
def F.spec_l12All.s6 : Stp ((List DEntry) × Int × Int × DHouse × Unit) (Lp ((List DEntry) × Int × DHouse × Unit) (List DEntry)) := fun (x4, x5, x6, x7, _) =>
 chk (inb x5 x7.2.2.2.2.1.length) <|
 bif decide (x6 < (len (x7.2.2.2.2.1.getD x5.toNat ([])))) then
  chk (inb x5 x7.2.2.2.2.1.length) <|
  chk (inb x6 (List.length (x7.2.2.2.2.1.getD x5.toNat ([])))) <|
  chk (fits (List.length x4 + List.length ((List.getD (x7.2.2.2.2.1.getD x5.toNat ([])) x6.toNat ([], ())).1)) 144) <|
  some (.again (x4 ++ ((List.getD (x7.2.2.2.2.1.getD x5.toNat ([])) x6.toNat ([], ())).1), x5, w64 (x6 + 1), x7, ()))
 else
  some (.exit (x4, x5, x6, x7, ()))
def F.spec_l12All.s3 : Stp ((List DEntry) × Int × DHouse × Unit) (List DEntry) := fun (x1, x2, x3, _) =>
 bif decide (x2 < (len x3.2.2.2.2.1)) then
  afterO (loopO F.spec_l12All.s6 (x1, x2, 0, x3, ())) fun (x8, x9, x10, x11, _) =>
  some (.again (x8, w64 (x9 + 1), x11, ()))
 else
  some (.exit (x1, x2, x3, ()))
def F.spec_l12All.s11 : Stp ((List DEntry) × Int × DHouse × Unit) (List DEntry) := fun (x15, x16, x17, _) =>
 bif decide (x16 < (len x17.2.2.2.2.2.2.2.2.1)) then
  chk (inb x16 x17.2.2.2.2.2.2.2.2.1.length) <|
  chk (fits (List.length x15 + List.length ([((x17.2.2.2.2.2.2.2.2.1.getD x16.toNat (0, (0, 0, [], (0, 0, 0, 0, [], [], [], ()), ()), ())).2).1])) 144) <|
  some (.again (x15 ++ ([((x17.2.2.2.2.2.2.2.2.1.getD x16.toNat (0, (0, 0, [], (0, 0, 0, 0, [], [], [], ()), ()), ())).2).1]), w64 (x16 + 1), x17, ()))
 else
  some (.exit (x15, x16, x17, ()))
def F.spec_l12All (a0 : DHouse) : Option (List DEntry) :=
 afterO (loopO F.spec_l12All.s3 (([] : List DEntry), 0, a0, ())) fun (x12, x13, x14, _) =>
 chk (fits (List.length x12 + List.length x14.2.2.2.2.2.2.2.1) 144) <|
 afterO (loopO F.spec_l12All.s11 (x12 ++ x14.2.2.2.2.2.2.2.1, 0, x14, ())) fun (x18, x19, x20, _) =>
 some x18
def C.spec_l12All : Con := ⟨[.r (.val y21)], .one (.sl false 31 y7), fun x => F.spec_l12All x.1⟩
def L.spec_l12All : Loops := lookL [(6, ⟨[.own 3 (.sl true 31 y7), .pat 4 (.val (.int .i64)), .pat 5 (.val (.int .i64)), .root 1 true y21 [1]], 2⟩), (3, ⟨[.own 3 (.sl true 31 y7), .pat 4 (.val (.int .i64)), .root 1 true y21 [1]], 0⟩), (11, ⟨[.own 3 (.sl true 31 y7), .pat 6 (.val (.int .i64)), .root 1 true y21 [1]], 4⟩)]
def K.spec_l12All : Cons := lookK []
theorem run.spec_l12All : Rn K.spec_l12All L.spec_l12All [] Tryz.f156 C.spec_l12All := fun x => by kernel_rfl

/-! ### spec.l12Taken: function 159 -/
def F.spec_l12Taken.s6 : Stp ((List DSpan) × Int × Int × DHouse × Unit) (Lp ((List DSpan) × Int × DHouse × Unit) (List DSpan)) := fun (x4, x5, x6, x7, _) =>
 chk (inb x5 x7.2.2.2.1.length) <|
 bif decide (x6 < (len ((((x7.2.2.2.1.getD x5.toNat (0, 0, [], 0, 0, ())).2).2).1))) then
  chk (inb x5 x7.2.2.2.1.length) <|
  chk (inb x6 (List.length ((((x7.2.2.2.1.getD x5.toNat (0, 0, [], 0, 0, ())).2).2).1))) <|
  (F.spec_l5Put x4 (w64 ((w64 (100 * x5)) + ((List.getD ((((x7.2.2.2.1.getD x5.toNat (0, 0, [], 0, 0, ())).2).2).1) x6.toNat (0, 0, ())).1)), w64 ((w64 (100 * x5)) + (((List.getD ((((x7.2.2.2.1.getD x5.toNat (0, 0, [], 0, 0, ())).2).2).1) x6.toNat (0, 0, ())).2).1)), ())).bind fun r8 =>
  some (.again (r8, x5, w64 (x6 + 1), x7, ()))
 else
  some (.exit (x4, x5, x6, x7, ()))
def F.spec_l12Taken.s3 : Stp ((List DSpan) × Int × DHouse × Unit) (List DSpan) := fun (x1, x2, x3, _) =>
 bif decide (x2 < (len x3.2.2.2.1)) then
  afterO (loopO F.spec_l12Taken.s6 (x1, x2, 0, x3, ())) fun (x9, x10, x11, x12, _) =>
  some (.again (x9, w64 (x10 + 1), x12, ()))
 else
  some (.exit (x1, x2, x3, ()))
def F.spec_l12Taken (a0 : DHouse) : Option (List DSpan) :=
 afterO (loopO F.spec_l12Taken.s3 (([] : List DSpan), 0, a0, ())) fun (x13, x14, x15, _) =>
 some x13
def C.spec_l12Taken : Con := ⟨[.r (.val y21)], .one (.sl true 180 y5), fun x => F.spec_l12Taken x.1⟩
def L.spec_l12Taken : Loops := lookL [(6, ⟨[.own 3 (.sl true 180 y5), .pat 4 (.val (.int .i64)), .pat 5 (.val (.int .i64)), .root 1 true y21 [1]], 2⟩), (3, ⟨[.own 3 (.sl true 180 y5), .pat 4 (.val (.int .i64)), .root 1 true y21 [1]], 0⟩)]
def K.spec_l12Taken : Cons := lookK [(247, [], C.spec_l5Put)]
theorem run.spec_l12Taken : Rn K.spec_l12Taken L.spec_l12Taken [] Tryz.f159 C.spec_l12Taken := fun x => by kernel_rfl

/-! ### spec.l5Same: function 158 -/
def F.spec_l5Same.s4 : Stp ((List DSpan) × (List DSpan) × Int × Unit) Bool := fun (x1, x2, x3, _) =>
 bif decide (x3 < (len x1)) then
  chk (inb x3 x1.length) <|
  chk (inb x3 x2.length) <|
  bif !(Ty.eqX (.cons (.int .i64) (.cons (.int .i64) .nil)) (x1.getD x3.toNat (0, 0, ())) (x2.getD x3.toNat (0, 0, ()))) then
   some (.ret false)
  else
   some (.again (x1, x2, w64 (x3 + 1), ()))
 else
  some (.exit (x1, x2, x3, ()))
def F.spec_l5Same (a0 : List DSpan) (a1 : List DSpan) : Option Bool :=
 bif (len a0) != (len a1) then
  some false
 else
 afterO (loopO F.spec_l5Same.s4 (a0, a1, 0, ())) fun (x4, x5, x6, _) =>
 some true
def C.spec_l5Same : Con := ⟨[.r (.val (.sl false 180 y5)), .r (.val (.sl false 180 y5))], .one .bool, fun x => F.spec_l5Same x.1 x.2.1⟩
def L.spec_l5Same : Loops := lookL [(4, ⟨[.pat 0 (.val (.sl false 180 y5)), .pat 1 (.val (.sl false 180 y5)), .pat 5 (.val (.int .i64))], 0⟩)]
def K.spec_l5Same : Cons := lookK []
theorem run.spec_l5Same : Rn K.spec_l5Same L.spec_l5Same [] Tryz.f158 C.spec_l5Same := fun x => by kernel_rfl

/-! ### spec.HouseOk: function 74 -/
def F.spec_HouseOk.s6 : Stp ((List DSpan) × (List DEntry) × Int × DHouse × Unit) Bool := fun (x5, x6, x7, x8, _) =>
 bif decide (x7 < (len x6)) then
  chk (inb x7 x6.length) <|
  (F.spec_SetApart x5 ((((x6.getD x7.toNat (0, 0, [], (0, 0, 0, 0, [], [], [], ()), ())).2).2).1)).bind fun r9 =>
  bif !r9 then
   some (.ret false)
  else
  chk (inb x7 x6.length) <|
  (F.spec_l5Join x5 ((((x6.getD x7.toNat (0, 0, [], (0, 0, 0, 0, [], [], [], ()), ())).2).2).1)).bind fun r10 =>
  some (.again (r10, x6, w64 (x7 + 1), x8, ()))
 else
  some (.exit (x5, x6, x7, x8, ()))
def F.spec_HouseOk.s18 : Stp (Int × Int × Int × DHouse × Unit) (Lp (Int × DHouse × Unit) Bool) := fun (x19, x20, x21, x22, _) =>
 bif decide (x21 < (len x22.2.2.2.2.2.2.2.1)) then
  chk (inb x21 x22.2.2.2.2.2.2.2.1.length) <|
  (F.spec_l12Of ((((x22.2.2.2.2.2.2.2.1.getD x21.toNat (0, 0, [], (0, 0, 0, 0, [], [], [], ()), ())).2).2).1) x19).bind fun r23 =>
  some (.again (x19, w64 (x20 + r23), w64 (x21 + 1), x22, ()))
 else
  some (.exit (x19, x20, x21, x22, ()))
def F.spec_HouseOk.s22 : Stp (Int × Int × Int × DHouse × Unit) (Lp (Int × DHouse × Unit) Bool) := fun (x28, x29, x30, x31, _) =>
 bif decide (x30 < (len x31.2.2.2.2.2.2.2.2.1)) then
  chk (inb x30 x31.2.2.2.2.2.2.2.2.1.length) <|
  (F.spec_l12Of ((((((x31.2.2.2.2.2.2.2.2.1.getD x30.toNat (0, (0, 0, [], (0, 0, 0, 0, [], [], [], ()), ()), ())).2).1).2).2).1) x28).bind fun r32 =>
  some (.again (x28, w64 (x29 + r32), w64 (x30 + 1), x31, ()))
 else
  some (.exit (x28, x29, x30, x31, ()))
def F.spec_HouseOk.s14 : Stp (Int × DHouse × Unit) Bool := fun (x17, x18, _) =>
 bif decide (x17 < 3) then
  afterO (loopO F.spec_HouseOk.s18 (x17, 0, 0, x18, ())) fun (x24, x25, x26, x27, _) =>
  afterO (loopO F.spec_HouseOk.s22 (x24, x25, 0, x27, ())) fun (x33, x34, x35, x36, _) =>
  chk (inb x33 x36.2.2.2.1.length) <|
  bif x34 != (((((x36.2.2.2.1.getD x33.toNat (0, 0, [], 0, 0, ())).2).2).2).1) then
   some (.ret false)
  else
   some (.again (w64 (x33 + 1), x36, ()))
 else
  some (.exit (x17, x18, ()))
def F.spec_HouseOk (a0 : DHouse) : Option Bool :=
 (F.spec_ConfOk a0.1).bind fun r1 =>
 bif !r1 then
  some false
 else
 (F.spec_l12Parts a0).bind fun r2 =>
 bif !r2 then
  some false
 else
 (F.spec_l12Root a0).bind fun r3 =>
 bif !r3 then
  some false
 else
 (F.spec_l12All a0).bind fun r4 =>
 afterO (loopO F.spec_HouseOk.s6 (([] : List DSpan), r4, 0, a0, ())) fun (x11, x12, x13, x14, _) =>
 (F.spec_l12Taken x14).bind fun r15 =>
 (F.spec_l5Same x11 r15).bind fun r16 =>
 bif !r16 then
  some false
 else
 afterO (loopO F.spec_HouseOk.s14 (0, x14, ())) fun (x37, x38, _) =>
 some true
def C.spec_HouseOk : Con := ⟨[.r (.val y21)], .one .bool, fun x => F.spec_HouseOk x.1⟩
def L.spec_HouseOk : Loops := lookL [(6, ⟨[.own 3 (.sl true 180 y5), .pat 4 (.val (.sl false 31 y7)), .pat 5 (.val (.int .i64)), .root 1 true y21 [1]], 0⟩), (18, ⟨[.pat 6 (.val (.int .i64)), .pat 7 (.val (.int .i64)), .pat 8 (.val (.int .i64)), .root 1 true y21 [1]], 4⟩), (22, ⟨[.pat 6 (.val (.int .i64)), .pat 7 (.val (.int .i64)), .pat 9 (.val (.int .i64)), .root 1 true y21 [1]], 6⟩), (14, ⟨[.pat 6 (.val (.int .i64)), .root 1 true y21 [1]], 2⟩)]
def K.spec_HouseOk : Cons := lookK [(137, [], C.spec_SetApart), (153, [], C.spec_ConfOk), (154, [], C.spec_l12Parts), (155, [], C.spec_l12Root), (156, [], C.spec_l12All), (157, [], C.spec_l5Join), (158, [], C.spec_l5Same), (159, [], C.spec_l12Taken), (160, [], C.spec_l12Of)]
theorem run.spec_HouseOk : Rn K.spec_HouseOk L.spec_HouseOk [] Tryz.f74 C.spec_HouseOk := fun x => by kernel_rfl

/-! ### spec.l12Conf: function 161 -/
def F.spec_l12Conf (a0 : DConf) : Option DConf :=
 chk (fits (List.length ([] : List Int) + List.length a0.2.2.2.1) 8) <|
 some (a0.1, a0.2.1, a0.2.2.1, ([] : List Int) ++ a0.2.2.2.1, a0.2.2.2.2)
def C.spec_l12Conf : Con := ⟨[.r (.val y9)], .one y14, fun x => F.spec_l12Conf x.1⟩
def K.spec_l12Conf : Cons := lookK []
theorem run.spec_l12Conf : Rn K.spec_l12Conf L0 [] Tryz.f161 C.spec_l12Conf := fun x => by kernel_rfl

/-! ### spec.l9Copy: function 162 -/
def F.spec_l9Copy (a0 : DSeat) : Option DSeat :=
 (F.spec_l5Copy a0.2.2.1).bind fun r1 =>
 some (a0.1, a0.2.1, r1, a0.2.2.2)
def C.spec_l9Copy : Con := ⟨[.r (.val y19)], .one y15, fun x => F.spec_l9Copy x.1⟩
def K.spec_l9Copy : Cons := lookK [(139, [], C.spec_l5Copy)]
theorem run.spec_l9Copy : Rn K.spec_l9Copy L0 [] Tryz.f162 C.spec_l9Copy := fun x => by kernel_rfl

/-! ### spec.l11Copy: function 164 -/
def F.spec_l11Copy (a0 : DTurn) : Option DTurn :=
 chk (fits (List.length ([] : List Int) + List.length a0.2.2.1) 8) <|
 some (a0.1, a0.2.1, ([] : List Int) ++ a0.2.2.1, ())
def C.spec_l11Copy : Con := ⟨[.r (.val y11)], .one y16, fun x => F.spec_l11Copy x.1⟩
def K.spec_l11Copy : Cons := lookK []
theorem run.spec_l11Copy : Rn K.spec_l11Copy L0 [] Tryz.f164 C.spec_l11Copy := fun x => by kernel_rfl

/-! ### spec.l12Copy: function 75 -/
def F.spec_l12Copy.s3 : Stp (Int × DHouse × DHouse × DHouse × Unit) DHouse := fun (x2, x3, x4, x5, _) =>
 bif decide (x2 < (len x3.2.2.2.1)) then
  chk (inb x2 x3.2.2.2.1.length) <|
  (F.spec_l9Copy (x3.2.2.2.1.getD x2.toNat (0, 0, [], 0, 0, ()))).bind fun r6 =>
  chk (fits (List.length x5.2.2.2.1 + List.length ([r6])) 56) <|
  some (.again (w64 (x2 + 1), x3, x4, (x5.1, x5.2.1, x5.2.2.1, x5.2.2.2.1 ++ ([r6]), x5.2.2.2.2), ()))
 else
  some (.exit (x2, x3, x4, x5, ()))
def F.spec_l12Copy.s11 : Stp (Int × (List DRow) × Int × DHouse × DHouse × DHouse × Unit) (Lp (Int × DHouse × DHouse × DHouse × Unit) DHouse) := fun (x15, x16, x17, x18, x19, x20, _) =>
 chk (inb x15 x18.2.2.2.2.1.length) <|
 bif decide (x17 < (len (x18.2.2.2.2.1.getD x15.toNat ([])))) then
  chk (inb x15 x18.2.2.2.2.1.length) <|
  chk (inb x17 (List.length (x18.2.2.2.2.1.getD x15.toNat ([])))) <|
  (F.spec_l10Copy (List.getD (x18.2.2.2.2.1.getD x15.toNat ([])) x17.toNat ([], ()))).bind fun r21 =>
  chk (fits (List.length x16 + List.length ([r21])) 24) <|
  some (.again (x15, x16 ++ ([r21]), w64 (x17 + 1), x18, x19, x20, ()))
 else
  some (.exit (x15, x16, x17, x18, x19, x20, ()))
def F.spec_l12Copy.s7 : Stp (Int × DHouse × DHouse × DHouse × Unit) DHouse := fun (x11, x12, x13, x14, _) =>
 bif decide (x11 < (len x12.2.2.2.2.1)) then
  afterO (loopO F.spec_l12Copy.s11 (x11, ([] : List DRow), 0, x12, x13, x14, ())) fun (x22, x23, x24, x25, x26, x27, _) =>
  chk (fits (List.length x27.2.2.2.2.1 + List.length ([x23])) 24) <|
  some (.again (w64 (x22 + 1), x25, x26, (x27.1, x27.2.1, x27.2.2.1, x27.2.2.2.1, x27.2.2.2.2.1 ++ ([x23]), x27.2.2.2.2.2), ()))
 else
  some (.exit (x11, x12, x13, x14, ()))
def F.spec_l12Copy.s16 : Stp (Int × DHouse × DHouse × DHouse × Unit) DHouse := fun (x32, x33, x34, x35, _) =>
 bif decide (x32 < (len x33.2.2.2.2.2.1)) then
  chk (inb x32 x33.2.2.2.2.2.1.length) <|
  (F.spec_l11Copy (x33.2.2.2.2.2.1.getD x32.toNat (0, false, [], ()))).bind fun r36 =>
  chk (fits (List.length x35.2.2.2.2.2.1 + List.length ([r36])) 40) <|
  some (.again (w64 (x32 + 1), x33, x34, (x35.1, x35.2.1, x35.2.2.1, x35.2.2.2.1, x35.2.2.2.2.1, x35.2.2.2.2.2.1 ++ ([r36]), x35.2.2.2.2.2.2), ()))
 else
  some (.exit (x32, x33, x34, x35, ()))
def F.spec_l12Copy.s20 : Stp (Int × DHouse × DHouse × DHouse × Unit) DHouse := fun (x41, x42, x43, x44, _) =>
 bif decide (x41 < (len x42.2.2.2.2.2.2.2.1)) then
  chk (inb x41 x42.2.2.2.2.2.2.2.1.length) <|
  (F.spec_l6Copy (x42.2.2.2.2.2.2.2.1.getD x41.toNat (0, 0, [], (0, 0, 0, 0, [], [], [], ()), ()))).bind fun r45 =>
  chk (fits (List.length x44.2.2.2.2.2.2.2.1 + List.length ([r45])) 144) <|
  some (.again (w64 (x41 + 1), x42, x43, (x44.1, x44.2.1, x44.2.2.1, x44.2.2.2.1, x44.2.2.2.2.1, x44.2.2.2.2.2.1, x44.2.2.2.2.2.2.1, x44.2.2.2.2.2.2.2.1 ++ ([r45]), x44.2.2.2.2.2.2.2.2), ()))
 else
  some (.exit (x41, x42, x43, x44, ()))
def F.spec_l12Copy.s24 : Stp (Int × DHouse × DHouse × DHouse × Unit) DHouse := fun (x50, x51, x52, x53, _) =>
 bif decide (x50 < (len x51.2.2.2.2.2.2.2.2.1)) then
  chk (inb x50 x51.2.2.2.2.2.2.2.2.1.length) <|
  chk (inb x50 x51.2.2.2.2.2.2.2.2.1.length) <|
  (F.spec_l6Copy (((x51.2.2.2.2.2.2.2.2.1.getD x50.toNat (0, (0, 0, [], (0, 0, 0, 0, [], [], [], ()), ()), ())).2).1)).bind fun r54 =>
  chk (fits (List.length x53.2.2.2.2.2.2.2.2.1 + List.length ([((x51.2.2.2.2.2.2.2.2.1.getD x50.toNat (0, (0, 0, [], (0, 0, 0, 0, [], [], [], ()), ()), ())).1, r54, ())])) 152) <|
  some (.again (w64 (x50 + 1), x51, x52, (x53.1, x53.2.1, x53.2.2.1, x53.2.2.2.1, x53.2.2.2.2.1, x53.2.2.2.2.2.1, x53.2.2.2.2.2.2.1, x53.2.2.2.2.2.2.2.1, x53.2.2.2.2.2.2.2.2.1 ++ ([((x51.2.2.2.2.2.2.2.2.1.getD x50.toNat (0, (0, 0, [], (0, 0, 0, 0, [], [], [], ()), ()), ())).1, r54, ())]), x53.2.2.2.2.2.2.2.2.2), ()))
 else
  some (.exit (x50, x51, x52, x53, ()))
def F.spec_l12Copy (a0 : DHouse) : Option DHouse :=
 (F.spec_l12Conf a0.1).bind fun r1 =>
 afterO (loopO F.spec_l12Copy.s3 (0, a0, ((0, 0, 0, ([] : List Int), 0, 0, 0, 0, ()), 0, false, ([] : List DSeat), ([] : List (List DRow)), ([] : List DTurn), 0, ([] : List DEntry), ([] : List DOut), ()), (r1, a0.2.1, a0.2.2.1, ([] : List DSeat), ([] : List (List DRow)), ([] : List DTurn), a0.2.2.2.2.2.2.1, ([] : List DEntry), ([] : List DOut), ()), ())) fun (x7, x8, x9, x10, _) =>
 afterO (loopO F.spec_l12Copy.s7 (0, x8, x9, x10, ())) fun (x28, x29, x30, x31, _) =>
 afterO (loopO F.spec_l12Copy.s16 (0, x29, x30, x31, ())) fun (x37, x38, x39, x40, _) =>
 afterO (loopO F.spec_l12Copy.s20 (0, x38, x39, x40, ())) fun (x46, x47, x48, x49, _) =>
 afterO (loopO F.spec_l12Copy.s24 (0, x47, x48, x49, ())) fun (x55, x56, x57, x58, _) =>
 some x58
def C.spec_l12Copy : Con := ⟨[.r (.val y21)], .one y18, fun x => F.spec_l12Copy x.1⟩
def L.spec_l12Copy : Loops := lookL [(3, ⟨[.pat 4 (.val (.int .i64)), .root 1 true y21 [1], .root 2 true y18 [2], .root 3 true y18 [3]], 0⟩), (11, ⟨[.pat 5 (.val (.int .i64)), .own 6 (.sl true 84 (.cons (.sl true 31 y6) .nil)), .pat 7 (.val (.int .i64)), .root 1 true y21 [1], .root 2 true y18 [2], .root 3 true y18 [3]], 4⟩), (7, ⟨[.pat 5 (.val (.int .i64)), .root 1 true y21 [1], .root 2 true y18 [2], .root 3 true y18 [3]], 2⟩), (16, ⟨[.pat 8 (.val (.int .i64)), .root 1 true y21 [1], .root 2 true y18 [2], .root 3 true y18 [3]], 6⟩), (20, ⟨[.pat 9 (.val (.int .i64)), .root 1 true y21 [1], .root 2 true y18 [2], .root 3 true y18 [3]], 8⟩), (24, ⟨[.pat 10 (.val (.int .i64)), .root 1 true y21 [1], .root 2 true y18 [2], .root 3 true y18 [3]], 10⟩)]
def K.spec_l12Copy : Cons := lookK [(55, [], C.spec_l6Copy), (161, [], C.spec_l12Conf), (162, [], C.spec_l9Copy), (163, [], C.spec_l10Copy), (164, [], C.spec_l11Copy)]
theorem run.spec_l12Copy : Rn K.spec_l12Copy L.spec_l12Copy [] Tryz.f75 C.spec_l12Copy := fun x => by kernel_rfl

/-! ### spec.l6Full: function 286 -/
def F.spec_l6Full.s3 : Stp ((List Int) × Int × Int × Unit) Int := fun (x1, x2, x3, _) =>
 bif decide (x3 < (len x1)) then
  chk (inb x3 x1.length) <|
  (F.spec_l1Bit (decide ((x1.getD x3.toNat 0) > 0))).bind fun r4 =>
  some (.again (x1, w64 (x2 + r4), w64 (x3 + 1), ()))
 else
  some (.exit (x1, x2, x3, ()))
def F.spec_l6Full (a0 : List Int) : Option Int :=
 afterO (loopO F.spec_l6Full.s3 (a0, 0, 0, ())) fun (x5, x6, x7, _) =>
 some x6
def C.spec_l6Full : Con := ⟨[.r (.val (.sl false 3 (.int .i64)))], .one (.int .i64), fun x => F.spec_l6Full x.1⟩
def L.spec_l6Full : Loops := lookL [(3, ⟨[.pat 0 (.val (.sl false 3 (.int .i64))), .pat 3 (.val (.int .i64)), .pat 4 (.val (.int .i64))], 0⟩)]
def K.spec_l6Full : Cons := lookK [(285, [], C.spec_l1Bit)]
theorem run.spec_l6Full : Rn K.spec_l6Full L.spec_l6Full [] Tryz.f286 C.spec_l6Full := fun x => by kernel_rfl

/-! ### spec.EntrySize: function 250 -/
def F.spec_EntrySize (a0 : DEntry) : Option Int :=
 (F.spec_EntryOk a0).bind fun r1 =>
 bif !r1 then
  some 0
 else
 (F.spec_l6Full a0.2.2.2.1.2.2.2.2.1).bind fun r2 =>
 (F.spec_l6Full a0.2.2.2.1.2.2.2.2.2.1).bind fun r3 =>
 chk (inb 0 a0.2.2.2.1.2.2.2.2.2.2.1.length) <|
 (F.spec_l6Full (a0.2.2.2.1.2.2.2.2.2.2.1.getD 0 ([]))).bind fun r4 =>
 chk (inb 1 a0.2.2.2.1.2.2.2.2.2.2.1.length) <|
 (F.spec_l6Full (a0.2.2.2.1.2.2.2.2.2.2.1.getD 1 ([]))).bind fun r5 =>
 some (w64 ((w64 ((w64 ((w64 ((w64 (4 + r2)) + r3)) + r4)) + r5)) + (w64 (2 * (len a0.2.2.1)))))
def C.spec_EntrySize : Con := ⟨[.r (.val y7)], .one (.int .i64), fun x => F.spec_EntrySize x.1⟩
def K.spec_EntrySize : Cons := lookK [(53, [], C.spec_EntryOk), (286, [], C.spec_l6Full)]
theorem run.spec_EntrySize : Rn K.spec_EntrySize L0 [] Tryz.f250 C.spec_EntrySize := fun x => by kernel_rfl

/-! ### spec.l14Sizes: function 166 -/
def F.spec_l14Sizes.s3 : Stp (Int × (List Int) × Int × DHouse × Unit) (List Int) := fun (x1, x2, x3, x4, _) =>
 bif decide (x3 < 3) then
  chk (inb x3 x4.2.2.2.2.1.length) <|
  chk (inb x1 (List.length (x4.2.2.2.2.1.getD x3.toNat ([])))) <|
  bif decide ((len ((List.getD (x4.2.2.2.2.1.getD x3.toNat ([])) x1.toNat ([], ())).1)) > 0) then
   chk (inb x3 x4.2.2.2.2.1.length) <|
   chk (inb x1 (List.length (x4.2.2.2.2.1.getD x3.toNat ([])))) <|
   chk (inb 0 (List.length ((List.getD (x4.2.2.2.2.1.getD x3.toNat ([])) x1.toNat ([], ())).1))) <|
   (F.spec_EntrySize (List.getD ((List.getD (x4.2.2.2.2.1.getD x3.toNat ([])) x1.toNat ([], ())).1) 0 (0, 0, [], (0, 0, 0, 0, [], [], [], ()), ()))).bind fun r5 =>
   (F.spec_l1Min r5 200).bind fun r6 =>
   chk (fits (List.length x2 + List.length ([r6])) 8) <|
   some (.again (x1, x2 ++ ([r6]), w64 (x3 + 1), x4, ()))
  else
  chk (fits (List.length x2 + List.length ([0])) 8) <|
  some (.again (x1, x2 ++ ([0]), w64 (x3 + 1), x4, ()))
 else
  some (.exit (x1, x2, x3, x4, ()))
def F.spec_l14Sizes (a0 : DHouse) (a1 : Int) : Option (List Int) :=
 afterO (loopO F.spec_l14Sizes.s3 (a1, ([] : List Int), 0, a0, ())) fun (x7, x8, x9, x10, _) =>
 some x8
def C.spec_l14Sizes : Con := ⟨[.r (.val y21), .r (.val (.int .i64))], .one (.sl true 3 (.int .i64)), fun x => F.spec_l14Sizes x.1 x.2.1⟩
def L.spec_l14Sizes : Loops := lookL [(3, ⟨[.pat 1 (.val (.int .i64)), .own 5 (.sl true 3 (.int .i64)), .pat 6 (.val (.int .i64)), .root 2 true y21 [2]], 0⟩)]
def K.spec_l14Sizes : Cons := lookK [(249, [], C.spec_l1Min), (250, [], C.spec_EntrySize)]
theorem run.spec_l14Sizes : Rn K.spec_l14Sizes L.spec_l14Sizes [] Tryz.f166 C.spec_l14Sizes := fun x => by kernel_rfl

/-! ### spec.PickClass: function 167 -/
def F.spec_PickClass (a0 : Bool) (a1 : Bool) (a2 : Int) (a3 : Int) : Option (Int × Int) :=
 (F.spec_l1In a2 0 1000).bind fun r1 =>
 bif !r1 then
  some (-1, 0)
 else
 (F.spec_l1In a3 1 10).bind fun r2 =>
 bif !r2 then
  some (-1, 0)
 else
 bif !a0 then
  bif !a1 then
   some (-1, 0)
  else
  bif !a1 then
   some (0, 0)
  else
  bif !a0 then
   some (1, 0)
  else
  bif decide ((w64 (a2 + 1)) >= a3) then
   some (1, 0)
  else
   some (0, w64 (a2 + 1))
 else
 bif !a1 then
  some (0, 0)
 else
 bif !a0 then
  some (1, 0)
 else
 bif decide ((w64 (a2 + 1)) >= a3) then
  some (1, 0)
 else
  some (0, w64 (a2 + 1))
def C.spec_PickClass : Con := ⟨[.r (.val .bool), .r (.val .bool), .r (.val (.int .i64)), .r (.val (.int .i64))], .many [(.int .i64), (.int .i64)], fun x => F.spec_PickClass x.1 x.2.1 x.2.2.1 x.2.2.2.1⟩
def K.spec_PickClass : Cons := lookK [(239, [], C.spec_l1In)]
theorem run.spec_PickClass : Rn K.spec_PickClass L0 [] Tryz.f167 C.spec_PickClass := fun x => by kernel_rfl

/-! ### spec.TurnNew: function 251 -/
def F.spec_TurnNew : Option DTurn :=
 chk (mk 8 3 3) <|
 some (0, true, List.replicate 3 0, ())
def C.spec_TurnNew : Con := ⟨[], .one y16, fun x => F.spec_TurnNew⟩
def K.spec_TurnNew : Cons := lookK []
theorem run.spec_TurnNew : Rn K.spec_TurnNew L0 [] Tryz.f251 C.spec_TurnNew := fun x => by kernel_rfl

/-! ### spec.l11Next: function 252 -/
def F.spec_l11Next (a0 : DTurn) : Option DTurn :=
 some (Int.tmod (w64 (a0.1 + 1)) 3, true, a0.2.2)
def C.spec_l11Next : Con := ⟨[.o y16], .one y16, fun x => F.spec_l11Next x.1⟩
def K.spec_l11Next : Cons := lookK []
theorem run.spec_l11Next : Rn K.spec_l11Next L0 [] Tryz.f252 C.spec_l11Next := fun x => by kernel_rfl

/-! ### spec.Pick: function 168 -/
def F.spec_Pick.s6 : Stp ((List Int) × (List Int) × Int × DTurn × DTurn × Unit) (Int × DTurn) := fun (x8, x9, x10, x11, x12, _) =>
 chk (inb x12.1 x8.length) <|
 bif (x8.getD (Int.toNat x12.1) 0) == 0 then
  chk (inb x12.1 x12.2.2.1.length) <|
  (F.spec_l11Next (x12.1, x12.2.1, List.set x12.2.2.1 (Int.toNat x12.1) 0, x12.2.2.2)).bind fun r13 =>
  some (.again (x8, x9, x10, x11, r13, ()))
 else
 bif x12.2.1 then
  chk (inb x12.1 x12.2.2.1.length) <|
  chk (inb x12.1 x9.length) <|
  (F.spec_l1Min (w64 ((x12.2.2.1.getD (Int.toNat x12.1) 0) + (w64 (x10 * (x9.getD (Int.toNat x12.1) 0))))) 1000).bind fun r14 =>
  chk (inb x12.1 x12.2.2.1.length) <|
  chk (inb x12.1 x8.length) <|
  chk (inb x12.1 (List.length (List.set x12.2.2.1 (Int.toNat x12.1) r14))) <|
  bif decide ((x8.getD (Int.toNat x12.1) 0) <= (List.getD (List.set x12.2.2.1 (Int.toNat x12.1) r14) (Int.toNat x12.1) 0)) then
   chk (inb x12.1 (List.length (List.set x12.2.2.1 (Int.toNat x12.1) r14))) <|
   chk (inb x12.1 x8.length) <|
   chk (inb x12.1 (List.length (List.set x12.2.2.1 (Int.toNat x12.1) r14))) <|
   (some (List.set (List.set x12.2.2.1 (Int.toNat x12.1) r14) (Int.toNat x12.1) (w64 ((List.getD (List.set x12.2.2.1 (Int.toNat x12.1) r14) (Int.toNat x12.1) 0) - (x8.getD (Int.toNat x12.1) 0))))).bind fun r15 =>
   some (.ret (x12.1, (x12.1, false, r15, x12.2.2.2)))
  else
  (F.spec_l11Next (x12.1, false, List.set x12.2.2.1 (Int.toNat x12.1) r14, x12.2.2.2)).bind fun r16 =>
  some (.again (x8, x9, x10, x11, r16, ()))
 else
 chk (inb x12.1 x8.length) <|
 chk (inb x12.1 x12.2.2.1.length) <|
 bif decide ((x8.getD (Int.toNat x12.1) 0) <= (x12.2.2.1.getD (Int.toNat x12.1) 0)) then
  chk (inb x12.1 x12.2.2.1.length) <|
  chk (inb x12.1 x8.length) <|
  chk (inb x12.1 x12.2.2.1.length) <|
  (some (List.set x12.2.2.1 (Int.toNat x12.1) (w64 ((x12.2.2.1.getD (Int.toNat x12.1) 0) - (x8.getD (Int.toNat x12.1) 0))))).bind fun r17 =>
  some (.ret (x12.1, (x12.1, x12.2.1, r17, x12.2.2.2)))
 else
 (F.spec_l11Next x12).bind fun r18 =>
 some (.again (x8, x9, x10, x11, r18, ()))
def F.spec_Pick (a0 : List Int) (a1 : List Int) (a2 : Int) (a3 : DTurn) : Option (Int × DTurn) :=
 (F.spec_l11Copy a3).bind fun r1 =>
 (F.spec_l11Nums a0 0 200).bind fun r2 =>
 bif !r2 then
  some (-1, r1)
 else
 (F.spec_l11Nums a1 1 4).bind fun r3 =>
 bif !r3 then
  some (-1, r1)
 else
 (F.spec_l1In a2 1 60).bind fun r4 =>
 bif !r4 then
  some (-1, r1)
 else
 (F.spec_TurnOk a3).bind fun r5 =>
 bif !r5 then
  some (-1, r1)
 else
 (F.spec_l11Nums a0 0 0).bind fun r6 =>
 bif r6 then
  (F.spec_TurnNew).bind fun r7 =>
  some (-1, r7)
 else
 afterO (loopO F.spec_Pick.s6 (a0, a1, a2, (0, false, ([] : List Int), ()), r1, ())) fun (x19, x20, x21, x22, x23, _) =>
 none
def C.spec_Pick : Con := ⟨[.r (.val (.sl false 3 (.int .i64))), .r (.val (.sl false 3 (.int .i64))), .r (.val (.int .i64)), .r (.val y11)], .many [(.int .i64), y16], fun x => F.spec_Pick x.1 x.2.1 x.2.2.1 x.2.2.2.1⟩
def L.spec_Pick : Loops := lookL [(6, ⟨[.pat 0 (.val (.sl false 3 (.int .i64))), .pat 1 (.val (.sl false 3 (.int .i64))), .pat 2 (.val (.int .i64)), .root 9 true y16 [9], .root 10 true y16 [10]], 0⟩)]
def K.spec_Pick : Cons := lookK [(164, [], C.spec_l11Copy), (165, [], C.spec_l11Nums), (239, [], C.spec_l1In), (245, [], C.spec_TurnOk), (249, [], C.spec_l1Min), (251, [], C.spec_TurnNew), (252, [], C.spec_l11Next)]
theorem run.spec_Pick : Rn K.spec_Pick L.spec_Pick [] Tryz.f168 C.spec_Pick := fun x => by kernel_rfl

/-! ### spec.l14Next: function 76 -/
def F.spec_l14Next (a0 : DHouse) : Option (Int × Int × DHouse) :=
 (F.spec_l12Copy a0).bind fun r1 =>
 (F.spec_l14Sizes a0 0).bind fun r2 =>
 (F.spec_l11Nums r2 0 0).bind fun r3 =>
 (F.spec_l14Sizes a0 1).bind fun r4 =>
 (F.spec_l11Nums r4 0 0).bind fun r5 =>
 (F.spec_PickClass (!r3) (!r5) a0.2.2.2.2.2.2.1 a0.1.2.2.1).bind fun r6 =>
 bif decide (r6.1 < 0) then
  some (-1, -1, r1)
 else
 (F.spec_l14Sizes a0 r6.1).bind fun r7 =>
 chk (inb r6.1 a0.2.2.2.2.2.1.length) <|
 (F.spec_Pick r7 a0.1.2.2.2.1 a0.1.2.1 (a0.2.2.2.2.2.1.getD (Int.toNat r6.1) (0, false, [], ()))).bind fun r8 =>
 chk (inb r6.1 r1.2.2.2.2.2.1.length) <|
 some (r8.1, r6.1, (r1.1, r1.2.1, r1.2.2.1, r1.2.2.2.1, r1.2.2.2.2.1, List.set r1.2.2.2.2.2.1 (Int.toNat r6.1) r8.2, r6.2, r1.2.2.2.2.2.2.2))
def C.spec_l14Next : Con := ⟨[.r (.val y21)], .many [(.int .i64), (.int .i64), y22], fun x => F.spec_l14Next x.1⟩
def K.spec_l14Next : Cons := lookK [(75, [], C.spec_l12Copy), (165, [], C.spec_l11Nums), (166, [], C.spec_l14Sizes), (167, [], C.spec_PickClass), (168, [], C.spec_Pick)]
theorem run.spec_l14Next : Rn K.spec_l14Next L0 [] Tryz.f76 C.spec_l14Next := fun x => by kernel_rfl

/-! ### spec.NextOf: function 22 -/
def F.spec_NextOf (a0 : DHouse) : Option (Int × Int × DHouse) :=
 (F.spec_HouseOk a0).bind fun r1 =>
 bif !r1 then
  (F.spec_l12Copy a0).bind fun r2 =>
  some (-1, -1, r2)
 else
 (F.spec_l14Next a0).bind fun r3 =>
 some (r3.1, r3.2.1, r3.2.2)
def C.spec_NextOf : Con := ⟨[.r (.val y21)], .many [(.int .i64), (.int .i64), y21], fun x => F.spec_NextOf x.1⟩
def K.spec_NextOf : Cons := lookK [(74, [], C.spec_HouseOk), (75, [], C.spec_l12Copy), (76, [], C.spec_l14Next)]
theorem run.spec_NextOf : Rn K.spec_NextOf L0 [] Tryz.f22 C.spec_NextOf := fun x => by kernel_rfl

/-! ### impl.copyConf: function 173 -/
def F.impl_copyConf (a0 : DConf) : Option DConf :=
 (F.impl_copyInts a0.2.2.2.1).bind fun r1 =>
 some (a0.1, a0.2.1, a0.2.2.1, r1, a0.2.2.2.2)
def C.impl_copyConf : Con := ⟨[.r (.val y9)], .one y14, fun x => F.impl_copyConf x.1⟩
def K.impl_copyConf : Cons := lookK [(238, [], C.impl_copyInts)]
theorem run.impl_copyConf : Rn K.impl_copyConf L0 [] Tryz.f173 C.impl_copyConf := fun x => by kernel_rfl

/-! ### impl.copyOuts: function 174 -/
def F.impl_copyOuts.s3 : Stp ((List DOut) × (List DOut) × Int × Int × Unit) (List DOut) := fun (x1, x2, x3, x4, _) =>
 bif decide (x4 < x3) then
  chk (inb x4 x2.length) <|
  (F.impl_copyEntry (((x2.getD x4.toNat (0, (0, 0, [], (0, 0, 0, 0, [], [], [], ()), ()), ())).2).1)).bind fun r5 =>
  chk (fits (List.length x1 + List.length ([((x2.getD x4.toNat (0, (0, 0, [], (0, 0, 0, 0, [], [], [], ()), ()), ())).1, r5, ())])) 152) <|
  some (.again (x1 ++ ([((x2.getD x4.toNat (0, (0, 0, [], (0, 0, 0, 0, [], [], [], ()), ()), ())).1, r5, ())]), x2, x3, w64 (x4 + 1), ()))
 else
  some (.exit (x1, x2, x3, x4, ()))
def F.impl_copyOuts (a0 : List DOut) : Option (List DOut) :=
 afterO (loopO F.impl_copyOuts.s3 (([] : List DOut), a0, len a0, 0, ())) fun (x6, x7, x8, x9, _) =>
 some x6
def C.impl_copyOuts : Con := ⟨[.r (.val (.sl false 203 y20))], .one (.sl true 203 y17), fun x => F.impl_copyOuts x.1⟩
def L.impl_copyOuts : Loops := lookL [(3, ⟨[.own 3 (.sl true 203 y17), .pat 6 (.val (.sl false 203 y20)), .pat 7 (.val (.int .i64)), .pat 8 (.val (.int .i64))], 0⟩)]
def K.impl_copyOuts : Cons := lookK [(51, [], C.impl_copyEntry)]
theorem run.impl_copyOuts : Rn K.impl_copyOuts L.impl_copyOuts [] Tryz.f174 C.impl_copyOuts := fun x => by kernel_rfl

/-! ### impl.copySeat: function 175 -/
def F.impl_copySeat (a0 : DSeat) : Option DSeat :=
 (F.impl_copySet a0.2.2.1).bind fun r1 =>
 some (a0.1, a0.2.1, r1, a0.2.2.2)
def C.impl_copySeat : Con := ⟨[.r (.val y19)], .one y15, fun x => F.impl_copySeat x.1⟩
def K.impl_copySeat : Cons := lookK [(132, [], C.impl_copySet)]
theorem run.impl_copySeat : Rn K.impl_copySeat L0 [] Tryz.f175 C.impl_copySeat := fun x => by kernel_rfl

/-! ### impl.copyRow: function 176 -/
def F.impl_copyRow (a0 : DRow) : Option DRow :=
 (F.impl_copyEntries a0.1).bind fun r1 =>
 some (r1, ())
def C.impl_copyRow : Con := ⟨[.r (.val (.cons (.sl false 31 y7) .nil))], .one (.cons (.sl true 31 y6) .nil), fun x => F.impl_copyRow x.1⟩
def K.impl_copyRow : Cons := lookK [(41, [], C.impl_copyEntries)]
theorem run.impl_copyRow : Rn K.impl_copyRow L0 [] Tryz.f176 C.impl_copyRow := fun x => by kernel_rfl

/-! ### impl.copyTurn: function 177 -/
def F.impl_copyTurn (a0 : DTurn) : Option DTurn :=
 (F.impl_copyInts a0.2.2.1).bind fun r1 =>
 some (a0.1, a0.2.1, r1, a0.2.2.2)
def C.impl_copyTurn : Con := ⟨[.r (.val y11)], .one y16, fun x => F.impl_copyTurn x.1⟩
def K.impl_copyTurn : Cons := lookK [(238, [], C.impl_copyInts)]
theorem run.impl_copyTurn : Rn K.impl_copyTurn L0 [] Tryz.f177 C.impl_copyTurn := fun x => by kernel_rfl

/-! ### impl.copyHouse: function 82 -/
def F.impl_copyHouse.s3 : Stp ((List DSeat) × Int × Int × DHouse × DHouse × DHouse × Unit) DHouse := fun (x4, x5, x6, x7, x8, x9, _) =>
 bif decide (x6 < x5) then
  chk (inb x6 x4.length) <|
  (F.impl_copySeat (x4.getD x6.toNat (0, 0, [], 0, 0, ()))).bind fun r10 =>
  chk (fits (List.length x9.2.2.2.1 + List.length ([r10])) 56) <|
  some (.again (x4, x5, w64 (x6 + 1), x7, x8, (x9.1, x9.2.1, x9.2.2.1, x9.2.2.2.1 ++ ([r10]), x9.2.2.2.2), ()))
 else
  some (.exit (x4, x5, x6, x7, x8, x9, ()))
def F.impl_copyHouse.s12 : Stp ((List DRow) × (List (List DRow)) × Int × Int × (List DRow) × Int × Int × DHouse × DHouse × DHouse × Unit) (Lp ((List (List DRow)) × Int × Int × DHouse × DHouse × DHouse × Unit) DHouse) := fun (x23, x24, x25, x26, x27, x28, x29, x30, x31, x32, _) =>
 bif decide (x29 < x28) then
  chk (inb x29 x27.length) <|
  (F.impl_copyRow (x27.getD x29.toNat ([], ()))).bind fun r33 =>
  chk (fits (List.length x23 + List.length ([r33])) 24) <|
  some (.again (x23 ++ ([r33]), x24, x25, x26, x27, x28, w64 (x29 + 1), x30, x31, x32, ()))
 else
  some (.exit (x23, x24, x25, x26, x27, x28, x29, x30, x31, x32, ()))
def F.impl_copyHouse.s8 : Stp ((List (List DRow)) × Int × Int × DHouse × DHouse × DHouse × Unit) DHouse := fun (x17, x18, x19, x20, x21, x22, _) =>
 bif decide (x19 < x18) then
  chk (inb x19 x17.length) <|
  afterO (loopO F.impl_copyHouse.s12 (([] : List DRow), x17, x18, x19, x17.getD x19.toNat ([]), len (x17.getD x19.toNat ([])), 0, x20, x21, x22, ())) fun (x34, x35, x36, x37, x38, x39, x40, x41, x42, x43, _) =>
  chk (fits (List.length x43.2.2.2.2.1 + List.length ([x34])) 24) <|
  some (.again (x35, x36, w64 (x37 + 1), x41, x42, (x43.1, x43.2.1, x43.2.2.1, x43.2.2.2.1, x43.2.2.2.2.1 ++ ([x34]), x43.2.2.2.2.2), ()))
 else
  some (.exit (x17, x18, x19, x20, x21, x22, ()))
def F.impl_copyHouse.s19 : Stp ((List DTurn) × Int × Int × DHouse × DHouse × Unit) DHouse := fun (x50, x51, x52, x53, x54, _) =>
 bif decide (x52 < x51) then
  chk (inb x52 x50.length) <|
  (F.impl_copyTurn (x50.getD x52.toNat (0, false, [], ()))).bind fun r55 =>
  chk (fits (List.length x54.2.2.2.2.2.1 + List.length ([r55])) 40) <|
  some (.again (x50, x51, w64 (x52 + 1), x53, (x54.1, x54.2.1, x54.2.2.1, x54.2.2.2.1, x54.2.2.2.2.1, x54.2.2.2.2.2.1 ++ ([r55]), x54.2.2.2.2.2.2), ()))
 else
  some (.exit (x50, x51, x52, x53, x54, ()))
def F.impl_copyHouse (a0 : DHouse) : Option DHouse :=
 (F.impl_copyConf a0.1).bind fun r1 =>
 (F.impl_copyEntries a0.2.2.2.2.2.2.2.1).bind fun r2 =>
 (F.impl_copyOuts a0.2.2.2.2.2.2.2.2.1).bind fun r3 =>
 afterO (loopO F.impl_copyHouse.s3 (a0.2.2.2.1, len a0.2.2.2.1, 0, a0, ((0, 0, 0, ([] : List Int), 0, 0, 0, 0, ()), 0, false, ([] : List DSeat), ([] : List (List DRow)), ([] : List DTurn), 0, ([] : List DEntry), ([] : List DOut), ()), (r1, a0.2.1, a0.2.2.1, ([] : List DSeat), ([] : List (List DRow)), ([] : List DTurn), a0.2.2.2.2.2.2.1, r2, r3, ()), ())) fun (x11, x12, x13, x14, x15, x16, _) =>
 afterO (loopO F.impl_copyHouse.s8 (x14.2.2.2.2.1, len x14.2.2.2.2.1, 0, x14, x15, x16, ())) fun (x44, x45, x46, x47, x48, x49, _) =>
 afterO (loopO F.impl_copyHouse.s19 (x47.2.2.2.2.2.1, len x47.2.2.2.2.2.1, 0, x48, x49, ())) fun (x56, x57, x58, x59, x60, _) =>
 some x60
def C.impl_copyHouse : Con := ⟨[.r (.val y21)], .one y18, fun x => F.impl_copyHouse x.1⟩
def L.impl_copyHouse : Loops := lookL [(3, ⟨[.pat 30 (.val (.sl false 143 y19)), .pat 31 (.val (.int .i64)), .pat 32 (.val (.int .i64)), .root 1 true y21 [1], .root 2 true y18 [2], .root 3 true y18 [3]], 0⟩), (12, ⟨[.own 8 (.sl true 84 (.cons (.sl true 31 y6) .nil)), .pat 45 (.val (.sl false 121 (.sl false 84 (.cons (.sl false 31 y7) .nil)))), .pat 46 (.val (.int .i64)), .pat 47 (.val (.int .i64)), .pat 51 (.val (.sl false 84 (.cons (.sl false 31 y7) .nil))), .pat 52 (.val (.int .i64)), .pat 53 (.val (.int .i64)), .root 1 true y21 [1], .root 2 true y18 [2], .root 3 true y18 [3]], 4⟩), (8, ⟨[.pat 45 (.val (.sl false 121 (.sl false 84 (.cons (.sl false 31 y7) .nil)))), .pat 46 (.val (.int .i64)), .pat 47 (.val (.int .i64)), .root 1 true y21 [1], .root 2 true y18 [2], .root 3 true y18 [3]], 2⟩), (19, ⟨[.pat 71 (.val (.sl false 125 y11)), .pat 72 (.val (.int .i64)), .pat 73 (.val (.int .i64)), .root 2 true y18 [2], .root 3 true y18 [3]], 6⟩)]
def K.impl_copyHouse : Cons := lookK [(41, [], C.impl_copyEntries), (173, [], C.impl_copyConf), (174, [], C.impl_copyOuts), (175, [], C.impl_copySeat), (176, [], C.impl_copyRow), (177, [], C.impl_copyTurn)]
theorem run.impl_copyHouse : Rn K.impl_copyHouse L.impl_copyHouse [] Tryz.f82 C.impl_copyHouse := fun x => by kernel_rfl

/-! ### impl.allWithin: function 188 -/
def F.impl_allWithin.s2 : Stp ((List Int) × Int × Int × Int × (List Int) × Int × Int × Unit) Bool := fun (x1, x2, x3, x4, x5, x6, x7, _) =>
 bif decide (x7 < x6) then
  chk (inb x7 x5.length) <|
  (F.impl_within (x5.getD x7.toNat 0) x3 x4).bind fun r8 =>
  bif !r8 then
   some (.ret false)
  else
   some (.again (x1, x2, x3, x4, x5, x6, w64 (x7 + 1), ()))
 else
  some (.exit (x1, x2, x3, x4, x5, x6, x7, ()))
def F.impl_allWithin (a0 : List Int) (a1 : Int) (a2 : Int) (a3 : Int) : Option Bool :=
 afterO (loopO F.impl_allWithin.s2 (a0, a1, a2, a3, a0, len a0, 0, ())) fun (x9, x10, x11, x12, x13, x14, x15, _) =>
 some ((len x9) == x10)
def C.impl_allWithin : Con := ⟨[.r (.val (.sl false 3 (.int .i64))), .r (.val (.int .i64)), .r (.val (.int .i64)), .r (.val (.int .i64))], .one .bool, fun x => F.impl_allWithin x.1 x.2.1 x.2.2.1 x.2.2.2.1⟩
def L.impl_allWithin : Loops := lookL [(2, ⟨[.pat 0 (.val (.sl false 3 (.int .i64))), .pat 1 (.val (.int .i64)), .pat 2 (.val (.int .i64)), .pat 3 (.val (.int .i64)), .pat 11 (.val (.sl false 3 (.int .i64))), .pat 12 (.val (.int .i64)), .pat 13 (.val (.int .i64))], 0⟩)]
def K.impl_allWithin : Cons := lookK [(123, [], C.impl_within)]
theorem run.impl_allWithin : Rn K.impl_allWithin L.impl_allWithin [] Tryz.f188 C.impl_allWithin := fun x => by kernel_rfl

/-! ### impl.ConfOk: function 254 -/
def F.impl_ConfOk (a0 : DConf) : Option Bool :=
 (F.impl_within a0.1 1 8).bind fun r1 =>
 bif r1 then
  (F.impl_within a0.2.1 1 60).bind fun r2 =>
  bif r2 then
   (F.impl_within a0.2.2.1 1 10).bind fun r3 =>
   bif r3 then
    (F.impl_allWithin a0.2.2.2.1 3 1 4).bind fun r4 =>
    bif r4 then
     (F.impl_within a0.2.2.2.2.1 1 100).bind fun r5 =>
     bif r5 then
      (F.impl_within a0.2.2.2.2.2.1 1 20).bind fun r6 =>
      bif r6 then
       (F.impl_within a0.2.2.2.2.2.2.1 0 20).bind fun r7 =>
       bif r7 then
        (F.impl_within a0.2.2.2.2.2.2.2.1 1 50).bind fun r8 =>
        some r8
       else
        some false
      else
       some false
     else
      some false
    else
     some false
   else
    some false
  else
   some false
 else
  some false
def C.impl_ConfOk : Con := ⟨[.r (.val y9)], .one .bool, fun x => F.impl_ConfOk x.1⟩
def K.impl_ConfOk : Cons := lookK [(123, [], C.impl_within), (188, [], C.impl_allWithin)]
theorem run.impl_ConfOk : Rn K.impl_ConfOk L0 [] Tryz.f254 C.impl_ConfOk := fun x => by kernel_rfl

/-! ### impl.allIn: function 255 -/
def F.impl_allIn (a0 : List DSpan) (a1 : Int) (a2 : Int) : Option Bool :=
 (F.impl_SetOk a0).bind fun r1 =>
 bif r1 then
  bif (len a0) == 0 then
   some true
  else
  chk (inb 0 a0.length) <|
  bif decide (((a0.getD 0 (0, 0, ())).1) >= a1) then
   chk (inb (w64 ((len a0) - 1)) a0.length) <|
   some (decide ((((a0.getD (Int.toNat (w64 ((len a0) - 1))) (0, 0, ())).2).1) <= a2))
  else
   some false
 else
  some false
def C.impl_allIn : Con := ⟨[.r (.val (.sl false 180 y5)), .r (.val (.int .i64)), .r (.val (.int .i64))], .one .bool, fun x => F.impl_allIn x.1 x.2.1 x.2.2.1⟩
def K.impl_allIn : Cons := lookK [(124, [], C.impl_SetOk)]
theorem run.impl_allIn : Rn K.impl_allIn L0 [] Tryz.f255 C.impl_allIn := fun x => by kernel_rfl

/-! ### impl.SetSize: function 106 -/
def F.impl_SetSize.s5 : Stp (Int × (List DSpan) × Int × Int × Unit) Int := fun (x2, x3, x4, x5, _) =>
 bif decide (x5 < x4) then
  chk (inb x5 x3.length) <|
  some (.again (w64 (x2 + (w64 ((w64 ((((x3.getD x5.toNat (0, 0, ())).2).1) - ((x3.getD x5.toNat (0, 0, ())).1))) + 1))), x3, x4, w64 (x5 + 1), ()))
 else
  some (.exit (x2, x3, x4, x5, ()))
def F.impl_SetSize (a0 : List DSpan) : Option Int :=
 (F.impl_SetOk a0).bind fun r1 =>
 bif !r1 then
  some 0
 else
 afterO (loopO F.impl_SetSize.s5 (0, a0, len a0, 0, ())) fun (x6, x7, x8, x9, _) =>
 some x6
def C.impl_SetSize : Con := ⟨[.r (.val (.sl false 180 y5))], .one (.int .i64), fun x => F.impl_SetSize x.1⟩
def L.impl_SetSize : Loops := lookL [(5, ⟨[.pat 3 (.val (.int .i64)), .pat 9 (.val (.sl false 180 y5)), .pat 10 (.val (.int .i64)), .pat 11 (.val (.int .i64))], 0⟩)]
def K.impl_SetSize : Cons := lookK [(124, [], C.impl_SetOk)]
theorem run.impl_SetSize : Rn K.impl_SetSize L.impl_SetSize [] Tryz.f106 C.impl_SetSize := fun x => by kernel_rfl

/-! ### impl.SeatOk: function 205 -/
def F.impl_SeatOk (a0 : DSeat) (a1 : Int) : Option Bool :=
 (F.impl_within a1 1 8).bind fun r1 =>
 bif r1 then
  (F.impl_within a0.1 0 1000).bind fun r2 =>
  bif r2 then
   (F.impl_within a0.2.1 0 60).bind fun r3 =>
   bif r3 then
    (F.impl_allIn a0.2.2.1 1 a0.2.1).bind fun r4 =>
    bif r4 then
     (F.impl_SetSize a0.2.2.1).bind fun r5 =>
     (F.impl_within a0.2.2.2.1 0 r5).bind fun r6 =>
     bif r6 then
      bif decide (a0.2.1 <= (w64 (a0.2.2.2.1 + a1))) then
       (F.impl_within a0.2.2.2.2.1 0 1000000).bind fun r7 =>
       some r7
      else
       some false
     else
      some false
    else
     some false
   else
    some false
  else
   some false
 else
  some false
def C.impl_SeatOk : Con := ⟨[.r (.val y19), .r (.val (.int .i64))], .one .bool, fun x => F.impl_SeatOk x.1 x.2.1⟩
def K.impl_SeatOk : Cons := lookK [(106, [], C.impl_SetSize), (123, [], C.impl_within), (255, [], C.impl_allIn)]
theorem run.impl_SeatOk : Rn K.impl_SeatOk L0 [] Tryz.f205 C.impl_SeatOk := fun x => by kernel_rfl

/-! ### impl.apart: function 179 -/
def F.impl_apart.s7 : Stp ((List DEntry) × (List DEntry) × Int × Int × (List DEntry) × Int × Int × DEntry × Unit) (Lp ((List DEntry) × (List DEntry) × Int × Int × Unit) Bool) := fun (x6, x7, x8, x9, x10, x11, x12, x13, _) =>
 bif decide (x12 < x11) then
  chk (inb x12 x10.length) <|
  (F.impl_SetApart x13.2.2.1 ((((x10.getD x12.toNat (0, 0, [], (0, 0, 0, 0, [], [], [], ()), ())).2).2).1)).bind fun r14 =>
  bif !r14 then
   some (.ret (.ret false))
  else
   some (.again (x6, x7, x8, x9, x10, x11, w64 (x12 + 1), x13, ()))
 else
  some (.exit (x6, x7, x8, x9, x10, x11, x12, x13, ()))
def F.impl_apart.s2 : Stp ((List DEntry) × (List DEntry) × Int × Int × Unit) Bool := fun (x1, x2, x3, x4, _) =>
 bif decide (x4 < x3) then
  chk (inb x4 x2.length) <|
  (F.impl_EntryOk (x2.getD x4.toNat (0, 0, [], (0, 0, 0, 0, [], [], [], ()), ()))).bind fun r5 =>
  bif !r5 then
   some (.ret false)
  else
  chk (cutOk 0 x4 x1.length) <|
  afterO (loopO F.impl_apart.s7 (x1, x2, x3, x4, List.take (x4.toNat - 0) (List.drop 0 x1), len (List.take (x4.toNat - 0) (List.drop 0 x1)), 0, x2.getD x4.toNat (0, 0, [], (0, 0, 0, 0, [], [], [], ()), ()), ())) fun (x15, x16, x17, x18, x19, x20, x21, x22, _) =>
  some (.again (x15, x16, x17, w64 (x18 + 1), ()))
 else
  some (.exit (x1, x2, x3, x4, ()))
def F.impl_apart (a0 : List DEntry) : Option Bool :=
 afterO (loopO F.impl_apart.s2 (a0, a0, len a0, 0, ())) fun (x23, x24, x25, x26, _) =>
 some true
def C.impl_apart : Con := ⟨[.r (.val (.sl false 31 y7))], .one .bool, fun x => F.impl_apart x.1⟩
def L.impl_apart : Loops := lookL [(7, ⟨[.pat 0 (.val (.sl false 31 y7)), .pat 7 (.val (.sl false 31 y7)), .pat 8 (.val (.int .i64)), .pat 9 (.val (.int .i64)), .pat 19 (.val (.sl false 31 y7)), .pat 20 (.val (.int .i64)), .pat 21 (.val (.int .i64)), .root 4 true y7 [4]], 2⟩), (2, ⟨[.pat 0 (.val (.sl false 31 y7)), .pat 7 (.val (.sl false 31 y7)), .pat 8 (.val (.int .i64)), .pat 9 (.val (.int .i64))], 0⟩)]
def K.impl_apart : Cons := lookK [(42, [], C.impl_EntryOk), (127, [], C.impl_SetApart)]
theorem run.impl_apart : Rn K.impl_apart L.impl_apart [] Tryz.f179 C.impl_apart := fun x => by kernel_rfl

/-! ### impl.RowOk: function 204 -/
def F.impl_RowOk (a0 : DRow) : Option Bool :=
 bif decide ((len a0.1) <= 24) then
  (F.impl_apart a0.1).bind fun r1 =>
  some r1
 else
  some false
def C.impl_RowOk : Con := ⟨[.r (.val (.cons (.sl false 31 y7) .nil))], .one .bool, fun x => F.impl_RowOk x.1⟩
def K.impl_RowOk : Cons := lookK [(179, [], C.impl_apart)]
theorem run.impl_RowOk : Rn K.impl_RowOk L0 [] Tryz.f204 C.impl_RowOk := fun x => by kernel_rfl

/-! ### impl.idsOf: function 182 -/
def F.impl_idsOf.s3 : Stp ((List DSpan) × (List DEntry) × Int × Int × Unit) (List DSpan) := fun (x1, x2, x3, x4, _) =>
 bif decide (x4 < x3) then
  chk (inb x4 x2.length) <|
  chk (fits (List.length x1 + List.length ((((x2.getD x4.toNat (0, 0, [], (0, 0, 0, 0, [], [], [], ()), ())).2).2).1)) 16) <|
  some (.again (x1 ++ ((((x2.getD x4.toNat (0, 0, [], (0, 0, 0, 0, [], [], [], ()), ())).2).2).1), x2, x3, w64 (x4 + 1), ()))
 else
  some (.exit (x1, x2, x3, x4, ()))
def F.impl_idsOf (a0 : List DEntry) : Option (List DSpan) :=
 afterO (loopO F.impl_idsOf.s3 (([] : List DSpan), a0, len a0, 0, ())) fun (x5, x6, x7, x8, _) =>
 (F.impl_union x5).bind fun r9 =>
 some r9
def C.impl_idsOf : Con := ⟨[.r (.val (.sl false 31 y7))], .one (.sl true 180 y5), fun x => F.impl_idsOf x.1⟩
def L.impl_idsOf : Loops := lookL [(3, ⟨[.own 3 (.sl true 180 y5), .pat 6 (.val (.sl false 31 y7)), .pat 7 (.val (.int .i64)), .pat 8 (.val (.int .i64))], 0⟩)]
def K.impl_idsOf : Cons := lookK [(186, [], C.impl_union)]
theorem run.impl_idsOf : Rn K.impl_idsOf L.impl_idsOf [] Tryz.f182 C.impl_idsOf := fun x => by kernel_rfl

/-! ### impl.RowIds: function 256 -/
def F.impl_RowIds (a0 : DRow) : Option (List DSpan) :=
 (F.impl_RowOk a0).bind fun r1 =>
 bif !r1 then
  some ([] : List DSpan)
 else
 (F.impl_idsOf a0.1).bind fun r2 =>
 some r2
def C.impl_RowIds : Con := ⟨[.r (.val (.cons (.sl false 31 y7) .nil))], .one (.sl true 180 y5), fun x => F.impl_RowIds x.1⟩
def K.impl_RowIds : Cons := lookK [(182, [], C.impl_idsOf), (204, [], C.impl_RowOk)]
theorem run.impl_RowIds : Rn K.impl_RowIds L0 [] Tryz.f256 C.impl_RowIds := fun x => by kernel_rfl

/-! ### impl.IdOf: function 184 -/
def F.impl_IdOf (a0 : Int) (a1 : Int) : Option Int :=
 (F.impl_within a0 0 2).bind fun r1 =>
 bif !r1 then
  some (-1)
 else
 (F.impl_within a1 1 60).bind fun r2 =>
 bif !r2 then
  some (-1)
 else
  some (w64 ((w64 (100 * a0)) + a1))
def C.impl_IdOf : Con := ⟨[.r (.val (.int .i64)), .r (.val (.int .i64))], .one (.int .i64), fun x => F.impl_IdOf x.1 x.2.1⟩
def K.impl_IdOf : Cons := lookK [(123, [], C.impl_within)]
theorem run.impl_IdOf : Rn K.impl_IdOf L0 [] Tryz.f184 C.impl_IdOf := fun x => by kernel_rfl

/-! ### impl.TurnOk: function 189 -/
def F.impl_TurnOk (a0 : DTurn) : Option Bool :=
 (F.impl_within a0.1 0 2).bind fun r1 =>
 bif r1 then
  (F.impl_allWithin a0.2.2.1 3 0 1000).bind fun r2 =>
  some r2
 else
  some false
def C.impl_TurnOk : Con := ⟨[.r (.val y11)], .one .bool, fun x => F.impl_TurnOk x.1⟩
def K.impl_TurnOk : Cons := lookK [(123, [], C.impl_within), (188, [], C.impl_allWithin)]
theorem run.impl_TurnOk : Rn K.impl_TurnOk L0 [] Tryz.f189 C.impl_TurnOk := fun x => by kernel_rfl

/-! ### impl.partsOk: function 178 -/
def F.impl_partsOk.s9 : Stp (Int × (List DSeat) × Int × Int × (List DRow) × Int × Int × DHouse × Unit) (Lp ((List DSeat) × Int × Int × DHouse × Unit) Bool) := fun (x9, x10, x11, x12, x13, x14, x15, x16, _) =>
 bif decide (x15 < x14) then
  chk (inb x15 x13.length) <|
  (F.impl_RowOk (x13.getD x15.toNat ([], ()))).bind fun r17 =>
  bif !r17 then
   some (.ret (.ret false))
  else
  (F.impl_RowIds (x13.getD x15.toNat ([], ()))).bind fun r18 =>
  (F.impl_IdOf x9 1).bind fun r19 =>
  (F.impl_IdOf x9 60).bind fun r20 =>
  (F.impl_allIn r18 r19 r20).bind fun r21 =>
  bif !r21 then
   some (.ret (.ret false))
  else
   some (.again (x9, x10, x11, x12, x13, x14, w64 (x15 + 1), x16, ()))
 else
  some (.exit (x9, x10, x11, x12, x13, x14, x15, x16, ()))
def F.impl_partsOk.s4 : Stp ((List DSeat) × Int × Int × DHouse × Unit) Bool := fun (x4, x5, x6, x7, _) =>
 bif decide (x6 < x5) then
  chk (inb x6 x4.length) <|
  (F.impl_SeatOk (x4.getD x6.toNat (0, 0, [], 0, 0, ())) x7.1.1).bind fun r8 =>
  bif !r8 then
   some (.ret false)
  else
  chk (inb x6 x7.2.2.2.2.1.length) <|
  bif (len (x7.2.2.2.2.1.getD x6.toNat ([]))) != 2 then
   some (.ret false)
  else
  chk (inb x6 x7.2.2.2.2.1.length) <|
  afterO (loopO F.impl_partsOk.s9 (x6, x4, x5, x6, x7.2.2.2.2.1.getD x6.toNat ([]), len (x7.2.2.2.2.1.getD x6.toNat ([])), 0, x7, ())) fun (x22, x23, x24, x25, x26, x27, x28, x29, _) =>
  some (.again (x23, x24, w64 (x25 + 1), x29, ()))
 else
  some (.exit (x4, x5, x6, x7, ()))
def F.impl_partsOk.s16 : Stp ((List DTurn) × Int × Int × DHouse × Unit) Bool := fun (x34, x35, x36, x37, _) =>
 bif decide (x36 < x35) then
  chk (inb x36 x34.length) <|
  (F.impl_TurnOk (x34.getD x36.toNat (0, false, [], ()))).bind fun r38 =>
  bif !r38 then
   some (.ret false)
  else
   some (.again (x34, x35, w64 (x36 + 1), x37, ()))
 else
  some (.exit (x34, x35, x36, x37, ()))
def F.impl_partsOk.s22 : Stp ((List DEntry) × Int × Int × DHouse × Unit) Bool := fun (x43, x44, x45, x46, _) =>
 bif decide (x45 < x44) then
  chk (inb x45 x43.length) <|
  bif decide (x45 > 0) then
   chk (inb (w64 (x45 - 1)) x46.2.2.2.2.2.2.2.1.length) <|
   (F.impl_ahead (x46.2.2.2.2.2.2.2.1.getD (Int.toNat (w64 (x45 - 1))) (0, 0, [], (0, 0, 0, 0, [], [], [], ()), ())) (x43.getD x45.toNat (0, 0, [], (0, 0, 0, 0, [], [], [], ()), ()))).bind fun r47 =>
   bif !r47 then
    some (.ret false)
   else
    some (.again (x43, x44, w64 (x45 + 1), x46, ()))
  else
   some (.again (x43, x44, w64 (x45 + 1), x46, ()))
 else
  some (.exit (x43, x44, x45, x46, ()))
def F.impl_partsOk (a0 : DHouse) : Option Bool :=
 (F.impl_ConfOk a0.1).bind fun r1 =>
 bif !r1 then
  some false
 else
 (F.impl_within a0.2.1 0 100000).bind fun r2 =>
 bif !r2 then
  some false
 else
 bif (len a0.2.2.2.1) != 3 then
  some false
 else
 bif (len a0.2.2.2.2.1) != 3 then
  some false
 else
 bif (len a0.2.2.2.2.2.1) != 2 then
  some false
 else
 (F.impl_within a0.2.2.2.2.2.2.1 0 1000).bind fun r3 =>
 bif !r3 then
  some false
 else
 afterO (loopO F.impl_partsOk.s4 (a0.2.2.2.1, len a0.2.2.2.1, 0, a0, ())) fun (x30, x31, x32, x33, _) =>
 afterO (loopO F.impl_partsOk.s16 (x33.2.2.2.2.2.1, len x33.2.2.2.2.2.1, 0, x33, ())) fun (x39, x40, x41, x42, _) =>
 afterO (loopO F.impl_partsOk.s22 (x42.2.2.2.2.2.2.2.1, len x42.2.2.2.2.2.2.2.1, 0, x42, ())) fun (x48, x49, x50, x51, _) =>
 some true
def C.impl_partsOk : Con := ⟨[.r (.val y21)], .one .bool, fun x => F.impl_partsOk x.1⟩
def L.impl_partsOk : Loops := lookL [(9, ⟨[.pat 3 (.val (.int .i64)), .pat 46 (.val (.sl false 143 y19)), .pat 47 (.val (.int .i64)), .pat 48 (.val (.int .i64)), .pat 72 (.val (.sl false 84 (.cons (.sl false 31 y7) .nil))), .pat 73 (.val (.int .i64)), .pat 74 (.val (.int .i64)), .root 1 true y21 [1]], 2⟩), (4, ⟨[.pat 46 (.val (.sl false 143 y19)), .pat 47 (.val (.int .i64)), .pat 48 (.val (.int .i64)), .root 1 true y21 [1]], 0⟩), (16, ⟨[.pat 94 (.val (.sl false 125 y11)), .pat 95 (.val (.int .i64)), .pat 96 (.val (.int .i64)), .root 1 true y21 [1]], 4⟩), (22, ⟨[.pat 105 (.val (.sl false 31 y7)), .pat 106 (.val (.int .i64)), .pat 107 (.val (.int .i64)), .root 1 true y21 [1]], 6⟩)]
def K.impl_partsOk : Cons := lookK [(49, [], C.impl_ahead), (123, [], C.impl_within), (184, [], C.impl_IdOf), (189, [], C.impl_TurnOk), (204, [], C.impl_RowOk), (205, [], C.impl_SeatOk), (254, [], C.impl_ConfOk), (255, [], C.impl_allIn), (256, [], C.impl_RowIds)]
theorem run.impl_partsOk : Rn K.impl_partsOk L.impl_partsOk [] Tryz.f178 C.impl_partsOk := fun x => by kernel_rfl

/-! ### impl.rowEntries: function 180 -/
def F.impl_rowEntries.s6 : Stp ((List DEntry) × (List (List DRow)) × Int × Int × (List DRow) × Int × Int × Unit) (Lp ((List DEntry) × (List (List DRow)) × Int × Int × Unit) (List DEntry)) := fun (x5, x6, x7, x8, x9, x10, x11, _) =>
 bif decide (x11 < x10) then
  chk (inb x11 x9.length) <|
  chk (fits (List.length x5 + List.length ((x9.getD x11.toNat ([], ())).1)) 144) <|
  some (.again (x5 ++ ((x9.getD x11.toNat ([], ())).1), x6, x7, x8, x9, x10, w64 (x11 + 1), ()))
 else
  some (.exit (x5, x6, x7, x8, x9, x10, x11, ()))
def F.impl_rowEntries.s3 : Stp ((List DEntry) × (List (List DRow)) × Int × Int × Unit) (List DEntry) := fun (x1, x2, x3, x4, _) =>
 bif decide (x4 < x3) then
  chk (inb x4 x2.length) <|
  afterO (loopO F.impl_rowEntries.s6 (x1, x2, x3, x4, x2.getD x4.toNat ([]), len (x2.getD x4.toNat ([])), 0, ())) fun (x12, x13, x14, x15, x16, x17, x18, _) =>
  some (.again (x12, x13, x14, w64 (x15 + 1), ()))
 else
  some (.exit (x1, x2, x3, x4, ()))
def F.impl_rowEntries (a0 : DHouse) : Option (List DEntry) :=
 afterO (loopO F.impl_rowEntries.s3 (([] : List DEntry), a0.2.2.2.2.1, len a0.2.2.2.2.1, 0, ())) fun (x19, x20, x21, x22, _) =>
 some x19
def C.impl_rowEntries : Con := ⟨[.r (.val y21)], .one (.sl true 31 y7), fun x => F.impl_rowEntries x.1⟩
def L.impl_rowEntries : Loops := lookL [(6, ⟨[.own 3 (.sl true 31 y7), .pat 9 (.val (.sl false 121 (.sl false 84 (.cons (.sl false 31 y7) .nil)))), .pat 10 (.val (.int .i64)), .pat 11 (.val (.int .i64)), .pat 15 (.val (.sl false 84 (.cons (.sl false 31 y7) .nil))), .pat 16 (.val (.int .i64)), .pat 17 (.val (.int .i64))], 2⟩), (3, ⟨[.own 3 (.sl true 31 y7), .pat 9 (.val (.sl false 121 (.sl false 84 (.cons (.sl false 31 y7) .nil)))), .pat 10 (.val (.int .i64)), .pat 11 (.val (.int .i64))], 0⟩)]
def K.impl_rowEntries : Cons := lookK []
theorem run.impl_rowEntries : Rn K.impl_rowEntries L.impl_rowEntries [] Tryz.f180 C.impl_rowEntries := fun x => by kernel_rfl

/-! ### impl.added: function 181 -/
def F.impl_added.s3 : Stp ((List DEntry) × (List DOut) × Int × Int × Unit) (List DEntry) := fun (x1, x2, x3, x4, _) =>
 bif decide (x4 < x3) then
  chk (inb x4 x2.length) <|
  chk (fits (List.length x1 + List.length ([((x2.getD x4.toNat (0, (0, 0, [], (0, 0, 0, 0, [], [], [], ()), ()), ())).2).1])) 144) <|
  some (.again (x1 ++ ([((x2.getD x4.toNat (0, (0, 0, [], (0, 0, 0, 0, [], [], [], ()), ()), ())).2).1]), x2, x3, w64 (x4 + 1), ()))
 else
  some (.exit (x1, x2, x3, x4, ()))
def F.impl_added (a0 : DHouse) : Option (List DEntry) :=
 chk (fits a0.2.2.2.2.2.2.2.1.length 144) <|
 afterO (loopO F.impl_added.s3 (a0.2.2.2.2.2.2.2.1, a0.2.2.2.2.2.2.2.2.1, len a0.2.2.2.2.2.2.2.2.1, 0, ())) fun (x5, x6, x7, x8, _) =>
 some x5
def C.impl_added : Con := ⟨[.r (.val y21)], .one (.sl true 31 y7), fun x => F.impl_added x.1⟩
def L.impl_added : Loops := lookL [(3, ⟨[.own 3 (.sl true 31 y7), .pat 10 (.val (.sl false 203 y20)), .pat 11 (.val (.int .i64)), .pat 12 (.val (.int .i64))], 0⟩)]
def K.impl_added : Cons := lookK []
theorem run.impl_added : Rn K.impl_added L.impl_added [] Tryz.f181 C.impl_added := fun x => by kernel_rfl

/-! ### impl.SetHas$1: function 258 -/
def F.impl_SetHas_1 (a0 : DSpan) (a1 : Int) : Option Bool :=
 (F.impl_within a1 a0.1 a0.2.1).bind fun r1 =>
 some r1
def C.impl_SetHas_1 : Con := ⟨[.r (.val y5), .r (.sptr (.int .i64))], .one .bool, fun x => F.impl_SetHas_1 x.1 x.2.1⟩
def K.impl_SetHas_1 : Cons := lookK [(123, [], C.impl_within)]
theorem run.impl_SetHas_1 : Rn K.impl_SetHas_1 L0 [] Tryz.f258 C.impl_SetHas_1 := fun x => by kernel_rfl

/-! ### slices.IndexFunc[[]impl.Span,impl.Span]: function 287 -/
def F.slices_IndexFunc_Span__impl_SetHas_1.s2 : Stp ((List DSpan) × (Int × Unit) × Int × Int × Unit) Int := fun (x1, x2, x3, x4, _) =>
 bif decide (x4 < x3) then
  chk (inb x4 x1.length) <|
  (F.impl_SetHas_1 (x1.getD x4.toNat (0, 0, ())) x2.1).bind fun r5 =>
  bif r5 then
   some (.ret x4)
  else
   some (.again (x1, (x2.1, ()), x3, w64 (x4 + 1), ()))
 else
  some (.exit (x1, (x2.1, ()), x3, x4, ()))
def F.slices_IndexFunc_Span__impl_SetHas_1 (a0 : List DSpan) (a1 : Int × Unit) : Option Int :=
 afterO (loopO F.slices_IndexFunc_Span__impl_SetHas_1.s2 (a0, (a1.1, ()), len a0, 0, ())) fun (x6, x7, x8, x9, _) =>
 some (-1)
def C.slices_IndexFunc_Span__impl_SetHas_1 : Con := ⟨[.r (.val (.sl false 180 y5)), .r (.fn 258 (.cons (.sptr (.int .i64)) .nil))], .one (.int .i64), fun x => F.slices_IndexFunc_Span__impl_SetHas_1 x.1 x.2.1⟩
def L.slices_IndexFunc_Span__impl_SetHas_1 : Loops := lookL [(2, ⟨[.pat 0 (.val (.sl false 180 y5)), .pat 1 (.fn 258 (.cons (.sptr (.int .i64)) .nil)), .pat 7 (.val (.int .i64)), .pat 8 (.val (.int .i64))], 0⟩)]
def K.slices_IndexFunc_Span__impl_SetHas_1 : Cons := lookK [(258, [], C.impl_SetHas_1)]
theorem run.slices_IndexFunc_Span__impl_SetHas_1 : Rn K.slices_IndexFunc_Span__impl_SetHas_1 L.slices_IndexFunc_Span__impl_SetHas_1 [] Tryz.f287 C.slices_IndexFunc_Span__impl_SetHas_1 := fun x => by kernel_rfl

/-! ### slices.ContainsFunc[[]impl.Span,impl.Span]: function 257 -/
def F.slices_ContainsFunc_Span__impl_SetHas_1 (a0 : List DSpan) (a1 : Int × Unit) : Option Bool :=
 (F.slices_IndexFunc_Span__impl_SetHas_1 a0 (a1.1, ())).bind fun r1 =>
 some (decide (r1 >= 0))
def C.slices_ContainsFunc_Span__impl_SetHas_1 : Con := ⟨[.r (.val (.sl false 180 y5)), .r (.fn 258 (.cons (.sptr (.int .i64)) .nil))], .one .bool, fun x => F.slices_ContainsFunc_Span__impl_SetHas_1 x.1 x.2.1⟩
def K.slices_ContainsFunc_Span__impl_SetHas_1 : Cons := lookK [(287, [258], C.slices_IndexFunc_Span__impl_SetHas_1)]
theorem run.slices_ContainsFunc_Span__impl_SetHas_1 : Rn K.slices_ContainsFunc_Span__impl_SetHas_1 L0 [] Tryz.f257 C.slices_ContainsFunc_Span__impl_SetHas_1 := fun x => by kernel_rfl

/-! ### impl.SetHas: function 183 -/
def F.impl_SetHas (a0 : List DSpan) (a1 : Int) : Option Bool :=
 (F.slices_ContainsFunc_Span__impl_SetHas_1 a0 (a1, ())).bind fun r1 =>
 some r1
def C.impl_SetHas : Con := ⟨[.r (.val (.sl false 180 y5)), .r (.val (.int .i64))], .one .bool, fun x => F.impl_SetHas x.1 x.2.1⟩
def K.impl_SetHas : Cons := lookK [(257, [258], C.slices_ContainsFunc_Span__impl_SetHas_1)]
theorem run.impl_SetHas : Rn K.impl_SetHas L0 [] Tryz.f183 C.impl_SetHas := fun x => by kernel_rfl

/-! ### slices.Equal[[]impl.Span,impl.Span]: function 185 -/
def F.slices_Equal_Span.s4 : Stp ((List DSpan) × (List DSpan) × Int × Int × Unit) Bool := fun (x1, x2, x3, x4, _) =>
 bif decide (x4 < x3) then
  chk (inb x4 x1.length) <|
  chk (inb x4 x2.length) <|
  bif !(Ty.eqX (.cons (.int .i64) (.cons (.int .i64) .nil)) (x1.getD x4.toNat (0, 0, ())) (x2.getD x4.toNat (0, 0, ()))) then
   some (.ret false)
  else
   some (.again (x1, x2, x3, w64 (x4 + 1), ()))
 else
  some (.exit (x1, x2, x3, x4, ()))
def F.slices_Equal_Span (a0 : List DSpan) (a1 : List DSpan) : Option Bool :=
 bif (len a0) != (len a1) then
  some false
 else
 afterO (loopO F.slices_Equal_Span.s4 (a0, a1, len a0, 0, ())) fun (x5, x6, x7, x8, _) =>
 some true
def C.slices_Equal_Span : Con := ⟨[.r (.val (.sl false 180 y5)), .r (.val (.sl false 180 y5))], .one .bool, fun x => F.slices_Equal_Span x.1 x.2.1⟩
def L.slices_Equal_Span : Loops := lookL [(4, ⟨[.pat 0 (.val (.sl false 180 y5)), .pat 1 (.val (.sl false 180 y5)), .pat 12 (.val (.int .i64)), .pat 13 (.val (.int .i64))], 0⟩)]
def K.slices_Equal_Span : Cons := lookK []
theorem run.slices_Equal_Span : Rn K.slices_Equal_Span L.slices_Equal_Span [] Tryz.f185 C.slices_Equal_Span := fun x => by kernel_rfl

/-! ### impl.told: function 187 -/
def F.impl_told.s3 : Stp (Int × Int × Int × (List DOut) × Int × Int × Unit) Int := fun (x1, x2, x3, x4, x5, x6, _) =>
 bif decide (x6 < x5) then
  chk (inb x6 x4.length) <|
  bif ((((x4.getD x6.toNat (0, (0, 0, [], (0, 0, 0, 0, [], [], [], ()), ()), ())).2).1).1) == x1 then
   bif (((((x4.getD x6.toNat (0, (0, 0, [], (0, 0, 0, 0, [], [], [], ()), ()), ())).2).1).2).1) == x2 then
    some (.again (x1, x2, w64 (x3 + 1), x4, x5, w64 (x6 + 1), ()))
   else
    some (.again (x1, x2, x3, x4, x5, w64 (x6 + 1), ()))
  else
   some (.again (x1, x2, x3, x4, x5, w64 (x6 + 1), ()))
 else
  some (.exit (x1, x2, x3, x4, x5, x6, ()))
def F.impl_told (a0 : List DOut) (a1 : Int) (a2 : Int) : Option Int :=
 afterO (loopO F.impl_told.s3 (a1, a2, 0, a0, len a0, 0, ())) fun (x7, x8, x9, x10, x11, x12, _) =>
 some x9
def C.impl_told : Con := ⟨[.r (.val (.sl false 203 y20)), .r (.val (.int .i64)), .r (.val (.int .i64))], .one (.int .i64), fun x => F.impl_told x.1 x.2.1 x.2.2.1⟩
def L.impl_told : Loops := lookL [(3, ⟨[.pat 1 (.val (.int .i64)), .pat 2 (.val (.int .i64)), .pat 7 (.val (.int .i64)), .pat 10 (.val (.sl false 203 y20)), .pat 11 (.val (.int .i64)), .pat 12 (.val (.int .i64))], 0⟩)]
def K.impl_told : Cons := lookK []
theorem run.impl_told : Rn K.impl_told L.impl_told [] Tryz.f187 C.impl_told := fun x => by kernel_rfl

/-! ### impl.HouseOk: function 83 -/
def F.impl_HouseOk.s10 : Stp ((List DSpan) × (List DSpan) × Int × Int × Int × (List DSeat) × Int × Int × DHouse × DSeat × Unit) (Lp ((List DSpan) × (List DSpan) × (List DSeat) × Int × Int × DHouse × Unit) Bool) := fun (x13, x14, x15, x16, x17, x18, x19, x20, x21, x22, _) =>
 bif decide (x17 <= 60) then
  (F.impl_IdOf x15 x17).bind fun r23 =>
  (F.impl_SetHas x14 r23).bind fun r24 =>
  bif r24 then
   some (.again (x13, x14, x15, w64 (x16 + 1), w64 (x17 + 1), x18, x19, x20, x21, x22, ()))
  else
   some (.again (x13, x14, x15, x16, w64 (x17 + 1), x18, x19, x20, x21, x22, ()))
 else
  some (.exit (x13, x14, x15, x16, x17, x18, x19, x20, x21, x22, ()))
def F.impl_HouseOk.s17 : Stp ((List DSpan) × (List DSpan) × Int × (List DSeat) × Int × Int × (List DSpan) × Int × Int × DHouse × Unit) (Lp ((List DSpan) × (List DSpan) × (List DSeat) × Int × Int × DHouse × Unit) Bool) := fun (x35, x36, x37, x38, x39, x40, x41, x42, x43, x44, _) =>
 bif decide (x43 < x42) then
  chk (inb x43 x41.length) <|
  (F.impl_IdOf x37 ((x41.getD x43.toNat (0, 0, ())).1)).bind fun r45 =>
  (F.impl_IdOf x37 (((x41.getD x43.toNat (0, 0, ())).2).1)).bind fun r46 =>
  chk (fits (List.length x35 + List.length ([(r45, r46, ())])) 16) <|
  some (.again (x35 ++ ([(r45, r46, ())]), x36, x37, x38, x39, x40, x41, x42, w64 (x43 + 1), x44, ()))
 else
  some (.exit (x35, x36, x37, x38, x39, x40, x41, x42, x43, x44, ()))
def F.impl_HouseOk.s6 : Stp ((List DSpan) × (List DSpan) × (List DSeat) × Int × Int × DHouse × Unit) Bool := fun (x7, x8, x9, x10, x11, x12, _) =>
 bif decide (x11 < x10) then
  chk (inb x11 x9.length) <|
  afterO (loopO F.impl_HouseOk.s10 (x7, x8, x11, 0, 1, x9, x10, x11, x12, x9.getD x11.toNat (0, 0, [], 0, 0, ()), ())) fun (x25, x26, x27, x28, x29, x30, x31, x32, x33, x34, _) =>
  bif x28 != x34.2.2.2.1 then
   some (.ret false)
  else
  afterO (loopO F.impl_HouseOk.s17 (x25, x26, x27, x30, x31, x32, x34.2.2.1, len x34.2.2.1, 0, x33, ())) fun (x47, x48, x49, x50, x51, x52, x53, x54, x55, x56, _) =>
  some (.again (x47, x48, x50, x51, w64 (x52 + 1), x56, ()))
 else
  some (.exit (x7, x8, x9, x10, x11, x12, ()))
def F.impl_HouseOk.s25 : Stp ((List DOut) × Int × Int × DHouse × Unit) Bool := fun (x68, x69, x70, x71, _) =>
 bif decide (x70 < x69) then
  chk (inb x70 x68.length) <|
  chk (cutOk 0 x70 x71.2.2.2.2.2.2.2.2.1.length) <|
  (F.impl_told (List.take (x70.toNat - 0) (List.drop 0 x71.2.2.2.2.2.2.2.2.1)) ((((x68.getD x70.toNat (0, (0, 0, [], (0, 0, 0, 0, [], [], [], ()), ()), ())).2).1).1) (((((x68.getD x70.toNat (0, (0, 0, [], (0, 0, 0, 0, [], [], [], ()), ()), ())).2).1).2).1)).bind fun r72 =>
  bif ((x68.getD x70.toNat (0, (0, 0, [], (0, 0, 0, 0, [], [], [], ()), ()), ())).1) != r72 then
   some (.ret false)
  else
   some (.again (x68, x69, w64 (x70 + 1), x71, ()))
 else
  some (.exit (x68, x69, x70, x71, ()))
def F.impl_HouseOk (a0 : DHouse) : Option Bool :=
 (F.impl_partsOk a0).bind fun r1 =>
 bif !r1 then
  some false
 else
 (F.impl_rowEntries a0).bind fun r2 =>
 (F.impl_added a0).bind fun r3 =>
 chk (fits (List.length r2 + List.length r3) 144) <|
 (F.impl_apart (r2 ++ r3)).bind fun r4 =>
 bif !r4 then
  some false
 else
 (F.impl_added a0).bind fun r5 =>
 (F.impl_idsOf r5).bind fun r6 =>
 afterO (loopO F.impl_HouseOk.s6 (([] : List DSpan), r6, a0.2.2.2.1, len a0.2.2.2.1, 0, a0, ())) fun (x57, x58, x59, x60, x61, x62, _) =>
 (F.impl_union x57).bind fun r63 =>
 (F.impl_rowEntries x62).bind fun r64 =>
 (F.impl_added x62).bind fun r65 =>
 chk (fits (List.length r64 + List.length r65) 144) <|
 (F.impl_idsOf (r64 ++ r65)).bind fun r66 =>
 (F.slices_Equal_Span r63 r66).bind fun r67 =>
 bif !r67 then
  some false
 else
 afterO (loopO F.impl_HouseOk.s25 (x62.2.2.2.2.2.2.2.2.1, len x62.2.2.2.2.2.2.2.2.1, 0, x62, ())) fun (x73, x74, x75, x76, _) =>
 some true
def C.impl_HouseOk : Con := ⟨[.r (.val y21)], .one .bool, fun x => F.impl_HouseOk x.1⟩
def L.impl_HouseOk : Loops := lookL [(10, ⟨[.own 3 (.sl true 180 y5), .own 4 (.sl true 180 y5), .pat 5 (.val (.int .i64)), .pat 7 (.val (.int .i64)), .pat 8 (.val (.int .i64)), .pat 29 (.val (.sl false 143 y19)), .pat 30 (.val (.int .i64)), .pat 31 (.val (.int .i64)), .root 1 true y21 [1], .root 6 true y19 [6]], 2⟩), (17, ⟨[.own 3 (.sl true 180 y5), .own 4 (.sl true 180 y5), .pat 5 (.val (.int .i64)), .pat 29 (.val (.sl false 143 y19)), .pat 30 (.val (.int .i64)), .pat 31 (.val (.int .i64)), .pat 52 (.val (.sl false 180 y5)), .pat 53 (.val (.int .i64)), .pat 54 (.val (.int .i64)), .root 1 true y21 [1]], 4⟩), (6, ⟨[.own 3 (.sl true 180 y5), .own 4 (.sl true 180 y5), .pat 29 (.val (.sl false 143 y19)), .pat 30 (.val (.int .i64)), .pat 31 (.val (.int .i64)), .root 1 true y21 [1]], 0⟩), (25, ⟨[.pat 83 (.val (.sl false 203 y20)), .pat 84 (.val (.int .i64)), .pat 85 (.val (.int .i64)), .root 1 true y21 [1]], 6⟩)]
def K.impl_HouseOk : Cons := lookK [(178, [], C.impl_partsOk), (179, [], C.impl_apart), (180, [], C.impl_rowEntries), (181, [], C.impl_added), (182, [], C.impl_idsOf), (183, [], C.impl_SetHas), (184, [], C.impl_IdOf), (185, [], C.slices_Equal_Span), (186, [], C.impl_union), (187, [], C.impl_told)]
theorem run.impl_HouseOk : Rn K.impl_HouseOk L.impl_HouseOk [] Tryz.f83 C.impl_HouseOk := fun x => by kernel_rfl

/-! ### impl.Items: function 84 -/
def F.impl_Items (a0 : DHouse) : Option Int :=
 (F.impl_rowEntries a0).bind fun r1 =>
 some (len r1)
def C.impl_Items : Con := ⟨[.r (.val y21)], .one (.int .i64), fun x => F.impl_Items x.1⟩
def K.impl_Items : Cons := lookK [(180, [], C.impl_rowEntries)]
theorem run.impl_Items : Rn K.impl_Items L0 [] Tryz.f84 C.impl_Items := fun x => by kernel_rfl

/-! ### impl.PickClass: function 85 -/
def F.impl_PickClass (a0 : Bool) (a1 : Bool) (a2 : Int) (a3 : Int) : Option (Int × Int) :=
 (F.impl_within a2 0 1000).bind fun r1 =>
 bif !r1 then
  some (-1, 0)
 else
 (F.impl_within a3 1 10).bind fun r2 =>
 bif !r2 then
  some (-1, 0)
 else
 bif !a0 then
  bif !a1 then
   some (-1, 0)
  else
  bif !a1 then
   some (0, 0)
  else
  bif !a0 then
   some (1, 0)
  else
  bif decide ((w64 (a2 + 1)) >= a3) then
   some (1, 0)
  else
   some (0, w64 (a2 + 1))
 else
 bif !a1 then
  some (0, 0)
 else
 bif !a0 then
  some (1, 0)
 else
 bif decide ((w64 (a2 + 1)) >= a3) then
  some (1, 0)
 else
  some (0, w64 (a2 + 1))
def C.impl_PickClass : Con := ⟨[.r (.val .bool), .r (.val .bool), .r (.val (.int .i64)), .r (.val (.int .i64))], .many [(.int .i64), (.int .i64)], fun x => F.impl_PickClass x.1 x.2.1 x.2.2.1 x.2.2.2.1⟩
def K.impl_PickClass : Cons := lookK [(123, [], C.impl_within)]
theorem run.impl_PickClass : Rn K.impl_PickClass L0 [] Tryz.f85 C.impl_PickClass := fun x => by kernel_rfl

/-! ### impl.EntrySize: function 192 -/
def F.impl_EntrySize.s5 : Stp (Int × (List Int) × Int × Int × Unit) Int := fun (x3, x4, x5, x6, _) =>
 bif decide (x6 < x5) then
  chk (inb x6 x4.length) <|
  bif decide ((x4.getD x6.toNat 0) > 0) then
   some (.again (w64 (x3 + 1), x4, x5, w64 (x6 + 1), ()))
  else
   some (.again (x3, x4, x5, w64 (x6 + 1), ()))
 else
  some (.exit (x3, x4, x5, x6, ()))
def F.impl_EntrySize (a0 : DEntry) : Option Int :=
 (F.impl_EntryOk a0).bind fun r1 =>
 bif !r1 then
  some 0
 else
 (F.impl_counts a0.2.2.2.1).bind fun r2 =>
 afterO (loopO F.impl_EntrySize.s5 (w64 (4 + (w64 (2 * (len a0.2.2.1)))), r2, len r2, 0, ())) fun (x7, x8, x9, x10, _) =>
 some x7
def C.impl_EntrySize : Con := ⟨[.r (.val y7)], .one (.int .i64), fun x => F.impl_EntrySize x.1⟩
def L.impl_EntrySize : Loops := lookL [(5, ⟨[.pat 3 (.val (.int .i64)), .own 16 (.sl true 3 (.int .i64)), .pat 17 (.val (.int .i64)), .pat 18 (.val (.int .i64))], 0⟩)]
def K.impl_EntrySize : Cons := lookK [(42, [], C.impl_EntryOk), (235, [], C.impl_counts)]
theorem run.impl_EntrySize : Rn K.impl_EntrySize L.impl_EntrySize [] Tryz.f192 C.impl_EntrySize := fun x => by kernel_rfl

/-! ### impl.Sizes: function 87 -/
def F.impl_Sizes.s5 : Stp (Int × (List Int) × (List (List DRow)) × Int × Int × Unit) (List Int) := fun (x3, x4, x5, x6, x7, _) =>
 bif decide (x7 < x6) then
  chk (inb x7 x5.length) <|
  chk (inb x3 (List.length (x5.getD x7.toNat ([])))) <|
  bif decide ((len ((List.getD (x5.getD x7.toNat ([])) x3.toNat ([], ())).1)) > 0) then
   chk (inb 0 (List.length ((List.getD (x5.getD x7.toNat ([])) x3.toNat ([], ())).1))) <|
   (F.impl_EntrySize (List.getD ((List.getD (x5.getD x7.toNat ([])) x3.toNat ([], ())).1) 0 (0, 0, [], (0, 0, 0, 0, [], [], [], ()), ()))).bind fun r8 =>
   chk (fits (List.length x4 + List.length ([mnI 200 r8])) 8) <|
   some (.again (x3, x4 ++ ([mnI 200 r8]), x5, x6, w64 (x7 + 1), ()))
  else
  chk (fits (List.length x4 + List.length ([0])) 8) <|
  some (.again (x3, x4 ++ ([0]), x5, x6, w64 (x7 + 1), ()))
 else
  some (.exit (x3, x4, x5, x6, x7, ()))
def F.impl_Sizes (a0 : DHouse) (a1 : Int) : Option (List Int) :=
 (F.impl_HouseOk a0).bind fun r1 =>
 bif !r1 then
  some ([] : List Int)
 else
 (F.impl_within a1 0 1).bind fun r2 =>
 bif !r2 then
  some ([] : List Int)
 else
 afterO (loopO F.impl_Sizes.s5 (a1, ([] : List Int), a0.2.2.2.2.1, len a0.2.2.2.2.1, 0, ())) fun (x9, x10, x11, x12, x13, _) =>
 some x10
def C.impl_Sizes : Con := ⟨[.r (.val y21), .r (.val (.int .i64))], .one (.sl true 3 (.int .i64)), fun x => F.impl_Sizes x.1 x.2.1⟩
def L.impl_Sizes : Loops := lookL [(5, ⟨[.pat 1 (.val (.int .i64)), .own 5 (.sl true 3 (.int .i64)), .pat 19 (.val (.sl false 121 (.sl false 84 (.cons (.sl false 31 y7) .nil)))), .pat 20 (.val (.int .i64)), .pat 21 (.val (.int .i64))], 0⟩)]
def K.impl_Sizes : Cons := lookK [(83, [], C.impl_HouseOk), (123, [], C.impl_within), (192, [], C.impl_EntrySize)]
theorem run.impl_Sizes : Rn K.impl_Sizes L.impl_Sizes [] Tryz.f87 C.impl_Sizes := fun x => by kernel_rfl

/-! ### slices.Max[[]int,int]: function 190 -/
def F.slices_Max_int.s5 : Stp ((List Int) × Int × Int × Unit) Int := fun (x1, x2, x3, _) =>
 bif decide (x3 < (len x1)) then
  chk (inb x3 x1.length) <|
  some (.again (x1, mxI x2 (x1.getD x3.toNat 0), w64 (x3 + 1), ()))
 else
  some (.exit (x1, x2, x3, ()))
def F.slices_Max_int (a0 : List Int) : Option Int :=
 bif decide ((len a0) < 1) then
  none
 else
 chk (inb 0 a0.length) <|
 afterO (loopO F.slices_Max_int.s5 (a0, a0.getD 0 0, 1, ())) fun (x4, x5, x6, _) =>
 some x5
def C.slices_Max_int : Con := ⟨[.r (.val (.sl false 3 (.int .i64)))], .one (.int .i64), fun x => F.slices_Max_int x.1⟩
def L.slices_Max_int : Loops := lookL [(5, ⟨[.pat 0 (.val (.sl false 3 (.int .i64))), .pat 3 (.val (.int .i64)), .pat 4 (.val (.int .i64))], 0⟩)]
def K.slices_Max_int : Cons := lookK []
theorem run.slices_Max_int : Rn K.slices_Max_int L.slices_Max_int [] Tryz.f190 C.slices_Max_int := fun x => by kernel_rfl

/-! ### impl.TurnNew: function 191 -/
def F.impl_TurnNew : Option DTurn :=
 chk (mk 8 3 3) <|
 some (0, true, List.replicate 3 0, ())
def C.impl_TurnNew : Con := ⟨[], .one y16, fun x => F.impl_TurnNew⟩
def K.impl_TurnNew : Cons := lookK []
theorem run.impl_TurnNew : Rn K.impl_TurnNew L0 [] Tryz.f191 C.impl_TurnNew := fun x => by kernel_rfl
end
end Go.Proofs.YtipaepbmdooekaaGreat.Vm
