import Derived.Test.YtnpmjlppjcemmaaV1
import Derived.Test.YtnpmjlppjcemmaaProg
import Derived.Test.YtnpmjlppjcemmaaVS0
import Derived.KernelRfl
namespace Go.Proofs.Ytnpmjlppjcemmaa.Vm
open Go Go.RowKit
set_option maxRecDepth 100000
set_option linter.unusedVariables false
def lookL (l : List (Nat × Loop)) : Loops := fun n => lookN l n
def eqNs : List Nat → List Nat → Bool
  | [], [] => true
  | a :: l, b :: m => Nat.beq a b && eqNs l m
  | _, _ => false
def lookK : List (FuncId × List Nat × Con) → Cons
  | [], _, _ => none
  | (f, ks, c) :: l, g, xs => bif Nat.beq f g && eqNs ks xs then some c else lookK l g xs
abbrev DSketch : Type := Int × Int × Int × Int × (List Int) × (List Int) × (List (List Int)) × Unit
abbrev DItem : Type := Int × Int × Int × Int × DSketch × Unit
abbrev DSpan : Type := Int × Int × Unit
abbrev DL1Cur : Type := (List Int) × Int × Int × Unit
abbrev DAgent : Type := Int × Int × Bool × Int × (List DItem) × (List DSpan) × Int × Unit
abbrev DFrame : Type := Int × Int × Int × Int × (List DSpan) × DItem × Unit
abbrev DEntry : Type := Int × Int × (List DSpan) × DSketch × Unit
abbrev DRow : Type := (List DEntry) × Unit
abbrev y0 : Ty := .cons (.sl false 5 (.int .u8)) (.cons (.int .i64) (.cons (.int .i64) .nil))
abbrev y1 : Ty := .cons (.int .i64) (.cons (.int .i64) .nil)
abbrev y2 : Ty := .cons (.int .i64) (.cons (.int .i64) (.cons (.int .i64) (.cons (.int .i64) (.cons (.sl false 3 (.int .i64)) (.cons (.sl false 3 (.int .i64)) (.cons (.sl false 29 (.sl false 3 (.int .i64))) .nil))))))
abbrev y3 : Ty := .cons (.int .i64) (.cons (.int .i64) (.cons (.int .i64) (.cons (.int .i64) (.cons y2 .nil))))
abbrev y4 : Ty := .cons (.int .i64) (.cons (.int .i64) (.cons .bool (.cons (.int .i64) (.cons (.sl false 36 y3) (.cons (.sl false 97 y1) (.cons (.int .i64) .nil))))))
abbrev y5 : Ty := .cons (.int .i64) (.cons (.int .i64) (.cons (.int .i64) (.cons (.int .i64) (.cons (.sl true 3 (.int .i64)) (.cons (.sl true 3 (.int .i64)) (.cons (.sl true 29 (.sl true 3 (.int .i64))) .nil))))))
abbrev y6 : Ty := .cons (.int .i64) (.cons (.int .i64) (.cons (.int .i64) (.cons (.int .i64) (.cons y5 .nil))))
abbrev y7 : Ty := .cons (.int .i64) (.cons (.int .i64) (.cons .bool (.cons (.int .i64) (.cons (.sl true 36 y6) (.cons (.sl true 97 y1) (.cons (.int .i64) .nil))))))
abbrev y8 : Ty := .cons (.int .i64) (.cons (.int .i64) (.cons (.int .i64) (.cons (.int .i64) (.cons (.sl true 97 y1) (.cons y6 .nil)))))
abbrev y9 : Ty := .cons (.int .i64) (.cons (.int .i64) (.cons (.int .i64) (.cons (.int .i64) (.cons (.sl false 97 y1) (.cons y3 .nil)))))
abbrev y10 : Ty := .cons (.int .i64) (.cons (.int .i64) (.cons (.sl false 180 y1) (.cons y2 .nil)))
abbrev y11 : Ty := .cons (.int .i64) (.cons (.int .i64) (.cons (.sl true 97 y1) (.cons y5 .nil)))
abbrev y12 : Ty := .cons (.int .i64) (.cons (.int .i64) (.cons (.sl false 97 y1) (.cons y2 .nil)))
abbrev y13 : Ty := .cons (.sl false 5 (.int .u8)) (.cons (.int .i64) (.cons .bool .nil))
def tb : List (TypeId × TRow) := [
  (2, ⟨(.int .i64), 8, []⟩),
  (3, ⟨(.int .i64), 8, []⟩),
  (4, ⟨.bool, 1, []⟩),
  (5, ⟨(.int .u8), 1, []⟩),
  (6, ⟨(.int .u8), 1, []⟩),
  (9, ⟨.str, 16, []⟩),
  (10, ⟨.str, 16, []⟩),
  (11, ⟨.str, 16, []⟩),
  (12, ⟨(.int .u64), 8, []⟩),
  (21, ⟨(.int .i32), 4, []⟩),
  (22, ⟨(.sl false 5 (.int .u8)), 24, []⟩),
  (24, ⟨(.sl false 36 y3), 24, []⟩),
  (25, ⟨(.sl false 97 y1), 24, []⟩),
  (26, ⟨y4, 88, [3, 3, 4, 3, 24, 25, 3]⟩),
  (27, ⟨y4, 88, [3, 3, 4, 3, 24, 25, 3]⟩),
  (29, ⟨(.sl false 3 (.int .i64)), 24, []⟩),
  (32, ⟨(.sl false 29 (.sl false 3 (.int .i64))), 24, []⟩),
  (33, ⟨y2, 104, [3, 3, 3, 3, 29, 29, 32]⟩),
  (34, ⟨y2, 104, [3, 3, 3, 3, 29, 29, 32]⟩),
  (35, ⟨y3, 136, [3, 3, 3, 3, 34]⟩),
  (36, ⟨y3, 136, [3, 3, 3, 3, 34]⟩),
  (37, ⟨y9, 192, [3, 3, 3, 3, 25, 36]⟩),
  (38, ⟨y9, 192, [3, 3, 3, 3, 25, 36]⟩),
  (51, ⟨(.sl false 153 y10), 24, []⟩),
  (52, ⟨(.cons (.sl false 153 y10) .nil), 24, [51]⟩),
  (53, ⟨(.cons (.sl false 153 y10) .nil), 24, [51]⟩),
  (55, ⟨y12, 144, [3, 3, 25, 34]⟩),
  (56, ⟨y12, 144, [3, 3, 25, 34]⟩),
  (57, ⟨(.sl false 56 y12), 24, []⟩),
  (58, ⟨(.cons (.sl false 56 y12) .nil), 24, [57]⟩),
  (59, ⟨(.cons (.sl false 56 y12) .nil), 24, [57]⟩),
  (96, ⟨y1, 16, [3, 3]⟩),
  (97, ⟨y1, 16, [3, 3]⟩),
  (103, ⟨(.int .u64), 8, []⟩),
  (106, ⟨y13, 40, [22, 3, 4]⟩),
  (107, ⟨y13, 40, [22, 3, 4]⟩),
  (140, ⟨y0, 40, [22, 3, 3]⟩),
  (141, ⟨y0, 40, [22, 3, 3]⟩),
  (150, ⟨(.sl false 180 y1), 24, []⟩),
  (151, ⟨y2, 104, [3, 3, 3, 3, 29, 29, 32]⟩),
  (152, ⟨y10, 144, [3, 3, 150, 151]⟩),
  (153, ⟨y10, 144, [3, 3, 150, 151]⟩),
  (180, ⟨y1, 16, [3, 3]⟩),
  (188, ⟨(.int .i64), 8, []⟩),
  (196, ⟨(.int .u32), 4, []⟩),
  (198, ⟨(.int .u64), 8, []⟩),
  (200, ⟨(.int .u64), 8, []⟩),
  (215, ⟨(.int .u8), 1, []⟩),
  (216, ⟨(.int .u8), 1, []⟩),
  (219, ⟨(.int .i32), 4, []⟩),
  (220, ⟨(.int .i32), 4, []⟩)]

/-! ### laws.big: function 9 -/
noncomputable def F.laws_big (a0 : List Int) : Option Bool :=
  some (decide ((len a0) > 1048576))
noncomputable def C.laws_big : Con := ⟨[.r (.val (.sl false 5 (.int .u8)))], .one .bool, fun x => F.laws_big x.1⟩
def L.laws_big : Loops := fun _ => none
noncomputable def K.laws_big : Cons := lookK []
theorem run.laws_big : ∀ x, runF tb K.laws_big L.laws_big [] Try.f9 C.laws_big x = C.laws_big.fn x := fun x => by kernel_rfl

/-! ### spec.l1New: function 59 -/
noncomputable def F.spec_l1New.s3 : ((List Int) × Int × Int × Unit) → Option (Lp ((List Int) × Int × Int × Unit) DL1Cur) := fun (x1, x2, x3, _) =>
  bif decide (x3 < (len x1)) then
    bif decide (x3 < 4000) then
      chk (inb x3 (List.length x1)) <|
      some (.again (x1, ibits .and .i64 (w64 ((w64 ((w64 (x2 * 131)) + (w64 (List.getD x1 ((Int.toNat x3)) 0)))) + 7)) 1073741823, w64 (x3 + 1), ()))
    else
      some (.exit (x1, x2, x3, ()))
  else
    some (.exit (x1, x2, x3, ()))
noncomputable def F.spec_l1New (a0 : List Int) : Option DL1Cur :=
  afterO (loopO F.spec_l1New.s3 (a0, w64 (26583 + (len a0)), 0, ())) fun (x4, x5, x6, _) =>
  some (x4, 0, x5, ())
noncomputable def C.spec_l1New : Con := ⟨[.r (.val (.sl false 5 (.int .u8)))], .ptr y0, fun x => F.spec_l1New x.1⟩
def L.spec_l1New : Loops := lookL [(3, ⟨[.pat 0 (.val (.sl false 5 (.int .u8))), .pat 3 (.val (.int .i64)), .pat 4 (.val (.int .i64))], 0⟩)]
noncomputable def K.spec_l1New : Cons := lookK []
theorem run.spec_l1New : ∀ x, runF tb K.spec_l1New L.spec_l1New [] Try.f59 C.spec_l1New x = C.spec_l1New.fn x := fun x => by kernel_rfl

/-! ### spec.l1Byte: function 109 -/
noncomputable def F.spec_l1Byte (a0 : DL1Cur) : Option (Int × DL1Cur) :=
  bif decide (a0.2.1 < (len a0.1)) then
    chk (inb a0.2.1 (List.length a0.1)) <|
    some (ibits .and .i64 (w64 ((ibits .and .i64 (ibits .xor .i64 (Int.fdiv (w64 ((w64 (a0.2.2.1 * 6364136223846793005)) + 1442695040888963407)) (2 ^ (min 33 64))) (Int.fdiv (w64 ((w64 (a0.2.2.1 * 6364136223846793005)) + 1442695040888963407)) (2 ^ (min 45 64)))) 255) + (w64 (List.getD a0.1 ((Int.toNat a0.2.1)) 0)))) 255, (a0.1, w64 (a0.2.1 + 1), w64 ((w64 (a0.2.2.1 * 6364136223846793005)) + 1442695040888963407), a0.2.2.2))
  else
    some (ibits .and .i64 (ibits .xor .i64 (Int.fdiv (w64 ((w64 (a0.2.2.1 * 6364136223846793005)) + 1442695040888963407)) (2 ^ (min 33 64))) (Int.fdiv (w64 ((w64 (a0.2.2.1 * 6364136223846793005)) + 1442695040888963407)) (2 ^ (min 45 64)))) 255, (a0.1, a0.2.1, w64 ((w64 (a0.2.2.1 * 6364136223846793005)) + 1442695040888963407), a0.2.2.2))
noncomputable def C.spec_l1Byte : Con := ⟨[.p y0 y0], .one (.int .i64), fun x => F.spec_l1Byte x.1⟩
def L.spec_l1Byte : Loops := fun _ => none
noncomputable def K.spec_l1Byte : Cons := lookK []
theorem run.spec_l1Byte : ∀ x, runF tb K.spec_l1Byte L.spec_l1Byte [0] Try.f109 C.spec_l1Byte x = C.spec_l1Byte.fn x := fun x => by kernel_rfl

/-! ### spec.l1Below: function 108 -/
noncomputable def F.spec_l1Below (a0 : DL1Cur) (a1 : Int) : Option (Int × DL1Cur) :=
  bif decide (a1 ≤ 0) then
    some (0, a0)
  else
  bif decide (a1 ≤ 256) then
    (F.spec_l1Byte a0).bind fun r1 =>
    nchk (a1 == 0) <|
    some (Int.tmod r1.1 a1, r1.2)
  else
  (F.spec_l1Byte a0).bind fun r2 =>
  (F.spec_l1Byte r2.2).bind fun r3 =>
  (F.spec_l1Byte r3.2).bind fun r4 =>
  (F.spec_l1Byte r4.2).bind fun r5 =>
  nchk (a1 == 0) <|
  some (Int.tmod (w64 ((w64 ((w64 ((w64 (r2.1 * 16777216)) + (w64 (r3.1 * 65536)))) + (w64 (r4.1 * 256)))) + r5.1)) a1, r5.2)
noncomputable def C.spec_l1Below : Con := ⟨[.p y0 y0, .r (.val (.int .i64))], .one (.int .i64), fun x => F.spec_l1Below x.1 x.2.1⟩
def L.spec_l1Below : Loops := fun _ => none
noncomputable def K.spec_l1Below : Cons := lookK [(109, [], C.spec_l1Byte)]
theorem run.spec_l1Below : ∀ x, runF tb K.spec_l1Below L.spec_l1Below [0] Try.f108 C.spec_l1Below x = C.spec_l1Below.fn x := fun x => by kernel_rfl

/-! ### spec.l1In: function 68 -/
noncomputable def F.spec_l1In (a0 : Int) (a1 : Int) (a2 : Int) : Option Bool :=
  bif decide (a0 ≥ a1) then
    some (decide (a0 ≤ a2))
  else
    some false
noncomputable def C.spec_l1In : Con := ⟨[.r (.val (.int .i64)), .r (.val (.int .i64)), .r (.val (.int .i64))], .one .bool, fun x => F.spec_l1In x.1 x.2.1 x.2.2.1⟩
def L.spec_l1In : Loops := fun _ => none
noncomputable def K.spec_l1In : Cons := lookK []
theorem run.spec_l1In : ∀ x, runF tb K.spec_l1In L.spec_l1In [] Try.f68 C.spec_l1In x = C.spec_l1In.fn x := fun x => by kernel_rfl

/-! ### spec.l6Agent: function 67 -/
noncomputable def F.spec_l6Agent (a0 : Int) : Option Bool :=
  (F.spec_l1In a0 0 2).bind fun r1 =>
  some r1
noncomputable def C.spec_l6Agent : Con := ⟨[.r (.val (.int .i64))], .one .bool, fun x => F.spec_l6Agent x.1⟩
def L.spec_l6Agent : Loops := fun _ => none
noncomputable def K.spec_l6Agent : Cons := lookK [(68, [], C.spec_l1In)]
theorem run.spec_l6Agent : ∀ x, runF tb K.spec_l6Agent L.spec_l6Agent [] Try.f67 C.spec_l6Agent x = C.spec_l6Agent.fn x := fun x => by kernel_rfl

/-! ### spec.SetOk: function 81 -/
noncomputable def F.spec_SetOk.s2 : ((List DSpan) × Int × Unit) → Option (Lp ((List DSpan) × Int × Unit) Bool) := fun (x1, x2, _) =>
  bif decide (x2 < (len x1)) then
    chk (inb x2 (List.length x1)) <|
    (F.spec_l1In ((List.getD x1 ((Int.toNat x2)) ((0, 0, ()))).1) 0 9999).bind fun r3 =>
    bif !r3 then
      some (.ret false)
    else
    chk (inb x2 (List.length x1)) <|
    chk (inb x2 (List.length x1)) <|
    (F.spec_l1In (((List.getD x1 ((Int.toNat x2)) ((0, 0, ()))).2).1) ((List.getD x1 ((Int.toNat x2)) ((0, 0, ()))).1) 9999).bind fun r4 =>
    bif !r4 then
      some (.ret false)
    else
    bif decide (x2 > 0) then
      chk (inb x2 (List.length x1)) <|
      chk (inb (w64 (x2 - 1)) (List.length x1)) <|
      bif decide (((List.getD x1 ((Int.toNat x2)) ((0, 0, ()))).1) ≤ (w64 ((((List.getD x1 ((Int.toNat (w64 (x2 - 1)))) ((0, 0, ()))).2).1) + 1))) then
        some (.ret false)
      else
        some (.again (x1, w64 (x2 + 1), ()))
    else
      some (.again (x1, w64 (x2 + 1), ()))
  else
    some (.exit (x1, x2, ()))
noncomputable def F.spec_SetOk (a0 : List DSpan) : Option Bool :=
  afterO (loopO F.spec_SetOk.s2 (a0, 0, ())) fun (x5, x6, _) =>
  some true
noncomputable def C.spec_SetOk : Con := ⟨[.r (.val (.sl false 97 y1))], .one .bool, fun x => F.spec_SetOk x.1⟩
def L.spec_SetOk : Loops := lookL [(2, ⟨[.pat 0 (.val (.sl false 97 y1)), .pat 3 (.val (.int .i64))], 0⟩)]
noncomputable def K.spec_SetOk : Cons := lookK [(68, [], C.spec_l1In)]
theorem run.spec_SetOk : ∀ x, runF tb K.spec_SetOk L.spec_SetOk [] Try.f81 C.spec_SetOk x = C.spec_SetOk.fn x := fun x => by kernel_rfl

/-! ### spec.l8Below: function 69 -/
noncomputable def F.spec_l8Below.s4 : ((List DSpan) × Int × Int × Unit) → Option (Lp ((List DSpan) × Int × Int × Unit) Bool) := fun (x2, x3, x4, _) =>
  bif decide (x4 < (len x2)) then
    chk (inb x4 (List.length x2)) <|
    bif decide (((List.getD x2 ((Int.toNat x4)) ((0, 0, ()))).1) < 1) then
      some (.ret false)
    else
    chk (inb x4 (List.length x2)) <|
    bif decide ((((List.getD x2 ((Int.toNat x4)) ((0, 0, ()))).2).1) > x3) then
      some (.ret false)
    else
      some (.again (x2, x3, w64 (x4 + 1), ()))
  else
    some (.exit (x2, x3, x4, ()))
noncomputable def F.spec_l8Below (a0 : List DSpan) (a1 : Int) : Option Bool :=
  (F.spec_SetOk a0).bind fun r1 =>
  bif !r1 then
    some false
  else
  afterO (loopO F.spec_l8Below.s4 (a0, a1, 0, ())) fun (x5, x6, x7, _) =>
  some true
noncomputable def C.spec_l8Below : Con := ⟨[.r (.val (.sl false 97 y1)), .r (.val (.int .i64))], .one .bool, fun x => F.spec_l8Below x.1 x.2.1⟩
def L.spec_l8Below : Loops := lookL [(4, ⟨[.pat 0 (.val (.sl false 97 y1)), .pat 1 (.val (.int .i64)), .pat 5 (.val (.int .i64))], 0⟩)]
noncomputable def K.spec_l8Below : Cons := lookK [(81, [], C.spec_SetOk)]
theorem run.spec_l8Below : ∀ x, runF tb K.spec_l8Below L.spec_l8Below [] Try.f69 C.spec_l8Below x = C.spec_l8Below.fn x := fun x => by kernel_rfl

/-! ### spec.l6Place: function 132 -/
noncomputable def F.spec_l6Place (a0 : Int) (a1 : Int) : Option Bool :=
  (F.spec_l1In a0 0 4).bind fun r1 =>
  bif r1 then
    (F.spec_l1In a1 0 20).bind fun r2 =>
    some r2
  else
    some false
noncomputable def C.spec_l6Place : Con := ⟨[.r (.val (.int .i64)), .r (.val (.int .i64))], .one .bool, fun x => F.spec_l6Place x.1 x.2.1⟩
def L.spec_l6Place : Loops := fun _ => none
noncomputable def K.spec_l6Place : Cons := lookK [(68, [], C.spec_l1In)]
theorem run.spec_l6Place : ∀ x, runF tb K.spec_l6Place L.spec_l6Place [] Try.f132 C.spec_l6Place x = C.spec_l6Place.fn x := fun x => by kernel_rfl

/-! ### spec.l3List: function 110 -/
noncomputable def F.spec_l3List.s4 : ((List Int) × Int × Int × Bool × Int × Unit) → Option (Lp ((List Int) × Int × Int × Bool × Int × Unit) Bool) := fun (x1, x2, x3, x4, x5, _) =>
  bif decide (x5 < x2) then
    chk (inb x5 (List.length x1)) <|
    (F.spec_l1In (List.getD x1 ((Int.toNat x5)) 0) 0 x3).bind fun r6 =>
    bif !r6 then
      some (.ret false)
    else
    bif x4 then
      chk (inb x5 (List.length x1)) <|
      bif (List.getD x1 ((Int.toNat x5)) 0) != 0 then
        some (.ret false)
      else
        some (.again (x1, x2, x3, x4, w64 (x5 + 1), ()))
    else
      some (.again (x1, x2, x3, x4, w64 (x5 + 1), ()))
  else
    some (.exit (x1, x2, x3, x4, x5, ()))
noncomputable def F.spec_l3List (a0 : List Int) (a1 : Int) (a2 : Int) (a3 : Bool) : Option Bool :=
  bif (len a0) != a1 then
    some false
  else
  afterO (loopO F.spec_l3List.s4 (a0, a1, a2, a3, 0, ())) fun (x7, x8, x9, x10, x11, _) =>
  some true
noncomputable def C.spec_l3List : Con := ⟨[.r (.val (.sl false 3 (.int .i64))), .r (.val (.int .i64)), .r (.val (.int .i64)), .r (.val .bool)], .one .bool, fun x => F.spec_l3List x.1 x.2.1 x.2.2.1 x.2.2.2.1⟩
def L.spec_l3List : Loops := lookL [(4, ⟨[.pat 0 (.val (.sl false 3 (.int .i64))), .pat 1 (.val (.int .i64)), .pat 2 (.val (.int .i64)), .pat 3 (.val .bool), .pat 9 (.val (.int .i64))], 0⟩)]
noncomputable def K.spec_l3List : Cons := lookK [(68, [], C.spec_l1In)]
theorem run.spec_l3List : ∀ x, runF tb K.spec_l3List L.spec_l3List [] Try.f110 C.spec_l3List x = C.spec_l3List.fn x := fun x => by kernel_rfl

/-! ### spec.SketchOk: function 44 -/
noncomputable def F.spec_SketchOk (a0 : DSketch) : Option Bool :=
  (F.spec_l1In a0.1 0 1000000000).bind fun r1 =>
  bif !r1 then
    some false
  else
  (F.spec_l1In a0.2.1 0 1000000000).bind fun r2 =>
  bif !r2 then
    some false
  else
  (F.spec_l1In a0.2.2.1 0 1000000).bind fun r3 =>
  bif !r3 then
    some false
  else
  (F.spec_l1In a0.2.2.2.1 0 1000000).bind fun r4 =>
  bif !r4 then
    some false
  else
  bif decide (a0.2.2.1 > a0.2.2.2.1) then
    some false
  else
  bif (len a0.2.2.2.2.2.2.1) != 2 then
    some false
  else
  bif a0.1 == 0 then
    bif a0.2.1 != 0 then
      some false
    else
    bif a0.2.2.2.1 != 0 then
      some false
    else
    (F.spec_l3List a0.2.2.2.2.1 8 1000000000 (a0.1 == 0)).bind fun r5 =>
    bif r5 then
      (F.spec_l3List a0.2.2.2.2.2.1 8 17 (a0.1 == 0)).bind fun r6 =>
      bif r6 then
        chk (inb 0 (List.length a0.2.2.2.2.2.2.1)) <|
        (F.spec_l3List (List.getD a0.2.2.2.2.2.2.1 0 (([] : List Int))) 4 1000000000 (a0.1 == 0)).bind fun r7 =>
        bif r7 then
          chk (inb 1 (List.length a0.2.2.2.2.2.2.1)) <|
          (F.spec_l3List (List.getD a0.2.2.2.2.2.2.1 1 (([] : List Int))) 4 1000000000 (a0.1 == 0)).bind fun r8 =>
          some r8
        else
          some false
      else
        some false
    else
      some false
  else
  (F.spec_l3List a0.2.2.2.2.1 8 1000000000 (a0.1 == 0)).bind fun r9 =>
  bif r9 then
    (F.spec_l3List a0.2.2.2.2.2.1 8 17 (a0.1 == 0)).bind fun r10 =>
    bif r10 then
      chk (inb 0 (List.length a0.2.2.2.2.2.2.1)) <|
      (F.spec_l3List (List.getD a0.2.2.2.2.2.2.1 0 (([] : List Int))) 4 1000000000 (a0.1 == 0)).bind fun r11 =>
      bif r11 then
        chk (inb 1 (List.length a0.2.2.2.2.2.2.1)) <|
        (F.spec_l3List (List.getD a0.2.2.2.2.2.2.1 1 (([] : List Int))) 4 1000000000 (a0.1 == 0)).bind fun r12 =>
        some r12
      else
        some false
    else
      some false
  else
    some false
noncomputable def C.spec_SketchOk : Con := ⟨[.r (.val y2)], .one .bool, fun x => F.spec_SketchOk x.1⟩
def L.spec_SketchOk : Loops := fun _ => none
noncomputable def K.spec_SketchOk : Cons := lookK [(68, [], C.spec_l1In), (110, [], C.spec_l3List)]
theorem run.spec_SketchOk : ∀ x, runF tb K.spec_SketchOk L.spec_SketchOk [] Try.f44 C.spec_SketchOk x = C.spec_SketchOk.fn x := fun x => by kernel_rfl

/-! ### spec.ItemOk: function 70 -/
noncomputable def F.spec_ItemOk (a0 : DItem) : Option Bool :=
  (F.spec_l1In a0.1 1 60).bind fun r1 =>
  bif r1 then
    (F.spec_l1In a0.2.1 0 1).bind fun r2 =>
    bif r2 then
      (F.spec_l6Place a0.2.2.1 a0.2.2.2.1).bind fun r3 =>
      bif r3 then
        (F.spec_SketchOk a0.2.2.2.2.1).bind fun r4 =>
        some r4
      else
        some false
    else
      some false
  else
    some false
noncomputable def C.spec_ItemOk : Con := ⟨[.r (.val y3)], .one .bool, fun x => F.spec_ItemOk x.1⟩
def L.spec_ItemOk : Loops := fun _ => none
noncomputable def K.spec_ItemOk : Cons := lookK [(44, [], C.spec_SketchOk), (68, [], C.spec_l1In), (132, [], C.spec_l6Place)]
theorem run.spec_ItemOk : ∀ x, runF tb K.spec_ItemOk L.spec_ItemOk [] Try.f70 C.spec_ItemOk x = C.spec_ItemOk.fn x := fun x => by kernel_rfl

/-! ### spec.AgentOk: function 17 -/
noncomputable def F.spec_AgentOk.s4 : (Int × DAgent × Unit) → Option (Lp (Int × DAgent × Unit) Bool) := fun (x6, x7, _) =>
  bif decide (x6 < (len x7.2.2.2.2.1)) then
    chk (inb x6 (List.length x7.2.2.2.2.1)) <|
    (F.spec_ItemOk (List.getD x7.2.2.2.2.1 ((Int.toNat x6)) ((0, 0, 0, 0, (0, 0, 0, 0, ([] : List Int), ([] : List Int), ([] : List (List Int)), ()), ())))).bind fun r8 =>
    bif !r8 then
      some (.ret false)
    else
    chk (inb x6 (List.length x7.2.2.2.2.1)) <|
    bif ((List.getD x7.2.2.2.2.1 ((Int.toNat x6)) ((0, 0, 0, 0, (0, 0, 0, 0, ([] : List Int), ([] : List Int), ([] : List (List Int)), ()), ()))).1) != (w64 (x6 + 1)) then
      some (.ret false)
    else
      some (.again (w64 (x6 + 1), x7, ()))
  else
    some (.exit (x6, x7, ()))
noncomputable def F.spec_AgentOk (a0 : DAgent) : Option Bool :=
  (F.spec_l6Agent a0.1).bind fun r1 =>
  bif !r1 then
    some false
  else
  (F.spec_l1In a0.2.1 0 1000).bind fun r2 =>
  bif !r2 then
    some false
  else
  (F.spec_l1In a0.2.2.2.1 0 60).bind fun r3 =>
  bif !r3 then
    some false
  else
  bif decide ((len a0.2.2.2.2.1) > 60) then
    some false
  else
  (F.spec_l1In a0.2.2.2.2.2.2.1 0 60).bind fun r4 =>
  bif !r4 then
    some false
  else
  (F.spec_l8Below a0.2.2.2.2.2.1 (len a0.2.2.2.2.1)).bind fun r5 =>
  bif !r5 then
    some false
  else
  bif !a0.2.2.1 then
    bif decide (a0.2.2.2.1 > 0) then
      some false
    else
    afterO (loopO F.spec_AgentOk.s4 (0, a0, ())) fun (x9, x10, _) =>
    some true
  else
  afterO (loopO F.spec_AgentOk.s4 (0, a0, ())) fun (x14, x15, _) =>
  some true
noncomputable def C.spec_AgentOk : Con := ⟨[.r (.val y4)], .one .bool, fun x => F.spec_AgentOk x.1⟩
def L.spec_AgentOk : Loops := lookL [(4, ⟨[.pat 3 (.val (.int .i64)), .root 1 true y4 [1]], 0⟩)]
noncomputable def K.spec_AgentOk : Cons := lookK [(67, [], C.spec_l6Agent), (68, [], C.spec_l1In), (69, [], C.spec_l8Below), (70, [], C.spec_ItemOk)]
theorem run.spec_AgentOk : ∀ x, runF tb K.spec_AgentOk L.spec_AgentOk [] Try.f17 C.spec_AgentOk x = C.spec_AgentOk.fn x := fun x => by kernel_rfl

/-! ### spec.AgentNew: function 162 -/
noncomputable def F.spec_AgentNew (a0 : Int) : Option (DAgent × Bool) :=
  (F.spec_AgentOk ((a0, 0, false, 0, ([] : List DItem), ([] : List DSpan), 0, ()))).bind fun r1 =>
  bif !r1 then
    some ((0, 0, false, 0, ([] : List DItem), ([] : List DSpan), 0, ()), false)
  else
    some ((a0, 0, false, 0, ([] : List DItem), ([] : List DSpan), 0, ()), true)
noncomputable def C.spec_AgentNew : Con := ⟨[.r (.val (.int .i64))], .many [y7, .bool], fun x => F.spec_AgentNew x.1⟩
def L.spec_AgentNew : Loops := fun _ => none
noncomputable def K.spec_AgentNew : Cons := lookK [(17, [], C.spec_AgentOk)]
theorem run.spec_AgentNew : ∀ x, runF tb K.spec_AgentNew L.spec_AgentNew [] Try.f162 C.spec_AgentNew x = C.spec_AgentNew.fn x := fun x => by kernel_rfl

/-! ### spec.l1PickInt: function 128 -/
noncomputable def F.spec_l1PickInt (a0 : DL1Cur) (a1 : List Int) : Option (Int × DL1Cur) :=
  (F.spec_l1Below a0 (len a1)).bind fun r1 =>
  chk (inb r1.1 (List.length a1)) <|
  some (List.getD a1 ((Int.toNat r1.1)) 0, r1.2)
noncomputable def C.spec_l1PickInt : Con := ⟨[.p y0 y0, .r (.val (.sl false 3 (.int .i64)))], .one (.int .i64), fun x => F.spec_l1PickInt x.1 x.2.1⟩
def L.spec_l1PickInt : Loops := fun _ => none
noncomputable def K.spec_l1PickInt : Cons := lookK [(108, [], C.spec_l1Below)]
theorem run.spec_l1PickInt : ∀ x, runF tb K.spec_l1PickInt L.spec_l1PickInt [0] Try.f128 C.spec_l1PickInt x = C.spec_l1PickInt.fn x := fun x => by kernel_rfl

/-! ### spec.l3Values: function 172 -/
noncomputable def F.spec_l3Values.s4 : ((List Int) × Int × Int × DL1Cur × Unit) → Option (Lp ((List Int) × Int × Int × DL1Cur × Unit) ((List Int) × DL1Cur)) := fun (x2, x3, x4, x5, _) =>
  bif decide (x4 < x3) then
    (F.spec_l1Byte x5).bind fun r6 =>
    (F.spec_l1PickInt r6.2 ([0, 1, 7, 8, 100, 5000, 1000000, r6.1, 1000001, -1])).bind fun r7 =>
    chk (fits (List.length x2 + List.length ([r7.1])) 8) <|
    some (.again (x2 ++ ([r7.1]), x3, w64 (x4 + 1), r7.2, ()))
  else
    some (.exit (x2, x3, x4, x5, ()))
noncomputable def F.spec_l3Values (a0 : DL1Cur) : Option ((List Int) × DL1Cur) :=
  (F.spec_l1Below a0 6).bind fun r1 =>
  afterO (loopO F.spec_l3Values.s4 (([] : List Int), r1.1, 0, r1.2, ())) fun (x8, x9, x10, x11, _) =>
  some (x8, x11)
noncomputable def C.spec_l3Values : Con := ⟨[.p y0 y0], .one (.sl true 3 (.int .i64)), fun x => F.spec_l3Values x.1⟩
def L.spec_l3Values : Loops := lookL [(4, ⟨[.own 3 (.sl true 3 (.int .i64)), .pat 4 (.val (.int .i64)), .pat 5 (.val (.int .i64)), .root 0 true y0 [0]], 0⟩)]
noncomputable def K.spec_l3Values : Cons := lookK [(108, [], C.spec_l1Below), (109, [], C.spec_l1Byte), (128, [], C.spec_l1PickInt)]
theorem run.spec_l3Values : ∀ x, runF tb K.spec_l3Values L.spec_l3Values [0] Try.f172 C.spec_l3Values x = C.spec_l3Values.fn x := fun x => by kernel_rfl

/-! ### spec.SketchNew: function 186 -/
noncomputable def F.spec_SketchNew : Option DSketch :=
  chk (mk 8 8 8) <|
  chk (mk 8 8 8) <|
  chk (mk 8 4 4) <|
  chk (mk 8 4 4) <|
  some (0, 0, 0, 0, List.replicate 8 0, List.replicate 8 0, [List.replicate 4 0, List.replicate 4 0], ())
noncomputable def C.spec_SketchNew : Con := ⟨[], .one y5, fun x => F.spec_SketchNew⟩
def L.spec_SketchNew : Loops := fun _ => none
noncomputable def K.spec_SketchNew : Cons := lookK []
theorem run.spec_SketchNew : ∀ x, runF tb K.spec_SketchNew L.spec_SketchNew [] Try.f186 C.spec_SketchNew x = C.spec_SketchNew.fn x := fun x => by kernel_rfl

/-! ### spec.l3Copy: function 114 -/
noncomputable def F.spec_l3Copy.s6 : (Int × DSketch × DSketch × DSketch × Unit) → Option (Lp (Int × DSketch × DSketch × DSketch × Unit) DSketch) := fun (x1, x2, x3, x4, _) =>
  bif decide (x1 < (len x2.2.2.2.2.2.2.1)) then
    chk (inb x1 (List.length x2.2.2.2.2.2.2.1)) <|
    chk (fits (List.length (([] : List Int)) + List.length (List.getD x2.2.2.2.2.2.2.1 ((Int.toNat x1)) (([] : List Int)))) 8) <|
    chk (fits (List.length x4.2.2.2.2.2.2.1 + List.length ([(([] : List Int)) ++ (List.getD x2.2.2.2.2.2.2.1 ((Int.toNat x1)) (([] : List Int)))])) 24) <|
    some (.again (w64 (x1 + 1), x2, x3, (x4.1, x4.2.1, x4.2.2.1, x4.2.2.2.1, x4.2.2.2.2.1, x4.2.2.2.2.2.1, x4.2.2.2.2.2.2.1 ++ ([(([] : List Int)) ++ (List.getD x2.2.2.2.2.2.2.1 ((Int.toNat x1)) (([] : List Int)))]), x4.2.2.2.2.2.2.2), ()))
  else
    some (.exit (x1, x2, x3, x4, ()))
noncomputable def F.spec_l3Copy (a0 : DSketch) : Option DSketch :=
  chk (fits (List.length (([] : List Int)) + List.length a0.2.2.2.2.1) 8) <|
  chk (fits (List.length (([] : List Int)) + List.length a0.2.2.2.2.2.1) 8) <|
  afterO (loopO F.spec_l3Copy.s6 (0, a0, (0, 0, 0, 0, ([] : List Int), ([] : List Int), ([] : List (List Int)), ()), (a0.1, a0.2.1, a0.2.2.1, a0.2.2.2.1, (([] : List Int)) ++ a0.2.2.2.2.1, (([] : List Int)) ++ a0.2.2.2.2.2.1, ([] : List (List Int)), a0.2.2.2.2.2.2.2), ())) fun (x5, x6, x7, x8, _) =>
  some x8
noncomputable def C.spec_l3Copy : Con := ⟨[.r (.val y2)], .one y5, fun x => F.spec_l3Copy x.1⟩
def L.spec_l3Copy : Loops := lookL [(6, ⟨[.pat 4 (.val (.int .i64)), .root 1 true y2 [1], .root 2 true y5 [2], .root 3 true y5 [3]], 0⟩)]
noncomputable def K.spec_l3Copy : Cons := lookK []
theorem run.spec_l3Copy : ∀ x, runF tb K.spec_l3Copy L.spec_l3Copy [] Try.f114 C.spec_l3Copy x = C.spec_l3Copy.fn x := fun x => by kernel_rfl

/-! ### spec.l1Min: function 177 -/
noncomputable def F.spec_l1Min (a0 : Int) (a1 : Int) : Option Int :=
  bif decide (a0 < a1) then
    some a0
  else
    some a1
noncomputable def C.spec_l1Min : Con := ⟨[.r (.val (.int .i64)), .r (.val (.int .i64))], .one (.int .i64), fun x => F.spec_l1Min x.1 x.2.1⟩
def L.spec_l1Min : Loops := fun _ => none
noncomputable def K.spec_l1Min : Cons := lookK []
theorem run.spec_l1Min : ∀ x, runF tb K.spec_l1Min L.spec_l1Min [] Try.f177 C.spec_l1Min x = C.spec_l1Min.fn x := fun x => by kernel_rfl

/-! ### spec.l1Max: function 118 -/
noncomputable def F.spec_l1Max (a0 : Int) (a1 : Int) : Option Int :=
  bif decide (a0 > a1) then
    some a0
  else
    some a1
noncomputable def C.spec_l1Max : Con := ⟨[.r (.val (.int .i64)), .r (.val (.int .i64))], .one (.int .i64), fun x => F.spec_l1Max x.1 x.2.1⟩
def L.spec_l1Max : Loops := fun _ => none
noncomputable def K.spec_l1Max : Cons := lookK []
theorem run.spec_l1Max : ∀ x, runF tb K.spec_l1Max L.spec_l1Max [] Try.f118 C.spec_l1Max x = C.spec_l1Max.fn x := fun x => by kernel_rfl

/-! ### spec.l2Clip: function 207 -/
noncomputable def F.spec_l2Clip (a0 : Int) (a1 : Int) : Option Int :=
  (F.spec_l1Min a0 a1).bind fun r1 =>
  (F.spec_l1Max 0 r1).bind fun r2 =>
  some r2
noncomputable def C.spec_l2Clip : Con := ⟨[.r (.val (.int .i64)), .r (.val (.int .i64))], .one (.int .i64), fun x => F.spec_l2Clip x.1 x.2.1⟩
def L.spec_l2Clip : Loops := fun _ => none
noncomputable def K.spec_l2Clip : Cons := lookK [(118, [], C.spec_l1Max), (177, [], C.spec_l1Min)]
theorem run.spec_l2Clip : ∀ x, runF tb K.spec_l2Clip L.spec_l2Clip [] Try.f207 C.spec_l2Clip x = C.spec_l2Clip.fn x := fun x => by kernel_rfl

/-! ### spec.Add: function 191 -/
noncomputable def F.spec_Add (a0 : Int) (a1 : Int) : Option Int :=
  (F.spec_l2Clip a0 1000000000).bind fun r1 =>
  (F.spec_l2Clip a1 1000000000).bind fun r2 =>
  (F.spec_l1Min (w64 (r1 + r2)) 1000000000).bind fun r3 =>
  some r3
noncomputable def C.spec_Add : Con := ⟨[.r (.val (.int .i64)), .r (.val (.int .i64))], .one (.int .i64), fun x => F.spec_Add x.1 x.2.1⟩
def L.spec_Add : Loops := fun _ => none
noncomputable def K.spec_Add : Cons := lookK [(177, [], C.spec_l1Min), (207, [], C.spec_l2Clip)]
theorem run.spec_Add : ∀ x, runF tb K.spec_Add L.spec_Add [] Try.f191 C.spec_Add x = C.spec_Add.fn x := fun x => by kernel_rfl

/-! ### spec.BucketOf: function 194 -/
noncomputable def F.spec_BucketOf.s3 : (Int × Int × Unit) → Option (Lp (Int × Int × Unit) Int) := fun (x2, x3, _) =>
  bif decide (x2 > 0) then
    some (.again (w64 (Int.tdiv x2 2), w64 (x3 + 1), ()))
  else
    some (.exit (x2, x3, ()))
noncomputable def F.spec_BucketOf (a0 : Int) : Option Int :=
  (F.spec_l2Clip a0 1000000).bind fun r1 =>
  afterO (loopO F.spec_BucketOf.s3 (r1, 0, ())) fun (x4, x5, _) =>
  some (w64 (Int.tdiv (w64 (x5 + 2)) 3))
noncomputable def C.spec_BucketOf : Con := ⟨[.r (.val (.int .i64))], .one (.int .i64), fun x => F.spec_BucketOf x.1⟩
def L.spec_BucketOf : Loops := lookL [(3, ⟨[.pat 3 (.val (.int .i64)), .pat 4 (.val (.int .i64))], 0⟩)]
noncomputable def K.spec_BucketOf : Cons := lookK [(207, [], C.spec_l2Clip)]
theorem run.spec_BucketOf : ∀ x, runF tb K.spec_BucketOf L.spec_BucketOf [] Try.f194 C.spec_BucketOf x = C.spec_BucketOf.fn x := fun x => by kernel_rfl

/-! ### spec.Mix: function 195 -/
noncomputable def F.spec_Mix (a0 : Int) : Option Int :=
  (F.spec_l2Clip a0 1000000).bind fun r1 =>
  some (ibits .xor .i64 (Int.tmod (w64 ((w64 (r1 * 40503)) + 12345)) 65536) (w64 (Int.tdiv (Int.tmod (w64 ((w64 (r1 * 40503)) + 12345)) 65536) 256)))
noncomputable def C.spec_Mix : Con := ⟨[.r (.val (.int .i64))], .one (.int .i64), fun x => F.spec_Mix x.1⟩
def L.spec_Mix : Loops := fun _ => none
noncomputable def K.spec_Mix : Cons := lookK [(207, [], C.spec_l2Clip)]
theorem run.spec_Mix : ∀ x, runF tb K.spec_Mix L.spec_Mix [] Try.f195 C.spec_Mix x = C.spec_Mix.fn x := fun x => by kernel_rfl

/-! ### spec.RankOf: function 196 -/
noncomputable def F.spec_RankOf.s5 : (Int × Int × Unit) → Option (Lp (Int × Int × Unit) Int) := fun (x2, x3, _) =>
  bif (Int.tmod x2 2) == 0 then
    some (.again (w64 (Int.tdiv x2 2), w64 (x3 + 1), ()))
  else
    some (.exit (x2, x3, ()))
noncomputable def F.spec_RankOf (a0 : Int) : Option Int :=
  (F.spec_Mix a0).bind fun r1 =>
  bif r1 == 0 then
    some 17
  else
  afterO (loopO F.spec_RankOf.s5 (r1, 1, ())) fun (x4, x5, _) =>
  some x5
noncomputable def C.spec_RankOf : Con := ⟨[.r (.val (.int .i64))], .one (.int .i64), fun x => F.spec_RankOf x.1⟩
def L.spec_RankOf : Loops := lookL [(5, ⟨[.pat 3 (.val (.int .i64)), .pat 4 (.val (.int .i64))], 0⟩)]
noncomputable def K.spec_RankOf : Cons := lookK [(195, [], C.spec_Mix)]
theorem run.spec_RankOf : ∀ x, runF tb K.spec_RankOf L.spec_RankOf [] Try.f196 C.spec_RankOf x = C.spec_RankOf.fn x := fun x => by kernel_rfl

/-! ### spec.Insert: function 187 -/
noncomputable def F.spec_Insert.s14 : (Int × Int × DSketch × DSketch × Unit) → Option (Lp (Int × Int × DSketch × DSketch × Unit) (DSketch × Bool)) := fun (x14, x15, x16, x17, _) =>
  bif decide (x15 < 2) then
    (F.spec_Mix x14).bind fun r18 =>
    chk (inb x15 (List.length x17.2.2.2.2.2.2.1)) <|
    chk (inb x15 (List.length x17.2.2.2.2.2.2.1)) <|
    chk (inb (Int.tmod (w64 (r18 + x15)) 4) (List.length (List.getD x17.2.2.2.2.2.2.1 ((Int.toNat x15)) (([] : List Int))))) <|
    (F.spec_Add (List.getD (List.getD x17.2.2.2.2.2.2.1 ((Int.toNat x15)) (([] : List Int))) ((Int.toNat (Int.tmod (w64 (r18 + x15)) 4))) 0) 1).bind fun r19 =>
    chk (inb (Int.tmod (w64 (r18 + x15)) 4) (List.length (List.getD x17.2.2.2.2.2.2.1 ((Int.toNat x15)) (([] : List Int))))) <|
    (some (List.set x17.2.2.2.2.2.2.1 ((Int.toNat x15)) (List.set (List.getD x17.2.2.2.2.2.2.1 ((Int.toNat x15)) (([] : List Int))) ((Int.toNat (Int.tmod (w64 (r18 + x15)) 4))) r19))).bind fun r20 =>
    some (.again (x14, w64 (x15 + 1), x16, (x17.1, x17.2.1, x17.2.2.1, x17.2.2.2.1, x17.2.2.2.2.1, x17.2.2.2.2.2.1, r20, x17.2.2.2.2.2.2.2), ()))
  else
    some (.exit (x14, x15, x16, x17, ()))
noncomputable def F.spec_Insert (a0 : DSketch) (a1 : Int) : Option (DSketch × Bool) :=
  (F.spec_l3Copy a0).bind fun r1 =>
  (F.spec_SketchOk a0).bind fun r2 =>
  bif !r2 then
    some (r1, false)
  else
  (F.spec_l1In a1 0 1000000).bind fun r3 =>
  bif !r3 then
    some (r1, false)
  else
  (F.spec_Add a0.1 1).bind fun r4 =>
  (F.spec_Add a0.2.1 a1).bind fun r5 =>
  (F.spec_l1Min a0.2.2.1 a1).bind fun r6 =>
  bif a0.1 == 0 then
    (F.spec_l1Max a0.2.2.2.1 a1).bind fun r7 =>
    (F.spec_BucketOf a1).bind fun r8 =>
    (F.spec_BucketOf a1).bind fun r9 =>
    chk (inb r9 (List.length r1.2.2.2.2.1)) <|
    (F.spec_Add (List.getD r1.2.2.2.2.1 ((Int.toNat r9)) 0) 1).bind fun r10 =>
    chk (inb r8 (List.length r1.2.2.2.2.1)) <|
    (F.spec_Mix a1).bind fun r11 =>
    chk (inb (Int.tmod r11 8) (List.length r1.2.2.2.2.2.1)) <|
    (F.spec_RankOf a1).bind fun r12 =>
    (F.spec_l1Max (List.getD r1.2.2.2.2.2.1 ((Int.toNat (Int.tmod r11 8))) 0) r12).bind fun r13 =>
    chk (inb (Int.tmod r11 8) (List.length r1.2.2.2.2.2.1)) <|
    afterO (loopO F.spec_Insert.s14 (a1, 0, (0, 0, 0, 0, ([] : List Int), ([] : List Int), ([] : List (List Int)), ()), (r4, r5, a1, r7, List.set r1.2.2.2.2.1 ((Int.toNat r8)) r10, List.set r1.2.2.2.2.2.1 ((Int.toNat (Int.tmod r11 8))) r13, r1.2.2.2.2.2.2), ())) fun (x21, x22, x23, x24, _) =>
    some (x24, true)
  else
  (F.spec_l1Max a0.2.2.2.1 a1).bind fun r25 =>
  (F.spec_BucketOf a1).bind fun r26 =>
  (F.spec_BucketOf a1).bind fun r27 =>
  chk (inb r27 (List.length r1.2.2.2.2.1)) <|
  (F.spec_Add (List.getD r1.2.2.2.2.1 ((Int.toNat r27)) 0) 1).bind fun r28 =>
  chk (inb r26 (List.length r1.2.2.2.2.1)) <|
  (F.spec_Mix a1).bind fun r29 =>
  chk (inb (Int.tmod r29 8) (List.length r1.2.2.2.2.2.1)) <|
  (F.spec_RankOf a1).bind fun r30 =>
  (F.spec_l1Max (List.getD r1.2.2.2.2.2.1 ((Int.toNat (Int.tmod r29 8))) 0) r30).bind fun r31 =>
  chk (inb (Int.tmod r29 8) (List.length r1.2.2.2.2.2.1)) <|
  afterO (loopO F.spec_Insert.s14 (a1, 0, (0, 0, 0, 0, ([] : List Int), ([] : List Int), ([] : List (List Int)), ()), (r4, r5, r6, r25, List.set r1.2.2.2.2.1 ((Int.toNat r26)) r28, List.set r1.2.2.2.2.2.1 ((Int.toNat (Int.tmod r29 8))) r31, r1.2.2.2.2.2.2), ())) fun (x39, x40, x41, x42, _) =>
  some (x42, true)
noncomputable def C.spec_Insert : Con := ⟨[.r (.val y2), .r (.val (.int .i64))], .many [y5, .bool], fun x => F.spec_Insert x.1 x.2.1⟩
def L.spec_Insert : Loops := lookL [(14, ⟨[.pat 1 (.val (.int .i64)), .pat 8 (.val (.int .i64)), .root 4 true y5 [4], .root 6 true y5 [6]], 0⟩)]
noncomputable def K.spec_Insert : Cons := lookK [(44, [], C.spec_SketchOk), (68, [], C.spec_l1In), (114, [], C.spec_l3Copy), (118, [], C.spec_l1Max), (177, [], C.spec_l1Min), (191, [], C.spec_Add), (194, [], C.spec_BucketOf), (195, [], C.spec_Mix), (196, [], C.spec_RankOf)]
theorem run.spec_Insert : ∀ x, runF tb K.spec_Insert L.spec_Insert [] Try.f187 C.spec_Insert x = C.spec_Insert.fn x := fun x => by kernel_rfl

/-! ### spec.Sketched: function 171 -/
noncomputable def F.spec_Sketched.s3 : ((List Int) × Int × DSketch × DSketch × Unit) → Option (Lp ((List Int) × Int × DSketch × DSketch × Unit) DSketch) := fun (x2, x3, x4, x5, _) =>
  bif decide (x3 < (len x2)) then
    chk (inb x3 (List.length x2)) <|
    (F.spec_Insert x5 (List.getD x2 ((Int.toNat x3)) 0)).bind fun r6 =>
    some (.again (x2, w64 (x3 + 1), x4, r6.1, ()))
  else
    some (.exit (x2, x3, x4, x5, ()))
noncomputable def F.spec_Sketched (a0 : List Int) : Option DSketch :=
  (F.spec_SketchNew).bind fun r1 =>
  afterO (loopO F.spec_Sketched.s3 (a0, 0, (0, 0, 0, 0, ([] : List Int), ([] : List Int), ([] : List (List Int)), ()), r1, ())) fun (x7, x8, x9, x10, _) =>
  some x10
noncomputable def C.spec_Sketched : Con := ⟨[.r (.val (.sl false 3 (.int .i64)))], .one y5, fun x => F.spec_Sketched x.1⟩
def L.spec_Sketched : Loops := lookL [(3, ⟨[.pat 0 (.val (.sl false 3 (.int .i64))), .pat 4 (.val (.int .i64)), .root 2 true y5 [2], .root 3 true y5 [3]], 0⟩)]
noncomputable def K.spec_Sketched : Cons := lookK [(186, [], C.spec_SketchNew), (187, [], C.spec_Insert)]
theorem run.spec_Sketched : ∀ x, runF tb K.spec_Sketched L.spec_Sketched [] Try.f171 C.spec_Sketched x = C.spec_Sketched.fn x := fun x => by kernel_rfl

/-! ### spec.l6Right: function 156 -/
noncomputable def F.spec_l6Right (a0 : DL1Cur) : Option (DItem × DL1Cur) :=
  (F.spec_l1Below a0 8).bind fun r1 =>
  (F.spec_l1Below r1.2 2).bind fun r2 =>
  (F.spec_l1Below r2.2 2).bind fun r3 =>
  (F.spec_l1Below r3.2 3).bind fun r4 =>
  (F.spec_l3Values r4.2).bind fun r5 =>
  (F.spec_Sketched r5.1).bind fun r6 =>
  some ((w64 (1 + r1.1), r2.1, r3.1, r4.1, r6, ()), r5.2)
noncomputable def C.spec_l6Right : Con := ⟨[.p y0 y0], .one y6, fun x => F.spec_l6Right x.1⟩
def L.spec_l6Right : Loops := fun _ => none
noncomputable def K.spec_l6Right : Cons := lookK [(108, [], C.spec_l1Below), (171, [], C.spec_Sketched), (172, [], C.spec_l3Values)]
theorem run.spec_l6Right : ∀ x, runF tb K.spec_l6Right L.spec_l6Right [0] Try.f156 C.spec_l6Right x = C.spec_l6Right.fn x := fun x => by kernel_rfl

/-! ### spec.l5Copy: function 131 -/
noncomputable def F.spec_l5Copy (a0 : List DSpan) : Option ((List DSpan)) :=
  chk (fits (List.length (([] : List DSpan)) + List.length a0) 16) <|
  some ((([] : List DSpan)) ++ a0)
noncomputable def C.spec_l5Copy : Con := ⟨[.r (.val (.sl false 97 y1))], .one (.sl true 97 y1), fun x => F.spec_l5Copy x.1⟩
def L.spec_l5Copy : Loops := fun _ => none
noncomputable def K.spec_l5Copy : Cons := lookK []
theorem run.spec_l5Copy : ∀ x, runF tb K.spec_l5Copy L.spec_l5Copy [] Try.f131 C.spec_l5Copy x = C.spec_l5Copy.fn x := fun x => by kernel_rfl

/-! ### spec.l6Item: function 64 -/
noncomputable def F.spec_l6Item (a0 : DItem) : Option DItem :=
  (F.spec_l3Copy a0.2.2.2.2.1).bind fun r1 =>
  some (a0.1, a0.2.1, a0.2.2.1, a0.2.2.2.1, r1, a0.2.2.2.2.2)
noncomputable def C.spec_l6Item : Con := ⟨[.r (.val y3)], .one y6, fun x => F.spec_l6Item x.1⟩
def L.spec_l6Item : Loops := fun _ => none
noncomputable def K.spec_l6Item : Cons := lookK [(114, [], C.spec_l3Copy)]
theorem run.spec_l6Item : ∀ x, runF tb K.spec_l6Item L.spec_l6Item [] Try.f64 C.spec_l6Item x = C.spec_l6Item.fn x := fun x => by kernel_rfl

/-! ### spec.l8Copy: function 63 -/
noncomputable def F.spec_l8Copy.s5 : (Int × DAgent × DAgent × DAgent × Unit) → Option (Lp (Int × DAgent × DAgent × DAgent × Unit) DAgent) := fun (x2, x3, x4, x5, _) =>
  bif decide (x2 < (len x3.2.2.2.2.1)) then
    chk (inb x2 (List.length x3.2.2.2.2.1)) <|
    (F.spec_l6Item (List.getD x3.2.2.2.2.1 ((Int.toNat x2)) ((0, 0, 0, 0, (0, 0, 0, 0, ([] : List Int), ([] : List Int), ([] : List (List Int)), ()), ())))).bind fun r6 =>
    chk (fits (List.length x5.2.2.2.2.1 + List.length ([r6])) 136) <|
    some (.again (w64 (x2 + 1), x3, x4, (x5.1, x5.2.1, x5.2.2.1, x5.2.2.2.1, x5.2.2.2.2.1 ++ ([r6]), x5.2.2.2.2.2), ()))
  else
    some (.exit (x2, x3, x4, x5, ()))
noncomputable def F.spec_l8Copy (a0 : DAgent) : Option DAgent :=
  (F.spec_l5Copy a0.2.2.2.2.2.1).bind fun r1 =>
  afterO (loopO F.spec_l8Copy.s5 (0, a0, (0, 0, false, 0, ([] : List DItem), ([] : List DSpan), 0, ()), (a0.1, a0.2.1, a0.2.2.1, a0.2.2.2.1, ([] : List DItem), r1, a0.2.2.2.2.2.2), ())) fun (x7, x8, x9, x10, _) =>
  some x10
noncomputable def C.spec_l8Copy : Con := ⟨[.r (.val y4)], .one y7, fun x => F.spec_l8Copy x.1⟩
def L.spec_l8Copy : Loops := lookL [(5, ⟨[.pat 4 (.val (.int .i64)), .root 1 true y4 [1], .root 2 true y7 [2], .root 3 true y7 [3]], 0⟩)]
noncomputable def K.spec_l8Copy : Cons := lookK [(64, [], C.spec_l6Item), (131, [], C.spec_l5Copy)]
theorem run.spec_l8Copy : ∀ x, runF tb K.spec_l8Copy L.spec_l8Copy [] Try.f63 C.spec_l8Copy x = C.spec_l8Copy.fn x := fun x => by kernel_rfl

/-! ### spec.Seal: function 48 -/
noncomputable def F.spec_Seal (a0 : DAgent) (a1 : Int) (a2 : Int) (a3 : Int) (a4 : DSketch) : Option (DAgent × Int) :=
  (F.spec_AgentOk a0).bind fun r1 =>
  bif !r1 then
    (F.spec_l8Copy a0).bind fun r2 =>
    some (r2, 0)
  else
  (F.spec_l8Copy a0).bind fun r3 =>
  (F.spec_l3Copy a4).bind fun r4 =>
  chk (fits (List.length r3.2.2.2.2.1 + List.length ([(w64 ((len a0.2.2.2.2.1) + 1), a1, a2, a3, r4, ())])) 136) <|
  (F.spec_AgentOk ((r3.1, r3.2.1, r3.2.2.1, r3.2.2.2.1, r3.2.2.2.2.1 ++ ([(w64 ((len a0.2.2.2.2.1) + 1), a1, a2, a3, r4, ())]), r3.2.2.2.2.2))).bind fun r5 =>
  bif !r5 then
    (F.spec_l8Copy a0).bind fun r6 =>
    some (r6, 0)
  else
    some ((r3.1, r3.2.1, r3.2.2.1, r3.2.2.2.1, r3.2.2.2.2.1 ++ ([(w64 ((len a0.2.2.2.2.1) + 1), a1, a2, a3, r4, ())]), r3.2.2.2.2.2), len (r3.2.2.2.2.1 ++ ([(w64 ((len a0.2.2.2.2.1) + 1), a1, a2, a3, r4, ())])))
noncomputable def C.spec_Seal : Con := ⟨[.r (.val y4), .r (.val (.int .i64)), .r (.val (.int .i64)), .r (.val (.int .i64)), .r (.val y2)], .many [y7, (.int .i64)], fun x => F.spec_Seal x.1 x.2.1 x.2.2.1 x.2.2.2.1 x.2.2.2.2.1⟩
def L.spec_Seal : Loops := lookL [(2000007, ⟨[], 4⟩)]
noncomputable def K.spec_Seal : Cons := lookK [(17, [], C.spec_AgentOk), (63, [], C.spec_l8Copy), (114, [], C.spec_l3Copy)]
theorem run.spec_Seal : ∀ x, runF tb K.spec_Seal L.spec_Seal [] Try.f48 C.spec_Seal x = C.spec_Seal.fn x := fun x => by kernel_rfl

/-! ### spec.l1Once: function 100 -/
noncomputable def F.spec_l1Once (a0 : DL1Cur) (a1 : Int) : Option (Bool × DL1Cur) :=
  (F.spec_l1Below a0 a1).bind fun r1 =>
  some (r1.1 == 0, r1.2)
noncomputable def C.spec_l1Once : Con := ⟨[.p y0 y0, .r (.val (.int .i64))], .one .bool, fun x => F.spec_l1Once x.1 x.2.1⟩
def L.spec_l1Once : Loops := fun _ => none
noncomputable def K.spec_l1Once : Cons := lookK [(108, [], C.spec_l1Below)]
theorem run.spec_l1Once : ∀ x, runF tb K.spec_l1Once L.spec_l1Once [0] Try.f100 C.spec_l1Once x = C.spec_l1Once.fn x := fun x => by kernel_rfl

/-! ### spec.l8One: function 115 -/
noncomputable def F.spec_l8One (a0 : Int) : Option DSpan :=
  some (a0, a0, ())
noncomputable def C.spec_l8One : Con := ⟨[.r (.val (.int .i64))], .one y1, fun x => F.spec_l8One x.1⟩
def L.spec_l8One : Loops := fun _ => none
noncomputable def K.spec_l8One : Cons := lookK []
theorem run.spec_l8One : ∀ x, runF tb K.spec_l8One L.spec_l8One [] Try.f115 C.spec_l8One x = C.spec_l8One.fn x := fun x => by kernel_rfl

/-! ### spec.l5Put: function 158 -/
noncomputable def F.spec_l5Put.s4 : ((List DSpan) × (List DSpan) × Bool × Int × DSpan × Unit) → Option (Lp ((List DSpan) × (List DSpan) × Bool × Int × DSpan × Unit) ((List DSpan))) := fun (x1, x2, x3, x4, x5, _) =>
  bif decide (x4 < (len x1)) then
    chk (inb x4 (List.length x1)) <|
    bif decide ((w64 ((((List.getD x1 ((Int.toNat x4)) ((0, 0, ()))).2).1) + 1)) < x5.1) then
      chk (inb x4 (List.length x1)) <|
      chk (fits (List.length x2 + List.length ([List.getD x1 ((Int.toNat x4)) ((0, 0, ()))])) 16) <|
      some (.again (x1, x2 ++ ([List.getD x1 ((Int.toNat x4)) ((0, 0, ()))]), x3, w64 (x4 + 1), x5, ()))
    else
    chk (inb x4 (List.length x1)) <|
    bif decide (((List.getD x1 ((Int.toNat x4)) ((0, 0, ()))).1) > (w64 (x5.2.1 + 1))) then
      bif !x3 then
        chk (fits (List.length x2 + List.length ([x5])) 16) <|
        chk (inb x4 (List.length x1)) <|
        chk (fits (List.length (x2 ++ ([x5])) + List.length ([List.getD x1 ((Int.toNat x4)) ((0, 0, ()))])) 16) <|
        some (.again (x1, (x2 ++ ([x5])) ++ ([List.getD x1 ((Int.toNat x4)) ((0, 0, ()))]), true, w64 (x4 + 1), x5, ()))
      else
      chk (inb x4 (List.length x1)) <|
      chk (fits (List.length x2 + List.length ([List.getD x1 ((Int.toNat x4)) ((0, 0, ()))])) 16) <|
      some (.again (x1, x2 ++ ([List.getD x1 ((Int.toNat x4)) ((0, 0, ()))]), x3, w64 (x4 + 1), x5, ()))
    else
    chk (inb x4 (List.length x1)) <|
    (F.spec_l1Min x5.1 ((List.getD x1 ((Int.toNat x4)) ((0, 0, ()))).1)).bind fun r6 =>
    chk (inb x4 (List.length x1)) <|
    (F.spec_l1Max x5.2.1 (((List.getD x1 ((Int.toNat x4)) ((0, 0, ()))).2).1)).bind fun r7 =>
    some (.again (x1, x2, x3, w64 (x4 + 1), (r6, r7, ()), ()))
  else
    some (.exit (x1, x2, x3, x4, x5, ()))
noncomputable def F.spec_l5Put (a0 : List DSpan) (a1 : DSpan) : Option ((List DSpan)) :=
  afterO (loopO F.spec_l5Put.s4 (a0, ([] : List DSpan), false, 0, a1, ())) fun (x8, x9, x10, x11, x12, _) =>
  bif !x10 then
    chk (fits (List.length x9 + List.length ([x12])) 16) <|
    some (x9 ++ ([x12]))
  else
    some x9
noncomputable def C.spec_l5Put : Con := ⟨[.r (.val (.sl false 97 y1)), .r (.val y1)], .one (.sl true 97 y1), fun x => F.spec_l5Put x.1 x.2.1⟩
def L.spec_l5Put : Loops := lookL [(4, ⟨[.pat 0 (.val (.sl false 97 y1)), .own 5 (.sl true 97 y1), .pat 6 (.val .bool), .pat 7 (.val (.int .i64)), .root 3 true y1 [3]], 0⟩)]
noncomputable def K.spec_l5Put : Cons := lookK [(118, [], C.spec_l1Max), (177, [], C.spec_l1Min)]
theorem run.spec_l5Put : ∀ x, runF tb K.spec_l5Put L.spec_l5Put [] Try.f158 C.spec_l5Put x = C.spec_l5Put.fn x := fun x => by kernel_rfl

/-! ### spec.l8Right: function 127 -/
noncomputable def F.spec_l8Right.s4 : (Int × Int × DL1Cur × DAgent × DAgent × Unit) → Option (Lp (Int × Int × DL1Cur × DAgent × DAgent × Unit) (DAgent × DL1Cur)) := fun (x4, x5, x6, x7, x8, _) =>
  bif decide (x5 < x4) then
    (F.spec_l6Right x6).bind fun r9 =>
    (F.spec_Seal x8 r9.1.2.1 r9.1.2.2.1 r9.1.2.2.2.1 r9.1.2.2.2.2.1).bind fun r10 =>
    some (.again (x4, w64 (x5 + 1), r9.2, x7, r10.1, ()))
  else
    some (.exit (x4, x5, x6, x7, x8, ()))
noncomputable def F.spec_l8Right.s14 : (Int × Int × Int × DL1Cur × DAgent × DAgent × Unit) → Option (Lp (Int × Int × Int × DL1Cur × DAgent × DAgent × Unit) (DAgent × DL1Cur)) := fun (x20, x21, x22, x23, x24, x25, _) =>
  bif decide (x22 < x21) then
    bif decide (x20 > 0) then
      (F.spec_l1Below x23 x20).bind fun r26 =>
      (F.spec_l8One (w64 (1 + r26.1))).bind fun r27 =>
      (F.spec_l5Put x25.2.2.2.2.2.1 r27).bind fun r28 =>
      some (.again (x20, x21, w64 (x22 + 1), r26.2, x24, (x25.1, x25.2.1, x25.2.2.1, x25.2.2.2.1, x25.2.2.2.2.1, r28, x25.2.2.2.2.2.2), ()))
    else
      some (.exit (x20, x21, x22, x23, x24, x25, ()))
  else
    some (.exit (x20, x21, x22, x23, x24, x25, ()))
noncomputable def F.spec_l8Right (a0 : DL1Cur) : Option (DAgent × DL1Cur) :=
  (F.spec_l1Below a0 3).bind fun r1 =>
  (F.spec_AgentNew r1.1).bind fun r2 =>
  (F.spec_l1Below r1.2 7).bind fun r3 =>
  afterO (loopO F.spec_l8Right.s4 (r3.1, 0, r3.2, (0, 0, false, 0, ([] : List DItem), ([] : List DSpan), 0, ()), r2.1, ())) fun (x11, x12, x13, x14, x15, _) =>
  (F.spec_l1Below x13 3).bind fun r16 =>
  (F.spec_l1Once r16.2 4).bind fun r17 =>
  bif !r17.1 then
    (F.spec_l1Below r17.2 9).bind fun r18 =>
    (F.spec_l1Below r18.2 3).bind fun r19 =>
    afterO (loopO F.spec_l8Right.s14 (x11, r19.1, 0, r19.2, x14, (x15.1, r16.1, true, r18.1, x15.2.2.2.2), ())) fun (x29, x30, x31, x32, x33, x34, _) =>
    (F.spec_l1Below x32 8).bind fun r35 =>
    some ((x34.1, x34.2.1, x34.2.2.1, x34.2.2.2.1, x34.2.2.2.2.1, x34.2.2.2.2.2.1, r35.1, x34.2.2.2.2.2.2.2), r35.2)
  else
  (F.spec_l1Below r17.2 3).bind fun r36 =>
  afterO (loopO F.spec_l8Right.s14 (x11, r36.1, 0, r36.2, x14, (x15.1, r16.1, x15.2.2), ())) fun (x46, x47, x48, x49, x50, x51, _) =>
  (F.spec_l1Below x49 8).bind fun r52 =>
  some ((x51.1, x51.2.1, x51.2.2.1, x51.2.2.2.1, x51.2.2.2.2.1, x51.2.2.2.2.2.1, r52.1, x51.2.2.2.2.2.2.2), r52.2)
noncomputable def C.spec_l8Right : Con := ⟨[.p y0 y0], .one y7, fun x => F.spec_l8Right x.1⟩
def L.spec_l8Right : Loops := lookL [(4, ⟨[.pat 5 (.val (.int .i64)), .pat 6 (.val (.int .i64)), .root 0 true y0 [0], .root 2 true y7 [2], .root 3 true y7 [3]], 0⟩), (14, ⟨[.pat 5 (.val (.int .i64)), .pat 8 (.val (.int .i64)), .pat 9 (.val (.int .i64)), .root 0 true y0 [0], .root 2 true y7 [2], .root 3 true y7 [3]], 2⟩)]
noncomputable def K.spec_l8Right : Cons := lookK [(48, [], C.spec_Seal), (100, [], C.spec_l1Once), (108, [], C.spec_l1Below), (115, [], C.spec_l8One), (156, [], C.spec_l6Right), (158, [], C.spec_l5Put), (162, [], C.spec_AgentNew)]
theorem run.spec_l8Right : ∀ x, runF tb K.spec_l8Right L.spec_l8Right [0] Try.f127 C.spec_l8Right x = C.spec_l8Right.fn x := fun x => by kernel_rfl

/-! ### spec.l3Right: function 152 -/
noncomputable def F.spec_l3Right (a0 : DL1Cur) : Option (DSketch × DL1Cur) :=
  (F.spec_l3Values a0).bind fun r1 =>
  (F.spec_Sketched r1.1).bind fun r2 =>
  (F.spec_l1Once r1.2 16).bind fun r3 =>
  bif r3.1 then
    bif decide (r2.1 > 0) then
      (F.spec_l1Below r3.2 2).bind fun r4 =>
      chk (inb 3 (List.length r2.2.2.2.2.1)) <|
      some ((w64 (1000000000 - r4.1), 999999997, r2.2.2.1, r2.2.2.2.1, List.set r2.2.2.2.2.1 3 1000000000, r2.2.2.2.2.2), r4.2)
    else
      some (r2, r3.2)
  else
    some (r2, r3.2)
noncomputable def C.spec_l3Right : Con := ⟨[.p y0 y0], .one y5, fun x => F.spec_l3Right x.1⟩
def L.spec_l3Right : Loops := fun _ => none
noncomputable def K.spec_l3Right : Cons := lookK [(100, [], C.spec_l1Once), (108, [], C.spec_l1Below), (171, [], C.spec_Sketched), (172, [], C.spec_l3Values)]
theorem run.spec_l3Right : ∀ x, runF tb K.spec_l3Right L.spec_l3Right [0] Try.f152 C.spec_l3Right x = C.spec_l3Right.fn x := fun x => by kernel_rfl

/-! ### spec.l3Draw: function 104 -/
noncomputable def F.spec_l3Draw (a0 : DL1Cur) : Option (DSketch × DL1Cur) :=
  (F.spec_l3Right a0).bind fun r1 =>
  (F.spec_l1Below r1.2 16).bind fun r2 =>
  bif r2.1 == 0 then
    (F.spec_l1PickInt r2.2 ([-1, 1000001, 500])).bind fun r3 =>
    some ((r1.1.1, r1.1.2.1, r3.1, r1.1.2.2.2), r3.2)
  else
  bif r2.1 == 1 then
    (F.spec_l1Below r2.2 8).bind fun r4 =>
    (F.spec_l1PickInt r4.2 ([-1, 17, 18])).bind fun r5 =>
    chk (inb r4.1 (List.length r1.1.2.2.2.2.2.1)) <|
    some ((r1.1.1, r1.1.2.1, r1.1.2.2.1, r1.1.2.2.2.1, r1.1.2.2.2.2.1, List.set r1.1.2.2.2.2.2.1 ((Int.toNat r4.1)) r5.1, r1.1.2.2.2.2.2.2), r5.2)
  else
  bif r2.1 == 2 then
    chk (fits (List.length r1.1.2.2.2.2.1 + List.length ([0])) 8) <|
    some ((r1.1.1, r1.1.2.1, r1.1.2.2.1, r1.1.2.2.2.1, r1.1.2.2.2.2.1 ++ ([0]), r1.1.2.2.2.2.2), r2.2)
  else
  bif r2.1 == 3 then
    chk (cutOk 0 1 (List.length r1.1.2.2.2.2.2.2.1)) <|
    some ((r1.1.1, r1.1.2.1, r1.1.2.2.1, r1.1.2.2.2.1, r1.1.2.2.2.2.1, r1.1.2.2.2.2.2.1, List.take (1 - 0) (List.drop 0 r1.1.2.2.2.2.2.2.1), r1.1.2.2.2.2.2.2.2), r2.2)
  else
  bif r2.1 == 4 then
    (F.spec_l1PickInt r2.2 ([0, -1, 1000000001])).bind fun r6 =>
    some ((r6.1, r1.1.2), r6.2)
  else
  bif r2.1 == 5 then
    chk (inb 1 (List.length r1.1.2.2.2.2.2.2.1)) <|
    (F.spec_l1PickInt r2.2 ([-1, 3, 1000000001])).bind fun r7 =>
    chk (inb 2 (List.length (List.getD r1.1.2.2.2.2.2.2.1 1 (([] : List Int))))) <|
    some ((r1.1.1, r1.1.2.1, r1.1.2.2.1, r1.1.2.2.2.1, r1.1.2.2.2.2.1, r1.1.2.2.2.2.2.1, List.set r1.1.2.2.2.2.2.2.1 1 (List.set (List.getD r1.1.2.2.2.2.2.2.1 1 (([] : List Int))) 2 r7.1), r1.1.2.2.2.2.2.2.2), r7.2)
  else
    some (r1.1, r2.2)
noncomputable def C.spec_l3Draw : Con := ⟨[.p y0 y0], .one y2, fun x => F.spec_l3Draw x.1⟩
def L.spec_l3Draw : Loops := fun _ => none
noncomputable def K.spec_l3Draw : Cons := lookK [(108, [], C.spec_l1Below), (128, [], C.spec_l1PickInt), (152, [], C.spec_l3Right)]
theorem run.spec_l3Draw : ∀ x, runF tb K.spec_l3Draw L.spec_l3Draw [0] Try.f104 C.spec_l3Draw x = C.spec_l3Draw.fn x := fun x => by kernel_rfl

/-! ### spec.l6Draw: function 112 -/
noncomputable def F.spec_l6Draw (a0 : DL1Cur) : Option (DItem × DL1Cur) :=
  (F.spec_l6Right a0).bind fun r1 =>
  (F.spec_l1Below r1.2 14).bind fun r2 =>
  bif r2.1 == 0 then
    (F.spec_l1PickInt r2.2 ([0, 60, 61, -1])).bind fun r3 =>
    some ((r3.1, r1.1.2), r3.2)
  else
  bif r2.1 == 1 then
    (F.spec_l1PickInt r2.2 ([-1, 2])).bind fun r4 =>
    some ((r1.1.1, r4.1, r1.1.2.2), r4.2)
  else
  bif r2.1 == 2 then
    (F.spec_l1PickInt r2.2 ([-1, 4, 5])).bind fun r5 =>
    some ((r1.1.1, r1.1.2.1, r5.1, r1.1.2.2.2), r5.2)
  else
  bif r2.1 == 3 then
    (F.spec_l1PickInt r2.2 ([-1, 20, 21])).bind fun r6 =>
    some ((r1.1.1, r1.1.2.1, r1.1.2.2.1, r6.1, r1.1.2.2.2.2), r6.2)
  else
  bif r2.1 == 4 then
    (F.spec_l3Draw r2.2).bind fun r7 =>
    some ((r1.1.1, r1.1.2.1, r1.1.2.2.1, r1.1.2.2.2.1, r7.1, r1.1.2.2.2.2.2), r7.2)
  else
    some (r1.1, r2.2)
noncomputable def C.spec_l6Draw : Con := ⟨[.p y0 y0], .one y3, fun x => F.spec_l6Draw x.1⟩
def L.spec_l6Draw : Loops := fun _ => none
noncomputable def K.spec_l6Draw : Cons := lookK [(104, [], C.spec_l3Draw), (108, [], C.spec_l1Below), (128, [], C.spec_l1PickInt), (156, [], C.spec_l6Right)]
theorem run.spec_l6Draw : ∀ x, runF tb K.spec_l6Draw L.spec_l6Draw [0] Try.f112 C.spec_l6Draw x = C.spec_l6Draw.fn x := fun x => by kernel_rfl

/-! ### spec.l5Right: function 163 -/
noncomputable def F.spec_l5Right.s4 : ((List DSpan) × Int × Int × DL1Cur × Unit) → Option (Lp ((List DSpan) × Int × Int × DL1Cur × Unit) ((List DSpan) × DL1Cur)) := fun (x2, x3, x4, x5, _) =>
  bif decide (x4 < x3) then
    (F.spec_l1Below x5 20).bind fun r6 =>
    (F.spec_l1Below r6.2 20).bind fun r7 =>
    (F.spec_l1Below r7.2 10).bind fun r8 =>
    (F.spec_l1PickInt r8.2 ([r6.1, r7.1, w64 (9990 + r8.1)])).bind fun r9 =>
    (F.spec_l1Below r9.2 3).bind fun r10 =>
    (F.spec_l1Min (w64 (r9.1 + r10.1)) 9999).bind fun r11 =>
    (F.spec_l5Put x2 ((r9.1, r11, ()))).bind fun r12 =>
    some (.again (r12, x3, w64 (x4 + 1), r10.2, ()))
  else
    some (.exit (x2, x3, x4, x5, ()))
noncomputable def F.spec_l5Right (a0 : DL1Cur) : Option ((List DSpan) × DL1Cur) :=
  (F.spec_l1Below a0 7).bind fun r1 =>
  afterO (loopO F.spec_l5Right.s4 (([] : List DSpan), r1.1, 0, r1.2, ())) fun (x13, x14, x15, x16, _) =>
  some (x13, x16)
noncomputable def C.spec_l5Right : Con := ⟨[.p y0 y0], .one (.sl true 97 y1), fun x => F.spec_l5Right x.1⟩
def L.spec_l5Right : Loops := lookL [(4, ⟨[.own 3 (.sl true 97 y1), .pat 4 (.val (.int .i64)), .pat 5 (.val (.int .i64)), .root 0 true y0 [0]], 0⟩)]
noncomputable def K.spec_l5Right : Cons := lookK [(108, [], C.spec_l1Below), (128, [], C.spec_l1PickInt), (158, [], C.spec_l5Put), (177, [], C.spec_l1Min)]
theorem run.spec_l5Right : ∀ x, runF tb K.spec_l5Right L.spec_l5Right [0] Try.f163 C.spec_l5Right x = C.spec_l5Right.fn x := fun x => by kernel_rfl

/-! ### spec.l5Draw: function 129 -/
noncomputable def F.spec_l5Draw (a0 : DL1Cur) : Option ((List DSpan) × DL1Cur) :=
  (F.spec_l5Right a0).bind fun r1 =>
  (F.spec_l1Once r1.2 8).bind fun r2 =>
  bif r2.1 then
    (F.spec_l1PickInt r2.2 ([-1, 3, 10000])).bind fun r3 =>
    (F.spec_l1PickInt r3.2 ([5, 10000, 9223372036854775807])).bind fun r4 =>
    chk (fits (List.length r1.1 + List.length ([(r3.1, r4.1, ())])) 16) <|
    some (r1.1 ++ ([(r3.1, r4.1, ())]), r4.2)
  else
    some (r1.1, r2.2)
noncomputable def C.spec_l5Draw : Con := ⟨[.p y0 y0], .one (.sl true 97 y1), fun x => F.spec_l5Draw x.1⟩
def L.spec_l5Draw : Loops := fun _ => none
noncomputable def K.spec_l5Draw : Cons := lookK [(100, [], C.spec_l1Once), (128, [], C.spec_l1PickInt), (163, [], C.spec_l5Right)]
theorem run.spec_l5Draw : ∀ x, runF tb K.spec_l5Draw L.spec_l5Draw [0] Try.f129 C.spec_l5Draw x = C.spec_l5Draw.fn x := fun x => by kernel_rfl

/-! ### spec.l8Draw: function 58 -/
noncomputable def F.spec_l8Draw (a0 : DL1Cur) : Option (DAgent × DL1Cur) :=
  (F.spec_l8Right a0).bind fun r1 =>
  (F.spec_l1Below r1.2 14).bind fun r2 =>
  bif r2.1 == 0 then
    (F.spec_l1PickInt r2.2 ([-1, 3])).bind fun r3 =>
    some ((r3.1, r1.1.2), r3.2)
  else
  bif r2.1 == 1 then
    (F.spec_l1PickInt r2.2 ([-1, 60, 61])).bind fun r4 =>
    some ((r1.1.1, r1.1.2.1, r1.1.2.2.1, r4.1, r1.1.2.2.2.2), r4.2)
  else
  bif r2.1 == 2 then
    (F.spec_l6Draw r2.2).bind fun r5 =>
    chk (fits (List.length r1.1.2.2.2.2.1 + List.length ([r5.1])) 136) <|
    some ((r1.1.1, r1.1.2.1, r1.1.2.2.1, r1.1.2.2.2.1, r1.1.2.2.2.2.1 ++ ([r5.1]), r1.1.2.2.2.2.2), r5.2)
  else
  bif r2.1 == 3 then
    (F.spec_l5Draw r2.2).bind fun r6 =>
    some ((r1.1.1, r1.1.2.1, r1.1.2.2.1, r1.1.2.2.2.1, r1.1.2.2.2.2.1, r6.1, r1.1.2.2.2.2.2.2), r6.2)
  else
  bif r2.1 == 4 then
    (F.spec_l1PickInt r2.2 ([-1, 60, 61])).bind fun r7 =>
    some ((r1.1.1, r1.1.2.1, r1.1.2.2.1, r1.1.2.2.2.1, r1.1.2.2.2.2.1, r1.1.2.2.2.2.2.1, r7.1, r1.1.2.2.2.2.2.2.2), r7.2)
  else
  bif r2.1 == 5 then
    some ((r1.1.1, r1.1.2.1, false, r1.1.2.2.2), r2.2)
  else
    some (r1.1, r2.2)
noncomputable def C.spec_l8Draw : Con := ⟨[.p y0 y0], .one y4, fun x => F.spec_l8Draw x.1⟩
def L.spec_l8Draw : Loops := fun _ => none
noncomputable def K.spec_l8Draw : Cons := lookK [(108, [], C.spec_l1Below), (112, [], C.spec_l6Draw), (127, [], C.spec_l8Right), (128, [], C.spec_l1PickInt), (129, [], C.spec_l5Draw)]
theorem run.spec_l8Draw : ∀ x, runF tb K.spec_l8Draw L.spec_l8Draw [0] Try.f58 C.spec_l8Draw x = C.spec_l8Draw.fn x := fun x => by kernel_rfl

/-! ### spec.DrawAgentSend: function 10 -/
noncomputable def F.spec_DrawAgentSend (a0 : List Int) : Option DAgent :=
  (F.spec_l1New a0).bind fun r1 =>
  (F.spec_l8Draw r1).bind fun r2 =>
  some r2.1
noncomputable def C.spec_DrawAgentSend : Con := ⟨[.r (.val (.sl false 5 (.int .u8)))], .one y4, fun x => F.spec_DrawAgentSend x.1⟩
def L.spec_DrawAgentSend : Loops := fun _ => none
noncomputable def K.spec_DrawAgentSend : Cons := lookK [(58, [], C.spec_l8Draw), (59, [], C.spec_l1New)]
theorem run.spec_DrawAgentSend : ∀ x, runF tb K.spec_DrawAgentSend L.spec_DrawAgentSend [] Try.f10 C.spec_DrawAgentSend x = C.spec_DrawAgentSend.fn x := fun x => by kernel_rfl

/-! ### impl.within: function 71 -/
noncomputable def F.impl_within (a0 : Int) (a1 : Int) (a2 : Int) : Option Bool :=
  bif decide (a0 ≥ a1) then
    some (decide (a0 ≤ a2))
  else
    some false
noncomputable def C.impl_within : Con := ⟨[.r (.val (.int .i64)), .r (.val (.int .i64)), .r (.val (.int .i64))], .one .bool, fun x => F.impl_within x.1 x.2.1 x.2.2.1⟩
def L.impl_within : Loops := fun _ => none
noncomputable def K.impl_within : Cons := lookK []
theorem run.impl_within : ∀ x, runF tb K.impl_within L.impl_within [] Try.f71 C.impl_within x = C.impl_within.fn x := fun x => by kernel_rfl

/-! ### impl.copyInts: function 153 -/
noncomputable def F.impl_copyInts (a0 : List Int) : Option ((List Int)) :=
  chk (fits (List.length a0) 8) <|
  some a0
noncomputable def C.impl_copyInts : Con := ⟨[.r (.val (.sl false 3 (.int .i64)))], .one (.sl true 3 (.int .i64)), fun x => F.impl_copyInts x.1⟩
def L.impl_copyInts : Loops := fun _ => none
noncomputable def K.impl_copyInts : Cons := lookK []
theorem run.impl_copyInts : ∀ x, runF tb K.impl_copyInts L.impl_copyInts [] Try.f153 C.impl_copyInts x = C.impl_copyInts.fn x := fun x => by kernel_rfl

/-! ### impl.counts: function 106 -/
noncomputable def F.impl_counts.s3 : ((List Int) × (List (List Int)) × Int × Int × Unit) → Option (Lp ((List Int) × (List (List Int)) × Int × Int × Unit) ((List Int))) := fun (x2, x3, x4, x5, _) =>
  bif decide (x5 < x4) then
    chk (inb x5 (List.length x3)) <|
    chk (fits (List.length x2 + List.length (List.getD x3 ((Int.toNat x5)) (([] : List Int)))) 8) <|
    some (.again (x2 ++ (List.getD x3 ((Int.toNat x5)) (([] : List Int))), x3, x4, w64 (x5 + 1), ()))
  else
    some (.exit (x2, x3, x4, x5, ()))
noncomputable def F.impl_counts (a0 : DSketch) : Option ((List Int)) :=
  (F.impl_copyInts a0.2.2.2.2.1).bind fun r1 =>
  chk (fits (List.length r1 + List.length a0.2.2.2.2.2.1) 8) <|
  afterO (loopO F.impl_counts.s3 (r1 ++ a0.2.2.2.2.2.1, a0.2.2.2.2.2.2.1, len a0.2.2.2.2.2.2.1, 0, ())) fun (x6, x7, x8, x9, _) =>
  some x6
noncomputable def C.impl_counts : Con := ⟨[.r (.val y2)], .one (.sl true 3 (.int .i64)), fun x => F.impl_counts x.1⟩
def L.impl_counts : Loops := lookL [(3, ⟨[.own 3 (.sl true 3 (.int .i64)), .pat 13 (.val (.sl false 29 (.sl false 3 (.int .i64)))), .pat 14 (.val (.int .i64)), .pat 15 (.val (.int .i64))], 0⟩)]
noncomputable def K.impl_counts : Cons := lookK [(153, [], C.impl_copyInts)]
theorem run.impl_counts : ∀ x, runF tb K.impl_counts L.impl_counts [] Try.f106 C.impl_counts x = C.impl_counts.fn x := fun x => by kernel_rfl

/-! ### impl.SketchOk: function 105 -/
noncomputable def F.impl_SketchOk.s5 : (Int × (List Int) × Int × Int × DSketch × Unit) → Option (Lp (Int × (List Int) × Int × Int × DSketch × Unit) Bool) := fun (x2, x3, x4, x5, x6, _) =>
  bif decide (x5 < x4) then
    chk (inb x5 (List.length x3)) <|
    (F.impl_within (List.getD x3 ((Int.toNat x5)) 0) 0 1000000000).bind fun r7 =>
    bif !r7 then
      some (.ret false)
    else
      some (.again (w64 (x2 + (List.getD x3 ((Int.toNat x5)) 0)), x3, x4, w64 (x5 + 1), x6, ()))
  else
    some (.exit (x2, x3, x4, x5, x6, ()))
noncomputable def F.impl_SketchOk.s12 : (Int × (List Int) × Int × Int × DSketch × Unit) → Option (Lp (Int × (List Int) × Int × Int × DSketch × Unit) Bool) := fun (x13, x14, x15, x16, x17, _) =>
  bif decide (x16 < x15) then
    chk (inb x16 (List.length x14)) <|
    bif decide ((List.getD x14 ((Int.toNat x16)) 0) > 17) then
      some (.ret false)
    else
      some (.again (x13, x14, x15, w64 (x16 + 1), x17, ()))
  else
    some (.exit (x13, x14, x15, x16, x17, ()))
noncomputable def F.impl_SketchOk (a0 : DSketch) : Option Bool :=
  bif (len a0.2.2.2.2.1) != 8 then
    some false
  else
  bif (len a0.2.2.2.2.2.1) != 8 then
    some false
  else
  bif (len a0.2.2.2.2.2.2.1) != 2 then
    some false
  else
  chk (inb 0 (List.length a0.2.2.2.2.2.2.1)) <|
  bif (len (List.getD a0.2.2.2.2.2.2.1 0 (([] : List Int)))) != 4 then
    some false
  else
  chk (inb 1 (List.length a0.2.2.2.2.2.2.1)) <|
  bif (len (List.getD a0.2.2.2.2.2.2.1 1 (([] : List Int)))) != 4 then
    some false
  else
  (F.impl_counts a0).bind fun r1 =>
  chk (fits (List.length r1 + List.length ([a0.1, a0.2.1, a0.2.2.1, a0.2.2.2.1])) 8) <|
  afterO (loopO F.impl_SketchOk.s5 (0, r1 ++ ([a0.1, a0.2.1, a0.2.2.1, a0.2.2.2.1]), len (r1 ++ ([a0.1, a0.2.1, a0.2.2.1, a0.2.2.2.1])), 0, a0, ())) fun (x8, x9, x10, x11, x12, _) =>
  afterO (loopO F.impl_SketchOk.s12 (x8, x12.2.2.2.2.2.1, len x12.2.2.2.2.2.1, 0, x12, ())) fun (x18, x19, x20, x21, x22, _) =>
  bif x22.1 == 0 then
    some (x18 == 0)
  else
  bif decide (x22.2.2.1 ≤ x22.2.2.2.1) then
    some (decide (x22.2.2.2.1 ≤ 1000000))
  else
    some false
noncomputable def C.impl_SketchOk : Con := ⟨[.r (.val y2)], .one .bool, fun x => F.impl_SketchOk x.1⟩
def L.impl_SketchOk : Loops := lookL [(5, ⟨[.pat 3 (.val (.int .i64)), .own 51 (.sl true 3 (.int .i64)), .pat 52 (.val (.int .i64)), .pat 53 (.val (.int .i64)), .root 1 true y2 [1]], 0⟩), (12, ⟨[.pat 3 (.val (.int .i64)), .pat 65 (.val (.sl false 3 (.int .i64))), .pat 66 (.val (.int .i64)), .pat 67 (.val (.int .i64)), .root 1 true y2 [1]], 2⟩)]
noncomputable def K.impl_SketchOk : Cons := lookK [(71, [], C.impl_within), (106, [], C.impl_counts)]
theorem run.impl_SketchOk : ∀ x, runF tb K.impl_SketchOk L.impl_SketchOk [] Try.f105 C.impl_SketchOk x = C.impl_SketchOk.fn x := fun x => by kernel_rfl

/-! ### impl.ItemOk: function 73 -/
noncomputable def F.impl_ItemOk (a0 : DItem) : Option Bool :=
  (F.impl_within a0.1 1 60).bind fun r1 =>
  bif r1 then
    (F.impl_within a0.2.1 0 1).bind fun r2 =>
    bif r2 then
      (F.impl_within a0.2.2.1 0 4).bind fun r3 =>
      bif r3 then
        (F.impl_within a0.2.2.2.1 0 20).bind fun r4 =>
        bif r4 then
          (F.impl_SketchOk a0.2.2.2.2.1).bind fun r5 =>
          some r5
        else
          some false
      else
        some false
    else
      some false
  else
    some false
noncomputable def C.impl_ItemOk : Con := ⟨[.r (.val y3)], .one .bool, fun x => F.impl_ItemOk x.1⟩
def L.impl_ItemOk : Loops := fun _ => none
noncomputable def K.impl_ItemOk : Cons := lookK [(71, [], C.impl_within), (105, [], C.impl_SketchOk)]
theorem run.impl_ItemOk : ∀ x, runF tb K.impl_ItemOk L.impl_ItemOk [] Try.f73 C.impl_ItemOk x = C.impl_ItemOk.fn x := fun x => by kernel_rfl

/-! ### impl.SetOk: function 133 -/
noncomputable def F.impl_SetOk.s2 : ((List DSpan) × (List DSpan) × Int × Int × Unit) → Option (Lp ((List DSpan) × (List DSpan) × Int × Int × Unit) Bool) := fun (x1, x2, x3, x4, _) =>
  bif decide (x4 < x3) then
    chk (inb x4 (List.length x2)) <|
    (F.impl_within ((List.getD x2 ((Int.toNat x4)) ((0, 0, ()))).1) 0 9999).bind fun r5 =>
    bif !r5 then
      some (.ret false)
    else
    (F.impl_within (((List.getD x2 ((Int.toNat x4)) ((0, 0, ()))).2).1) ((List.getD x2 ((Int.toNat x4)) ((0, 0, ()))).1) 9999).bind fun r6 =>
    bif !r6 then
      some (.ret false)
    else
    bif decide (x4 > 0) then
      chk (inb (w64 (x4 - 1)) (List.length x1)) <|
      bif decide (((List.getD x2 ((Int.toNat x4)) ((0, 0, ()))).1) ≤ (w64 ((((List.getD x1 ((Int.toNat (w64 (x4 - 1)))) ((0, 0, ()))).2).1) + 1))) then
        some (.ret false)
      else
        some (.again (x1, x2, x3, w64 (x4 + 1), ()))
    else
      some (.again (x1, x2, x3, w64 (x4 + 1), ()))
  else
    some (.exit (x1, x2, x3, x4, ()))
noncomputable def F.impl_SetOk (a0 : List DSpan) : Option Bool :=
  afterO (loopO F.impl_SetOk.s2 (a0, a0, len a0, 0, ())) fun (x7, x8, x9, x10, _) =>
  some true
noncomputable def C.impl_SetOk : Con := ⟨[.r (.val (.sl false 97 y1))], .one .bool, fun x => F.impl_SetOk x.1⟩
def L.impl_SetOk : Loops := lookL [(2, ⟨[.pat 0 (.val (.sl false 97 y1)), .pat 5 (.val (.sl false 97 y1)), .pat 6 (.val (.int .i64)), .pat 7 (.val (.int .i64))], 0⟩)]
noncomputable def K.impl_SetOk : Cons := lookK [(71, [], C.impl_within)]
theorem run.impl_SetOk : ∀ x, runF tb K.impl_SetOk L.impl_SetOk [] Try.f133 C.impl_SetOk x = C.impl_SetOk.fn x := fun x => by kernel_rfl

/-! ### impl.allIn: function 72 -/
noncomputable def F.impl_allIn (a0 : List DSpan) (a1 : Int) (a2 : Int) : Option Bool :=
  (F.impl_SetOk a0).bind fun r1 =>
  bif r1 then
    bif (len a0) == 0 then
      some true
    else
    chk (inb 0 (List.length a0)) <|
    bif decide (((List.getD a0 0 ((0, 0, ()))).1) ≥ a1) then
      chk (inb (w64 ((len a0) - 1)) (List.length a0)) <|
      some (decide ((((List.getD a0 ((Int.toNat (w64 ((len a0) - 1)))) ((0, 0, ()))).2).1) ≤ a2))
    else
      some false
  else
    some false
noncomputable def C.impl_allIn : Con := ⟨[.r (.val (.sl false 97 y1)), .r (.val (.int .i64)), .r (.val (.int .i64))], .one .bool, fun x => F.impl_allIn x.1 x.2.1 x.2.2.1⟩
def L.impl_allIn : Loops := fun _ => none
noncomputable def K.impl_allIn : Cons := lookK [(133, [], C.impl_SetOk)]
theorem run.impl_allIn : ∀ x, runF tb K.impl_allIn L.impl_allIn [] Try.f72 C.impl_allIn x = C.impl_allIn.fn x := fun x => by kernel_rfl

/-! ### impl.AgentOk: function 21 -/
noncomputable def F.impl_AgentOk.s4 : ((List DItem) × Int × Int × DAgent × Unit) → Option (Lp ((List DItem) × Int × Int × DAgent × Unit) Bool) := fun (x5, x6, x7, x8, _) =>
  bif decide (x7 < x6) then
    chk (inb x7 (List.length x5)) <|
    (F.impl_ItemOk (List.getD x5 ((Int.toNat x7)) ((0, 0, 0, 0, (0, 0, 0, 0, ([] : List Int), ([] : List Int), ([] : List (List Int)), ()), ())))).bind fun r9 =>
    bif !r9 then
      some (.ret false)
    else
    bif ((List.getD x5 ((Int.toNat x7)) ((0, 0, 0, 0, (0, 0, 0, 0, ([] : List Int), ([] : List Int), ([] : List (List Int)), ()), ()))).1) != (w64 (x7 + 1)) then
      some (.ret false)
    else
      some (.again (x5, x6, w64 (x7 + 1), x8, ()))
  else
    some (.exit (x5, x6, x7, x8, ()))
noncomputable def F.impl_AgentOk (a0 : DAgent) : Option Bool :=
  (F.impl_within a0.1 0 2).bind fun r1 =>
  bif !r1 then
    some false
  else
  (F.impl_within a0.2.1 0 1000).bind fun r2 =>
  bif !r2 then
    some false
  else
  (F.impl_within a0.2.2.2.1 0 60).bind fun r3 =>
  bif !r3 then
    some false
  else
  bif decide ((len a0.2.2.2.2.1) > 60) then
    some false
  else
  (F.impl_within a0.2.2.2.2.2.2.1 0 60).bind fun r4 =>
  bif !r4 then
    some false
  else
  afterO (loopO F.impl_AgentOk.s4 (a0.2.2.2.2.1, len a0.2.2.2.2.1, 0, a0, ())) fun (x10, x11, x12, x13, _) =>
  (F.impl_allIn x13.2.2.2.2.2.1 1 (len x13.2.2.2.2.1)).bind fun r14 =>
  bif r14 then
    bif x13.2.2.1 then
      some true
    else
      some (x13.2.2.2.1 == 0)
  else
    some false
noncomputable def C.impl_AgentOk : Con := ⟨[.r (.val y4)], .one .bool, fun x => F.impl_AgentOk x.1⟩
def L.impl_AgentOk : Loops := lookL [(4, ⟨[.pat 34 (.val (.sl false 36 y3)), .pat 35 (.val (.int .i64)), .pat 36 (.val (.int .i64)), .root 1 true y4 [1]], 0⟩)]
noncomputable def K.impl_AgentOk : Cons := lookK [(71, [], C.impl_within), (72, [], C.impl_allIn), (73, [], C.impl_ItemOk)]
theorem run.impl_AgentOk : ∀ x, runF tb K.impl_AgentOk L.impl_AgentOk [] Try.f21 C.impl_AgentOk x = C.impl_AgentOk.fn x := fun x => by kernel_rfl

/-! ### impl.SetHas$1: function 76 -/
noncomputable def F.impl_SetHas_1 (a0 : DSpan) (a1 : Int) : Option Bool :=
  (F.impl_within a1 a0.1 a0.2.1).bind fun r1 =>
  some r1
noncomputable def C.impl_SetHas_1 : Con := ⟨[.r (.val y1), .r (.sptr (.int .i64))], .one .bool, fun x => F.impl_SetHas_1 x.1 x.2.1⟩
def L.impl_SetHas_1 : Loops := fun _ => none
noncomputable def K.impl_SetHas_1 : Cons := lookK [(71, [], C.impl_within)]
theorem run.impl_SetHas_1 : ∀ x, runF tb K.impl_SetHas_1 L.impl_SetHas_1 [] Try.f76 C.impl_SetHas_1 x = C.impl_SetHas_1.fn x := fun x => by kernel_rfl

/-! ### slices.IndexFunc[[]impl.Span,impl.Span]: function 134 -/
noncomputable def F.slices_IndexFunc_Span__impl_SetHas_1.s2 : ((List DSpan) × (Int × Unit) × Int × Int × Unit) → Option (Lp ((List DSpan) × (Int × Unit) × Int × Int × Unit) Int) := fun (x1, x2, x3, x4, _) =>
  bif decide (x4 < x3) then
    chk (inb x4 (List.length x1)) <|
    (F.impl_SetHas_1 (List.getD x1 ((Int.toNat x4)) ((0, 0, ()))) x2.1).bind fun r5 =>
    bif r5 then
      some (.ret x4)
    else
      some (.again (x1, (x2.1, ()), x3, w64 (x4 + 1), ()))
  else
    some (.exit (x1, (x2.1, ()), x3, x4, ()))
noncomputable def F.slices_IndexFunc_Span__impl_SetHas_1 (a0 : List DSpan) (a1 : Int × Unit) : Option Int :=
  afterO (loopO F.slices_IndexFunc_Span__impl_SetHas_1.s2 (a0, (a1.1, ()), len a0, 0, ())) fun (x6, x7, x8, x9, _) =>
  some (-1)
noncomputable def C.slices_IndexFunc_Span__impl_SetHas_1 : Con := ⟨[.r (.val (.sl false 97 y1)), .r (.fn 76 (.cons (.sptr (.int .i64)) .nil))], .one (.int .i64), fun x => F.slices_IndexFunc_Span__impl_SetHas_1 x.1 x.2.1⟩
def L.slices_IndexFunc_Span__impl_SetHas_1 : Loops := lookL [(2, ⟨[.pat 0 (.val (.sl false 97 y1)), .pat 1 (.fn 76 (.cons (.sptr (.int .i64)) .nil)), .pat 7 (.val (.int .i64)), .pat 8 (.val (.int .i64))], 0⟩)]
noncomputable def K.slices_IndexFunc_Span__impl_SetHas_1 : Cons := lookK [(76, [], C.impl_SetHas_1)]
theorem run.slices_IndexFunc_Span__impl_SetHas_1 : ∀ x, runF tb K.slices_IndexFunc_Span__impl_SetHas_1 L.slices_IndexFunc_Span__impl_SetHas_1 [] Try.f134 C.slices_IndexFunc_Span__impl_SetHas_1 x = C.slices_IndexFunc_Span__impl_SetHas_1.fn x := fun x => by kernel_rfl

/-! ### slices.ContainsFunc[[]impl.Span,impl.Span]: function 75 -/
noncomputable def F.slices_ContainsFunc_Span__impl_SetHas_1 (a0 : List DSpan) (a1 : Int × Unit) : Option Bool :=
  (F.slices_IndexFunc_Span__impl_SetHas_1 a0 ((a1.1, ()))).bind fun r1 =>
  some (decide (r1 ≥ 0))
noncomputable def C.slices_ContainsFunc_Span__impl_SetHas_1 : Con := ⟨[.r (.val (.sl false 97 y1)), .r (.fn 76 (.cons (.sptr (.int .i64)) .nil))], .one .bool, fun x => F.slices_ContainsFunc_Span__impl_SetHas_1 x.1 x.2.1⟩
def L.slices_ContainsFunc_Span__impl_SetHas_1 : Loops := fun _ => none
noncomputable def K.slices_ContainsFunc_Span__impl_SetHas_1 : Cons := lookK [(134, [76], C.slices_IndexFunc_Span__impl_SetHas_1)]
theorem run.slices_ContainsFunc_Span__impl_SetHas_1 : ∀ x, runF tb K.slices_ContainsFunc_Span__impl_SetHas_1 L.slices_ContainsFunc_Span__impl_SetHas_1 [] Try.f75 C.slices_ContainsFunc_Span__impl_SetHas_1 x = C.slices_ContainsFunc_Span__impl_SetHas_1.fn x := fun x => by kernel_rfl

/-! ### impl.SetHas: function 20 -/
noncomputable def F.impl_SetHas (a0 : List DSpan) (a1 : Int) : Option Bool :=
  (F.slices_ContainsFunc_Span__impl_SetHas_1 a0 ((a1, ()))).bind fun r1 =>
  some r1
noncomputable def C.impl_SetHas : Con := ⟨[.r (.val (.sl false 97 y1)), .r (.val (.int .i64))], .one .bool, fun x => F.impl_SetHas x.1 x.2.1⟩
def L.impl_SetHas : Loops := fun _ => none
noncomputable def K.impl_SetHas : Cons := lookK [(75, [76], C.slices_ContainsFunc_Span__impl_SetHas_1)]
theorem run.impl_SetHas : ∀ x, runF tb K.impl_SetHas L.impl_SetHas [] Try.f20 C.impl_SetHas x = C.impl_SetHas.fn x := fun x => by kernel_rfl

/-! ### impl.Waiting: function 11 -/
noncomputable def F.impl_Waiting.s5 : ((List Int) × Int × DAgent × Unit) → Option (Lp ((List Int) × Int × DAgent × Unit) ((List Int))) := fun (x2, x3, x4, _) =>
  bif decide (x3 ≤ (mnI (len x4.2.2.2.2.1) x4.2.2.2.1)) then
    (F.impl_SetHas x4.2.2.2.2.2.1 x3).bind fun r5 =>
    bif !r5 then
      chk (fits (List.length x2 + List.length ([x3])) 8) <|
      some (.again (x2 ++ ([x3]), w64 (x3 + 1), x4, ()))
    else
      some (.again (x2, w64 (x3 + 1), x4, ()))
  else
    some (.exit (x2, x3, x4, ()))
noncomputable def F.impl_Waiting (a0 : DAgent) : Option ((List Int)) :=
  (F.impl_AgentOk a0).bind fun r1 =>
  bif !r1 then
    some ([] : List Int)
  else
  bif !a0.2.2.1 then
    some ([] : List Int)
  else
  afterO (loopO F.impl_Waiting.s5 (([] : List Int), 1, a0, ())) fun (x6, x7, x8, _) =>
  some x6
noncomputable def C.impl_Waiting : Con := ⟨[.r (.val y4)], .one (.sl true 3 (.int .i64)), fun x => F.impl_Waiting x.1⟩
def L.impl_Waiting : Loops := lookL [(5, ⟨[.own 3 (.sl true 3 (.int .i64)), .pat 4 (.val (.int .i64)), .root 1 true y4 [1]], 0⟩)]
noncomputable def K.impl_Waiting : Cons := lookK [(20, [], C.impl_SetHas), (21, [], C.impl_AgentOk)]
theorem run.impl_Waiting : ∀ x, runF tb K.impl_Waiting L.impl_Waiting [] Try.f11 C.impl_Waiting x = C.impl_Waiting.fn x := fun x => by kernel_rfl

/-! ### spec.SetHas: function 60 -/
noncomputable def F.spec_SetHas.s2 : ((List DSpan) × Int × Int × Unit) → Option (Lp ((List DSpan) × Int × Int × Unit) Bool) := fun (x1, x2, x3, _) =>
  bif decide (x3 < (len x1)) then
    chk (inb x3 (List.length x1)) <|
    chk (inb x3 (List.length x1)) <|
    (F.spec_l1In x2 ((List.getD x1 ((Int.toNat x3)) ((0, 0, ()))).1) (((List.getD x1 ((Int.toNat x3)) ((0, 0, ()))).2).1)).bind fun r4 =>
    bif r4 then
      some (.ret true)
    else
      some (.again (x1, x2, w64 (x3 + 1), ()))
  else
    some (.exit (x1, x2, x3, ()))
noncomputable def F.spec_SetHas (a0 : List DSpan) (a1 : Int) : Option Bool :=
  afterO (loopO F.spec_SetHas.s2 (a0, a1, 0, ())) fun (x5, x6, x7, _) =>
  some false
noncomputable def C.spec_SetHas : Con := ⟨[.r (.val (.sl false 97 y1)), .r (.val (.int .i64))], .one .bool, fun x => F.spec_SetHas x.1 x.2.1⟩
def L.spec_SetHas : Loops := lookL [(2, ⟨[.pat 0 (.val (.sl false 97 y1)), .pat 1 (.val (.int .i64)), .pat 5 (.val (.int .i64))], 0⟩)]
noncomputable def K.spec_SetHas : Cons := lookK [(68, [], C.spec_l1In)]
theorem run.spec_SetHas : ∀ x, runF tb K.spec_SetHas L.spec_SetHas [] Try.f60 C.spec_SetHas x = C.spec_SetHas.fn x := fun x => by kernel_rfl

/-! ### spec.Waiting: function 13 -/
noncomputable def F.spec_Waiting.s5 : ((List Int) × Int × DAgent × Unit) → Option (Lp ((List Int) × Int × DAgent × Unit) ((List Int))) := fun (x2, x3, x4, _) =>
  bif decide (x3 ≤ (len x4.2.2.2.2.1)) then
    bif decide (x3 ≤ x4.2.2.2.1) then
      (F.spec_SetHas x4.2.2.2.2.2.1 x3).bind fun r5 =>
      bif !r5 then
        chk (fits (List.length x2 + List.length ([x3])) 8) <|
        some (.again (x2 ++ ([x3]), w64 (x3 + 1), x4, ()))
      else
        some (.again (x2, w64 (x3 + 1), x4, ()))
    else
      some (.exit (x2, x3, x4, ()))
  else
    some (.exit (x2, x3, x4, ()))
noncomputable def F.spec_Waiting (a0 : DAgent) : Option ((List Int)) :=
  (F.spec_AgentOk a0).bind fun r1 =>
  bif !r1 then
    some ([] : List Int)
  else
  bif !a0.2.2.1 then
    some ([] : List Int)
  else
  afterO (loopO F.spec_Waiting.s5 (([] : List Int), 1, a0, ())) fun (x6, x7, x8, _) =>
  some x6
noncomputable def C.spec_Waiting : Con := ⟨[.r (.val y4)], .one (.sl true 3 (.int .i64)), fun x => F.spec_Waiting x.1⟩
def L.spec_Waiting : Loops := lookL [(5, ⟨[.own 3 (.sl true 3 (.int .i64)), .pat 4 (.val (.int .i64)), .root 1 true y4 [1]], 0⟩)]
noncomputable def K.spec_Waiting : Cons := lookK [(17, [], C.spec_AgentOk), (60, [], C.spec_SetHas)]
theorem run.spec_Waiting : ∀ x, runF tb K.spec_Waiting L.spec_Waiting [] Try.f13 C.spec_Waiting x = C.spec_Waiting.fn x := fun x => by kernel_rfl

/-! ### laws.sameInts: function 12 -/
noncomputable def F.laws_sameInts.s4 : ((List Int) × (List Int) × Int × Unit) → Option (Lp ((List Int) × (List Int) × Int × Unit) Bool) := fun (x1, x2, x3, _) =>
  bif decide (x3 < (len x1)) then
    chk (inb x3 (List.length x1)) <|
    chk (inb x3 (List.length x2)) <|
    bif (List.getD x1 ((Int.toNat x3)) 0) != (List.getD x2 ((Int.toNat x3)) 0) then
      some (.ret false)
    else
      some (.again (x1, x2, w64 (x3 + 1), ()))
  else
    some (.exit (x1, x2, x3, ()))
noncomputable def F.laws_sameInts (a0 : List Int) (a1 : List Int) : Option Bool :=
  bif (len a0) != (len a1) then
    some false
  else
  afterO (loopO F.laws_sameInts.s4 (a0, a1, 0, ())) fun (x4, x5, x6, _) =>
  some true
noncomputable def C.laws_sameInts : Con := ⟨[.r (.val (.sl false 3 (.int .i64))), .r (.val (.sl false 3 (.int .i64)))], .one .bool, fun x => F.laws_sameInts x.1 x.2.1⟩
def L.laws_sameInts : Loops := lookL [(4, ⟨[.pat 0 (.val (.sl false 3 (.int .i64))), .pat 1 (.val (.sl false 3 (.int .i64))), .pat 5 (.val (.int .i64))], 0⟩)]
noncomputable def K.laws_sameInts : Cons := lookK []
theorem run.laws_sameInts : ∀ x, runF tb K.laws_sameInts L.laws_sameInts [] Try.f12 C.laws_sameInts x = C.laws_sameInts.fn x := fun x => by kernel_rfl

/-! ### impl.copySet: function 130 -/
noncomputable def F.impl_copySet (a0 : List DSpan) : Option ((List DSpan)) :=
  chk (fits (List.length a0) 16) <|
  some a0
noncomputable def C.impl_copySet : Con := ⟨[.r (.val (.sl false 97 y1))], .one (.sl true 97 y1), fun x => F.impl_copySet x.1⟩
def L.impl_copySet : Loops := fun _ => none
noncomputable def K.impl_copySet : Cons := lookK []
theorem run.impl_copySet : ∀ x, runF tb K.impl_copySet L.impl_copySet [] Try.f130 C.impl_copySet x = C.impl_copySet.fn x := fun x => by kernel_rfl

/-! ### impl.copySketch: function 113 -/
noncomputable def F.impl_copySketch.s6 : ((List (List Int)) × Int × Int × DSketch × DSketch × Unit) → Option (Lp ((List (List Int)) × Int × Int × DSketch × DSketch × Unit) DSketch) := fun (x3, x4, x5, x6, x7, _) =>
  bif decide (x5 < x4) then
    chk (inb x5 (List.length x3)) <|
    (F.impl_copyInts (List.getD x3 ((Int.toNat x5)) (([] : List Int)))).bind fun r8 =>
    chk (fits (List.length x7.2.2.2.2.2.2.1 + List.length ([r8])) 24) <|
    some (.again (x3, x4, w64 (x5 + 1), x6, (x7.1, x7.2.1, x7.2.2.1, x7.2.2.2.1, x7.2.2.2.2.1, x7.2.2.2.2.2.1, x7.2.2.2.2.2.2.1 ++ ([r8]), x7.2.2.2.2.2.2.2), ()))
  else
    some (.exit (x3, x4, x5, x6, x7, ()))
noncomputable def F.impl_copySketch (a0 : DSketch) : Option DSketch :=
  (F.impl_copyInts a0.2.2.2.2.1).bind fun r1 =>
  (F.impl_copyInts a0.2.2.2.2.2.1).bind fun r2 =>
  afterO (loopO F.impl_copySketch.s6 (a0.2.2.2.2.2.2.1, len a0.2.2.2.2.2.2.1, 0, (0, 0, 0, 0, ([] : List Int), ([] : List Int), ([] : List (List Int)), ()), (a0.1, a0.2.1, a0.2.2.1, a0.2.2.2.1, r1, r2, ([] : List (List Int)), a0.2.2.2.2.2.2.2), ())) fun (x9, x10, x11, x12, x13, _) =>
  some x13
noncomputable def C.impl_copySketch : Con := ⟨[.r (.val y2)], .one y5, fun x => F.impl_copySketch x.1⟩
def L.impl_copySketch : Loops := lookL [(6, ⟨[.pat 17 (.val (.sl false 29 (.sl false 3 (.int .i64)))), .pat 18 (.val (.int .i64)), .pat 19 (.val (.int .i64)), .root 2 true y5 [2], .root 3 true y5 [3]], 0⟩)]
noncomputable def K.impl_copySketch : Cons := lookK [(153, [], C.impl_copyInts)]
theorem run.impl_copySketch : ∀ x, runF tb K.impl_copySketch L.impl_copySketch [] Try.f113 C.impl_copySketch x = C.impl_copySketch.fn x := fun x => by kernel_rfl

/-! ### impl.copyItem: function 62 -/
noncomputable def F.impl_copyItem (a0 : DItem) : Option DItem :=
  (F.impl_copySketch a0.2.2.2.2.1).bind fun r1 =>
  some (a0.1, a0.2.1, a0.2.2.1, a0.2.2.2.1, r1, a0.2.2.2.2.2)
noncomputable def C.impl_copyItem : Con := ⟨[.r (.val y3)], .one y6, fun x => F.impl_copyItem x.1⟩
def L.impl_copyItem : Loops := fun _ => none
noncomputable def K.impl_copyItem : Cons := lookK [(113, [], C.impl_copySketch)]
theorem run.impl_copyItem : ∀ x, runF tb K.impl_copyItem L.impl_copyItem [] Try.f62 C.impl_copyItem x = C.impl_copyItem.fn x := fun x => by kernel_rfl

/-! ### impl.copyAgent: function 61 -/
noncomputable def F.impl_copyAgent.s5 : ((List DItem) × Int × Int × DAgent × DAgent × Unit) → Option (Lp ((List DItem) × Int × Int × DAgent × DAgent × Unit) DAgent) := fun (x2, x3, x4, x5, x6, _) =>
  bif decide (x4 < x3) then
    chk (inb x4 (List.length x2)) <|
    (F.impl_copyItem (List.getD x2 ((Int.toNat x4)) ((0, 0, 0, 0, (0, 0, 0, 0, ([] : List Int), ([] : List Int), ([] : List (List Int)), ()), ())))).bind fun r7 =>
    chk (fits (List.length x6.2.2.2.2.1 + List.length ([r7])) 136) <|
    some (.again (x2, x3, w64 (x4 + 1), x5, (x6.1, x6.2.1, x6.2.2.1, x6.2.2.2.1, x6.2.2.2.2.1 ++ ([r7]), x6.2.2.2.2.2), ()))
  else
    some (.exit (x2, x3, x4, x5, x6, ()))
noncomputable def F.impl_copyAgent (a0 : DAgent) : Option DAgent :=
  (F.impl_copySet a0.2.2.2.2.2.1).bind fun r1 =>
  afterO (loopO F.impl_copyAgent.s5 (a0.2.2.2.2.1, len a0.2.2.2.2.1, 0, (0, 0, false, 0, ([] : List DItem), ([] : List DSpan), 0, ()), (a0.1, a0.2.1, a0.2.2.1, a0.2.2.2.1, ([] : List DItem), r1, a0.2.2.2.2.2.2), ())) fun (x8, x9, x10, x11, x12, _) =>
  some x12
noncomputable def C.impl_copyAgent : Con := ⟨[.r (.val y4)], .one y7, fun x => F.impl_copyAgent x.1⟩
def L.impl_copyAgent : Loops := lookL [(5, ⟨[.pat 13 (.val (.sl false 36 y3)), .pat 14 (.val (.int .i64)), .pat 15 (.val (.int .i64)), .root 2 true y7 [2], .root 3 true y7 [3]], 0⟩)]
noncomputable def K.impl_copyAgent : Cons := lookK [(62, [], C.impl_copyItem), (130, [], C.impl_copySet)]
theorem run.impl_copyAgent : ∀ x, runF tb K.impl_copyAgent L.impl_copyAgent [] Try.f61 C.impl_copyAgent x = C.impl_copyAgent.fn x := fun x => by kernel_rfl

/-! ### impl.AgentSend: function 14 -/
noncomputable def F.impl_AgentSend.s9 : (Int × (List Int) × Int × Int × DAgent × DAgent × DFrame × DAgent × Unit) → Option (Lp (Int × (List Int) × Int × Int × DAgent × DAgent × DFrame × DAgent × Unit) (DAgent × DFrame)) := fun (x4, x5, x6, x7, x8, x9, x10, x11, _) =>
  bif decide (x7 < x6) then
    chk (inb x7 (List.length x5)) <|
    bif decide ((List.getD x5 ((Int.toNat x7)) 0) > x8.2.2.2.2.2.2.1) then
      some (.exit (List.getD x5 ((Int.toNat x7)) 0, x5, x6, x7, x8, x9, x10, x11, ()))
    else
      some (.again (x4, x5, x6, w64 (x7 + 1), x8, x9, x10, x11, ()))
  else
    some (.exit (x4, x5, x6, x7, x8, x9, x10, x11, ()))
noncomputable def F.impl_AgentSend (a0 : DAgent) : Option (DAgent × DFrame) :=
  (F.impl_copyAgent a0).bind fun r1 =>
  (F.impl_AgentOk a0).bind fun r2 =>
  bif !r2 then
    some (r1, (0, 0, 0, 0, ([] : List DSpan), (0, 0, 0, 0, (0, 0, 0, 0, ([] : List Int), ([] : List Int), ([] : List (List Int)), ()), ()), ()))
  else
  (F.impl_Waiting a0).bind fun r3 =>
  bif (len r3) == 0 then
    some (r1, (0, a0.1, a0.2.1, 0, ([] : List DSpan), (0, 0, 0, 0, (0, 0, 0, 0, ([] : List Int), ([] : List Int), ([] : List (List Int)), ()), ()), ()))
  else
  chk (inb 0 (List.length r3)) <|
  afterO (loopO F.impl_AgentSend.s9 (List.getD r3 0 0, r3, len r3, 0, a0, (0, 0, false, 0, ([] : List DItem), ([] : List DSpan), 0, ()), (0, 0, 0, 0, ([] : List DSpan), (0, 0, 0, 0, (0, 0, 0, 0, ([] : List Int), ([] : List Int), ([] : List (List Int)), ()), ()), ()), r1, ())) fun (x12, x13, x14, x15, x16, x17, x18, x19, _) =>
  chk (inb (w64 (x12 - 1)) (List.length x16.2.2.2.2.1)) <|
  (F.impl_copyItem (List.getD x16.2.2.2.2.1 ((Int.toNat (w64 (x12 - 1)))) ((0, 0, 0, 0, (0, 0, 0, 0, ([] : List Int), ([] : List Int), ([] : List (List Int)), ()), ())))).bind fun r20 =>
  some ((x19.1, x19.2.1, x19.2.2.1, x19.2.2.2.1, x19.2.2.2.2.1, x19.2.2.2.2.2.1, x12, x19.2.2.2.2.2.2.2), (1, x16.1, x16.2.1, 0, ([] : List DSpan), r20, ()))
noncomputable def C.impl_AgentSend : Con := ⟨[.r (.val y4)], .many [y7, y8], fun x => F.impl_AgentSend x.1⟩
def L.impl_AgentSend : Loops := lookL [(9, ⟨[.pat 6 (.val (.int .i64)), .own 30 (.sl true 3 (.int .i64)), .pat 31 (.val (.int .i64)), .pat 32 (.val (.int .i64)), .root 1 true y4 [1], .root 2 true y7 [2], .root 3 true y8 [3], .root 4 true y7 [4]], 0⟩)]
noncomputable def K.impl_AgentSend : Cons := lookK [(11, [], C.impl_Waiting), (21, [], C.impl_AgentOk), (61, [], C.impl_copyAgent), (62, [], C.impl_copyItem)]
theorem run.impl_AgentSend : ∀ x, runF tb K.impl_AgentSend L.impl_AgentSend [] Try.f14 C.impl_AgentSend x = C.impl_AgentSend.fn x := fun x => by kernel_rfl

/-! ### spec.AgentSend: function 15 -/
noncomputable def F.spec_AgentSend.s9 : ((List Int) × Int × Int × DAgent × DAgent × DFrame × DAgent × Unit) → Option (Lp ((List Int) × Int × Int × DAgent × DAgent × DFrame × DAgent × Unit) (DAgent × DFrame)) := fun (x4, x5, x6, x7, x8, x9, x10, _) =>
  bif decide (x6 ≥ 0) then
    chk (inb x6 (List.length x4)) <|
    bif decide ((List.getD x4 ((Int.toNat x6)) 0) > x7.2.2.2.2.2.2.1) then
      chk (inb x6 (List.length x4)) <|
      some (.again (x4, List.getD x4 ((Int.toNat x6)) 0, w64 (x6 - 1), x7, x8, x9, x10, ()))
    else
      some (.again (x4, x5, w64 (x6 - 1), x7, x8, x9, x10, ()))
  else
    some (.exit (x4, x5, x6, x7, x8, x9, x10, ()))
noncomputable def F.spec_AgentSend (a0 : DAgent) : Option (DAgent × DFrame) :=
  (F.spec_l8Copy a0).bind fun r1 =>
  (F.spec_AgentOk a0).bind fun r2 =>
  bif !r2 then
    some (r1, (0, 0, 0, 0, ([] : List DSpan), (0, 0, 0, 0, (0, 0, 0, 0, ([] : List Int), ([] : List Int), ([] : List (List Int)), ()), ()), ()))
  else
  (F.spec_Waiting a0).bind fun r3 =>
  bif (len r3) == 0 then
    some (r1, (0, a0.1, a0.2.1, 0, ([] : List DSpan), (0, 0, 0, 0, (0, 0, 0, 0, ([] : List Int), ([] : List Int), ([] : List (List Int)), ()), ()), ()))
  else
  chk (inb 0 (List.length r3)) <|
  afterO (loopO F.spec_AgentSend.s9 (r3, List.getD r3 0 0, w64 ((len r3) - 1), a0, (0, 0, false, 0, ([] : List DItem), ([] : List DSpan), 0, ()), (0, 0, 0, 0, ([] : List DSpan), (0, 0, 0, 0, (0, 0, 0, 0, ([] : List Int), ([] : List Int), ([] : List (List Int)), ()), ()), ()), r1, ())) fun (x11, x12, x13, x14, x15, x16, x17, _) =>
  chk (inb (w64 (x12 - 1)) (List.length x14.2.2.2.2.1)) <|
  (F.spec_l6Item (List.getD x14.2.2.2.2.1 ((Int.toNat (w64 (x12 - 1)))) ((0, 0, 0, 0, (0, 0, 0, 0, ([] : List Int), ([] : List Int), ([] : List (List Int)), ()), ())))).bind fun r18 =>
  some ((x17.1, x17.2.1, x17.2.2.1, x17.2.2.2.1, x17.2.2.2.2.1, x17.2.2.2.2.2.1, x12, x17.2.2.2.2.2.2.2), (1, x14.1, x14.2.1, 0, ([] : List DSpan), r18, ()))
noncomputable def C.spec_AgentSend : Con := ⟨[.r (.val y4)], .many [y7, y8], fun x => F.spec_AgentSend x.1⟩
def L.spec_AgentSend : Loops := lookL [(9, ⟨[.own 5 (.sl true 3 (.int .i64)), .pat 6 (.val (.int .i64)), .pat 7 (.val (.int .i64)), .root 1 true y4 [1], .root 2 true y7 [2], .root 3 true y8 [3], .root 4 true y7 [4]], 0⟩)]
noncomputable def K.spec_AgentSend : Cons := lookK [(13, [], C.spec_Waiting), (17, [], C.spec_AgentOk), (63, [], C.spec_l8Copy), (64, [], C.spec_l6Item)]
theorem run.spec_AgentSend : ∀ x, runF tb K.spec_AgentSend L.spec_AgentSend [] Try.f15 C.spec_AgentSend x = C.spec_AgentSend.fn x := fun x => by kernel_rfl

/-! ### spec.l5Same: function 65 -/
noncomputable def F.spec_l5Same.s4 : ((List DSpan) × (List DSpan) × Int × Unit) → Option (Lp ((List DSpan) × (List DSpan) × Int × Unit) Bool) := fun (x1, x2, x3, _) =>
  bif decide (x3 < (len x1)) then
    chk (inb x3 (List.length x1)) <|
    chk (inb x3 (List.length x2)) <|
    bif !(Ty.eqX (.cons (.int .i64) (.cons (.int .i64) .nil)) (List.getD x1 ((Int.toNat x3)) ((0, 0, ()))) (List.getD x2 ((Int.toNat x3)) ((0, 0, ())))) then
      some (.ret false)
    else
      some (.again (x1, x2, w64 (x3 + 1), ()))
  else
    some (.exit (x1, x2, x3, ()))
noncomputable def F.spec_l5Same (a0 : List DSpan) (a1 : List DSpan) : Option Bool :=
  bif (len a0) != (len a1) then
    some false
  else
  afterO (loopO F.spec_l5Same.s4 (a0, a1, 0, ())) fun (x4, x5, x6, _) =>
  some true
noncomputable def C.spec_l5Same : Con := ⟨[.r (.val (.sl false 97 y1)), .r (.val (.sl false 97 y1))], .one .bool, fun x => F.spec_l5Same x.1 x.2.1⟩
def L.spec_l5Same : Loops := lookL [(4, ⟨[.pat 0 (.val (.sl false 97 y1)), .pat 1 (.val (.sl false 97 y1)), .pat 5 (.val (.int .i64))], 0⟩)]
noncomputable def K.spec_l5Same : Cons := lookK []
theorem run.spec_l5Same : ∀ x, runF tb K.spec_l5Same L.spec_l5Same [] Try.f65 C.spec_l5Same x = C.spec_l5Same.fn x := fun x => by kernel_rfl

/-! ### spec.l1Same: function 111 -/
noncomputable def F.spec_l1Same.s4 : ((List Int) × (List Int) × Int × Unit) → Option (Lp ((List Int) × (List Int) × Int × Unit) Bool) := fun (x1, x2, x3, _) =>
  bif decide (x3 < (len x1)) then
    chk (inb x3 (List.length x1)) <|
    chk (inb x3 (List.length x2)) <|
    bif (List.getD x1 ((Int.toNat x3)) 0) != (List.getD x2 ((Int.toNat x3)) 0) then
      some (.ret false)
    else
      some (.again (x1, x2, w64 (x3 + 1), ()))
  else
    some (.exit (x1, x2, x3, ()))
noncomputable def F.spec_l1Same (a0 : List Int) (a1 : List Int) : Option Bool :=
  bif (len a0) != (len a1) then
    some false
  else
  afterO (loopO F.spec_l1Same.s4 (a0, a1, 0, ())) fun (x4, x5, x6, _) =>
  some true
noncomputable def C.spec_l1Same : Con := ⟨[.r (.val (.sl false 3 (.int .i64))), .r (.val (.sl false 3 (.int .i64)))], .one .bool, fun x => F.spec_l1Same x.1 x.2.1⟩
def L.spec_l1Same : Loops := lookL [(4, ⟨[.pat 0 (.val (.sl false 3 (.int .i64))), .pat 1 (.val (.sl false 3 (.int .i64))), .pat 5 (.val (.int .i64))], 0⟩)]
noncomputable def K.spec_l1Same : Cons := lookK []
theorem run.spec_l1Same : ∀ x, runF tb K.spec_l1Same L.spec_l1Same [] Try.f111 C.spec_l1Same x = C.spec_l1Same.fn x := fun x => by kernel_rfl

/-! ### spec.SketchSame: function 45 -/
noncomputable def F.spec_SketchSame.s4 : (Int × DSketch × DSketch × Unit) → Option (Lp (Int × DSketch × DSketch × Unit) Bool) := fun (x3, x4, x5, _) =>
  bif decide (x3 < (len x4.2.2.2.2.2.2.1)) then
    chk (inb x3 (List.length x4.2.2.2.2.2.2.1)) <|
    chk (inb x3 (List.length x5.2.2.2.2.2.2.1)) <|
    (F.spec_l1Same (List.getD x4.2.2.2.2.2.2.1 ((Int.toNat x3)) (([] : List Int))) (List.getD x5.2.2.2.2.2.2.1 ((Int.toNat x3)) (([] : List Int)))).bind fun r6 =>
    bif !r6 then
      some (.ret false)
    else
      some (.again (w64 (x3 + 1), x4, x5, ()))
  else
    some (.exit (x3, x4, x5, ()))
noncomputable def F.spec_SketchSame (a0 : DSketch) (a1 : DSketch) : Option Bool :=
  bif a0.1 != a1.1 then
    some false
  else
  bif a0.2.1 != a1.2.1 then
    some false
  else
  bif a0.2.2.1 != a1.2.2.1 then
    some false
  else
  bif a0.2.2.2.1 != a1.2.2.2.1 then
    some false
  else
  (F.spec_l1Same a0.2.2.2.2.1 a1.2.2.2.2.1).bind fun r1 =>
  bif !r1 then
    some false
  else
  (F.spec_l1Same a0.2.2.2.2.2.1 a1.2.2.2.2.2.1).bind fun r2 =>
  bif !r2 then
    some false
  else
  bif (len a0.2.2.2.2.2.2.1) != (len a1.2.2.2.2.2.2.1) then
    some false
  else
  afterO (loopO F.spec_SketchSame.s4 (0, a0, a1, ())) fun (x7, x8, x9, _) =>
  some true
noncomputable def C.spec_SketchSame : Con := ⟨[.r (.val y2), .r (.val y2)], .one .bool, fun x => F.spec_SketchSame x.1 x.2.1⟩
def L.spec_SketchSame : Loops := lookL [(4, ⟨[.pat 5 (.val (.int .i64)), .root 2 true y2 [2], .root 3 true y2 [3]], 0⟩)]
noncomputable def K.spec_SketchSame : Cons := lookK [(111, [], C.spec_l1Same)]
theorem run.spec_SketchSame : ∀ x, runF tb K.spec_SketchSame L.spec_SketchSame [] Try.f45 C.spec_SketchSame x = C.spec_SketchSame.fn x := fun x => by kernel_rfl

/-! ### spec.l7Item: function 66 -/
noncomputable def F.spec_l7Item (a0 : DItem) (a1 : DItem) : Option Bool :=
  bif a0.1 == a1.1 then
    bif a0.2.1 == a1.2.1 then
      bif a0.2.2.1 == a1.2.2.1 then
        bif a0.2.2.2.1 == a1.2.2.2.1 then
          (F.spec_SketchSame a0.2.2.2.2.1 a1.2.2.2.2.1).bind fun r1 =>
          some r1
        else
          some false
      else
        some false
    else
      some false
  else
    some false
noncomputable def C.spec_l7Item : Con := ⟨[.r (.val y3), .r (.val y3)], .one .bool, fun x => F.spec_l7Item x.1 x.2.1⟩
def L.spec_l7Item : Loops := fun _ => none
noncomputable def K.spec_l7Item : Cons := lookK [(45, [], C.spec_SketchSame)]
theorem run.spec_l7Item : ∀ x, runF tb K.spec_l7Item L.spec_l7Item [] Try.f66 C.spec_l7Item x = C.spec_l7Item.fn x := fun x => by kernel_rfl

/-! ### spec.FrameSame: function 16 -/
noncomputable def F.spec_FrameSame (a0 : DFrame) (a1 : DFrame) : Option Bool :=
  bif a0.1 == a1.1 then
    bif a0.2.1 == a1.2.1 then
      bif a0.2.2.1 == a1.2.2.1 then
        bif a0.2.2.2.1 == a1.2.2.2.1 then
          (F.spec_l5Same a0.2.2.2.2.1 a1.2.2.2.2.1).bind fun r1 =>
          bif r1 then
            (F.spec_l7Item a0.2.2.2.2.2.1 a1.2.2.2.2.2.1).bind fun r2 =>
            some r2
          else
            some false
        else
          some false
      else
        some false
    else
      some false
  else
    some false
noncomputable def C.spec_FrameSame : Con := ⟨[.r (.val y9), .r (.val y9)], .one .bool, fun x => F.spec_FrameSame x.1 x.2.1⟩
def L.spec_FrameSame : Loops := fun _ => none
noncomputable def K.spec_FrameSame : Cons := lookK [(65, [], C.spec_l5Same), (66, [], C.spec_l7Item)]
theorem run.spec_FrameSame : ∀ x, runF tb K.spec_FrameSame L.spec_FrameSame [] Try.f16 C.spec_FrameSame x = C.spec_FrameSame.fn x := fun x => by kernel_rfl

/-! ### slices.Equal[[]int,int]: function 119 -/
noncomputable def F.slices_Equal_int.s4 : ((List Int) × (List Int) × Int × Int × Unit) → Option (Lp ((List Int) × (List Int) × Int × Int × Unit) Bool) := fun (x1, x2, x3, x4, _) =>
  bif decide (x4 < x3) then
    chk (inb x4 (List.length x1)) <|
    chk (inb x4 (List.length x2)) <|
    bif (List.getD x1 ((Int.toNat x4)) 0) != (List.getD x2 ((Int.toNat x4)) 0) then
      some (.ret false)
    else
      some (.again (x1, x2, x3, w64 (x4 + 1), ()))
  else
    some (.exit (x1, x2, x3, x4, ()))
noncomputable def F.slices_Equal_int (a0 : List Int) (a1 : List Int) : Option Bool :=
  bif (len a0) != (len a1) then
    some false
  else
  afterO (loopO F.slices_Equal_int.s4 (a0, a1, len a0, 0, ())) fun (x5, x6, x7, x8, _) =>
  some true
noncomputable def C.slices_Equal_int : Con := ⟨[.r (.val (.sl false 3 (.int .i64))), .r (.val (.sl false 3 (.int .i64)))], .one .bool, fun x => F.slices_Equal_int x.1 x.2.1⟩
def L.slices_Equal_int : Loops := lookL [(4, ⟨[.pat 0 (.val (.sl false 3 (.int .i64))), .pat 1 (.val (.sl false 3 (.int .i64))), .pat 12 (.val (.int .i64)), .pat 13 (.val (.int .i64))], 0⟩)]
noncomputable def K.slices_Equal_int : Cons := lookK []
theorem run.slices_Equal_int : ∀ x, runF tb K.slices_Equal_int L.slices_Equal_int [] Try.f119 C.slices_Equal_int x = C.slices_Equal_int.fn x := fun x => by kernel_rfl

/-! ### slices.EqualFunc[[][]int,[][]int,[]int,[]int]: function 120 -/
noncomputable def F.slices_EqualFunc_SSint__slices_Equal_int.s4 : ((List (List Int)) × Unit × (List (List Int)) × Int × Int × Unit) → Option (Lp ((List (List Int)) × Unit × (List (List Int)) × Int × Int × Unit) Bool) := fun (x1, x2, x3, x4, x5, _) =>
  bif decide (x5 < x4) then
    chk (inb x5 (List.length x3)) <|
    chk (inb x5 (List.length x1)) <|
    (F.slices_Equal_int (List.getD x3 ((Int.toNat x5)) (([] : List Int))) (List.getD x1 ((Int.toNat x5)) (([] : List Int)))).bind fun r6 =>
    bif !r6 then
      some (.ret false)
    else
      some (.again (x1, (), x3, x4, w64 (x5 + 1), ()))
  else
    some (.exit (x1, (), x3, x4, x5, ()))
noncomputable def F.slices_EqualFunc_SSint__slices_Equal_int (a0 : List (List Int)) (a1 : List (List Int)) (a2 : Unit) : Option Bool :=
  bif (len a0) != (len a1) then
    some false
  else
  afterO (loopO F.slices_EqualFunc_SSint__slices_Equal_int.s4 (a1, (), a0, len a0, 0, ())) fun (x7, x8, x9, x10, x11, _) =>
  some true
noncomputable def C.slices_EqualFunc_SSint__slices_Equal_int : Con := ⟨[.r (.val (.sl false 29 (.sl false 3 (.int .i64)))), .r (.val (.sl false 29 (.sl false 3 (.int .i64)))), .r (.fn 119 .nil)], .one .bool, fun x => F.slices_EqualFunc_SSint__slices_Equal_int x.1 x.2.1 x.2.2.1⟩
def L.slices_EqualFunc_SSint__slices_Equal_int : Loops := lookL [(4, ⟨[.pat 1 (.val (.sl false 29 (.sl false 3 (.int .i64)))), .pat 2 (.fn 119 .nil), .pat 15 (.val (.sl false 29 (.sl false 3 (.int .i64)))), .pat 16 (.val (.int .i64)), .pat 17 (.val (.int .i64))], 0⟩)]
noncomputable def K.slices_EqualFunc_SSint__slices_Equal_int : Cons := lookK [(119, [], C.slices_Equal_int)]
theorem run.slices_EqualFunc_SSint__slices_Equal_int : ∀ x, runF tb K.slices_EqualFunc_SSint__slices_Equal_int L.slices_EqualFunc_SSint__slices_Equal_int [] Try.f120 C.slices_EqualFunc_SSint__slices_Equal_int x = C.slices_EqualFunc_SSint__slices_Equal_int.fn x := fun x => by kernel_rfl

/-! ### impl.SketchSame: function 52 -/
noncomputable def F.impl_SketchSame (a0 : DSketch) (a1 : DSketch) : Option Bool :=
  bif a0.1 == a1.1 then
    bif a0.2.1 == a1.2.1 then
      bif a0.2.2.1 == a1.2.2.1 then
        bif a0.2.2.2.1 == a1.2.2.2.1 then
          (F.slices_Equal_int a0.2.2.2.2.1 a1.2.2.2.2.1).bind fun r1 =>
          bif r1 then
            (F.slices_Equal_int a0.2.2.2.2.2.1 a1.2.2.2.2.2.1).bind fun r2 =>
            bif r2 then
              (F.slices_EqualFunc_SSint__slices_Equal_int a0.2.2.2.2.2.2.1 a1.2.2.2.2.2.2.1 (())).bind fun r3 =>
              some r3
            else
              some false
          else
            some false
        else
          some false
      else
        some false
    else
      some false
  else
    some false
noncomputable def C.impl_SketchSame : Con := ⟨[.r (.val y2), .r (.val y2)], .one .bool, fun x => F.impl_SketchSame x.1 x.2.1⟩
def L.impl_SketchSame : Loops := fun _ => none
noncomputable def K.impl_SketchSame : Cons := lookK [(119, [], C.slices_Equal_int), (120, [119], C.slices_EqualFunc_SSint__slices_Equal_int)]
theorem run.impl_SketchSame : ∀ x, runF tb K.impl_SketchSame L.impl_SketchSame [] Try.f52 C.impl_SketchSame x = C.impl_SketchSame.fn x := fun x => by kernel_rfl

/-! ### impl.itemSame: function 74 -/
noncomputable def F.impl_itemSame (a0 : DItem) (a1 : DItem) : Option Bool :=
  bif a0.1 == a1.1 then
    bif a0.2.1 == a1.2.1 then
      bif a0.2.2.1 == a1.2.2.1 then
        bif a0.2.2.2.1 == a1.2.2.2.1 then
          (F.impl_SketchSame a0.2.2.2.2.1 a1.2.2.2.2.1).bind fun r1 =>
          some r1
        else
          some false
      else
        some false
    else
      some false
  else
    some false
noncomputable def C.impl_itemSame : Con := ⟨[.r (.val y3), .r (.val y3)], .one .bool, fun x => F.impl_itemSame x.1 x.2.1⟩
def L.impl_itemSame : Loops := fun _ => none
noncomputable def K.impl_itemSame : Cons := lookK [(52, [], C.impl_SketchSame)]
theorem run.impl_itemSame : ∀ x, runF tb K.impl_itemSame L.impl_itemSame [] Try.f74 C.impl_itemSame x = C.impl_itemSame.fn x := fun x => by kernel_rfl

/-! ### impl.FrameOk: function 18 -/
noncomputable def F.impl_FrameOk (a0 : DFrame) : Option Bool :=
  (F.impl_within a0.1 0 3).bind fun r1 =>
  bif !r1 then
    some false
  else
  (F.impl_within a0.2.1 0 2).bind fun r2 =>
  bif !r2 then
    some false
  else
  (F.impl_within a0.2.2.1 0 1000).bind fun r3 =>
  bif !r3 then
    some false
  else
  (F.impl_within a0.2.2.2.1 0 60).bind fun r4 =>
  bif !r4 then
    some false
  else
  (F.impl_allIn a0.2.2.2.2.1 1 60).bind fun r5 =>
  bif !r5 then
    some false
  else
  bif a0.1 == 1 then
    (F.impl_ItemOk a0.2.2.2.2.2.1).bind fun r6 =>
    some r6
  else
  (F.impl_itemSame a0.2.2.2.2.2.1 ((0, 0, 0, 0, (0, 0, 0, 0, ([] : List Int), ([] : List Int), ([] : List (List Int)), ()), ()))).bind fun r7 =>
  some r7
noncomputable def C.impl_FrameOk : Con := ⟨[.r (.val y9)], .one .bool, fun x => F.impl_FrameOk x.1⟩
def L.impl_FrameOk : Loops := fun _ => none
noncomputable def K.impl_FrameOk : Cons := lookK [(71, [], C.impl_within), (72, [], C.impl_allIn), (73, [], C.impl_ItemOk), (74, [], C.impl_itemSame)]
theorem run.impl_FrameOk : ∀ x, runF tb K.impl_FrameOk L.impl_FrameOk [] Try.f18 C.impl_FrameOk x = C.impl_FrameOk.fn x := fun x => by kernel_rfl

/-! ### laws.times: function 19 -/
noncomputable def F.laws_times.s3 : ((List Int) × Int × Int × Int × Unit) → Option (Lp ((List Int) × Int × Int × Int × Unit) Int) := fun (x1, x2, x3, x4, _) =>
  bif decide (x4 < (len x1)) then
    chk (inb x4 (List.length x1)) <|
    bif (List.getD x1 ((Int.toNat x4)) 0) == x2 then
      some (.again (x1, x2, w64 (x3 + 1), w64 (x4 + 1), ()))
    else
      some (.again (x1, x2, x3, w64 (x4 + 1), ()))
  else
    some (.exit (x1, x2, x3, x4, ()))
noncomputable def F.laws_times (a0 : List Int) (a1 : Int) : Option Int :=
  afterO (loopO F.laws_times.s3 (a0, a1, 0, 0, ())) fun (x5, x6, x7, x8, _) =>
  some x7
noncomputable def C.laws_times : Con := ⟨[.r (.val (.sl false 3 (.int .i64))), .r (.val (.int .i64))], .one (.int .i64), fun x => F.laws_times x.1 x.2.1⟩
def L.laws_times : Loops := lookL [(3, ⟨[.pat 0 (.val (.sl false 3 (.int .i64))), .pat 1 (.val (.int .i64)), .pat 5 (.val (.int .i64)), .pat 6 (.val (.int .i64))], 0⟩)]
noncomputable def K.laws_times : Cons := lookK []
theorem run.laws_times : ∀ x, runF tb K.laws_times L.laws_times [] Try.f19 C.laws_times x = C.laws_times.fn x := fun x => by kernel_rfl

/-! ### laws.FnSent: function 3 -/
noncomputable def F.laws_FnSent.s17 : ((List Int) × (List Int) × Int × DAgent × DAgent × DFrame × Unit) → Option (Lp ((List Int) × (List Int) × Int × DAgent × DAgent × DFrame × Unit) Bool) := fun (x11, x12, x13, x14, x15, x16, _) =>
  bif decide (x13 < (len x11)) then
    (F.impl_AgentSend x15).bind fun r17 =>
    chk (fits (List.length x12 + List.length ([r17.2.2.2.2.2.2.1.1])) 8) <|
    bif r17.2.1 != 1 then
      some (.ret false)
    else
      some (.again (x11, x12 ++ ([r17.2.2.2.2.2.2.1.1]), w64 (x13 + 1), x14, r17.1, x16, ()))
  else
    some (.exit (x11, x12, x13, x14, x15, x16, ()))
noncomputable def F.laws_FnSent.s25 : ((List Int) × (List Int) × Int × DAgent × DAgent × DFrame × Unit) → Option (Lp ((List Int) × (List Int) × Int × DAgent × DAgent × DFrame × Unit) Bool) := fun (x24, x25, x26, x27, x28, x29, _) =>
  bif decide (x26 < (len x24)) then
    chk (inb x26 (List.length x24)) <|
    (F.laws_times x25 (List.getD x24 ((Int.toNat x26)) 0)).bind fun r30 =>
    bif r30 != 1 then
      some (.ret false)
    else
    chk (inb x26 (List.length x24)) <|
    bif decide ((List.getD x24 ((Int.toNat x26)) 0) > x27.2.2.2.1) then
      some (.ret false)
    else
    chk (inb x26 (List.length x24)) <|
    (F.impl_SetHas x27.2.2.2.2.2.1 (List.getD x24 ((Int.toNat x26)) 0)).bind fun r31 =>
    bif r31 then
      some (.ret false)
    else
      some (.again (x24, x25, w64 (x26 + 1), x27, x28, x29, ()))
  else
    some (.exit (x24, x25, x26, x27, x28, x29, ()))
noncomputable def F.laws_FnSent (a0 : List Int) : Option Bool :=
  (F.laws_big a0).bind fun r1 =>
  bif r1 then
    some true
  else
  (F.spec_DrawAgentSend a0).bind fun r2 =>
  (F.impl_Waiting r2).bind fun r3 =>
  (F.spec_Waiting r2).bind fun r4 =>
  (F.laws_sameInts r3 r4).bind fun r5 =>
  bif !r5 then
    some false
  else
  (F.impl_AgentSend r2).bind fun r6 =>
  (F.spec_AgentSend r2).bind fun r7 =>
  (F.spec_FrameSame r6.2 r7.2).bind fun r8 =>
  bif !r8 then
    some false
  else
  (F.spec_AgentOk r2).bind fun r9 =>
  bif !r9 then
    bif (len r3) == 0 then
      some (r6.2.2.1 == 0)
    else
      some false
  else
  bif (len r3) == 0 then
    bif r6.2.1 == 0 then
      bif r6.2.2.1 == r2.1 then
        bif r6.2.2.2.1 == r2.2.1 then
          (F.impl_FrameOk r6.2).bind fun r10 =>
          some r10
        else
          some false
      else
        some false
    else
      some false
  else
  afterO (loopO F.laws_FnSent.s17 (r3, [r6.2.2.2.2.2.2.1.1], 1, r2, r6.1, r6.2, ())) fun (x18, x19, x20, x21, x22, x23, _) =>
  afterO (loopO F.laws_FnSent.s25 (x18, x19, 0, x21, x22, x23, ())) fun (x32, x33, x34, x35, x36, x37, _) =>
  bif x37.1 == 1 then
    (F.impl_FrameOk x37).bind fun r38 =>
    bif r38 then
      (F.impl_AgentOk x36).bind fun r39 =>
      some r39
    else
      some false
  else
    some false
noncomputable def C.laws_FnSent : Con := ⟨[.r (.val (.sl false 5 (.int .u8)))], .one .bool, fun x => F.laws_FnSent x.1⟩
def L.laws_FnSent : Loops := lookL [(17, ⟨[.own 4 (.sl true 3 (.int .i64)), .own 9 (.sl true 3 (.int .i64)), .pat 10 (.val (.int .i64)), .root 3 true y4 [3], .root 5 true y7 [5], .root 6 true y8 [6]], 0⟩), (25, ⟨[.own 4 (.sl true 3 (.int .i64)), .own 9 (.sl true 3 (.int .i64)), .pat 13 (.val (.int .i64)), .root 3 true y4 [3], .root 5 true y7 [5], .root 6 true y8 [6]], 2⟩)]
noncomputable def K.laws_FnSent : Cons := lookK [(9, [], C.laws_big), (10, [], C.spec_DrawAgentSend), (11, [], C.impl_Waiting), (12, [], C.laws_sameInts), (13, [], C.spec_Waiting), (14, [], C.impl_AgentSend), (15, [], C.spec_AgentSend), (16, [], C.spec_FrameSame), (17, [], C.spec_AgentOk), (18, [], C.impl_FrameOk), (19, [], C.laws_times), (20, [], C.impl_SetHas), (21, [], C.impl_AgentOk)]
theorem run.laws_FnSent : ∀ x, runF tb K.laws_FnSent L.laws_FnSent [] Try.f3 C.laws_FnSent x = C.laws_FnSent.fn x := fun x => by kernel_rfl

/-! ### laws.szSpanS: function 164 -/
noncomputable def F.laws_szSpanS (a0 : List DSpan) (a1 : Int) : Option Int :=
  bif decide ((w64 (a1 - (len a0))) < 0) then
    some (-1)
  else
    some (w64 (a1 - (len a0)))
noncomputable def C.laws_szSpanS : Con := ⟨[.r (.val (.sl false 180 y1)), .r (.val (.int .i64))], .one (.int .i64), fun x => F.laws_szSpanS x.1 x.2.1⟩
def L.laws_szSpanS : Loops := fun _ => none
noncomputable def K.laws_szSpanS : Cons := lookK []
theorem run.laws_szSpanS : ∀ x, runF tb K.laws_szSpanS L.laws_szSpanS [] Try.f164 C.laws_szSpanS x = C.laws_szSpanS.fn x := fun x => by kernel_rfl

/-! ### laws.szIntS: function 181 -/
noncomputable def F.laws_szIntS (a0 : List Int) (a1 : Int) : Option Int :=
  bif decide ((w64 (a1 - (len a0))) < 0) then
    some (-1)
  else
    some (w64 (a1 - (len a0)))
noncomputable def C.laws_szIntS : Con := ⟨[.r (.val (.sl false 3 (.int .i64))), .r (.val (.int .i64))], .one (.int .i64), fun x => F.laws_szIntS x.1 x.2.1⟩
def L.laws_szIntS : Loops := fun _ => none
noncomputable def K.laws_szIntS : Cons := lookK []
theorem run.laws_szIntS : ∀ x, runF tb K.laws_szIntS L.laws_szIntS [] Try.f181 C.laws_szIntS x = C.laws_szIntS.fn x := fun x => by kernel_rfl

/-! ### laws.szIntSS: function 182 -/
noncomputable def F.laws_szIntSS.s5 : ((List (List Int)) × Int × Int × Unit) → Option (Lp ((List (List Int)) × Int × Int × Unit) Int) := fun (x1, x2, x3, _) =>
  bif decide (x3 < (len x1)) then
    chk (inb x3 (List.length x1)) <|
    (F.laws_szIntS (List.getD x1 ((Int.toNat x3)) (([] : List Int))) x2).bind fun r4 =>
    bif decide (r4 < 0) then
      some (.ret (-1))
    else
      some (.again (x1, r4, w64 (x3 + 1), ()))
  else
    some (.exit (x1, x2, x3, ()))
noncomputable def F.laws_szIntSS (a0 : List (List Int)) (a1 : Int) : Option Int :=
  bif decide ((w64 (a1 - (len a0))) < 0) then
    some (-1)
  else
  afterO (loopO F.laws_szIntSS.s5 (a0, w64 (a1 - (len a0)), 0, ())) fun (x5, x6, x7, _) =>
  some x6
noncomputable def C.laws_szIntSS : Con := ⟨[.r (.val (.sl false 29 (.sl false 3 (.int .i64)))), .r (.val (.int .i64))], .one (.int .i64), fun x => F.laws_szIntSS x.1 x.2.1⟩
def L.laws_szIntSS : Loops := lookL [(5, ⟨[.pat 0 (.val (.sl false 29 (.sl false 3 (.int .i64)))), .pat 1 (.val (.int .i64)), .pat 5 (.val (.int .i64))], 0⟩)]
noncomputable def K.laws_szIntSS : Cons := lookK [(181, [], C.laws_szIntS)]
theorem run.laws_szIntSS : ∀ x, runF tb K.laws_szIntSS L.laws_szIntSS [] Try.f182 C.laws_szIntSS x = C.laws_szIntSS.fn x := fun x => by kernel_rfl

/-! ### laws.szSketch: function 165 -/
noncomputable def F.laws_szSketch (a0 : DSketch) (a1 : Int) : Option Int :=
  (F.laws_szIntS a0.2.2.2.2.1 a1).bind fun r1 =>
  bif decide (r1 < 0) then
    some (-1)
  else
  (F.laws_szIntS a0.2.2.2.2.2.1 r1).bind fun r2 =>
  bif decide (r2 < 0) then
    some (-1)
  else
  (F.laws_szIntSS a0.2.2.2.2.2.2.1 r2).bind fun r3 =>
  bif decide (r3 < 0) then
    some (-1)
  else
    some r3
noncomputable def C.laws_szSketch : Con := ⟨[.r (.val y2), .r (.val (.int .i64))], .one (.int .i64), fun x => F.laws_szSketch x.1 x.2.1⟩
def L.laws_szSketch : Loops := fun _ => none
noncomputable def K.laws_szSketch : Cons := lookK [(181, [], C.laws_szIntS), (182, [], C.laws_szIntSS)]
theorem run.laws_szSketch : ∀ x, runF tb K.laws_szSketch L.laws_szSketch [] Try.f165 C.laws_szSketch x = C.laws_szSketch.fn x := fun x => by kernel_rfl

/-! ### laws.szEntry: function 139 -/
noncomputable def F.laws_szEntry (a0 : DEntry) (a1 : Int) : Option Int :=
  (F.laws_szSpanS a0.2.2.1 a1).bind fun r1 =>
  bif decide (r1 < 0) then
    some (-1)
  else
  (F.laws_szSketch a0.2.2.2.1 r1).bind fun r2 =>
  bif decide (r2 < 0) then
    some (-1)
  else
    some r2
noncomputable def C.laws_szEntry : Con := ⟨[.r (.val y10), .r (.val (.int .i64))], .one (.int .i64), fun x => F.laws_szEntry x.1 x.2.1⟩
def L.laws_szEntry : Loops := fun _ => none
noncomputable def K.laws_szEntry : Cons := lookK [(164, [], C.laws_szSpanS), (165, [], C.laws_szSketch)]
theorem run.laws_szEntry : ∀ x, runF tb K.laws_szEntry L.laws_szEntry [] Try.f139 C.laws_szEntry x = C.laws_szEntry.fn x := fun x => by kernel_rfl

/-! ### laws.szEntryS: function 87 -/
noncomputable def F.laws_szEntryS.s5 : ((List DEntry) × Int × Int × Unit) → Option (Lp ((List DEntry) × Int × Int × Unit) Int) := fun (x1, x2, x3, _) =>
  bif decide (x3 < (len x1)) then
    chk (inb x3 (List.length x1)) <|
    (F.laws_szEntry (List.getD x1 ((Int.toNat x3)) ((0, 0, ([] : List DSpan), (0, 0, 0, 0, ([] : List Int), ([] : List Int), ([] : List (List Int)), ()), ()))) x2).bind fun r4 =>
    bif decide (r4 < 0) then
      some (.ret (-1))
    else
      some (.again (x1, r4, w64 (x3 + 1), ()))
  else
    some (.exit (x1, x2, x3, ()))
noncomputable def F.laws_szEntryS (a0 : List DEntry) (a1 : Int) : Option Int :=
  bif decide ((w64 (a1 - (len a0))) < 0) then
    some (-1)
  else
  afterO (loopO F.laws_szEntryS.s5 (a0, w64 (a1 - (len a0)), 0, ())) fun (x5, x6, x7, _) =>
  some x6
noncomputable def C.laws_szEntryS : Con := ⟨[.r (.val (.sl false 153 y10)), .r (.val (.int .i64))], .one (.int .i64), fun x => F.laws_szEntryS x.1 x.2.1⟩
def L.laws_szEntryS : Loops := lookL [(5, ⟨[.pat 0 (.val (.sl false 153 y10)), .pat 1 (.val (.int .i64)), .pat 5 (.val (.int .i64))], 0⟩)]
noncomputable def K.laws_szEntryS : Cons := lookK [(139, [], C.laws_szEntry)]
theorem run.laws_szEntryS : ∀ x, runF tb K.laws_szEntryS L.laws_szEntryS [] Try.f87 C.laws_szEntryS x = C.laws_szEntryS.fn x := fun x => by kernel_rfl

/-! ### laws.szRow: function 27 -/
noncomputable def F.laws_szRow (a0 : DRow) (a1 : Int) : Option Int :=
  (F.laws_szEntryS a0.1 a1).bind fun r1 =>
  bif decide (r1 < 0) then
    some (-1)
  else
    some r1
noncomputable def C.laws_szRow : Con := ⟨[.r (.val (.cons (.sl false 153 y10) .nil)), .r (.val (.int .i64))], .one (.int .i64), fun x => F.laws_szRow x.1 x.2.1⟩
def L.laws_szRow : Loops := fun _ => none
noncomputable def K.laws_szRow : Cons := lookK [(87, [], C.laws_szEntryS)]
theorem run.laws_szRow : ∀ x, runF tb K.laws_szRow L.laws_szRow [] Try.f27 C.laws_szRow x = C.laws_szRow.fn x := fun x => by kernel_rfl

/-! ### laws.toSpan: function 183 -/
noncomputable def F.laws_toSpan (a0 : DSpan) : Option DSpan :=
  some (a0.1, a0.2.1, ())
noncomputable def C.laws_toSpan : Con := ⟨[.r (.val y1)], .one y1, fun x => F.laws_toSpan x.1⟩
def L.laws_toSpan : Loops := fun _ => none
noncomputable def K.laws_toSpan : Cons := lookK []
theorem run.laws_toSpan : ∀ x, runF tb K.laws_toSpan L.laws_toSpan [] Try.f183 C.laws_toSpan x = C.laws_toSpan.fn x := fun x => by kernel_rfl

/-! ### laws.toSpanS: function 166 -/
noncomputable def F.laws_toSpanS.s3 : ((List DSpan) × (List DSpan) × Int × Unit) → Option (Lp ((List DSpan) × (List DSpan) × Int × Unit) ((List DSpan))) := fun (x1, x2, x3, _) =>
  bif decide (x3 < (len x1)) then
    chk (inb x3 (List.length x1)) <|
    (F.laws_toSpan (List.getD x1 ((Int.toNat x3)) ((0, 0, ())))).bind fun r4 =>
    chk (inb x3 (List.length x2)) <|
    some (.again (x1, List.set x2 ((Int.toNat x3)) r4, w64 (x3 + 1), ()))
  else
    some (.exit (x1, x2, x3, ()))
noncomputable def F.laws_toSpanS (a0 : List DSpan) : Option ((List DSpan)) :=
  chk (mk 16 (len a0) (len a0)) <|
  afterO (loopO F.laws_toSpanS.s3 (a0, List.replicate (Int.toNat (len a0)) ((0, 0, ())), 0, ())) fun (x5, x6, x7, _) =>
  some x6
noncomputable def C.laws_toSpanS : Con := ⟨[.r (.val (.sl false 180 y1))], .one (.sl true 97 y1), fun x => F.laws_toSpanS x.1⟩
def L.laws_toSpanS : Loops := lookL [(3, ⟨[.pat 0 (.val (.sl false 180 y1)), .own 3 (.sl true 97 y1), .pat 4 (.val (.int .i64))], 0⟩)]
noncomputable def K.laws_toSpanS : Cons := lookK [(183, [], C.laws_toSpan)]
theorem run.laws_toSpanS : ∀ x, runF tb K.laws_toSpanS L.laws_toSpanS [] Try.f166 C.laws_toSpanS x = C.laws_toSpanS.fn x := fun x => by kernel_rfl

/-! ### laws.toIntS: function 184 -/
noncomputable def F.laws_toIntS.s3 : ((List Int) × (List Int) × Int × Unit) → Option (Lp ((List Int) × (List Int) × Int × Unit) ((List Int))) := fun (x1, x2, x3, _) =>
  bif decide (x3 < (len x1)) then
    chk (inb x3 (List.length x1)) <|
    chk (inb x3 (List.length x2)) <|
    some (.again (x1, List.set x2 ((Int.toNat x3)) (List.getD x1 ((Int.toNat x3)) 0), w64 (x3 + 1), ()))
  else
    some (.exit (x1, x2, x3, ()))
noncomputable def F.laws_toIntS (a0 : List Int) : Option ((List Int)) :=
  chk (mk 8 (len a0) (len a0)) <|
  afterO (loopO F.laws_toIntS.s3 (a0, List.replicate (Int.toNat (len a0)) 0, 0, ())) fun (x4, x5, x6, _) =>
  some x5
noncomputable def C.laws_toIntS : Con := ⟨[.r (.val (.sl false 3 (.int .i64)))], .one (.sl true 3 (.int .i64)), fun x => F.laws_toIntS x.1⟩
def L.laws_toIntS : Loops := lookL [(3, ⟨[.pat 0 (.val (.sl false 3 (.int .i64))), .own 3 (.sl true 3 (.int .i64)), .pat 4 (.val (.int .i64))], 0⟩)]
noncomputable def K.laws_toIntS : Cons := lookK []
theorem run.laws_toIntS : ∀ x, runF tb K.laws_toIntS L.laws_toIntS [] Try.f184 C.laws_toIntS x = C.laws_toIntS.fn x := fun x => by kernel_rfl

/-! ### laws.toIntSS: function 185 -/
noncomputable def F.laws_toIntSS.s3 : ((List (List Int)) × (List (List Int)) × Int × Unit) → Option (Lp ((List (List Int)) × (List (List Int)) × Int × Unit) ((List (List Int)))) := fun (x1, x2, x3, _) =>
  bif decide (x3 < (len x1)) then
    chk (inb x3 (List.length x1)) <|
    (F.laws_toIntS (List.getD x1 ((Int.toNat x3)) (([] : List Int)))).bind fun r4 =>
    chk (inb x3 (List.length x2)) <|
    some (.again (x1, List.set x2 ((Int.toNat x3)) r4, w64 (x3 + 1), ()))
  else
    some (.exit (x1, x2, x3, ()))
noncomputable def F.laws_toIntSS (a0 : List (List Int)) : Option ((List (List Int))) :=
  chk (mk 24 (len a0) (len a0)) <|
  afterO (loopO F.laws_toIntSS.s3 (a0, List.replicate (Int.toNat (len a0)) (([] : List Int)), 0, ())) fun (x5, x6, x7, _) =>
  some x6
noncomputable def C.laws_toIntSS : Con := ⟨[.r (.val (.sl false 29 (.sl false 3 (.int .i64))))], .one (.sl true 29 (.sl true 3 (.int .i64))), fun x => F.laws_toIntSS x.1⟩
def L.laws_toIntSS : Loops := lookL [(3, ⟨[.pat 0 (.val (.sl false 29 (.sl false 3 (.int .i64)))), .own 3 (.sl true 29 (.sl true 3 (.int .i64))), .pat 4 (.val (.int .i64))], 0⟩)]
noncomputable def K.laws_toIntSS : Cons := lookK [(184, [], C.laws_toIntS)]
theorem run.laws_toIntSS : ∀ x, runF tb K.laws_toIntSS L.laws_toIntSS [] Try.f185 C.laws_toIntSS x = C.laws_toIntSS.fn x := fun x => by kernel_rfl

/-! ### laws.toSketch: function 167 -/
noncomputable def F.laws_toSketch (a0 : DSketch) : Option DSketch :=
  (F.laws_toIntS a0.2.2.2.2.1).bind fun r1 =>
  (F.laws_toIntS a0.2.2.2.2.2.1).bind fun r2 =>
  (F.laws_toIntSS a0.2.2.2.2.2.2.1).bind fun r3 =>
  some (a0.1, a0.2.1, a0.2.2.1, a0.2.2.2.1, r1, r2, r3, ())
noncomputable def C.laws_toSketch : Con := ⟨[.r (.val y2)], .one y5, fun x => F.laws_toSketch x.1⟩
def L.laws_toSketch : Loops := fun _ => none
noncomputable def K.laws_toSketch : Cons := lookK [(184, [], C.laws_toIntS), (185, [], C.laws_toIntSS)]
theorem run.laws_toSketch : ∀ x, runF tb K.laws_toSketch L.laws_toSketch [] Try.f167 C.laws_toSketch x = C.laws_toSketch.fn x := fun x => by kernel_rfl

/-! ### laws.toEntry: function 143 -/
noncomputable def F.laws_toEntry (a0 : DEntry) : Option DEntry :=
  (F.laws_toSpanS a0.2.2.1).bind fun r1 =>
  (F.laws_toSketch a0.2.2.2.1).bind fun r2 =>
  some (a0.1, a0.2.1, r1, r2, ())
noncomputable def C.laws_toEntry : Con := ⟨[.r (.val y10)], .one y11, fun x => F.laws_toEntry x.1⟩
def L.laws_toEntry : Loops := fun _ => none
noncomputable def K.laws_toEntry : Cons := lookK [(166, [], C.laws_toSpanS), (167, [], C.laws_toSketch)]
theorem run.laws_toEntry : ∀ x, runF tb K.laws_toEntry L.laws_toEntry [] Try.f143 C.laws_toEntry x = C.laws_toEntry.fn x := fun x => by kernel_rfl

/-! ### laws.toEntryS: function 90 -/
noncomputable def F.laws_toEntryS.s3 : ((List DEntry) × (List DEntry) × Int × Unit) → Option (Lp ((List DEntry) × (List DEntry) × Int × Unit) ((List DEntry))) := fun (x1, x2, x3, _) =>
  bif decide (x3 < (len x1)) then
    chk (inb x3 (List.length x1)) <|
    (F.laws_toEntry (List.getD x1 ((Int.toNat x3)) ((0, 0, ([] : List DSpan), (0, 0, 0, 0, ([] : List Int), ([] : List Int), ([] : List (List Int)), ()), ())))).bind fun r4 =>
    chk (inb x3 (List.length x2)) <|
    some (.again (x1, List.set x2 ((Int.toNat x3)) r4, w64 (x3 + 1), ()))
  else
    some (.exit (x1, x2, x3, ()))
noncomputable def F.laws_toEntryS (a0 : List DEntry) : Option ((List DEntry)) :=
  chk (mk 144 (len a0) (len a0)) <|
  afterO (loopO F.laws_toEntryS.s3 (a0, List.replicate (Int.toNat (len a0)) ((0, 0, ([] : List DSpan), (0, 0, 0, 0, ([] : List Int), ([] : List Int), ([] : List (List Int)), ()), ())), 0, ())) fun (x5, x6, x7, _) =>
  some x6
noncomputable def C.laws_toEntryS : Con := ⟨[.r (.val (.sl false 153 y10))], .one (.sl true 56 y11), fun x => F.laws_toEntryS x.1⟩
def L.laws_toEntryS : Loops := lookL [(3, ⟨[.pat 0 (.val (.sl false 153 y10)), .own 3 (.sl true 56 y11), .pat 4 (.val (.int .i64))], 0⟩)]
noncomputable def K.laws_toEntryS : Cons := lookK [(143, [], C.laws_toEntry)]
theorem run.laws_toEntryS : ∀ x, runF tb K.laws_toEntryS L.laws_toEntryS [] Try.f90 C.laws_toEntryS x = C.laws_toEntryS.fn x := fun x => by kernel_rfl

/-! ### laws.toRow: function 29 -/
noncomputable def F.laws_toRow (a0 : DRow) : Option DRow :=
  (F.laws_toEntryS a0.1).bind fun r1 =>
  some (r1, ())
noncomputable def C.laws_toRow : Con := ⟨[.r (.val (.cons (.sl false 153 y10) .nil))], .one (.cons (.sl true 56 y11) .nil), fun x => F.laws_toRow x.1⟩
def L.laws_toRow : Loops := fun _ => none
noncomputable def K.laws_toRow : Cons := lookK [(90, [], C.laws_toEntryS)]
theorem run.laws_toRow : ∀ x, runF tb K.laws_toRow L.laws_toRow [] Try.f29 C.laws_toRow x = C.laws_toRow.fn x := fun x => by kernel_rfl

/-! ### spec.l6Copy: function 140 -/
noncomputable def F.spec_l6Copy (a0 : DEntry) : Option DEntry :=
  (F.spec_l5Copy a0.2.2.1).bind fun r1 =>
  (F.spec_l3Copy a0.2.2.2.1).bind fun r2 =>
  some (a0.1, a0.2.1, r1, r2, ())
noncomputable def C.spec_l6Copy : Con := ⟨[.r (.val y12)], .one y11, fun x => F.spec_l6Copy x.1⟩
def L.spec_l6Copy : Loops := fun _ => none
noncomputable def K.spec_l6Copy : Cons := lookK [(114, [], C.spec_l3Copy), (131, [], C.spec_l5Copy)]
theorem run.spec_l6Copy : ∀ x, runF tb K.spec_l6Copy L.spec_l6Copy [] Try.f140 C.spec_l6Copy x = C.spec_l6Copy.fn x := fun x => by kernel_rfl

/-! ### spec.l10Copy: function 88 -/
noncomputable def F.spec_l10Copy.s3 : (Int × DRow × DRow × DRow × Unit) → Option (Lp (Int × DRow × DRow × DRow × Unit) DRow) := fun (x1, x2, x3, x4, _) =>
  bif decide (x1 < (len x2.1)) then
    chk (inb x1 (List.length x2.1)) <|
    (F.spec_l6Copy (List.getD x2.1 ((Int.toNat x1)) ((0, 0, ([] : List DSpan), (0, 0, 0, 0, ([] : List Int), ([] : List Int), ([] : List (List Int)), ()), ())))).bind fun r5 =>
    chk (fits (List.length x4.1 + List.length ([r5])) 144) <|
    some (.again (w64 (x1 + 1), x2, x3, (x4.1 ++ ([r5]), x4.2), ()))
  else
    some (.exit (x1, x2, x3, x4, ()))
noncomputable def F.spec_l10Copy (a0 : DRow) : Option DRow :=
  afterO (loopO F.spec_l10Copy.s3 (0, a0, (([] : List DEntry), ()), (([] : List DEntry), ()), ())) fun (x6, x7, x8, x9, _) =>
  some x9
noncomputable def C.spec_l10Copy : Con := ⟨[.r (.val (.cons (.sl false 56 y12) .nil))], .one (.cons (.sl true 56 y11) .nil), fun x => F.spec_l10Copy x.1⟩
def L.spec_l10Copy : Loops := lookL [(3, ⟨[.pat 4 (.val (.int .i64)), .root 1 true (.cons (.sl false 56 y12) .nil) [1], .root 2 true (.cons (.sl true 56 y11) .nil) [2], .root 3 true (.cons (.sl true 56 y11) .nil) [3]], 0⟩)]
noncomputable def K.spec_l10Copy : Cons := lookK [(140, [], C.spec_l6Copy)]
theorem run.spec_l10Copy : ∀ x, runF tb K.spec_l10Copy L.spec_l10Copy [] Try.f88 C.spec_l10Copy x = C.spec_l10Copy.fn x := fun x => by kernel_rfl

/-! ### spec.EntryOk: function 141 -/
noncomputable def F.spec_EntryOk (a0 : DEntry) : Option Bool :=
  (F.spec_l6Place a0.1 a0.2.1).bind fun r1 =>
  bif r1 then
    bif decide ((len a0.2.2.1) > 0) then
      (F.spec_SetOk a0.2.2.1).bind fun r2 =>
      bif r2 then
        (F.spec_SketchOk a0.2.2.2.1).bind fun r3 =>
        some r3
      else
        some false
    else
      some false
  else
    some false
noncomputable def C.spec_EntryOk : Con := ⟨[.r (.val y12)], .one .bool, fun x => F.spec_EntryOk x.1⟩
def L.spec_EntryOk : Loops := fun _ => none
noncomputable def K.spec_EntryOk : Cons := lookK [(44, [], C.spec_SketchOk), (81, [], C.spec_SetOk), (132, [], C.spec_l6Place)]
theorem run.spec_EntryOk : ∀ x, runF tb K.spec_EntryOk L.spec_EntryOk [] Try.f141 C.spec_EntryOk x = C.spec_EntryOk.fn x := fun x => by kernel_rfl

/-! ### spec.SetApart: function 142 -/
noncomputable def F.spec_SetApart.s7 : ((List DSpan) × (List DSpan) × Int × Int × Unit) → Option (Lp ((List DSpan) × (List DSpan) × Int × Int × Unit) (Lp ((List DSpan) × (List DSpan) × Int × Unit) Bool)) := fun (x6, x7, x8, x9, _) =>
  bif decide (x9 < (len x7)) then
    chk (inb x8 (List.length x6)) <|
    chk (inb x9 (List.length x7)) <|
    bif decide (((List.getD x6 ((Int.toNat x8)) ((0, 0, ()))).1) ≤ (((List.getD x7 ((Int.toNat x9)) ((0, 0, ()))).2).1)) then
      chk (inb x9 (List.length x7)) <|
      chk (inb x8 (List.length x6)) <|
      bif decide (((List.getD x7 ((Int.toNat x9)) ((0, 0, ()))).1) ≤ (((List.getD x6 ((Int.toNat x8)) ((0, 0, ()))).2).1)) then
        some (.ret (.ret false))
      else
        some (.again (x6, x7, x8, w64 (x9 + 1), ()))
    else
      some (.again (x6, x7, x8, w64 (x9 + 1), ()))
  else
    some (.exit (x6, x7, x8, x9, ()))
noncomputable def F.spec_SetApart.s4 : ((List DSpan) × (List DSpan) × Int × Unit) → Option (Lp ((List DSpan) × (List DSpan) × Int × Unit) Bool) := fun (x3, x4, x5, _) =>
  bif decide (x5 < (len x3)) then
    afterO (loopO F.spec_SetApart.s7 (x3, x4, x5, 0, ())) fun (x10, x11, x12, x13, _) =>
    some (.again (x10, x11, w64 (x12 + 1), ()))
  else
    some (.exit (x3, x4, x5, ()))
noncomputable def F.spec_SetApart (a0 : List DSpan) (a1 : List DSpan) : Option Bool :=
  (F.spec_SetOk a0).bind fun r1 =>
  bif !r1 then
    some false
  else
  (F.spec_SetOk a1).bind fun r2 =>
  bif !r2 then
    some false
  else
  afterO (loopO F.spec_SetApart.s4 (a0, a1, 0, ())) fun (x14, x15, x16, _) =>
  some true
noncomputable def C.spec_SetApart : Con := ⟨[.r (.val (.sl false 97 y1)), .r (.val (.sl false 97 y1))], .one .bool, fun x => F.spec_SetApart x.1 x.2.1⟩
def L.spec_SetApart : Loops := lookL [(7, ⟨[.pat 0 (.val (.sl false 97 y1)), .pat 1 (.val (.sl false 97 y1)), .pat 5 (.val (.int .i64)), .pat 6 (.val (.int .i64))], 2⟩), (4, ⟨[.pat 0 (.val (.sl false 97 y1)), .pat 1 (.val (.sl false 97 y1)), .pat 5 (.val (.int .i64))], 0⟩)]
noncomputable def K.spec_SetApart : Cons := lookK [(81, [], C.spec_SetOk)]
theorem run.spec_SetApart : ∀ x, runF tb K.spec_SetApart L.spec_SetApart [] Try.f142 C.spec_SetApart x = C.spec_SetApart.fn x := fun x => by kernel_rfl

/-! ### spec.RowOk: function 89 -/
noncomputable def F.spec_RowOk.s9 : (Int × Int × DRow × Unit) → Option (Lp (Int × Int × DRow × Unit) (Lp (Int × DRow × Unit) Bool)) := fun (x4, x5, x6, _) =>
  bif decide (x5 < x4) then
    chk (inb x4 (List.length x6.1)) <|
    chk (inb x5 (List.length x6.1)) <|
    (F.spec_SetApart ((((List.getD x6.1 ((Int.toNat x4)) ((0, 0, ([] : List DSpan), (0, 0, 0, 0, ([] : List Int), ([] : List Int), ([] : List (List Int)), ()), ()))).2).2).1) ((((List.getD x6.1 ((Int.toNat x5)) ((0, 0, ([] : List DSpan), (0, 0, 0, 0, ([] : List Int), ([] : List Int), ([] : List (List Int)), ()), ()))).2).2).1)).bind fun r7 =>
    bif !r7 then
      some (.ret (.ret false))
    else
      some (.again (x4, w64 (x5 + 1), x6, ()))
  else
    some (.exit (x4, x5, x6, ()))
noncomputable def F.spec_RowOk.s4 : (Int × DRow × Unit) → Option (Lp (Int × DRow × Unit) Bool) := fun (x1, x2, _) =>
  bif decide (x1 < (len x2.1)) then
    chk (inb x1 (List.length x2.1)) <|
    (F.spec_EntryOk (List.getD x2.1 ((Int.toNat x1)) ((0, 0, ([] : List DSpan), (0, 0, 0, 0, ([] : List Int), ([] : List Int), ([] : List (List Int)), ()), ())))).bind fun r3 =>
    bif !r3 then
      some (.ret false)
    else
    afterO (loopO F.spec_RowOk.s9 (x1, 0, x2, ())) fun (x8, x9, x10, _) =>
    some (.again (w64 (x8 + 1), x10, ()))
  else
    some (.exit (x1, x2, ()))
noncomputable def F.spec_RowOk (a0 : DRow) : Option Bool :=
  bif decide ((len a0.1) > 24) then
    some false
  else
  afterO (loopO F.spec_RowOk.s4 (0, a0, ())) fun (x11, x12, _) =>
  some true
noncomputable def C.spec_RowOk : Con := ⟨[.r (.val (.cons (.sl false 56 y12) .nil))], .one .bool, fun x => F.spec_RowOk x.1⟩
def L.spec_RowOk : Loops := lookL [(9, ⟨[.pat 3 (.val (.int .i64)), .pat 4 (.val (.int .i64)), .root 1 true (.cons (.sl false 56 y12) .nil) [1]], 2⟩), (4, ⟨[.pat 3 (.val (.int .i64)), .root 1 true (.cons (.sl false 56 y12) .nil) [1]], 0⟩)]
noncomputable def K.spec_RowOk : Cons := lookK [(141, [], C.spec_EntryOk), (142, [], C.spec_SetApart)]
theorem run.spec_RowOk : ∀ x, runF tb K.spec_RowOk L.spec_RowOk [] Try.f89 C.spec_RowOk x = C.spec_RowOk.fn x := fun x => by kernel_rfl

/-! ### spec.RowPop: function 28 -/
noncomputable def F.spec_RowPop (a0 : DRow) : Option (DEntry × DRow × Bool) :=
  (F.spec_l10Copy a0).bind fun r1 =>
  (F.spec_RowOk a0).bind fun r2 =>
  bif !r2 then
    some ((0, 0, ([] : List DSpan), (0, 0, 0, 0, ([] : List Int), ([] : List Int), ([] : List (List Int)), ()), ()), r1, false)
  else
  bif (len a0.1) == 0 then
    some ((0, 0, ([] : List DSpan), (0, 0, 0, 0, ([] : List Int), ([] : List Int), ([] : List (List Int)), ()), ()), r1, false)
  else
  chk (inb 0 (List.length r1.1)) <|
  chk (cutOk 1 (len r1.1) (List.length r1.1)) <|
  chk (fits (List.length (([] : List DEntry)) + List.length (List.take ((Int.toNat (len r1.1)) - 1) (List.drop 1 r1.1))) 144) <|
  some (List.getD r1.1 0 ((0, 0, ([] : List DSpan), (0, 0, 0, 0, ([] : List Int), ([] : List Int), ([] : List (List Int)), ()), ())), ((([] : List DEntry)) ++ (List.take ((Int.toNat (len r1.1)) - 1) (List.drop 1 r1.1)), ()), true)
noncomputable def C.spec_RowPop : Con := ⟨[.r (.val (.cons (.sl false 56 y12) .nil))], .many [y12, (.cons (.sl false 56 y12) .nil), .bool], fun x => F.spec_RowPop x.1⟩
def L.spec_RowPop : Loops := lookL [(1000004, ⟨[.root 2 true y11 [2], .root 3 true (.cons (.sl true 56 y11) .nil) [3], .root 5 true (.cons (.sl false 56 y12) .nil) [5]], 0⟩)]
noncomputable def K.spec_RowPop : Cons := lookK [(88, [], C.spec_l10Copy), (89, [], C.spec_RowOk)]
theorem run.spec_RowPop : ∀ x, runF tb K.spec_RowPop L.spec_RowPop [] Try.f28 C.spec_RowPop x = C.spec_RowPop.fn x := fun x => by kernel_rfl

/-! ### impl.copyEntry: function 168 -/
noncomputable def F.impl_copyEntry (a0 : DEntry) : Option DEntry :=
  (F.impl_copySet a0.2.2.1).bind fun r1 =>
  (F.impl_copySketch a0.2.2.2.1).bind fun r2 =>
  some (a0.1, a0.2.1, r1, r2, a0.2.2.2.2)
noncomputable def C.impl_copyEntry : Con := ⟨[.r (.val y12)], .one y11, fun x => F.impl_copyEntry x.1⟩
def L.impl_copyEntry : Loops := fun _ => none
noncomputable def K.impl_copyEntry : Cons := lookK [(113, [], C.impl_copySketch), (130, [], C.impl_copySet)]
theorem run.impl_copyEntry : ∀ x, runF tb K.impl_copyEntry L.impl_copyEntry [] Try.f168 C.impl_copyEntry x = C.impl_copyEntry.fn x := fun x => by kernel_rfl

/-! ### impl.copyEntries: function 144 -/
noncomputable def F.impl_copyEntries.s3 : ((List DEntry) × (List DEntry) × Int × Int × Unit) → Option (Lp ((List DEntry) × (List DEntry) × Int × Int × Unit) ((List DEntry))) := fun (x1, x2, x3, x4, _) =>
  bif decide (x4 < x3) then
    chk (inb x4 (List.length x2)) <|
    (F.impl_copyEntry (List.getD x2 ((Int.toNat x4)) ((0, 0, ([] : List DSpan), (0, 0, 0, 0, ([] : List Int), ([] : List Int), ([] : List (List Int)), ()), ())))).bind fun r5 =>
    chk (fits (List.length x1 + List.length ([r5])) 144) <|
    some (.again (x1 ++ ([r5]), x2, x3, w64 (x4 + 1), ()))
  else
    some (.exit (x1, x2, x3, x4, ()))
noncomputable def F.impl_copyEntries (a0 : List DEntry) : Option ((List DEntry)) :=
  afterO (loopO F.impl_copyEntries.s3 (([] : List DEntry), a0, len a0, 0, ())) fun (x6, x7, x8, x9, _) =>
  some x6
noncomputable def C.impl_copyEntries : Con := ⟨[.r (.val (.sl false 56 y12))], .one (.sl true 56 y11), fun x => F.impl_copyEntries x.1⟩
def L.impl_copyEntries : Loops := lookL [(3, ⟨[.own 3 (.sl true 56 y11), .pat 6 (.val (.sl false 56 y12)), .pat 7 (.val (.int .i64)), .pat 8 (.val (.int .i64))], 0⟩)]
noncomputable def K.impl_copyEntries : Cons := lookK [(168, [], C.impl_copyEntry)]
theorem run.impl_copyEntries : ∀ x, runF tb K.impl_copyEntries L.impl_copyEntries [] Try.f144 C.impl_copyEntries x = C.impl_copyEntries.fn x := fun x => by kernel_rfl

/-! ### impl.copyRow: function 91 -/
noncomputable def F.impl_copyRow (a0 : DRow) : Option DRow :=
  (F.impl_copyEntries a0.1).bind fun r1 =>
  some (r1, ())
noncomputable def C.impl_copyRow : Con := ⟨[.r (.val (.cons (.sl false 56 y12) .nil))], .one (.cons (.sl true 56 y11) .nil), fun x => F.impl_copyRow x.1⟩
def L.impl_copyRow : Loops := fun _ => none
noncomputable def K.impl_copyRow : Cons := lookK [(144, [], C.impl_copyEntries)]
theorem run.impl_copyRow : ∀ x, runF tb K.impl_copyRow L.impl_copyRow [] Try.f91 C.impl_copyRow x = C.impl_copyRow.fn x := fun x => by kernel_rfl

/-! ### impl.EntryOk: function 169 -/
noncomputable def F.impl_EntryOk (a0 : DEntry) : Option Bool :=
  (F.impl_within a0.1 0 4).bind fun r1 =>
  bif r1 then
    (F.impl_within a0.2.1 0 20).bind fun r2 =>
    bif r2 then
      (F.impl_SetOk a0.2.2.1).bind fun r3 =>
      bif r3 then
        bif decide ((len a0.2.2.1) > 0) then
          (F.impl_SketchOk a0.2.2.2.1).bind fun r4 =>
          some r4
        else
          some false
      else
        some false
    else
      some false
  else
    some false
noncomputable def C.impl_EntryOk : Con := ⟨[.r (.val y12)], .one .bool, fun x => F.impl_EntryOk x.1⟩
def L.impl_EntryOk : Loops := fun _ => none
noncomputable def K.impl_EntryOk : Cons := lookK [(71, [], C.impl_within), (105, [], C.impl_SketchOk), (133, [], C.impl_SetOk)]
theorem run.impl_EntryOk : ∀ x, runF tb K.impl_EntryOk L.impl_EntryOk [] Try.f169 C.impl_EntryOk x = C.impl_EntryOk.fn x := fun x => by kernel_rfl

/-! ### impl.SetApart: function 170 -/
noncomputable def F.impl_SetApart.s7 : ((List DSpan) × (List DSpan) × Int × Int × (List DSpan) × Int × Int × DSpan × Unit) → Option (Lp ((List DSpan) × (List DSpan) × Int × Int × (List DSpan) × Int × Int × DSpan × Unit) (Lp ((List DSpan) × (List DSpan) × Int × Int × Unit) Bool)) := fun (x7, x8, x9, x10, x11, x12, x13, x14, _) =>
  bif decide (x13 < x12) then
    chk (inb x13 (List.length x11)) <|
    bif decide (x14.1 ≤ (((List.getD x11 ((Int.toNat x13)) ((0, 0, ()))).2).1)) then
      bif decide (((List.getD x11 ((Int.toNat x13)) ((0, 0, ()))).1) ≤ x14.2.1) then
        some (.ret (.ret false))
      else
        some (.again (x7, x8, x9, x10, x11, x12, w64 (x13 + 1), x14, ()))
    else
      some (.again (x7, x8, x9, x10, x11, x12, w64 (x13 + 1), x14, ()))
  else
    some (.exit (x7, x8, x9, x10, x11, x12, x13, x14, ()))
noncomputable def F.impl_SetApart.s4 : ((List DSpan) × (List DSpan) × Int × Int × Unit) → Option (Lp ((List DSpan) × (List DSpan) × Int × Int × Unit) Bool) := fun (x3, x4, x5, x6, _) =>
  bif decide (x6 < x5) then
    chk (inb x6 (List.length x4)) <|
    afterO (loopO F.impl_SetApart.s7 (x3, x4, x5, x6, x3, len x3, 0, List.getD x4 ((Int.toNat x6)) ((0, 0, ())), ())) fun (x15, x16, x17, x18, x19, x20, x21, x22, _) =>
    some (.again (x15, x16, x17, w64 (x18 + 1), ()))
  else
    some (.exit (x3, x4, x5, x6, ()))
noncomputable def F.impl_SetApart (a0 : List DSpan) (a1 : List DSpan) : Option Bool :=
  (F.impl_SetOk a0).bind fun r1 =>
  bif !r1 then
    some false
  else
  (F.impl_SetOk a1).bind fun r2 =>
  bif !r2 then
    some false
  else
  afterO (loopO F.impl_SetApart.s4 (a1, a0, len a0, 0, ())) fun (x23, x24, x25, x26, _) =>
  some true
noncomputable def C.impl_SetApart : Con := ⟨[.r (.val (.sl false 97 y1)), .r (.val (.sl false 97 y1))], .one .bool, fun x => F.impl_SetApart x.1 x.2.1⟩
def L.impl_SetApart : Loops := lookL [(7, ⟨[.pat 1 (.val (.sl false 97 y1)), .pat 17 (.val (.sl false 97 y1)), .pat 18 (.val (.int .i64)), .pat 19 (.val (.int .i64)), .pat 23 (.val (.sl false 97 y1)), .pat 24 (.val (.int .i64)), .pat 25 (.val (.int .i64)), .root 6 true y1 [6]], 2⟩), (4, ⟨[.pat 1 (.val (.sl false 97 y1)), .pat 17 (.val (.sl false 97 y1)), .pat 18 (.val (.int .i64)), .pat 19 (.val (.int .i64))], 0⟩)]
noncomputable def K.impl_SetApart : Cons := lookK [(133, [], C.impl_SetOk)]
theorem run.impl_SetApart : ∀ x, runF tb K.impl_SetApart L.impl_SetApart [] Try.f170 C.impl_SetApart x = C.impl_SetApart.fn x := fun x => by kernel_rfl

/-! ### impl.apart: function 145 -/
noncomputable def F.impl_apart.s7 : ((List DEntry) × (List DEntry) × Int × Int × (List DEntry) × Int × Int × DEntry × Unit) → Option (Lp ((List DEntry) × (List DEntry) × Int × Int × (List DEntry) × Int × Int × DEntry × Unit) (Lp ((List DEntry) × (List DEntry) × Int × Int × Unit) Bool)) := fun (x6, x7, x8, x9, x10, x11, x12, x13, _) =>
  bif decide (x12 < x11) then
    chk (inb x12 (List.length x10)) <|
    (F.impl_SetApart x13.2.2.1 ((((List.getD x10 ((Int.toNat x12)) ((0, 0, ([] : List DSpan), (0, 0, 0, 0, ([] : List Int), ([] : List Int), ([] : List (List Int)), ()), ()))).2).2).1)).bind fun r14 =>
    bif !r14 then
      some (.ret (.ret false))
    else
      some (.again (x6, x7, x8, x9, x10, x11, w64 (x12 + 1), x13, ()))
  else
    some (.exit (x6, x7, x8, x9, x10, x11, x12, x13, ()))
noncomputable def F.impl_apart.s2 : ((List DEntry) × (List DEntry) × Int × Int × Unit) → Option (Lp ((List DEntry) × (List DEntry) × Int × Int × Unit) Bool) := fun (x1, x2, x3, x4, _) =>
  bif decide (x4 < x3) then
    chk (inb x4 (List.length x2)) <|
    (F.impl_EntryOk (List.getD x2 ((Int.toNat x4)) ((0, 0, ([] : List DSpan), (0, 0, 0, 0, ([] : List Int), ([] : List Int), ([] : List (List Int)), ()), ())))).bind fun r5 =>
    bif !r5 then
      some (.ret false)
    else
    chk (cutOk 0 x4 (List.length x1)) <|
    afterO (loopO F.impl_apart.s7 (x1, x2, x3, x4, List.take ((Int.toNat x4) - 0) (List.drop 0 x1), len (List.take ((Int.toNat x4) - 0) (List.drop 0 x1)), 0, List.getD x2 ((Int.toNat x4)) ((0, 0, ([] : List DSpan), (0, 0, 0, 0, ([] : List Int), ([] : List Int), ([] : List (List Int)), ()), ())), ())) fun (x15, x16, x17, x18, x19, x20, x21, x22, _) =>
    some (.again (x15, x16, x17, w64 (x18 + 1), ()))
  else
    some (.exit (x1, x2, x3, x4, ()))
noncomputable def F.impl_apart (a0 : List DEntry) : Option Bool :=
  afterO (loopO F.impl_apart.s2 (a0, a0, len a0, 0, ())) fun (x23, x24, x25, x26, _) =>
  some true
noncomputable def C.impl_apart : Con := ⟨[.r (.val (.sl false 56 y12))], .one .bool, fun x => F.impl_apart x.1⟩
def L.impl_apart : Loops := lookL [(7, ⟨[.pat 0 (.val (.sl false 56 y12)), .pat 7 (.val (.sl false 56 y12)), .pat 8 (.val (.int .i64)), .pat 9 (.val (.int .i64)), .pat 19 (.val (.sl false 56 y12)), .pat 20 (.val (.int .i64)), .pat 21 (.val (.int .i64)), .root 4 true y12 [4]], 2⟩), (2, ⟨[.pat 0 (.val (.sl false 56 y12)), .pat 7 (.val (.sl false 56 y12)), .pat 8 (.val (.int .i64)), .pat 9 (.val (.int .i64))], 0⟩)]
noncomputable def K.impl_apart : Cons := lookK [(169, [], C.impl_EntryOk), (170, [], C.impl_SetApart)]
theorem run.impl_apart : ∀ x, runF tb K.impl_apart L.impl_apart [] Try.f145 C.impl_apart x = C.impl_apart.fn x := fun x => by kernel_rfl

/-! ### impl.RowOk: function 92 -/
noncomputable def F.impl_RowOk (a0 : DRow) : Option Bool :=
  bif decide ((len a0.1) ≤ 24) then
    (F.impl_apart a0.1).bind fun r1 =>
    some r1
  else
    some false
noncomputable def C.impl_RowOk : Con := ⟨[.r (.val (.cons (.sl false 56 y12) .nil))], .one .bool, fun x => F.impl_RowOk x.1⟩
def L.impl_RowOk : Loops := fun _ => none
noncomputable def K.impl_RowOk : Cons := lookK [(145, [], C.impl_apart)]
theorem run.impl_RowOk : ∀ x, runF tb K.impl_RowOk L.impl_RowOk [] Try.f92 C.impl_RowOk x = C.impl_RowOk.fn x := fun x => by kernel_rfl

/-! ### impl.RowPop: function 30 -/
noncomputable def F.impl_RowPop (a0 : DRow) : Option (DEntry × DRow × Bool) :=
  (F.impl_copyRow a0).bind fun r1 =>
  (F.impl_RowOk a0).bind fun r2 =>
  bif !r2 then
    some ((0, 0, ([] : List DSpan), (0, 0, 0, 0, ([] : List Int), ([] : List Int), ([] : List (List Int)), ()), ()), r1, false)
  else
  bif (len a0.1) == 0 then
    some ((0, 0, ([] : List DSpan), (0, 0, 0, 0, ([] : List Int), ([] : List Int), ([] : List (List Int)), ()), ()), r1, false)
  else
  chk (inb 0 (List.length r1.1)) <|
  chk (cutOk 1 (len r1.1) (List.length r1.1)) <|
  some (List.getD r1.1 0 ((0, 0, ([] : List DSpan), (0, 0, 0, 0, ([] : List Int), ([] : List Int), ([] : List (List Int)), ()), ())), (List.take ((Int.toNat (len r1.1)) - 1) (List.drop 1 r1.1), ()), true)
noncomputable def C.impl_RowPop : Con := ⟨[.r (.val (.cons (.sl false 56 y12) .nil))], .many [y11, (.cons (.sl true 56 y11) .nil), .bool], fun x => F.impl_RowPop x.1⟩
def L.impl_RowPop : Loops := lookL [(2000004, ⟨[.pat 26 .nil], 8⟩)]
noncomputable def K.impl_RowPop : Cons := lookK [(91, [], C.impl_copyRow), (92, [], C.impl_RowOk)]
theorem run.impl_RowPop : ∀ x, runF tb K.impl_RowPop L.impl_RowPop [] Try.f30 C.impl_RowPop x = C.impl_RowPop.fn x := fun x => by kernel_rfl

/-! ### laws.eqSpan: function 146 -/
noncomputable def F.laws_eqSpan (a0 : DSpan) (a1 : DSpan) : Option Bool :=
  bif a0.1 != a1.1 then
    some false
  else
  bif a0.2.1 != a1.2.1 then
    some false
  else
    some true
noncomputable def C.laws_eqSpan : Con := ⟨[.r (.val y1), .r (.val y1)], .one .bool, fun x => F.laws_eqSpan x.1 x.2.1⟩
def L.laws_eqSpan : Loops := fun _ => none
noncomputable def K.laws_eqSpan : Cons := lookK []
theorem run.laws_eqSpan : ∀ x, runF tb K.laws_eqSpan L.laws_eqSpan [] Try.f146 C.laws_eqSpan x = C.laws_eqSpan.fn x := fun x => by kernel_rfl

/-! ### laws.eqSpanS: function 93 -/
noncomputable def F.laws_eqSpanS.s4 : ((List DSpan) × (List DSpan) × Int × Unit) → Option (Lp ((List DSpan) × (List DSpan) × Int × Unit) Bool) := fun (x1, x2, x3, _) =>
  bif decide (x3 < (len x1)) then
    chk (inb x3 (List.length x1)) <|
    chk (inb x3 (List.length x2)) <|
    (F.laws_eqSpan (List.getD x1 ((Int.toNat x3)) ((0, 0, ()))) (List.getD x2 ((Int.toNat x3)) ((0, 0, ())))).bind fun r4 =>
    bif !r4 then
      some (.ret false)
    else
      some (.again (x1, x2, w64 (x3 + 1), ()))
  else
    some (.exit (x1, x2, x3, ()))
noncomputable def F.laws_eqSpanS (a0 : List DSpan) (a1 : List DSpan) : Option Bool :=
  bif (len a0) != (len a1) then
    some false
  else
  afterO (loopO F.laws_eqSpanS.s4 (a0, a1, 0, ())) fun (x5, x6, x7, _) =>
  some true
noncomputable def C.laws_eqSpanS : Con := ⟨[.r (.val (.sl false 97 y1)), .r (.val (.sl false 97 y1))], .one .bool, fun x => F.laws_eqSpanS x.1 x.2.1⟩
def L.laws_eqSpanS : Loops := lookL [(4, ⟨[.pat 0 (.val (.sl false 97 y1)), .pat 1 (.val (.sl false 97 y1)), .pat 5 (.val (.int .i64))], 0⟩)]
noncomputable def K.laws_eqSpanS : Cons := lookK [(146, [], C.laws_eqSpan)]
theorem run.laws_eqSpanS : ∀ x, runF tb K.laws_eqSpanS L.laws_eqSpanS [] Try.f93 C.laws_eqSpanS x = C.laws_eqSpanS.fn x := fun x => by kernel_rfl

/-! ### laws.eqIntS: function 147 -/
noncomputable def F.laws_eqIntS.s4 : ((List Int) × (List Int) × Int × Unit) → Option (Lp ((List Int) × (List Int) × Int × Unit) Bool) := fun (x1, x2, x3, _) =>
  bif decide (x3 < (len x1)) then
    chk (inb x3 (List.length x1)) <|
    chk (inb x3 (List.length x2)) <|
    bif (List.getD x1 ((Int.toNat x3)) 0) != (List.getD x2 ((Int.toNat x3)) 0) then
      some (.ret false)
    else
      some (.again (x1, x2, w64 (x3 + 1), ()))
  else
    some (.exit (x1, x2, x3, ()))
noncomputable def F.laws_eqIntS (a0 : List Int) (a1 : List Int) : Option Bool :=
  bif (len a0) != (len a1) then
    some false
  else
  afterO (loopO F.laws_eqIntS.s4 (a0, a1, 0, ())) fun (x4, x5, x6, _) =>
  some true
noncomputable def C.laws_eqIntS : Con := ⟨[.r (.val (.sl false 3 (.int .i64))), .r (.val (.sl false 3 (.int .i64)))], .one .bool, fun x => F.laws_eqIntS x.1 x.2.1⟩
def L.laws_eqIntS : Loops := lookL [(4, ⟨[.pat 0 (.val (.sl false 3 (.int .i64))), .pat 1 (.val (.sl false 3 (.int .i64))), .pat 5 (.val (.int .i64))], 0⟩)]
noncomputable def K.laws_eqIntS : Cons := lookK []
theorem run.laws_eqIntS : ∀ x, runF tb K.laws_eqIntS L.laws_eqIntS [] Try.f147 C.laws_eqIntS x = C.laws_eqIntS.fn x := fun x => by kernel_rfl

/-! ### laws.eqIntSS: function 148 -/
noncomputable def F.laws_eqIntSS.s4 : ((List (List Int)) × (List (List Int)) × Int × Unit) → Option (Lp ((List (List Int)) × (List (List Int)) × Int × Unit) Bool) := fun (x1, x2, x3, _) =>
  bif decide (x3 < (len x1)) then
    chk (inb x3 (List.length x1)) <|
    chk (inb x3 (List.length x2)) <|
    (F.laws_eqIntS (List.getD x1 ((Int.toNat x3)) (([] : List Int))) (List.getD x2 ((Int.toNat x3)) (([] : List Int)))).bind fun r4 =>
    bif !r4 then
      some (.ret false)
    else
      some (.again (x1, x2, w64 (x3 + 1), ()))
  else
    some (.exit (x1, x2, x3, ()))
noncomputable def F.laws_eqIntSS (a0 : List (List Int)) (a1 : List (List Int)) : Option Bool :=
  bif (len a0) != (len a1) then
    some false
  else
  afterO (loopO F.laws_eqIntSS.s4 (a0, a1, 0, ())) fun (x5, x6, x7, _) =>
  some true
noncomputable def C.laws_eqIntSS : Con := ⟨[.r (.val (.sl false 29 (.sl false 3 (.int .i64)))), .r (.val (.sl false 29 (.sl false 3 (.int .i64))))], .one .bool, fun x => F.laws_eqIntSS x.1 x.2.1⟩
def L.laws_eqIntSS : Loops := lookL [(4, ⟨[.pat 0 (.val (.sl false 29 (.sl false 3 (.int .i64)))), .pat 1 (.val (.sl false 29 (.sl false 3 (.int .i64)))), .pat 5 (.val (.int .i64))], 0⟩)]
noncomputable def K.laws_eqIntSS : Cons := lookK [(147, [], C.laws_eqIntS)]
theorem run.laws_eqIntSS : ∀ x, runF tb K.laws_eqIntSS L.laws_eqIntSS [] Try.f148 C.laws_eqIntSS x = C.laws_eqIntSS.fn x := fun x => by kernel_rfl

/-! ### laws.eqSketch: function 94 -/
noncomputable def F.laws_eqSketch (a0 : DSketch) (a1 : DSketch) : Option Bool :=
  bif a0.1 != a1.1 then
    some false
  else
  bif a0.2.1 != a1.2.1 then
    some false
  else
  bif a0.2.2.1 != a1.2.2.1 then
    some false
  else
  bif a0.2.2.2.1 != a1.2.2.2.1 then
    some false
  else
  (F.laws_eqIntS a0.2.2.2.2.1 a1.2.2.2.2.1).bind fun r1 =>
  bif !r1 then
    some false
  else
  (F.laws_eqIntS a0.2.2.2.2.2.1 a1.2.2.2.2.2.1).bind fun r2 =>
  bif !r2 then
    some false
  else
  (F.laws_eqIntSS a0.2.2.2.2.2.2.1 a1.2.2.2.2.2.2.1).bind fun r3 =>
  bif !r3 then
    some false
  else
    some true
noncomputable def C.laws_eqSketch : Con := ⟨[.r (.val y2), .r (.val y2)], .one .bool, fun x => F.laws_eqSketch x.1 x.2.1⟩
def L.laws_eqSketch : Loops := fun _ => none
noncomputable def K.laws_eqSketch : Cons := lookK [(147, [], C.laws_eqIntS), (148, [], C.laws_eqIntSS)]
theorem run.laws_eqSketch : ∀ x, runF tb K.laws_eqSketch L.laws_eqSketch [] Try.f94 C.laws_eqSketch x = C.laws_eqSketch.fn x := fun x => by kernel_rfl

/-! ### laws.eqEntry: function 31 -/
noncomputable def F.laws_eqEntry (a0 : DEntry) (a1 : DEntry) : Option Bool :=
  bif a0.1 != a1.1 then
    some false
  else
  bif a0.2.1 != a1.2.1 then
    some false
  else
  (F.laws_eqSpanS a0.2.2.1 a1.2.2.1).bind fun r1 =>
  bif !r1 then
    some false
  else
  (F.laws_eqSketch a0.2.2.2.1 a1.2.2.2.1).bind fun r2 =>
  bif !r2 then
    some false
  else
    some true
noncomputable def C.laws_eqEntry : Con := ⟨[.r (.val y12), .r (.val y12)], .one .bool, fun x => F.laws_eqEntry x.1 x.2.1⟩
def L.laws_eqEntry : Loops := fun _ => none
noncomputable def K.laws_eqEntry : Cons := lookK [(93, [], C.laws_eqSpanS), (94, [], C.laws_eqSketch)]
theorem run.laws_eqEntry : ∀ x, runF tb K.laws_eqEntry L.laws_eqEntry [] Try.f31 C.laws_eqEntry x = C.laws_eqEntry.fn x := fun x => by kernel_rfl

/-! ### laws.eqEntryS: function 55 -/
noncomputable def F.laws_eqEntryS.s4 : ((List DEntry) × (List DEntry) × Int × Unit) → Option (Lp ((List DEntry) × (List DEntry) × Int × Unit) Bool) := fun (x1, x2, x3, _) =>
  bif decide (x3 < (len x1)) then
    chk (inb x3 (List.length x1)) <|
    chk (inb x3 (List.length x2)) <|
    (F.laws_eqEntry (List.getD x1 ((Int.toNat x3)) ((0, 0, ([] : List DSpan), (0, 0, 0, 0, ([] : List Int), ([] : List Int), ([] : List (List Int)), ()), ()))) (List.getD x2 ((Int.toNat x3)) ((0, 0, ([] : List DSpan), (0, 0, 0, 0, ([] : List Int), ([] : List Int), ([] : List (List Int)), ()), ())))).bind fun r4 =>
    bif !r4 then
      some (.ret false)
    else
      some (.again (x1, x2, w64 (x3 + 1), ()))
  else
    some (.exit (x1, x2, x3, ()))
noncomputable def F.laws_eqEntryS (a0 : List DEntry) (a1 : List DEntry) : Option Bool :=
  bif (len a0) != (len a1) then
    some false
  else
  afterO (loopO F.laws_eqEntryS.s4 (a0, a1, 0, ())) fun (x5, x6, x7, _) =>
  some true
noncomputable def C.laws_eqEntryS : Con := ⟨[.r (.val (.sl false 56 y12)), .r (.val (.sl false 56 y12))], .one .bool, fun x => F.laws_eqEntryS x.1 x.2.1⟩
def L.laws_eqEntryS : Loops := lookL [(4, ⟨[.pat 0 (.val (.sl false 56 y12)), .pat 1 (.val (.sl false 56 y12)), .pat 5 (.val (.int .i64))], 0⟩)]
noncomputable def K.laws_eqEntryS : Cons := lookK [(31, [], C.laws_eqEntry)]
theorem run.laws_eqEntryS : ∀ x, runF tb K.laws_eqEntryS L.laws_eqEntryS [] Try.f55 C.laws_eqEntryS x = C.laws_eqEntryS.fn x := fun x => by kernel_rfl

/-! ### laws.eqRow: function 32 -/
noncomputable def F.laws_eqRow (a0 : DRow) (a1 : DRow) : Option Bool :=
  (F.laws_eqEntryS a0.1 a1.1).bind fun r1 =>
  bif !r1 then
    some false
  else
    some true
noncomputable def C.laws_eqRow : Con := ⟨[.r (.val (.cons (.sl false 56 y12) .nil)), .r (.val (.cons (.sl false 56 y12) .nil))], .one .bool, fun x => F.laws_eqRow x.1 x.2.1⟩
def L.laws_eqRow : Loops := fun _ => none
noncomputable def K.laws_eqRow : Cons := lookK [(55, [], C.laws_eqEntryS)]
theorem run.laws_eqRow : ∀ x, runF tb K.laws_eqRow L.laws_eqRow [] Try.f32 C.laws_eqRow x = C.laws_eqRow.fn x := fun x => by kernel_rfl

/-! ### laws.markSpanS: function 95 -/
noncomputable def F.laws_markSpanS.s2 : (Int × Int × (List DSpan) × Unit) → Option (Lp (Int × Int × (List DSpan) × Unit) (Int × (List DSpan))) := fun (x1, x2, x3, _) =>
  bif decide (x2 < (len x3)) then
    chk (inb x2 (List.length x3)) <|
    chk (inb x2 (List.length (List.set x3 ((Int.toNat x2)) ((x1, (List.getD x3 ((Int.toNat x2)) ((0, 0, ()))).2))))) <|
    (some (List.set (List.set x3 ((Int.toNat x2)) ((x1, (List.getD x3 ((Int.toNat x2)) ((0, 0, ()))).2))) ((Int.toNat x2)) (((List.getD (List.set x3 ((Int.toNat x2)) ((x1, (List.getD x3 ((Int.toNat x2)) ((0, 0, ()))).2))) ((Int.toNat x2)) ((0, 0, ()))).1, w64 (x1 + 1), ((List.getD (List.set x3 ((Int.toNat x2)) ((x1, (List.getD x3 ((Int.toNat x2)) ((0, 0, ()))).2))) ((Int.toNat x2)) ((0, 0, ()))).2).2)))).bind fun r4 =>
    some (.again (w64 ((w64 (x1 + 1)) + 1), w64 (x2 + 1), r4, ()))
  else
    some (.exit (x1, x2, x3, ()))
noncomputable def F.laws_markSpanS (a0 : List DSpan) (a1 : Int) : Option (Int × (List DSpan)) :=
  afterO (loopO F.laws_markSpanS.s2 (a1, 0, a0, ())) fun (x5, x6, x7, _) =>
  some (x5, x7)
noncomputable def C.laws_markSpanS : Con := ⟨[.c (.sl true 97 y1), .r (.val (.int .i64))], .one (.int .i64), fun x => F.laws_markSpanS x.1 x.2.1⟩
def L.laws_markSpanS : Loops := lookL [(2, ⟨[.pat 1 (.val (.int .i64)), .pat 5 (.val (.int .i64)), .root 0 false (.sl true 97 y1) [0]], 0⟩)]
noncomputable def K.laws_markSpanS : Cons := lookK []
theorem run.laws_markSpanS : ∀ x, runF tb K.laws_markSpanS L.laws_markSpanS [0] Try.f95 C.laws_markSpanS x = C.laws_markSpanS.fn x := fun x => by kernel_rfl

/-! ### laws.markIntS: function 123 -/
noncomputable def F.laws_markIntS.s2 : (Int × Int × (List Int) × Unit) → Option (Lp (Int × Int × (List Int) × Unit) (Int × (List Int))) := fun (x1, x2, x3, _) =>
  bif decide (x2 < (len x3)) then
    chk (inb x2 (List.length x3)) <|
    some (.again (w64 (x1 + 1), w64 (x2 + 1), List.set x3 ((Int.toNat x2)) x1, ()))
  else
    some (.exit (x1, x2, x3, ()))
noncomputable def F.laws_markIntS (a0 : List Int) (a1 : Int) : Option (Int × (List Int)) :=
  afterO (loopO F.laws_markIntS.s2 (a1, 0, a0, ())) fun (x4, x5, x6, _) =>
  some (x4, x6)
noncomputable def C.laws_markIntS : Con := ⟨[.c (.sl true 3 (.int .i64)), .r (.val (.int .i64))], .one (.int .i64), fun x => F.laws_markIntS x.1 x.2.1⟩
def L.laws_markIntS : Loops := lookL [(2, ⟨[.pat 1 (.val (.int .i64)), .pat 5 (.val (.int .i64)), .root 0 false (.sl true 3 (.int .i64)) [0]], 0⟩)]
noncomputable def K.laws_markIntS : Cons := lookK []
theorem run.laws_markIntS : ∀ x, runF tb K.laws_markIntS L.laws_markIntS [0] Try.f123 C.laws_markIntS x = C.laws_markIntS.fn x := fun x => by kernel_rfl

/-! ### laws.markIntSS: function 124 -/
noncomputable def F.laws_markIntSS.s2 : (Int × Int × (List (List Int)) × Unit) → Option (Lp (Int × Int × (List (List Int)) × Unit) (Int × (List (List Int)))) := fun (x1, x2, x3, _) =>
  bif decide (x2 < (len x3)) then
    chk (inb x2 (List.length x3)) <|
    (F.laws_markIntS (List.getD x3 ((Int.toNat x2)) (([] : List Int))) x1).bind fun r4 =>
    some (.again (r4.1, w64 (x2 + 1), List.set x3 ((Int.toNat x2)) r4.2, ()))
  else
    some (.exit (x1, x2, x3, ()))
noncomputable def F.laws_markIntSS (a0 : List (List Int)) (a1 : Int) : Option (Int × (List (List Int))) :=
  afterO (loopO F.laws_markIntSS.s2 (a1, 0, a0, ())) fun (x5, x6, x7, _) =>
  some (x5, x7)
noncomputable def C.laws_markIntSS : Con := ⟨[.c (.sl true 29 (.sl true 3 (.int .i64))), .r (.val (.int .i64))], .one (.int .i64), fun x => F.laws_markIntSS x.1 x.2.1⟩
def L.laws_markIntSS : Loops := lookL [(2, ⟨[.pat 1 (.val (.int .i64)), .pat 5 (.val (.int .i64)), .root 0 false (.sl true 29 (.sl true 3 (.int .i64))) [0]], 0⟩)]
noncomputable def K.laws_markIntSS : Cons := lookK [(123, [], C.laws_markIntS)]
theorem run.laws_markIntSS : ∀ x, runF tb K.laws_markIntSS L.laws_markIntSS [0] Try.f124 C.laws_markIntSS x = C.laws_markIntSS.fn x := fun x => by kernel_rfl

/-! ### laws.markEntryS: function 56 -/
noncomputable def F.laws_markEntryS.s2 : (Int × Int × (List DEntry) × Unit) → Option (Lp (Int × Int × (List DEntry) × Unit) (Int × (List DEntry))) := fun (x1, x2, x3, _) =>
  bif decide (x2 < (len x3)) then
    chk (inb x2 (List.length x3)) <|
    (some (List.set x3 ((Int.toNat x2)) ((x1, (List.getD x3 ((Int.toNat x2)) ((0, 0, ([] : List DSpan), (0, 0, 0, 0, ([] : List Int), ([] : List Int), ([] : List (List Int)), ()), ()))).2)))).bind fun r4 =>
    chk (inb x2 (List.length r4)) <|
    (some (List.set r4 ((Int.toNat x2)) (((List.getD r4 ((Int.toNat x2)) ((0, 0, ([] : List DSpan), (0, 0, 0, 0, ([] : List Int), ([] : List Int), ([] : List (List Int)), ()), ()))).1, w64 (x1 + 1), ((List.getD r4 ((Int.toNat x2)) ((0, 0, ([] : List DSpan), (0, 0, 0, 0, ([] : List Int), ([] : List Int), ([] : List (List Int)), ()), ()))).2).2)))).bind fun r5 =>
    chk (inb x2 (List.length r5)) <|
    (F.laws_markSpanS ((((List.getD r5 ((Int.toNat x2)) ((0, 0, ([] : List DSpan), (0, 0, 0, 0, ([] : List Int), ([] : List Int), ([] : List (List Int)), ()), ()))).2).2).1) (w64 ((w64 (x1 + 1)) + 1))).bind fun r6 =>
    (some (List.set r5 ((Int.toNat x2)) (((List.getD r5 ((Int.toNat x2)) ((0, 0, ([] : List DSpan), (0, 0, 0, 0, ([] : List Int), ([] : List Int), ([] : List (List Int)), ()), ()))).1, ((List.getD r5 ((Int.toNat x2)) ((0, 0, ([] : List DSpan), (0, 0, 0, 0, ([] : List Int), ([] : List Int), ([] : List (List Int)), ()), ()))).2).1, r6.2, (((List.getD r5 ((Int.toNat x2)) ((0, 0, ([] : List DSpan), (0, 0, 0, 0, ([] : List Int), ([] : List Int), ([] : List (List Int)), ()), ()))).2).2).2)))).bind fun r7 =>
    chk (inb x2 (List.length r7)) <|
    (some (List.set r7 ((Int.toNat x2)) (((List.getD r7 ((Int.toNat x2)) ((0, 0, ([] : List DSpan), (0, 0, 0, 0, ([] : List Int), ([] : List Int), ([] : List (List Int)), ()), ()))).1, ((List.getD r7 ((Int.toNat x2)) ((0, 0, ([] : List DSpan), (0, 0, 0, 0, ([] : List Int), ([] : List Int), ([] : List (List Int)), ()), ()))).2).1, (((List.getD r7 ((Int.toNat x2)) ((0, 0, ([] : List DSpan), (0, 0, 0, 0, ([] : List Int), ([] : List Int), ([] : List (List Int)), ()), ()))).2).2).1, (r6.1, (((((List.getD r7 ((Int.toNat x2)) ((0, 0, ([] : List DSpan), (0, 0, 0, 0, ([] : List Int), ([] : List Int), ([] : List (List Int)), ()), ()))).2).2).2).1).2), ((((List.getD r7 ((Int.toNat x2)) ((0, 0, ([] : List DSpan), (0, 0, 0, 0, ([] : List Int), ([] : List Int), ([] : List (List Int)), ()), ()))).2).2).2).2)))).bind fun r8 =>
    chk (inb x2 (List.length r8)) <|
    (some (List.set r8 ((Int.toNat x2)) (((List.getD r8 ((Int.toNat x2)) ((0, 0, ([] : List DSpan), (0, 0, 0, 0, ([] : List Int), ([] : List Int), ([] : List (List Int)), ()), ()))).1, ((List.getD r8 ((Int.toNat x2)) ((0, 0, ([] : List DSpan), (0, 0, 0, 0, ([] : List Int), ([] : List Int), ([] : List (List Int)), ()), ()))).2).1, (((List.getD r8 ((Int.toNat x2)) ((0, 0, ([] : List DSpan), (0, 0, 0, 0, ([] : List Int), ([] : List Int), ([] : List (List Int)), ()), ()))).2).2).1, ((((((List.getD r8 ((Int.toNat x2)) ((0, 0, ([] : List DSpan), (0, 0, 0, 0, ([] : List Int), ([] : List Int), ([] : List (List Int)), ()), ()))).2).2).2).1).1, w64 (r6.1 + 1), ((((((List.getD r8 ((Int.toNat x2)) ((0, 0, ([] : List DSpan), (0, 0, 0, 0, ([] : List Int), ([] : List Int), ([] : List (List Int)), ()), ()))).2).2).2).1).2).2), ((((List.getD r8 ((Int.toNat x2)) ((0, 0, ([] : List DSpan), (0, 0, 0, 0, ([] : List Int), ([] : List Int), ([] : List (List Int)), ()), ()))).2).2).2).2)))).bind fun r9 =>
    chk (inb x2 (List.length r9)) <|
    (some (List.set r9 ((Int.toNat x2)) (((List.getD r9 ((Int.toNat x2)) ((0, 0, ([] : List DSpan), (0, 0, 0, 0, ([] : List Int), ([] : List Int), ([] : List (List Int)), ()), ()))).1, ((List.getD r9 ((Int.toNat x2)) ((0, 0, ([] : List DSpan), (0, 0, 0, 0, ([] : List Int), ([] : List Int), ([] : List (List Int)), ()), ()))).2).1, (((List.getD r9 ((Int.toNat x2)) ((0, 0, ([] : List DSpan), (0, 0, 0, 0, ([] : List Int), ([] : List Int), ([] : List (List Int)), ()), ()))).2).2).1, ((((((List.getD r9 ((Int.toNat x2)) ((0, 0, ([] : List DSpan), (0, 0, 0, 0, ([] : List Int), ([] : List Int), ([] : List (List Int)), ()), ()))).2).2).2).1).1, ((((((List.getD r9 ((Int.toNat x2)) ((0, 0, ([] : List DSpan), (0, 0, 0, 0, ([] : List Int), ([] : List Int), ([] : List (List Int)), ()), ()))).2).2).2).1).2).1, w64 ((w64 (r6.1 + 1)) + 1), (((((((List.getD r9 ((Int.toNat x2)) ((0, 0, ([] : List DSpan), (0, 0, 0, 0, ([] : List Int), ([] : List Int), ([] : List (List Int)), ()), ()))).2).2).2).1).2).2).2), ((((List.getD r9 ((Int.toNat x2)) ((0, 0, ([] : List DSpan), (0, 0, 0, 0, ([] : List Int), ([] : List Int), ([] : List (List Int)), ()), ()))).2).2).2).2)))).bind fun r10 =>
    chk (inb x2 (List.length r10)) <|
    (some (List.set r10 ((Int.toNat x2)) (((List.getD r10 ((Int.toNat x2)) ((0, 0, ([] : List DSpan), (0, 0, 0, 0, ([] : List Int), ([] : List Int), ([] : List (List Int)), ()), ()))).1, ((List.getD r10 ((Int.toNat x2)) ((0, 0, ([] : List DSpan), (0, 0, 0, 0, ([] : List Int), ([] : List Int), ([] : List (List Int)), ()), ()))).2).1, (((List.getD r10 ((Int.toNat x2)) ((0, 0, ([] : List DSpan), (0, 0, 0, 0, ([] : List Int), ([] : List Int), ([] : List (List Int)), ()), ()))).2).2).1, ((((((List.getD r10 ((Int.toNat x2)) ((0, 0, ([] : List DSpan), (0, 0, 0, 0, ([] : List Int), ([] : List Int), ([] : List (List Int)), ()), ()))).2).2).2).1).1, ((((((List.getD r10 ((Int.toNat x2)) ((0, 0, ([] : List DSpan), (0, 0, 0, 0, ([] : List Int), ([] : List Int), ([] : List (List Int)), ()), ()))).2).2).2).1).2).1, (((((((List.getD r10 ((Int.toNat x2)) ((0, 0, ([] : List DSpan), (0, 0, 0, 0, ([] : List Int), ([] : List Int), ([] : List (List Int)), ()), ()))).2).2).2).1).2).2).1, w64 ((w64 ((w64 (r6.1 + 1)) + 1)) + 1), ((((((((List.getD r10 ((Int.toNat x2)) ((0, 0, ([] : List DSpan), (0, 0, 0, 0, ([] : List Int), ([] : List Int), ([] : List (List Int)), ()), ()))).2).2).2).1).2).2).2).2), ((((List.getD r10 ((Int.toNat x2)) ((0, 0, ([] : List DSpan), (0, 0, 0, 0, ([] : List Int), ([] : List Int), ([] : List (List Int)), ()), ()))).2).2).2).2)))).bind fun r11 =>
    chk (inb x2 (List.length r11)) <|
    (F.laws_markIntS ((((((((((List.getD r11 ((Int.toNat x2)) ((0, 0, ([] : List DSpan), (0, 0, 0, 0, ([] : List Int), ([] : List Int), ([] : List (List Int)), ()), ()))).2).2).2).1).2).2).2).2).1) (w64 ((w64 ((w64 ((w64 (r6.1 + 1)) + 1)) + 1)) + 1))).bind fun r12 =>
    (some (List.set r11 ((Int.toNat x2)) (((List.getD r11 ((Int.toNat x2)) ((0, 0, ([] : List DSpan), (0, 0, 0, 0, ([] : List Int), ([] : List Int), ([] : List (List Int)), ()), ()))).1, ((List.getD r11 ((Int.toNat x2)) ((0, 0, ([] : List DSpan), (0, 0, 0, 0, ([] : List Int), ([] : List Int), ([] : List (List Int)), ()), ()))).2).1, (((List.getD r11 ((Int.toNat x2)) ((0, 0, ([] : List DSpan), (0, 0, 0, 0, ([] : List Int), ([] : List Int), ([] : List (List Int)), ()), ()))).2).2).1, ((((((List.getD r11 ((Int.toNat x2)) ((0, 0, ([] : List DSpan), (0, 0, 0, 0, ([] : List Int), ([] : List Int), ([] : List (List Int)), ()), ()))).2).2).2).1).1, ((((((List.getD r11 ((Int.toNat x2)) ((0, 0, ([] : List DSpan), (0, 0, 0, 0, ([] : List Int), ([] : List Int), ([] : List (List Int)), ()), ()))).2).2).2).1).2).1, (((((((List.getD r11 ((Int.toNat x2)) ((0, 0, ([] : List DSpan), (0, 0, 0, 0, ([] : List Int), ([] : List Int), ([] : List (List Int)), ()), ()))).2).2).2).1).2).2).1, ((((((((List.getD r11 ((Int.toNat x2)) ((0, 0, ([] : List DSpan), (0, 0, 0, 0, ([] : List Int), ([] : List Int), ([] : List (List Int)), ()), ()))).2).2).2).1).2).2).2).1, r12.2, (((((((((List.getD r11 ((Int.toNat x2)) ((0, 0, ([] : List DSpan), (0, 0, 0, 0, ([] : List Int), ([] : List Int), ([] : List (List Int)), ()), ()))).2).2).2).1).2).2).2).2).2), ((((List.getD r11 ((Int.toNat x2)) ((0, 0, ([] : List DSpan), (0, 0, 0, 0, ([] : List Int), ([] : List Int), ([] : List (List Int)), ()), ()))).2).2).2).2)))).bind fun r13 =>
    chk (inb x2 (List.length r13)) <|
    (F.laws_markIntS (((((((((((List.getD r13 ((Int.toNat x2)) ((0, 0, ([] : List DSpan), (0, 0, 0, 0, ([] : List Int), ([] : List Int), ([] : List (List Int)), ()), ()))).2).2).2).1).2).2).2).2).2).1) r12.1).bind fun r14 =>
    (some (List.set r13 ((Int.toNat x2)) (((List.getD r13 ((Int.toNat x2)) ((0, 0, ([] : List DSpan), (0, 0, 0, 0, ([] : List Int), ([] : List Int), ([] : List (List Int)), ()), ()))).1, ((List.getD r13 ((Int.toNat x2)) ((0, 0, ([] : List DSpan), (0, 0, 0, 0, ([] : List Int), ([] : List Int), ([] : List (List Int)), ()), ()))).2).1, (((List.getD r13 ((Int.toNat x2)) ((0, 0, ([] : List DSpan), (0, 0, 0, 0, ([] : List Int), ([] : List Int), ([] : List (List Int)), ()), ()))).2).2).1, ((((((List.getD r13 ((Int.toNat x2)) ((0, 0, ([] : List DSpan), (0, 0, 0, 0, ([] : List Int), ([] : List Int), ([] : List (List Int)), ()), ()))).2).2).2).1).1, ((((((List.getD r13 ((Int.toNat x2)) ((0, 0, ([] : List DSpan), (0, 0, 0, 0, ([] : List Int), ([] : List Int), ([] : List (List Int)), ()), ()))).2).2).2).1).2).1, (((((((List.getD r13 ((Int.toNat x2)) ((0, 0, ([] : List DSpan), (0, 0, 0, 0, ([] : List Int), ([] : List Int), ([] : List (List Int)), ()), ()))).2).2).2).1).2).2).1, ((((((((List.getD r13 ((Int.toNat x2)) ((0, 0, ([] : List DSpan), (0, 0, 0, 0, ([] : List Int), ([] : List Int), ([] : List (List Int)), ()), ()))).2).2).2).1).2).2).2).1, (((((((((List.getD r13 ((Int.toNat x2)) ((0, 0, ([] : List DSpan), (0, 0, 0, 0, ([] : List Int), ([] : List Int), ([] : List (List Int)), ()), ()))).2).2).2).1).2).2).2).2).1, r14.2, ((((((((((List.getD r13 ((Int.toNat x2)) ((0, 0, ([] : List DSpan), (0, 0, 0, 0, ([] : List Int), ([] : List Int), ([] : List (List Int)), ()), ()))).2).2).2).1).2).2).2).2).2).2), ((((List.getD r13 ((Int.toNat x2)) ((0, 0, ([] : List DSpan), (0, 0, 0, 0, ([] : List Int), ([] : List Int), ([] : List (List Int)), ()), ()))).2).2).2).2)))).bind fun r15 =>
    chk (inb x2 (List.length r15)) <|
    (F.laws_markIntSS ((((((((((((List.getD r15 ((Int.toNat x2)) ((0, 0, ([] : List DSpan), (0, 0, 0, 0, ([] : List Int), ([] : List Int), ([] : List (List Int)), ()), ()))).2).2).2).1).2).2).2).2).2).2).1) r14.1).bind fun r16 =>
    (some (List.set r15 ((Int.toNat x2)) (((List.getD r15 ((Int.toNat x2)) ((0, 0, ([] : List DSpan), (0, 0, 0, 0, ([] : List Int), ([] : List Int), ([] : List (List Int)), ()), ()))).1, ((List.getD r15 ((Int.toNat x2)) ((0, 0, ([] : List DSpan), (0, 0, 0, 0, ([] : List Int), ([] : List Int), ([] : List (List Int)), ()), ()))).2).1, (((List.getD r15 ((Int.toNat x2)) ((0, 0, ([] : List DSpan), (0, 0, 0, 0, ([] : List Int), ([] : List Int), ([] : List (List Int)), ()), ()))).2).2).1, ((((((List.getD r15 ((Int.toNat x2)) ((0, 0, ([] : List DSpan), (0, 0, 0, 0, ([] : List Int), ([] : List Int), ([] : List (List Int)), ()), ()))).2).2).2).1).1, ((((((List.getD r15 ((Int.toNat x2)) ((0, 0, ([] : List DSpan), (0, 0, 0, 0, ([] : List Int), ([] : List Int), ([] : List (List Int)), ()), ()))).2).2).2).1).2).1, (((((((List.getD r15 ((Int.toNat x2)) ((0, 0, ([] : List DSpan), (0, 0, 0, 0, ([] : List Int), ([] : List Int), ([] : List (List Int)), ()), ()))).2).2).2).1).2).2).1, ((((((((List.getD r15 ((Int.toNat x2)) ((0, 0, ([] : List DSpan), (0, 0, 0, 0, ([] : List Int), ([] : List Int), ([] : List (List Int)), ()), ()))).2).2).2).1).2).2).2).1, (((((((((List.getD r15 ((Int.toNat x2)) ((0, 0, ([] : List DSpan), (0, 0, 0, 0, ([] : List Int), ([] : List Int), ([] : List (List Int)), ()), ()))).2).2).2).1).2).2).2).2).1, ((((((((((List.getD r15 ((Int.toNat x2)) ((0, 0, ([] : List DSpan), (0, 0, 0, 0, ([] : List Int), ([] : List Int), ([] : List (List Int)), ()), ()))).2).2).2).1).2).2).2).2).2).1, r16.2, (((((((((((List.getD r15 ((Int.toNat x2)) ((0, 0, ([] : List DSpan), (0, 0, 0, 0, ([] : List Int), ([] : List Int), ([] : List (List Int)), ()), ()))).2).2).2).1).2).2).2).2).2).2).2), ((((List.getD r15 ((Int.toNat x2)) ((0, 0, ([] : List DSpan), (0, 0, 0, 0, ([] : List Int), ([] : List Int), ([] : List (List Int)), ()), ()))).2).2).2).2)))).bind fun r17 =>
    some (.again (r16.1, w64 (x2 + 1), r17, ()))
  else
    some (.exit (x1, x2, x3, ()))
noncomputable def F.laws_markEntryS (a0 : List DEntry) (a1 : Int) : Option (Int × (List DEntry)) :=
  afterO (loopO F.laws_markEntryS.s2 (a1, 0, a0, ())) fun (x18, x19, x20, _) =>
  some (x18, x20)
noncomputable def C.laws_markEntryS : Con := ⟨[.c (.sl true 56 y11), .r (.val (.int .i64))], .one (.int .i64), fun x => F.laws_markEntryS x.1 x.2.1⟩
def L.laws_markEntryS : Loops := lookL [(2, ⟨[.pat 1 (.val (.int .i64)), .pat 5 (.val (.int .i64)), .root 0 false (.sl true 56 y11) [0]], 0⟩)]
noncomputable def K.laws_markEntryS : Cons := lookK [(95, [], C.laws_markSpanS), (123, [], C.laws_markIntS), (124, [], C.laws_markIntSS)]
theorem run.laws_markEntryS : ∀ x, runF tb K.laws_markEntryS L.laws_markEntryS [0] Try.f56 C.laws_markEntryS x = C.laws_markEntryS.fn x := fun x => by kernel_rfl

/-! ### laws.markRow: function 33 -/
noncomputable def F.laws_markRow (a0 : DRow) (a1 : Int) : Option (Int × DRow) :=
  (F.laws_markEntryS a0.1 a1).bind fun r1 =>
  some (r1.1, (r1.2, a0.2))
noncomputable def C.laws_markRow : Con := ⟨[.c (.cons (.sl true 56 y11) .nil), .r (.val (.int .i64))], .one (.int .i64), fun x => F.laws_markRow x.1 x.2.1⟩
def L.laws_markRow : Loops := fun _ => none
noncomputable def K.laws_markRow : Cons := lookK [(56, [], C.laws_markEntryS)]
theorem run.laws_markRow : ∀ x, runF tb K.laws_markRow L.laws_markRow [2] Try.f33 C.laws_markRow x = C.laws_markRow.fn x := fun x => by kernel_rfl

/-! ### laws.markSketch: function 96 -/
noncomputable def F.laws_markSketch (a0 : DSketch) (a1 : Int) : Option (Int × DSketch) :=
  (F.laws_markIntS a0.2.2.2.2.1 a1).bind fun r1 =>
  (F.laws_markIntS a0.2.2.2.2.2.1 r1.1).bind fun r2 =>
  (F.laws_markIntSS a0.2.2.2.2.2.2.1 r2.1).bind fun r3 =>
  some (r3.1, (a0.1, a0.2.1, a0.2.2.1, a0.2.2.2.1, r1.2, r2.2, r3.2, a0.2.2.2.2.2.2.2))
noncomputable def C.laws_markSketch : Con := ⟨[.c y5, .r (.val (.int .i64))], .one (.int .i64), fun x => F.laws_markSketch x.1 x.2.1⟩
def L.laws_markSketch : Loops := fun _ => none
noncomputable def K.laws_markSketch : Cons := lookK [(123, [], C.laws_markIntS), (124, [], C.laws_markIntSS)]
theorem run.laws_markSketch : ∀ x, runF tb K.laws_markSketch L.laws_markSketch [2] Try.f96 C.laws_markSketch x = C.laws_markSketch.fn x := fun x => by kernel_rfl

/-! ### laws.markEntry: function 34 -/
noncomputable def F.laws_markEntry (a0 : DEntry) (a1 : Int) : Option (Int × DEntry) :=
  (F.laws_markSpanS a0.2.2.1 a1).bind fun r1 =>
  (F.laws_markSketch a0.2.2.2.1 r1.1).bind fun r2 =>
  some (r2.1, (a0.1, a0.2.1, r1.2, r2.2, a0.2.2.2.2))
noncomputable def C.laws_markEntry : Con := ⟨[.c y11, .r (.val (.int .i64))], .one (.int .i64), fun x => F.laws_markEntry x.1 x.2.1⟩
def L.laws_markEntry : Loops := fun _ => none
noncomputable def K.laws_markEntry : Cons := lookK [(95, [], C.laws_markSpanS), (96, [], C.laws_markSketch)]
theorem run.laws_markEntry : ∀ x, runF tb K.laws_markEntry L.laws_markEntry [2] Try.f34 C.laws_markEntry x = C.laws_markEntry.fn x := fun x => by kernel_rfl

/-! ### laws.heldSpanS: function 97 -/
noncomputable def F.laws_heldSpanS.s2 : ((List DSpan) × Int × Int × Unit) → Option (Lp ((List DSpan) × Int × Int × Unit) Int) := fun (x1, x2, x3, _) =>
  bif decide (x3 < (len x1)) then
    chk (inb x3 (List.length x1)) <|
    bif ((List.getD x1 ((Int.toNat x3)) ((0, 0, ()))).1) != x2 then
      some (.ret (-1))
    else
    chk (inb x3 (List.length x1)) <|
    bif (((List.getD x1 ((Int.toNat x3)) ((0, 0, ()))).2).1) != (w64 (x2 + 1)) then
      some (.ret (-1))
    else
      some (.again (x1, w64 ((w64 (x2 + 1)) + 1), w64 (x3 + 1), ()))
  else
    some (.exit (x1, x2, x3, ()))
noncomputable def F.laws_heldSpanS (a0 : List DSpan) (a1 : Int) : Option Int :=
  afterO (loopO F.laws_heldSpanS.s2 (a0, a1, 0, ())) fun (x4, x5, x6, _) =>
  some x5
noncomputable def C.laws_heldSpanS : Con := ⟨[.r (.val (.sl false 97 y1)), .r (.val (.int .i64))], .one (.int .i64), fun x => F.laws_heldSpanS x.1 x.2.1⟩
def L.laws_heldSpanS : Loops := lookL [(2, ⟨[.pat 0 (.val (.sl false 97 y1)), .pat 1 (.val (.int .i64)), .pat 5 (.val (.int .i64))], 0⟩)]
noncomputable def K.laws_heldSpanS : Cons := lookK []
theorem run.laws_heldSpanS : ∀ x, runF tb K.laws_heldSpanS L.laws_heldSpanS [] Try.f97 C.laws_heldSpanS x = C.laws_heldSpanS.fn x := fun x => by kernel_rfl

/-! ### laws.heldIntS: function 125 -/
noncomputable def F.laws_heldIntS.s2 : ((List Int) × Int × Int × Unit) → Option (Lp ((List Int) × Int × Int × Unit) Int) := fun (x1, x2, x3, _) =>
  bif decide (x3 < (len x1)) then
    chk (inb x3 (List.length x1)) <|
    bif (List.getD x1 ((Int.toNat x3)) 0) != x2 then
      some (.ret (-1))
    else
      some (.again (x1, w64 (x2 + 1), w64 (x3 + 1), ()))
  else
    some (.exit (x1, x2, x3, ()))
noncomputable def F.laws_heldIntS (a0 : List Int) (a1 : Int) : Option Int :=
  afterO (loopO F.laws_heldIntS.s2 (a0, a1, 0, ())) fun (x4, x5, x6, _) =>
  some x5
noncomputable def C.laws_heldIntS : Con := ⟨[.r (.val (.sl false 3 (.int .i64))), .r (.val (.int .i64))], .one (.int .i64), fun x => F.laws_heldIntS x.1 x.2.1⟩
def L.laws_heldIntS : Loops := lookL [(2, ⟨[.pat 0 (.val (.sl false 3 (.int .i64))), .pat 1 (.val (.int .i64)), .pat 5 (.val (.int .i64))], 0⟩)]
noncomputable def K.laws_heldIntS : Cons := lookK []
theorem run.laws_heldIntS : ∀ x, runF tb K.laws_heldIntS L.laws_heldIntS [] Try.f125 C.laws_heldIntS x = C.laws_heldIntS.fn x := fun x => by kernel_rfl

/-! ### laws.heldIntSS: function 126 -/
noncomputable def F.laws_heldIntSS.s2 : ((List (List Int)) × Int × Int × Unit) → Option (Lp ((List (List Int)) × Int × Int × Unit) Int) := fun (x1, x2, x3, _) =>
  bif decide (x3 < (len x1)) then
    chk (inb x3 (List.length x1)) <|
    (F.laws_heldIntS (List.getD x1 ((Int.toNat x3)) (([] : List Int))) x2).bind fun r4 =>
    bif decide (r4 < 0) then
      some (.ret (-1))
    else
      some (.again (x1, r4, w64 (x3 + 1), ()))
  else
    some (.exit (x1, x2, x3, ()))
noncomputable def F.laws_heldIntSS (a0 : List (List Int)) (a1 : Int) : Option Int :=
  afterO (loopO F.laws_heldIntSS.s2 (a0, a1, 0, ())) fun (x5, x6, x7, _) =>
  some x6
noncomputable def C.laws_heldIntSS : Con := ⟨[.r (.val (.sl false 29 (.sl false 3 (.int .i64)))), .r (.val (.int .i64))], .one (.int .i64), fun x => F.laws_heldIntSS x.1 x.2.1⟩
def L.laws_heldIntSS : Loops := lookL [(2, ⟨[.pat 0 (.val (.sl false 29 (.sl false 3 (.int .i64)))), .pat 1 (.val (.int .i64)), .pat 5 (.val (.int .i64))], 0⟩)]
noncomputable def K.laws_heldIntSS : Cons := lookK [(125, [], C.laws_heldIntS)]
theorem run.laws_heldIntSS : ∀ x, runF tb K.laws_heldIntSS L.laws_heldIntSS [] Try.f126 C.laws_heldIntSS x = C.laws_heldIntSS.fn x := fun x => by kernel_rfl

/-! ### laws.heldSketch: function 98 -/
noncomputable def F.laws_heldSketch (a0 : DSketch) (a1 : Int) : Option Int :=
  (F.laws_heldIntS a0.2.2.2.2.1 a1).bind fun r1 =>
  bif decide (r1 < 0) then
    some (-1)
  else
  (F.laws_heldIntS a0.2.2.2.2.2.1 r1).bind fun r2 =>
  bif decide (r2 < 0) then
    some (-1)
  else
  (F.laws_heldIntSS a0.2.2.2.2.2.2.1 r2).bind fun r3 =>
  bif decide (r3 < 0) then
    some (-1)
  else
    some r3
noncomputable def C.laws_heldSketch : Con := ⟨[.r (.val y2), .r (.val (.int .i64))], .one (.int .i64), fun x => F.laws_heldSketch x.1 x.2.1⟩
def L.laws_heldSketch : Loops := fun _ => none
noncomputable def K.laws_heldSketch : Cons := lookK [(125, [], C.laws_heldIntS), (126, [], C.laws_heldIntSS)]
theorem run.laws_heldSketch : ∀ x, runF tb K.laws_heldSketch L.laws_heldSketch [] Try.f98 C.laws_heldSketch x = C.laws_heldSketch.fn x := fun x => by kernel_rfl

/-! ### laws.heldEntry: function 35 -/
noncomputable def F.laws_heldEntry (a0 : DEntry) (a1 : Int) : Option Int :=
  (F.laws_heldSpanS a0.2.2.1 a1).bind fun r1 =>
  bif decide (r1 < 0) then
    some (-1)
  else
  (F.laws_heldSketch a0.2.2.2.1 r1).bind fun r2 =>
  bif decide (r2 < 0) then
    some (-1)
  else
    some r2
noncomputable def C.laws_heldEntry : Con := ⟨[.r (.val y12), .r (.val (.int .i64))], .one (.int .i64), fun x => F.laws_heldEntry x.1 x.2.1⟩
def L.laws_heldEntry : Loops := fun _ => none
noncomputable def K.laws_heldEntry : Cons := lookK [(97, [], C.laws_heldSpanS), (98, [], C.laws_heldSketch)]
theorem run.laws_heldEntry : ∀ x, runF tb K.laws_heldEntry L.laws_heldEntry [] Try.f35 C.laws_heldEntry x = C.laws_heldEntry.fn x := fun x => by kernel_rfl

/-! ### laws.heldEntryS: function 57 -/
noncomputable def F.laws_heldEntryS.s2 : ((List DEntry) × Int × Int × Unit) → Option (Lp ((List DEntry) × Int × Int × Unit) Int) := fun (x1, x2, x3, _) =>
  bif decide (x3 < (len x1)) then
    chk (inb x3 (List.length x1)) <|
    bif ((List.getD x1 ((Int.toNat x3)) ((0, 0, ([] : List DSpan), (0, 0, 0, 0, ([] : List Int), ([] : List Int), ([] : List (List Int)), ()), ()))).1) != x2 then
      some (.ret (-1))
    else
    chk (inb x3 (List.length x1)) <|
    bif (((List.getD x1 ((Int.toNat x3)) ((0, 0, ([] : List DSpan), (0, 0, 0, 0, ([] : List Int), ([] : List Int), ([] : List (List Int)), ()), ()))).2).1) != (w64 (x2 + 1)) then
      some (.ret (-1))
    else
    chk (inb x3 (List.length x1)) <|
    (F.laws_heldSpanS ((((List.getD x1 ((Int.toNat x3)) ((0, 0, ([] : List DSpan), (0, 0, 0, 0, ([] : List Int), ([] : List Int), ([] : List (List Int)), ()), ()))).2).2).1) (w64 ((w64 (x2 + 1)) + 1))).bind fun r4 =>
    bif decide (r4 < 0) then
      some (.ret (-1))
    else
    chk (inb x3 (List.length x1)) <|
    bif ((((((List.getD x1 ((Int.toNat x3)) ((0, 0, ([] : List DSpan), (0, 0, 0, 0, ([] : List Int), ([] : List Int), ([] : List (List Int)), ()), ()))).2).2).2).1).1) != r4 then
      some (.ret (-1))
    else
    chk (inb x3 (List.length x1)) <|
    bif (((((((List.getD x1 ((Int.toNat x3)) ((0, 0, ([] : List DSpan), (0, 0, 0, 0, ([] : List Int), ([] : List Int), ([] : List (List Int)), ()), ()))).2).2).2).1).2).1) != (w64 (r4 + 1)) then
      some (.ret (-1))
    else
    chk (inb x3 (List.length x1)) <|
    bif ((((((((List.getD x1 ((Int.toNat x3)) ((0, 0, ([] : List DSpan), (0, 0, 0, 0, ([] : List Int), ([] : List Int), ([] : List (List Int)), ()), ()))).2).2).2).1).2).2).1) != (w64 ((w64 (r4 + 1)) + 1)) then
      some (.ret (-1))
    else
    chk (inb x3 (List.length x1)) <|
    bif (((((((((List.getD x1 ((Int.toNat x3)) ((0, 0, ([] : List DSpan), (0, 0, 0, 0, ([] : List Int), ([] : List Int), ([] : List (List Int)), ()), ()))).2).2).2).1).2).2).2).1) != (w64 ((w64 ((w64 (r4 + 1)) + 1)) + 1)) then
      some (.ret (-1))
    else
    chk (inb x3 (List.length x1)) <|
    (F.laws_heldIntS ((((((((((List.getD x1 ((Int.toNat x3)) ((0, 0, ([] : List DSpan), (0, 0, 0, 0, ([] : List Int), ([] : List Int), ([] : List (List Int)), ()), ()))).2).2).2).1).2).2).2).2).1) (w64 ((w64 ((w64 ((w64 (r4 + 1)) + 1)) + 1)) + 1))).bind fun r5 =>
    bif decide (r5 < 0) then
      some (.ret (-1))
    else
    chk (inb x3 (List.length x1)) <|
    (F.laws_heldIntS (((((((((((List.getD x1 ((Int.toNat x3)) ((0, 0, ([] : List DSpan), (0, 0, 0, 0, ([] : List Int), ([] : List Int), ([] : List (List Int)), ()), ()))).2).2).2).1).2).2).2).2).2).1) r5).bind fun r6 =>
    bif decide (r6 < 0) then
      some (.ret (-1))
    else
    chk (inb x3 (List.length x1)) <|
    (F.laws_heldIntSS ((((((((((((List.getD x1 ((Int.toNat x3)) ((0, 0, ([] : List DSpan), (0, 0, 0, 0, ([] : List Int), ([] : List Int), ([] : List (List Int)), ()), ()))).2).2).2).1).2).2).2).2).2).2).1) r6).bind fun r7 =>
    bif decide (r7 < 0) then
      some (.ret (-1))
    else
      some (.again (x1, r7, w64 (x3 + 1), ()))
  else
    some (.exit (x1, x2, x3, ()))
noncomputable def F.laws_heldEntryS (a0 : List DEntry) (a1 : Int) : Option Int :=
  afterO (loopO F.laws_heldEntryS.s2 (a0, a1, 0, ())) fun (x8, x9, x10, _) =>
  some x9
noncomputable def C.laws_heldEntryS : Con := ⟨[.r (.val (.sl false 56 y12)), .r (.val (.int .i64))], .one (.int .i64), fun x => F.laws_heldEntryS x.1 x.2.1⟩
def L.laws_heldEntryS : Loops := lookL [(2, ⟨[.pat 0 (.val (.sl false 56 y12)), .pat 1 (.val (.int .i64)), .pat 5 (.val (.int .i64))], 0⟩)]
noncomputable def K.laws_heldEntryS : Cons := lookK [(97, [], C.laws_heldSpanS), (125, [], C.laws_heldIntS), (126, [], C.laws_heldIntSS)]
theorem run.laws_heldEntryS : ∀ x, runF tb K.laws_heldEntryS L.laws_heldEntryS [] Try.f57 C.laws_heldEntryS x = C.laws_heldEntryS.fn x := fun x => by kernel_rfl

/-! ### laws.heldRow: function 36 -/
noncomputable def F.laws_heldRow (a0 : DRow) (a1 : Int) : Option Int :=
  (F.laws_heldEntryS a0.1 a1).bind fun r1 =>
  bif decide (r1 < 0) then
    some (-1)
  else
    some r1
noncomputable def C.laws_heldRow : Con := ⟨[.r (.val (.cons (.sl false 56 y12) .nil)), .r (.val (.int .i64))], .one (.int .i64), fun x => F.laws_heldRow x.1 x.2.1⟩
def L.laws_heldRow : Loops := fun _ => none
noncomputable def K.laws_heldRow : Cons := lookK [(57, [], C.laws_heldEntryS)]
theorem run.laws_heldRow : ∀ x, runF tb K.laws_heldRow L.laws_heldRow [] Try.f36 C.laws_heldRow x = C.laws_heldRow.fn x := fun x => by kernel_rfl

/-! ### laws.FnExactRowPop: function 5 -/
noncomputable def F.laws_FnExactRowPop (a0 : DRow) : Option Bool :=
  (F.laws_szRow a0 1048576).bind fun r1 =>
  bif decide (r1 < 0) then
    some true
  else
  (F.laws_toRow a0).bind fun r2 =>
  (F.spec_RowPop r2).bind fun r3 =>
  (F.laws_toRow a0).bind fun r4 =>
  (F.impl_RowPop r4).bind fun r5 =>
  (F.laws_eqEntry r5.1 r3.1).bind fun r6 =>
  bif !r6 then
    some false
  else
  (F.laws_eqRow r5.2.1 r3.2.1).bind fun r7 =>
  bif !r7 then
    some false
  else
  bif !(r5.2.2 == r3.2.2) then
    some false
  else
  (F.laws_toRow a0).bind fun r8 =>
  (F.laws_eqRow r4 r8).bind fun r9 =>
  bif !r9 then
    some false
  else
  (F.laws_markRow r4 1).bind fun r10 =>
  bif decide (r10.1 < 0) then
    some false
  else
  (F.laws_eqEntry r5.1 r3.1).bind fun r11 =>
  bif !r11 then
    some false
  else
  (F.laws_eqRow r5.2.1 r3.2.1).bind fun r12 =>
  bif !r12 then
    some false
  else
  bif !(r5.2.2 == r3.2.2) then
    some false
  else
  (F.laws_markEntry r5.1 1).bind fun r13 =>
  (F.laws_markRow r5.2.1 r13.1).bind fun r14 =>
  (F.laws_heldEntry r13.2 1).bind fun r15 =>
  bif decide (r15 < 0) then
    some false
  else
  (F.laws_heldRow r14.2 r15).bind fun r16 =>
  bif decide (r16 < 0) then
    some false
  else
  bif r16 != r14.1 then
    some false
  else
  (F.laws_toRow a0).bind fun r17 =>
  (F.impl_RowPop r17).bind fun r18 =>
  (F.laws_eqEntry r18.1 r3.1).bind fun r19 =>
  bif !r19 then
    some false
  else
  (F.laws_eqRow r18.2.1 r3.2.1).bind fun r20 =>
  bif !r20 then
    some false
  else
  bif !(r18.2.2 == r3.2.2) then
    some false
  else
  (F.laws_heldEntry r13.2 1).bind fun r21 =>
  bif decide (r21 < 0) then
    some false
  else
  (F.laws_heldRow r14.2 r21).bind fun r22 =>
  bif decide (r22 < 0) then
    some false
  else
  bif r22 != r14.1 then
    some false
  else
    some true
noncomputable def C.laws_FnExactRowPop : Con := ⟨[.r (.val (.cons (.sl false 153 y10) .nil))], .one .bool, fun x => F.laws_FnExactRowPop x.1⟩
def L.laws_FnExactRowPop : Loops := fun _ => none
noncomputable def K.laws_FnExactRowPop : Cons := lookK [(27, [], C.laws_szRow), (28, [], C.spec_RowPop), (29, [], C.laws_toRow), (30, [], C.impl_RowPop), (31, [], C.laws_eqEntry), (32, [], C.laws_eqRow), (33, [], C.laws_markRow), (34, [], C.laws_markEntry), (35, [], C.laws_heldEntry), (36, [], C.laws_heldRow)]
theorem run.laws_FnExactRowPop : ∀ x, runF tb K.laws_FnExactRowPop L.laws_FnExactRowPop [] Try.f5 C.laws_FnExactRowPop x = C.laws_FnExactRowPop.fn x := fun x => by kernel_rfl

/-! ### spec.DrawSeal: function 46 -/
noncomputable def F.spec_DrawSeal (a0 : List Int) : Option (DAgent × Int × Int × Int × DSketch) :=
  (F.spec_l1New a0).bind fun r1 =>
  (F.spec_l8Draw r1).bind fun r2 =>
  (F.spec_l6Draw r2.2).bind fun r3 =>
  some (r2.1, r3.1.2.1, r3.1.2.2.1, r3.1.2.2.2.1, r3.1.2.2.2.2.1)
noncomputable def C.spec_DrawSeal : Con := ⟨[.r (.val (.sl false 5 (.int .u8)))], .many [y4, (.int .i64), (.int .i64), (.int .i64), y2], fun x => F.spec_DrawSeal x.1⟩
def L.spec_DrawSeal : Loops := fun _ => none
noncomputable def K.spec_DrawSeal : Cons := lookK [(58, [], C.spec_l8Draw), (59, [], C.spec_l1New), (112, [], C.spec_l6Draw)]
theorem run.spec_DrawSeal : ∀ x, runF tb K.spec_DrawSeal L.spec_DrawSeal [] Try.f46 C.spec_DrawSeal x = C.spec_DrawSeal.fn x := fun x => by kernel_rfl

/-! ### impl.Seal: function 47 -/
noncomputable def F.impl_Seal (a0 : DAgent) (a1 : Int) (a2 : Int) (a3 : Int) (a4 : DSketch) : Option (DAgent × Int) :=
  (F.impl_AgentOk a0).bind fun r1 =>
  bif !r1 then
    (F.impl_copyAgent a0).bind fun r2 =>
    some (r2, 0)
  else
  (F.impl_copyAgent a0).bind fun r3 =>
  (F.impl_copySketch a4).bind fun r4 =>
  chk (fits (List.length r3.2.2.2.2.1 + List.length ([(w64 ((len a0.2.2.2.2.1) + 1), a1, a2, a3, r4, ())])) 136) <|
  (F.impl_AgentOk ((r3.1, r3.2.1, r3.2.2.1, r3.2.2.2.1, r3.2.2.2.2.1 ++ ([(w64 ((len a0.2.2.2.2.1) + 1), a1, a2, a3, r4, ())]), r3.2.2.2.2.2))).bind fun r5 =>
  bif !r5 then
    (F.impl_copyAgent a0).bind fun r6 =>
    some (r6, 0)
  else
    some ((r3.1, r3.2.1, r3.2.2.1, r3.2.2.2.1, r3.2.2.2.2.1 ++ ([(w64 ((len a0.2.2.2.2.1) + 1), a1, a2, a3, r4, ())]), r3.2.2.2.2.2), w64 ((len a0.2.2.2.2.1) + 1))
noncomputable def C.impl_Seal : Con := ⟨[.r (.val y4), .r (.val (.int .i64)), .r (.val (.int .i64)), .r (.val (.int .i64)), .r (.val y2)], .many [y7, (.int .i64)], fun x => F.impl_Seal x.1 x.2.1 x.2.2.1 x.2.2.2.1 x.2.2.2.2.1⟩
def L.impl_Seal : Loops := fun _ => none
noncomputable def K.impl_Seal : Cons := lookK [(21, [], C.impl_AgentOk), (61, [], C.impl_copyAgent), (113, [], C.impl_copySketch)]
theorem run.impl_Seal : ∀ x, runF tb K.impl_Seal L.impl_Seal [] Try.f47 C.impl_Seal x = C.impl_Seal.fn x := fun x => by kernel_rfl

/-! ### spec.l7Right: function 135 -/
noncomputable def F.spec_l7Right.s4 : (Int × Int × DL1Cur × DFrame × DFrame × Unit) → Option (Lp (Int × Int × DL1Cur × DFrame × DFrame × Unit) (DFrame × DL1Cur)) := fun (x6, x7, x8, x9, x10, _) =>
  bif decide (x7 < x6) then
    (F.spec_l1Below x8 12).bind fun r11 =>
    (F.spec_l1Below r11.2 3).bind fun r12 =>
    (F.spec_l5Put x10.2.2.2.2.1 ((w64 (1 + r11.1), w64 ((w64 (1 + r11.1)) + r12.1), ()))).bind fun r13 =>
    some (.again (x6, w64 (x7 + 1), r12.2, x9, (x10.1, x10.2.1, x10.2.2.1, x10.2.2.2.1, r13, x10.2.2.2.2.2), ()))
  else
    some (.exit (x6, x7, x8, x9, x10, ()))
noncomputable def F.spec_l7Right (a0 : DL1Cur) : Option (DFrame × DL1Cur) :=
  (F.spec_l1Below a0 4).bind fun r1 =>
  (F.spec_l1Below r1.2 3).bind fun r2 =>
  (F.spec_l1Below r2.2 3).bind fun r3 =>
  (F.spec_l1Below r3.2 9).bind fun r4 =>
  (F.spec_l1Below r4.2 3).bind fun r5 =>
  afterO (loopO F.spec_l7Right.s4 (r5.1, 0, r5.2, (0, 0, 0, 0, ([] : List DSpan), (0, 0, 0, 0, (0, 0, 0, 0, ([] : List Int), ([] : List Int), ([] : List (List Int)), ()), ()), ()), (r1.1, r2.1, r3.1, r4.1, ([] : List DSpan), (0, 0, 0, 0, (0, 0, 0, 0, ([] : List Int), ([] : List Int), ([] : List (List Int)), ()), ()), ()), ())) fun (x14, x15, x16, x17, x18, _) =>
  bif x18.1 == 1 then
    (F.spec_l6Right x16).bind fun r19 =>
    some ((x18.1, x18.2.1, x18.2.2.1, x18.2.2.2.1, x18.2.2.2.2.1, r19.1, x18.2.2.2.2.2.2), r19.2)
  else
    some (x18, x16)
noncomputable def C.spec_l7Right : Con := ⟨[.p y0 y0], .one y8, fun x => F.spec_l7Right x.1⟩
def L.spec_l7Right : Loops := lookL [(4, ⟨[.pat 4 (.val (.int .i64)), .pat 5 (.val (.int .i64)), .root 0 true y0 [0], .root 2 true y8 [2], .root 3 true y8 [3]], 0⟩)]
noncomputable def K.spec_l7Right : Cons := lookK [(108, [], C.spec_l1Below), (156, [], C.spec_l6Right), (158, [], C.spec_l5Put)]
theorem run.spec_l7Right : ∀ x, runF tb K.spec_l7Right L.spec_l7Right [0] Try.f135 C.spec_l7Right x = C.spec_l7Right.fn x := fun x => by kernel_rfl

/-! ### spec.l7Draw: function 77 -/
noncomputable def F.spec_l7Draw (a0 : DL1Cur) : Option (DFrame × DL1Cur) :=
  (F.spec_l7Right a0).bind fun r1 =>
  (F.spec_l1Below r1.2 14).bind fun r2 =>
  bif r2.1 == 0 then
    (F.spec_l1PickInt r2.2 ([-1, 4, 1, 0])).bind fun r3 =>
    some ((r3.1, r1.1.2), r3.2)
  else
  bif r2.1 == 1 then
    (F.spec_l1PickInt r2.2 ([-1, 3])).bind fun r4 =>
    some ((r1.1.1, r4.1, r1.1.2.2), r4.2)
  else
  bif r2.1 == 2 then
    (F.spec_l1PickInt r2.2 ([-1, 1000, 1001])).bind fun r5 =>
    some ((r1.1.1, r1.1.2.1, r5.1, r1.1.2.2.2), r5.2)
  else
  bif r2.1 == 3 then
    (F.spec_l1PickInt r2.2 ([-1, 60, 61])).bind fun r6 =>
    some ((r1.1.1, r1.1.2.1, r1.1.2.2.1, r6.1, r1.1.2.2.2.2), r6.2)
  else
  bif r2.1 == 4 then
    (F.spec_l5Draw r2.2).bind fun r7 =>
    some ((r1.1.1, r1.1.2.1, r1.1.2.2.1, r1.1.2.2.2.1, r7.1, r1.1.2.2.2.2.2), r7.2)
  else
  bif r2.1 == 5 then
    (F.spec_l6Draw r2.2).bind fun r8 =>
    some ((r1.1.1, r1.1.2.1, r1.1.2.2.1, r1.1.2.2.2.1, r1.1.2.2.2.2.1, r8.1, r1.1.2.2.2.2.2.2), r8.2)
  else
    some (r1.1, r2.2)
noncomputable def C.spec_l7Draw : Con := ⟨[.p y0 y0], .one y9, fun x => F.spec_l7Draw x.1⟩
def L.spec_l7Draw : Loops := fun _ => none
noncomputable def K.spec_l7Draw : Cons := lookK [(108, [], C.spec_l1Below), (112, [], C.spec_l6Draw), (128, [], C.spec_l1PickInt), (129, [], C.spec_l5Draw), (135, [], C.spec_l7Right)]
theorem run.spec_l7Draw : ∀ x, runF tb K.spec_l7Draw L.spec_l7Draw [0] Try.f77 C.spec_l7Draw x = C.spec_l7Draw.fn x := fun x => by kernel_rfl

/-! ### spec.DrawAgentHear: function 49 -/
noncomputable def F.spec_DrawAgentHear (a0 : List Int) : Option (DAgent × DFrame) :=
  (F.spec_l1New a0).bind fun r1 =>
  (F.spec_l8Draw r1).bind fun r2 =>
  (F.spec_l7Draw r2.2).bind fun r3 =>
  (F.spec_l1Once r3.2 4).bind fun r4 =>
  bif !r4.1 then
    (F.spec_l1Below r4.2 2).bind fun r5 =>
    (F.spec_l1Below r5.2 4).bind fun r6 =>
    (F.spec_l1Below r6.2 9).bind fun r7 =>
    bif decide ((len r2.1.2.2.2.2.1) > 0) then
      (F.spec_l1Once r7.2 2).bind fun r8 =>
      bif r8.1 then
        (F.spec_l1Below r8.2 (len r2.1.2.2.2.2.1)).bind fun r9 =>
        (F.spec_l8One (w64 (1 + r9.1))).bind fun r10 =>
        some (r2.1, (w64 (2 + r5.1), r2.1.1, r6.1, r7.1, [r10], (0, 0, 0, 0, (0, 0, 0, 0, ([] : List Int), ([] : List Int), ([] : List (List Int)), ()), ()), ()))
      else
        some (r2.1, (w64 (2 + r5.1), r2.1.1, r6.1, r7.1, ([] : List DSpan), (0, 0, 0, 0, (0, 0, 0, 0, ([] : List Int), ([] : List Int), ([] : List (List Int)), ()), ()), ()))
    else
      some (r2.1, (w64 (2 + r5.1), r2.1.1, r6.1, r7.1, ([] : List DSpan), (0, 0, 0, 0, (0, 0, 0, 0, ([] : List Int), ([] : List Int), ([] : List (List Int)), ()), ()), ()))
  else
    some (r2.1, r3.1)
noncomputable def C.spec_DrawAgentHear : Con := ⟨[.r (.val (.sl false 5 (.int .u8)))], .many [y4, y9], fun x => F.spec_DrawAgentHear x.1⟩
def L.spec_DrawAgentHear : Loops := fun _ => none
noncomputable def K.spec_DrawAgentHear : Cons := lookK [(58, [], C.spec_l8Draw), (59, [], C.spec_l1New), (77, [], C.spec_l7Draw), (100, [], C.spec_l1Once), (108, [], C.spec_l1Below), (115, [], C.spec_l8One)]
theorem run.spec_DrawAgentHear : ∀ x, runF tb K.spec_DrawAgentHear L.spec_DrawAgentHear [] Try.f49 C.spec_DrawAgentHear x = C.spec_DrawAgentHear.fn x := fun x => by kernel_rfl

/-! ### slices.SortFunc[[]impl.Span,impl.Span]: function 174: by its contract -/
noncomputable def F.slices_SortFunc_Span__impl_union_1 (a0 : List DSpan) (a1 : Unit) : Option (List DSpan) :=
  chk (decide (a0.length ≤ 4000000000000)) <|
  some (sortS a0)
noncomputable def C.slices_SortFunc_Span__impl_union_1 : Con := ⟨[.c (.sl true 97 y1), .r (.fn 175 .nil)], .many [], fun x => F.slices_SortFunc_Span__impl_union_1 x.1 x.2.1⟩
-- EXT slices_SortFunc_Span__impl_union_1 174 sort 97 175

/-! ### impl.union: function 157 -/
noncomputable def F.impl_union.s5 : ((List DSpan) × (List DSpan) × Int × Int × Unit) → Option (Lp ((List DSpan) × (List DSpan) × Int × Int × Unit) ((List DSpan))) := fun (x3, x4, x5, x6, _) =>
  bif decide (x6 < x5) then
    chk (inb x6 (List.length x4)) <|
    bif decide ((len x3) > 0) then
      chk (inb (w64 ((len x3) - 1)) (List.length x3)) <|
      bif decide (((List.getD x4 ((Int.toNat x6)) ((0, 0, ()))).1) ≤ (w64 ((((List.getD x3 ((Int.toNat (w64 ((len x3) - 1)))) ((0, 0, ()))).2).1) + 1))) then
        chk (inb (w64 ((len x3) - 1)) (List.length x3)) <|
        chk (inb (w64 ((len x3) - 1)) (List.length x3)) <|
        (some (List.set x3 ((Int.toNat (w64 ((len x3) - 1)))) (((List.getD x3 ((Int.toNat (w64 ((len x3) - 1)))) ((0, 0, ()))).1, mxI (((List.getD x3 ((Int.toNat (w64 ((len x3) - 1)))) ((0, 0, ()))).2).1) (((List.getD x4 ((Int.toNat x6)) ((0, 0, ()))).2).1), ((List.getD x3 ((Int.toNat (w64 ((len x3) - 1)))) ((0, 0, ()))).2).2)))).bind fun r7 =>
        some (.again (r7, x4, x5, w64 (x6 + 1), ()))
      else
      chk (fits (List.length x3 + List.length ([List.getD x4 ((Int.toNat x6)) ((0, 0, ()))])) 16) <|
      some (.again (x3 ++ ([List.getD x4 ((Int.toNat x6)) ((0, 0, ()))]), x4, x5, w64 (x6 + 1), ()))
    else
    chk (fits (List.length x3 + List.length ([List.getD x4 ((Int.toNat x6)) ((0, 0, ()))])) 16) <|
    some (.again (x3 ++ ([List.getD x4 ((Int.toNat x6)) ((0, 0, ()))]), x4, x5, w64 (x6 + 1), ()))
  else
    some (.exit (x3, x4, x5, x6, ()))
noncomputable def F.impl_union (a0 : List DSpan) : Option ((List DSpan)) :=
  (F.impl_copySet a0).bind fun r1 =>
  (F.slices_SortFunc_Span__impl_union_1 r1 (())).bind fun r2 =>
  afterO (loopO F.impl_union.s5 (([] : List DSpan), r2, len r2, 0, ())) fun (x8, x9, x10, x11, _) =>
  some x8
noncomputable def C.impl_union : Con := ⟨[.r (.val (.sl false 97 y1))], .one (.sl true 97 y1), fun x => F.impl_union x.1⟩
def L.impl_union : Loops := lookL [(5, ⟨[.own 4 (.sl true 97 y1), .own 12 (.sl true 97 y1), .pat 13 (.val (.int .i64)), .pat 14 (.val (.int .i64))], 0⟩)]
noncomputable def K.impl_union : Cons := lookK [(130, [], C.impl_copySet), (174, [175], C.slices_SortFunc_Span__impl_union_1)]
theorem run.impl_union : ∀ x, runF tb K.impl_union L.impl_union [] Try.f157 C.impl_union x = C.impl_union.fn x := fun x => by kernel_rfl

/-! ### impl.SetJoin: function 116 -/
noncomputable def F.impl_SetJoin (a0 : List DSpan) (a1 : List DSpan) : Option ((List DSpan) × Bool) :=
  (F.impl_SetOk a0).bind fun r1 =>
  bif !r1 then
    some (([] : List DSpan), false)
  else
  (F.impl_SetOk a1).bind fun r2 =>
  bif !r2 then
    some (([] : List DSpan), false)
  else
  (F.impl_copySet a0).bind fun r3 =>
  chk (fits (List.length r3 + List.length a1) 16) <|
  (F.impl_union (r3 ++ a1)).bind fun r4 =>
  some (r4, true)
noncomputable def C.impl_SetJoin : Con := ⟨[.r (.val (.sl false 97 y1)), .r (.val (.sl false 97 y1))], .many [(.sl true 97 y1), .bool], fun x => F.impl_SetJoin x.1 x.2.1⟩
def L.impl_SetJoin : Loops := fun _ => none
noncomputable def K.impl_SetJoin : Cons := lookK [(130, [], C.impl_copySet), (133, [], C.impl_SetOk), (157, [], C.impl_union)]
theorem run.impl_SetJoin : ∀ x, runF tb K.impl_SetJoin L.impl_SetJoin [] Try.f116 C.impl_SetJoin x = C.impl_SetJoin.fn x := fun x => by kernel_rfl

/-! ### impl.AgentHear: function 50 -/
noncomputable def F.impl_AgentHear (a0 : DAgent) (a1 : DFrame) : Option (DAgent × Int) :=
  (F.impl_copyAgent a0).bind fun r1 =>
  (F.impl_AgentOk a0).bind fun r2 =>
  bif !r2 then
    some (r1, 1)
  else
  (F.impl_FrameOk a1).bind fun r3 =>
  bif !r3 then
    some (r1, 1)
  else
  bif a1.1 != 2 then
    bif a1.1 != 3 then
      some (r1, 1)
    else
    bif a1.2.1 != a0.1 then
      some (r1, 1)
    else
    (F.impl_allIn a1.2.2.2.2.1 1 (len a0.2.2.2.2.1)).bind fun r4 =>
    bif !r4 then
      some (r1, 1)
    else
    bif decide (a1.2.2.1 < a0.2.1) then
      some (r1, 2)
    else
    (F.impl_SetJoin a0.2.2.2.2.2.1 a1.2.2.2.2.1).bind fun r5 =>
    bif a1.1 == 2 then
      bif a1.2.2.1 == a0.2.1 then
        some ((r1.1, r1.2.1, true, mxI a0.2.2.2.1 a1.2.2.2.1, r1.2.2.2.2.1, r5.1, r1.2.2.2.2.2.2), 0)
      else
      bif a1.1 == 2 then
        some ((r1.1, a1.2.2.1, true, a1.2.2.2.1, r1.2.2.2.2.1, r5.1, r1.2.2.2.2.2.2), 0)
      else
        some ((r1.1, a1.2.2.1, false, 0, r1.2.2.2.2.1, r5.1, r1.2.2.2.2.2.2), 0)
    else
    bif a1.1 == 2 then
      some ((r1.1, a1.2.2.1, true, a1.2.2.2.1, r1.2.2.2.2.1, r5.1, r1.2.2.2.2.2.2), 0)
    else
      some ((r1.1, a1.2.2.1, false, 0, r1.2.2.2.2.1, r5.1, r1.2.2.2.2.2.2), 0)
  else
  bif a1.2.1 != a0.1 then
    some (r1, 1)
  else
  (F.impl_allIn a1.2.2.2.2.1 1 (len a0.2.2.2.2.1)).bind fun r6 =>
  bif !r6 then
    some (r1, 1)
  else
  bif decide (a1.2.2.1 < a0.2.1) then
    some (r1, 2)
  else
  (F.impl_SetJoin a0.2.2.2.2.2.1 a1.2.2.2.2.1).bind fun r7 =>
  bif a1.1 == 2 then
    bif a1.2.2.1 == a0.2.1 then
      some ((r1.1, r1.2.1, true, mxI a0.2.2.2.1 a1.2.2.2.1, r1.2.2.2.2.1, r7.1, r1.2.2.2.2.2.2), 0)
    else
    bif a1.1 == 2 then
      some ((r1.1, a1.2.2.1, true, a1.2.2.2.1, r1.2.2.2.2.1, r7.1, r1.2.2.2.2.2.2), 0)
    else
      some ((r1.1, a1.2.2.1, false, 0, r1.2.2.2.2.1, r7.1, r1.2.2.2.2.2.2), 0)
  else
  bif a1.1 == 2 then
    some ((r1.1, a1.2.2.1, true, a1.2.2.2.1, r1.2.2.2.2.1, r7.1, r1.2.2.2.2.2.2), 0)
  else
    some ((r1.1, a1.2.2.1, false, 0, r1.2.2.2.2.1, r7.1, r1.2.2.2.2.2.2), 0)
noncomputable def C.impl_AgentHear : Con := ⟨[.r (.val y4), .r (.val y9)], .many [y7, (.int .i64)], fun x => F.impl_AgentHear x.1 x.2.1⟩
def L.impl_AgentHear : Loops := fun _ => none
noncomputable def K.impl_AgentHear : Cons := lookK [(18, [], C.impl_FrameOk), (21, [], C.impl_AgentOk), (61, [], C.impl_copyAgent), (72, [], C.impl_allIn), (116, [], C.impl_SetJoin)]
theorem run.impl_AgentHear : ∀ x, runF tb K.impl_AgentHear L.impl_AgentHear [] Try.f50 C.impl_AgentHear x = C.impl_AgentHear.fn x := fun x => by kernel_rfl

/-! ### spec.l7Zero: function 82 -/
noncomputable def F.spec_l7Zero (a0 : DItem) : Option Bool :=
  bif a0.1 == 0 then
    bif a0.2.1 == 0 then
      bif a0.2.2.1 == 0 then
        bif a0.2.2.2.1 == 0 then
          bif a0.2.2.2.2.1.1 == 0 then
            bif a0.2.2.2.2.1.2.1 == 0 then
              bif a0.2.2.2.2.1.2.2.1 == 0 then
                bif a0.2.2.2.2.1.2.2.2.1 == 0 then
                  bif (len a0.2.2.2.2.1.2.2.2.2.1) == 0 then
                    bif (len a0.2.2.2.2.1.2.2.2.2.2.1) == 0 then
                      some ((len a0.2.2.2.2.1.2.2.2.2.2.2.1) == 0)
                    else
                      some false
                  else
                    some false
                else
                  some false
              else
                some false
            else
              some false
          else
            some false
        else
          some false
      else
        some false
    else
      some false
  else
    some false
noncomputable def C.spec_l7Zero : Con := ⟨[.r (.val y3)], .one .bool, fun x => F.spec_l7Zero x.1⟩
def L.spec_l7Zero : Loops := fun _ => none
noncomputable def K.spec_l7Zero : Cons := lookK []
theorem run.spec_l7Zero : ∀ x, runF tb K.spec_l7Zero L.spec_l7Zero [] Try.f82 C.spec_l7Zero x = C.spec_l7Zero.fn x := fun x => by kernel_rfl

/-! ### spec.FrameOk: function 24 -/
noncomputable def F.spec_FrameOk.s4 : (Int × DFrame × Unit) → Option (Lp (Int × DFrame × Unit) Bool) := fun (x6, x7, _) =>
  bif decide (x6 < (len x7.2.2.2.2.1)) then
    chk (inb x6 (List.length x7.2.2.2.2.1)) <|
    bif decide (((List.getD x7.2.2.2.2.1 ((Int.toNat x6)) ((0, 0, ()))).1) < 1) then
      some (.ret false)
    else
    chk (inb x6 (List.length x7.2.2.2.2.1)) <|
    bif decide ((((List.getD x7.2.2.2.2.1 ((Int.toNat x6)) ((0, 0, ()))).2).1) > 60) then
      some (.ret false)
    else
      some (.again (w64 (x6 + 1), x7, ()))
  else
    some (.exit (x6, x7, ()))
noncomputable def F.spec_FrameOk (a0 : DFrame) : Option Bool :=
  (F.spec_l1In a0.1 0 3).bind fun r1 =>
  bif !r1 then
    some false
  else
  (F.spec_l6Agent a0.2.1).bind fun r2 =>
  bif !r2 then
    some false
  else
  (F.spec_l1In a0.2.2.1 0 1000).bind fun r3 =>
  bif !r3 then
    some false
  else
  (F.spec_l1In a0.2.2.2.1 0 60).bind fun r4 =>
  bif !r4 then
    some false
  else
  (F.spec_SetOk a0.2.2.2.2.1).bind fun r5 =>
  bif !r5 then
    some false
  else
  afterO (loopO F.spec_FrameOk.s4 (0, a0, ())) fun (x8, x9, _) =>
  bif x9.1 == 1 then
    (F.spec_ItemOk x9.2.2.2.2.2.1).bind fun r10 =>
    some r10
  else
  (F.spec_l7Zero x9.2.2.2.2.2.1).bind fun r11 =>
  some r11
noncomputable def C.spec_FrameOk : Con := ⟨[.r (.val y9)], .one .bool, fun x => F.spec_FrameOk x.1⟩
def L.spec_FrameOk : Loops := lookL [(4, ⟨[.pat 3 (.val (.int .i64)), .root 1 true y9 [1]], 0⟩)]
noncomputable def K.spec_FrameOk : Cons := lookK [(67, [], C.spec_l6Agent), (68, [], C.spec_l1In), (70, [], C.spec_ItemOk), (81, [], C.spec_SetOk), (82, [], C.spec_l7Zero)]
theorem run.spec_FrameOk : ∀ x, runF tb K.spec_FrameOk L.spec_FrameOk [] Try.f24 C.spec_FrameOk x = C.spec_FrameOk.fn x := fun x => by kernel_rfl

/-! ### spec.l5Join: function 117 -/
noncomputable def F.spec_l5Join.s3 : ((List DSpan) × (List DSpan) × Int × Unit) → Option (Lp ((List DSpan) × (List DSpan) × Int × Unit) ((List DSpan))) := fun (x2, x3, x4, _) =>
  bif decide (x4 < (len x2)) then
    chk (inb x4 (List.length x2)) <|
    (F.spec_l5Put x3 (List.getD x2 ((Int.toNat x4)) ((0, 0, ())))).bind fun r5 =>
    some (.again (x2, r5, w64 (x4 + 1), ()))
  else
    some (.exit (x2, x3, x4, ()))
noncomputable def F.spec_l5Join (a0 : List DSpan) (a1 : List DSpan) : Option ((List DSpan)) :=
  (F.spec_l5Copy a0).bind fun r1 =>
  afterO (loopO F.spec_l5Join.s3 (a1, r1, 0, ())) fun (x6, x7, x8, _) =>
  some x7
noncomputable def C.spec_l5Join : Con := ⟨[.r (.val (.sl false 97 y1)), .r (.val (.sl false 97 y1))], .one (.sl true 97 y1), fun x => F.spec_l5Join x.1 x.2.1⟩
def L.spec_l5Join : Loops := lookL [(3, ⟨[.pat 1 (.val (.sl false 97 y1)), .own 5 (.sl true 97 y1), .pat 6 (.val (.int .i64))], 0⟩)]
noncomputable def K.spec_l5Join : Cons := lookK [(131, [], C.spec_l5Copy), (158, [], C.spec_l5Put)]
theorem run.spec_l5Join : ∀ x, runF tb K.spec_l5Join L.spec_l5Join [] Try.f117 C.spec_l5Join x = C.spec_l5Join.fn x := fun x => by kernel_rfl

/-! ### spec.AgentHear: function 51 -/
noncomputable def F.spec_AgentHear (a0 : DAgent) (a1 : DFrame) : Option (DAgent × Int) :=
  (F.spec_l8Copy a0).bind fun r1 =>
  (F.spec_AgentOk a0).bind fun r2 =>
  bif !r2 then
    some (r1, 1)
  else
  (F.spec_FrameOk a1).bind fun r3 =>
  bif !r3 then
    some (r1, 1)
  else
  bif decide (a1.1 < 2) then
    some (r1, 1)
  else
  bif a1.2.1 != a0.1 then
    some (r1, 1)
  else
  (F.spec_l8Below a1.2.2.2.2.1 (len a0.2.2.2.2.1)).bind fun r4 =>
  bif !r4 then
    some (r1, 1)
  else
  bif decide (a1.2.2.1 < a0.2.1) then
    some (r1, 2)
  else
  (F.spec_l5Join a0.2.2.2.2.2.1 a1.2.2.2.2.1).bind fun r5 =>
  bif a1.1 == 2 then
    bif a1.2.2.1 == a0.2.1 then
      (F.spec_l1Max a0.2.2.2.1 a1.2.2.2.1).bind fun r6 =>
      some ((r1.1, r1.2.1, true, r6, r1.2.2.2.2.1, r5, r1.2.2.2.2.2.2), 0)
    else
    bif a1.1 == 2 then
      some ((r1.1, a1.2.2.1, a1.1 == 2, a1.2.2.2.1, r1.2.2.2.2.1, r5, r1.2.2.2.2.2.2), 0)
    else
      some ((r1.1, a1.2.2.1, a1.1 == 2, 0, r1.2.2.2.2.1, r5, r1.2.2.2.2.2.2), 0)
  else
  bif a1.1 == 2 then
    some ((r1.1, a1.2.2.1, a1.1 == 2, a1.2.2.2.1, r1.2.2.2.2.1, r5, r1.2.2.2.2.2.2), 0)
  else
    some ((r1.1, a1.2.2.1, a1.1 == 2, 0, r1.2.2.2.2.1, r5, r1.2.2.2.2.2.2), 0)
noncomputable def C.spec_AgentHear : Con := ⟨[.r (.val y4), .r (.val y9)], .many [y7, (.int .i64)], fun x => F.spec_AgentHear x.1 x.2.1⟩
def L.spec_AgentHear : Loops := fun _ => none
noncomputable def K.spec_AgentHear : Cons := lookK [(17, [], C.spec_AgentOk), (24, [], C.spec_FrameOk), (63, [], C.spec_l8Copy), (69, [], C.spec_l8Below), (117, [], C.spec_l5Join), (118, [], C.spec_l1Max)]
theorem run.spec_AgentHear : ∀ x, runF tb K.spec_AgentHear L.spec_AgentHear [] Try.f51 C.spec_AgentHear x = C.spec_AgentHear.fn x := fun x => by kernel_rfl

/-! ### laws.FnSealed: function 7 -/
noncomputable def F.laws_FnSealed.s14 : (Int × Int × DAgent × DSketch × DAgent × DAgent × DAgent × Unit) → Option (Lp (Int × Int × DAgent × DSketch × DAgent × DAgent × DAgent × Unit) Bool) := fun (x8, x9, x10, x11, x12, x13, x14, _) =>
  bif decide (x9 < (len x13.2.2.2.2.1)) then
    chk (inb x9 (List.length x14.2.2.2.2.1)) <|
    chk (inb x9 (List.length x13.2.2.2.2.1)) <|
    (F.impl_SketchSame ((((((List.getD x14.2.2.2.2.1 ((Int.toNat x9)) ((0, 0, 0, 0, (0, 0, 0, 0, ([] : List Int), ([] : List Int), ([] : List (List Int)), ()), ()))).2).2).2).2).1) ((((((List.getD x13.2.2.2.2.1 ((Int.toNat x9)) ((0, 0, 0, 0, (0, 0, 0, 0, ([] : List Int), ([] : List Int), ([] : List (List Int)), ()), ()))).2).2).2).2).1)).bind fun r15 =>
    bif !r15 then
      some (.ret false)
    else
    chk (inb x9 (List.length x14.2.2.2.2.1)) <|
    chk (inb x9 (List.length x13.2.2.2.2.1)) <|
    bif ((((List.getD x14.2.2.2.2.1 ((Int.toNat x9)) ((0, 0, 0, 0, (0, 0, 0, 0, ([] : List Int), ([] : List Int), ([] : List (List Int)), ()), ()))).2).2).1) != ((((List.getD x13.2.2.2.2.1 ((Int.toNat x9)) ((0, 0, 0, 0, (0, 0, 0, 0, ([] : List Int), ([] : List Int), ([] : List (List Int)), ()), ()))).2).2).1) then
      some (.ret false)
    else
      some (.again (x8, w64 (x9 + 1), x10, x11, x12, x13, x14, ()))
  else
    some (.exit (x8, x9, x10, x11, x12, x13, x14, ()))
noncomputable def F.laws_FnSealed (a0 : List Int) : Option Bool :=
  (F.laws_big a0).bind fun r1 =>
  bif r1 then
    some true
  else
  (F.spec_DrawSeal a0).bind fun r2 =>
  (F.impl_Seal r2.1 r2.2.1 r2.2.2.1 r2.2.2.2.1 r2.2.2.2.2).bind fun r3 =>
  (F.spec_Seal r2.1 r2.2.1 r2.2.2.1 r2.2.2.2.1 r2.2.2.2.2).bind fun r4 =>
  bif r3.2 != r4.2 then
    some false
  else
  (F.spec_DrawAgentHear a0).bind fun r5 =>
  (F.impl_AgentHear r5.1 r5.2).bind fun r6 =>
  (F.spec_AgentHear r5.1 r5.2).bind fun r7 =>
  bif r6.2 != r7.2 then
    some false
  else
  bif (len r6.1.2.2.2.2.1) != (len r5.1.2.2.2.2.1) then
    some false
  else
  afterO (loopO F.laws_FnSealed.s14 (r3.2, 0, r2.1, r2.2.2.2.2, r3.1, r5.1, r6.1, ())) fun (x16, x17, x18, x19, x20, x21, x22, _) =>
  bif x16 == 0 then
    some ((len x20.2.2.2.2.1) == (len x18.2.2.2.2.1))
  else
  (F.impl_AgentOk x20).bind fun r23 =>
  bif r23 then
    bif (len x20.2.2.2.2.1) == x16 then
      chk (inb (w64 (x16 - 1)) (List.length x20.2.2.2.2.1)) <|
      bif ((List.getD x20.2.2.2.2.1 ((Int.toNat (w64 (x16 - 1)))) ((0, 0, 0, 0, (0, 0, 0, 0, ([] : List Int), ([] : List Int), ([] : List (List Int)), ()), ()))).1) == x16 then
        chk (inb (w64 (x16 - 1)) (List.length x20.2.2.2.2.1)) <|
        (F.impl_SketchSame ((((((List.getD x20.2.2.2.2.1 ((Int.toNat (w64 (x16 - 1)))) ((0, 0, 0, 0, (0, 0, 0, 0, ([] : List Int), ([] : List Int), ([] : List (List Int)), ()), ()))).2).2).2).2).1) x19).bind fun r24 =>
        bif r24 then
          some (x20.2.2.2.1 == x18.2.2.2.1)
        else
          some false
      else
        some false
    else
      some false
  else
    some false
noncomputable def C.laws_FnSealed : Con := ⟨[.r (.val (.sl false 5 (.int .u8)))], .one .bool, fun x => F.laws_FnSealed x.1⟩
def L.laws_FnSealed : Loops := lookL [(14, ⟨[.pat 9 (.val (.int .i64)), .pat 18 (.val (.int .i64)), .root 3 true y4 [3], .root 7 true y2 [7], .root 8 true y7 [8], .root 12 true y4 [12], .root 14 true y7 [14]], 0⟩)]
noncomputable def K.laws_FnSealed : Cons := lookK [(9, [], C.laws_big), (21, [], C.impl_AgentOk), (46, [], C.spec_DrawSeal), (47, [], C.impl_Seal), (48, [], C.spec_Seal), (49, [], C.spec_DrawAgentHear), (50, [], C.impl_AgentHear), (51, [], C.spec_AgentHear), (52, [], C.impl_SketchSame)]
theorem run.laws_FnSealed : ∀ x, runF tb K.laws_FnSealed L.laws_FnSealed [] Try.f7 C.laws_FnSealed x = C.laws_FnSealed.fn x := fun x => by kernel_rfl
end Go.Proofs.Ytnpmjlppjcemmaa.Vm
