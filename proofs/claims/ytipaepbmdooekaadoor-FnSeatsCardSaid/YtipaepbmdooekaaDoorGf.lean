import Derived.Test.YtipaepbmdooekaaDoorV1
import Derived.Test.YtipaepbmdooekaaDoorProg
import Derived.Test.YtipaepbmdooekaaDoorVS0
import Derived.Test.YtipaepbmdooekaaDoorVX
import Derived.KernelRfl
namespace Go.Proofs.YtipaepbmdooekaaDoor.Vm
open Go Go.RowKit
set_option maxRecDepth 100000
set_option linter.unusedVariables false
def lookL (l : List (Nat × Loop)) : Loops := fun n => lookN l n
def eqNs : List Nat → List Nat → Bool
  | [], [] => true
  | a :: l, b :: m => Nat.beq a b && eqNs l m
  | _, _ => false
def lookK : List (FuncId × List Nat × Con) → Cons
  | [], _, _ => none
  | (f, ks, c) :: l, g, xs => bif Nat.beq f g && eqNs ks xs then some c else lookK l g xs
abbrev Stp (T A : Type) : Type := T → Option (Lp T A)
abbrev DSpan : Type := Int × Int × Unit
abbrev DL1Cur : Type := (List Int) × Int × Int × Unit
abbrev DSeat : Type := Int × Int × (List DSpan) × Int × Int × Unit
abbrev y0 : Ty := .cons (.sl false 5 (.int .u8)) (.cons (.int .i64) (.cons (.int .i64) .nil))
abbrev y1 : Ty := .cons (.int .i64) (.cons (.int .i64) .nil)
abbrev y2 : Ty := .cons (.int .i64) (.cons (.int .i64) (.cons (.sl true 51 y1) (.cons (.int .i64) (.cons (.int .i64) .nil))))
abbrev y3 : Ty := .cons (.int .i64) (.cons (.int .i64) (.cons (.sl false 51 y1) (.cons (.int .i64) (.cons (.int .i64) .nil))))
def tb : List (TypeId × TRow) := [
  (2, ⟨(.int .i64), 8, []⟩),
  (3, ⟨(.int .i64), 8, []⟩),
  (4, ⟨.bool, 1, []⟩),
  (5, ⟨(.int .u8), 1, []⟩),
  (6, ⟨(.int .u8), 1, []⟩),
  (9, ⟨.str, 16, []⟩),
  (10, ⟨.str, 16, []⟩),
  (11, ⟨.str, 16, []⟩),
  (12, ⟨(.int .u64), 8, []⟩),
  (21, ⟨(.int .i32), 4, []⟩),
  (22, ⟨(.sl false 5 (.int .u8)), 24, []⟩),
  (24, ⟨(.sl false 51 y1), 24, []⟩),
  (25, ⟨y3, 56, [3, 3, 24, 3, 3]⟩),
  (26, ⟨y3, 56, [3, 3, 24, 3, 3]⟩),
  (43, ⟨(.sl false 3 (.int .i64)), 24, []⟩),
  (50, ⟨y1, 16, [3, 3]⟩),
  (51, ⟨y1, 16, [3, 3]⟩),
  (55, ⟨(.sl false 9 .str), 24, []⟩),
  (59, ⟨y0, 40, [22, 3, 3]⟩),
  (60, ⟨y0, 40, [22, 3, 3]⟩),
  (78, ⟨(.int .u64), 8, []⟩),
  (91, ⟨(.int .i64), 8, []⟩),
  (99, ⟨(.int .u32), 4, []⟩),
  (101, ⟨(.int .u64), 8, []⟩),
  (106, ⟨(.int .u64), 8, []⟩),
  (127, ⟨(.int .u8), 1, []⟩),
  (128, ⟨(.int .u8), 1, []⟩),
  (130, ⟨(.int .i32), 4, []⟩),
  (131, ⟨(.int .i32), 4, []⟩)]
def L0 : Loops := fun _ => none
abbrev Rn (K : Cons) (L : Loops) (ids : List Nat) (f : Func) (c : Con) : Prop := ∀ x, runF tb K L ids f c x = c.fn x

/-! ### laws.big: function 4 -/
noncomputable def F.laws_big (a0 : List Int) : Option Bool :=
  some (decide ((len a0) > 1048576))
noncomputable def C.laws_big : Con := ⟨[.r (.val (.sl false 5 (.int .u8)))], .one .bool, fun x => F.laws_big x.1⟩
noncomputable def K.laws_big : Cons := lookK []
theorem run.laws_big : Rn K.laws_big L0 [] Tryd.f4 C.laws_big := fun x => by kernel_rfl

/-! ### spec.l1New: function 18 -/
noncomputable def F.spec_l1New.s3 : Stp ((List Int) × Int × Int × Unit) DL1Cur := fun (x1, x2, x3, _) =>
  bif decide (x3 < (len x1)) then
    bif decide (x3 < 4000) then
      chk (inb x3 x1.length) <|
      some (.again (x1, ibits .and .i64 (w64 ((w64 ((w64 (x2 * 131)) + (w64 (x1.getD x3.toNat 0)))) + 7)) 1073741823, w64 (x3 + 1), ()))
    else
      some (.exit (x1, x2, x3, ()))
  else
    some (.exit (x1, x2, x3, ()))
noncomputable def F.spec_l1New (a0 : List Int) : Option DL1Cur :=
  afterO (loopO F.spec_l1New.s3 (a0, w64 (26583 + (len a0)), 0, ())) fun (x4, x5, x6, _) =>
  some (x4, 0, x5, ())
noncomputable def C.spec_l1New : Con := ⟨[.r (.val (.sl false 5 (.int .u8)))], .ptr y0, fun x => F.spec_l1New x.1⟩
def L.spec_l1New : Loops := lookL [(3, ⟨[.pat 0 (.val (.sl false 5 (.int .u8))), .pat 3 (.val (.int .i64)), .pat 4 (.val (.int .i64))], 0⟩)]
noncomputable def K.spec_l1New : Cons := lookK []
theorem run.spec_l1New : Rn K.spec_l1New L.spec_l1New [] Tryd.f18 C.spec_l1New := fun x => by kernel_rfl

/-! ### spec.l1Byte: function 42 -/
noncomputable def F.spec_l1Byte (a0 : DL1Cur) : Option (Int × DL1Cur) :=
  bif decide (a0.2.1 < (len a0.1)) then
    chk (inb a0.2.1 a0.1.length) <|
    some (ibits .and .i64 (w64 ((ibits .and .i64 (ibits .xor .i64 (Int.fdiv (w64 ((w64 (a0.2.2.1 * 6364136223846793005)) + 1442695040888963407)) (2 ^ (min 33 64))) (Int.fdiv (w64 ((w64 (a0.2.2.1 * 6364136223846793005)) + 1442695040888963407)) (2 ^ (min 45 64)))) 255) + (w64 (a0.1.getD (Int.toNat a0.2.1) 0)))) 255, (a0.1, w64 (a0.2.1 + 1), w64 ((w64 (a0.2.2.1 * 6364136223846793005)) + 1442695040888963407), a0.2.2.2))
  else
    some (ibits .and .i64 (ibits .xor .i64 (Int.fdiv (w64 ((w64 (a0.2.2.1 * 6364136223846793005)) + 1442695040888963407)) (2 ^ (min 33 64))) (Int.fdiv (w64 ((w64 (a0.2.2.1 * 6364136223846793005)) + 1442695040888963407)) (2 ^ (min 45 64)))) 255, (a0.1, a0.2.1, w64 ((w64 (a0.2.2.1 * 6364136223846793005)) + 1442695040888963407), a0.2.2.2))
noncomputable def C.spec_l1Byte : Con := ⟨[.p y0 y0], .one (.int .i64), fun x => F.spec_l1Byte x.1⟩
noncomputable def K.spec_l1Byte : Cons := lookK []
theorem run.spec_l1Byte : Rn K.spec_l1Byte L0 [0] Tryd.f42 C.spec_l1Byte := fun x => by kernel_rfl

/-! ### spec.l1Below: function 21 -/
noncomputable def F.spec_l1Below (a0 : DL1Cur) (a1 : Int) : Option (Int × DL1Cur) :=
  bif decide (a1 ≤ 0) then
    some (0, a0)
  else
  bif decide (a1 ≤ 256) then
    (F.spec_l1Byte a0).bind fun r1 =>
    nchk (a1 == 0) <|
    some (Int.tmod r1.1 a1, r1.2)
  else
  (F.spec_l1Byte a0).bind fun r2 =>
  (F.spec_l1Byte r2.2).bind fun r3 =>
  (F.spec_l1Byte r3.2).bind fun r4 =>
  (F.spec_l1Byte r4.2).bind fun r5 =>
  nchk (a1 == 0) <|
  some (Int.tmod (w64 ((w64 ((w64 ((w64 (r2.1 * 16777216)) + (w64 (r3.1 * 65536)))) + (w64 (r4.1 * 256)))) + r5.1)) a1, r5.2)
noncomputable def C.spec_l1Below : Con := ⟨[.p y0 y0, .r (.val (.int .i64))], .one (.int .i64), fun x => F.spec_l1Below x.1 x.2.1⟩
noncomputable def K.spec_l1Below : Cons := lookK [(42, [], C.spec_l1Byte)]
theorem run.spec_l1Below : Rn K.spec_l1Below L0 [0] Tryd.f21 C.spec_l1Below := fun x => by kernel_rfl

/-! ### spec.l5Copy: function 47 -/
noncomputable def F.spec_l5Copy (a0 : List DSpan) : Option (List DSpan) :=
  chk (fits (List.length ([] : List DSpan) + List.length a0) 16) <|
  some (([] : List DSpan) ++ a0)
noncomputable def C.spec_l5Copy : Con := ⟨[.r (.val (.sl false 51 y1))], .one (.sl true 51 y1), fun x => F.spec_l5Copy x.1⟩
noncomputable def K.spec_l5Copy : Cons := lookK []
theorem run.spec_l5Copy : Rn K.spec_l5Copy L0 [] Tryd.f47 C.spec_l5Copy := fun x => by kernel_rfl

/-! ### spec.l9Copy: function 27 -/
noncomputable def F.spec_l9Copy (a0 : DSeat) : Option DSeat :=
  (F.spec_l5Copy a0.2.2.1).bind fun r1 =>
  some (a0.1, a0.2.1, r1, a0.2.2.2)
noncomputable def C.spec_l9Copy : Con := ⟨[.r (.val y3)], .one y2, fun x => F.spec_l9Copy x.1⟩
noncomputable def K.spec_l9Copy : Cons := lookK [(47, [], C.spec_l5Copy)]
theorem run.spec_l9Copy : Rn K.spec_l9Copy L0 [] Tryd.f27 C.spec_l9Copy := fun x => by kernel_rfl

/-! ### spec.l1In: function 28 -/
noncomputable def F.spec_l1In (a0 : Int) (a1 : Int) (a2 : Int) : Option Bool :=
  bif decide (a0 ≥ a1) then
    some (decide (a0 ≤ a2))
  else
    some false
noncomputable def C.spec_l1In : Con := ⟨[.r (.val (.int .i64)), .r (.val (.int .i64)), .r (.val (.int .i64))], .one .bool, fun x => F.spec_l1In x.1 x.2.1 x.2.2.1⟩
noncomputable def K.spec_l1In : Cons := lookK []
theorem run.spec_l1In : Rn K.spec_l1In L0 [] Tryd.f28 C.spec_l1In := fun x => by kernel_rfl

/-! ### spec.SetOk: function 49 -/
noncomputable def F.spec_SetOk.s2 : Stp ((List DSpan) × Int × Unit) Bool := fun (x1, x2, _) =>
  bif decide (x2 < (len x1)) then
    chk (inb x2 x1.length) <|
    (F.spec_l1In ((x1.getD x2.toNat (0, 0, ())).1) 0 9999).bind fun r3 =>
    bif !r3 then
      some (.ret false)
    else
    chk (inb x2 x1.length) <|
    chk (inb x2 x1.length) <|
    (F.spec_l1In (((x1.getD x2.toNat (0, 0, ())).2).1) ((x1.getD x2.toNat (0, 0, ())).1) 9999).bind fun r4 =>
    bif !r4 then
      some (.ret false)
    else
    bif decide (x2 > 0) then
      chk (inb x2 x1.length) <|
      chk (inb (w64 (x2 - 1)) x1.length) <|
      bif decide (((x1.getD x2.toNat (0, 0, ())).1) ≤ (w64 ((((x1.getD (Int.toNat (w64 (x2 - 1))) (0, 0, ())).2).1) + 1))) then
        some (.ret false)
      else
        some (.again (x1, w64 (x2 + 1), ()))
    else
      some (.again (x1, w64 (x2 + 1), ()))
  else
    some (.exit (x1, x2, ()))
noncomputable def F.spec_SetOk (a0 : List DSpan) : Option Bool :=
  afterO (loopO F.spec_SetOk.s2 (a0, 0, ())) fun (x5, x6, _) =>
  some true
noncomputable def C.spec_SetOk : Con := ⟨[.r (.val (.sl false 51 y1))], .one .bool, fun x => F.spec_SetOk x.1⟩
def L.spec_SetOk : Loops := lookL [(2, ⟨[.pat 0 (.val (.sl false 51 y1)), .pat 3 (.val (.int .i64))], 0⟩)]
noncomputable def K.spec_SetOk : Cons := lookK [(28, [], C.spec_l1In)]
theorem run.spec_SetOk : Rn K.spec_SetOk L.spec_SetOk [] Tryd.f49 C.spec_SetOk := fun x => by kernel_rfl

/-! ### spec.l8Below: function 34 -/
noncomputable def F.spec_l8Below.s4 : Stp ((List DSpan) × Int × Int × Unit) Bool := fun (x2, x3, x4, _) =>
  bif decide (x4 < (len x2)) then
    chk (inb x4 x2.length) <|
    bif decide (((x2.getD x4.toNat (0, 0, ())).1) < 1) then
      some (.ret false)
    else
    chk (inb x4 x2.length) <|
    bif decide ((((x2.getD x4.toNat (0, 0, ())).2).1) > x3) then
      some (.ret false)
    else
      some (.again (x2, x3, w64 (x4 + 1), ()))
  else
    some (.exit (x2, x3, x4, ()))
noncomputable def F.spec_l8Below (a0 : List DSpan) (a1 : Int) : Option Bool :=
  (F.spec_SetOk a0).bind fun r1 =>
  bif !r1 then
    some false
  else
  afterO (loopO F.spec_l8Below.s4 (a0, a1, 0, ())) fun (x5, x6, x7, _) =>
  some true
noncomputable def C.spec_l8Below : Con := ⟨[.r (.val (.sl false 51 y1)), .r (.val (.int .i64))], .one .bool, fun x => F.spec_l8Below x.1 x.2.1⟩
def L.spec_l8Below : Loops := lookL [(4, ⟨[.pat 0 (.val (.sl false 51 y1)), .pat 1 (.val (.int .i64)), .pat 5 (.val (.int .i64))], 0⟩)]
noncomputable def K.spec_l8Below : Cons := lookK [(49, [], C.spec_SetOk)]
theorem run.spec_l8Below : Rn K.spec_l8Below L.spec_l8Below [] Tryd.f34 C.spec_l8Below := fun x => by kernel_rfl

/-! ### spec.SetSize: function 35 -/
noncomputable def F.spec_SetSize.s5 : Stp ((List DSpan) × Int × Int × Unit) Int := fun (x2, x3, x4, _) =>
  bif decide (x4 < (len x2)) then
    chk (inb x4 x2.length) <|
    chk (inb x4 x2.length) <|
    some (.again (x2, w64 ((w64 ((w64 (x3 + (((x2.getD x4.toNat (0, 0, ())).2).1))) - ((x2.getD x4.toNat (0, 0, ())).1))) + 1), w64 (x4 + 1), ()))
  else
    some (.exit (x2, x3, x4, ()))
noncomputable def F.spec_SetSize (a0 : List DSpan) : Option Int :=
  (F.spec_SetOk a0).bind fun r1 =>
  bif !r1 then
    some 0
  else
  afterO (loopO F.spec_SetSize.s5 (a0, 0, 0, ())) fun (x5, x6, x7, _) =>
  some x6
noncomputable def C.spec_SetSize : Con := ⟨[.r (.val (.sl false 51 y1))], .one (.int .i64), fun x => F.spec_SetSize x.1⟩
def L.spec_SetSize : Loops := lookL [(5, ⟨[.pat 0 (.val (.sl false 51 y1)), .pat 3 (.val (.int .i64)), .pat 4 (.val (.int .i64))], 0⟩)]
noncomputable def K.spec_SetSize : Cons := lookK [(49, [], C.spec_SetOk)]
theorem run.spec_SetSize : Rn K.spec_SetSize L.spec_SetSize [] Tryd.f35 C.spec_SetSize := fun x => by kernel_rfl

/-! ### spec.SeatOk: function 13 -/
noncomputable def F.spec_SeatOk (a0 : DSeat) (a1 : Int) : Option Bool :=
  (F.spec_l1In a1 1 8).bind fun r1 =>
  bif r1 then
    (F.spec_l1In a0.1 0 1000).bind fun r2 =>
    bif r2 then
      (F.spec_l1In a0.2.1 0 60).bind fun r3 =>
      bif r3 then
        (F.spec_l8Below a0.2.2.1 a0.2.1).bind fun r4 =>
        bif r4 then
          (F.spec_SetSize a0.2.2.1).bind fun r5 =>
          (F.spec_l1In a0.2.2.2.1 0 r5).bind fun r6 =>
          bif r6 then
            bif decide (a0.2.1 ≤ (w64 (a0.2.2.2.1 + a1))) then
              (F.spec_l1In a0.2.2.2.2.1 0 1000000).bind fun r7 =>
              some r7
            else
              some false
          else
            some false
        else
          some false
      else
        some false
    else
      some false
  else
    some false
noncomputable def C.spec_SeatOk : Con := ⟨[.r (.val y3), .r (.val (.int .i64))], .one .bool, fun x => F.spec_SeatOk x.1 x.2.1⟩
noncomputable def K.spec_SeatOk : Cons := lookK [(28, [], C.spec_l1In), (34, [], C.spec_l8Below), (35, [], C.spec_SetSize)]
theorem run.spec_SeatOk : Rn K.spec_SeatOk L0 [] Tryd.f13 C.spec_SeatOk := fun x => by kernel_rfl

/-! ### spec.l1Min: function 33 -/
noncomputable def F.spec_l1Min (a0 : Int) (a1 : Int) : Option Int :=
  bif decide (a0 < a1) then
    some a0
  else
    some a1
noncomputable def C.spec_l1Min : Con := ⟨[.r (.val (.int .i64)), .r (.val (.int .i64))], .one (.int .i64), fun x => F.spec_l1Min x.1 x.2.1⟩
noncomputable def K.spec_l1Min : Cons := lookK []
theorem run.spec_l1Min : Rn K.spec_l1Min L0 [] Tryd.f33 C.spec_l1Min := fun x => by kernel_rfl

/-! ### spec.SeatGrant: function 11 -/
noncomputable def F.spec_SeatGrant (a0 : DSeat) (a1 : Int) : Option DSeat :=
  (F.spec_l9Copy a0).bind fun r1 =>
  (F.spec_SeatOk a0 a1).bind fun r2 =>
  bif r2 then
    (F.spec_l1Min 60 (w64 (a0.2.2.2.1 + a1))).bind fun r3 =>
    some (r1.1, r3, r1.2.2)
  else
    some r1
noncomputable def C.spec_SeatGrant : Con := ⟨[.r (.val y3), .r (.val (.int .i64))], .one y2, fun x => F.spec_SeatGrant x.1 x.2.1⟩
noncomputable def K.spec_SeatGrant : Cons := lookK [(13, [], C.spec_SeatOk), (27, [], C.spec_l9Copy), (33, [], C.spec_l1Min)]
theorem run.spec_SeatGrant : Rn K.spec_SeatGrant L0 [] Tryd.f11 C.spec_SeatGrant := fun x => by kernel_rfl

/-! ### spec.SetHas: function 29 -/
noncomputable def F.spec_SetHas.s2 : Stp ((List DSpan) × Int × Int × Unit) Bool := fun (x1, x2, x3, _) =>
  bif decide (x3 < (len x1)) then
    chk (inb x3 x1.length) <|
    chk (inb x3 x1.length) <|
    (F.spec_l1In x2 ((x1.getD x3.toNat (0, 0, ())).1) (((x1.getD x3.toNat (0, 0, ())).2).1)).bind fun r4 =>
    bif r4 then
      some (.ret true)
    else
      some (.again (x1, x2, w64 (x3 + 1), ()))
  else
    some (.exit (x1, x2, x3, ()))
noncomputable def F.spec_SetHas (a0 : List DSpan) (a1 : Int) : Option Bool :=
  afterO (loopO F.spec_SetHas.s2 (a0, a1, 0, ())) fun (x5, x6, x7, _) =>
  some false
noncomputable def C.spec_SetHas : Con := ⟨[.r (.val (.sl false 51 y1)), .r (.val (.int .i64))], .one .bool, fun x => F.spec_SetHas x.1 x.2.1⟩
def L.spec_SetHas : Loops := lookL [(2, ⟨[.pat 0 (.val (.sl false 51 y1)), .pat 1 (.val (.int .i64)), .pat 5 (.val (.int .i64))], 0⟩)]
noncomputable def K.spec_SetHas : Cons := lookK [(28, [], C.spec_l1In)]
theorem run.spec_SetHas : Rn K.spec_SetHas L.spec_SetHas [] Tryd.f29 C.spec_SetHas := fun x => by kernel_rfl

/-! ### spec.l8One: function 31 -/
noncomputable def F.spec_l8One (a0 : Int) : Option DSpan :=
  some (a0, a0, ())
noncomputable def C.spec_l8One : Con := ⟨[.r (.val (.int .i64))], .one y1, fun x => F.spec_l8One x.1⟩
noncomputable def K.spec_l8One : Cons := lookK []
theorem run.spec_l8One : Rn K.spec_l8One L0 [] Tryd.f31 C.spec_l8One := fun x => by kernel_rfl

/-! ### spec.l1Max: function 48 -/
noncomputable def F.spec_l1Max (a0 : Int) (a1 : Int) : Option Int :=
  bif decide (a0 > a1) then
    some a0
  else
    some a1
noncomputable def C.spec_l1Max : Con := ⟨[.r (.val (.int .i64)), .r (.val (.int .i64))], .one (.int .i64), fun x => F.spec_l1Max x.1 x.2.1⟩
noncomputable def K.spec_l1Max : Cons := lookK []
theorem run.spec_l1Max : Rn K.spec_l1Max L0 [] Tryd.f48 C.spec_l1Max := fun x => by kernel_rfl

/-! ### spec.l5Put: function 30 -/
noncomputable def F.spec_l5Put.s4 : Stp ((List DSpan) × (List DSpan) × Bool × Int × DSpan × Unit) (List DSpan) := fun (x1, x2, x3, x4, x5, _) =>
  bif decide (x4 < (len x1)) then
    chk (inb x4 x1.length) <|
    bif decide ((w64 ((((x1.getD x4.toNat (0, 0, ())).2).1) + 1)) < x5.1) then
      chk (inb x4 x1.length) <|
      chk (fits (List.length x2 + List.length ([x1.getD x4.toNat (0, 0, ())])) 16) <|
      some (.again (x1, x2 ++ ([x1.getD x4.toNat (0, 0, ())]), x3, w64 (x4 + 1), x5, ()))
    else
    chk (inb x4 x1.length) <|
    bif decide (((x1.getD x4.toNat (0, 0, ())).1) > (w64 (x5.2.1 + 1))) then
      bif !x3 then
        chk (fits (List.length x2 + List.length ([x5])) 16) <|
        chk (inb x4 x1.length) <|
        chk (fits (List.length (x2 ++ ([x5])) + List.length ([x1.getD x4.toNat (0, 0, ())])) 16) <|
        some (.again (x1, (x2 ++ ([x5])) ++ ([x1.getD x4.toNat (0, 0, ())]), true, w64 (x4 + 1), x5, ()))
      else
      chk (inb x4 x1.length) <|
      chk (fits (List.length x2 + List.length ([x1.getD x4.toNat (0, 0, ())])) 16) <|
      some (.again (x1, x2 ++ ([x1.getD x4.toNat (0, 0, ())]), x3, w64 (x4 + 1), x5, ()))
    else
    chk (inb x4 x1.length) <|
    (F.spec_l1Min x5.1 ((x1.getD x4.toNat (0, 0, ())).1)).bind fun r6 =>
    chk (inb x4 x1.length) <|
    (F.spec_l1Max x5.2.1 (((x1.getD x4.toNat (0, 0, ())).2).1)).bind fun r7 =>
    some (.again (x1, x2, x3, w64 (x4 + 1), (r6, r7, ()), ()))
  else
    some (.exit (x1, x2, x3, x4, x5, ()))
noncomputable def F.spec_l5Put (a0 : List DSpan) (a1 : DSpan) : Option (List DSpan) :=
  afterO (loopO F.spec_l5Put.s4 (a0, ([] : List DSpan), false, 0, a1, ())) fun (x8, x9, x10, x11, x12, _) =>
  bif !x10 then
    chk (fits (List.length x9 + List.length ([x12])) 16) <|
    some (x9 ++ ([x12]))
  else
    some x9
noncomputable def C.spec_l5Put : Con := ⟨[.r (.val (.sl false 51 y1)), .r (.val y1)], .one (.sl true 51 y1), fun x => F.spec_l5Put x.1 x.2.1⟩
def L.spec_l5Put : Loops := lookL [(4, ⟨[.pat 0 (.val (.sl false 51 y1)), .own 5 (.sl true 51 y1), .pat 6 (.val .bool), .pat 7 (.val (.int .i64)), .root 3 true y1 [3]], 0⟩)]
noncomputable def K.spec_l5Put : Cons := lookK [(33, [], C.spec_l1Min), (48, [], C.spec_l1Max)]
theorem run.spec_l5Put : Rn K.spec_l5Put L.spec_l5Put [] Tryd.f30 C.spec_l5Put := fun x => by kernel_rfl

/-! ### spec.SeatData: function 7 -/
noncomputable def F.spec_SeatData (a0 : DSeat) (a1 : Int) (a2 : Int) (a3 : Int) : Option (DSeat × Int) :=
  (F.spec_l9Copy a0).bind fun r1 =>
  (F.spec_SeatOk a0 a1).bind fun r2 =>
  bif !r2 then
    some (r1, 4)
  else
  (F.spec_l1In a3 1 60).bind fun r3 =>
  bif !r3 then
    some (r1, 4)
  else
  bif a2 != a0.1 then
    some (r1, 2)
  else
  (F.spec_SetHas a0.2.2.1 a3).bind fun r4 =>
  bif r4 then
    some (r1, 1)
  else
  bif decide (a3 > a0.2.1) then
    some (r1, 3)
  else
  (F.spec_l8One a3).bind fun r5 =>
  (F.spec_l5Put a0.2.2.1 r5).bind fun r6 =>
  some ((r1.1, r1.2.1, r6, r1.2.2.2), 0)
noncomputable def C.spec_SeatData : Con := ⟨[.r (.val y3), .r (.val (.int .i64)), .r (.val (.int .i64)), .r (.val (.int .i64))], .many [y2, (.int .i64)], fun x => F.spec_SeatData x.1 x.2.1 x.2.2.1 x.2.2.2.1⟩
noncomputable def K.spec_SeatData : Cons := lookK [(13, [], C.spec_SeatOk), (27, [], C.spec_l9Copy), (28, [], C.spec_l1In), (29, [], C.spec_SetHas), (30, [], C.spec_l5Put), (31, [], C.spec_l8One)]
theorem run.spec_SeatData : Rn K.spec_SeatData L0 [] Tryd.f7 C.spec_SeatData := fun x => by kernel_rfl

/-! ### spec.l1Once: function 20 -/
noncomputable def F.spec_l1Once (a0 : DL1Cur) (a1 : Int) : Option (Bool × DL1Cur) :=
  (F.spec_l1Below a0 a1).bind fun r1 =>
  some (r1.1 == 0, r1.2)
noncomputable def C.spec_l1Once : Con := ⟨[.p y0 y0, .r (.val (.int .i64))], .one .bool, fun x => F.spec_l1Once x.1 x.2.1⟩
noncomputable def K.spec_l1Once : Cons := lookK [(21, [], C.spec_l1Below)]
theorem run.spec_l1Once : Rn K.spec_l1Once L0 [0] Tryd.f20 C.spec_l1Once := fun x => by kernel_rfl

/-! ### spec.SeatMerge: function 54 -/
noncomputable def F.spec_SeatMerge (a0 : DSeat) (a1 : Int) (a2 : Int) : Option (DSeat × Bool) :=
  (F.spec_l9Copy a0).bind fun r1 =>
  (F.spec_SeatOk a0 a1).bind fun r2 =>
  bif !r2 then
    some (r1, false)
  else
  (F.spec_l1In a2 0 60).bind fun r3 =>
  bif !r3 then
    some (r1, false)
  else
  (F.spec_SeatOk (r1.1, r1.2.1, r1.2.2.1, w64 (a0.2.2.2.1 + a2), r1.2.2.2.2) a1).bind fun r4 =>
  bif !r4 then
    (F.spec_l9Copy a0).bind fun r5 =>
    some (r5, false)
  else
    some ((r1.1, r1.2.1, r1.2.2.1, w64 (a0.2.2.2.1 + a2), r1.2.2.2.2), true)
noncomputable def C.spec_SeatMerge : Con := ⟨[.r (.val y3), .r (.val (.int .i64)), .r (.val (.int .i64))], .many [y2, .bool], fun x => F.spec_SeatMerge x.1 x.2.1 x.2.2.1⟩
noncomputable def K.spec_SeatMerge : Cons := lookK [(13, [], C.spec_SeatOk), (27, [], C.spec_l9Copy), (28, [], C.spec_l1In)]
theorem run.spec_SeatMerge : Rn K.spec_SeatMerge L0 [] Tryd.f54 C.spec_SeatMerge := fun x => by kernel_rfl

/-! ### spec.l9Right: function 40 -/
noncomputable def F.spec_l9Right.s4 : Stp (Int × Int × Int × DL1Cur × DSeat × DSeat × Unit) (DSeat × DL1Cur) := fun (x4, x5, x6, x7, x8, x9, _) =>
  bif decide (x6 < x5) then
    (F.spec_l1Below x7 12).bind fun r10 =>
    (F.spec_SeatData x9 x4 0 (w64 (1 + r10.1))).bind fun r11 =>
    (F.spec_l1Once r10.2 3).bind fun r12 =>
    bif r12.1 then
      (F.spec_SeatMerge r11.1 x4 1).bind fun r13 =>
      (F.spec_SeatGrant r13.1 x4).bind fun r14 =>
      some (.again (x4, x5, w64 (x6 + 1), r12.2, x8, r14, ()))
    else
      some (.again (x4, x5, w64 (x6 + 1), r12.2, x8, r11.1, ()))
  else
    some (.exit (x4, x5, x6, x7, x8, x9, ()))
noncomputable def F.spec_l9Right (a0 : DL1Cur) (a1 : Int) : Option (DSeat × DL1Cur) :=
  (F.spec_l1Below a0 5).bind fun r1 =>
  (F.spec_SeatGrant (0, 0, ([] : List DSpan), 0, r1.1, ()) a1).bind fun r2 =>
  (F.spec_l1Below r1.2 7).bind fun r3 =>
  afterO (loopO F.spec_l9Right.s4 (a1, r3.1, 0, r3.2, (0, 0, ([] : List DSpan), 0, 0, ()), r2, ())) fun (x15, x16, x17, x18, x19, x20, _) =>
  (F.spec_l1Below x18 3).bind fun r21 =>
  some ((r21.1, x20.2), r21.2)
noncomputable def C.spec_l9Right : Con := ⟨[.p y0 y0, .r (.val (.int .i64))], .one y2, fun x => F.spec_l9Right x.1 x.2.1⟩
def L.spec_l9Right : Loops := lookL [(4, ⟨[.pat 1 (.val (.int .i64)), .pat 6 (.val (.int .i64)), .pat 7 (.val (.int .i64)), .root 0 true y0 [0], .root 4 true y2 [4], .root 5 true y2 [5]], 0⟩)]
noncomputable def K.spec_l9Right : Cons := lookK [(7, [], C.spec_SeatData), (11, [], C.spec_SeatGrant), (20, [], C.spec_l1Once), (21, [], C.spec_l1Below), (54, [], C.spec_SeatMerge)]
theorem run.spec_l9Right : Rn K.spec_l9Right L.spec_l9Right [0] Tryd.f40 C.spec_l9Right := fun x => by kernel_rfl

/-! ### spec.l1PickInt: function 22 -/
noncomputable def F.spec_l1PickInt (a0 : DL1Cur) (a1 : List Int) : Option (Int × DL1Cur) :=
  (F.spec_l1Below a0 (len a1)).bind fun r1 =>
  chk (inb r1.1 a1.length) <|
  some (a1.getD (Int.toNat r1.1) 0, r1.2)
noncomputable def C.spec_l1PickInt : Con := ⟨[.p y0 y0, .r (.val (.sl false 3 (.int .i64)))], .one (.int .i64), fun x => F.spec_l1PickInt x.1 x.2.1⟩
noncomputable def K.spec_l1PickInt : Cons := lookK [(21, [], C.spec_l1Below)]
theorem run.spec_l1PickInt : Rn K.spec_l1PickInt L0 [0] Tryd.f22 C.spec_l1PickInt := fun x => by kernel_rfl

/-! ### spec.l5Right: function 55 -/
noncomputable def F.spec_l5Right.s4 : Stp ((List DSpan) × Int × Int × DL1Cur × Unit) ((List DSpan) × DL1Cur) := fun (x2, x3, x4, x5, _) =>
  bif decide (x4 < x3) then
    (F.spec_l1Below x5 20).bind fun r6 =>
    (F.spec_l1Below r6.2 20).bind fun r7 =>
    (F.spec_l1Below r7.2 10).bind fun r8 =>
    (F.spec_l1PickInt r8.2 ([r6.1, r7.1, w64 (9990 + r8.1)])).bind fun r9 =>
    (F.spec_l1Below r9.2 3).bind fun r10 =>
    (F.spec_l1Min (w64 (r9.1 + r10.1)) 9999).bind fun r11 =>
    (F.spec_l5Put x2 (r9.1, r11, ())).bind fun r12 =>
    some (.again (r12, x3, w64 (x4 + 1), r10.2, ()))
  else
    some (.exit (x2, x3, x4, x5, ()))
noncomputable def F.spec_l5Right (a0 : DL1Cur) : Option ((List DSpan) × DL1Cur) :=
  (F.spec_l1Below a0 7).bind fun r1 =>
  afterO (loopO F.spec_l5Right.s4 (([] : List DSpan), r1.1, 0, r1.2, ())) fun (x13, x14, x15, x16, _) =>
  some (x13, x16)
noncomputable def C.spec_l5Right : Con := ⟨[.p y0 y0], .one (.sl true 51 y1), fun x => F.spec_l5Right x.1⟩
def L.spec_l5Right : Loops := lookL [(4, ⟨[.own 3 (.sl true 51 y1), .pat 4 (.val (.int .i64)), .pat 5 (.val (.int .i64)), .root 0 true y0 [0]], 0⟩)]
noncomputable def K.spec_l5Right : Cons := lookK [(21, [], C.spec_l1Below), (22, [], C.spec_l1PickInt), (30, [], C.spec_l5Put), (33, [], C.spec_l1Min)]
theorem run.spec_l5Right : Rn K.spec_l5Right L.spec_l5Right [0] Tryd.f55 C.spec_l5Right := fun x => by kernel_rfl

/-! ### spec.l5Draw: function 41 -/
noncomputable def F.spec_l5Draw (a0 : DL1Cur) : Option ((List DSpan) × DL1Cur) :=
  (F.spec_l5Right a0).bind fun r1 =>
  (F.spec_l1Once r1.2 8).bind fun r2 =>
  bif r2.1 then
    (F.spec_l1PickInt r2.2 ([-1, 3, 10000])).bind fun r3 =>
    (F.spec_l1PickInt r3.2 ([5, 10000, 9223372036854775807])).bind fun r4 =>
    chk (fits (List.length r1.1 + List.length ([(r3.1, r4.1, ())])) 16) <|
    some (r1.1 ++ ([(r3.1, r4.1, ())]), r4.2)
  else
    some (r1.1, r2.2)
noncomputable def C.spec_l5Draw : Con := ⟨[.p y0 y0], .one (.sl true 51 y1), fun x => F.spec_l5Draw x.1⟩
noncomputable def K.spec_l5Draw : Cons := lookK [(20, [], C.spec_l1Once), (22, [], C.spec_l1PickInt), (55, [], C.spec_l5Right)]
theorem run.spec_l5Draw : Rn K.spec_l5Draw L0 [0] Tryd.f41 C.spec_l5Draw := fun x => by kernel_rfl

/-! ### spec.l9Draw: function 19 -/
noncomputable def F.spec_l9Draw (a0 : DL1Cur) : Option (DSeat × Int × DL1Cur) :=
  (F.spec_l1Below a0 8).bind fun r1 =>
  (F.spec_l9Right r1.2 (w64 (1 + r1.1))).bind fun r2 =>
  (F.spec_l1Below r2.2 14).bind fun r3 =>
  bif r3.1 == 0 then
    (F.spec_l1PickInt r3.2 ([-1, 60, 61, 0])).bind fun r4 =>
    some ((r2.1.1, r4.1, r2.1.2.2), w64 (1 + r1.1), r4.2)
  else
  bif r3.1 == 1 then
    (F.spec_l5Draw r3.2).bind fun r5 =>
    some ((r2.1.1, r2.1.2.1, r5.1, r2.1.2.2.2), w64 (1 + r1.1), r5.2)
  else
  bif r3.1 == 2 then
    (F.spec_l1PickInt r3.2 ([-1, 1, 9, 9223372036854775807])).bind fun r6 =>
    some ((r2.1.1, r2.1.2.1, r2.1.2.2.1, r6.1, r2.1.2.2.2.2), w64 (1 + r1.1), r6.2)
  else
  bif r3.1 == 3 then
    (F.spec_l1PickInt r3.2 ([-1, 1000, 1001])).bind fun r7 =>
    some ((r7.1, r2.1.2), w64 (1 + r1.1), r7.2)
  else
  bif r3.1 == 4 then
    (F.spec_l1PickInt r3.2 ([0, 9, 1])).bind fun r8 =>
    some (r2.1, r8.1, r8.2)
  else
    some (r2.1, w64 (1 + r1.1), r3.2)
noncomputable def C.spec_l9Draw : Con := ⟨[.p y0 y0], .many [y2, (.int .i64)], fun x => F.spec_l9Draw x.1⟩
noncomputable def K.spec_l9Draw : Cons := lookK [(21, [], C.spec_l1Below), (22, [], C.spec_l1PickInt), (40, [], C.spec_l9Right), (41, [], C.spec_l5Draw)]
theorem run.spec_l9Draw : Rn K.spec_l9Draw L0 [0] Tryd.f19 C.spec_l9Draw := fun x => by kernel_rfl

/-! ### spec.DrawSeatData: function 5 -/
noncomputable def F.spec_DrawSeatData (a0 : List Int) : Option (DSeat × Int × Int × Int) :=
  (F.spec_l1New a0).bind fun r1 =>
  (F.spec_l9Draw r1).bind fun r2 =>
  (F.spec_l1Once r2.2.2 5).bind fun r3 =>
  bif r3.1 then
    (F.spec_l1Below r3.2 4).bind fun r4 =>
    (F.spec_l1Below r4.2 9).bind fun r5 =>
    (F.spec_l1Below r5.2 9).bind fun r6 =>
    (F.spec_l1PickInt r6.2 ([w64 (1 + r5.1), w64 (1 + r6.1), 0, 60, 61])).bind fun r7 =>
    some (r2.1, r2.2.1, r4.1, r7.1)
  else
  (F.spec_l1Below r3.2 9).bind fun r8 =>
  (F.spec_l1Below r8.2 9).bind fun r9 =>
  (F.spec_l1PickInt r9.2 ([w64 (1 + r8.1), w64 (1 + r9.1), 0, 60, 61])).bind fun r10 =>
  some (r2.1, r2.2.1, r2.1.1, r10.1)
noncomputable def C.spec_DrawSeatData : Con := ⟨[.r (.val (.sl false 5 (.int .u8)))], .many [y2, (.int .i64), (.int .i64), (.int .i64)], fun x => F.spec_DrawSeatData x.1⟩
noncomputable def K.spec_DrawSeatData : Cons := lookK [(18, [], C.spec_l1New), (19, [], C.spec_l9Draw), (20, [], C.spec_l1Once), (21, [], C.spec_l1Below), (22, [], C.spec_l1PickInt)]
theorem run.spec_DrawSeatData : Rn K.spec_DrawSeatData L0 [] Tryd.f5 C.spec_DrawSeatData := fun x => by kernel_rfl

/-! ### impl.copySet: function 43 -/
noncomputable def F.impl_copySet (a0 : List DSpan) : Option (List DSpan) :=
  chk (fits a0.length 16) <|
  some a0
noncomputable def C.impl_copySet : Con := ⟨[.r (.val (.sl false 51 y1))], .one (.sl true 51 y1), fun x => F.impl_copySet x.1⟩
noncomputable def K.impl_copySet : Cons := lookK []
theorem run.impl_copySet : Rn K.impl_copySet L0 [] Tryd.f43 C.impl_copySet := fun x => by kernel_rfl

/-! ### impl.copySeat: function 23 -/
noncomputable def F.impl_copySeat (a0 : DSeat) : Option DSeat :=
  (F.impl_copySet a0.2.2.1).bind fun r1 =>
  some (a0.1, a0.2.1, r1, a0.2.2.2)
noncomputable def C.impl_copySeat : Con := ⟨[.r (.val y3)], .one y2, fun x => F.impl_copySeat x.1⟩
noncomputable def K.impl_copySeat : Cons := lookK [(43, [], C.impl_copySet)]
theorem run.impl_copySeat : Rn K.impl_copySeat L0 [] Tryd.f23 C.impl_copySeat := fun x => by kernel_rfl

/-! ### impl.within: function 24 -/
noncomputable def F.impl_within (a0 : Int) (a1 : Int) (a2 : Int) : Option Bool :=
  bif decide (a0 ≥ a1) then
    some (decide (a0 ≤ a2))
  else
    some false
noncomputable def C.impl_within : Con := ⟨[.r (.val (.int .i64)), .r (.val (.int .i64)), .r (.val (.int .i64))], .one .bool, fun x => F.impl_within x.1 x.2.1 x.2.2.1⟩
noncomputable def K.impl_within : Cons := lookK []
theorem run.impl_within : Rn K.impl_within L0 [] Tryd.f24 C.impl_within := fun x => by kernel_rfl

/-! ### impl.SetOk: function 39 -/
noncomputable def F.impl_SetOk.s2 : Stp ((List DSpan) × (List DSpan) × Int × Int × Unit) Bool := fun (x1, x2, x3, x4, _) =>
  bif decide (x4 < x3) then
    chk (inb x4 x2.length) <|
    (F.impl_within ((x2.getD x4.toNat (0, 0, ())).1) 0 9999).bind fun r5 =>
    bif !r5 then
      some (.ret false)
    else
    (F.impl_within (((x2.getD x4.toNat (0, 0, ())).2).1) ((x2.getD x4.toNat (0, 0, ())).1) 9999).bind fun r6 =>
    bif !r6 then
      some (.ret false)
    else
    bif decide (x4 > 0) then
      chk (inb (w64 (x4 - 1)) x1.length) <|
      bif decide (((x2.getD x4.toNat (0, 0, ())).1) ≤ (w64 ((((x1.getD (Int.toNat (w64 (x4 - 1))) (0, 0, ())).2).1) + 1))) then
        some (.ret false)
      else
        some (.again (x1, x2, x3, w64 (x4 + 1), ()))
    else
      some (.again (x1, x2, x3, w64 (x4 + 1), ()))
  else
    some (.exit (x1, x2, x3, x4, ()))
noncomputable def F.impl_SetOk (a0 : List DSpan) : Option Bool :=
  afterO (loopO F.impl_SetOk.s2 (a0, a0, len a0, 0, ())) fun (x7, x8, x9, x10, _) =>
  some true
noncomputable def C.impl_SetOk : Con := ⟨[.r (.val (.sl false 51 y1))], .one .bool, fun x => F.impl_SetOk x.1⟩
def L.impl_SetOk : Loops := lookL [(2, ⟨[.pat 0 (.val (.sl false 51 y1)), .pat 5 (.val (.sl false 51 y1)), .pat 6 (.val (.int .i64)), .pat 7 (.val (.int .i64))], 0⟩)]
noncomputable def K.impl_SetOk : Cons := lookK [(24, [], C.impl_within)]
theorem run.impl_SetOk : Rn K.impl_SetOk L.impl_SetOk [] Tryd.f39 C.impl_SetOk := fun x => by kernel_rfl

/-! ### impl.allIn: function 36 -/
noncomputable def F.impl_allIn (a0 : List DSpan) (a1 : Int) (a2 : Int) : Option Bool :=
  (F.impl_SetOk a0).bind fun r1 =>
  bif r1 then
    bif (len a0) == 0 then
      some true
    else
    chk (inb 0 a0.length) <|
    bif decide (((a0.getD 0 (0, 0, ())).1) ≥ a1) then
      chk (inb (w64 ((len a0) - 1)) a0.length) <|
      some (decide ((((a0.getD (Int.toNat (w64 ((len a0) - 1))) (0, 0, ())).2).1) ≤ a2))
    else
      some false
  else
    some false
noncomputable def C.impl_allIn : Con := ⟨[.r (.val (.sl false 51 y1)), .r (.val (.int .i64)), .r (.val (.int .i64))], .one .bool, fun x => F.impl_allIn x.1 x.2.1 x.2.2.1⟩
noncomputable def K.impl_allIn : Cons := lookK [(39, [], C.impl_SetOk)]
theorem run.impl_allIn : Rn K.impl_allIn L0 [] Tryd.f36 C.impl_allIn := fun x => by kernel_rfl

/-! ### impl.SetSize: function 17 -/
noncomputable def F.impl_SetSize.s5 : Stp (Int × (List DSpan) × Int × Int × Unit) Int := fun (x2, x3, x4, x5, _) =>
  bif decide (x5 < x4) then
    chk (inb x5 x3.length) <|
    some (.again (w64 (x2 + (w64 ((w64 ((((x3.getD x5.toNat (0, 0, ())).2).1) - ((x3.getD x5.toNat (0, 0, ())).1))) + 1))), x3, x4, w64 (x5 + 1), ()))
  else
    some (.exit (x2, x3, x4, x5, ()))
noncomputable def F.impl_SetSize (a0 : List DSpan) : Option Int :=
  (F.impl_SetOk a0).bind fun r1 =>
  bif !r1 then
    some 0
  else
  afterO (loopO F.impl_SetSize.s5 (0, a0, len a0, 0, ())) fun (x6, x7, x8, x9, _) =>
  some x6
noncomputable def C.impl_SetSize : Con := ⟨[.r (.val (.sl false 51 y1))], .one (.int .i64), fun x => F.impl_SetSize x.1⟩
def L.impl_SetSize : Loops := lookL [(5, ⟨[.pat 3 (.val (.int .i64)), .pat 9 (.val (.sl false 51 y1)), .pat 10 (.val (.int .i64)), .pat 11 (.val (.int .i64))], 0⟩)]
noncomputable def K.impl_SetSize : Cons := lookK [(39, [], C.impl_SetOk)]
theorem run.impl_SetSize : Rn K.impl_SetSize L.impl_SetSize [] Tryd.f17 C.impl_SetSize := fun x => by kernel_rfl

/-! ### impl.SeatOk: function 14 -/
noncomputable def F.impl_SeatOk (a0 : DSeat) (a1 : Int) : Option Bool :=
  (F.impl_within a1 1 8).bind fun r1 =>
  bif r1 then
    (F.impl_within a0.1 0 1000).bind fun r2 =>
    bif r2 then
      (F.impl_within a0.2.1 0 60).bind fun r3 =>
      bif r3 then
        (F.impl_allIn a0.2.2.1 1 a0.2.1).bind fun r4 =>
        bif r4 then
          (F.impl_SetSize a0.2.2.1).bind fun r5 =>
          (F.impl_within a0.2.2.2.1 0 r5).bind fun r6 =>
          bif r6 then
            bif decide (a0.2.1 ≤ (w64 (a0.2.2.2.1 + a1))) then
              (F.impl_within a0.2.2.2.2.1 0 1000000).bind fun r7 =>
              some r7
            else
              some false
          else
            some false
        else
          some false
      else
        some false
    else
      some false
  else
    some false
noncomputable def C.impl_SeatOk : Con := ⟨[.r (.val y3), .r (.val (.int .i64))], .one .bool, fun x => F.impl_SeatOk x.1 x.2.1⟩
noncomputable def K.impl_SeatOk : Cons := lookK [(17, [], C.impl_SetSize), (24, [], C.impl_within), (36, [], C.impl_allIn)]
theorem run.impl_SeatOk : Rn K.impl_SeatOk L0 [] Tryd.f14 C.impl_SeatOk := fun x => by kernel_rfl

/-! ### impl.SetHas$1: function 45 -/
noncomputable def F.impl_SetHas_1 (a0 : DSpan) (a1 : Int) : Option Bool :=
  (F.impl_within a1 a0.1 a0.2.1).bind fun r1 =>
  some r1
noncomputable def C.impl_SetHas_1 : Con := ⟨[.r (.val y1), .r (.sptr (.int .i64))], .one .bool, fun x => F.impl_SetHas_1 x.1 x.2.1⟩
noncomputable def K.impl_SetHas_1 : Cons := lookK [(24, [], C.impl_within)]
theorem run.impl_SetHas_1 : Rn K.impl_SetHas_1 L0 [] Tryd.f45 C.impl_SetHas_1 := fun x => by kernel_rfl

/-! ### slices.IndexFunc[[]impl.Span,impl.Span]: function 56 -/
noncomputable def F.slices_IndexFunc_Span__impl_SetHas_1.s2 : Stp ((List DSpan) × (Int × Unit) × Int × Int × Unit) Int := fun (x1, x2, x3, x4, _) =>
  bif decide (x4 < x3) then
    chk (inb x4 x1.length) <|
    (F.impl_SetHas_1 (x1.getD x4.toNat (0, 0, ())) x2.1).bind fun r5 =>
    bif r5 then
      some (.ret x4)
    else
      some (.again (x1, (x2.1, ()), x3, w64 (x4 + 1), ()))
  else
    some (.exit (x1, (x2.1, ()), x3, x4, ()))
noncomputable def F.slices_IndexFunc_Span__impl_SetHas_1 (a0 : List DSpan) (a1 : Int × Unit) : Option Int :=
  afterO (loopO F.slices_IndexFunc_Span__impl_SetHas_1.s2 (a0, (a1.1, ()), len a0, 0, ())) fun (x6, x7, x8, x9, _) =>
  some (-1)
noncomputable def C.slices_IndexFunc_Span__impl_SetHas_1 : Con := ⟨[.r (.val (.sl false 51 y1)), .r (.fn 45 (.cons (.sptr (.int .i64)) .nil))], .one (.int .i64), fun x => F.slices_IndexFunc_Span__impl_SetHas_1 x.1 x.2.1⟩
def L.slices_IndexFunc_Span__impl_SetHas_1 : Loops := lookL [(2, ⟨[.pat 0 (.val (.sl false 51 y1)), .pat 1 (.fn 45 (.cons (.sptr (.int .i64)) .nil)), .pat 7 (.val (.int .i64)), .pat 8 (.val (.int .i64))], 0⟩)]
noncomputable def K.slices_IndexFunc_Span__impl_SetHas_1 : Cons := lookK [(45, [], C.impl_SetHas_1)]
theorem run.slices_IndexFunc_Span__impl_SetHas_1 : Rn K.slices_IndexFunc_Span__impl_SetHas_1 L.slices_IndexFunc_Span__impl_SetHas_1 [] Tryd.f56 C.slices_IndexFunc_Span__impl_SetHas_1 := fun x => by kernel_rfl

/-! ### slices.ContainsFunc[[]impl.Span,impl.Span]: function 44 -/
noncomputable def F.slices_ContainsFunc_Span__impl_SetHas_1 (a0 : List DSpan) (a1 : Int × Unit) : Option Bool :=
  (F.slices_IndexFunc_Span__impl_SetHas_1 a0 (a1.1, ())).bind fun r1 =>
  some (decide (r1 ≥ 0))
noncomputable def C.slices_ContainsFunc_Span__impl_SetHas_1 : Con := ⟨[.r (.val (.sl false 51 y1)), .r (.fn 45 (.cons (.sptr (.int .i64)) .nil))], .one .bool, fun x => F.slices_ContainsFunc_Span__impl_SetHas_1 x.1 x.2.1⟩
noncomputable def K.slices_ContainsFunc_Span__impl_SetHas_1 : Cons := lookK [(56, [45], C.slices_IndexFunc_Span__impl_SetHas_1)]
theorem run.slices_ContainsFunc_Span__impl_SetHas_1 : Rn K.slices_ContainsFunc_Span__impl_SetHas_1 L0 [] Tryd.f44 C.slices_ContainsFunc_Span__impl_SetHas_1 := fun x => by kernel_rfl

/-! ### impl.SetHas: function 25 -/
noncomputable def F.impl_SetHas (a0 : List DSpan) (a1 : Int) : Option Bool :=
  (F.slices_ContainsFunc_Span__impl_SetHas_1 a0 (a1, ())).bind fun r1 =>
  some r1
noncomputable def C.impl_SetHas : Con := ⟨[.r (.val (.sl false 51 y1)), .r (.val (.int .i64))], .one .bool, fun x => F.impl_SetHas x.1 x.2.1⟩
noncomputable def K.impl_SetHas : Cons := lookK [(44, [45], C.slices_ContainsFunc_Span__impl_SetHas_1)]
theorem run.impl_SetHas : Rn K.impl_SetHas L0 [] Tryd.f25 C.impl_SetHas := fun x => by kernel_rfl

/-! ### slices.SortFunc[[]impl.Span,impl.Span]: function 57: by its contract -/
noncomputable def F.slices_SortFunc_Span__impl_union_1 (a0 : List DSpan) (a1 : Unit) : Option (List DSpan) :=
  chk (decide (a0.length ≤ 4000000000000)) <|
  some (sortS a0)
noncomputable def C.slices_SortFunc_Span__impl_union_1 : Con := ⟨[.c (.sl true 51 y1), .r (.fn 58 .nil)], .many [], fun x => F.slices_SortFunc_Span__impl_union_1 x.1 x.2.1⟩
-- EXT slices_SortFunc_Span__impl_union_1 57 sort 51 58

/-! ### impl.union: function 46 -/
noncomputable def F.impl_union.s5 : Stp ((List DSpan) × (List DSpan) × Int × Int × Unit) (List DSpan) := fun (x3, x4, x5, x6, _) =>
  bif decide (x6 < x5) then
    chk (inb x6 x4.length) <|
    bif decide ((len x3) > 0) then
      chk (inb (w64 ((len x3) - 1)) x3.length) <|
      bif decide (((x4.getD x6.toNat (0, 0, ())).1) ≤ (w64 ((((x3.getD (Int.toNat (w64 ((len x3) - 1))) (0, 0, ())).2).1) + 1))) then
        chk (inb (w64 ((len x3) - 1)) x3.length) <|
        chk (inb (w64 ((len x3) - 1)) x3.length) <|
        (some (List.set x3 (Int.toNat (w64 ((len x3) - 1))) ((x3.getD (Int.toNat (w64 ((len x3) - 1))) (0, 0, ())).1, mxI (((x3.getD (Int.toNat (w64 ((len x3) - 1))) (0, 0, ())).2).1) (((x4.getD x6.toNat (0, 0, ())).2).1), ((x3.getD (Int.toNat (w64 ((len x3) - 1))) (0, 0, ())).2).2))).bind fun r7 =>
        some (.again (r7, x4, x5, w64 (x6 + 1), ()))
      else
      chk (fits (List.length x3 + List.length ([x4.getD x6.toNat (0, 0, ())])) 16) <|
      some (.again (x3 ++ ([x4.getD x6.toNat (0, 0, ())]), x4, x5, w64 (x6 + 1), ()))
    else
    chk (fits (List.length x3 + List.length ([x4.getD x6.toNat (0, 0, ())])) 16) <|
    some (.again (x3 ++ ([x4.getD x6.toNat (0, 0, ())]), x4, x5, w64 (x6 + 1), ()))
  else
    some (.exit (x3, x4, x5, x6, ()))
noncomputable def F.impl_union (a0 : List DSpan) : Option (List DSpan) :=
  (F.impl_copySet a0).bind fun r1 =>
  (F.slices_SortFunc_Span__impl_union_1 r1 ()).bind fun r2 =>
  afterO (loopO F.impl_union.s5 (([] : List DSpan), r2, len r2, 0, ())) fun (x8, x9, x10, x11, _) =>
  some x8
noncomputable def C.impl_union : Con := ⟨[.r (.val (.sl false 51 y1))], .one (.sl true 51 y1), fun x => F.impl_union x.1⟩
def L.impl_union : Loops := lookL [(5, ⟨[.own 4 (.sl true 51 y1), .own 12 (.sl true 51 y1), .pat 13 (.val (.int .i64)), .pat 14 (.val (.int .i64))], 0⟩)]
noncomputable def K.impl_union : Cons := lookK [(43, [], C.impl_copySet), (57, [58], C.slices_SortFunc_Span__impl_union_1)]
theorem run.impl_union : Rn K.impl_union L.impl_union [] Tryd.f46 C.impl_union := fun x => by kernel_rfl

/-! ### impl.SetAdd: function 26 -/
noncomputable def F.impl_SetAdd (a0 : List DSpan) (a1 : Int) : Option ((List DSpan) × Bool) :=
  (F.impl_SetOk a0).bind fun r1 =>
  bif !r1 then
    (F.impl_copySet a0).bind fun r2 =>
    some (r2, false)
  else
  (F.impl_within a1 0 9999).bind fun r3 =>
  bif !r3 then
    (F.impl_copySet a0).bind fun r4 =>
    some (r4, false)
  else
  (F.impl_SetHas a0 a1).bind fun r5 =>
  bif r5 then
    (F.impl_copySet a0).bind fun r6 =>
    some (r6, false)
  else
  (F.impl_copySet a0).bind fun r7 =>
  chk (fits (List.length r7 + List.length ([(a1, a1, ())])) 16) <|
  (F.impl_union (r7 ++ ([(a1, a1, ())]))).bind fun r8 =>
  some (r8, true)
noncomputable def C.impl_SetAdd : Con := ⟨[.r (.val (.sl false 51 y1)), .r (.val (.int .i64))], .many [(.sl true 51 y1), .bool], fun x => F.impl_SetAdd x.1 x.2.1⟩
noncomputable def K.impl_SetAdd : Cons := lookK [(24, [], C.impl_within), (25, [], C.impl_SetHas), (39, [], C.impl_SetOk), (43, [], C.impl_copySet), (46, [], C.impl_union)]
theorem run.impl_SetAdd : Rn K.impl_SetAdd L0 [] Tryd.f26 C.impl_SetAdd := fun x => by kernel_rfl

/-! ### impl.SeatData: function 6 -/
noncomputable def F.impl_SeatData (a0 : DSeat) (a1 : Int) (a2 : Int) (a3 : Int) : Option (DSeat × Int) :=
  (F.impl_copySeat a0).bind fun r1 =>
  (F.impl_SeatOk a0 a1).bind fun r2 =>
  bif !r2 then
    some (r1, 4)
  else
  (F.impl_within a3 1 60).bind fun r3 =>
  bif !r3 then
    some (r1, 4)
  else
  bif a2 != a0.1 then
    some (r1, 2)
  else
  (F.impl_SetHas a0.2.2.1 a3).bind fun r4 =>
  bif r4 then
    some (r1, 1)
  else
  bif decide (a3 > a0.2.1) then
    some (r1, 3)
  else
  (F.impl_SetAdd a0.2.2.1 a3).bind fun r5 =>
  some ((r1.1, r1.2.1, r5.1, r1.2.2.2), 0)
noncomputable def C.impl_SeatData : Con := ⟨[.r (.val y3), .r (.val (.int .i64)), .r (.val (.int .i64)), .r (.val (.int .i64))], .many [y2, (.int .i64)], fun x => F.impl_SeatData x.1 x.2.1 x.2.2.1 x.2.2.2.1⟩
noncomputable def K.impl_SeatData : Cons := lookK [(14, [], C.impl_SeatOk), (23, [], C.impl_copySeat), (24, [], C.impl_within), (25, [], C.impl_SetHas), (26, [], C.impl_SetAdd)]
theorem run.impl_SeatData : Rn K.impl_SeatData L0 [] Tryd.f6 C.impl_SeatData := fun x => by kernel_rfl

/-! ### spec.DrawSeatGrant: function 8 -/
noncomputable def F.spec_DrawSeatGrant (a0 : List Int) : Option (DSeat × Int) :=
  (F.spec_l1New a0).bind fun r1 =>
  (F.spec_l9Draw r1).bind fun r2 =>
  some (r2.1, r2.2.1)
noncomputable def C.spec_DrawSeatGrant : Con := ⟨[.r (.val (.sl false 5 (.int .u8)))], .many [y2, (.int .i64)], fun x => F.spec_DrawSeatGrant x.1⟩
noncomputable def K.spec_DrawSeatGrant : Cons := lookK [(18, [], C.spec_l1New), (19, [], C.spec_l9Draw)]
theorem run.spec_DrawSeatGrant : Rn K.spec_DrawSeatGrant L0 [] Tryd.f8 C.spec_DrawSeatGrant := fun x => by kernel_rfl

/-! ### impl.SeatGrant: function 9 -/
noncomputable def F.impl_SeatGrant (a0 : DSeat) (a1 : Int) : Option DSeat :=
  (F.impl_copySeat a0).bind fun r1 =>
  (F.impl_SeatOk a0 a1).bind fun r2 =>
  bif r2 then
    some (r1.1, mnI 60 (w64 (a0.2.2.2.1 + a1)), r1.2.2)
  else
    some r1
noncomputable def C.impl_SeatGrant : Con := ⟨[.r (.val y3), .r (.val (.int .i64))], .one y2, fun x => F.impl_SeatGrant x.1 x.2.1⟩
noncomputable def K.impl_SeatGrant : Cons := lookK [(14, [], C.impl_SeatOk), (23, [], C.impl_copySeat)]
theorem run.impl_SeatGrant : Rn K.impl_SeatGrant L0 [] Tryd.f9 C.impl_SeatGrant := fun x => by kernel_rfl

/-! ### impl.greatest: function 32 -/
noncomputable def F.impl_greatest (a0 : List DSpan) : Option Int :=
  bif (len a0) == 0 then
    some 0
  else
  chk (inb (w64 ((len a0) - 1)) a0.length) <|
  some (((a0.getD (Int.toNat (w64 ((len a0) - 1))) (0, 0, ())).2).1)
noncomputable def C.impl_greatest : Con := ⟨[.r (.val (.sl false 51 y1))], .one (.int .i64), fun x => F.impl_greatest x.1⟩
noncomputable def K.impl_greatest : Cons := lookK []
theorem run.impl_greatest : Rn K.impl_greatest L0 [] Tryd.f32 C.impl_greatest := fun x => by kernel_rfl

/-! ### impl.SeatReclaim: function 10 -/
noncomputable def F.impl_SeatReclaim (a0 : DSeat) (a1 : Int) : Option DSeat :=
  (F.impl_copySeat a0).bind fun r1 =>
  (F.impl_SeatOk a0 a1).bind fun r2 =>
  bif r2 then
    bif decide (a0.1 < 1000) then
      (F.impl_greatest a0.2.2.1).bind fun r3 =>
      some (w64 (r1.1 + 1), r3, r1.2.2)
    else
      some r1
  else
    some r1
noncomputable def C.impl_SeatReclaim : Con := ⟨[.r (.val y3), .r (.val (.int .i64))], .one y2, fun x => F.impl_SeatReclaim x.1 x.2.1⟩
noncomputable def K.impl_SeatReclaim : Cons := lookK [(14, [], C.impl_SeatOk), (23, [], C.impl_copySeat), (32, [], C.impl_greatest)]
theorem run.impl_SeatReclaim : Rn K.impl_SeatReclaim L0 [] Tryd.f10 C.impl_SeatReclaim := fun x => by kernel_rfl

/-! ### spec.SeatReclaim: function 12 -/
noncomputable def F.spec_SeatReclaim (a0 : DSeat) (a1 : Int) : Option DSeat :=
  (F.spec_l9Copy a0).bind fun r1 =>
  (F.spec_SeatOk a0 a1).bind fun r2 =>
  bif !r2 then
    some r1
  else
  bif a0.1 == 1000 then
    some r1
  else
  bif decide ((len a0.2.2.1) > 0) then
    chk (inb (w64 ((len a0.2.2.1) - 1)) a0.2.2.1.length) <|
    some (w64 (a0.1 + 1), ((a0.2.2.1.getD (Int.toNat (w64 ((len a0.2.2.1) - 1))) (0, 0, ())).2).1, r1.2.2)
  else
    some (w64 (a0.1 + 1), 0, r1.2.2)
noncomputable def C.spec_SeatReclaim : Con := ⟨[.r (.val y3), .r (.val (.int .i64))], .one y2, fun x => F.spec_SeatReclaim x.1 x.2.1⟩
noncomputable def K.spec_SeatReclaim : Cons := lookK [(13, [], C.spec_SeatOk), (27, [], C.spec_l9Copy)]
theorem run.spec_SeatReclaim : Rn K.spec_SeatReclaim L0 [] Tryd.f12 C.spec_SeatReclaim := fun x => by kernel_rfl

/-! ### impl.Owed: function 15 -/
noncomputable def F.impl_Owed (a0 : DSeat) : Option Int :=
  (F.impl_within a0.2.1 0 60).bind fun r1 =>
  bif !r1 then
    some 0
  else
  (F.impl_within a0.2.2.2.1 0 60).bind fun r2 =>
  bif !r2 then
    some 0
  else
    some (mxI 0 (w64 (a0.2.1 - a0.2.2.2.1)))
noncomputable def C.impl_Owed : Con := ⟨[.r (.val y3)], .one (.int .i64), fun x => F.impl_Owed x.1⟩
noncomputable def K.impl_Owed : Cons := lookK [(24, [], C.impl_within)]
theorem run.impl_Owed : Rn K.impl_Owed L0 [] Tryd.f15 C.impl_Owed := fun x => by kernel_rfl

/-! ### strconv.Itoa: function 50: by its contract -/
noncomputable def F.strconv_Itoa (a0 : Int) : Option ByteArray :=
  chk (decide (-9223372036854775808 ≤ a0) && decide (a0 ≤ 9223372036854775807)) <|
  some (itoaS a0)
noncomputable def C.strconv_Itoa : Con := ⟨[.r (.val (.int .i64))], .one .str, fun x => F.strconv_Itoa x.1⟩
-- EXT strconv_Itoa 50 itoa

/-! ### impl.Digits: function 37 -/
noncomputable def F.impl_Digits (a0 : Int) : Option ByteArray :=
  (F.strconv_Itoa a0).bind fun r1 =>
  some r1
noncomputable def C.impl_Digits : Con := ⟨[.r (.val (.int .i64))], .one .str, fun x => F.impl_Digits x.1⟩
noncomputable def K.impl_Digits : Cons := lookK [(50, [], C.strconv_Itoa)]
theorem run.impl_Digits : Rn K.impl_Digits L0 [] Tryd.f37 C.impl_Digits := fun x => by kernel_rfl

/-! ### strings.Join: function 38: by its contract -/
noncomputable def F.strings_Join (a0 : List ByteArray) (a1 : ByteArray) : Option ByteArray :=
  chk (decide (a0.length ≤ 140737488355328) && decide ((joinL a0 a1).length ≤ 140737488355328)) <|
  some (joinT a0 a1)
noncomputable def C.strings_Join : Con := ⟨[.r (.val (.sl false 9 .str)), .r (.val .str)], .one .str, fun x => F.strings_Join x.1 x.2.1⟩
-- EXT strings_Join 38 join 9

/-! ### impl.SetText: function 16 -/
noncomputable def F.impl_SetText.s3 : Stp ((List ByteArray) × (List DSpan) × Int × Int × Unit) ByteArray := fun (x1, x2, x3, x4, _) =>
  bif decide (x4 < x3) then
    chk (inb x4 x2.length) <|
    (F.impl_Digits ((x2.getD x4.toNat (0, 0, ())).1)).bind fun r5 =>
    bif (((x2.getD x4.toNat (0, 0, ())).2).1) != ((x2.getD x4.toNat (0, 0, ())).1) then
      (F.impl_Digits (((x2.getD x4.toNat (0, 0, ())).2).1)).bind fun r6 =>
      chk (decide (ByteArray.size (ByteArray.mk #[45]) + ByteArray.size r6 ≤ 9223372036854775807)) <|
      chk (decide (ByteArray.size r5 + ByteArray.size ((ByteArray.mk #[45]) ++ r6) ≤ 9223372036854775807)) <|
      chk (fits (List.length x1 + List.length ([r5 ++ ((ByteArray.mk #[45]) ++ r6)])) 16) <|
      some (.again (x1 ++ ([r5 ++ ((ByteArray.mk #[45]) ++ r6)]), x2, x3, w64 (x4 + 1), ()))
    else
    chk (fits (List.length x1 + List.length ([r5])) 16) <|
    some (.again (x1 ++ ([r5]), x2, x3, w64 (x4 + 1), ()))
  else
    some (.exit (x1, x2, x3, x4, ()))
noncomputable def F.impl_SetText (a0 : List DSpan) : Option ByteArray :=
  afterO (loopO F.impl_SetText.s3 (([] : List ByteArray), a0, len a0, 0, ())) fun (x7, x8, x9, x10, _) =>
  (F.strings_Join x7 (ByteArray.mk #[44])).bind fun r11 =>
  some r11
noncomputable def C.impl_SetText : Con := ⟨[.r (.val (.sl false 51 y1))], .one .str, fun x => F.impl_SetText x.1⟩
def L.impl_SetText : Loops := lookL [(3, ⟨[.own 3 (.sl true 9 .str), .pat 7 (.val (.sl false 51 y1)), .pat 8 (.val (.int .i64)), .pat 9 (.val (.int .i64))], 0⟩)]
noncomputable def K.impl_SetText : Cons := lookK [(37, [], C.impl_Digits), (38, [], C.strings_Join)]
theorem run.impl_SetText : Rn K.impl_SetText L.impl_SetText [] Tryd.f16 C.impl_SetText := fun x => by kernel_rfl

/-! ### laws.FnSeats: function 3 -/
noncomputable def F.laws_FnSeats (a0 : List Int) : Option Bool :=
  (F.laws_big a0).bind fun r1 =>
  bif r1 then
    some true
  else
  (F.spec_DrawSeatData a0).bind fun r2 =>
  (F.impl_SeatData r2.1 r2.2.1 r2.2.2.1 r2.2.2.2).bind fun r3 =>
  (F.spec_SeatData r2.1 r2.2.1 r2.2.2.1 r2.2.2.2).bind fun r4 =>
  bif r3.2 != r4.2 then
    some false
  else
  (F.spec_DrawSeatGrant a0).bind fun r5 =>
  (F.impl_SeatGrant r5.1 r5.2).bind fun r6 =>
  (F.impl_SeatReclaim r5.1 r5.2).bind fun r7 =>
  (F.spec_SeatGrant r5.1 r5.2).bind fun r8 =>
  bif r6.2.1 != r8.2.1 then
    some false
  else
  (F.spec_SeatReclaim r5.1 r5.2).bind fun r9 =>
  bif r7.2.1 != r9.2.1 then
    some false
  else
  (F.spec_SeatOk r5.1 r5.2).bind fun r10 =>
  bif r10 then
    (F.impl_SeatOk r6 r5.2).bind fun r11 =>
    bif !r11 then
      some false
    else
    (F.impl_Owed r6).bind fun r12 =>
    bif decide (r12 > r5.2) then
      some false
    else
    bif decide (r6.2.1 < r5.1.2.1) then
      some false
    else
    (F.impl_SeatOk r7 r5.2).bind fun r13 =>
    bif !r13 then
      some false
    else
    bif decide (r7.2.1 > r5.1.2.1) then
      some false
    else
    (F.impl_SetText r7.2.2.1).bind fun r14 =>
    (F.impl_SetText r5.1.2.2.1).bind fun r15 =>
    bif !(ByteArray.toList r14 == ByteArray.toList r15) then
      some false
    else
    bif r3.2 != 0 then
      (F.impl_SetText r3.1.2.2.1).bind fun r16 =>
      (F.impl_SetText r2.1.2.2.1).bind fun r17 =>
      some (ByteArray.toList r16 == ByteArray.toList r17)
    else
    (F.impl_SeatData r3.1 r2.2.1 r2.2.2.1 r2.2.2.2).bind fun r18 =>
    (F.impl_SeatOk r3.1 r2.2.1).bind fun r19 =>
    bif r19 then
      bif r18.2 == 1 then
        (F.impl_SetSize r3.1.2.2.1).bind fun r20 =>
        (F.impl_SetSize r2.1.2.2.1).bind fun r21 =>
        bif r20 == (w64 (r21 + 1)) then
          bif decide (r2.2.2.2 ≤ r2.1.2.1) then
            some (r2.2.2.1 == r2.1.1)
          else
            some false
        else
          some false
      else
        some false
    else
      some false
  else
  bif r3.2 != 0 then
    (F.impl_SetText r3.1.2.2.1).bind fun r22 =>
    (F.impl_SetText r2.1.2.2.1).bind fun r23 =>
    some (ByteArray.toList r22 == ByteArray.toList r23)
  else
  (F.impl_SeatData r3.1 r2.2.1 r2.2.2.1 r2.2.2.2).bind fun r24 =>
  (F.impl_SeatOk r3.1 r2.2.1).bind fun r25 =>
  bif r25 then
    bif r24.2 == 1 then
      (F.impl_SetSize r3.1.2.2.1).bind fun r26 =>
      (F.impl_SetSize r2.1.2.2.1).bind fun r27 =>
      bif r26 == (w64 (r27 + 1)) then
        bif decide (r2.2.2.2 ≤ r2.1.2.1) then
          some (r2.2.2.1 == r2.1.1)
        else
          some false
      else
        some false
    else
      some false
  else
    some false
noncomputable def C.laws_FnSeats : Con := ⟨[.r (.val (.sl false 5 (.int .u8)))], .one .bool, fun x => F.laws_FnSeats x.1⟩
noncomputable def K.laws_FnSeats : Cons := lookK [(4, [], C.laws_big), (5, [], C.spec_DrawSeatData), (6, [], C.impl_SeatData), (7, [], C.spec_SeatData), (8, [], C.spec_DrawSeatGrant), (9, [], C.impl_SeatGrant), (10, [], C.impl_SeatReclaim), (11, [], C.spec_SeatGrant), (12, [], C.spec_SeatReclaim), (13, [], C.spec_SeatOk), (14, [], C.impl_SeatOk), (15, [], C.impl_Owed), (16, [], C.impl_SetText), (17, [], C.impl_SetSize)]
theorem run.laws_FnSeats : Rn K.laws_FnSeats L0 [] Tryd.f3 C.laws_FnSeats := fun x => by kernel_rfl
end Go.Proofs.YtipaepbmdooekaaDoor.Vm
