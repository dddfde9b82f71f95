-- compact
import Derived.Test.YtipaepbmdooekaaGreatGfA
import Derived.KernelRfl
namespace Go.Proofs.YtipaepbmdooekaaGreat.Vm
noncomputable section
open Go Go.RowKit
set_option maxRecDepth 100000
set_option linter.unusedVariables false

/-! ### impl.Pick: function 86 -/
def F.impl_Pick.s6 : Stp ((List Int) × (List Int) × Int × DTurn × DTurn × Unit) (Int × DTurn) := fun (x8, x9, x10, x11, x12, _) =>
 chk (inb x12.1 x8.length) <|
 bif (x8.getD (Int.toNat x12.1) 0) == 0 then
  chk (inb x12.1 x12.2.2.1.length) <|
  some (.again (x8, x9, x10, x11, (Int.tmod (w64 (x12.1 + 1)) 3, true, List.set x12.2.2.1 (Int.toNat x12.1) 0, x12.2.2.2), ()))
 else
 bif x12.2.1 then
  chk (inb x12.1 x12.2.2.1.length) <|
  chk (inb x12.1 x9.length) <|
  chk (inb x12.1 x12.2.2.1.length) <|
  (some (List.set x12.2.2.1 (Int.toNat x12.1) (mnI 1000 (w64 ((x12.2.2.1.getD (Int.toNat x12.1) 0) + (w64 (x10 * (x9.getD (Int.toNat x12.1) 0)))))))).bind fun r13 =>
  chk (inb x12.1 x8.length) <|
  chk (inb x12.1 r13.length) <|
  bif decide ((x8.getD (Int.toNat x12.1) 0) <= (r13.getD (Int.toNat x12.1) 0)) then
   chk (inb x12.1 r13.length) <|
   chk (inb x12.1 x8.length) <|
   chk (inb x12.1 r13.length) <|
   (some (List.set r13 (Int.toNat x12.1) (w64 ((r13.getD (Int.toNat x12.1) 0) - (x8.getD (Int.toNat x12.1) 0))))).bind fun r14 =>
   some (.ret (x12.1, (x12.1, false, r14, x12.2.2.2)))
  else
   some (.again (x8, x9, x10, x11, (Int.tmod (w64 (x12.1 + 1)) 3, true, r13, x12.2.2.2), ()))
 else
 chk (inb x12.1 x8.length) <|
 chk (inb x12.1 x12.2.2.1.length) <|
 bif decide ((x8.getD (Int.toNat x12.1) 0) <= (x12.2.2.1.getD (Int.toNat x12.1) 0)) then
  chk (inb x12.1 x12.2.2.1.length) <|
  chk (inb x12.1 x8.length) <|
  chk (inb x12.1 x12.2.2.1.length) <|
  (some (List.set x12.2.2.1 (Int.toNat x12.1) (w64 ((x12.2.2.1.getD (Int.toNat x12.1) 0) - (x8.getD (Int.toNat x12.1) 0))))).bind fun r15 =>
  some (.ret (x12.1, (x12.1, x12.2.1, r15, x12.2.2.2)))
 else
  some (.again (x8, x9, x10, x11, (Int.tmod (w64 (x12.1 + 1)) 3, true, x12.2.2), ()))
def F.impl_Pick (a0 : List Int) (a1 : List Int) (a2 : Int) (a3 : DTurn) : Option (Int × DTurn) :=
 (F.impl_copyTurn a3).bind fun r1 =>
 (F.impl_allWithin a0 3 0 200).bind fun r2 =>
 bif !r2 then
  some (-1, r1)
 else
 (F.impl_allWithin a1 3 1 4).bind fun r3 =>
 bif !r3 then
  some (-1, r1)
 else
 (F.impl_within a2 1 60).bind fun r4 =>
 bif !r4 then
  some (-1, r1)
 else
 (F.impl_TurnOk a3).bind fun r5 =>
 bif !r5 then
  some (-1, r1)
 else
 (F.slices_Max_int a0).bind fun r6 =>
 bif r6 == 0 then
  (F.impl_TurnNew).bind fun r7 =>
  some (-1, r7)
 else
 afterO (loopO F.impl_Pick.s6 (a0, a1, a2, (0, false, ([] : List Int), ()), r1, ())) fun (x16, x17, x18, x19, x20, _) =>
 none
def C.impl_Pick : Con := ⟨[.r (.val (.sl false 3 (.int .i64))), .r (.val (.sl false 3 (.int .i64))), .r (.val (.int .i64)), .r (.val y11)], .many [(.int .i64), y16], fun x => F.impl_Pick x.1 x.2.1 x.2.2.1 x.2.2.2.1⟩
def L.impl_Pick : Loops := lookL [(6, ⟨[.pat 0 (.val (.sl false 3 (.int .i64))), .pat 1 (.val (.sl false 3 (.int .i64))), .pat 2 (.val (.int .i64)), .root 9 true y16 [9], .root 10 true y16 [10]], 0⟩)]
def K.impl_Pick : Cons := lookK [(123, [], C.impl_within), (177, [], C.impl_copyTurn), (188, [], C.impl_allWithin), (189, [], C.impl_TurnOk), (190, [], C.slices_Max_int), (191, [], C.impl_TurnNew)]
theorem run.impl_Pick : Rn K.impl_Pick L.impl_Pick [] Tryz.f86 C.impl_Pick := fun x => by kernel_rfl

/-! ### impl.NextOf: function 24 -/
def F.impl_NextOf.s9 : Stp ((List (List DRow)) × Int × Int × (List DRow) × Int × Int × DHouse × DHouse × DHouse × (Bool × Bool × Unit) × Unit) (Lp ((List (List DRow)) × Int × Int × DHouse × DHouse × DHouse × (Bool × Bool × Unit) × Unit) (Int × Int × DHouse)) := fun (x11, x12, x13, x14, x15, x16, x17, x18, x19, x20, _) =>
 bif decide (x16 < x15) then
  chk (inb x16 x14.length) <|
  bif x16 == 0 then
   bif x20.1 then
    bif x16 == 0 then
     some (.again (x11, x12, x13, x14, x15, w64 (x16 + 1), x17, x18, x19, (true, x20.2), ()))
    else
    bif x16 == 1 then
     some (.again (x11, x12, x13, x14, x15, w64 (x16 + 1), x17, x18, x19, (x20.1, true, x20.2.2), ()))
    else
     none
   else
   bif x16 == 0 then
    some (.again (x11, x12, x13, x14, x15, w64 (x16 + 1), x17, x18, x19, (decide ((len ((x14.getD x16.toNat ([], ())).1)) > 0), x20.2), ()))
   else
   bif x16 == 1 then
    some (.again (x11, x12, x13, x14, x15, w64 (x16 + 1), x17, x18, x19, (x20.1, decide ((len ((x14.getD x16.toNat ([], ())).1)) > 0), x20.2.2), ()))
   else
    none
  else
  bif x16 == 1 then
   bif x20.2.1 then
    bif x16 == 0 then
     some (.again (x11, x12, x13, x14, x15, w64 (x16 + 1), x17, x18, x19, (true, x20.2), ()))
    else
    bif x16 == 1 then
     some (.again (x11, x12, x13, x14, x15, w64 (x16 + 1), x17, x18, x19, (x20.1, true, x20.2.2), ()))
    else
     none
   else
   bif x16 == 0 then
    some (.again (x11, x12, x13, x14, x15, w64 (x16 + 1), x17, x18, x19, (decide ((len ((x14.getD x16.toNat ([], ())).1)) > 0), x20.2), ()))
   else
   bif x16 == 1 then
    some (.again (x11, x12, x13, x14, x15, w64 (x16 + 1), x17, x18, x19, (x20.1, decide ((len ((x14.getD x16.toNat ([], ())).1)) > 0), x20.2.2), ()))
   else
    none
  else
   none
 else
  some (.exit (x11, x12, x13, x14, x15, x16, x17, x18, x19, x20, ()))
def F.impl_NextOf.s6 : Stp ((List (List DRow)) × Int × Int × DHouse × DHouse × DHouse × (Bool × Bool × Unit) × Unit) (Int × Int × DHouse) := fun (x4, x5, x6, x7, x8, x9, x10, _) =>
 bif decide (x6 < x5) then
  chk (inb x6 x4.length) <|
  afterO (loopO F.impl_NextOf.s9 (x4, x5, x6, x4.getD x6.toNat ([]), len (x4.getD x6.toNat ([])), 0, x7, x8, x9, x10, ())) fun (x21, x22, x23, x24, x25, x26, x27, x28, x29, x30, _) =>
  some (.again (x21, x22, w64 (x23 + 1), x27, x28, x29, x30, ()))
 else
  some (.exit (x4, x5, x6, x7, x8, x9, x10, ()))
def F.impl_NextOf (a0 : DHouse) : Option (Int × Int × DHouse) :=
 (F.impl_copyHouse a0).bind fun r1 =>
 (F.impl_HouseOk a0).bind fun r2 =>
 bif !r2 then
  some (-1, -1, r1)
 else
 (F.impl_Items a0).bind fun r3 =>
 bif r3 == 0 then
  some (-1, -1, r1)
 else
 afterO (loopO F.impl_NextOf.s6 (a0.2.2.2.2.1, len a0.2.2.2.2.1, 0, a0, ((0, 0, 0, ([] : List Int), 0, 0, 0, 0, ()), 0, false, ([] : List DSeat), ([] : List (List DRow)), ([] : List DTurn), 0, ([] : List DEntry), ([] : List DOut), ()), r1, (false, false, ()), ())) fun (x31, x32, x33, x34, x35, x36, x37, _) =>
 (F.impl_PickClass x37.1 x37.2.1 x34.2.2.2.2.2.2.1 x34.1.2.2.1).bind fun r38 =>
 (F.impl_Sizes x34 r38.1).bind fun r39 =>
 chk (inb r38.1 x34.2.2.2.2.2.1.length) <|
 (F.impl_Pick r39 x34.1.2.2.2.1 x34.1.2.1 (x34.2.2.2.2.2.1.getD (Int.toNat r38.1) (0, false, [], ()))).bind fun r40 =>
 chk (inb r38.1 x36.2.2.2.2.2.1.length) <|
 some (r40.1, r38.1, (x36.1, x36.2.1, x36.2.2.1, x36.2.2.2.1, x36.2.2.2.2.1, List.set x36.2.2.2.2.2.1 (Int.toNat r38.1) r40.2, r38.2, x36.2.2.2.2.2.2.2))
def C.impl_NextOf : Con := ⟨[.r (.val y21)], .many [(.int .i64), (.int .i64), y18], fun x => F.impl_NextOf x.1⟩
def L.impl_NextOf : Loops := lookL [(9, ⟨[.pat 27 (.val (.sl false 121 (.sl false 84 (.cons (.sl false 31 y7) .nil)))), .pat 28 (.val (.int .i64)), .pat 29 (.val (.int .i64)), .pat 33 (.val (.sl false 84 (.cons (.sl false 31 y7) .nil))), .pat 34 (.val (.int .i64)), .pat 35 (.val (.int .i64)), .root 1 true y21 [1], .root 4 true y18 [4], .root 5 true y18 [5], .root 6 true y23 [6]], 2⟩), (6, ⟨[.pat 27 (.val (.sl false 121 (.sl false 84 (.cons (.sl false 31 y7) .nil)))), .pat 28 (.val (.int .i64)), .pat 29 (.val (.int .i64)), .root 1 true y21 [1], .root 4 true y18 [4], .root 5 true y18 [5], .root 6 true y23 [6]], 0⟩)]
def K.impl_NextOf : Cons := lookK [(82, [], C.impl_copyHouse), (83, [], C.impl_HouseOk), (84, [], C.impl_Items), (85, [], C.impl_PickClass), (86, [], C.impl_Pick), (87, [], C.impl_Sizes)]
theorem run.impl_NextOf : Rn K.impl_NextOf L.impl_NextOf [] Tryz.f24 C.impl_NextOf := fun x => by kernel_rfl

/-! ### laws.eqConf: function 88 -/
def F.laws_eqConf (a0 : DConf) (a1 : DConf) : Option Bool :=
 bif a0.1 != a1.1 then
  some false
 else
 bif a0.2.1 != a1.2.1 then
  some false
 else
 bif a0.2.2.1 != a1.2.2.1 then
  some false
 else
 (F.laws_eqIntS a0.2.2.2.1 a1.2.2.2.1).bind fun r1 =>
 bif !r1 then
  some false
 else
 bif a0.2.2.2.2.1 != a1.2.2.2.2.1 then
  some false
 else
 bif a0.2.2.2.2.2.1 != a1.2.2.2.2.2.1 then
  some false
 else
 bif a0.2.2.2.2.2.2.1 != a1.2.2.2.2.2.2.1 then
  some false
 else
 bif a0.2.2.2.2.2.2.2.1 != a1.2.2.2.2.2.2.2.1 then
  some false
 else
  some true
def C.laws_eqConf : Con := ⟨[.r (.val y9), .r (.val y9)], .one .bool, fun x => F.laws_eqConf x.1 x.2.1⟩
def K.laws_eqConf : Cons := lookK [(147, [], C.laws_eqIntS)]
theorem run.laws_eqConf : Rn K.laws_eqConf L0 [] Tryz.f88 C.laws_eqConf := fun x => by kernel_rfl

/-! ### laws.eqSeat: function 193 -/
def F.laws_eqSeat (a0 : DSeat) (a1 : DSeat) : Option Bool :=
 bif a0.1 != a1.1 then
  some false
 else
 bif a0.2.1 != a1.2.1 then
  some false
 else
 (F.laws_eqSpanS a0.2.2.1 a1.2.2.1).bind fun r1 =>
 bif !r1 then
  some false
 else
 bif a0.2.2.2.1 != a1.2.2.2.1 then
  some false
 else
 bif a0.2.2.2.2.1 != a1.2.2.2.2.1 then
  some false
 else
  some true
def C.laws_eqSeat : Con := ⟨[.r (.val y19), .r (.val y19)], .one .bool, fun x => F.laws_eqSeat x.1 x.2.1⟩
def K.laws_eqSeat : Cons := lookK [(60, [], C.laws_eqSpanS)]
theorem run.laws_eqSeat : Rn K.laws_eqSeat L0 [] Tryz.f193 C.laws_eqSeat := fun x => by kernel_rfl

/-! ### laws.eqSeatS: function 89 -/
def F.laws_eqSeatS.s4 : Stp ((List DSeat) × (List DSeat) × Int × Unit) Bool := fun (x1, x2, x3, _) =>
 bif decide (x3 < (len x1)) then
  chk (inb x3 x1.length) <|
  chk (inb x3 x2.length) <|
  (F.laws_eqSeat (x1.getD x3.toNat (0, 0, [], 0, 0, ())) (x2.getD x3.toNat (0, 0, [], 0, 0, ()))).bind fun r4 =>
  bif !r4 then
   some (.ret false)
  else
   some (.again (x1, x2, w64 (x3 + 1), ()))
 else
  some (.exit (x1, x2, x3, ()))
def F.laws_eqSeatS (a0 : List DSeat) (a1 : List DSeat) : Option Bool :=
 bif (len a0) != (len a1) then
  some false
 else
 afterO (loopO F.laws_eqSeatS.s4 (a0, a1, 0, ())) fun (x5, x6, x7, _) =>
 some true
def C.laws_eqSeatS : Con := ⟨[.r (.val (.sl false 143 y19)), .r (.val (.sl false 143 y19))], .one .bool, fun x => F.laws_eqSeatS x.1 x.2.1⟩
def L.laws_eqSeatS : Loops := lookL [(4, ⟨[.pat 0 (.val (.sl false 143 y19)), .pat 1 (.val (.sl false 143 y19)), .pat 5 (.val (.int .i64))], 0⟩)]
def K.laws_eqSeatS : Cons := lookK [(193, [], C.laws_eqSeat)]
theorem run.laws_eqSeatS : Rn K.laws_eqSeatS L.laws_eqSeatS [] Tryz.f89 C.laws_eqSeatS := fun x => by kernel_rfl

/-! ### laws.eqRow: function 262 -/
def F.laws_eqRow (a0 : DRow) (a1 : DRow) : Option Bool :=
 (F.laws_eqEntryS a0.1 a1.1).bind fun r1 =>
 bif !r1 then
  some false
 else
  some true
def C.laws_eqRow : Con := ⟨[.r (.val (.cons (.sl false 31 y7) .nil)), .r (.val (.cons (.sl false 31 y7) .nil))], .one .bool, fun x => F.laws_eqRow x.1 x.2.1⟩
def K.laws_eqRow : Cons := lookK [(16, [], C.laws_eqEntryS)]
theorem run.laws_eqRow : Rn K.laws_eqRow L0 [] Tryz.f262 C.laws_eqRow := fun x => by kernel_rfl

/-! ### laws.eqRowS: function 194 -/
def F.laws_eqRowS.s4 : Stp ((List DRow) × (List DRow) × Int × Unit) Bool := fun (x1, x2, x3, _) =>
 bif decide (x3 < (len x1)) then
  chk (inb x3 x1.length) <|
  chk (inb x3 x2.length) <|
  (F.laws_eqRow (x1.getD x3.toNat ([], ())) (x2.getD x3.toNat ([], ()))).bind fun r4 =>
  bif !r4 then
   some (.ret false)
  else
   some (.again (x1, x2, w64 (x3 + 1), ()))
 else
  some (.exit (x1, x2, x3, ()))
def F.laws_eqRowS (a0 : List DRow) (a1 : List DRow) : Option Bool :=
 bif (len a0) != (len a1) then
  some false
 else
 afterO (loopO F.laws_eqRowS.s4 (a0, a1, 0, ())) fun (x5, x6, x7, _) =>
 some true
def C.laws_eqRowS : Con := ⟨[.r (.val (.sl false 84 (.cons (.sl false 31 y7) .nil))), .r (.val (.sl false 84 (.cons (.sl false 31 y7) .nil)))], .one .bool, fun x => F.laws_eqRowS x.1 x.2.1⟩
def L.laws_eqRowS : Loops := lookL [(4, ⟨[.pat 0 (.val (.sl false 84 (.cons (.sl false 31 y7) .nil))), .pat 1 (.val (.sl false 84 (.cons (.sl false 31 y7) .nil))), .pat 5 (.val (.int .i64))], 0⟩)]
def K.laws_eqRowS : Cons := lookK [(262, [], C.laws_eqRow)]
theorem run.laws_eqRowS : Rn K.laws_eqRowS L.laws_eqRowS [] Tryz.f194 C.laws_eqRowS := fun x => by kernel_rfl

/-! ### laws.eqRowSS: function 90 -/
def F.laws_eqRowSS.s4 : Stp ((List (List DRow)) × (List (List DRow)) × Int × Unit) Bool := fun (x1, x2, x3, _) =>
 bif decide (x3 < (len x1)) then
  chk (inb x3 x1.length) <|
  chk (inb x3 x2.length) <|
  (F.laws_eqRowS (x1.getD x3.toNat ([])) (x2.getD x3.toNat ([]))).bind fun r4 =>
  bif !r4 then
   some (.ret false)
  else
   some (.again (x1, x2, w64 (x3 + 1), ()))
 else
  some (.exit (x1, x2, x3, ()))
def F.laws_eqRowSS (a0 : List (List DRow)) (a1 : List (List DRow)) : Option Bool :=
 bif (len a0) != (len a1) then
  some false
 else
 afterO (loopO F.laws_eqRowSS.s4 (a0, a1, 0, ())) fun (x5, x6, x7, _) =>
 some true
def C.laws_eqRowSS : Con := ⟨[.r (.val (.sl false 121 (.sl false 84 (.cons (.sl false 31 y7) .nil)))), .r (.val (.sl false 121 (.sl false 84 (.cons (.sl false 31 y7) .nil))))], .one .bool, fun x => F.laws_eqRowSS x.1 x.2.1⟩
def L.laws_eqRowSS : Loops := lookL [(4, ⟨[.pat 0 (.val (.sl false 121 (.sl false 84 (.cons (.sl false 31 y7) .nil)))), .pat 1 (.val (.sl false 121 (.sl false 84 (.cons (.sl false 31 y7) .nil)))), .pat 5 (.val (.int .i64))], 0⟩)]
def K.laws_eqRowSS : Cons := lookK [(194, [], C.laws_eqRowS)]
theorem run.laws_eqRowSS : Rn K.laws_eqRowSS L.laws_eqRowSS [] Tryz.f90 C.laws_eqRowSS := fun x => by kernel_rfl

/-! ### laws.eqTurn: function 195 -/
def F.laws_eqTurn (a0 : DTurn) (a1 : DTurn) : Option Bool :=
 bif a0.1 != a1.1 then
  some false
 else
 bif !(a0.2.1 == a1.2.1) then
  some false
 else
 (F.laws_eqIntS a0.2.2.1 a1.2.2.1).bind fun r1 =>
 bif !r1 then
  some false
 else
  some true
def C.laws_eqTurn : Con := ⟨[.r (.val y11), .r (.val y11)], .one .bool, fun x => F.laws_eqTurn x.1 x.2.1⟩
def K.laws_eqTurn : Cons := lookK [(147, [], C.laws_eqIntS)]
theorem run.laws_eqTurn : Rn K.laws_eqTurn L0 [] Tryz.f195 C.laws_eqTurn := fun x => by kernel_rfl

/-! ### laws.eqTurnS: function 91 -/
def F.laws_eqTurnS.s4 : Stp ((List DTurn) × (List DTurn) × Int × Unit) Bool := fun (x1, x2, x3, _) =>
 bif decide (x3 < (len x1)) then
  chk (inb x3 x1.length) <|
  chk (inb x3 x2.length) <|
  (F.laws_eqTurn (x1.getD x3.toNat (0, false, [], ())) (x2.getD x3.toNat (0, false, [], ()))).bind fun r4 =>
  bif !r4 then
   some (.ret false)
  else
   some (.again (x1, x2, w64 (x3 + 1), ()))
 else
  some (.exit (x1, x2, x3, ()))
def F.laws_eqTurnS (a0 : List DTurn) (a1 : List DTurn) : Option Bool :=
 bif (len a0) != (len a1) then
  some false
 else
 afterO (loopO F.laws_eqTurnS.s4 (a0, a1, 0, ())) fun (x5, x6, x7, _) =>
 some true
def C.laws_eqTurnS : Con := ⟨[.r (.val (.sl false 125 y11)), .r (.val (.sl false 125 y11))], .one .bool, fun x => F.laws_eqTurnS x.1 x.2.1⟩
def L.laws_eqTurnS : Loops := lookL [(4, ⟨[.pat 0 (.val (.sl false 125 y11)), .pat 1 (.val (.sl false 125 y11)), .pat 5 (.val (.int .i64))], 0⟩)]
def K.laws_eqTurnS : Cons := lookK [(195, [], C.laws_eqTurn)]
theorem run.laws_eqTurnS : Rn K.laws_eqTurnS L.laws_eqTurnS [] Tryz.f91 C.laws_eqTurnS := fun x => by kernel_rfl

/-! ### laws.eqOut: function 196 -/
def F.laws_eqOut (a0 : DOut) (a1 : DOut) : Option Bool :=
 bif a0.1 != a1.1 then
  some false
 else
 (F.laws_eqEntry a0.2.1 a1.2.1).bind fun r1 =>
 bif !r1 then
  some false
 else
  some true
def C.laws_eqOut : Con := ⟨[.r (.val y20), .r (.val y20)], .one .bool, fun x => F.laws_eqOut x.1 x.2.1⟩
def K.laws_eqOut : Cons := lookK [(17, [], C.laws_eqEntry)]
theorem run.laws_eqOut : Rn K.laws_eqOut L0 [] Tryz.f196 C.laws_eqOut := fun x => by kernel_rfl

/-! ### laws.eqOutS: function 92 -/
def F.laws_eqOutS.s4 : Stp ((List DOut) × (List DOut) × Int × Unit) Bool := fun (x1, x2, x3, _) =>
 bif decide (x3 < (len x1)) then
  chk (inb x3 x1.length) <|
  chk (inb x3 x2.length) <|
  (F.laws_eqOut (x1.getD x3.toNat (0, (0, 0, [], (0, 0, 0, 0, [], [], [], ()), ()), ())) (x2.getD x3.toNat (0, (0, 0, [], (0, 0, 0, 0, [], [], [], ()), ()), ()))).bind fun r4 =>
  bif !r4 then
   some (.ret false)
  else
   some (.again (x1, x2, w64 (x3 + 1), ()))
 else
  some (.exit (x1, x2, x3, ()))
def F.laws_eqOutS (a0 : List DOut) (a1 : List DOut) : Option Bool :=
 bif (len a0) != (len a1) then
  some false
 else
 afterO (loopO F.laws_eqOutS.s4 (a0, a1, 0, ())) fun (x5, x6, x7, _) =>
 some true
def C.laws_eqOutS : Con := ⟨[.r (.val (.sl false 203 y20)), .r (.val (.sl false 203 y20))], .one .bool, fun x => F.laws_eqOutS x.1 x.2.1⟩
def L.laws_eqOutS : Loops := lookL [(4, ⟨[.pat 0 (.val (.sl false 203 y20)), .pat 1 (.val (.sl false 203 y20)), .pat 5 (.val (.int .i64))], 0⟩)]
def K.laws_eqOutS : Cons := lookK [(196, [], C.laws_eqOut)]
theorem run.laws_eqOutS : Rn K.laws_eqOutS L.laws_eqOutS [] Tryz.f92 C.laws_eqOutS := fun x => by kernel_rfl

/-! ### laws.eqHouse: function 25 -/
def F.laws_eqHouse (a0 : DHouse) (a1 : DHouse) : Option Bool :=
 (F.laws_eqConf a0.1 a1.1).bind fun r1 =>
 bif !r1 then
  some false
 else
 bif a0.2.1 != a1.2.1 then
  some false
 else
 bif !(a0.2.2.1 == a1.2.2.1) then
  some false
 else
 (F.laws_eqSeatS a0.2.2.2.1 a1.2.2.2.1).bind fun r2 =>
 bif !r2 then
  some false
 else
 (F.laws_eqRowSS a0.2.2.2.2.1 a1.2.2.2.2.1).bind fun r3 =>
 bif !r3 then
  some false
 else
 (F.laws_eqTurnS a0.2.2.2.2.2.1 a1.2.2.2.2.2.1).bind fun r4 =>
 bif !r4 then
  some false
 else
 bif a0.2.2.2.2.2.2.1 != a1.2.2.2.2.2.2.1 then
  some false
 else
 (F.laws_eqEntryS a0.2.2.2.2.2.2.2.1 a1.2.2.2.2.2.2.2.1).bind fun r5 =>
 bif !r5 then
  some false
 else
 (F.laws_eqOutS a0.2.2.2.2.2.2.2.2.1 a1.2.2.2.2.2.2.2.2.1).bind fun r6 =>
 bif !r6 then
  some false
 else
  some true
def C.laws_eqHouse : Con := ⟨[.r (.val y21), .r (.val y21)], .one .bool, fun x => F.laws_eqHouse x.1 x.2.1⟩
def K.laws_eqHouse : Cons := lookK [(16, [], C.laws_eqEntryS), (88, [], C.laws_eqConf), (89, [], C.laws_eqSeatS), (90, [], C.laws_eqRowSS), (91, [], C.laws_eqTurnS), (92, [], C.laws_eqOutS)]
theorem run.laws_eqHouse : Rn K.laws_eqHouse L0 [] Tryz.f25 C.laws_eqHouse := fun x => by kernel_rfl

/-! ### laws.markConf: function 93 -/
def F.laws_markConf (a0 : DConf) (a1 : Int) : Option (Int × DConf) :=
 (F.laws_markIntS a0.2.2.2.1 a1).bind fun r1 =>
 some (r1.1, (a0.1, a0.2.1, a0.2.2.1, r1.2, a0.2.2.2.2))
def C.laws_markConf : Con := ⟨[.c y14, .r (.val (.int .i64))], .one (.int .i64), fun x => F.laws_markConf x.1 x.2.1⟩
def K.laws_markConf : Cons := lookK [(63, [], C.laws_markIntS)]
theorem run.laws_markConf : Rn K.laws_markConf L0 [2] Tryz.f93 C.laws_markConf := fun x => by kernel_rfl

/-! ### laws.markSeatS: function 94 -/
def F.laws_markSeatS.s2 : Stp (Int × Int × (List DSeat) × Unit) (Int × (List DSeat)) := fun (x1, x2, x3, _) =>
 bif decide (x2 < (len x3)) then
  chk (inb x2 x3.length) <|
  chk (inb x2 (List.length (List.set x3 x2.toNat (x1, (x3.getD x2.toNat (0, 0, [], 0, 0, ())).2)))) <|
  (some (List.set (List.set x3 x2.toNat (x1, (x3.getD x2.toNat (0, 0, [], 0, 0, ())).2)) x2.toNat ((List.getD (List.set x3 x2.toNat (x1, (x3.getD x2.toNat (0, 0, [], 0, 0, ())).2)) x2.toNat (0, 0, [], 0, 0, ())).1, w64 (x1 + 1), ((List.getD (List.set x3 x2.toNat (x1, (x3.getD x2.toNat (0, 0, [], 0, 0, ())).2)) x2.toNat (0, 0, [], 0, 0, ())).2).2))).bind fun r4 =>
  chk (inb x2 r4.length) <|
  (F.laws_markSpanS ((((r4.getD x2.toNat (0, 0, [], 0, 0, ())).2).2).1) (w64 ((w64 (x1 + 1)) + 1))).bind fun r5 =>
  (some (List.set r4 x2.toNat ((r4.getD x2.toNat (0, 0, [], 0, 0, ())).1, ((r4.getD x2.toNat (0, 0, [], 0, 0, ())).2).1, r5.2, (((r4.getD x2.toNat (0, 0, [], 0, 0, ())).2).2).2))).bind fun r6 =>
  chk (inb x2 r6.length) <|
  (some (List.set r6 x2.toNat ((r6.getD x2.toNat (0, 0, [], 0, 0, ())).1, ((r6.getD x2.toNat (0, 0, [], 0, 0, ())).2).1, (((r6.getD x2.toNat (0, 0, [], 0, 0, ())).2).2).1, r5.1, ((((r6.getD x2.toNat (0, 0, [], 0, 0, ())).2).2).2).2))).bind fun r7 =>
  chk (inb x2 r7.length) <|
  (some (List.set r7 x2.toNat ((r7.getD x2.toNat (0, 0, [], 0, 0, ())).1, ((r7.getD x2.toNat (0, 0, [], 0, 0, ())).2).1, (((r7.getD x2.toNat (0, 0, [], 0, 0, ())).2).2).1, ((((r7.getD x2.toNat (0, 0, [], 0, 0, ())).2).2).2).1, w64 (r5.1 + 1), (((((r7.getD x2.toNat (0, 0, [], 0, 0, ())).2).2).2).2).2))).bind fun r8 =>
  some (.again (w64 ((w64 (r5.1 + 1)) + 1), w64 (x2 + 1), r8, ()))
 else
  some (.exit (x1, x2, x3, ()))
def F.laws_markSeatS (a0 : List DSeat) (a1 : Int) : Option (Int × (List DSeat)) :=
 afterO (loopO F.laws_markSeatS.s2 (a1, 0, a0, ())) fun (x9, x10, x11, _) =>
 some (x9, x11)
def C.laws_markSeatS : Con := ⟨[.c (.sl true 143 y15), .r (.val (.int .i64))], .one (.int .i64), fun x => F.laws_markSeatS x.1 x.2.1⟩
def L.laws_markSeatS : Loops := lookL [(2, ⟨[.pat 1 (.val (.int .i64)), .pat 5 (.val (.int .i64)), .root 0 false (.sl true 143 y15) [0]], 0⟩)]
def K.laws_markSeatS : Cons := lookK [(62, [], C.laws_markSpanS)]
theorem run.laws_markSeatS : Rn K.laws_markSeatS L.laws_markSeatS [0] Tryz.f94 C.laws_markSeatS := fun x => by kernel_rfl

/-! ### laws.markRowS: function 197 -/
def F.laws_markRowS.s2 : Stp (Int × Int × (List DRow) × Unit) (Int × (List DRow)) := fun (x1, x2, x3, _) =>
 bif decide (x2 < (len x3)) then
  chk (inb x2 x3.length) <|
  (F.laws_markEntryS ((x3.getD x2.toNat ([], ())).1) x1).bind fun r4 =>
  some (.again (r4.1, w64 (x2 + 1), List.set x3 x2.toNat (r4.2, (x3.getD x2.toNat ([], ())).2), ()))
 else
  some (.exit (x1, x2, x3, ()))
def F.laws_markRowS (a0 : List DRow) (a1 : Int) : Option (Int × (List DRow)) :=
 afterO (loopO F.laws_markRowS.s2 (a1, 0, a0, ())) fun (x5, x6, x7, _) =>
 some (x5, x7)
def C.laws_markRowS : Con := ⟨[.c (.sl true 84 (.cons (.sl true 31 y6) .nil)), .r (.val (.int .i64))], .one (.int .i64), fun x => F.laws_markRowS x.1 x.2.1⟩
def L.laws_markRowS : Loops := lookL [(2, ⟨[.pat 1 (.val (.int .i64)), .pat 5 (.val (.int .i64)), .root 0 false (.sl true 84 (.cons (.sl true 31 y6) .nil)) [0]], 0⟩)]
def K.laws_markRowS : Cons := lookK [(18, [], C.laws_markEntryS)]
theorem run.laws_markRowS : Rn K.laws_markRowS L.laws_markRowS [0] Tryz.f197 C.laws_markRowS := fun x => by kernel_rfl

/-! ### laws.markRowSS: function 95 -/
def F.laws_markRowSS.s2 : Stp (Int × Int × (List (List DRow)) × Unit) (Int × (List (List DRow))) := fun (x1, x2, x3, _) =>
 bif decide (x2 < (len x3)) then
  chk (inb x2 x3.length) <|
  (F.laws_markRowS (x3.getD x2.toNat ([])) x1).bind fun r4 =>
  some (.again (r4.1, w64 (x2 + 1), List.set x3 x2.toNat r4.2, ()))
 else
  some (.exit (x1, x2, x3, ()))
def F.laws_markRowSS (a0 : List (List DRow)) (a1 : Int) : Option (Int × (List (List DRow))) :=
 afterO (loopO F.laws_markRowSS.s2 (a1, 0, a0, ())) fun (x5, x6, x7, _) =>
 some (x5, x7)
def C.laws_markRowSS : Con := ⟨[.c (.sl true 121 (.sl true 84 (.cons (.sl true 31 y6) .nil))), .r (.val (.int .i64))], .one (.int .i64), fun x => F.laws_markRowSS x.1 x.2.1⟩
def L.laws_markRowSS : Loops := lookL [(2, ⟨[.pat 1 (.val (.int .i64)), .pat 5 (.val (.int .i64)), .root 0 false (.sl true 121 (.sl true 84 (.cons (.sl true 31 y6) .nil))) [0]], 0⟩)]
def K.laws_markRowSS : Cons := lookK [(197, [], C.laws_markRowS)]
theorem run.laws_markRowSS : Rn K.laws_markRowSS L.laws_markRowSS [0] Tryz.f95 C.laws_markRowSS := fun x => by kernel_rfl

/-! ### laws.markTurnS: function 96 -/
def F.laws_markTurnS.s2 : Stp (Int × Int × (List DTurn) × Unit) (Int × (List DTurn)) := fun (x1, x2, x3, _) =>
 bif decide (x2 < (len x3)) then
  chk (inb x2 x3.length) <|
  chk (inb x2 (List.length (List.set x3 x2.toNat (x1, (x3.getD x2.toNat (0, false, [], ())).2)))) <|
  (some (List.set (List.set x3 x2.toNat (x1, (x3.getD x2.toNat (0, false, [], ())).2)) x2.toNat ((List.getD (List.set x3 x2.toNat (x1, (x3.getD x2.toNat (0, false, [], ())).2)) x2.toNat (0, false, [], ())).1, (Int.tmod (w64 (x1 + 1)) 3) == 0, ((List.getD (List.set x3 x2.toNat (x1, (x3.getD x2.toNat (0, false, [], ())).2)) x2.toNat (0, false, [], ())).2).2))).bind fun r4 =>
  chk (inb x2 r4.length) <|
  (F.laws_markIntS ((((r4.getD x2.toNat (0, false, [], ())).2).2).1) (w64 ((w64 (x1 + 1)) + 1))).bind fun r5 =>
  (some (List.set r4 x2.toNat ((r4.getD x2.toNat (0, false, [], ())).1, ((r4.getD x2.toNat (0, false, [], ())).2).1, r5.2, (((r4.getD x2.toNat (0, false, [], ())).2).2).2))).bind fun r6 =>
  some (.again (r5.1, w64 (x2 + 1), r6, ()))
 else
  some (.exit (x1, x2, x3, ()))
def F.laws_markTurnS (a0 : List DTurn) (a1 : Int) : Option (Int × (List DTurn)) :=
 afterO (loopO F.laws_markTurnS.s2 (a1, 0, a0, ())) fun (x7, x8, x9, _) =>
 some (x7, x9)
def C.laws_markTurnS : Con := ⟨[.c (.sl true 125 y16), .r (.val (.int .i64))], .one (.int .i64), fun x => F.laws_markTurnS x.1 x.2.1⟩
def L.laws_markTurnS : Loops := lookL [(2, ⟨[.pat 1 (.val (.int .i64)), .pat 5 (.val (.int .i64)), .root 0 false (.sl true 125 y16) [0]], 0⟩)]
def K.laws_markTurnS : Cons := lookK [(63, [], C.laws_markIntS)]
theorem run.laws_markTurnS : Rn K.laws_markTurnS L.laws_markTurnS [0] Tryz.f96 C.laws_markTurnS := fun x => by kernel_rfl

/-! ### laws.markOutS: function 97 -/
def F.laws_markOutS.s2 : Stp (Int × Int × (List DOut) × Unit) (Int × (List DOut)) := fun (x1, x2, x3, _) =>
 bif decide (x2 < (len x3)) then
  chk (inb x2 x3.length) <|
  (some (List.set x3 x2.toNat (x1, (x3.getD x2.toNat (0, (0, 0, [], (0, 0, 0, 0, [], [], [], ()), ()), ())).2))).bind fun r4 =>
  chk (inb x2 r4.length) <|
  (some (List.set r4 x2.toNat ((r4.getD x2.toNat (0, (0, 0, [], (0, 0, 0, 0, [], [], [], ()), ()), ())).1, (w64 (x1 + 1), (((r4.getD x2.toNat (0, (0, 0, [], (0, 0, 0, 0, [], [], [], ()), ()), ())).2).1).2), ((r4.getD x2.toNat (0, (0, 0, [], (0, 0, 0, 0, [], [], [], ()), ()), ())).2).2))).bind fun r5 =>
  chk (inb x2 r5.length) <|
  (some (List.set r5 x2.toNat ((r5.getD x2.toNat (0, (0, 0, [], (0, 0, 0, 0, [], [], [], ()), ()), ())).1, ((((r5.getD x2.toNat (0, (0, 0, [], (0, 0, 0, 0, [], [], [], ()), ()), ())).2).1).1, w64 ((w64 (x1 + 1)) + 1), ((((r5.getD x2.toNat (0, (0, 0, [], (0, 0, 0, 0, [], [], [], ()), ()), ())).2).1).2).2), ((r5.getD x2.toNat (0, (0, 0, [], (0, 0, 0, 0, [], [], [], ()), ()), ())).2).2))).bind fun r6 =>
  chk (inb x2 r6.length) <|
  (F.laws_markSpanS ((((((r6.getD x2.toNat (0, (0, 0, [], (0, 0, 0, 0, [], [], [], ()), ()), ())).2).1).2).2).1) (w64 ((w64 ((w64 (x1 + 1)) + 1)) + 1))).bind fun r7 =>
  (some (List.set r6 x2.toNat ((r6.getD x2.toNat (0, (0, 0, [], (0, 0, 0, 0, [], [], [], ()), ()), ())).1, ((((r6.getD x2.toNat (0, (0, 0, [], (0, 0, 0, 0, [], [], [], ()), ()), ())).2).1).1, ((((r6.getD x2.toNat (0, (0, 0, [], (0, 0, 0, 0, [], [], [], ()), ()), ())).2).1).2).1, r7.2, (((((r6.getD x2.toNat (0, (0, 0, [], (0, 0, 0, 0, [], [], [], ()), ()), ())).2).1).2).2).2), ((r6.getD x2.toNat (0, (0, 0, [], (0, 0, 0, 0, [], [], [], ()), ()), ())).2).2))).bind fun r8 =>
  chk (inb x2 r8.length) <|
  (some (List.set r8 x2.toNat ((r8.getD x2.toNat (0, (0, 0, [], (0, 0, 0, 0, [], [], [], ()), ()), ())).1, ((((r8.getD x2.toNat (0, (0, 0, [], (0, 0, 0, 0, [], [], [], ()), ()), ())).2).1).1, ((((r8.getD x2.toNat (0, (0, 0, [], (0, 0, 0, 0, [], [], [], ()), ()), ())).2).1).2).1, (((((r8.getD x2.toNat (0, (0, 0, [], (0, 0, 0, 0, [], [], [], ()), ()), ())).2).1).2).2).1, (r7.1, (((((((r8.getD x2.toNat (0, (0, 0, [], (0, 0, 0, 0, [], [], [], ()), ()), ())).2).1).2).2).2).1).2), ((((((r8.getD x2.toNat (0, (0, 0, [], (0, 0, 0, 0, [], [], [], ()), ()), ())).2).1).2).2).2).2), ((r8.getD x2.toNat (0, (0, 0, [], (0, 0, 0, 0, [], [], [], ()), ()), ())).2).2))).bind fun r9 =>
  chk (inb x2 r9.length) <|
  (some (List.set r9 x2.toNat ((r9.getD x2.toNat (0, (0, 0, [], (0, 0, 0, 0, [], [], [], ()), ()), ())).1, ((((r9.getD x2.toNat (0, (0, 0, [], (0, 0, 0, 0, [], [], [], ()), ()), ())).2).1).1, ((((r9.getD x2.toNat (0, (0, 0, [], (0, 0, 0, 0, [], [], [], ()), ()), ())).2).1).2).1, (((((r9.getD x2.toNat (0, (0, 0, [], (0, 0, 0, 0, [], [], [], ()), ()), ())).2).1).2).2).1, ((((((((r9.getD x2.toNat (0, (0, 0, [], (0, 0, 0, 0, [], [], [], ()), ()), ())).2).1).2).2).2).1).1, w64 (r7.1 + 1), ((((((((r9.getD x2.toNat (0, (0, 0, [], (0, 0, 0, 0, [], [], [], ()), ()), ())).2).1).2).2).2).1).2).2), ((((((r9.getD x2.toNat (0, (0, 0, [], (0, 0, 0, 0, [], [], [], ()), ()), ())).2).1).2).2).2).2), ((r9.getD x2.toNat (0, (0, 0, [], (0, 0, 0, 0, [], [], [], ()), ()), ())).2).2))).bind fun r10 =>
  chk (inb x2 r10.length) <|
  (some (List.set r10 x2.toNat ((r10.getD x2.toNat (0, (0, 0, [], (0, 0, 0, 0, [], [], [], ()), ()), ())).1, ((((r10.getD x2.toNat (0, (0, 0, [], (0, 0, 0, 0, [], [], [], ()), ()), ())).2).1).1, ((((r10.getD x2.toNat (0, (0, 0, [], (0, 0, 0, 0, [], [], [], ()), ()), ())).2).1).2).1, (((((r10.getD x2.toNat (0, (0, 0, [], (0, 0, 0, 0, [], [], [], ()), ()), ())).2).1).2).2).1, ((((((((r10.getD x2.toNat (0, (0, 0, [], (0, 0, 0, 0, [], [], [], ()), ()), ())).2).1).2).2).2).1).1, ((((((((r10.getD x2.toNat (0, (0, 0, [], (0, 0, 0, 0, [], [], [], ()), ()), ())).2).1).2).2).2).1).2).1, w64 ((w64 (r7.1 + 1)) + 1), (((((((((r10.getD x2.toNat (0, (0, 0, [], (0, 0, 0, 0, [], [], [], ()), ()), ())).2).1).2).2).2).1).2).2).2), ((((((r10.getD x2.toNat (0, (0, 0, [], (0, 0, 0, 0, [], [], [], ()), ()), ())).2).1).2).2).2).2), ((r10.getD x2.toNat (0, (0, 0, [], (0, 0, 0, 0, [], [], [], ()), ()), ())).2).2))).bind fun r11 =>
  chk (inb x2 r11.length) <|
  (some (List.set r11 x2.toNat ((r11.getD x2.toNat (0, (0, 0, [], (0, 0, 0, 0, [], [], [], ()), ()), ())).1, ((((r11.getD x2.toNat (0, (0, 0, [], (0, 0, 0, 0, [], [], [], ()), ()), ())).2).1).1, ((((r11.getD x2.toNat (0, (0, 0, [], (0, 0, 0, 0, [], [], [], ()), ()), ())).2).1).2).1, (((((r11.getD x2.toNat (0, (0, 0, [], (0, 0, 0, 0, [], [], [], ()), ()), ())).2).1).2).2).1, ((((((((r11.getD x2.toNat (0, (0, 0, [], (0, 0, 0, 0, [], [], [], ()), ()), ())).2).1).2).2).2).1).1, ((((((((r11.getD x2.toNat (0, (0, 0, [], (0, 0, 0, 0, [], [], [], ()), ()), ())).2).1).2).2).2).1).2).1, (((((((((r11.getD x2.toNat (0, (0, 0, [], (0, 0, 0, 0, [], [], [], ()), ()), ())).2).1).2).2).2).1).2).2).1, w64 ((w64 ((w64 (r7.1 + 1)) + 1)) + 1), ((((((((((r11.getD x2.toNat (0, (0, 0, [], (0, 0, 0, 0, [], [], [], ()), ()), ())).2).1).2).2).2).1).2).2).2).2), ((((((r11.getD x2.toNat (0, (0, 0, [], (0, 0, 0, 0, [], [], [], ()), ()), ())).2).1).2).2).2).2), ((r11.getD x2.toNat (0, (0, 0, [], (0, 0, 0, 0, [], [], [], ()), ()), ())).2).2))).bind fun r12 =>
  chk (inb x2 r12.length) <|
  (F.laws_markIntS ((((((((((((r12.getD x2.toNat (0, (0, 0, [], (0, 0, 0, 0, [], [], [], ()), ()), ())).2).1).2).2).2).1).2).2).2).2).1) (w64 ((w64 ((w64 ((w64 (r7.1 + 1)) + 1)) + 1)) + 1))).bind fun r13 =>
  (some (List.set r12 x2.toNat ((r12.getD x2.toNat (0, (0, 0, [], (0, 0, 0, 0, [], [], [], ()), ()), ())).1, ((((r12.getD x2.toNat (0, (0, 0, [], (0, 0, 0, 0, [], [], [], ()), ()), ())).2).1).1, ((((r12.getD x2.toNat (0, (0, 0, [], (0, 0, 0, 0, [], [], [], ()), ()), ())).2).1).2).1, (((((r12.getD x2.toNat (0, (0, 0, [], (0, 0, 0, 0, [], [], [], ()), ()), ())).2).1).2).2).1, ((((((((r12.getD x2.toNat (0, (0, 0, [], (0, 0, 0, 0, [], [], [], ()), ()), ())).2).1).2).2).2).1).1, ((((((((r12.getD x2.toNat (0, (0, 0, [], (0, 0, 0, 0, [], [], [], ()), ()), ())).2).1).2).2).2).1).2).1, (((((((((r12.getD x2.toNat (0, (0, 0, [], (0, 0, 0, 0, [], [], [], ()), ()), ())).2).1).2).2).2).1).2).2).1, ((((((((((r12.getD x2.toNat (0, (0, 0, [], (0, 0, 0, 0, [], [], [], ()), ()), ())).2).1).2).2).2).1).2).2).2).1, r13.2, (((((((((((r12.getD x2.toNat (0, (0, 0, [], (0, 0, 0, 0, [], [], [], ()), ()), ())).2).1).2).2).2).1).2).2).2).2).2), ((((((r12.getD x2.toNat (0, (0, 0, [], (0, 0, 0, 0, [], [], [], ()), ()), ())).2).1).2).2).2).2), ((r12.getD x2.toNat (0, (0, 0, [], (0, 0, 0, 0, [], [], [], ()), ()), ())).2).2))).bind fun r14 =>
  chk (inb x2 r14.length) <|
  (F.laws_markIntS (((((((((((((r14.getD x2.toNat (0, (0, 0, [], (0, 0, 0, 0, [], [], [], ()), ()), ())).2).1).2).2).2).1).2).2).2).2).2).1) r13.1).bind fun r15 =>
  (some (List.set r14 x2.toNat ((r14.getD x2.toNat (0, (0, 0, [], (0, 0, 0, 0, [], [], [], ()), ()), ())).1, ((((r14.getD x2.toNat (0, (0, 0, [], (0, 0, 0, 0, [], [], [], ()), ()), ())).2).1).1, ((((r14.getD x2.toNat (0, (0, 0, [], (0, 0, 0, 0, [], [], [], ()), ()), ())).2).1).2).1, (((((r14.getD x2.toNat (0, (0, 0, [], (0, 0, 0, 0, [], [], [], ()), ()), ())).2).1).2).2).1, ((((((((r14.getD x2.toNat (0, (0, 0, [], (0, 0, 0, 0, [], [], [], ()), ()), ())).2).1).2).2).2).1).1, ((((((((r14.getD x2.toNat (0, (0, 0, [], (0, 0, 0, 0, [], [], [], ()), ()), ())).2).1).2).2).2).1).2).1, (((((((((r14.getD x2.toNat (0, (0, 0, [], (0, 0, 0, 0, [], [], [], ()), ()), ())).2).1).2).2).2).1).2).2).1, ((((((((((r14.getD x2.toNat (0, (0, 0, [], (0, 0, 0, 0, [], [], [], ()), ()), ())).2).1).2).2).2).1).2).2).2).1, (((((((((((r14.getD x2.toNat (0, (0, 0, [], (0, 0, 0, 0, [], [], [], ()), ()), ())).2).1).2).2).2).1).2).2).2).2).1, r15.2, ((((((((((((r14.getD x2.toNat (0, (0, 0, [], (0, 0, 0, 0, [], [], [], ()), ()), ())).2).1).2).2).2).1).2).2).2).2).2).2), ((((((r14.getD x2.toNat (0, (0, 0, [], (0, 0, 0, 0, [], [], [], ()), ()), ())).2).1).2).2).2).2), ((r14.getD x2.toNat (0, (0, 0, [], (0, 0, 0, 0, [], [], [], ()), ()), ())).2).2))).bind fun r16 =>
  chk (inb x2 r16.length) <|
  (F.laws_markIntSS ((((((((((((((r16.getD x2.toNat (0, (0, 0, [], (0, 0, 0, 0, [], [], [], ()), ()), ())).2).1).2).2).2).1).2).2).2).2).2).2).1) r15.1).bind fun r17 =>
  (some (List.set r16 x2.toNat ((r16.getD x2.toNat (0, (0, 0, [], (0, 0, 0, 0, [], [], [], ()), ()), ())).1, ((((r16.getD x2.toNat (0, (0, 0, [], (0, 0, 0, 0, [], [], [], ()), ()), ())).2).1).1, ((((r16.getD x2.toNat (0, (0, 0, [], (0, 0, 0, 0, [], [], [], ()), ()), ())).2).1).2).1, (((((r16.getD x2.toNat (0, (0, 0, [], (0, 0, 0, 0, [], [], [], ()), ()), ())).2).1).2).2).1, ((((((((r16.getD x2.toNat (0, (0, 0, [], (0, 0, 0, 0, [], [], [], ()), ()), ())).2).1).2).2).2).1).1, ((((((((r16.getD x2.toNat (0, (0, 0, [], (0, 0, 0, 0, [], [], [], ()), ()), ())).2).1).2).2).2).1).2).1, (((((((((r16.getD x2.toNat (0, (0, 0, [], (0, 0, 0, 0, [], [], [], ()), ()), ())).2).1).2).2).2).1).2).2).1, ((((((((((r16.getD x2.toNat (0, (0, 0, [], (0, 0, 0, 0, [], [], [], ()), ()), ())).2).1).2).2).2).1).2).2).2).1, (((((((((((r16.getD x2.toNat (0, (0, 0, [], (0, 0, 0, 0, [], [], [], ()), ()), ())).2).1).2).2).2).1).2).2).2).2).1, ((((((((((((r16.getD x2.toNat (0, (0, 0, [], (0, 0, 0, 0, [], [], [], ()), ()), ())).2).1).2).2).2).1).2).2).2).2).2).1, r17.2, (((((((((((((r16.getD x2.toNat (0, (0, 0, [], (0, 0, 0, 0, [], [], [], ()), ()), ())).2).1).2).2).2).1).2).2).2).2).2).2).2), ((((((r16.getD x2.toNat (0, (0, 0, [], (0, 0, 0, 0, [], [], [], ()), ()), ())).2).1).2).2).2).2), ((r16.getD x2.toNat (0, (0, 0, [], (0, 0, 0, 0, [], [], [], ()), ()), ())).2).2))).bind fun r18 =>
  some (.again (r17.1, w64 (x2 + 1), r18, ()))
 else
  some (.exit (x1, x2, x3, ()))
def F.laws_markOutS (a0 : List DOut) (a1 : Int) : Option (Int × (List DOut)) :=
 afterO (loopO F.laws_markOutS.s2 (a1, 0, a0, ())) fun (x19, x20, x21, _) =>
 some (x19, x21)
def C.laws_markOutS : Con := ⟨[.c (.sl true 203 y17), .r (.val (.int .i64))], .one (.int .i64), fun x => F.laws_markOutS x.1 x.2.1⟩
def L.laws_markOutS : Loops := lookL [(2, ⟨[.pat 1 (.val (.int .i64)), .pat 5 (.val (.int .i64)), .root 0 false (.sl true 203 y17) [0]], 0⟩)]
def K.laws_markOutS : Cons := lookK [(62, [], C.laws_markSpanS), (63, [], C.laws_markIntS), (64, [], C.laws_markIntSS)]
theorem run.laws_markOutS : Rn K.laws_markOutS L.laws_markOutS [0] Tryz.f97 C.laws_markOutS := fun x => by kernel_rfl

/-! ### laws.markHouse: function 26 -/
def F.laws_markHouse (a0 : DHouse) (a1 : Int) : Option (Int × DHouse) :=
 (F.laws_markConf a0.1 a1).bind fun r1 =>
 (F.laws_markSeatS a0.2.2.2.1 r1.1).bind fun r2 =>
 (F.laws_markRowSS a0.2.2.2.2.1 r2.1).bind fun r3 =>
 (F.laws_markTurnS a0.2.2.2.2.2.1 r3.1).bind fun r4 =>
 (F.laws_markEntryS a0.2.2.2.2.2.2.2.1 r4.1).bind fun r5 =>
 (F.laws_markOutS a0.2.2.2.2.2.2.2.2.1 r5.1).bind fun r6 =>
 some (r6.1, (r1.2, a0.2.1, a0.2.2.1, r2.2, r3.2, r4.2, a0.2.2.2.2.2.2.1, r5.2, r6.2, a0.2.2.2.2.2.2.2.2.2))
def C.laws_markHouse : Con := ⟨[.c y18, .r (.val (.int .i64))], .one (.int .i64), fun x => F.laws_markHouse x.1 x.2.1⟩
def K.laws_markHouse : Cons := lookK [(18, [], C.laws_markEntryS), (93, [], C.laws_markConf), (94, [], C.laws_markSeatS), (95, [], C.laws_markRowSS), (96, [], C.laws_markTurnS), (97, [], C.laws_markOutS)]
theorem run.laws_markHouse : Rn K.laws_markHouse L0 [2] Tryz.f26 C.laws_markHouse := fun x => by kernel_rfl

/-! ### laws.heldConf: function 98 -/
def F.laws_heldConf (a0 : DConf) (a1 : Int) : Option Int :=
 (F.laws_heldIntS a0.2.2.2.1 a1).bind fun r1 =>
 bif decide (r1 < 0) then
  some (-1)
 else
  some r1
def C.laws_heldConf : Con := ⟨[.r (.val y9), .r (.val (.int .i64))], .one (.int .i64), fun x => F.laws_heldConf x.1 x.2.1⟩
def K.laws_heldConf : Cons := lookK [(67, [], C.laws_heldIntS)]
theorem run.laws_heldConf : Rn K.laws_heldConf L0 [] Tryz.f98 C.laws_heldConf := fun x => by kernel_rfl

/-! ### laws.heldSeatS: function 99 -/
def F.laws_heldSeatS.s2 : Stp ((List DSeat) × Int × Int × Unit) Int := fun (x1, x2, x3, _) =>
 bif decide (x3 < (len x1)) then
  chk (inb x3 x1.length) <|
  bif ((x1.getD x3.toNat (0, 0, [], 0, 0, ())).1) != x2 then
   some (.ret (-1))
  else
  chk (inb x3 x1.length) <|
  bif (((x1.getD x3.toNat (0, 0, [], 0, 0, ())).2).1) != (w64 (x2 + 1)) then
   some (.ret (-1))
  else
  chk (inb x3 x1.length) <|
  (F.laws_heldSpanS ((((x1.getD x3.toNat (0, 0, [], 0, 0, ())).2).2).1) (w64 ((w64 (x2 + 1)) + 1))).bind fun r4 =>
  bif decide (r4 < 0) then
   some (.ret (-1))
  else
  chk (inb x3 x1.length) <|
  bif (((((x1.getD x3.toNat (0, 0, [], 0, 0, ())).2).2).2).1) != r4 then
   some (.ret (-1))
  else
  chk (inb x3 x1.length) <|
  bif ((((((x1.getD x3.toNat (0, 0, [], 0, 0, ())).2).2).2).2).1) != (w64 (r4 + 1)) then
   some (.ret (-1))
  else
   some (.again (x1, w64 ((w64 (r4 + 1)) + 1), w64 (x3 + 1), ()))
 else
  some (.exit (x1, x2, x3, ()))
def F.laws_heldSeatS (a0 : List DSeat) (a1 : Int) : Option Int :=
 afterO (loopO F.laws_heldSeatS.s2 (a0, a1, 0, ())) fun (x5, x6, x7, _) =>
 some x6
def C.laws_heldSeatS : Con := ⟨[.r (.val (.sl false 143 y19)), .r (.val (.int .i64))], .one (.int .i64), fun x => F.laws_heldSeatS x.1 x.2.1⟩
def L.laws_heldSeatS : Loops := lookL [(2, ⟨[.pat 0 (.val (.sl false 143 y19)), .pat 1 (.val (.int .i64)), .pat 5 (.val (.int .i64))], 0⟩)]
def K.laws_heldSeatS : Cons := lookK [(66, [], C.laws_heldSpanS)]
theorem run.laws_heldSeatS : Rn K.laws_heldSeatS L.laws_heldSeatS [] Tryz.f99 C.laws_heldSeatS := fun x => by kernel_rfl

/-! ### laws.heldRowS: function 198 -/
def F.laws_heldRowS.s2 : Stp ((List DRow) × Int × Int × Unit) Int := fun (x1, x2, x3, _) =>
 bif decide (x3 < (len x1)) then
  chk (inb x3 x1.length) <|
  (F.laws_heldEntryS ((x1.getD x3.toNat ([], ())).1) x2).bind fun r4 =>
  bif decide (r4 < 0) then
   some (.ret (-1))
  else
   some (.again (x1, r4, w64 (x3 + 1), ()))
 else
  some (.exit (x1, x2, x3, ()))
def F.laws_heldRowS (a0 : List DRow) (a1 : Int) : Option Int :=
 afterO (loopO F.laws_heldRowS.s2 (a0, a1, 0, ())) fun (x5, x6, x7, _) =>
 some x6
def C.laws_heldRowS : Con := ⟨[.r (.val (.sl false 84 (.cons (.sl false 31 y7) .nil))), .r (.val (.int .i64))], .one (.int .i64), fun x => F.laws_heldRowS x.1 x.2.1⟩
def L.laws_heldRowS : Loops := lookL [(2, ⟨[.pat 0 (.val (.sl false 84 (.cons (.sl false 31 y7) .nil))), .pat 1 (.val (.int .i64)), .pat 5 (.val (.int .i64))], 0⟩)]
def K.laws_heldRowS : Cons := lookK [(20, [], C.laws_heldEntryS)]
theorem run.laws_heldRowS : Rn K.laws_heldRowS L.laws_heldRowS [] Tryz.f198 C.laws_heldRowS := fun x => by kernel_rfl

/-! ### laws.heldRowSS: function 100 -/
def F.laws_heldRowSS.s2 : Stp ((List (List DRow)) × Int × Int × Unit) Int := fun (x1, x2, x3, _) =>
 bif decide (x3 < (len x1)) then
  chk (inb x3 x1.length) <|
  (F.laws_heldRowS (x1.getD x3.toNat ([])) x2).bind fun r4 =>
  bif decide (r4 < 0) then
   some (.ret (-1))
  else
   some (.again (x1, r4, w64 (x3 + 1), ()))
 else
  some (.exit (x1, x2, x3, ()))
def F.laws_heldRowSS (a0 : List (List DRow)) (a1 : Int) : Option Int :=
 afterO (loopO F.laws_heldRowSS.s2 (a0, a1, 0, ())) fun (x5, x6, x7, _) =>
 some x6
def C.laws_heldRowSS : Con := ⟨[.r (.val (.sl false 121 (.sl false 84 (.cons (.sl false 31 y7) .nil)))), .r (.val (.int .i64))], .one (.int .i64), fun x => F.laws_heldRowSS x.1 x.2.1⟩
def L.laws_heldRowSS : Loops := lookL [(2, ⟨[.pat 0 (.val (.sl false 121 (.sl false 84 (.cons (.sl false 31 y7) .nil)))), .pat 1 (.val (.int .i64)), .pat 5 (.val (.int .i64))], 0⟩)]
def K.laws_heldRowSS : Cons := lookK [(198, [], C.laws_heldRowS)]
theorem run.laws_heldRowSS : Rn K.laws_heldRowSS L.laws_heldRowSS [] Tryz.f100 C.laws_heldRowSS := fun x => by kernel_rfl

/-! ### laws.heldTurnS: function 101 -/
def F.laws_heldTurnS.s2 : Stp ((List DTurn) × Int × Int × Unit) Int := fun (x1, x2, x3, _) =>
 bif decide (x3 < (len x1)) then
  chk (inb x3 x1.length) <|
  bif ((x1.getD x3.toNat (0, false, [], ())).1) != x2 then
   some (.ret (-1))
  else
  chk (inb x3 x1.length) <|
  bif !((((x1.getD x3.toNat (0, false, [], ())).2).1) == ((Int.tmod (w64 (x2 + 1)) 3) == 0)) then
   some (.ret (-1))
  else
  chk (inb x3 x1.length) <|
  (F.laws_heldIntS ((((x1.getD x3.toNat (0, false, [], ())).2).2).1) (w64 ((w64 (x2 + 1)) + 1))).bind fun r4 =>
  bif decide (r4 < 0) then
   some (.ret (-1))
  else
   some (.again (x1, r4, w64 (x3 + 1), ()))
 else
  some (.exit (x1, x2, x3, ()))
def F.laws_heldTurnS (a0 : List DTurn) (a1 : Int) : Option Int :=
 afterO (loopO F.laws_heldTurnS.s2 (a0, a1, 0, ())) fun (x5, x6, x7, _) =>
 some x6
def C.laws_heldTurnS : Con := ⟨[.r (.val (.sl false 125 y11)), .r (.val (.int .i64))], .one (.int .i64), fun x => F.laws_heldTurnS x.1 x.2.1⟩
def L.laws_heldTurnS : Loops := lookL [(2, ⟨[.pat 0 (.val (.sl false 125 y11)), .pat 1 (.val (.int .i64)), .pat 5 (.val (.int .i64))], 0⟩)]
def K.laws_heldTurnS : Cons := lookK [(67, [], C.laws_heldIntS)]
theorem run.laws_heldTurnS : Rn K.laws_heldTurnS L.laws_heldTurnS [] Tryz.f101 C.laws_heldTurnS := fun x => by kernel_rfl

/-! ### laws.heldOutS: function 102 -/
def F.laws_heldOutS.s2 : Stp ((List DOut) × Int × Int × Unit) Int := fun (x1, x2, x3, _) =>
 bif decide (x3 < (len x1)) then
  chk (inb x3 x1.length) <|
  bif ((x1.getD x3.toNat (0, (0, 0, [], (0, 0, 0, 0, [], [], [], ()), ()), ())).1) != x2 then
   some (.ret (-1))
  else
  chk (inb x3 x1.length) <|
  bif ((((x1.getD x3.toNat (0, (0, 0, [], (0, 0, 0, 0, [], [], [], ()), ()), ())).2).1).1) != (w64 (x2 + 1)) then
   some (.ret (-1))
  else
  chk (inb x3 x1.length) <|
  bif (((((x1.getD x3.toNat (0, (0, 0, [], (0, 0, 0, 0, [], [], [], ()), ()), ())).2).1).2).1) != (w64 ((w64 (x2 + 1)) + 1)) then
   some (.ret (-1))
  else
  chk (inb x3 x1.length) <|
  (F.laws_heldSpanS ((((((x1.getD x3.toNat (0, (0, 0, [], (0, 0, 0, 0, [], [], [], ()), ()), ())).2).1).2).2).1) (w64 ((w64 ((w64 (x2 + 1)) + 1)) + 1))).bind fun r4 =>
  bif decide (r4 < 0) then
   some (.ret (-1))
  else
  chk (inb x3 x1.length) <|
  bif ((((((((x1.getD x3.toNat (0, (0, 0, [], (0, 0, 0, 0, [], [], [], ()), ()), ())).2).1).2).2).2).1).1) != r4 then
   some (.ret (-1))
  else
  chk (inb x3 x1.length) <|
  bif (((((((((x1.getD x3.toNat (0, (0, 0, [], (0, 0, 0, 0, [], [], [], ()), ()), ())).2).1).2).2).2).1).2).1) != (w64 (r4 + 1)) then
   some (.ret (-1))
  else
  chk (inb x3 x1.length) <|
  bif ((((((((((x1.getD x3.toNat (0, (0, 0, [], (0, 0, 0, 0, [], [], [], ()), ()), ())).2).1).2).2).2).1).2).2).1) != (w64 ((w64 (r4 + 1)) + 1)) then
   some (.ret (-1))
  else
  chk (inb x3 x1.length) <|
  bif (((((((((((x1.getD x3.toNat (0, (0, 0, [], (0, 0, 0, 0, [], [], [], ()), ()), ())).2).1).2).2).2).1).2).2).2).1) != (w64 ((w64 ((w64 (r4 + 1)) + 1)) + 1)) then
   some (.ret (-1))
  else
  chk (inb x3 x1.length) <|
  (F.laws_heldIntS ((((((((((((x1.getD x3.toNat (0, (0, 0, [], (0, 0, 0, 0, [], [], [], ()), ()), ())).2).1).2).2).2).1).2).2).2).2).1) (w64 ((w64 ((w64 ((w64 (r4 + 1)) + 1)) + 1)) + 1))).bind fun r5 =>
  bif decide (r5 < 0) then
   some (.ret (-1))
  else
  chk (inb x3 x1.length) <|
  (F.laws_heldIntS (((((((((((((x1.getD x3.toNat (0, (0, 0, [], (0, 0, 0, 0, [], [], [], ()), ()), ())).2).1).2).2).2).1).2).2).2).2).2).1) r5).bind fun r6 =>
  bif decide (r6 < 0) then
   some (.ret (-1))
  else
  chk (inb x3 x1.length) <|
  (F.laws_heldIntSS ((((((((((((((x1.getD x3.toNat (0, (0, 0, [], (0, 0, 0, 0, [], [], [], ()), ()), ())).2).1).2).2).2).1).2).2).2).2).2).2).1) r6).bind fun r7 =>
  bif decide (r7 < 0) then
   some (.ret (-1))
  else
   some (.again (x1, r7, w64 (x3 + 1), ()))
 else
  some (.exit (x1, x2, x3, ()))
def F.laws_heldOutS (a0 : List DOut) (a1 : Int) : Option Int :=
 afterO (loopO F.laws_heldOutS.s2 (a0, a1, 0, ())) fun (x8, x9, x10, _) =>
 some x9
def C.laws_heldOutS : Con := ⟨[.r (.val (.sl false 203 y20)), .r (.val (.int .i64))], .one (.int .i64), fun x => F.laws_heldOutS x.1 x.2.1⟩
def L.laws_heldOutS : Loops := lookL [(2, ⟨[.pat 0 (.val (.sl false 203 y20)), .pat 1 (.val (.int .i64)), .pat 5 (.val (.int .i64))], 0⟩)]
def K.laws_heldOutS : Cons := lookK [(66, [], C.laws_heldSpanS), (67, [], C.laws_heldIntS), (68, [], C.laws_heldIntSS)]
theorem run.laws_heldOutS : Rn K.laws_heldOutS L.laws_heldOutS [] Tryz.f102 C.laws_heldOutS := fun x => by kernel_rfl

/-! ### laws.heldHouse: function 27 -/
def F.laws_heldHouse (a0 : DHouse) (a1 : Int) : Option Int :=
 (F.laws_heldConf a0.1 a1).bind fun r1 =>
 bif decide (r1 < 0) then
  some (-1)
 else
 (F.laws_heldSeatS a0.2.2.2.1 r1).bind fun r2 =>
 bif decide (r2 < 0) then
  some (-1)
 else
 (F.laws_heldRowSS a0.2.2.2.2.1 r2).bind fun r3 =>
 bif decide (r3 < 0) then
  some (-1)
 else
 (F.laws_heldTurnS a0.2.2.2.2.2.1 r3).bind fun r4 =>
 bif decide (r4 < 0) then
  some (-1)
 else
 (F.laws_heldEntryS a0.2.2.2.2.2.2.2.1 r4).bind fun r5 =>
 bif decide (r5 < 0) then
  some (-1)
 else
 (F.laws_heldOutS a0.2.2.2.2.2.2.2.2.1 r5).bind fun r6 =>
 bif decide (r6 < 0) then
  some (-1)
 else
  some r6
def C.laws_heldHouse : Con := ⟨[.r (.val y21), .r (.val (.int .i64))], .one (.int .i64), fun x => F.laws_heldHouse x.1 x.2.1⟩
def K.laws_heldHouse : Cons := lookK [(20, [], C.laws_heldEntryS), (98, [], C.laws_heldConf), (99, [], C.laws_heldSeatS), (100, [], C.laws_heldRowSS), (101, [], C.laws_heldTurnS), (102, [], C.laws_heldOutS)]
theorem run.laws_heldHouse : Rn K.laws_heldHouse L0 [] Tryz.f27 C.laws_heldHouse := fun x => by kernel_rfl

/-! ### laws.FnExactNextOf: function 5 -/
def F.laws_FnExactNextOf (a0 : DHouse) : Option Bool :=
 (F.laws_szHouse a0 1048576).bind fun r1 =>
 bif decide (r1 < 0) then
  some true
 else
 (F.laws_toHouse a0).bind fun r2 =>
 (F.spec_NextOf r2).bind fun r3 =>
 (F.laws_toHouse a0).bind fun r4 =>
 (F.impl_NextOf r4).bind fun r5 =>
 bif r5.1 != r3.1 then
  some false
 else
 bif r5.2.1 != r3.2.1 then
  some false
 else
 (F.laws_eqHouse r5.2.2 r3.2.2).bind fun r6 =>
 bif !r6 then
  some false
 else
 (F.laws_toHouse a0).bind fun r7 =>
 (F.laws_eqHouse r4 r7).bind fun r8 =>
 bif !r8 then
  some false
 else
 (F.laws_markHouse r4 1).bind fun r9 =>
 bif decide (r9.1 < 0) then
  some false
 else
 bif r5.1 != r3.1 then
  some false
 else
 bif r5.2.1 != r3.2.1 then
  some false
 else
 (F.laws_eqHouse r5.2.2 r3.2.2).bind fun r10 =>
 bif !r10 then
  some false
 else
 (F.laws_markHouse r5.2.2 1).bind fun r11 =>
 (F.laws_heldHouse r11.2 1).bind fun r12 =>
 bif decide (r12 < 0) then
  some false
 else
 bif r12 != r11.1 then
  some false
 else
 (F.laws_toHouse a0).bind fun r13 =>
 (F.impl_NextOf r13).bind fun r14 =>
 bif r14.1 != r3.1 then
  some false
 else
 bif r14.2.1 != r3.2.1 then
  some false
 else
 (F.laws_eqHouse r14.2.2 r3.2.2).bind fun r15 =>
 bif !r15 then
  some false
 else
 (F.laws_heldHouse r11.2 1).bind fun r16 =>
 bif decide (r16 < 0) then
  some false
 else
 bif r16 != r11.1 then
  some false
 else
  some true
def C.laws_FnExactNextOf : Con := ⟨[.r (.val y13)], .one .bool, fun x => F.laws_FnExactNextOf x.1⟩
def K.laws_FnExactNextOf : Cons := lookK [(21, [], C.laws_szHouse), (22, [], C.spec_NextOf), (23, [], C.laws_toHouse), (24, [], C.impl_NextOf), (25, [], C.laws_eqHouse), (26, [], C.laws_markHouse), (27, [], C.laws_heldHouse)]
theorem run.laws_FnExactNextOf : Rn K.laws_FnExactNextOf L0 [] Tryz.f5 C.laws_FnExactNextOf := fun x => by kernel_rfl

/-! ### spec.RowPop: function 199 -/
def F.spec_RowPop (a0 : DRow) : Option (DEntry × DRow × Bool) :=
 (F.spec_l10Copy a0).bind fun r1 =>
 (F.spec_RowOk a0).bind fun r2 =>
 bif !r2 then
  some ((0, 0, ([] : List DSpan), (0, 0, 0, 0, ([] : List Int), ([] : List Int), ([] : List (List Int)), ()), ()), r1, false)
 else
 bif (len a0.1) == 0 then
  some ((0, 0, ([] : List DSpan), (0, 0, 0, 0, ([] : List Int), ([] : List Int), ([] : List (List Int)), ()), ()), r1, false)
 else
 chk (inb 0 r1.1.length) <|
 chk (cutOk 1 (len r1.1) r1.1.length) <|
 chk (fits (List.length ([] : List DEntry) + List.length (List.take ((Int.toNat (len r1.1)) - 1) (List.drop 1 r1.1))) 144) <|
 some (r1.1.getD 0 (0, 0, [], (0, 0, 0, 0, [], [], [], ()), ()), (([] : List DEntry) ++ (List.take ((Int.toNat (len r1.1)) - 1) (List.drop 1 r1.1)), ()), true)
def C.spec_RowPop : Con := ⟨[.r (.val (.cons (.sl false 31 y7) .nil))], .many [y7, (.cons (.sl false 31 y7) .nil), .bool], fun x => F.spec_RowPop x.1⟩
def L.spec_RowPop : Loops := lookL [(1000004, ⟨[.root 2 true y6 [2], .root 3 true (.cons (.sl true 31 y6) .nil) [3], .root 5 true (.cons (.sl false 31 y7) .nil) [5]], 0⟩)]
def K.spec_RowPop : Cons := lookK [(114, [], C.spec_RowOk), (163, [], C.spec_l10Copy)]
theorem run.spec_RowPop : Rn K.spec_RowPop L.spec_RowPop [] Tryz.f199 C.spec_RowPop := fun x => by kernel_rfl

/-! ### spec.l14Root: function 200 -/
def F.spec_l14Root (a0 : List DEntry) (a1 : DEntry) : Option (List DEntry) :=
 (F.spec_l10Into a0 a1).bind fun r1 =>
 some r1
def C.spec_l14Root : Con := ⟨[.o (.sl true 31 y7), .r (.val y7)], .one (.sl true 31 y7), fun x => F.spec_l14Root x.1 x.2.1⟩
def K.spec_l14Root : Cons := lookK [(115, [], C.spec_l10Into)]
theorem run.spec_l14Root : Rn K.spec_l14Root L0 [] Tryz.f200 C.spec_l14Root := fun x => by kernel_rfl

/-! ### spec.SeatMerge: function 201 -/
def F.spec_SeatMerge (a0 : DSeat) (a1 : Int) (a2 : Int) : Option (DSeat × Bool) :=
 (F.spec_l9Copy a0).bind fun r1 =>
 (F.spec_SeatOk a0 a1).bind fun r2 =>
 bif !r2 then
  some (r1, false)
 else
 (F.spec_l1In a2 0 60).bind fun r3 =>
 bif !r3 then
  some (r1, false)
 else
 (F.spec_SeatOk (r1.1, r1.2.1, r1.2.2.1, w64 (a0.2.2.2.1 + a2), r1.2.2.2.2) a1).bind fun r4 =>
 bif !r4 then
  (F.spec_l9Copy a0).bind fun r5 =>
  some (r5, false)
 else
  some ((r1.1, r1.2.1, r1.2.2.1, w64 (a0.2.2.2.1 + a2), r1.2.2.2.2), true)
def C.spec_SeatMerge : Con := ⟨[.r (.val y19), .r (.val (.int .i64)), .r (.val (.int .i64))], .many [y15, .bool], fun x => F.spec_SeatMerge x.1 x.2.1 x.2.2.1⟩
def K.spec_SeatMerge : Cons := lookK [(162, [], C.spec_l9Copy), (239, [], C.spec_l1In), (243, [], C.spec_SeatOk)]
theorem run.spec_SeatMerge : Rn K.spec_SeatMerge L0 [] Tryz.f201 C.spec_SeatMerge := fun x => by kernel_rfl

/-! ### spec.SeatGrant: function 203 -/
def F.spec_SeatGrant (a0 : DSeat) (a1 : Int) : Option DSeat :=
 (F.spec_l9Copy a0).bind fun r1 =>
 (F.spec_SeatOk a0 a1).bind fun r2 =>
 bif r2 then
  (F.spec_l1Min 60 (w64 (a0.2.2.2.1 + a1))).bind fun r3 =>
  some (r1.1, r3, r1.2.2)
 else
  some r1
def C.spec_SeatGrant : Con := ⟨[.r (.val y19), .r (.val (.int .i64))], .one y15, fun x => F.spec_SeatGrant x.1 x.2.1⟩
def K.spec_SeatGrant : Cons := lookK [(162, [], C.spec_l9Copy), (243, [], C.spec_SeatOk), (249, [], C.spec_l1Min)]
theorem run.spec_SeatGrant : Rn K.spec_SeatGrant L0 [] Tryz.f203 C.spec_SeatGrant := fun x => by kernel_rfl

/-! ### spec.l14Step: function 103 -/
def F.spec_l14Step (a0 : DHouse) : Option (DHouse × Bool) :=
 (F.spec_l14Next a0).bind fun r1 =>
 bif decide (r1.1 < 0) then
  (F.spec_l12Copy a0).bind fun r2 =>
  some (r2, false)
 else
 chk (inb r1.1 r1.2.2.2.2.2.2.1.length) <|
 chk (inb r1.2.1 (List.length (r1.2.2.2.2.2.2.1.getD (Int.toNat r1.1) ([])))) <|
 (F.spec_RowPop (List.getD (r1.2.2.2.2.2.2.1.getD (Int.toNat r1.1) ([])) (Int.toNat r1.2.1) ([], ()))).bind fun r3 =>
 chk (inb r1.1 r1.2.2.2.2.2.2.1.length) <|
 chk (inb r1.2.1 (List.length (r1.2.2.2.2.2.2.1.getD (Int.toNat r1.1) ([])))) <|
 (some (List.set r1.2.2.2.2.2.2.1 (Int.toNat r1.1) (List.set (r1.2.2.2.2.2.2.1.getD (Int.toNat r1.1) ([])) (Int.toNat r1.2.1) r3.2.1))).bind fun r4 =>
 (F.spec_l14Root r1.2.2.2.2.2.2.2.2.2.1 r3.1).bind fun r5 =>
 chk (inb r1.1 r1.2.2.2.2.2.1.length) <|
 (F.spec_SetSize r3.1.2.2.1).bind fun r6 =>
 (F.spec_SeatMerge (r1.2.2.2.2.2.1.getD (Int.toNat r1.1) (0, 0, [], 0, 0, ())) r1.2.2.1.1 r6).bind fun r7 =>
 bif !r1.2.2.2.2.1 then
  (F.spec_SeatGrant r7.1 r1.2.2.1.1).bind fun r8 =>
  chk (inb r1.1 r1.2.2.2.2.2.1.length) <|
  some ((r1.2.2.1, r1.2.2.2.1, r1.2.2.2.2.1, List.set r1.2.2.2.2.2.1 (Int.toNat r1.1) r8, r4, r1.2.2.2.2.2.2.2.1, r1.2.2.2.2.2.2.2.2.1, r5, r1.2.2.2.2.2.2.2.2.2.2), true)
 else
 chk (inb r1.1 r1.2.2.2.2.2.1.length) <|
 some ((r1.2.2.1, r1.2.2.2.1, r1.2.2.2.2.1, List.set r1.2.2.2.2.2.1 (Int.toNat r1.1) r7.1, r4, r1.2.2.2.2.2.2.2.1, r1.2.2.2.2.2.2.2.2.1, r5, r1.2.2.2.2.2.2.2.2.2.2), true)
def C.spec_l14Step : Con := ⟨[.r (.val y21)], .many [y21, .bool], fun x => F.spec_l14Step x.1⟩
def K.spec_l14Step : Cons := lookK [(75, [], C.spec_l12Copy), (76, [], C.spec_l14Next), (199, [], C.spec_RowPop), (200, [], C.spec_l14Root), (201, [], C.spec_SeatMerge), (202, [], C.spec_SetSize), (203, [], C.spec_SeatGrant)]
theorem run.spec_l14Step : Rn K.spec_l14Step L0 [] Tryz.f103 C.spec_l14Step := fun x => by kernel_rfl

/-! ### spec.MergeStep: function 28 -/
def F.spec_MergeStep (a0 : DHouse) : Option (DHouse × Bool) :=
 (F.spec_HouseOk a0).bind fun r1 =>
 bif !r1 then
  (F.spec_l12Copy a0).bind fun r2 =>
  some (r2, false)
 else
 (F.spec_l14Step a0).bind fun r3 =>
 some (r3.1, r3.2)
def C.spec_MergeStep : Con := ⟨[.r (.val y21)], .many [y21, .bool], fun x => F.spec_MergeStep x.1⟩
def K.spec_MergeStep : Cons := lookK [(74, [], C.spec_HouseOk), (75, [], C.spec_l12Copy), (103, [], C.spec_l14Step)]
theorem run.spec_MergeStep : Rn K.spec_MergeStep L0 [] Tryz.f28 C.spec_MergeStep := fun x => by kernel_rfl

/-! ### impl.RowPop: function 104 -/
def F.impl_RowPop (a0 : DRow) : Option (DEntry × DRow × Bool) :=
 (F.impl_copyRow a0).bind fun r1 =>
 (F.impl_RowOk a0).bind fun r2 =>
 bif !r2 then
  some ((0, 0, ([] : List DSpan), (0, 0, 0, 0, ([] : List Int), ([] : List Int), ([] : List (List Int)), ()), ()), r1, false)
 else
 bif (len a0.1) == 0 then
  some ((0, 0, ([] : List DSpan), (0, 0, 0, 0, ([] : List Int), ([] : List Int), ([] : List (List Int)), ()), ()), r1, false)
 else
 chk (inb 0 r1.1.length) <|
 chk (cutOk 1 (len r1.1) r1.1.length) <|
 some (r1.1.getD 0 (0, 0, [], (0, 0, 0, 0, [], [], [], ()), ()), (List.take ((Int.toNat (len r1.1)) - 1) (List.drop 1 r1.1), ()), true)
def C.impl_RowPop : Con := ⟨[.r (.val (.cons (.sl false 31 y7) .nil))], .many [y6, (.cons (.sl true 31 y6) .nil), .bool], fun x => F.impl_RowPop x.1⟩
def L.impl_RowPop : Loops := lookL [(2000004, ⟨[.pat 26 .nil], 8⟩)]
def K.impl_RowPop : Cons := lookK [(176, [], C.impl_copyRow), (204, [], C.impl_RowOk)]
theorem run.impl_RowPop : Rn K.impl_RowPop L.impl_RowPop [] Tryz.f104 C.impl_RowPop := fun x => by kernel_rfl

/-! ### impl.SeatMerge: function 105 -/
def F.impl_SeatMerge (a0 : DSeat) (a1 : Int) (a2 : Int) : Option (DSeat × Bool) :=
 (F.impl_copySeat a0).bind fun r1 =>
 (F.impl_SeatOk a0 a1).bind fun r2 =>
 bif !r2 then
  some (r1, false)
 else
 (F.impl_within a2 0 60).bind fun r3 =>
 bif !r3 then
  some (r1, false)
 else
 (F.impl_SeatOk (r1.1, r1.2.1, r1.2.2.1, w64 (r1.2.2.2.1 + a2), r1.2.2.2.2) a1).bind fun r4 =>
 bif !r4 then
  (F.impl_copySeat a0).bind fun r5 =>
  some (r5, false)
 else
  some ((r1.1, r1.2.1, r1.2.2.1, w64 (r1.2.2.2.1 + a2), r1.2.2.2.2), true)
def C.impl_SeatMerge : Con := ⟨[.r (.val y19), .r (.val (.int .i64)), .r (.val (.int .i64))], .many [y15, .bool], fun x => F.impl_SeatMerge x.1 x.2.1 x.2.2.1⟩
def K.impl_SeatMerge : Cons := lookK [(123, [], C.impl_within), (175, [], C.impl_copySeat), (205, [], C.impl_SeatOk)]
theorem run.impl_SeatMerge : Rn K.impl_SeatMerge L0 [] Tryz.f105 C.impl_SeatMerge := fun x => by kernel_rfl

/-! ### impl.SeatGrant: function 107 -/
def F.impl_SeatGrant (a0 : DSeat) (a1 : Int) : Option DSeat :=
 (F.impl_copySeat a0).bind fun r1 =>
 (F.impl_SeatOk a0 a1).bind fun r2 =>
 bif r2 then
  some (r1.1, mnI 60 (w64 (a0.2.2.2.1 + a1)), r1.2.2)
 else
  some r1
def C.impl_SeatGrant : Con := ⟨[.r (.val y19), .r (.val (.int .i64))], .one y15, fun x => F.impl_SeatGrant x.1 x.2.1⟩
def K.impl_SeatGrant : Cons := lookK [(175, [], C.impl_copySeat), (205, [], C.impl_SeatOk)]
theorem run.impl_SeatGrant : Rn K.impl_SeatGrant L0 [] Tryz.f107 C.impl_SeatGrant := fun x => by kernel_rfl

/-! ### impl.MergeStep: function 29 -/
def F.impl_MergeStep (a0 : DHouse) : Option (DHouse × Bool) :=
 (F.impl_NextOf a0).bind fun r1 =>
 bif decide (r1.1 < 0) then
  some (r1.2.2, false)
 else
 chk (inb r1.1 r1.2.2.2.2.2.2.1.length) <|
 chk (inb r1.2.1 (List.length (r1.2.2.2.2.2.2.1.getD (Int.toNat r1.1) ([])))) <|
 (F.impl_RowPop (List.getD (r1.2.2.2.2.2.2.1.getD (Int.toNat r1.1) ([])) (Int.toNat r1.2.1) ([], ()))).bind fun r2 =>
 chk (inb r1.1 r1.2.2.2.2.2.2.1.length) <|
 chk (inb r1.2.1 (List.length (r1.2.2.2.2.2.2.1.getD (Int.toNat r1.1) ([])))) <|
 (some (List.set r1.2.2.2.2.2.2.1 (Int.toNat r1.1) (List.set (r1.2.2.2.2.2.2.1.getD (Int.toNat r1.1) ([])) (Int.toNat r1.2.1) r2.2.1))).bind fun r3 =>
 (F.impl_RootAdd r1.2.2.2.2.2.2.2.2.2.1 r2.1).bind fun r4 =>
 chk (inb r1.1 r1.2.2.2.2.2.1.length) <|
 (F.impl_SetSize r2.1.2.2.1).bind fun r5 =>
 (F.impl_SeatMerge (r1.2.2.2.2.2.1.getD (Int.toNat r1.1) (0, 0, [], 0, 0, ())) a0.1.1 r5).bind fun r6 =>
 bif !a0.2.2.1 then
  (F.impl_SeatGrant (List.getD (List.set r1.2.2.2.2.2.1 (Int.toNat r1.1) r6.1) (Int.toNat r1.1) (0, 0, [], 0, 0, ())) a0.1.1).bind fun r7 =>
  some ((r1.2.2.1, r1.2.2.2.1, r1.2.2.2.2.1, List.set (List.set r1.2.2.2.2.2.1 (Int.toNat r1.1) r6.1) (Int.toNat r1.1) r7, r3, r1.2.2.2.2.2.2.2.1, r1.2.2.2.2.2.2.2.2.1, r4.1, r1.2.2.2.2.2.2.2.2.2.2), true)
 else
  some ((r1.2.2.1, r1.2.2.2.1, r1.2.2.2.2.1, List.set r1.2.2.2.2.2.1 (Int.toNat r1.1) r6.1, r3, r1.2.2.2.2.2.2.2.1, r1.2.2.2.2.2.2.2.2.1, r4.1, r1.2.2.2.2.2.2.2.2.2.2), true)
def C.impl_MergeStep : Con := ⟨[.r (.val y21)], .many [y18, .bool], fun x => F.impl_MergeStep x.1⟩
def K.impl_MergeStep : Cons := lookK [(10, [], C.impl_RootAdd), (24, [], C.impl_NextOf), (104, [], C.impl_RowPop), (105, [], C.impl_SeatMerge), (106, [], C.impl_SetSize), (107, [], C.impl_SeatGrant)]
theorem run.impl_MergeStep : Rn K.impl_MergeStep L0 [] Tryz.f29 C.impl_MergeStep := fun x => by kernel_rfl

/-! ### laws.FnExactMergeStep: function 6 -/
def F.laws_FnExactMergeStep (a0 : DHouse) : Option Bool :=
 (F.laws_szHouse a0 1048576).bind fun r1 =>
 bif decide (r1 < 0) then
  some true
 else
 (F.laws_toHouse a0).bind fun r2 =>
 (F.spec_MergeStep r2).bind fun r3 =>
 (F.laws_toHouse a0).bind fun r4 =>
 (F.impl_MergeStep r4).bind fun r5 =>
 (F.laws_eqHouse r5.1 r3.1).bind fun r6 =>
 bif !r6 then
  some false
 else
 bif !(r5.2 == r3.2) then
  some false
 else
 (F.laws_toHouse a0).bind fun r7 =>
 (F.laws_eqHouse r4 r7).bind fun r8 =>
 bif !r8 then
  some false
 else
 (F.laws_markHouse r4 1).bind fun r9 =>
 bif decide (r9.1 < 0) then
  some false
 else
 (F.laws_eqHouse r5.1 r3.1).bind fun r10 =>
 bif !r10 then
  some false
 else
 bif !(r5.2 == r3.2) then
  some false
 else
 (F.laws_markHouse r5.1 1).bind fun r11 =>
 (F.laws_heldHouse r11.2 1).bind fun r12 =>
 bif decide (r12 < 0) then
  some false
 else
 bif r12 != r11.1 then
  some false
 else
 (F.laws_toHouse a0).bind fun r13 =>
 (F.impl_MergeStep r13).bind fun r14 =>
 (F.laws_eqHouse r14.1 r3.1).bind fun r15 =>
 bif !r15 then
  some false
 else
 bif !(r14.2 == r3.2) then
  some false
 else
 (F.laws_heldHouse r11.2 1).bind fun r16 =>
 bif decide (r16 < 0) then
  some false
 else
 bif r16 != r11.1 then
  some false
 else
  some true
def C.laws_FnExactMergeStep : Con := ⟨[.r (.val y13)], .one .bool, fun x => F.laws_FnExactMergeStep x.1⟩
def K.laws_FnExactMergeStep : Cons := lookK [(21, [], C.laws_szHouse), (23, [], C.laws_toHouse), (25, [], C.laws_eqHouse), (26, [], C.laws_markHouse), (27, [], C.laws_heldHouse), (28, [], C.spec_MergeStep), (29, [], C.impl_MergeStep)]
theorem run.laws_FnExactMergeStep : Rn K.laws_FnExactMergeStep L0 [] Tryz.f6 C.laws_FnExactMergeStep := fun x => by kernel_rfl
end
end Go.Proofs.YtipaepbmdooekaaGreat.Vm
