-- compact
import Derived.Test.YtipaepbmdooekaaGreatGfA
import Derived.KernelRfl
namespace Go.Proofs.YtipaepbmdooekaaGreat.Vm
noncomputable section
open Go Go.RowKit
set_option maxRecDepth 100000
set_option linter.unusedVariables false

/-! ### laws.eqTurnS: function 91 -/
def F.laws_eqTurnS.s4 : Stp ((List DTurn) × (List DTurn) × Int × Unit) Bool := fun (x1, x2, x3, _) =>
 bif decide (x3 < (len x1)) then
  chk (inb x3 x1.length) <|
  chk (inb x3 x2.length) <|
  (F.laws_eqTurn (x1.getD x3.toNat (0, false, [], ())) (x2.getD x3.toNat (0, false, [], ()))).bind fun r4 =>
  bif !r4 then
   some (.ret false)
  else
   some (.again (x1, x2, w64 (x3 + 1), ()))
 else
  some (.exit (x1, x2, x3, ()))
def F.laws_eqTurnS (a0 : List DTurn) (a1 : List DTurn) : Option Bool :=
 bif (len a0) != (len a1) then
  some false
 else
 afterO (loopO F.laws_eqTurnS.s4 (a0, a1, 0, ())) fun (x5, x6, x7, _) =>
 some true
def C.laws_eqTurnS : Con := ⟨[.r (.val (.sl false 125 y5)), .r (.val (.sl false 125 y5))], .one .bool, fun x => F.laws_eqTurnS x.1 x.2.1⟩
def L.laws_eqTurnS : Loops := lookL [(4, ⟨[.pat 0 (.val (.sl false 125 y5)), .pat 1 (.val (.sl false 125 y5)), .pat 5 (.val (.int .i64))], 0⟩)]
def K.laws_eqTurnS : Cons := lookK [(195, [], C.laws_eqTurn)]
theorem run.laws_eqTurnS : Rn K.laws_eqTurnS L.laws_eqTurnS [] Tryz.f91 C.laws_eqTurnS := fun x => by kernel_rfl

/-! ### laws.eqOut: function 196 -/
def F.laws_eqOut (a0 : DOut) (a1 : DOut) : Option Bool :=
 bif a0.1 != a1.1 then
  some false
 else
 (F.laws_eqEntry a0.2.1 a1.2.1).bind fun r1 =>
 bif !r1 then
  some false
 else
  some true
def C.laws_eqOut : Con := ⟨[.r (.val y21), .r (.val y21)], .one .bool, fun x => F.laws_eqOut x.1 x.2.1⟩
def K.laws_eqOut : Cons := lookK [(17, [], C.laws_eqEntry)]
theorem run.laws_eqOut : Rn K.laws_eqOut L0 [] Tryz.f196 C.laws_eqOut := fun x => by kernel_rfl

/-! ### laws.eqOutS: function 92 -/
def F.laws_eqOutS.s4 : Stp ((List DOut) × (List DOut) × Int × Unit) Bool := fun (x1, x2, x3, _) =>
 bif decide (x3 < (len x1)) then
  chk (inb x3 x1.length) <|
  chk (inb x3 x2.length) <|
  (F.laws_eqOut (x1.getD x3.toNat (0, (0, 0, [], (0, 0, 0, 0, [], [], [], ()), ()), ())) (x2.getD x3.toNat (0, (0, 0, [], (0, 0, 0, 0, [], [], [], ()), ()), ()))).bind fun r4 =>
  bif !r4 then
   some (.ret false)
  else
   some (.again (x1, x2, w64 (x3 + 1), ()))
 else
  some (.exit (x1, x2, x3, ()))
def F.laws_eqOutS (a0 : List DOut) (a1 : List DOut) : Option Bool :=
 bif (len a0) != (len a1) then
  some false
 else
 afterO (loopO F.laws_eqOutS.s4 (a0, a1, 0, ())) fun (x5, x6, x7, _) =>
 some true
def C.laws_eqOutS : Con := ⟨[.r (.val (.sl false 203 y21)), .r (.val (.sl false 203 y21))], .one .bool, fun x => F.laws_eqOutS x.1 x.2.1⟩
def L.laws_eqOutS : Loops := lookL [(4, ⟨[.pat 0 (.val (.sl false 203 y21)), .pat 1 (.val (.sl false 203 y21)), .pat 5 (.val (.int .i64))], 0⟩)]
def K.laws_eqOutS : Cons := lookK [(196, [], C.laws_eqOut)]
theorem run.laws_eqOutS : Rn K.laws_eqOutS L.laws_eqOutS [] Tryz.f92 C.laws_eqOutS := fun x => by kernel_rfl

/-! ### laws.eqHouse: function 25 -/
def F.laws_eqHouse (a0 : DHouse) (a1 : DHouse) : Option Bool :=
 (F.laws_eqConf a0.1 a1.1).bind fun r1 =>
 bif !r1 then
  some false
 else
 bif a0.2.1 != a1.2.1 then
  some false
 else
 bif !(a0.2.2.1 == a1.2.2.1) then
  some false
 else
 (F.laws_eqSeatS a0.2.2.2.1 a1.2.2.2.1).bind fun r2 =>
 bif !r2 then
  some false
 else
 (F.laws_eqRowSS a0.2.2.2.2.1 a1.2.2.2.2.1).bind fun r3 =>
 bif !r3 then
  some false
 else
 (F.laws_eqTurnS a0.2.2.2.2.2.1 a1.2.2.2.2.2.1).bind fun r4 =>
 bif !r4 then
  some false
 else
 bif a0.2.2.2.2.2.2.1 != a1.2.2.2.2.2.2.1 then
  some false
 else
 (F.laws_eqEntryS a0.2.2.2.2.2.2.2.1 a1.2.2.2.2.2.2.2.1).bind fun r5 =>
 bif !r5 then
  some false
 else
 (F.laws_eqOutS a0.2.2.2.2.2.2.2.2.1 a1.2.2.2.2.2.2.2.2.1).bind fun r6 =>
 bif !r6 then
  some false
 else
  some true
def C.laws_eqHouse : Con := ⟨[.r (.val y22), .r (.val y22)], .one .bool, fun x => F.laws_eqHouse x.1 x.2.1⟩
def K.laws_eqHouse : Cons := lookK [(16, [], C.laws_eqEntryS), (88, [], C.laws_eqConf), (89, [], C.laws_eqSeatS), (90, [], C.laws_eqRowSS), (91, [], C.laws_eqTurnS), (92, [], C.laws_eqOutS)]
theorem run.laws_eqHouse : Rn K.laws_eqHouse L0 [] Tryz.f25 C.laws_eqHouse := fun x => by kernel_rfl

/-! ### laws.eqByteS: function 33 -/
def F.laws_eqByteS.s4 : Stp ((List Int) × (List Int) × Int × Unit) Bool := fun (x1, x2, x3, _) =>
 bif decide (x3 < (len x1)) then
  chk (inb x3 x1.length) <|
  chk (inb x3 x2.length) <|
  bif (x1.getD x3.toNat 0) != (x2.getD x3.toNat 0) then
   some (.ret false)
  else
   some (.again (x1, x2, w64 (x3 + 1), ()))
 else
  some (.exit (x1, x2, x3, ()))
def F.laws_eqByteS (a0 : List Int) (a1 : List Int) : Option Bool :=
 bif (len a0) != (len a1) then
  some false
 else
 afterO (loopO F.laws_eqByteS.s4 (a0, a1, 0, ())) fun (x4, x5, x6, _) =>
 some true
def C.laws_eqByteS : Con := ⟨[.r (.val (.sl false 5 (.int .u8))), .r (.val (.sl false 5 (.int .u8)))], .one .bool, fun x => F.laws_eqByteS x.1 x.2.1⟩
def L.laws_eqByteS : Loops := lookL [(4, ⟨[.pat 0 (.val (.sl false 5 (.int .u8))), .pat 1 (.val (.sl false 5 (.int .u8))), .pat 5 (.val (.int .i64))], 0⟩)]
def K.laws_eqByteS : Cons := lookK []
theorem run.laws_eqByteS : Rn K.laws_eqByteS L.laws_eqByteS [] Tryz.f33 C.laws_eqByteS := fun x => by kernel_rfl

/-! ### laws.markIntS: function 63 -/
def F.laws_markIntS.s2 : Stp (Int × Int × (List Int) × Unit) (Int × (List Int)) := fun (x1, x2, x3, _) =>
 bif decide (x2 < (len x3)) then
  chk (inb x2 x3.length) <|
  some (.again (w64 (x1 + 1), w64 (x2 + 1), List.set x3 x2.toNat x1, ()))
 else
  some (.exit (x1, x2, x3, ()))
def F.laws_markIntS (a0 : List Int) (a1 : Int) : Option (Int × (List Int)) :=
 afterO (loopO F.laws_markIntS.s2 (a1, 0, a0, ())) fun (x4, x5, x6, _) =>
 some (x4, x6)
def C.laws_markIntS : Con := ⟨[.c (.sl true 3 (.int .i64)), .r (.val (.int .i64))], .one (.int .i64), fun x => F.laws_markIntS x.1 x.2.1⟩
def L.laws_markIntS : Loops := lookL [(2, ⟨[.pat 1 (.val (.int .i64)), .pat 5 (.val (.int .i64)), .root 0 false (.sl true 3 (.int .i64)) [0]], 0⟩)]
def K.laws_markIntS : Cons := lookK []
theorem run.laws_markIntS : Rn K.laws_markIntS L.laws_markIntS [0] Tryz.f63 C.laws_markIntS := fun x => by kernel_rfl

/-! ### laws.markConf: function 93 -/
def F.laws_markConf (a0 : DConf) (a1 : Int) : Option (Int × DConf) :=
 (F.laws_markIntS a0.2.2.2.1 a1).bind fun r1 =>
 some (r1.1, (a0.1, a0.2.1, a0.2.2.1, r1.2, a0.2.2.2.2))
def C.laws_markConf : Con := ⟨[.c y8, .r (.val (.int .i64))], .one (.int .i64), fun x => F.laws_markConf x.1 x.2.1⟩
def K.laws_markConf : Cons := lookK [(63, [], C.laws_markIntS)]
theorem run.laws_markConf : Rn K.laws_markConf L0 [2] Tryz.f93 C.laws_markConf := fun x => by kernel_rfl

/-! ### laws.markSpanS: function 62 -/
def F.laws_markSpanS.s2 : Stp (Int × Int × (List DSpan) × Unit) (Int × (List DSpan)) := fun (x1, x2, x3, _) =>
 bif decide (x2 < (len x3)) then
  chk (inb x2 x3.length) <|
  chk (inb x2 (List.length (List.set x3 x2.toNat (x1, (x3.getD x2.toNat (0, 0, ())).2)))) <|
  (some (List.set (List.set x3 x2.toNat (x1, (x3.getD x2.toNat (0, 0, ())).2)) x2.toNat ((List.getD (List.set x3 x2.toNat (x1, (x3.getD x2.toNat (0, 0, ())).2)) x2.toNat (0, 0, ())).1, w64 (x1 + 1), ((List.getD (List.set x3 x2.toNat (x1, (x3.getD x2.toNat (0, 0, ())).2)) x2.toNat (0, 0, ())).2).2))).bind fun r4 =>
  some (.again (w64 ((w64 (x1 + 1)) + 1), w64 (x2 + 1), r4, ()))
 else
  some (.exit (x1, x2, x3, ()))
def F.laws_markSpanS (a0 : List DSpan) (a1 : Int) : Option (Int × (List DSpan)) :=
 afterO (loopO F.laws_markSpanS.s2 (a1, 0, a0, ())) fun (x5, x6, x7, _) =>
 some (x5, x7)
def C.laws_markSpanS : Con := ⟨[.c (.sl true 180 y1), .r (.val (.int .i64))], .one (.int .i64), fun x => F.laws_markSpanS x.1 x.2.1⟩
def L.laws_markSpanS : Loops := lookL [(2, ⟨[.pat 1 (.val (.int .i64)), .pat 5 (.val (.int .i64)), .root 0 false (.sl true 180 y1) [0]], 0⟩)]
def K.laws_markSpanS : Cons := lookK []
theorem run.laws_markSpanS : Rn K.laws_markSpanS L.laws_markSpanS [0] Tryz.f62 C.laws_markSpanS := fun x => by kernel_rfl

/-! ### laws.markSeatS: function 94 -/
def F.laws_markSeatS.s2 : Stp (Int × Int × (List DSeat) × Unit) (Int × (List DSeat)) := fun (x1, x2, x3, _) =>
 bif decide (x2 < (len x3)) then
  chk (inb x2 x3.length) <|
  chk (inb x2 (List.length (List.set x3 x2.toNat (x1, (x3.getD x2.toNat (0, 0, [], 0, 0, ())).2)))) <|
  (some (List.set (List.set x3 x2.toNat (x1, (x3.getD x2.toNat (0, 0, [], 0, 0, ())).2)) x2.toNat ((List.getD (List.set x3 x2.toNat (x1, (x3.getD x2.toNat (0, 0, [], 0, 0, ())).2)) x2.toNat (0, 0, [], 0, 0, ())).1, w64 (x1 + 1), ((List.getD (List.set x3 x2.toNat (x1, (x3.getD x2.toNat (0, 0, [], 0, 0, ())).2)) x2.toNat (0, 0, [], 0, 0, ())).2).2))).bind fun r4 =>
  chk (inb x2 r4.length) <|
  (F.laws_markSpanS ((((r4.getD x2.toNat (0, 0, [], 0, 0, ())).2).2).1) (w64 ((w64 (x1 + 1)) + 1))).bind fun r5 =>
  (some (List.set r4 x2.toNat ((r4.getD x2.toNat (0, 0, [], 0, 0, ())).1, ((r4.getD x2.toNat (0, 0, [], 0, 0, ())).2).1, r5.2, (((r4.getD x2.toNat (0, 0, [], 0, 0, ())).2).2).2))).bind fun r6 =>
  chk (inb x2 r6.length) <|
  (some (List.set r6 x2.toNat ((r6.getD x2.toNat (0, 0, [], 0, 0, ())).1, ((r6.getD x2.toNat (0, 0, [], 0, 0, ())).2).1, (((r6.getD x2.toNat (0, 0, [], 0, 0, ())).2).2).1, r5.1, ((((r6.getD x2.toNat (0, 0, [], 0, 0, ())).2).2).2).2))).bind fun r7 =>
  chk (inb x2 r7.length) <|
  (some (List.set r7 x2.toNat ((r7.getD x2.toNat (0, 0, [], 0, 0, ())).1, ((r7.getD x2.toNat (0, 0, [], 0, 0, ())).2).1, (((r7.getD x2.toNat (0, 0, [], 0, 0, ())).2).2).1, ((((r7.getD x2.toNat (0, 0, [], 0, 0, ())).2).2).2).1, w64 (r5.1 + 1), (((((r7.getD x2.toNat (0, 0, [], 0, 0, ())).2).2).2).2).2))).bind fun r8 =>
  some (.again (w64 ((w64 (r5.1 + 1)) + 1), w64 (x2 + 1), r8, ()))
 else
  some (.exit (x1, x2, x3, ()))
def F.laws_markSeatS (a0 : List DSeat) (a1 : Int) : Option (Int × (List DSeat)) :=
 afterO (loopO F.laws_markSeatS.s2 (a1, 0, a0, ())) fun (x9, x10, x11, _) =>
 some (x9, x11)
def C.laws_markSeatS : Con := ⟨[.c (.sl true 143 y9), .r (.val (.int .i64))], .one (.int .i64), fun x => F.laws_markSeatS x.1 x.2.1⟩
def L.laws_markSeatS : Loops := lookL [(2, ⟨[.pat 1 (.val (.int .i64)), .pat 5 (.val (.int .i64)), .root 0 false (.sl true 143 y9) [0]], 0⟩)]
def K.laws_markSeatS : Cons := lookK [(62, [], C.laws_markSpanS)]
theorem run.laws_markSeatS : Rn K.laws_markSeatS L.laws_markSeatS [0] Tryz.f94 C.laws_markSeatS := fun x => by kernel_rfl

/-! ### laws.markIntSS: function 64 -/
def F.laws_markIntSS.s2 : Stp (Int × Int × (List (List Int)) × Unit) (Int × (List (List Int))) := fun (x1, x2, x3, _) =>
 bif decide (x2 < (len x3)) then
  chk (inb x2 x3.length) <|
  (F.laws_markIntS (x3.getD x2.toNat ([])) x1).bind fun r4 =>
  some (.again (r4.1, w64 (x2 + 1), List.set x3 x2.toNat r4.2, ()))
 else
  some (.exit (x1, x2, x3, ()))
def F.laws_markIntSS (a0 : List (List Int)) (a1 : Int) : Option (Int × (List (List Int))) :=
 afterO (loopO F.laws_markIntSS.s2 (a1, 0, a0, ())) fun (x5, x6, x7, _) =>
 some (x5, x7)
def C.laws_markIntSS : Con := ⟨[.c (.sl true 26 (.sl true 3 (.int .i64))), .r (.val (.int .i64))], .one (.int .i64), fun x => F.laws_markIntSS x.1 x.2.1⟩
def L.laws_markIntSS : Loops := lookL [(2, ⟨[.pat 1 (.val (.int .i64)), .pat 5 (.val (.int .i64)), .root 0 false (.sl true 26 (.sl true 3 (.int .i64))) [0]], 0⟩)]
def K.laws_markIntSS : Cons := lookK [(63, [], C.laws_markIntS)]
theorem run.laws_markIntSS : Rn K.laws_markIntSS L.laws_markIntSS [0] Tryz.f64 C.laws_markIntSS := fun x => by kernel_rfl

/-! ### laws.markEntryS: function 18 -/
def F.laws_markEntryS.s2 : Stp (Int × Int × (List DEntry) × Unit) (Int × (List DEntry)) := fun (x1, x2, x3, _) =>
 bif decide (x2 < (len x3)) then
  chk (inb x2 x3.length) <|
  (some (List.set x3 x2.toNat (x1, (x3.getD x2.toNat (0, 0, [], (0, 0, 0, 0, [], [], [], ()), ())).2))).bind fun r4 =>
  chk (inb x2 r4.length) <|
  (some (List.set r4 x2.toNat ((r4.getD x2.toNat (0, 0, [], (0, 0, 0, 0, [], [], [], ()), ())).1, w64 (x1 + 1), ((r4.getD x2.toNat (0, 0, [], (0, 0, 0, 0, [], [], [], ()), ())).2).2))).bind fun r5 =>
  chk (inb x2 r5.length) <|
  (F.laws_markSpanS ((((r5.getD x2.toNat (0, 0, [], (0, 0, 0, 0, [], [], [], ()), ())).2).2).1) (w64 ((w64 (x1 + 1)) + 1))).bind fun r6 =>
  (some (List.set r5 x2.toNat ((r5.getD x2.toNat (0, 0, [], (0, 0, 0, 0, [], [], [], ()), ())).1, ((r5.getD x2.toNat (0, 0, [], (0, 0, 0, 0, [], [], [], ()), ())).2).1, r6.2, (((r5.getD x2.toNat (0, 0, [], (0, 0, 0, 0, [], [], [], ()), ())).2).2).2))).bind fun r7 =>
  chk (inb x2 r7.length) <|
  (some (List.set r7 x2.toNat ((r7.getD x2.toNat (0, 0, [], (0, 0, 0, 0, [], [], [], ()), ())).1, ((r7.getD x2.toNat (0, 0, [], (0, 0, 0, 0, [], [], [], ()), ())).2).1, (((r7.getD x2.toNat (0, 0, [], (0, 0, 0, 0, [], [], [], ()), ())).2).2).1, (r6.1, (((((r7.getD x2.toNat (0, 0, [], (0, 0, 0, 0, [], [], [], ()), ())).2).2).2).1).2), ((((r7.getD x2.toNat (0, 0, [], (0, 0, 0, 0, [], [], [], ()), ())).2).2).2).2))).bind fun r8 =>
  chk (inb x2 r8.length) <|
  (some (List.set r8 x2.toNat ((r8.getD x2.toNat (0, 0, [], (0, 0, 0, 0, [], [], [], ()), ())).1, ((r8.getD x2.toNat (0, 0, [], (0, 0, 0, 0, [], [], [], ()), ())).2).1, (((r8.getD x2.toNat (0, 0, [], (0, 0, 0, 0, [], [], [], ()), ())).2).2).1, ((((((r8.getD x2.toNat (0, 0, [], (0, 0, 0, 0, [], [], [], ()), ())).2).2).2).1).1, w64 (r6.1 + 1), ((((((r8.getD x2.toNat (0, 0, [], (0, 0, 0, 0, [], [], [], ()), ())).2).2).2).1).2).2), ((((r8.getD x2.toNat (0, 0, [], (0, 0, 0, 0, [], [], [], ()), ())).2).2).2).2))).bind fun r9 =>
  chk (inb x2 r9.length) <|
  (some (List.set r9 x2.toNat ((r9.getD x2.toNat (0, 0, [], (0, 0, 0, 0, [], [], [], ()), ())).1, ((r9.getD x2.toNat (0, 0, [], (0, 0, 0, 0, [], [], [], ()), ())).2).1, (((r9.getD x2.toNat (0, 0, [], (0, 0, 0, 0, [], [], [], ()), ())).2).2).1, ((((((r9.getD x2.toNat (0, 0, [], (0, 0, 0, 0, [], [], [], ()), ())).2).2).2).1).1, ((((((r9.getD x2.toNat (0, 0, [], (0, 0, 0, 0, [], [], [], ()), ())).2).2).2).1).2).1, w64 ((w64 (r6.1 + 1)) + 1), (((((((r9.getD x2.toNat (0, 0, [], (0, 0, 0, 0, [], [], [], ()), ())).2).2).2).1).2).2).2), ((((r9.getD x2.toNat (0, 0, [], (0, 0, 0, 0, [], [], [], ()), ())).2).2).2).2))).bind fun r10 =>
  chk (inb x2 r10.length) <|
  (some (List.set r10 x2.toNat ((r10.getD x2.toNat (0, 0, [], (0, 0, 0, 0, [], [], [], ()), ())).1, ((r10.getD x2.toNat (0, 0, [], (0, 0, 0, 0, [], [], [], ()), ())).2).1, (((r10.getD x2.toNat (0, 0, [], (0, 0, 0, 0, [], [], [], ()), ())).2).2).1, ((((((r10.getD x2.toNat (0, 0, [], (0, 0, 0, 0, [], [], [], ()), ())).2).2).2).1).1, ((((((r10.getD x2.toNat (0, 0, [], (0, 0, 0, 0, [], [], [], ()), ())).2).2).2).1).2).1, (((((((r10.getD x2.toNat (0, 0, [], (0, 0, 0, 0, [], [], [], ()), ())).2).2).2).1).2).2).1, w64 ((w64 ((w64 (r6.1 + 1)) + 1)) + 1), ((((((((r10.getD x2.toNat (0, 0, [], (0, 0, 0, 0, [], [], [], ()), ())).2).2).2).1).2).2).2).2), ((((r10.getD x2.toNat (0, 0, [], (0, 0, 0, 0, [], [], [], ()), ())).2).2).2).2))).bind fun r11 =>
  chk (inb x2 r11.length) <|
  (F.laws_markIntS ((((((((((r11.getD x2.toNat (0, 0, [], (0, 0, 0, 0, [], [], [], ()), ())).2).2).2).1).2).2).2).2).1) (w64 ((w64 ((w64 ((w64 (r6.1 + 1)) + 1)) + 1)) + 1))).bind fun r12 =>
  (some (List.set r11 x2.toNat ((r11.getD x2.toNat (0, 0, [], (0, 0, 0, 0, [], [], [], ()), ())).1, ((r11.getD x2.toNat (0, 0, [], (0, 0, 0, 0, [], [], [], ()), ())).2).1, (((r11.getD x2.toNat (0, 0, [], (0, 0, 0, 0, [], [], [], ()), ())).2).2).1, ((((((r11.getD x2.toNat (0, 0, [], (0, 0, 0, 0, [], [], [], ()), ())).2).2).2).1).1, ((((((r11.getD x2.toNat (0, 0, [], (0, 0, 0, 0, [], [], [], ()), ())).2).2).2).1).2).1, (((((((r11.getD x2.toNat (0, 0, [], (0, 0, 0, 0, [], [], [], ()), ())).2).2).2).1).2).2).1, ((((((((r11.getD x2.toNat (0, 0, [], (0, 0, 0, 0, [], [], [], ()), ())).2).2).2).1).2).2).2).1, r12.2, (((((((((r11.getD x2.toNat (0, 0, [], (0, 0, 0, 0, [], [], [], ()), ())).2).2).2).1).2).2).2).2).2), ((((r11.getD x2.toNat (0, 0, [], (0, 0, 0, 0, [], [], [], ()), ())).2).2).2).2))).bind fun r13 =>
  chk (inb x2 r13.length) <|
  (F.laws_markIntS (((((((((((r13.getD x2.toNat (0, 0, [], (0, 0, 0, 0, [], [], [], ()), ())).2).2).2).1).2).2).2).2).2).1) r12.1).bind fun r14 =>
  (some (List.set r13 x2.toNat ((r13.getD x2.toNat (0, 0, [], (0, 0, 0, 0, [], [], [], ()), ())).1, ((r13.getD x2.toNat (0, 0, [], (0, 0, 0, 0, [], [], [], ()), ())).2).1, (((r13.getD x2.toNat (0, 0, [], (0, 0, 0, 0, [], [], [], ()), ())).2).2).1, ((((((r13.getD x2.toNat (0, 0, [], (0, 0, 0, 0, [], [], [], ()), ())).2).2).2).1).1, ((((((r13.getD x2.toNat (0, 0, [], (0, 0, 0, 0, [], [], [], ()), ())).2).2).2).1).2).1, (((((((r13.getD x2.toNat (0, 0, [], (0, 0, 0, 0, [], [], [], ()), ())).2).2).2).1).2).2).1, ((((((((r13.getD x2.toNat (0, 0, [], (0, 0, 0, 0, [], [], [], ()), ())).2).2).2).1).2).2).2).1, (((((((((r13.getD x2.toNat (0, 0, [], (0, 0, 0, 0, [], [], [], ()), ())).2).2).2).1).2).2).2).2).1, r14.2, ((((((((((r13.getD x2.toNat (0, 0, [], (0, 0, 0, 0, [], [], [], ()), ())).2).2).2).1).2).2).2).2).2).2), ((((r13.getD x2.toNat (0, 0, [], (0, 0, 0, 0, [], [], [], ()), ())).2).2).2).2))).bind fun r15 =>
  chk (inb x2 r15.length) <|
  (F.laws_markIntSS ((((((((((((r15.getD x2.toNat (0, 0, [], (0, 0, 0, 0, [], [], [], ()), ())).2).2).2).1).2).2).2).2).2).2).1) r14.1).bind fun r16 =>
  (some (List.set r15 x2.toNat ((r15.getD x2.toNat (0, 0, [], (0, 0, 0, 0, [], [], [], ()), ())).1, ((r15.getD x2.toNat (0, 0, [], (0, 0, 0, 0, [], [], [], ()), ())).2).1, (((r15.getD x2.toNat (0, 0, [], (0, 0, 0, 0, [], [], [], ()), ())).2).2).1, ((((((r15.getD x2.toNat (0, 0, [], (0, 0, 0, 0, [], [], [], ()), ())).2).2).2).1).1, ((((((r15.getD x2.toNat (0, 0, [], (0, 0, 0, 0, [], [], [], ()), ())).2).2).2).1).2).1, (((((((r15.getD x2.toNat (0, 0, [], (0, 0, 0, 0, [], [], [], ()), ())).2).2).2).1).2).2).1, ((((((((r15.getD x2.toNat (0, 0, [], (0, 0, 0, 0, [], [], [], ()), ())).2).2).2).1).2).2).2).1, (((((((((r15.getD x2.toNat (0, 0, [], (0, 0, 0, 0, [], [], [], ()), ())).2).2).2).1).2).2).2).2).1, ((((((((((r15.getD x2.toNat (0, 0, [], (0, 0, 0, 0, [], [], [], ()), ())).2).2).2).1).2).2).2).2).2).1, r16.2, (((((((((((r15.getD x2.toNat (0, 0, [], (0, 0, 0, 0, [], [], [], ()), ())).2).2).2).1).2).2).2).2).2).2).2), ((((r15.getD x2.toNat (0, 0, [], (0, 0, 0, 0, [], [], [], ()), ())).2).2).2).2))).bind fun r17 =>
  some (.again (r16.1, w64 (x2 + 1), r17, ()))
 else
  some (.exit (x1, x2, x3, ()))
def F.laws_markEntryS (a0 : List DEntry) (a1 : Int) : Option (Int × (List DEntry)) :=
 afterO (loopO F.laws_markEntryS.s2 (a1, 0, a0, ())) fun (x18, x19, x20, _) =>
 some (x18, x20)
def C.laws_markEntryS : Con := ⟨[.c (.sl true 31 y11), .r (.val (.int .i64))], .one (.int .i64), fun x => F.laws_markEntryS x.1 x.2.1⟩
def L.laws_markEntryS : Loops := lookL [(2, ⟨[.pat 1 (.val (.int .i64)), .pat 5 (.val (.int .i64)), .root 0 false (.sl true 31 y11) [0]], 0⟩)]
def K.laws_markEntryS : Cons := lookK [(62, [], C.laws_markSpanS), (63, [], C.laws_markIntS), (64, [], C.laws_markIntSS)]
theorem run.laws_markEntryS : Rn K.laws_markEntryS L.laws_markEntryS [0] Tryz.f18 C.laws_markEntryS := fun x => by kernel_rfl

/-! ### laws.markRowS: function 197 -/
def F.laws_markRowS.s2 : Stp (Int × Int × (List DRow) × Unit) (Int × (List DRow)) := fun (x1, x2, x3, _) =>
 bif decide (x2 < (len x3)) then
  chk (inb x2 x3.length) <|
  (F.laws_markEntryS ((x3.getD x2.toNat ([], ())).1) x1).bind fun r4 =>
  some (.again (r4.1, w64 (x2 + 1), List.set x3 x2.toNat (r4.2, (x3.getD x2.toNat ([], ())).2), ()))
 else
  some (.exit (x1, x2, x3, ()))
def F.laws_markRowS (a0 : List DRow) (a1 : Int) : Option (Int × (List DRow)) :=
 afterO (loopO F.laws_markRowS.s2 (a1, 0, a0, ())) fun (x5, x6, x7, _) =>
 some (x5, x7)
def C.laws_markRowS : Con := ⟨[.c (.sl true 84 (.cons (.sl true 31 y11) .nil)), .r (.val (.int .i64))], .one (.int .i64), fun x => F.laws_markRowS x.1 x.2.1⟩
def L.laws_markRowS : Loops := lookL [(2, ⟨[.pat 1 (.val (.int .i64)), .pat 5 (.val (.int .i64)), .root 0 false (.sl true 84 (.cons (.sl true 31 y11) .nil)) [0]], 0⟩)]
def K.laws_markRowS : Cons := lookK [(18, [], C.laws_markEntryS)]
theorem run.laws_markRowS : Rn K.laws_markRowS L.laws_markRowS [0] Tryz.f197 C.laws_markRowS := fun x => by kernel_rfl

/-! ### laws.markRowSS: function 95 -/
def F.laws_markRowSS.s2 : Stp (Int × Int × (List (List DRow)) × Unit) (Int × (List (List DRow))) := fun (x1, x2, x3, _) =>
 bif decide (x2 < (len x3)) then
  chk (inb x2 x3.length) <|
  (F.laws_markRowS (x3.getD x2.toNat ([])) x1).bind fun r4 =>
  some (.again (r4.1, w64 (x2 + 1), List.set x3 x2.toNat r4.2, ()))
 else
  some (.exit (x1, x2, x3, ()))
def F.laws_markRowSS (a0 : List (List DRow)) (a1 : Int) : Option (Int × (List (List DRow))) :=
 afterO (loopO F.laws_markRowSS.s2 (a1, 0, a0, ())) fun (x5, x6, x7, _) =>
 some (x5, x7)
def C.laws_markRowSS : Con := ⟨[.c (.sl true 121 (.sl true 84 (.cons (.sl true 31 y11) .nil))), .r (.val (.int .i64))], .one (.int .i64), fun x => F.laws_markRowSS x.1 x.2.1⟩
def L.laws_markRowSS : Loops := lookL [(2, ⟨[.pat 1 (.val (.int .i64)), .pat 5 (.val (.int .i64)), .root 0 false (.sl true 121 (.sl true 84 (.cons (.sl true 31 y11) .nil))) [0]], 0⟩)]
def K.laws_markRowSS : Cons := lookK [(197, [], C.laws_markRowS)]
theorem run.laws_markRowSS : Rn K.laws_markRowSS L.laws_markRowSS [0] Tryz.f95 C.laws_markRowSS := fun x => by kernel_rfl

/-! ### laws.markTurnS: function 96 -/
def F.laws_markTurnS.s2 : Stp (Int × Int × (List DTurn) × Unit) (Int × (List DTurn)) := fun (x1, x2, x3, _) =>
 bif decide (x2 < (len x3)) then
  chk (inb x2 x3.length) <|
  chk (inb x2 (List.length (List.set x3 x2.toNat (x1, (x3.getD x2.toNat (0, false, [], ())).2)))) <|
  (some (List.set (List.set x3 x2.toNat (x1, (x3.getD x2.toNat (0, false, [], ())).2)) x2.toNat ((List.getD (List.set x3 x2.toNat (x1, (x3.getD x2.toNat (0, false, [], ())).2)) x2.toNat (0, false, [], ())).1, (Int.tmod (w64 (x1 + 1)) 3) == 0, ((List.getD (List.set x3 x2.toNat (x1, (x3.getD x2.toNat (0, false, [], ())).2)) x2.toNat (0, false, [], ())).2).2))).bind fun r4 =>
  chk (inb x2 r4.length) <|
  (F.laws_markIntS ((((r4.getD x2.toNat (0, false, [], ())).2).2).1) (w64 ((w64 (x1 + 1)) + 1))).bind fun r5 =>
  (some (List.set r4 x2.toNat ((r4.getD x2.toNat (0, false, [], ())).1, ((r4.getD x2.toNat (0, false, [], ())).2).1, r5.2, (((r4.getD x2.toNat (0, false, [], ())).2).2).2))).bind fun r6 =>
  some (.again (r5.1, w64 (x2 + 1), r6, ()))
 else
  some (.exit (x1, x2, x3, ()))
def F.laws_markTurnS (a0 : List DTurn) (a1 : Int) : Option (Int × (List DTurn)) :=
 afterO (loopO F.laws_markTurnS.s2 (a1, 0, a0, ())) fun (x7, x8, x9, _) =>
 some (x7, x9)
def C.laws_markTurnS : Con := ⟨[.c (.sl true 125 y12), .r (.val (.int .i64))], .one (.int .i64), fun x => F.laws_markTurnS x.1 x.2.1⟩
def L.laws_markTurnS : Loops := lookL [(2, ⟨[.pat 1 (.val (.int .i64)), .pat 5 (.val (.int .i64)), .root 0 false (.sl true 125 y12) [0]], 0⟩)]
def K.laws_markTurnS : Cons := lookK [(63, [], C.laws_markIntS)]
theorem run.laws_markTurnS : Rn K.laws_markTurnS L.laws_markTurnS [0] Tryz.f96 C.laws_markTurnS := fun x => by kernel_rfl

/-! ### laws.markOutS: function 97 -/
def F.laws_markOutS.s2 : Stp (Int × Int × (List DOut) × Unit) (Int × (List DOut)) := fun (x1, x2, x3, _) =>
 bif decide (x2 < (len x3)) then
  chk (inb x2 x3.length) <|
  (some (List.set x3 x2.toNat (x1, (x3.getD x2.toNat (0, (0, 0, [], (0, 0, 0, 0, [], [], [], ()), ()), ())).2))).bind fun r4 =>
  chk (inb x2 r4.length) <|
  (some (List.set r4 x2.toNat ((r4.getD x2.toNat (0, (0, 0, [], (0, 0, 0, 0, [], [], [], ()), ()), ())).1, (w64 (x1 + 1), (((r4.getD x2.toNat (0, (0, 0, [], (0, 0, 0, 0, [], [], [], ()), ()), ())).2).1).2), ((r4.getD x2.toNat (0, (0, 0, [], (0, 0, 0, 0, [], [], [], ()), ()), ())).2).2))).bind fun r5 =>
  chk (inb x2 r5.length) <|
  (some (List.set r5 x2.toNat ((r5.getD x2.toNat (0, (0, 0, [], (0, 0, 0, 0, [], [], [], ()), ()), ())).1, ((((r5.getD x2.toNat (0, (0, 0, [], (0, 0, 0, 0, [], [], [], ()), ()), ())).2).1).1, w64 ((w64 (x1 + 1)) + 1), ((((r5.getD x2.toNat (0, (0, 0, [], (0, 0, 0, 0, [], [], [], ()), ()), ())).2).1).2).2), ((r5.getD x2.toNat (0, (0, 0, [], (0, 0, 0, 0, [], [], [], ()), ()), ())).2).2))).bind fun r6 =>
  chk (inb x2 r6.length) <|
  (F.laws_markSpanS ((((((r6.getD x2.toNat (0, (0, 0, [], (0, 0, 0, 0, [], [], [], ()), ()), ())).2).1).2).2).1) (w64 ((w64 ((w64 (x1 + 1)) + 1)) + 1))).bind fun r7 =>
  (some (List.set r6 x2.toNat ((r6.getD x2.toNat (0, (0, 0, [], (0, 0, 0, 0, [], [], [], ()), ()), ())).1, ((((r6.getD x2.toNat (0, (0, 0, [], (0, 0, 0, 0, [], [], [], ()), ()), ())).2).1).1, ((((r6.getD x2.toNat (0, (0, 0, [], (0, 0, 0, 0, [], [], [], ()), ()), ())).2).1).2).1, r7.2, (((((r6.getD x2.toNat (0, (0, 0, [], (0, 0, 0, 0, [], [], [], ()), ()), ())).2).1).2).2).2), ((r6.getD x2.toNat (0, (0, 0, [], (0, 0, 0, 0, [], [], [], ()), ()), ())).2).2))).bind fun r8 =>
  chk (inb x2 r8.length) <|
  (some (List.set r8 x2.toNat ((r8.getD x2.toNat (0, (0, 0, [], (0, 0, 0, 0, [], [], [], ()), ()), ())).1, ((((r8.getD x2.toNat (0, (0, 0, [], (0, 0, 0, 0, [], [], [], ()), ()), ())).2).1).1, ((((r8.getD x2.toNat (0, (0, 0, [], (0, 0, 0, 0, [], [], [], ()), ()), ())).2).1).2).1, (((((r8.getD x2.toNat (0, (0, 0, [], (0, 0, 0, 0, [], [], [], ()), ()), ())).2).1).2).2).1, (r7.1, (((((((r8.getD x2.toNat (0, (0, 0, [], (0, 0, 0, 0, [], [], [], ()), ()), ())).2).1).2).2).2).1).2), ((((((r8.getD x2.toNat (0, (0, 0, [], (0, 0, 0, 0, [], [], [], ()), ()), ())).2).1).2).2).2).2), ((r8.getD x2.toNat (0, (0, 0, [], (0, 0, 0, 0, [], [], [], ()), ()), ())).2).2))).bind fun r9 =>
  chk (inb x2 r9.length) <|
  (some (List.set r9 x2.toNat ((r9.getD x2.toNat (0, (0, 0, [], (0, 0, 0, 0, [], [], [], ()), ()), ())).1, ((((r9.getD x2.toNat (0, (0, 0, [], (0, 0, 0, 0, [], [], [], ()), ()), ())).2).1).1, ((((r9.getD x2.toNat (0, (0, 0, [], (0, 0, 0, 0, [], [], [], ()), ()), ())).2).1).2).1, (((((r9.getD x2.toNat (0, (0, 0, [], (0, 0, 0, 0, [], [], [], ()), ()), ())).2).1).2).2).1, ((((((((r9.getD x2.toNat (0, (0, 0, [], (0, 0, 0, 0, [], [], [], ()), ()), ())).2).1).2).2).2).1).1, w64 (r7.1 + 1), ((((((((r9.getD x2.toNat (0, (0, 0, [], (0, 0, 0, 0, [], [], [], ()), ()), ())).2).1).2).2).2).1).2).2), ((((((r9.getD x2.toNat (0, (0, 0, [], (0, 0, 0, 0, [], [], [], ()), ()), ())).2).1).2).2).2).2), ((r9.getD x2.toNat (0, (0, 0, [], (0, 0, 0, 0, [], [], [], ()), ()), ())).2).2))).bind fun r10 =>
  chk (inb x2 r10.length) <|
  (some (List.set r10 x2.toNat ((r10.getD x2.toNat (0, (0, 0, [], (0, 0, 0, 0, [], [], [], ()), ()), ())).1, ((((r10.getD x2.toNat (0, (0, 0, [], (0, 0, 0, 0, [], [], [], ()), ()), ())).2).1).1, ((((r10.getD x2.toNat (0, (0, 0, [], (0, 0, 0, 0, [], [], [], ()), ()), ())).2).1).2).1, (((((r10.getD x2.toNat (0, (0, 0, [], (0, 0, 0, 0, [], [], [], ()), ()), ())).2).1).2).2).1, ((((((((r10.getD x2.toNat (0, (0, 0, [], (0, 0, 0, 0, [], [], [], ()), ()), ())).2).1).2).2).2).1).1, ((((((((r10.getD x2.toNat (0, (0, 0, [], (0, 0, 0, 0, [], [], [], ()), ()), ())).2).1).2).2).2).1).2).1, w64 ((w64 (r7.1 + 1)) + 1), (((((((((r10.getD x2.toNat (0, (0, 0, [], (0, 0, 0, 0, [], [], [], ()), ()), ())).2).1).2).2).2).1).2).2).2), ((((((r10.getD x2.toNat (0, (0, 0, [], (0, 0, 0, 0, [], [], [], ()), ()), ())).2).1).2).2).2).2), ((r10.getD x2.toNat (0, (0, 0, [], (0, 0, 0, 0, [], [], [], ()), ()), ())).2).2))).bind fun r11 =>
  chk (inb x2 r11.length) <|
  (some (List.set r11 x2.toNat ((r11.getD x2.toNat (0, (0, 0, [], (0, 0, 0, 0, [], [], [], ()), ()), ())).1, ((((r11.getD x2.toNat (0, (0, 0, [], (0, 0, 0, 0, [], [], [], ()), ()), ())).2).1).1, ((((r11.getD x2.toNat (0, (0, 0, [], (0, 0, 0, 0, [], [], [], ()), ()), ())).2).1).2).1, (((((r11.getD x2.toNat (0, (0, 0, [], (0, 0, 0, 0, [], [], [], ()), ()), ())).2).1).2).2).1, ((((((((r11.getD x2.toNat (0, (0, 0, [], (0, 0, 0, 0, [], [], [], ()), ()), ())).2).1).2).2).2).1).1, ((((((((r11.getD x2.toNat (0, (0, 0, [], (0, 0, 0, 0, [], [], [], ()), ()), ())).2).1).2).2).2).1).2).1, (((((((((r11.getD x2.toNat (0, (0, 0, [], (0, 0, 0, 0, [], [], [], ()), ()), ())).2).1).2).2).2).1).2).2).1, w64 ((w64 ((w64 (r7.1 + 1)) + 1)) + 1), ((((((((((r11.getD x2.toNat (0, (0, 0, [], (0, 0, 0, 0, [], [], [], ()), ()), ())).2).1).2).2).2).1).2).2).2).2), ((((((r11.getD x2.toNat (0, (0, 0, [], (0, 0, 0, 0, [], [], [], ()), ()), ())).2).1).2).2).2).2), ((r11.getD x2.toNat (0, (0, 0, [], (0, 0, 0, 0, [], [], [], ()), ()), ())).2).2))).bind fun r12 =>
  chk (inb x2 r12.length) <|
  (F.laws_markIntS ((((((((((((r12.getD x2.toNat (0, (0, 0, [], (0, 0, 0, 0, [], [], [], ()), ()), ())).2).1).2).2).2).1).2).2).2).2).1) (w64 ((w64 ((w64 ((w64 (r7.1 + 1)) + 1)) + 1)) + 1))).bind fun r13 =>
  (some (List.set r12 x2.toNat ((r12.getD x2.toNat (0, (0, 0, [], (0, 0, 0, 0, [], [], [], ()), ()), ())).1, ((((r12.getD x2.toNat (0, (0, 0, [], (0, 0, 0, 0, [], [], [], ()), ()), ())).2).1).1, ((((r12.getD x2.toNat (0, (0, 0, [], (0, 0, 0, 0, [], [], [], ()), ()), ())).2).1).2).1, (((((r12.getD x2.toNat (0, (0, 0, [], (0, 0, 0, 0, [], [], [], ()), ()), ())).2).1).2).2).1, ((((((((r12.getD x2.toNat (0, (0, 0, [], (0, 0, 0, 0, [], [], [], ()), ()), ())).2).1).2).2).2).1).1, ((((((((r12.getD x2.toNat (0, (0, 0, [], (0, 0, 0, 0, [], [], [], ()), ()), ())).2).1).2).2).2).1).2).1, (((((((((r12.getD x2.toNat (0, (0, 0, [], (0, 0, 0, 0, [], [], [], ()), ()), ())).2).1).2).2).2).1).2).2).1, ((((((((((r12.getD x2.toNat (0, (0, 0, [], (0, 0, 0, 0, [], [], [], ()), ()), ())).2).1).2).2).2).1).2).2).2).1, r13.2, (((((((((((r12.getD x2.toNat (0, (0, 0, [], (0, 0, 0, 0, [], [], [], ()), ()), ())).2).1).2).2).2).1).2).2).2).2).2), ((((((r12.getD x2.toNat (0, (0, 0, [], (0, 0, 0, 0, [], [], [], ()), ()), ())).2).1).2).2).2).2), ((r12.getD x2.toNat (0, (0, 0, [], (0, 0, 0, 0, [], [], [], ()), ()), ())).2).2))).bind fun r14 =>
  chk (inb x2 r14.length) <|
  (F.laws_markIntS (((((((((((((r14.getD x2.toNat (0, (0, 0, [], (0, 0, 0, 0, [], [], [], ()), ()), ())).2).1).2).2).2).1).2).2).2).2).2).1) r13.1).bind fun r15 =>
  (some (List.set r14 x2.toNat ((r14.getD x2.toNat (0, (0, 0, [], (0, 0, 0, 0, [], [], [], ()), ()), ())).1, ((((r14.getD x2.toNat (0, (0, 0, [], (0, 0, 0, 0, [], [], [], ()), ()), ())).2).1).1, ((((r14.getD x2.toNat (0, (0, 0, [], (0, 0, 0, 0, [], [], [], ()), ()), ())).2).1).2).1, (((((r14.getD x2.toNat (0, (0, 0, [], (0, 0, 0, 0, [], [], [], ()), ()), ())).2).1).2).2).1, ((((((((r14.getD x2.toNat (0, (0, 0, [], (0, 0, 0, 0, [], [], [], ()), ()), ())).2).1).2).2).2).1).1, ((((((((r14.getD x2.toNat (0, (0, 0, [], (0, 0, 0, 0, [], [], [], ()), ()), ())).2).1).2).2).2).1).2).1, (((((((((r14.getD x2.toNat (0, (0, 0, [], (0, 0, 0, 0, [], [], [], ()), ()), ())).2).1).2).2).2).1).2).2).1, ((((((((((r14.getD x2.toNat (0, (0, 0, [], (0, 0, 0, 0, [], [], [], ()), ()), ())).2).1).2).2).2).1).2).2).2).1, (((((((((((r14.getD x2.toNat (0, (0, 0, [], (0, 0, 0, 0, [], [], [], ()), ()), ())).2).1).2).2).2).1).2).2).2).2).1, r15.2, ((((((((((((r14.getD x2.toNat (0, (0, 0, [], (0, 0, 0, 0, [], [], [], ()), ()), ())).2).1).2).2).2).1).2).2).2).2).2).2), ((((((r14.getD x2.toNat (0, (0, 0, [], (0, 0, 0, 0, [], [], [], ()), ()), ())).2).1).2).2).2).2), ((r14.getD x2.toNat (0, (0, 0, [], (0, 0, 0, 0, [], [], [], ()), ()), ())).2).2))).bind fun r16 =>
  chk (inb x2 r16.length) <|
  (F.laws_markIntSS ((((((((((((((r16.getD x2.toNat (0, (0, 0, [], (0, 0, 0, 0, [], [], [], ()), ()), ())).2).1).2).2).2).1).2).2).2).2).2).2).1) r15.1).bind fun r17 =>
  (some (List.set r16 x2.toNat ((r16.getD x2.toNat (0, (0, 0, [], (0, 0, 0, 0, [], [], [], ()), ()), ())).1, ((((r16.getD x2.toNat (0, (0, 0, [], (0, 0, 0, 0, [], [], [], ()), ()), ())).2).1).1, ((((r16.getD x2.toNat (0, (0, 0, [], (0, 0, 0, 0, [], [], [], ()), ()), ())).2).1).2).1, (((((r16.getD x2.toNat (0, (0, 0, [], (0, 0, 0, 0, [], [], [], ()), ()), ())).2).1).2).2).1, ((((((((r16.getD x2.toNat (0, (0, 0, [], (0, 0, 0, 0, [], [], [], ()), ()), ())).2).1).2).2).2).1).1, ((((((((r16.getD x2.toNat (0, (0, 0, [], (0, 0, 0, 0, [], [], [], ()), ()), ())).2).1).2).2).2).1).2).1, (((((((((r16.getD x2.toNat (0, (0, 0, [], (0, 0, 0, 0, [], [], [], ()), ()), ())).2).1).2).2).2).1).2).2).1, ((((((((((r16.getD x2.toNat (0, (0, 0, [], (0, 0, 0, 0, [], [], [], ()), ()), ())).2).1).2).2).2).1).2).2).2).1, (((((((((((r16.getD x2.toNat (0, (0, 0, [], (0, 0, 0, 0, [], [], [], ()), ()), ())).2).1).2).2).2).1).2).2).2).2).1, ((((((((((((r16.getD x2.toNat (0, (0, 0, [], (0, 0, 0, 0, [], [], [], ()), ()), ())).2).1).2).2).2).1).2).2).2).2).2).1, r17.2, (((((((((((((r16.getD x2.toNat (0, (0, 0, [], (0, 0, 0, 0, [], [], [], ()), ()), ())).2).1).2).2).2).1).2).2).2).2).2).2).2), ((((((r16.getD x2.toNat (0, (0, 0, [], (0, 0, 0, 0, [], [], [], ()), ()), ())).2).1).2).2).2).2), ((r16.getD x2.toNat (0, (0, 0, [], (0, 0, 0, 0, [], [], [], ()), ()), ())).2).2))).bind fun r18 =>
  some (.again (r17.1, w64 (x2 + 1), r18, ()))
 else
  some (.exit (x1, x2, x3, ()))
def F.laws_markOutS (a0 : List DOut) (a1 : Int) : Option (Int × (List DOut)) :=
 afterO (loopO F.laws_markOutS.s2 (a1, 0, a0, ())) fun (x19, x20, x21, _) =>
 some (x19, x21)
def C.laws_markOutS : Con := ⟨[.c (.sl true 203 y13), .r (.val (.int .i64))], .one (.int .i64), fun x => F.laws_markOutS x.1 x.2.1⟩
def L.laws_markOutS : Loops := lookL [(2, ⟨[.pat 1 (.val (.int .i64)), .pat 5 (.val (.int .i64)), .root 0 false (.sl true 203 y13) [0]], 0⟩)]
def K.laws_markOutS : Cons := lookK [(62, [], C.laws_markSpanS), (63, [], C.laws_markIntS), (64, [], C.laws_markIntSS)]
theorem run.laws_markOutS : Rn K.laws_markOutS L.laws_markOutS [0] Tryz.f97 C.laws_markOutS := fun x => by kernel_rfl

/-! ### laws.markHouse: function 26 -/
def F.laws_markHouse (a0 : DHouse) (a1 : Int) : Option (Int × DHouse) :=
 (F.laws_markConf a0.1 a1).bind fun r1 =>
 (F.laws_markSeatS a0.2.2.2.1 r1.1).bind fun r2 =>
 (F.laws_markRowSS a0.2.2.2.2.1 r2.1).bind fun r3 =>
 (F.laws_markTurnS a0.2.2.2.2.2.1 r3.1).bind fun r4 =>
 (F.laws_markEntryS a0.2.2.2.2.2.2.2.1 r4.1).bind fun r5 =>
 (F.laws_markOutS a0.2.2.2.2.2.2.2.2.1 r5.1).bind fun r6 =>
 some (r6.1, (r1.2, a0.2.1, a0.2.2.1, r2.2, r3.2, r4.2, a0.2.2.2.2.2.2.1, r5.2, r6.2, a0.2.2.2.2.2.2.2.2.2))
def C.laws_markHouse : Con := ⟨[.c y14, .r (.val (.int .i64))], .one (.int .i64), fun x => F.laws_markHouse x.1 x.2.1⟩
def K.laws_markHouse : Cons := lookK [(18, [], C.laws_markEntryS), (93, [], C.laws_markConf), (94, [], C.laws_markSeatS), (95, [], C.laws_markRowSS), (96, [], C.laws_markTurnS), (97, [], C.laws_markOutS)]
theorem run.laws_markHouse : Rn K.laws_markHouse L0 [2] Tryz.f26 C.laws_markHouse := fun x => by kernel_rfl

/-! ### laws.markByteS: function 34 -/
def F.laws_markByteS.s2 : Stp (Int × Int × (List Int) × Unit) (Int × (List Int)) := fun (x1, x2, x3, _) =>
 bif decide (x2 < (len x3)) then
  chk (inb x2 x3.length) <|
  some (.again (w64 (x1 + 1), w64 (x2 + 1), List.set x3 x2.toNat (IntKind.wrap .u8 x1), ()))
 else
  some (.exit (x1, x2, x3, ()))
def F.laws_markByteS (a0 : List Int) (a1 : Int) : Option (Int × (List Int)) :=
 afterO (loopO F.laws_markByteS.s2 (a1, 0, a0, ())) fun (x4, x5, x6, _) =>
 some (x4, x6)
def C.laws_markByteS : Con := ⟨[.c (.sl true 5 (.int .u8)), .r (.val (.int .i64))], .one (.int .i64), fun x => F.laws_markByteS x.1 x.2.1⟩
def L.laws_markByteS : Loops := lookL [(2, ⟨[.pat 1 (.val (.int .i64)), .pat 5 (.val (.int .i64)), .root 0 false (.sl true 5 (.int .u8)) [0]], 0⟩)]
def K.laws_markByteS : Cons := lookK []
theorem run.laws_markByteS : Rn K.laws_markByteS L.laws_markByteS [0] Tryz.f34 C.laws_markByteS := fun x => by kernel_rfl

/-! ### laws.heldIntS: function 67 -/
def F.laws_heldIntS.s2 : Stp ((List Int) × Int × Int × Unit) Int := fun (x1, x2, x3, _) =>
 bif decide (x3 < (len x1)) then
  chk (inb x3 x1.length) <|
  bif (x1.getD x3.toNat 0) != x2 then
   some (.ret (-1))
  else
   some (.again (x1, w64 (x2 + 1), w64 (x3 + 1), ()))
 else
  some (.exit (x1, x2, x3, ()))
def F.laws_heldIntS (a0 : List Int) (a1 : Int) : Option Int :=
 afterO (loopO F.laws_heldIntS.s2 (a0, a1, 0, ())) fun (x4, x5, x6, _) =>
 some x5
def C.laws_heldIntS : Con := ⟨[.r (.val (.sl false 3 (.int .i64))), .r (.val (.int .i64))], .one (.int .i64), fun x => F.laws_heldIntS x.1 x.2.1⟩
def L.laws_heldIntS : Loops := lookL [(2, ⟨[.pat 0 (.val (.sl false 3 (.int .i64))), .pat 1 (.val (.int .i64)), .pat 5 (.val (.int .i64))], 0⟩)]
def K.laws_heldIntS : Cons := lookK []
theorem run.laws_heldIntS : Rn K.laws_heldIntS L.laws_heldIntS [] Tryz.f67 C.laws_heldIntS := fun x => by kernel_rfl

/-! ### laws.heldConf: function 98 -/
def F.laws_heldConf (a0 : DConf) (a1 : Int) : Option Int :=
 (F.laws_heldIntS a0.2.2.2.1 a1).bind fun r1 =>
 bif decide (r1 < 0) then
  some (-1)
 else
  some r1
def C.laws_heldConf : Con := ⟨[.r (.val y0), .r (.val (.int .i64))], .one (.int .i64), fun x => F.laws_heldConf x.1 x.2.1⟩
def K.laws_heldConf : Cons := lookK [(67, [], C.laws_heldIntS)]
theorem run.laws_heldConf : Rn K.laws_heldConf L0 [] Tryz.f98 C.laws_heldConf := fun x => by kernel_rfl

/-! ### laws.heldSpanS: function 66 -/
def F.laws_heldSpanS.s2 : Stp ((List DSpan) × Int × Int × Unit) Int := fun (x1, x2, x3, _) =>
 bif decide (x3 < (len x1)) then
  chk (inb x3 x1.length) <|
  bif ((x1.getD x3.toNat (0, 0, ())).1) != x2 then
   some (.ret (-1))
  else
  chk (inb x3 x1.length) <|
  bif (((x1.getD x3.toNat (0, 0, ())).2).1) != (w64 (x2 + 1)) then
   some (.ret (-1))
  else
   some (.again (x1, w64 ((w64 (x2 + 1)) + 1), w64 (x3 + 1), ()))
 else
  some (.exit (x1, x2, x3, ()))
def F.laws_heldSpanS (a0 : List DSpan) (a1 : Int) : Option Int :=
 afterO (loopO F.laws_heldSpanS.s2 (a0, a1, 0, ())) fun (x4, x5, x6, _) =>
 some x5
def C.laws_heldSpanS : Con := ⟨[.r (.val (.sl false 180 y1)), .r (.val (.int .i64))], .one (.int .i64), fun x => F.laws_heldSpanS x.1 x.2.1⟩
def L.laws_heldSpanS : Loops := lookL [(2, ⟨[.pat 0 (.val (.sl false 180 y1)), .pat 1 (.val (.int .i64)), .pat 5 (.val (.int .i64))], 0⟩)]
def K.laws_heldSpanS : Cons := lookK []
theorem run.laws_heldSpanS : Rn K.laws_heldSpanS L.laws_heldSpanS [] Tryz.f66 C.laws_heldSpanS := fun x => by kernel_rfl

/-! ### laws.heldSeatS: function 99 -/
def F.laws_heldSeatS.s2 : Stp ((List DSeat) × Int × Int × Unit) Int := fun (x1, x2, x3, _) =>
 bif decide (x3 < (len x1)) then
  chk (inb x3 x1.length) <|
  bif ((x1.getD x3.toNat (0, 0, [], 0, 0, ())).1) != x2 then
   some (.ret (-1))
  else
  chk (inb x3 x1.length) <|
  bif (((x1.getD x3.toNat (0, 0, [], 0, 0, ())).2).1) != (w64 (x2 + 1)) then
   some (.ret (-1))
  else
  chk (inb x3 x1.length) <|
  (F.laws_heldSpanS ((((x1.getD x3.toNat (0, 0, [], 0, 0, ())).2).2).1) (w64 ((w64 (x2 + 1)) + 1))).bind fun r4 =>
  bif decide (r4 < 0) then
   some (.ret (-1))
  else
  chk (inb x3 x1.length) <|
  bif (((((x1.getD x3.toNat (0, 0, [], 0, 0, ())).2).2).2).1) != r4 then
   some (.ret (-1))
  else
  chk (inb x3 x1.length) <|
  bif ((((((x1.getD x3.toNat (0, 0, [], 0, 0, ())).2).2).2).2).1) != (w64 (r4 + 1)) then
   some (.ret (-1))
  else
   some (.again (x1, w64 ((w64 (r4 + 1)) + 1), w64 (x3 + 1), ()))
 else
  some (.exit (x1, x2, x3, ()))
def F.laws_heldSeatS (a0 : List DSeat) (a1 : Int) : Option Int :=
 afterO (loopO F.laws_heldSeatS.s2 (a0, a1, 0, ())) fun (x5, x6, x7, _) =>
 some x6
def C.laws_heldSeatS : Con := ⟨[.r (.val (.sl false 143 y19)), .r (.val (.int .i64))], .one (.int .i64), fun x => F.laws_heldSeatS x.1 x.2.1⟩
def L.laws_heldSeatS : Loops := lookL [(2, ⟨[.pat 0 (.val (.sl false 143 y19)), .pat 1 (.val (.int .i64)), .pat 5 (.val (.int .i64))], 0⟩)]
def K.laws_heldSeatS : Cons := lookK [(66, [], C.laws_heldSpanS)]
theorem run.laws_heldSeatS : Rn K.laws_heldSeatS L.laws_heldSeatS [] Tryz.f99 C.laws_heldSeatS := fun x => by kernel_rfl

/-! ### laws.heldIntSS: function 68 -/
def F.laws_heldIntSS.s2 : Stp ((List (List Int)) × Int × Int × Unit) Int := fun (x1, x2, x3, _) =>
 bif decide (x3 < (len x1)) then
  chk (inb x3 x1.length) <|
  (F.laws_heldIntS (x1.getD x3.toNat ([])) x2).bind fun r4 =>
  bif decide (r4 < 0) then
   some (.ret (-1))
  else
   some (.again (x1, r4, w64 (x3 + 1), ()))
 else
  some (.exit (x1, x2, x3, ()))
def F.laws_heldIntSS (a0 : List (List Int)) (a1 : Int) : Option Int :=
 afterO (loopO F.laws_heldIntSS.s2 (a0, a1, 0, ())) fun (x5, x6, x7, _) =>
 some x6
def C.laws_heldIntSS : Con := ⟨[.r (.val (.sl false 26 (.sl false 3 (.int .i64)))), .r (.val (.int .i64))], .one (.int .i64), fun x => F.laws_heldIntSS x.1 x.2.1⟩
def L.laws_heldIntSS : Loops := lookL [(2, ⟨[.pat 0 (.val (.sl false 26 (.sl false 3 (.int .i64)))), .pat 1 (.val (.int .i64)), .pat 5 (.val (.int .i64))], 0⟩)]
def K.laws_heldIntSS : Cons := lookK [(67, [], C.laws_heldIntS)]
theorem run.laws_heldIntSS : Rn K.laws_heldIntSS L.laws_heldIntSS [] Tryz.f68 C.laws_heldIntSS := fun x => by kernel_rfl

/-! ### laws.heldEntryS: function 20 -/
def F.laws_heldEntryS.s2 : Stp ((List DEntry) × Int × Int × Unit) Int := fun (x1, x2, x3, _) =>
 bif decide (x3 < (len x1)) then
  chk (inb x3 x1.length) <|
  bif ((x1.getD x3.toNat (0, 0, [], (0, 0, 0, 0, [], [], [], ()), ())).1) != x2 then
   some (.ret (-1))
  else
  chk (inb x3 x1.length) <|
  bif (((x1.getD x3.toNat (0, 0, [], (0, 0, 0, 0, [], [], [], ()), ())).2).1) != (w64 (x2 + 1)) then
   some (.ret (-1))
  else
  chk (inb x3 x1.length) <|
  (F.laws_heldSpanS ((((x1.getD x3.toNat (0, 0, [], (0, 0, 0, 0, [], [], [], ()), ())).2).2).1) (w64 ((w64 (x2 + 1)) + 1))).bind fun r4 =>
  bif decide (r4 < 0) then
   some (.ret (-1))
  else
  chk (inb x3 x1.length) <|
  bif ((((((x1.getD x3.toNat (0, 0, [], (0, 0, 0, 0, [], [], [], ()), ())).2).2).2).1).1) != r4 then
   some (.ret (-1))
  else
  chk (inb x3 x1.length) <|
  bif (((((((x1.getD x3.toNat (0, 0, [], (0, 0, 0, 0, [], [], [], ()), ())).2).2).2).1).2).1) != (w64 (r4 + 1)) then
   some (.ret (-1))
  else
  chk (inb x3 x1.length) <|
  bif ((((((((x1.getD x3.toNat (0, 0, [], (0, 0, 0, 0, [], [], [], ()), ())).2).2).2).1).2).2).1) != (w64 ((w64 (r4 + 1)) + 1)) then
   some (.ret (-1))
  else
  chk (inb x3 x1.length) <|
  bif (((((((((x1.getD x3.toNat (0, 0, [], (0, 0, 0, 0, [], [], [], ()), ())).2).2).2).1).2).2).2).1) != (w64 ((w64 ((w64 (r4 + 1)) + 1)) + 1)) then
   some (.ret (-1))
  else
  chk (inb x3 x1.length) <|
  (F.laws_heldIntS ((((((((((x1.getD x3.toNat (0, 0, [], (0, 0, 0, 0, [], [], [], ()), ())).2).2).2).1).2).2).2).2).1) (w64 ((w64 ((w64 ((w64 (r4 + 1)) + 1)) + 1)) + 1))).bind fun r5 =>
  bif decide (r5 < 0) then
   some (.ret (-1))
  else
  chk (inb x3 x1.length) <|
  (F.laws_heldIntS (((((((((((x1.getD x3.toNat (0, 0, [], (0, 0, 0, 0, [], [], [], ()), ())).2).2).2).1).2).2).2).2).2).1) r5).bind fun r6 =>
  bif decide (r6 < 0) then
   some (.ret (-1))
  else
  chk (inb x3 x1.length) <|
  (F.laws_heldIntSS ((((((((((((x1.getD x3.toNat (0, 0, [], (0, 0, 0, 0, [], [], [], ()), ())).2).2).2).1).2).2).2).2).2).2).1) r6).bind fun r7 =>
  bif decide (r7 < 0) then
   some (.ret (-1))
  else
   some (.again (x1, r7, w64 (x3 + 1), ()))
 else
  some (.exit (x1, x2, x3, ()))
def F.laws_heldEntryS (a0 : List DEntry) (a1 : Int) : Option Int :=
 afterO (loopO F.laws_heldEntryS.s2 (a0, a1, 0, ())) fun (x8, x9, x10, _) =>
 some x9
def C.laws_heldEntryS : Con := ⟨[.r (.val (.sl false 31 y20)), .r (.val (.int .i64))], .one (.int .i64), fun x => F.laws_heldEntryS x.1 x.2.1⟩
def L.laws_heldEntryS : Loops := lookL [(2, ⟨[.pat 0 (.val (.sl false 31 y20)), .pat 1 (.val (.int .i64)), .pat 5 (.val (.int .i64))], 0⟩)]
def K.laws_heldEntryS : Cons := lookK [(66, [], C.laws_heldSpanS), (67, [], C.laws_heldIntS), (68, [], C.laws_heldIntSS)]
theorem run.laws_heldEntryS : Rn K.laws_heldEntryS L.laws_heldEntryS [] Tryz.f20 C.laws_heldEntryS := fun x => by kernel_rfl

/-! ### laws.heldRowS: function 198 -/
def F.laws_heldRowS.s2 : Stp ((List DRow) × Int × Int × Unit) Int := fun (x1, x2, x3, _) =>
 bif decide (x3 < (len x1)) then
  chk (inb x3 x1.length) <|
  (F.laws_heldEntryS ((x1.getD x3.toNat ([], ())).1) x2).bind fun r4 =>
  bif decide (r4 < 0) then
   some (.ret (-1))
  else
   some (.again (x1, r4, w64 (x3 + 1), ()))
 else
  some (.exit (x1, x2, x3, ()))
def F.laws_heldRowS (a0 : List DRow) (a1 : Int) : Option Int :=
 afterO (loopO F.laws_heldRowS.s2 (a0, a1, 0, ())) fun (x5, x6, x7, _) =>
 some x6
def C.laws_heldRowS : Con := ⟨[.r (.val (.sl false 84 (.cons (.sl false 31 y20) .nil))), .r (.val (.int .i64))], .one (.int .i64), fun x => F.laws_heldRowS x.1 x.2.1⟩
def L.laws_heldRowS : Loops := lookL [(2, ⟨[.pat 0 (.val (.sl false 84 (.cons (.sl false 31 y20) .nil))), .pat 1 (.val (.int .i64)), .pat 5 (.val (.int .i64))], 0⟩)]
def K.laws_heldRowS : Cons := lookK [(20, [], C.laws_heldEntryS)]
theorem run.laws_heldRowS : Rn K.laws_heldRowS L.laws_heldRowS [] Tryz.f198 C.laws_heldRowS := fun x => by kernel_rfl

/-! ### laws.heldRowSS: function 100 -/
def F.laws_heldRowSS.s2 : Stp ((List (List DRow)) × Int × Int × Unit) Int := fun (x1, x2, x3, _) =>
 bif decide (x3 < (len x1)) then
  chk (inb x3 x1.length) <|
  (F.laws_heldRowS (x1.getD x3.toNat ([])) x2).bind fun r4 =>
  bif decide (r4 < 0) then
   some (.ret (-1))
  else
   some (.again (x1, r4, w64 (x3 + 1), ()))
 else
  some (.exit (x1, x2, x3, ()))
def F.laws_heldRowSS (a0 : List (List DRow)) (a1 : Int) : Option Int :=
 afterO (loopO F.laws_heldRowSS.s2 (a0, a1, 0, ())) fun (x5, x6, x7, _) =>
 some x6
def C.laws_heldRowSS : Con := ⟨[.r (.val (.sl false 121 (.sl false 84 (.cons (.sl false 31 y20) .nil)))), .r (.val (.int .i64))], .one (.int .i64), fun x => F.laws_heldRowSS x.1 x.2.1⟩
def L.laws_heldRowSS : Loops := lookL [(2, ⟨[.pat 0 (.val (.sl false 121 (.sl false 84 (.cons (.sl false 31 y20) .nil)))), .pat 1 (.val (.int .i64)), .pat 5 (.val (.int .i64))], 0⟩)]
def K.laws_heldRowSS : Cons := lookK [(198, [], C.laws_heldRowS)]
theorem run.laws_heldRowSS : Rn K.laws_heldRowSS L.laws_heldRowSS [] Tryz.f100 C.laws_heldRowSS := fun x => by kernel_rfl

/-! ### laws.heldTurnS: function 101 -/
def F.laws_heldTurnS.s2 : Stp ((List DTurn) × Int × Int × Unit) Int := fun (x1, x2, x3, _) =>
 bif decide (x3 < (len x1)) then
  chk (inb x3 x1.length) <|
  bif ((x1.getD x3.toNat (0, false, [], ())).1) != x2 then
   some (.ret (-1))
  else
  chk (inb x3 x1.length) <|
  bif !((((x1.getD x3.toNat (0, false, [], ())).2).1) == ((Int.tmod (w64 (x2 + 1)) 3) == 0)) then
   some (.ret (-1))
  else
  chk (inb x3 x1.length) <|
  (F.laws_heldIntS ((((x1.getD x3.toNat (0, false, [], ())).2).2).1) (w64 ((w64 (x2 + 1)) + 1))).bind fun r4 =>
  bif decide (r4 < 0) then
   some (.ret (-1))
  else
   some (.again (x1, r4, w64 (x3 + 1), ()))
 else
  some (.exit (x1, x2, x3, ()))
def F.laws_heldTurnS (a0 : List DTurn) (a1 : Int) : Option Int :=
 afterO (loopO F.laws_heldTurnS.s2 (a0, a1, 0, ())) fun (x5, x6, x7, _) =>
 some x6
def C.laws_heldTurnS : Con := ⟨[.r (.val (.sl false 125 y5)), .r (.val (.int .i64))], .one (.int .i64), fun x => F.laws_heldTurnS x.1 x.2.1⟩
def L.laws_heldTurnS : Loops := lookL [(2, ⟨[.pat 0 (.val (.sl false 125 y5)), .pat 1 (.val (.int .i64)), .pat 5 (.val (.int .i64))], 0⟩)]
def K.laws_heldTurnS : Cons := lookK [(67, [], C.laws_heldIntS)]
theorem run.laws_heldTurnS : Rn K.laws_heldTurnS L.laws_heldTurnS [] Tryz.f101 C.laws_heldTurnS := fun x => by kernel_rfl

/-! ### laws.heldOutS: function 102 -/
def F.laws_heldOutS.s2 : Stp ((List DOut) × Int × Int × Unit) Int := fun (x1, x2, x3, _) =>
 bif decide (x3 < (len x1)) then
  chk (inb x3 x1.length) <|
  bif ((x1.getD x3.toNat (0, (0, 0, [], (0, 0, 0, 0, [], [], [], ()), ()), ())).1) != x2 then
   some (.ret (-1))
  else
  chk (inb x3 x1.length) <|
  bif ((((x1.getD x3.toNat (0, (0, 0, [], (0, 0, 0, 0, [], [], [], ()), ()), ())).2).1).1) != (w64 (x2 + 1)) then
   some (.ret (-1))
  else
  chk (inb x3 x1.length) <|
  bif (((((x1.getD x3.toNat (0, (0, 0, [], (0, 0, 0, 0, [], [], [], ()), ()), ())).2).1).2).1) != (w64 ((w64 (x2 + 1)) + 1)) then
   some (.ret (-1))
  else
  chk (inb x3 x1.length) <|
  (F.laws_heldSpanS ((((((x1.getD x3.toNat (0, (0, 0, [], (0, 0, 0, 0, [], [], [], ()), ()), ())).2).1).2).2).1) (w64 ((w64 ((w64 (x2 + 1)) + 1)) + 1))).bind fun r4 =>
  bif decide (r4 < 0) then
   some (.ret (-1))
  else
  chk (inb x3 x1.length) <|
  bif ((((((((x1.getD x3.toNat (0, (0, 0, [], (0, 0, 0, 0, [], [], [], ()), ()), ())).2).1).2).2).2).1).1) != r4 then
   some (.ret (-1))
  else
  chk (inb x3 x1.length) <|
  bif (((((((((x1.getD x3.toNat (0, (0, 0, [], (0, 0, 0, 0, [], [], [], ()), ()), ())).2).1).2).2).2).1).2).1) != (w64 (r4 + 1)) then
   some (.ret (-1))
  else
  chk (inb x3 x1.length) <|
  bif ((((((((((x1.getD x3.toNat (0, (0, 0, [], (0, 0, 0, 0, [], [], [], ()), ()), ())).2).1).2).2).2).1).2).2).1) != (w64 ((w64 (r4 + 1)) + 1)) then
   some (.ret (-1))
  else
  chk (inb x3 x1.length) <|
  bif (((((((((((x1.getD x3.toNat (0, (0, 0, [], (0, 0, 0, 0, [], [], [], ()), ()), ())).2).1).2).2).2).1).2).2).2).1) != (w64 ((w64 ((w64 (r4 + 1)) + 1)) + 1)) then
   some (.ret (-1))
  else
  chk (inb x3 x1.length) <|
  (F.laws_heldIntS ((((((((((((x1.getD x3.toNat (0, (0, 0, [], (0, 0, 0, 0, [], [], [], ()), ()), ())).2).1).2).2).2).1).2).2).2).2).1) (w64 ((w64 ((w64 ((w64 (r4 + 1)) + 1)) + 1)) + 1))).bind fun r5 =>
  bif decide (r5 < 0) then
   some (.ret (-1))
  else
  chk (inb x3 x1.length) <|
  (F.laws_heldIntS (((((((((((((x1.getD x3.toNat (0, (0, 0, [], (0, 0, 0, 0, [], [], [], ()), ()), ())).2).1).2).2).2).1).2).2).2).2).2).1) r5).bind fun r6 =>
  bif decide (r6 < 0) then
   some (.ret (-1))
  else
  chk (inb x3 x1.length) <|
  (F.laws_heldIntSS ((((((((((((((x1.getD x3.toNat (0, (0, 0, [], (0, 0, 0, 0, [], [], [], ()), ()), ())).2).1).2).2).2).1).2).2).2).2).2).2).1) r6).bind fun r7 =>
  bif decide (r7 < 0) then
   some (.ret (-1))
  else
   some (.again (x1, r7, w64 (x3 + 1), ()))
 else
  some (.exit (x1, x2, x3, ()))
def F.laws_heldOutS (a0 : List DOut) (a1 : Int) : Option Int :=
 afterO (loopO F.laws_heldOutS.s2 (a0, a1, 0, ())) fun (x8, x9, x10, _) =>
 some x9
def C.laws_heldOutS : Con := ⟨[.r (.val (.sl false 203 y21)), .r (.val (.int .i64))], .one (.int .i64), fun x => F.laws_heldOutS x.1 x.2.1⟩
def L.laws_heldOutS : Loops := lookL [(2, ⟨[.pat 0 (.val (.sl false 203 y21)), .pat 1 (.val (.int .i64)), .pat 5 (.val (.int .i64))], 0⟩)]
def K.laws_heldOutS : Cons := lookK [(66, [], C.laws_heldSpanS), (67, [], C.laws_heldIntS), (68, [], C.laws_heldIntSS)]
theorem run.laws_heldOutS : Rn K.laws_heldOutS L.laws_heldOutS [] Tryz.f102 C.laws_heldOutS := fun x => by kernel_rfl

/-! ### laws.heldHouse: function 27 -/
def F.laws_heldHouse (a0 : DHouse) (a1 : Int) : Option Int :=
 (F.laws_heldConf a0.1 a1).bind fun r1 =>
 bif decide (r1 < 0) then
  some (-1)
 else
 (F.laws_heldSeatS a0.2.2.2.1 r1).bind fun r2 =>
 bif decide (r2 < 0) then
  some (-1)
 else
 (F.laws_heldRowSS a0.2.2.2.2.1 r2).bind fun r3 =>
 bif decide (r3 < 0) then
  some (-1)
 else
 (F.laws_heldTurnS a0.2.2.2.2.2.1 r3).bind fun r4 =>
 bif decide (r4 < 0) then
  some (-1)
 else
 (F.laws_heldEntryS a0.2.2.2.2.2.2.2.1 r4).bind fun r5 =>
 bif decide (r5 < 0) then
  some (-1)
 else
 (F.laws_heldOutS a0.2.2.2.2.2.2.2.2.1 r5).bind fun r6 =>
 bif decide (r6 < 0) then
  some (-1)
 else
  some r6
def C.laws_heldHouse : Con := ⟨[.r (.val y22), .r (.val (.int .i64))], .one (.int .i64), fun x => F.laws_heldHouse x.1 x.2.1⟩
def K.laws_heldHouse : Cons := lookK [(20, [], C.laws_heldEntryS), (98, [], C.laws_heldConf), (99, [], C.laws_heldSeatS), (100, [], C.laws_heldRowSS), (101, [], C.laws_heldTurnS), (102, [], C.laws_heldOutS)]
theorem run.laws_heldHouse : Rn K.laws_heldHouse L0 [] Tryz.f27 C.laws_heldHouse := fun x => by kernel_rfl

/-! ### laws.heldByteS: function 35 -/
def F.laws_heldByteS.s2 : Stp ((List Int) × Int × Int × Unit) Int := fun (x1, x2, x3, _) =>
 bif decide (x3 < (len x1)) then
  chk (inb x3 x1.length) <|
  bif (x1.getD x3.toNat 0) != (IntKind.wrap .u8 x2) then
   some (.ret (-1))
  else
   some (.again (x1, w64 (x2 + 1), w64 (x3 + 1), ()))
 else
  some (.exit (x1, x2, x3, ()))
def F.laws_heldByteS (a0 : List Int) (a1 : Int) : Option Int :=
 afterO (loopO F.laws_heldByteS.s2 (a0, a1, 0, ())) fun (x4, x5, x6, _) =>
 some x5
def C.laws_heldByteS : Con := ⟨[.r (.val (.sl false 5 (.int .u8))), .r (.val (.int .i64))], .one (.int .i64), fun x => F.laws_heldByteS x.1 x.2.1⟩
def L.laws_heldByteS : Loops := lookL [(2, ⟨[.pat 0 (.val (.sl false 5 (.int .u8))), .pat 1 (.val (.int .i64)), .pat 5 (.val (.int .i64))], 0⟩)]
def K.laws_heldByteS : Cons := lookK []
theorem run.laws_heldByteS : Rn K.laws_heldByteS L.laws_heldByteS [] Tryz.f35 C.laws_heldByteS := fun x => by kernel_rfl

/-! ### laws.FnExactIngressBytes: function 7 -/
def F.laws_FnExactIngressBytes (a0 : DHouse) (a1 : List Int) : Option Bool :=
 bif decide ((len a1) > 1048576) then
  some true
 else
 (F.laws_szHouse a0 1048576).bind fun r1 =>
 bif decide (r1 < 0) then
  some true
 else
 (F.laws_toHouse a0).bind fun r2 =>
 (F.laws_toByteS a1).bind fun r3 =>
 (F.spec_IngressBytes r2 r3).bind fun r4 =>
 (F.laws_toHouse a0).bind fun r5 =>
 (F.laws_toByteS a1).bind fun r6 =>
 (F.impl_IngressBytes r5 r6).bind fun r7 =>
 (F.laws_eqHouse r7.1 r4.1).bind fun r8 =>
 bif !r8 then
  some false
 else
 (F.laws_eqByteS r7.2.1 r4.2.1).bind fun r9 =>
 bif !r9 then
  some false
 else
 bif r7.2.2 != r4.2.2 then
  some false
 else
 (F.laws_toHouse a0).bind fun r10 =>
 (F.laws_eqHouse r5 r10).bind fun r11 =>
 bif !r11 then
  some false
 else
 (F.laws_toByteS a1).bind fun r12 =>
 (F.laws_eqByteS r6 r12).bind fun r13 =>
 bif !r13 then
  some false
 else
 (F.laws_markHouse r5 1).bind fun r14 =>
 (F.laws_markByteS r6 r14.1).bind fun r15 =>
 bif decide (r15.1 < 0) then
  some false
 else
 (F.laws_eqHouse r7.1 r4.1).bind fun r16 =>
 bif !r16 then
  some false
 else
 (F.laws_eqByteS r7.2.1 r4.2.1).bind fun r17 =>
 bif !r17 then
  some false
 else
 bif r7.2.2 != r4.2.2 then
  some false
 else
 (F.laws_markHouse r7.1 1).bind fun r18 =>
 (F.laws_markByteS r7.2.1 r18.1).bind fun r19 =>
 (F.laws_heldHouse r18.2 1).bind fun r20 =>
 bif decide (r20 < 0) then
  some false
 else
 (F.laws_heldByteS r19.2 r20).bind fun r21 =>
 bif decide (r21 < 0) then
  some false
 else
 bif r21 != r19.1 then
  some false
 else
 (F.laws_toHouse a0).bind fun r22 =>
 (F.laws_toByteS a1).bind fun r23 =>
 (F.impl_IngressBytes r22 r23).bind fun r24 =>
 (F.laws_eqHouse r24.1 r4.1).bind fun r25 =>
 bif !r25 then
  some false
 else
 (F.laws_eqByteS r24.2.1 r4.2.1).bind fun r26 =>
 bif !r26 then
  some false
 else
 bif r24.2.2 != r4.2.2 then
  some false
 else
 (F.laws_heldHouse r18.2 1).bind fun r27 =>
 bif decide (r27 < 0) then
  some false
 else
 (F.laws_heldByteS r19.2 r27).bind fun r28 =>
 bif decide (r28 < 0) then
  some false
 else
 bif r28 != r19.1 then
  some false
 else
  some true
def C.laws_FnExactIngressBytes : Con := ⟨[.r (.val y7), .r (.val (.sl false 5 (.int .u8)))], .one .bool, fun x => F.laws_FnExactIngressBytes x.1 x.2.1⟩
def K.laws_FnExactIngressBytes : Cons := lookK [(21, [], C.laws_szHouse), (23, [], C.laws_toHouse), (25, [], C.laws_eqHouse), (26, [], C.laws_markHouse), (27, [], C.laws_heldHouse), (30, [], C.spec_IngressBytes), (31, [], C.laws_toByteS), (32, [], C.impl_IngressBytes), (33, [], C.laws_eqByteS), (34, [], C.laws_markByteS), (35, [], C.laws_heldByteS)]
theorem run.laws_FnExactIngressBytes : Rn K.laws_FnExactIngressBytes L0 [] Tryz.f7 C.laws_FnExactIngressBytes := fun x => by kernel_rfl
end
end Go.Proofs.YtipaepbmdooekaaGreat.Vm
