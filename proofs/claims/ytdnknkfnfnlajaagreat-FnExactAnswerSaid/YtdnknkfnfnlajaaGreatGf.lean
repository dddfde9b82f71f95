import Derived.Test.YtdnknkfnfnlajaaGreatGfA
import Derived.KernelRfl
namespace Go.Proofs.YtdnknkfnfnlajaaGreat.Vm
open Go Go.RowKit
set_option maxRecDepth 100000
set_option linter.unusedVariables false

/-! ### spec.l6Add: function 188 -/
noncomputable def F.spec_l6Add (a0 : DEntry) (a1 : DEntry) : Option DEntry :=
  (F.spec_l5Join a0.2.2.1 a1.2.2.1).bind fun r1 =>
  (F.spec_l3Merge a0.2.2.2.1 a1.2.2.2.1).bind fun r2 =>
  some (a0.1, a0.2.1, r1, r2, ())
noncomputable def C.spec_l6Add : Con := ⟨[.r (.val y16), .r (.val y16)], .one y11, fun x => F.spec_l6Add x.1 x.2.1⟩
def L.spec_l6Add : Loops := fun _ => none
noncomputable def K.spec_l6Add : Cons := lookK [(97, [], C.spec_l5Join), (282, [], C.spec_l3Merge)]
theorem run.spec_l6Add : ∀ x, runF tb K.spec_l6Add L.spec_l6Add [] Tryz.f188 C.spec_l6Add x = C.spec_l6Add.fn x := fun x => by kernel_rfl

/-! ### spec.RowPush: function 152 -/
noncomputable def F.spec_RowPush.s5 : (Bool × Int × DRow × DEntry × DRow × DRow × Unit) → Option (Lp (Bool × Int × DRow × DEntry × DRow × DRow × Unit) (DRow × Bool)) := fun (x5, x6, x7, x8, x9, x10, _) =>
  bif decide (x6 < (len x10.1)) then
    bif x5 then
      chk (inb x6 (List.length x10.1)) <|
      bif ((List.getD x10.1 ((Int.toNat x6)) ((0, 0, ([] : List DSpan), (0, 0, 0, 0, ([] : List Int), ([] : List Int), ([] : List (List Int)), ()), ()))).1) == x8.1 then
        chk (inb x6 (List.length x10.1)) <|
        bif (((List.getD x10.1 ((Int.toNat x6)) ((0, 0, ([] : List DSpan), (0, 0, 0, 0, ([] : List Int), ([] : List Int), ([] : List (List Int)), ()), ()))).2).1) == x8.2.1 then
          chk (inb x6 (List.length x10.1)) <|
          (F.spec_l6Add (List.getD x10.1 ((Int.toNat x6)) ((0, 0, ([] : List DSpan), (0, 0, 0, 0, ([] : List Int), ([] : List Int), ([] : List (List Int)), ()), ()))) x8).bind fun r11 =>
          chk (inb x6 (List.length x10.1)) <|
          some (.ret ((List.set x10.1 ((Int.toNat x6)) r11, x10.2), true))
        else
          some (.again (x5, w64 (x6 + 1), x7, x8, x9, x10, ()))
      else
        some (.again (x5, w64 (x6 + 1), x7, x8, x9, x10, ()))
    else
      some (.exit (x5, x6, x7, x8, x9, x10, ()))
  else
    some (.exit (x5, x6, x7, x8, x9, x10, ()))
noncomputable def F.spec_RowPush (a0 : DRow) (a1 : DEntry) (a2 : Bool) : Option (DRow × Bool) :=
  (F.spec_l10Copy a0).bind fun r1 =>
  (F.spec_RowOk a0).bind fun r2 =>
  bif !r2 then
    some (r1, false)
  else
  (F.spec_EntryOk a1).bind fun r3 =>
  bif !r3 then
    some (r1, false)
  else
  (F.spec_l10Apart a0 a1.2.2.1).bind fun r4 =>
  bif !r4 then
    some (r1, false)
  else
  afterO (loopO F.spec_RowPush.s5 (a2, 0, a0, a1, (([] : List DEntry), ()), r1, ())) fun (x12, x13, x14, x15, x16, x17, _) =>
  bif (len x14.1) == 24 then
    some (x17, false)
  else
  (F.spec_l6Copy x15).bind fun r18 =>
  chk (fits (List.length x17.1 + List.length ([r18])) 144) <|
  some ((x17.1 ++ ([r18]), x17.2), true)
noncomputable def C.spec_RowPush : Con := ⟨[.r (.val (.cons (.sl false 31 y16) .nil)), .r (.val y16), .r (.val .bool)], .many [(.cons (.sl true 31 y11) .nil), .bool], fun x => F.spec_RowPush x.1 x.2.1 x.2.2.1⟩
def L.spec_RowPush : Loops := lookL [(5, ⟨[.pat 2 (.val .bool), .pat 9 (.val (.int .i64)), .root 3 true (.cons (.sl false 31 y16) .nil) [3], .root 4 true y16 [4], .root 6 true (.cons (.sl true 31 y11) .nil) [6], .root 8 true (.cons (.sl true 31 y11) .nil) [8]], 0⟩)]
noncomputable def K.spec_RowPush : Cons := lookK [(73, [], C.spec_EntryOk), (75, [], C.spec_l6Copy), (168, [], C.spec_RowOk), (188, [], C.spec_l6Add), (236, [], C.spec_l10Copy), (254, [], C.spec_l10Apart)]
theorem run.spec_RowPush : ∀ x, runF tb K.spec_RowPush L.spec_RowPush [] Tryz.f152 C.spec_RowPush x = C.spec_RowPush.fn x := fun x => by kernel_rfl

/-! ### spec.Ingress: function 45 -/
noncomputable def F.spec_Ingress (a0 : DHouse) (a1 : DFrame) : Option (DHouse × DFrame × Int) :=
  (F.spec_l12Copy a0).bind fun r1 =>
  (F.spec_HouseOk a0).bind fun r2 =>
  bif !r2 then
    some (r1, (0, 0, 0, 0, ([] : List DSpan), (0, 0, 0, 0, (0, 0, 0, 0, ([] : List Int), ([] : List Int), ([] : List (List Int)), ()), ()), ()), 6)
  else
  (F.spec_FrameOk a1).bind fun r3 =>
  bif !r3 then
    some (r1, (0, 0, 0, 0, ([] : List DSpan), (0, 0, 0, 0, (0, 0, 0, 0, ([] : List Int), ([] : List Int), ([] : List (List Int)), ()), ()), ()), 6)
  else
  bif a1.1 != 0 then
    bif a1.1 != 1 then
      some (r1, (0, 0, 0, 0, ([] : List DSpan), (0, 0, 0, 0, (0, 0, 0, 0, ([] : List Int), ([] : List Int), ([] : List (List Int)), ()), ()), ()), 6)
    else
    chk (inb a1.2.1 (List.length r1.2.2.2.1)) <|
    (some (List.set r1.2.2.2.1 ((Int.toNat a1.2.1)) (((List.getD r1.2.2.2.1 ((Int.toNat a1.2.1)) ((0, 0, ([] : List DSpan), 0, 0, ()))).1, ((List.getD r1.2.2.2.1 ((Int.toNat a1.2.1)) ((0, 0, ([] : List DSpan), 0, 0, ()))).2).1, (((List.getD r1.2.2.2.1 ((Int.toNat a1.2.1)) ((0, 0, ([] : List DSpan), 0, 0, ()))).2).2).1, ((((List.getD r1.2.2.2.1 ((Int.toNat a1.2.1)) ((0, 0, ([] : List DSpan), 0, 0, ()))).2).2).2).1, r1.2.1, (((((List.getD r1.2.2.2.1 ((Int.toNat a1.2.1)) ((0, 0, ([] : List DSpan), 0, 0, ()))).2).2).2).2).2)))).bind fun r4 =>
    bif a1.1 == 0 then
      bif !r1.2.2.1 then
        chk (inb a1.2.1 (List.length r4)) <|
        (F.spec_SeatGrant (List.getD r4 ((Int.toNat a1.2.1)) ((0, 0, ([] : List DSpan), 0, 0, ()))) r1.1.1).bind fun r5 =>
        chk (inb a1.2.1 (List.length r4)) <|
        (F.spec_l13Answer ((r1.1, r1.2.1, r1.2.2.1, List.set r4 ((Int.toNat a1.2.1)) r5, r1.2.2.2.2)) a1.2.1).bind fun r6 =>
        some ((r1.1, r1.2.1, r1.2.2.1, List.set r4 ((Int.toNat a1.2.1)) r5, r1.2.2.2.2), r6, 2)
      else
      (F.spec_l13Answer ((r1.1, r1.2.1, r1.2.2.1, r4, r1.2.2.2.2)) a1.2.1).bind fun r7 =>
      some ((r1.1, r1.2.1, r1.2.2.1, r4, r1.2.2.2.2), r7, 2)
    else
    chk (inb a1.2.1 (List.length r4)) <|
    (F.spec_SeatData (List.getD r4 ((Int.toNat a1.2.1)) ((0, 0, ([] : List DSpan), 0, 0, ()))) r1.1.1 a1.2.2.1 a1.2.2.2.2.2.1.1).bind fun r8 =>
    bif r8.2 == 2 then
      (F.spec_l13Answer ((r1.1, r1.2.1, r1.2.2.1, r4, r1.2.2.2.2)) a1.2.1).bind fun r9 =>
      some ((r1.1, r1.2.1, r1.2.2.1, r4, r1.2.2.2.2), r9, 3)
    else
    bif r8.2 == 1 then
      (F.spec_l13Answer ((r1.1, r1.2.1, r1.2.2.1, r4, r1.2.2.2.2)) a1.2.1).bind fun r10 =>
      some ((r1.1, r1.2.1, r1.2.2.1, r4, r1.2.2.2.2), r10, 1)
    else
    bif r8.2 == 3 then
      (F.spec_l13Answer ((r1.1, r1.2.1, r1.2.2.1, r4, r1.2.2.2.2)) a1.2.1).bind fun r11 =>
      some ((r1.1, r1.2.1, r1.2.2.1, r4, r1.2.2.2.2), r11, 4)
    else
    bif r8.2 == 0 then
      bif r1.2.2.1 then
        (F.spec_l13Answer ((r1.1, r1.2.1, r1.2.2.1, r4, r1.2.2.2.2)) a1.2.1).bind fun r12 =>
        some ((r1.1, r1.2.1, r1.2.2.1, r4, r1.2.2.2.2), r12, 5)
      else
      (F.spec_EntryOf a1.2.1 a1.2.2.2.2.2.1).bind fun r13 =>
      chk (inb a1.2.1 (List.length r1.2.2.2.2.1)) <|
      chk (inb a1.2.2.2.2.2.1.2.1 (List.length (List.getD r1.2.2.2.2.1 ((Int.toNat a1.2.1)) (([] : List DRow))))) <|
      (F.spec_Items ((r1.1, r1.2.1, r1.2.2.1, r4, r1.2.2.2.2))).bind fun r14 =>
      (F.spec_RowPush (List.getD (List.getD r1.2.2.2.2.1 ((Int.toNat a1.2.1)) (([] : List DRow))) ((Int.toNat a1.2.2.2.2.2.1.2.1)) ((([] : List DEntry), ()))) r13.1 (decide (r14 ≥ r1.1.2.2.2.2.1))).bind fun r15 =>
      chk (inb a1.2.1 (List.length r1.2.2.2.2.1)) <|
      chk (inb a1.2.2.2.2.2.1.2.1 (List.length (List.getD r1.2.2.2.2.1 ((Int.toNat a1.2.1)) (([] : List DRow))))) <|
      (some (List.set r1.2.2.2.2.1 ((Int.toNat a1.2.1)) (List.set (List.getD r1.2.2.2.2.1 ((Int.toNat a1.2.1)) (([] : List DRow))) ((Int.toNat a1.2.2.2.2.2.1.2.1)) r15.1))).bind fun r16 =>
      chk (inb a1.2.1 (List.length r4)) <|
      (F.spec_l13Answer ((r1.1, r1.2.1, r1.2.2.1, List.set r4 ((Int.toNat a1.2.1)) r8.1, r16, r1.2.2.2.2.2)) a1.2.1).bind fun r17 =>
      some ((r1.1, r1.2.1, r1.2.2.1, List.set r4 ((Int.toNat a1.2.1)) r8.1, r16, r1.2.2.2.2.2), r17, 0)
    else
    (F.spec_l13Answer ((r1.1, r1.2.1, r1.2.2.1, r4, r1.2.2.2.2)) a1.2.1).bind fun r18 =>
    some ((r1.1, r1.2.1, r1.2.2.1, r4, r1.2.2.2.2), r18, 0)
  else
  chk (inb a1.2.1 (List.length r1.2.2.2.1)) <|
  (some (List.set r1.2.2.2.1 ((Int.toNat a1.2.1)) (((List.getD r1.2.2.2.1 ((Int.toNat a1.2.1)) ((0, 0, ([] : List DSpan), 0, 0, ()))).1, ((List.getD r1.2.2.2.1 ((Int.toNat a1.2.1)) ((0, 0, ([] : List DSpan), 0, 0, ()))).2).1, (((List.getD r1.2.2.2.1 ((Int.toNat a1.2.1)) ((0, 0, ([] : List DSpan), 0, 0, ()))).2).2).1, ((((List.getD r1.2.2.2.1 ((Int.toNat a1.2.1)) ((0, 0, ([] : List DSpan), 0, 0, ()))).2).2).2).1, r1.2.1, (((((List.getD r1.2.2.2.1 ((Int.toNat a1.2.1)) ((0, 0, ([] : List DSpan), 0, 0, ()))).2).2).2).2).2)))).bind fun r19 =>
  bif a1.1 == 0 then
    bif !r1.2.2.1 then
      chk (inb a1.2.1 (List.length r19)) <|
      (F.spec_SeatGrant (List.getD r19 ((Int.toNat a1.2.1)) ((0, 0, ([] : List DSpan), 0, 0, ()))) r1.1.1).bind fun r20 =>
      chk (inb a1.2.1 (List.length r19)) <|
      (F.spec_l13Answer ((r1.1, r1.2.1, r1.2.2.1, List.set r19 ((Int.toNat a1.2.1)) r20, r1.2.2.2.2)) a1.2.1).bind fun r21 =>
      some ((r1.1, r1.2.1, r1.2.2.1, List.set r19 ((Int.toNat a1.2.1)) r20, r1.2.2.2.2), r21, 2)
    else
    (F.spec_l13Answer ((r1.1, r1.2.1, r1.2.2.1, r19, r1.2.2.2.2)) a1.2.1).bind fun r22 =>
    some ((r1.1, r1.2.1, r1.2.2.1, r19, r1.2.2.2.2), r22, 2)
  else
  chk (inb a1.2.1 (List.length r19)) <|
  (F.spec_SeatData (List.getD r19 ((Int.toNat a1.2.1)) ((0, 0, ([] : List DSpan), 0, 0, ()))) r1.1.1 a1.2.2.1 a1.2.2.2.2.2.1.1).bind fun r23 =>
  bif r23.2 == 2 then
    (F.spec_l13Answer ((r1.1, r1.2.1, r1.2.2.1, r19, r1.2.2.2.2)) a1.2.1).bind fun r24 =>
    some ((r1.1, r1.2.1, r1.2.2.1, r19, r1.2.2.2.2), r24, 3)
  else
  bif r23.2 == 1 then
    (F.spec_l13Answer ((r1.1, r1.2.1, r1.2.2.1, r19, r1.2.2.2.2)) a1.2.1).bind fun r25 =>
    some ((r1.1, r1.2.1, r1.2.2.1, r19, r1.2.2.2.2), r25, 1)
  else
  bif r23.2 == 3 then
    (F.spec_l13Answer ((r1.1, r1.2.1, r1.2.2.1, r19, r1.2.2.2.2)) a1.2.1).bind fun r26 =>
    some ((r1.1, r1.2.1, r1.2.2.1, r19, r1.2.2.2.2), r26, 4)
  else
  bif r23.2 == 0 then
    bif r1.2.2.1 then
      (F.spec_l13Answer ((r1.1, r1.2.1, r1.2.2.1, r19, r1.2.2.2.2)) a1.2.1).bind fun r27 =>
      some ((r1.1, r1.2.1, r1.2.2.1, r19, r1.2.2.2.2), r27, 5)
    else
    (F.spec_EntryOf a1.2.1 a1.2.2.2.2.2.1).bind fun r28 =>
    chk (inb a1.2.1 (List.length r1.2.2.2.2.1)) <|
    chk (inb a1.2.2.2.2.2.1.2.1 (List.length (List.getD r1.2.2.2.2.1 ((Int.toNat a1.2.1)) (([] : List DRow))))) <|
    (F.spec_Items ((r1.1, r1.2.1, r1.2.2.1, r19, r1.2.2.2.2))).bind fun r29 =>
    (F.spec_RowPush (List.getD (List.getD r1.2.2.2.2.1 ((Int.toNat a1.2.1)) (([] : List DRow))) ((Int.toNat a1.2.2.2.2.2.1.2.1)) ((([] : List DEntry), ()))) r28.1 (decide (r29 ≥ r1.1.2.2.2.2.1))).bind fun r30 =>
    chk (inb a1.2.1 (List.length r1.2.2.2.2.1)) <|
    chk (inb a1.2.2.2.2.2.1.2.1 (List.length (List.getD r1.2.2.2.2.1 ((Int.toNat a1.2.1)) (([] : List DRow))))) <|
    (some (List.set r1.2.2.2.2.1 ((Int.toNat a1.2.1)) (List.set (List.getD r1.2.2.2.2.1 ((Int.toNat a1.2.1)) (([] : List DRow))) ((Int.toNat a1.2.2.2.2.2.1.2.1)) r30.1))).bind fun r31 =>
    chk (inb a1.2.1 (List.length r19)) <|
    (F.spec_l13Answer ((r1.1, r1.2.1, r1.2.2.1, List.set r19 ((Int.toNat a1.2.1)) r23.1, r31, r1.2.2.2.2.2)) a1.2.1).bind fun r32 =>
    some ((r1.1, r1.2.1, r1.2.2.1, List.set r19 ((Int.toNat a1.2.1)) r23.1, r31, r1.2.2.2.2.2), r32, 0)
  else
  (F.spec_l13Answer ((r1.1, r1.2.1, r1.2.2.1, r19, r1.2.2.2.2)) a1.2.1).bind fun r33 =>
  some ((r1.1, r1.2.1, r1.2.2.1, r19, r1.2.2.2.2), r33, 0)
noncomputable def C.spec_Ingress : Con := ⟨[.r (.val y18), .r (.val y22)], .many [y14, y20, (.int .i64)], fun x => F.spec_Ingress x.1 x.2.1⟩
def L.spec_Ingress : Loops := fun _ => none
noncomputable def K.spec_Ingress : Cons := lookK [(26, [], C.spec_HouseOk), (131, [], C.spec_l13Answer), (136, [], C.spec_l12Copy), (148, [], C.spec_FrameOk), (149, [], C.spec_SeatGrant), (150, [], C.spec_SeatData), (151, [], C.spec_EntryOf), (152, [], C.spec_RowPush), (153, [], C.spec_Items)]
theorem run.spec_Ingress : ∀ x, runF tb K.spec_Ingress L.spec_Ingress [] Tryz.f45 C.spec_Ingress x = C.spec_Ingress.fn x := fun x => by kernel_rfl

/-! ### impl.copyConf: function 240 -/
noncomputable def F.impl_copyConf (a0 : DConf) : Option DConf :=
  (F.impl_copyInts a0.2.2.2.1).bind fun r1 =>
  some (a0.1, a0.2.1, a0.2.2.1, r1, a0.2.2.2.2)
noncomputable def C.impl_copyConf : Con := ⟨[.r (.val y0)], .one y8, fun x => F.impl_copyConf x.1⟩
def L.impl_copyConf : Loops := fun _ => none
noncomputable def K.impl_copyConf : Cons := lookK [(280, [], C.impl_copyInts)]
theorem run.impl_copyConf : ∀ x, runF tb K.impl_copyConf L.impl_copyConf [] Tryz.f240 C.impl_copyConf x = C.impl_copyConf.fn x := fun x => by kernel_rfl

/-! ### impl.copySketch: function 184 -/
noncomputable def F.impl_copySketch.s6 : ((List (List Int)) × Int × Int × DSketch × DSketch × Unit) → Option (Lp ((List (List Int)) × Int × Int × DSketch × DSketch × Unit) DSketch) := fun (x3, x4, x5, x6, x7, _) =>
  bif decide (x5 < x4) then
    chk (inb x5 (List.length x3)) <|
    (F.impl_copyInts (List.getD x3 ((Int.toNat x5)) (([] : List Int)))).bind fun r8 =>
    chk (fits (List.length x7.2.2.2.2.2.2.1 + List.length ([r8])) 24) <|
    some (.again (x3, x4, w64 (x5 + 1), x6, (x7.1, x7.2.1, x7.2.2.1, x7.2.2.2.1, x7.2.2.2.2.1, x7.2.2.2.2.2.1, x7.2.2.2.2.2.2.1 ++ ([r8]), x7.2.2.2.2.2.2.2), ()))
  else
    some (.exit (x3, x4, x5, x6, x7, ()))
noncomputable def F.impl_copySketch (a0 : DSketch) : Option DSketch :=
  (F.impl_copyInts a0.2.2.2.2.1).bind fun r1 =>
  (F.impl_copyInts a0.2.2.2.2.2.1).bind fun r2 =>
  afterO (loopO F.impl_copySketch.s6 (a0.2.2.2.2.2.2.1, len a0.2.2.2.2.2.2.1, 0, (0, 0, 0, 0, ([] : List Int), ([] : List Int), ([] : List (List Int)), ()), (a0.1, a0.2.1, a0.2.2.1, a0.2.2.2.1, r1, r2, ([] : List (List Int)), a0.2.2.2.2.2.2.2), ())) fun (x9, x10, x11, x12, x13, _) =>
  some x13
noncomputable def C.impl_copySketch : Con := ⟨[.r (.val y3)], .one y10, fun x => F.impl_copySketch x.1⟩
def L.impl_copySketch : Loops := lookL [(6, ⟨[.pat 17 (.val (.sl false 26 (.sl false 3 (.int .i64)))), .pat 18 (.val (.int .i64)), .pat 19 (.val (.int .i64)), .root 2 true y10 [2], .root 3 true y10 [3]], 0⟩)]
noncomputable def K.impl_copySketch : Cons := lookK [(280, [], C.impl_copyInts)]
theorem run.impl_copySketch : ∀ x, runF tb K.impl_copySketch L.impl_copySketch [] Tryz.f184 C.impl_copySketch x = C.impl_copySketch.fn x := fun x => by kernel_rfl

/-! ### impl.copyEntry: function 71 -/
noncomputable def F.impl_copyEntry (a0 : DEntry) : Option DEntry :=
  (F.impl_copySet a0.2.2.1).bind fun r1 =>
  (F.impl_copySketch a0.2.2.2.1).bind fun r2 =>
  some (a0.1, a0.2.1, r1, r2, a0.2.2.2.2)
noncomputable def C.impl_copyEntry : Con := ⟨[.r (.val y16)], .one y11, fun x => F.impl_copyEntry x.1⟩
def L.impl_copyEntry : Loops := fun _ => none
noncomputable def K.impl_copyEntry : Cons := lookK [(132, [], C.impl_copySet), (184, [], C.impl_copySketch)]
theorem run.impl_copyEntry : ∀ x, runF tb K.impl_copyEntry L.impl_copyEntry [] Tryz.f71 C.impl_copyEntry x = C.impl_copyEntry.fn x := fun x => by kernel_rfl

/-! ### impl.copyEntries: function 61 -/
noncomputable def F.impl_copyEntries.s3 : ((List DEntry) × (List DEntry) × Int × Int × Unit) → Option (Lp ((List DEntry) × (List DEntry) × Int × Int × Unit) ((List DEntry))) := fun (x1, x2, x3, x4, _) =>
  bif decide (x4 < x3) then
    chk (inb x4 (List.length x2)) <|
    (F.impl_copyEntry (List.getD x2 ((Int.toNat x4)) ((0, 0, ([] : List DSpan), (0, 0, 0, 0, ([] : List Int), ([] : List Int), ([] : List (List Int)), ()), ())))).bind fun r5 =>
    chk (fits (List.length x1 + List.length ([r5])) 144) <|
    some (.again (x1 ++ ([r5]), x2, x3, w64 (x4 + 1), ()))
  else
    some (.exit (x1, x2, x3, x4, ()))
noncomputable def F.impl_copyEntries (a0 : List DEntry) : Option ((List DEntry)) :=
  afterO (loopO F.impl_copyEntries.s3 (([] : List DEntry), a0, len a0, 0, ())) fun (x6, x7, x8, x9, _) =>
  some x6
noncomputable def C.impl_copyEntries : Con := ⟨[.r (.val (.sl false 31 y16))], .one (.sl true 31 y11), fun x => F.impl_copyEntries x.1⟩
def L.impl_copyEntries : Loops := lookL [(3, ⟨[.own 3 (.sl true 31 y11), .pat 6 (.val (.sl false 31 y16)), .pat 7 (.val (.int .i64)), .pat 8 (.val (.int .i64))], 0⟩)]
noncomputable def K.impl_copyEntries : Cons := lookK [(71, [], C.impl_copyEntry)]
theorem run.impl_copyEntries : ∀ x, runF tb K.impl_copyEntries L.impl_copyEntries [] Tryz.f61 C.impl_copyEntries x = C.impl_copyEntries.fn x := fun x => by kernel_rfl

/-! ### impl.copyOuts: function 241 -/
noncomputable def F.impl_copyOuts.s3 : ((List DOut) × (List DOut) × Int × Int × Unit) → Option (Lp ((List DOut) × (List DOut) × Int × Int × Unit) ((List DOut))) := fun (x1, x2, x3, x4, _) =>
  bif decide (x4 < x3) then
    chk (inb x4 (List.length x2)) <|
    (F.impl_copyEntry (((List.getD x2 ((Int.toNat x4)) ((0, (0, 0, ([] : List DSpan), (0, 0, 0, 0, ([] : List Int), ([] : List Int), ([] : List (List Int)), ()), ()), ()))).2).1)).bind fun r5 =>
    chk (fits (List.length x1 + List.length ([((List.getD x2 ((Int.toNat x4)) ((0, (0, 0, ([] : List DSpan), (0, 0, 0, 0, ([] : List Int), ([] : List Int), ([] : List (List Int)), ()), ()), ()))).1, r5, ())])) 152) <|
    some (.again (x1 ++ ([((List.getD x2 ((Int.toNat x4)) ((0, (0, 0, ([] : List DSpan), (0, 0, 0, 0, ([] : List Int), ([] : List Int), ([] : List (List Int)), ()), ()), ()))).1, r5, ())]), x2, x3, w64 (x4 + 1), ()))
  else
    some (.exit (x1, x2, x3, x4, ()))
noncomputable def F.impl_copyOuts (a0 : List DOut) : Option ((List DOut)) :=
  afterO (loopO F.impl_copyOuts.s3 (([] : List DOut), a0, len a0, 0, ())) fun (x6, x7, x8, x9, _) =>
  some x6
noncomputable def C.impl_copyOuts : Con := ⟨[.r (.val (.sl false 137 y17))], .one (.sl true 137 y13), fun x => F.impl_copyOuts x.1⟩
def L.impl_copyOuts : Loops := lookL [(3, ⟨[.own 3 (.sl true 137 y13), .pat 6 (.val (.sl false 137 y17)), .pat 7 (.val (.int .i64)), .pat 8 (.val (.int .i64))], 0⟩)]
noncomputable def K.impl_copyOuts : Cons := lookK [(71, [], C.impl_copyEntry)]
theorem run.impl_copyOuts : ∀ x, runF tb K.impl_copyOuts L.impl_copyOuts [] Tryz.f241 C.impl_copyOuts x = C.impl_copyOuts.fn x := fun x => by kernel_rfl

/-! ### impl.copySeat: function 242 -/
noncomputable def F.impl_copySeat (a0 : DSeat) : Option DSeat :=
  (F.impl_copySet a0.2.2.1).bind fun r1 =>
  some (a0.1, a0.2.1, r1, a0.2.2.2)
noncomputable def C.impl_copySeat : Con := ⟨[.r (.val y15)], .one y9, fun x => F.impl_copySeat x.1⟩
def L.impl_copySeat : Loops := fun _ => none
noncomputable def K.impl_copySeat : Cons := lookK [(132, [], C.impl_copySet)]
theorem run.impl_copySeat : ∀ x, runF tb K.impl_copySeat L.impl_copySeat [] Tryz.f242 C.impl_copySeat x = C.impl_copySeat.fn x := fun x => by kernel_rfl

/-! ### impl.copyRow: function 243 -/
noncomputable def F.impl_copyRow (a0 : DRow) : Option DRow :=
  (F.impl_copyEntries a0.1).bind fun r1 =>
  some (r1, ())
noncomputable def C.impl_copyRow : Con := ⟨[.r (.val (.cons (.sl false 31 y16) .nil))], .one (.cons (.sl true 31 y11) .nil), fun x => F.impl_copyRow x.1⟩
def L.impl_copyRow : Loops := fun _ => none
noncomputable def K.impl_copyRow : Cons := lookK [(61, [], C.impl_copyEntries)]
theorem run.impl_copyRow : ∀ x, runF tb K.impl_copyRow L.impl_copyRow [] Tryz.f243 C.impl_copyRow x = C.impl_copyRow.fn x := fun x => by kernel_rfl

/-! ### impl.copyTurn: function 244 -/
noncomputable def F.impl_copyTurn (a0 : DTurn) : Option DTurn :=
  (F.impl_copyInts a0.2.2.1).bind fun r1 =>
  some (a0.1, a0.2.1, r1, a0.2.2.2)
noncomputable def C.impl_copyTurn : Con := ⟨[.r (.val y5)], .one y12, fun x => F.impl_copyTurn x.1⟩
def L.impl_copyTurn : Loops := fun _ => none
noncomputable def K.impl_copyTurn : Cons := lookK [(280, [], C.impl_copyInts)]
theorem run.impl_copyTurn : ∀ x, runF tb K.impl_copyTurn L.impl_copyTurn [] Tryz.f244 C.impl_copyTurn x = C.impl_copyTurn.fn x := fun x => by kernel_rfl

/-! ### impl.copyHouse: function 138 -/
noncomputable def F.impl_copyHouse.s3 : ((List DSeat) × Int × Int × DHouse × DHouse × DHouse × Unit) → Option (Lp ((List DSeat) × Int × Int × DHouse × DHouse × DHouse × Unit) DHouse) := fun (x4, x5, x6, x7, x8, x9, _) =>
  bif decide (x6 < x5) then
    chk (inb x6 (List.length x4)) <|
    (F.impl_copySeat (List.getD x4 ((Int.toNat x6)) ((0, 0, ([] : List DSpan), 0, 0, ())))).bind fun r10 =>
    chk (fits (List.length x9.2.2.2.1 + List.length ([r10])) 56) <|
    some (.again (x4, x5, w64 (x6 + 1), x7, x8, (x9.1, x9.2.1, x9.2.2.1, x9.2.2.2.1 ++ ([r10]), x9.2.2.2.2), ()))
  else
    some (.exit (x4, x5, x6, x7, x8, x9, ()))
noncomputable def F.impl_copyHouse.s12 : ((List DRow) × (List (List DRow)) × Int × Int × (List DRow) × Int × Int × DHouse × DHouse × DHouse × Unit) → Option (Lp ((List DRow) × (List (List DRow)) × Int × Int × (List DRow) × Int × Int × DHouse × DHouse × DHouse × Unit) (Lp ((List (List DRow)) × Int × Int × DHouse × DHouse × DHouse × Unit) DHouse)) := fun (x23, x24, x25, x26, x27, x28, x29, x30, x31, x32, _) =>
  bif decide (x29 < x28) then
    chk (inb x29 (List.length x27)) <|
    (F.impl_copyRow (List.getD x27 ((Int.toNat x29)) ((([] : List DEntry), ())))).bind fun r33 =>
    chk (fits (List.length x23 + List.length ([r33])) 24) <|
    some (.again (x23 ++ ([r33]), x24, x25, x26, x27, x28, w64 (x29 + 1), x30, x31, x32, ()))
  else
    some (.exit (x23, x24, x25, x26, x27, x28, x29, x30, x31, x32, ()))
noncomputable def F.impl_copyHouse.s8 : ((List (List DRow)) × Int × Int × DHouse × DHouse × DHouse × Unit) → Option (Lp ((List (List DRow)) × Int × Int × DHouse × DHouse × DHouse × Unit) DHouse) := fun (x17, x18, x19, x20, x21, x22, _) =>
  bif decide (x19 < x18) then
    chk (inb x19 (List.length x17)) <|
    afterO (loopO F.impl_copyHouse.s12 (([] : List DRow), x17, x18, x19, List.getD x17 ((Int.toNat x19)) (([] : List DRow)), len (List.getD x17 ((Int.toNat x19)) (([] : List DRow))), 0, x20, x21, x22, ())) fun (x34, x35, x36, x37, x38, x39, x40, x41, x42, x43, _) =>
    chk (fits (List.length x43.2.2.2.2.1 + List.length ([x34])) 24) <|
    some (.again (x35, x36, w64 (x37 + 1), x41, x42, (x43.1, x43.2.1, x43.2.2.1, x43.2.2.2.1, x43.2.2.2.2.1 ++ ([x34]), x43.2.2.2.2.2), ()))
  else
    some (.exit (x17, x18, x19, x20, x21, x22, ()))
noncomputable def F.impl_copyHouse.s19 : ((List DTurn) × Int × Int × DHouse × DHouse × Unit) → Option (Lp ((List DTurn) × Int × Int × DHouse × DHouse × Unit) DHouse) := fun (x50, x51, x52, x53, x54, _) =>
  bif decide (x52 < x51) then
    chk (inb x52 (List.length x50)) <|
    (F.impl_copyTurn (List.getD x50 ((Int.toNat x52)) ((0, false, ([] : List Int), ())))).bind fun r55 =>
    chk (fits (List.length x54.2.2.2.2.2.1 + List.length ([r55])) 40) <|
    some (.again (x50, x51, w64 (x52 + 1), x53, (x54.1, x54.2.1, x54.2.2.1, x54.2.2.2.1, x54.2.2.2.2.1, x54.2.2.2.2.2.1 ++ ([r55]), x54.2.2.2.2.2.2), ()))
  else
    some (.exit (x50, x51, x52, x53, x54, ()))
noncomputable def F.impl_copyHouse (a0 : DHouse) : Option DHouse :=
  (F.impl_copyConf a0.1).bind fun r1 =>
  (F.impl_copyEntries a0.2.2.2.2.2.2.2.1).bind fun r2 =>
  (F.impl_copyOuts a0.2.2.2.2.2.2.2.2.1).bind fun r3 =>
  afterO (loopO F.impl_copyHouse.s3 (a0.2.2.2.1, len a0.2.2.2.1, 0, a0, ((0, 0, 0, ([] : List Int), 0, 0, 0, 0, ()), 0, false, ([] : List DSeat), ([] : List (List DRow)), ([] : List DTurn), 0, ([] : List DEntry), ([] : List DOut), ()), (r1, a0.2.1, a0.2.2.1, ([] : List DSeat), ([] : List (List DRow)), ([] : List DTurn), a0.2.2.2.2.2.2.1, r2, r3, ()), ())) fun (x11, x12, x13, x14, x15, x16, _) =>
  afterO (loopO F.impl_copyHouse.s8 (x14.2.2.2.2.1, len x14.2.2.2.2.1, 0, x14, x15, x16, ())) fun (x44, x45, x46, x47, x48, x49, _) =>
  afterO (loopO F.impl_copyHouse.s19 (x47.2.2.2.2.2.1, len x47.2.2.2.2.2.1, 0, x48, x49, ())) fun (x56, x57, x58, x59, x60, _) =>
  some x60
noncomputable def C.impl_copyHouse : Con := ⟨[.r (.val y18)], .one y14, fun x => F.impl_copyHouse x.1⟩
def L.impl_copyHouse : Loops := lookL [(3, ⟨[.pat 30 (.val (.sl false 139 y15)), .pat 31 (.val (.int .i64)), .pat 32 (.val (.int .i64)), .root 1 true y18 [1], .root 2 true y14 [2], .root 3 true y14 [3]], 0⟩), (12, ⟨[.own 8 (.sl true 105 (.cons (.sl true 31 y11) .nil)), .pat 45 (.val (.sl false 159 (.sl false 105 (.cons (.sl false 31 y16) .nil)))), .pat 46 (.val (.int .i64)), .pat 47 (.val (.int .i64)), .pat 51 (.val (.sl false 105 (.cons (.sl false 31 y16) .nil))), .pat 52 (.val (.int .i64)), .pat 53 (.val (.int .i64)), .root 1 true y18 [1], .root 2 true y14 [2], .root 3 true y14 [3]], 4⟩), (8, ⟨[.pat 45 (.val (.sl false 159 (.sl false 105 (.cons (.sl false 31 y16) .nil)))), .pat 46 (.val (.int .i64)), .pat 47 (.val (.int .i64)), .root 1 true y18 [1], .root 2 true y14 [2], .root 3 true y14 [3]], 2⟩), (19, ⟨[.pat 71 (.val (.sl false 175 y5)), .pat 72 (.val (.int .i64)), .pat 73 (.val (.int .i64)), .root 2 true y14 [2], .root 3 true y14 [3]], 6⟩)]
noncomputable def K.impl_copyHouse : Cons := lookK [(61, [], C.impl_copyEntries), (240, [], C.impl_copyConf), (241, [], C.impl_copyOuts), (242, [], C.impl_copySeat), (243, [], C.impl_copyRow), (244, [], C.impl_copyTurn)]
theorem run.impl_copyHouse : ∀ x, runF tb K.impl_copyHouse L.impl_copyHouse [] Tryz.f138 C.impl_copyHouse x = C.impl_copyHouse.fn x := fun x => by kernel_rfl

/-! ### impl.ItemOk: function 255 -/
noncomputable def F.impl_ItemOk (a0 : DItem) : Option Bool :=
  (F.impl_within a0.1 1 60).bind fun r1 =>
  bif r1 then
    (F.impl_within a0.2.1 0 1).bind fun r2 =>
    bif r2 then
      (F.impl_within a0.2.2.1 0 4).bind fun r3 =>
      bif r3 then
        (F.impl_within a0.2.2.2.1 0 20).bind fun r4 =>
        bif r4 then
          (F.impl_SketchOk a0.2.2.2.2.1).bind fun r5 =>
          some r5
        else
          some false
      else
        some false
    else
      some false
  else
    some false
noncomputable def C.impl_ItemOk : Con := ⟨[.r (.val y21)], .one .bool, fun x => F.impl_ItemOk x.1⟩
def L.impl_ItemOk : Loops := fun _ => none
noncomputable def K.impl_ItemOk : Cons := lookK [(123, [], C.impl_within), (177, [], C.impl_SketchOk)]
theorem run.impl_ItemOk : ∀ x, runF tb K.impl_ItemOk L.impl_ItemOk [] Tryz.f255 C.impl_ItemOk x = C.impl_ItemOk.fn x := fun x => by kernel_rfl

/-! ### slices.Equal[[]int,int]: function 319 -/
noncomputable def F.slices_Equal_int.s4 : ((List Int) × (List Int) × Int × Int × Unit) → Option (Lp ((List Int) × (List Int) × Int × Int × Unit) Bool) := fun (x1, x2, x3, x4, _) =>
  bif decide (x4 < x3) then
    chk (inb x4 (List.length x1)) <|
    chk (inb x4 (List.length x2)) <|
    bif (List.getD x1 ((Int.toNat x4)) 0) != (List.getD x2 ((Int.toNat x4)) 0) then
      some (.ret false)
    else
      some (.again (x1, x2, x3, w64 (x4 + 1), ()))
  else
    some (.exit (x1, x2, x3, x4, ()))
noncomputable def F.slices_Equal_int (a0 : List Int) (a1 : List Int) : Option Bool :=
  bif (len a0) != (len a1) then
    some false
  else
  afterO (loopO F.slices_Equal_int.s4 (a0, a1, len a0, 0, ())) fun (x5, x6, x7, x8, _) =>
  some true
noncomputable def C.slices_Equal_int : Con := ⟨[.r (.val (.sl false 3 (.int .i64))), .r (.val (.sl false 3 (.int .i64)))], .one .bool, fun x => F.slices_Equal_int x.1 x.2.1⟩
def L.slices_Equal_int : Loops := lookL [(4, ⟨[.pat 0 (.val (.sl false 3 (.int .i64))), .pat 1 (.val (.sl false 3 (.int .i64))), .pat 12 (.val (.int .i64)), .pat 13 (.val (.int .i64))], 0⟩)]
noncomputable def K.slices_Equal_int : Cons := lookK []
theorem run.slices_Equal_int : ∀ x, runF tb K.slices_Equal_int L.slices_Equal_int [] Tryz.f319 C.slices_Equal_int x = C.slices_Equal_int.fn x := fun x => by kernel_rfl

/-! ### slices.EqualFunc[[][]int,[][]int,[]int,[]int]: function 320 -/
noncomputable def F.slices_EqualFunc_SSint__slices_Equal_int.s4 : ((List (List Int)) × Unit × (List (List Int)) × Int × Int × Unit) → Option (Lp ((List (List Int)) × Unit × (List (List Int)) × Int × Int × Unit) Bool) := fun (x1, x2, x3, x4, x5, _) =>
  bif decide (x5 < x4) then
    chk (inb x5 (List.length x3)) <|
    chk (inb x5 (List.length x1)) <|
    (F.slices_Equal_int (List.getD x3 ((Int.toNat x5)) (([] : List Int))) (List.getD x1 ((Int.toNat x5)) (([] : List Int)))).bind fun r6 =>
    bif !r6 then
      some (.ret false)
    else
      some (.again (x1, (), x3, x4, w64 (x5 + 1), ()))
  else
    some (.exit (x1, (), x3, x4, x5, ()))
noncomputable def F.slices_EqualFunc_SSint__slices_Equal_int (a0 : List (List Int)) (a1 : List (List Int)) (a2 : Unit) : Option Bool :=
  bif (len a0) != (len a1) then
    some false
  else
  afterO (loopO F.slices_EqualFunc_SSint__slices_Equal_int.s4 (a1, (), a0, len a0, 0, ())) fun (x7, x8, x9, x10, x11, _) =>
  some true
noncomputable def C.slices_EqualFunc_SSint__slices_Equal_int : Con := ⟨[.r (.val (.sl false 26 (.sl false 3 (.int .i64)))), .r (.val (.sl false 26 (.sl false 3 (.int .i64)))), .r (.fn 319 .nil)], .one .bool, fun x => F.slices_EqualFunc_SSint__slices_Equal_int x.1 x.2.1 x.2.2.1⟩
def L.slices_EqualFunc_SSint__slices_Equal_int : Loops := lookL [(4, ⟨[.pat 1 (.val (.sl false 26 (.sl false 3 (.int .i64)))), .pat 2 (.fn 319 .nil), .pat 15 (.val (.sl false 26 (.sl false 3 (.int .i64)))), .pat 16 (.val (.int .i64)), .pat 17 (.val (.int .i64))], 0⟩)]
noncomputable def K.slices_EqualFunc_SSint__slices_Equal_int : Cons := lookK [(319, [], C.slices_Equal_int)]
theorem run.slices_EqualFunc_SSint__slices_Equal_int : ∀ x, runF tb K.slices_EqualFunc_SSint__slices_Equal_int L.slices_EqualFunc_SSint__slices_Equal_int [] Tryz.f320 C.slices_EqualFunc_SSint__slices_Equal_int x = C.slices_EqualFunc_SSint__slices_Equal_int.fn x := fun x => by kernel_rfl

/-! ### impl.SketchSame: function 295 -/
noncomputable def F.impl_SketchSame (a0 : DSketch) (a1 : DSketch) : Option Bool :=
  bif a0.1 == a1.1 then
    bif a0.2.1 == a1.2.1 then
      bif a0.2.2.1 == a1.2.2.1 then
        bif a0.2.2.2.1 == a1.2.2.2.1 then
          (F.slices_Equal_int a0.2.2.2.2.1 a1.2.2.2.2.1).bind fun r1 =>
          bif r1 then
            (F.slices_Equal_int a0.2.2.2.2.2.1 a1.2.2.2.2.2.1).bind fun r2 =>
            bif r2 then
              (F.slices_EqualFunc_SSint__slices_Equal_int a0.2.2.2.2.2.2.1 a1.2.2.2.2.2.2.1 (())).bind fun r3 =>
              some r3
            else
              some false
          else
            some false
        else
          some false
      else
        some false
    else
      some false
  else
    some false
noncomputable def C.impl_SketchSame : Con := ⟨[.r (.val y3), .r (.val y3)], .one .bool, fun x => F.impl_SketchSame x.1 x.2.1⟩
def L.impl_SketchSame : Loops := fun _ => none
noncomputable def K.impl_SketchSame : Cons := lookK [(319, [], C.slices_Equal_int), (320, [319], C.slices_EqualFunc_SSint__slices_Equal_int)]
theorem run.impl_SketchSame : ∀ x, runF tb K.impl_SketchSame L.impl_SketchSame [] Tryz.f295 C.impl_SketchSame x = C.impl_SketchSame.fn x := fun x => by kernel_rfl

/-! ### impl.itemSame: function 256 -/
noncomputable def F.impl_itemSame (a0 : DItem) (a1 : DItem) : Option Bool :=
  bif a0.1 == a1.1 then
    bif a0.2.1 == a1.2.1 then
      bif a0.2.2.1 == a1.2.2.1 then
        bif a0.2.2.2.1 == a1.2.2.2.1 then
          (F.impl_SketchSame a0.2.2.2.2.1 a1.2.2.2.2.1).bind fun r1 =>
          some r1
        else
          some false
      else
        some false
    else
      some false
  else
    some false
noncomputable def C.impl_itemSame : Con := ⟨[.r (.val y21), .r (.val y21)], .one .bool, fun x => F.impl_itemSame x.1 x.2.1⟩
def L.impl_itemSame : Loops := fun _ => none
noncomputable def K.impl_itemSame : Cons := lookK [(295, [], C.impl_SketchSame)]
theorem run.impl_itemSame : ∀ x, runF tb K.impl_itemSame L.impl_itemSame [] Tryz.f256 C.impl_itemSame x = C.impl_itemSame.fn x := fun x => by kernel_rfl

/-! ### impl.FrameOk: function 155 -/
noncomputable def F.impl_FrameOk (a0 : DFrame) : Option Bool :=
  (F.impl_within a0.1 0 3).bind fun r1 =>
  bif !r1 then
    some false
  else
  (F.impl_within a0.2.1 0 2).bind fun r2 =>
  bif !r2 then
    some false
  else
  (F.impl_within a0.2.2.1 0 1000).bind fun r3 =>
  bif !r3 then
    some false
  else
  (F.impl_within a0.2.2.2.1 0 60).bind fun r4 =>
  bif !r4 then
    some false
  else
  (F.impl_allIn a0.2.2.2.2.1 1 60).bind fun r5 =>
  bif !r5 then
    some false
  else
  bif a0.1 == 1 then
    (F.impl_ItemOk a0.2.2.2.2.2.1).bind fun r6 =>
    some r6
  else
  (F.impl_itemSame a0.2.2.2.2.2.1 ((0, 0, 0, 0, (0, 0, 0, 0, ([] : List Int), ([] : List Int), ([] : List (List Int)), ()), ()))).bind fun r7 =>
  some r7
noncomputable def C.impl_FrameOk : Con := ⟨[.r (.val y22)], .one .bool, fun x => F.impl_FrameOk x.1⟩
def L.impl_FrameOk : Loops := fun _ => none
noncomputable def K.impl_FrameOk : Cons := lookK [(123, [], C.impl_within), (218, [], C.impl_allIn), (255, [], C.impl_ItemOk), (256, [], C.impl_itemSame)]
theorem run.impl_FrameOk : ∀ x, runF tb K.impl_FrameOk L.impl_FrameOk [] Tryz.f155 C.impl_FrameOk x = C.impl_FrameOk.fn x := fun x => by kernel_rfl

/-! ### impl.SeatGrant: function 156 -/
noncomputable def F.impl_SeatGrant (a0 : DSeat) (a1 : Int) : Option DSeat :=
  (F.impl_copySeat a0).bind fun r1 =>
  (F.impl_SeatOk a0 a1).bind fun r2 =>
  bif r2 then
    some (r1.1, mnI 60 (w64 (a0.2.2.2.1 + a1)), r1.2.2)
  else
    some r1
noncomputable def C.impl_SeatGrant : Con := ⟨[.r (.val y15), .r (.val (.int .i64))], .one y9, fun x => F.impl_SeatGrant x.1 x.2.1⟩
def L.impl_SeatGrant : Loops := fun _ => none
noncomputable def K.impl_SeatGrant : Cons := lookK [(216, [], C.impl_SeatOk), (242, [], C.impl_copySeat)]
theorem run.impl_SeatGrant : ∀ x, runF tb K.impl_SeatGrant L.impl_SeatGrant [] Tryz.f156 C.impl_SeatGrant x = C.impl_SeatGrant.fn x := fun x => by kernel_rfl

/-! ### impl.SetAdd: function 257 -/
noncomputable def F.impl_SetAdd (a0 : List DSpan) (a1 : Int) : Option ((List DSpan) × Bool) :=
  (F.impl_SetOk a0).bind fun r1 =>
  bif !r1 then
    (F.impl_copySet a0).bind fun r2 =>
    some (r2, false)
  else
  (F.impl_within a1 0 9999).bind fun r3 =>
  bif !r3 then
    (F.impl_copySet a0).bind fun r4 =>
    some (r4, false)
  else
  (F.impl_SetHas a0 a1).bind fun r5 =>
  bif r5 then
    (F.impl_copySet a0).bind fun r6 =>
    some (r6, false)
  else
  (F.impl_copySet a0).bind fun r7 =>
  chk (fits (List.length r7 + List.length ([(a1, a1, ())])) 16) <|
  (F.impl_union (r7 ++ ([(a1, a1, ())]))).bind fun r8 =>
  some (r8, true)
noncomputable def C.impl_SetAdd : Con := ⟨[.r (.val (.sl false 150 y1)), .r (.val (.int .i64))], .many [(.sl true 150 y1), .bool], fun x => F.impl_SetAdd x.1 x.2.1⟩
def L.impl_SetAdd : Loops := fun _ => none
noncomputable def K.impl_SetAdd : Cons := lookK [(111, [], C.impl_SetHas), (114, [], C.impl_union), (123, [], C.impl_within), (132, [], C.impl_copySet), (176, [], C.impl_SetOk)]
theorem run.impl_SetAdd : ∀ x, runF tb K.impl_SetAdd L.impl_SetAdd [] Tryz.f257 C.impl_SetAdd x = C.impl_SetAdd.fn x := fun x => by kernel_rfl

/-! ### impl.SeatData: function 157 -/
noncomputable def F.impl_SeatData (a0 : DSeat) (a1 : Int) (a2 : Int) (a3 : Int) : Option (DSeat × Int) :=
  (F.impl_copySeat a0).bind fun r1 =>
  (F.impl_SeatOk a0 a1).bind fun r2 =>
  bif !r2 then
    some (r1, 4)
  else
  (F.impl_within a3 1 60).bind fun r3 =>
  bif !r3 then
    some (r1, 4)
  else
  bif a2 != a0.1 then
    some (r1, 2)
  else
  (F.impl_SetHas a0.2.2.1 a3).bind fun r4 =>
  bif r4 then
    some (r1, 1)
  else
  bif decide (a3 > a0.2.1) then
    some (r1, 3)
  else
  (F.impl_SetAdd a0.2.2.1 a3).bind fun r5 =>
  some ((r1.1, r1.2.1, r5.1, r1.2.2.2), 0)
noncomputable def C.impl_SeatData : Con := ⟨[.r (.val y15), .r (.val (.int .i64)), .r (.val (.int .i64)), .r (.val (.int .i64))], .many [y9, (.int .i64)], fun x => F.impl_SeatData x.1 x.2.1 x.2.2.1 x.2.2.2.1⟩
def L.impl_SeatData : Loops := fun _ => none
noncomputable def K.impl_SeatData : Cons := lookK [(111, [], C.impl_SetHas), (123, [], C.impl_within), (216, [], C.impl_SeatOk), (242, [], C.impl_copySeat), (257, [], C.impl_SetAdd)]
theorem run.impl_SeatData : ∀ x, runF tb K.impl_SeatData L.impl_SeatData [] Tryz.f157 C.impl_SeatData x = C.impl_SeatData.fn x := fun x => by kernel_rfl

/-! ### impl.EntryOf: function 158 -/
noncomputable def F.impl_EntryOf (a0 : Int) (a1 : DItem) : Option (DEntry × Bool) :=
  (F.impl_IdOf a0 a1.1).bind fun r1 =>
  (F.impl_ItemOk a1).bind fun r2 =>
  bif !r2 then
    some ((0, 0, ([] : List DSpan), (0, 0, 0, 0, ([] : List Int), ([] : List Int), ([] : List (List Int)), ()), ()), false)
  else
  bif decide (r1 < 0) then
    some ((0, 0, ([] : List DSpan), (0, 0, 0, 0, ([] : List Int), ([] : List Int), ([] : List (List Int)), ()), ()), false)
  else
  (F.impl_copySketch a1.2.2.2.2.1).bind fun r3 =>
  some ((a1.2.2.1, a1.2.2.2.1, [(r1, r1, ())], r3, ()), true)
noncomputable def C.impl_EntryOf : Con := ⟨[.r (.val (.int .i64)), .r (.val y21)], .many [y11, .bool], fun x => F.impl_EntryOf x.1 x.2.1⟩
def L.impl_EntryOf : Loops := fun _ => none
noncomputable def K.impl_EntryOf : Cons := lookK [(112, [], C.impl_IdOf), (184, [], C.impl_copySketch), (255, [], C.impl_ItemOk)]
theorem run.impl_EntryOf : ∀ x, runF tb K.impl_EntryOf L.impl_EntryOf [] Tryz.f158 C.impl_EntryOf x = C.impl_EntryOf.fn x := fun x => by kernel_rfl

/-! ### impl.Items: function 139 -/
noncomputable def F.impl_Items (a0 : DHouse) : Option Int :=
  (F.impl_rowEntries a0).bind fun r1 =>
  some (len r1)
noncomputable def C.impl_Items : Con := ⟨[.r (.val y18)], .one (.int .i64), fun x => F.impl_Items x.1⟩
def L.impl_Items : Loops := fun _ => none
noncomputable def K.impl_Items : Cons := lookK [(108, [], C.impl_rowEntries)]
theorem run.impl_Items : ∀ x, runF tb K.impl_Items L.impl_Items [] Tryz.f139 C.impl_Items x = C.impl_Items.fn x := fun x => by kernel_rfl

/-! ### impl.placeOf$1: function 178 -/
noncomputable def F.impl_placeOf_1 (a0 : DEntry) (a1 : Int) (a2 : Int) : Option Bool :=
  bif a0.1 == a1 then
    some (a0.2.1 == a2)
  else
    some false
noncomputable def C.impl_placeOf_1 : Con := ⟨[.r (.val y16), .r (.sptr (.int .i64)), .r (.sptr (.int .i64))], .one .bool, fun x => F.impl_placeOf_1 x.1 x.2.1 x.2.2.1⟩
def L.impl_placeOf_1 : Loops := fun _ => none
noncomputable def K.impl_placeOf_1 : Cons := lookK []
theorem run.impl_placeOf_1 : ∀ x, runF tb K.impl_placeOf_1 L.impl_placeOf_1 [] Tryz.f178 C.impl_placeOf_1 x = C.impl_placeOf_1.fn x := fun x => by kernel_rfl

/-! ### slices.IndexFunc[[]impl.Entry,impl.Entry]: function 67 -/
noncomputable def F.slices_IndexFunc_Entry__impl_placeOf_1.s2 : ((List DEntry) × (Int × Int × Unit) × Int × Int × Unit) → Option (Lp ((List DEntry) × (Int × Int × Unit) × Int × Int × Unit) Int) := fun (x1, x2, x3, x4, _) =>
  bif decide (x4 < x3) then
    chk (inb x4 (List.length x1)) <|
    (F.impl_placeOf_1 (List.getD x1 ((Int.toNat x4)) ((0, 0, ([] : List DSpan), (0, 0, 0, 0, ([] : List Int), ([] : List Int), ([] : List (List Int)), ()), ()))) x2.1 x2.2.1).bind fun r5 =>
    bif r5 then
      some (.ret x4)
    else
      some (.again (x1, (x2.1, x2.2.1, ()), x3, w64 (x4 + 1), ()))
  else
    some (.exit (x1, (x2.1, x2.2.1, ()), x3, x4, ()))
noncomputable def F.slices_IndexFunc_Entry__impl_placeOf_1 (a0 : List DEntry) (a1 : Int × Int × Unit) : Option Int :=
  afterO (loopO F.slices_IndexFunc_Entry__impl_placeOf_1.s2 (a0, (a1.1, a1.2.1, ()), len a0, 0, ())) fun (x6, x7, x8, x9, _) =>
  some (-1)
noncomputable def C.slices_IndexFunc_Entry__impl_placeOf_1 : Con := ⟨[.r (.val (.sl false 31 y16)), .r (.fn 178 (.cons (.sptr (.int .i64)) (.cons (.sptr (.int .i64)) .nil)))], .one (.int .i64), fun x => F.slices_IndexFunc_Entry__impl_placeOf_1 x.1 x.2.1⟩
def L.slices_IndexFunc_Entry__impl_placeOf_1 : Loops := lookL [(2, ⟨[.pat 0 (.val (.sl false 31 y16)), .pat 1 (.fn 178 (.cons (.sptr (.int .i64)) (.cons (.sptr (.int .i64)) .nil))), .pat 7 (.val (.int .i64)), .pat 8 (.val (.int .i64))], 0⟩)]
noncomputable def K.slices_IndexFunc_Entry__impl_placeOf_1 : Cons := lookK [(178, [], C.impl_placeOf_1)]
theorem run.slices_IndexFunc_Entry__impl_placeOf_1 : ∀ x, runF tb K.slices_IndexFunc_Entry__impl_placeOf_1 L.slices_IndexFunc_Entry__impl_placeOf_1 [] Tryz.f67 C.slices_IndexFunc_Entry__impl_placeOf_1 x = C.slices_IndexFunc_Entry__impl_placeOf_1.fn x := fun x => by kernel_rfl

/-! ### impl.placeOf: function 65 -/
noncomputable def F.impl_placeOf (a0 : List DEntry) (a1 : Int) (a2 : Int) : Option Int :=
  (F.slices_IndexFunc_Entry__impl_placeOf_1 a0 ((a1, a2, ()))).bind fun r1 =>
  some r1
noncomputable def C.impl_placeOf : Con := ⟨[.r (.val (.sl false 31 y16)), .r (.val (.int .i64)), .r (.val (.int .i64))], .one (.int .i64), fun x => F.impl_placeOf x.1 x.2.1 x.2.2.1⟩
def L.impl_placeOf : Loops := fun _ => none
noncomputable def K.impl_placeOf : Cons := lookK [(67, [178], C.slices_IndexFunc_Entry__impl_placeOf_1)]
theorem run.impl_placeOf : ∀ x, runF tb K.impl_placeOf L.impl_placeOf [] Tryz.f65 C.impl_placeOf x = C.impl_placeOf.fn x := fun x => by kernel_rfl

/-! ### impl.SetJoin: function 180 -/
noncomputable def F.impl_SetJoin (a0 : List DSpan) (a1 : List DSpan) : Option ((List DSpan) × Bool) :=
  (F.impl_SetOk a0).bind fun r1 =>
  bif !r1 then
    some (([] : List DSpan), false)
  else
  (F.impl_SetOk a1).bind fun r2 =>
  bif !r2 then
    some (([] : List DSpan), false)
  else
  (F.impl_copySet a0).bind fun r3 =>
  chk (fits (List.length r3 + List.length a1) 16) <|
  (F.impl_union (r3 ++ a1)).bind fun r4 =>
  some (r4, true)
noncomputable def C.impl_SetJoin : Con := ⟨[.r (.val (.sl false 150 y1)), .r (.val (.sl false 150 y1))], .many [(.sl true 150 y1), .bool], fun x => F.impl_SetJoin x.1 x.2.1⟩
def L.impl_SetJoin : Loops := fun _ => none
noncomputable def K.impl_SetJoin : Cons := lookK [(114, [], C.impl_union), (132, [], C.impl_copySet), (176, [], C.impl_SetOk)]
theorem run.impl_SetJoin : ∀ x, runF tb K.impl_SetJoin L.impl_SetJoin [] Tryz.f180 C.impl_SetJoin x = C.impl_SetJoin.fn x := fun x => by kernel_rfl

/-! ### impl.limited: function 305 -/
noncomputable def F.impl_limited (a0 : Int) (a1 : Int) (a2 : Int) : Option Int :=
  some (mnI (mxI a0 a1) a2)
noncomputable def C.impl_limited : Con := ⟨[.r (.val (.int .i64)), .r (.val (.int .i64)), .r (.val (.int .i64))], .one (.int .i64), fun x => F.impl_limited x.1 x.2.1 x.2.2.1⟩
def L.impl_limited : Loops := fun _ => none
noncomputable def K.impl_limited : Cons := lookK []
theorem run.impl_limited : ∀ x, runF tb K.impl_limited L.impl_limited [] Tryz.f305 C.impl_limited x = C.impl_limited.fn x := fun x => by kernel_rfl

/-! ### impl.Add: function 278 -/
noncomputable def F.impl_Add (a0 : Int) (a1 : Int) : Option Int :=
  (F.impl_limited a0 0 1000000000).bind fun r1 =>
  (F.impl_limited a1 0 1000000000).bind fun r2 =>
  some (mnI (w64 (r1 + r2)) 1000000000)
noncomputable def C.impl_Add : Con := ⟨[.r (.val (.int .i64)), .r (.val (.int .i64))], .one (.int .i64), fun x => F.impl_Add x.1 x.2.1⟩
def L.impl_Add : Loops := fun _ => none
noncomputable def K.impl_Add : Cons := lookK [(305, [], C.impl_limited)]
theorem run.impl_Add : ∀ x, runF tb K.impl_Add L.impl_Add [] Tryz.f278 C.impl_Add x = C.impl_Add.fn x := fun x => by kernel_rfl

/-! ### impl.Merge: function 181 -/
noncomputable def F.impl_Merge.s10 : ((List Int) × Int × Int × DSketch × DSketch × DSketch × Unit) → Option (Lp ((List Int) × Int × Int × DSketch × DSketch × DSketch × Unit) (DSketch × Bool)) := fun (x6, x7, x8, x9, x10, x11, _) =>
  bif decide (x8 < x7) then
    chk (inb x8 (List.length x6)) <|
    chk (inb x8 (List.length x11.2.2.2.2.1)) <|
    (F.impl_Add (List.getD x11.2.2.2.2.1 ((Int.toNat x8)) 0) (List.getD x6 ((Int.toNat x8)) 0)).bind fun r12 =>
    chk (inb x8 (List.length x11.2.2.2.2.1)) <|
    some (.again (x6, x7, w64 (x8 + 1), x9, x10, (x11.1, x11.2.1, x11.2.2.1, x11.2.2.2.1, List.set x11.2.2.2.2.1 ((Int.toNat x8)) r12, x11.2.2.2.2.2), ()))
  else
    some (.exit (x6, x7, x8, x9, x10, x11, ()))
noncomputable def F.impl_Merge.s15 : ((List Int) × Int × Int × DSketch × DSketch × DSketch × Unit) → Option (Lp ((List Int) × Int × Int × DSketch × DSketch × DSketch × Unit) (DSketch × Bool)) := fun (x19, x20, x21, x22, x23, x24, _) =>
  bif decide (x21 < x20) then
    chk (inb x21 (List.length x19)) <|
    chk (inb x21 (List.length x24.2.2.2.2.2.1)) <|
    chk (inb x21 (List.length x24.2.2.2.2.2.1)) <|
    (some (List.set x24.2.2.2.2.2.1 ((Int.toNat x21)) (mxI (List.getD x24.2.2.2.2.2.1 ((Int.toNat x21)) 0) (List.getD x19 ((Int.toNat x21)) 0)))).bind fun r25 =>
    some (.again (x19, x20, w64 (x21 + 1), x22, x23, (x24.1, x24.2.1, x24.2.2.1, x24.2.2.2.1, x24.2.2.2.2.1, r25, x24.2.2.2.2.2.2), ()))
  else
    some (.exit (x19, x20, x21, x22, x23, x24, ()))
noncomputable def F.impl_Merge.s23 : (Int × (List (List Int)) × Int × Int × (List Int) × Int × Int × DSketch × DSketch × Unit) → Option (Lp (Int × (List (List Int)) × Int × Int × (List Int) × Int × Int × DSketch × DSketch × Unit) (Lp ((List (List Int)) × Int × Int × DSketch × DSketch × Unit) (DSketch × Bool))) := fun (x37, x38, x39, x40, x41, x42, x43, x44, x45, _) =>
  bif decide (x43 < x42) then
    chk (inb x43 (List.length x41)) <|
    chk (inb x37 (List.length x45.2.2.2.2.2.2.1)) <|
    chk (inb x37 (List.length x45.2.2.2.2.2.2.1)) <|
    chk (inb x43 (List.length (List.getD x45.2.2.2.2.2.2.1 ((Int.toNat x37)) (([] : List Int))))) <|
    (F.impl_Add (List.getD (List.getD x45.2.2.2.2.2.2.1 ((Int.toNat x37)) (([] : List Int))) ((Int.toNat x43)) 0) (List.getD x41 ((Int.toNat x43)) 0)).bind fun r46 =>
    chk (inb x43 (List.length (List.getD x45.2.2.2.2.2.2.1 ((Int.toNat x37)) (([] : List Int))))) <|
    (some (List.set x45.2.2.2.2.2.2.1 ((Int.toNat x37)) (List.set (List.getD x45.2.2.2.2.2.2.1 ((Int.toNat x37)) (([] : List Int))) ((Int.toNat x43)) r46))).bind fun r47 =>
    some (.again (x37, x38, x39, x40, x41, x42, w64 (x43 + 1), x44, (x45.1, x45.2.1, x45.2.2.1, x45.2.2.2.1, x45.2.2.2.2.1, x45.2.2.2.2.2.1, r47, x45.2.2.2.2.2.2.2), ()))
  else
    some (.exit (x37, x38, x39, x40, x41, x42, x43, x44, x45, ()))
noncomputable def F.impl_Merge.s20 : ((List (List Int)) × Int × Int × DSketch × DSketch × Unit) → Option (Lp ((List (List Int)) × Int × Int × DSketch × DSketch × Unit) (DSketch × Bool)) := fun (x32, x33, x34, x35, x36, _) =>
  bif decide (x34 < x33) then
    chk (inb x34 (List.length x32)) <|
    afterO (loopO F.impl_Merge.s23 (x34, x32, x33, x34, List.getD x32 ((Int.toNat x34)) (([] : List Int)), len (List.getD x32 ((Int.toNat x34)) (([] : List Int))), 0, x35, x36, ())) fun (x48, x49, x50, x51, x52, x53, x54, x55, x56, _) =>
    some (.again (x49, x50, w64 (x51 + 1), x55, x56, ()))
  else
    some (.exit (x32, x33, x34, x35, x36, ()))
noncomputable def F.impl_Merge (a0 : DSketch) (a1 : DSketch) : Option (DSketch × Bool) :=
  (F.impl_SketchOk a0).bind fun r1 =>
  bif !r1 then
    some ((0, 0, 0, 0, ([] : List Int), ([] : List Int), ([] : List (List Int)), ()), false)
  else
  (F.impl_SketchOk a1).bind fun r2 =>
  bif !r2 then
    some ((0, 0, 0, 0, ([] : List Int), ([] : List Int), ([] : List (List Int)), ()), false)
  else
  (F.impl_copySketch a0).bind fun r3 =>
  bif a0.1 == 0 then
    (F.impl_Add a0.1 a1.1).bind fun r4 =>
    (F.impl_Add a0.2.1 a1.2.1).bind fun r5 =>
    afterO (loopO F.impl_Merge.s10 (a1.2.2.2.2.1, len a1.2.2.2.2.1, 0, a1, (0, 0, 0, 0, ([] : List Int), ([] : List Int), ([] : List (List Int)), ()), (r4, r5, a1.2.2.1, mxI a0.2.2.2.1 a1.2.2.2.1, r3.2.2.2.2), ())) fun (x13, x14, x15, x16, x17, x18, _) =>
    afterO (loopO F.impl_Merge.s15 (x16.2.2.2.2.2.1, len x16.2.2.2.2.2.1, 0, x16, x17, x18, ())) fun (x26, x27, x28, x29, x30, x31, _) =>
    afterO (loopO F.impl_Merge.s20 (x29.2.2.2.2.2.2.1, len x29.2.2.2.2.2.2.1, 0, x30, x31, ())) fun (x57, x58, x59, x60, x61, _) =>
    some (x61, true)
  else
  bif decide (a1.1 > 0) then
    bif decide (a1.2.2.1 < a0.2.2.1) then
      (F.impl_Add a0.1 a1.1).bind fun r62 =>
      (F.impl_Add a0.2.1 a1.2.1).bind fun r63 =>
      afterO (loopO F.impl_Merge.s10 (a1.2.2.2.2.1, len a1.2.2.2.2.1, 0, a1, (0, 0, 0, 0, ([] : List Int), ([] : List Int), ([] : List (List Int)), ()), (r62, r63, a1.2.2.1, mxI a0.2.2.2.1 a1.2.2.2.1, r3.2.2.2.2), ())) fun (x71, x72, x73, x74, x75, x76, _) =>
      afterO (loopO F.impl_Merge.s15 (x74.2.2.2.2.2.1, len x74.2.2.2.2.2.1, 0, x74, x75, x76, ())) fun (x84, x85, x86, x87, x88, x89, _) =>
      afterO (loopO F.impl_Merge.s20 (x87.2.2.2.2.2.2.1, len x87.2.2.2.2.2.2.1, 0, x88, x89, ())) fun (x115, x116, x117, x118, x119, _) =>
      some (x119, true)
    else
    (F.impl_Add a0.1 a1.1).bind fun r120 =>
    (F.impl_Add a0.2.1 a1.2.1).bind fun r121 =>
    afterO (loopO F.impl_Merge.s10 (a1.2.2.2.2.1, len a1.2.2.2.2.1, 0, a1, (0, 0, 0, 0, ([] : List Int), ([] : List Int), ([] : List (List Int)), ()), (r120, r121, r3.2.2.1, mxI a0.2.2.2.1 a1.2.2.2.1, r3.2.2.2.2), ())) fun (x129, x130, x131, x132, x133, x134, _) =>
    afterO (loopO F.impl_Merge.s15 (x132.2.2.2.2.2.1, len x132.2.2.2.2.2.1, 0, x132, x133, x134, ())) fun (x142, x143, x144, x145, x146, x147, _) =>
    afterO (loopO F.impl_Merge.s20 (x145.2.2.2.2.2.2.1, len x145.2.2.2.2.2.2.1, 0, x146, x147, ())) fun (x173, x174, x175, x176, x177, _) =>
    some (x177, true)
  else
  (F.impl_Add a0.1 a1.1).bind fun r178 =>
  (F.impl_Add a0.2.1 a1.2.1).bind fun r179 =>
  afterO (loopO F.impl_Merge.s10 (a1.2.2.2.2.1, len a1.2.2.2.2.1, 0, a1, (0, 0, 0, 0, ([] : List Int), ([] : List Int), ([] : List (List Int)), ()), (r178, r179, r3.2.2.1, mxI a0.2.2.2.1 a1.2.2.2.1, r3.2.2.2.2), ())) fun (x187, x188, x189, x190, x191, x192, _) =>
  afterO (loopO F.impl_Merge.s15 (x190.2.2.2.2.2.1, len x190.2.2.2.2.2.1, 0, x190, x191, x192, ())) fun (x200, x201, x202, x203, x204, x205, _) =>
  afterO (loopO F.impl_Merge.s20 (x203.2.2.2.2.2.2.1, len x203.2.2.2.2.2.2.1, 0, x204, x205, ())) fun (x231, x232, x233, x234, x235, _) =>
  some (x235, true)
noncomputable def C.impl_Merge : Con := ⟨[.r (.val y3), .r (.val y3)], .many [y10, .bool], fun x => F.impl_Merge x.1 x.2.1⟩
def L.impl_Merge : Loops := lookL [(10, ⟨[.pat 63 (.val (.sl false 3 (.int .i64))), .pat 64 (.val (.int .i64)), .pat 65 (.val (.int .i64)), .root 3 true y3 [3], .root 4 true y10 [4], .root 6 true y10 [6]], 0⟩), (15, ⟨[.pat 83 (.val (.sl false 3 (.int .i64))), .pat 84 (.val (.int .i64)), .pat 85 (.val (.int .i64)), .root 3 true y3 [3], .root 4 true y10 [4], .root 6 true y10 [6]], 2⟩), (23, ⟨[.pat 11 (.val (.int .i64)), .pat 103 (.val (.sl false 26 (.sl false 3 (.int .i64)))), .pat 104 (.val (.int .i64)), .pat 105 (.val (.int .i64)), .pat 110 (.val (.sl false 3 (.int .i64))), .pat 111 (.val (.int .i64)), .pat 112 (.val (.int .i64)), .root 4 true y10 [4], .root 6 true y10 [6]], 6⟩), (20, ⟨[.pat 103 (.val (.sl false 26 (.sl false 3 (.int .i64)))), .pat 104 (.val (.int .i64)), .pat 105 (.val (.int .i64)), .root 4 true y10 [4], .root 6 true y10 [6]], 4⟩)]
noncomputable def K.impl_Merge : Cons := lookK [(177, [], C.impl_SketchOk), (184, [], C.impl_copySketch), (278, [], C.impl_Add)]
theorem run.impl_Merge : ∀ x, runF tb K.impl_Merge L.impl_Merge [] Tryz.f181 C.impl_Merge x = C.impl_Merge.fn x := fun x => by kernel_rfl

/-! ### impl.EntryAdd: function 66 -/
noncomputable def F.impl_EntryAdd (a0 : DEntry) (a1 : DEntry) : Option (DEntry × Bool) :=
  (F.impl_EntryOk a0).bind fun r1 =>
  bif !r1 then
    some ((0, 0, ([] : List DSpan), (0, 0, 0, 0, ([] : List Int), ([] : List Int), ([] : List (List Int)), ()), ()), false)
  else
  (F.impl_EntryOk a1).bind fun r2 =>
  bif !r2 then
    some ((0, 0, ([] : List DSpan), (0, 0, 0, 0, ([] : List Int), ([] : List Int), ([] : List (List Int)), ()), ()), false)
  else
  bif a0.1 != a1.1 then
    some ((0, 0, ([] : List DSpan), (0, 0, 0, 0, ([] : List Int), ([] : List Int), ([] : List (List Int)), ()), ()), false)
  else
  bif a0.2.1 != a1.2.1 then
    some ((0, 0, ([] : List DSpan), (0, 0, 0, 0, ([] : List Int), ([] : List Int), ([] : List (List Int)), ()), ()), false)
  else
  (F.impl_SetApart a0.2.2.1 a1.2.2.1).bind fun r3 =>
  bif !r3 then
    some ((0, 0, ([] : List DSpan), (0, 0, 0, 0, ([] : List Int), ([] : List Int), ([] : List (List Int)), ()), ()), false)
  else
  (F.impl_SetJoin a0.2.2.1 a1.2.2.1).bind fun r4 =>
  (F.impl_Merge a0.2.2.2.1 a1.2.2.2.1).bind fun r5 =>
  some ((a0.1, a0.2.1, r4.1, r5.1, ()), true)
noncomputable def C.impl_EntryAdd : Con := ⟨[.r (.val y16), .r (.val y16)], .many [y11, .bool], fun x => F.impl_EntryAdd x.1 x.2.1⟩
def L.impl_EntryAdd : Loops := fun _ => none
noncomputable def K.impl_EntryAdd : Cons := lookK [(62, [], C.impl_EntryOk), (179, [], C.impl_SetApart), (180, [], C.impl_SetJoin), (181, [], C.impl_Merge)]
theorem run.impl_EntryAdd : ∀ x, runF tb K.impl_EntryAdd L.impl_EntryAdd [] Tryz.f66 C.impl_EntryAdd x = C.impl_EntryAdd.fn x := fun x => by kernel_rfl

/-! ### impl.RowPush: function 159 -/
noncomputable def F.impl_RowPush (a0 : DRow) (a1 : DEntry) (a2 : Bool) : Option (DRow × Bool) :=
  (F.impl_RowOk a0).bind fun r1 =>
  bif !r1 then
    (F.impl_copyRow a0).bind fun r2 =>
    some (r2, false)
  else
  (F.impl_EntryOk a1).bind fun r3 =>
  bif !r3 then
    (F.impl_copyRow a0).bind fun r4 =>
    some (r4, false)
  else
  (F.impl_copyRow a0).bind fun r5 =>
  (F.impl_placeOf a0.1 a1.1 a1.2.1).bind fun r6 =>
  bif a2 then
    bif decide (r6 ≥ 0) then
      chk (inb r6 (List.length a0.1)) <|
      (F.impl_EntryAdd (List.getD a0.1 ((Int.toNat r6)) ((0, 0, ([] : List DSpan), (0, 0, 0, 0, ([] : List Int), ([] : List Int), ([] : List (List Int)), ()), ()))) a1).bind fun r7 =>
      bif !r7.2 then
        some (r5, false)
      else
      chk (inb r6 (List.length r5.1)) <|
      (F.impl_RowOk ((List.set r5.1 ((Int.toNat r6)) r7.1, r5.2))).bind fun r8 =>
      bif !r8 then
        (F.impl_copyRow a0).bind fun r9 =>
        some (r9, false)
      else
        some ((List.set r5.1 ((Int.toNat r6)) r7.1, r5.2), true)
    else
    (F.impl_copyEntry a1).bind fun r10 =>
    chk (fits (List.length r5.1 + List.length ([r10])) 144) <|
    (F.impl_RowOk ((r5.1 ++ ([r10]), r5.2))).bind fun r11 =>
    bif !r11 then
      (F.impl_copyRow a0).bind fun r12 =>
      some (r12, false)
    else
      some ((r5.1 ++ ([r10]), r5.2), true)
  else
  (F.impl_copyEntry a1).bind fun r13 =>
  chk (fits (List.length r5.1 + List.length ([r13])) 144) <|
  (F.impl_RowOk ((r5.1 ++ ([r13]), r5.2))).bind fun r14 =>
  bif !r14 then
    (F.impl_copyRow a0).bind fun r15 =>
    some (r15, false)
  else
    some ((r5.1 ++ ([r13]), r5.2), true)
noncomputable def C.impl_RowPush : Con := ⟨[.r (.val (.cons (.sl false 31 y16) .nil)), .r (.val y16), .r (.val .bool)], .many [(.cons (.sl true 31 y11) .nil), .bool], fun x => F.impl_RowPush x.1 x.2.1 x.2.2.1⟩
def L.impl_RowPush : Loops := fun _ => none
noncomputable def K.impl_RowPush : Cons := lookK [(62, [], C.impl_EntryOk), (65, [], C.impl_placeOf), (66, [], C.impl_EntryAdd), (71, [], C.impl_copyEntry), (217, [], C.impl_RowOk), (243, [], C.impl_copyRow)]
theorem run.impl_RowPush : ∀ x, runF tb K.impl_RowPush L.impl_RowPush [] Tryz.f159 C.impl_RowPush x = C.impl_RowPush.fn x := fun x => by kernel_rfl

/-! ### impl.Ingress: function 47 -/
noncomputable def F.impl_Ingress (a0 : DHouse) (a1 : DFrame) : Option (DHouse × DFrame × Int) :=
  (F.impl_HouseOk a0).bind fun r1 =>
  bif !r1 then
    (F.impl_copyHouse a0).bind fun r2 =>
    some (r2, (0, 0, 0, 0, ([] : List DSpan), (0, 0, 0, 0, (0, 0, 0, 0, ([] : List Int), ([] : List Int), ([] : List (List Int)), ()), ()), ()), 6)
  else
  (F.impl_FrameOk a1).bind fun r3 =>
  bif !r3 then
    (F.impl_copyHouse a0).bind fun r4 =>
    some (r4, (0, 0, 0, 0, ([] : List DSpan), (0, 0, 0, 0, (0, 0, 0, 0, ([] : List Int), ([] : List Int), ([] : List (List Int)), ()), ()), ()), 6)
  else
  bif a1.1 != 0 then
    bif a1.1 != 1 then
      (F.impl_copyHouse a0).bind fun r5 =>
      some (r5, (0, 0, 0, 0, ([] : List DSpan), (0, 0, 0, 0, (0, 0, 0, 0, ([] : List Int), ([] : List Int), ([] : List (List Int)), ()), ()), ()), 6)
    else
    (F.impl_copyHouse a0).bind fun r6 =>
    chk (inb a1.2.1 (List.length r6.2.2.2.1)) <|
    (some (List.set r6.2.2.2.1 ((Int.toNat a1.2.1)) (((List.getD r6.2.2.2.1 ((Int.toNat a1.2.1)) ((0, 0, ([] : List DSpan), 0, 0, ()))).1, ((List.getD r6.2.2.2.1 ((Int.toNat a1.2.1)) ((0, 0, ([] : List DSpan), 0, 0, ()))).2).1, (((List.getD r6.2.2.2.1 ((Int.toNat a1.2.1)) ((0, 0, ([] : List DSpan), 0, 0, ()))).2).2).1, ((((List.getD r6.2.2.2.1 ((Int.toNat a1.2.1)) ((0, 0, ([] : List DSpan), 0, 0, ()))).2).2).2).1, a0.2.1, (((((List.getD r6.2.2.2.1 ((Int.toNat a1.2.1)) ((0, 0, ([] : List DSpan), 0, 0, ()))).2).2).2).2).2)))).bind fun r7 =>
    bif a1.1 == 0 then
      bif !a0.2.2.1 then
        (F.impl_SeatGrant (List.getD r7 ((Int.toNat a1.2.1)) ((0, 0, ([] : List DSpan), 0, 0, ()))) a0.1.1).bind fun r8 =>
        (F.impl_Answer ((r6.1, r6.2.1, r6.2.2.1, List.set r7 ((Int.toNat a1.2.1)) r8, r6.2.2.2.2)) a1.2.1).bind fun r9 =>
        some ((r6.1, r6.2.1, r6.2.2.1, List.set r7 ((Int.toNat a1.2.1)) r8, r6.2.2.2.2), r9, 2)
      else
      (F.impl_Answer ((r6.1, r6.2.1, r6.2.2.1, r7, r6.2.2.2.2)) a1.2.1).bind fun r10 =>
      some ((r6.1, r6.2.1, r6.2.2.1, r7, r6.2.2.2.2), r10, 2)
    else
    (F.impl_SeatData (List.getD r7 ((Int.toNat a1.2.1)) ((0, 0, ([] : List DSpan), 0, 0, ()))) a0.1.1 a1.2.2.1 a1.2.2.2.2.2.1.1).bind fun r11 =>
    bif r11.2 == 2 then
      (F.impl_Answer ((r6.1, r6.2.1, r6.2.2.1, r7, r6.2.2.2.2)) a1.2.1).bind fun r12 =>
      some ((r6.1, r6.2.1, r6.2.2.1, r7, r6.2.2.2.2), r12, 3)
    else
    bif r11.2 == 1 then
      (F.impl_Answer ((r6.1, r6.2.1, r6.2.2.1, r7, r6.2.2.2.2)) a1.2.1).bind fun r13 =>
      some ((r6.1, r6.2.1, r6.2.2.1, r7, r6.2.2.2.2), r13, 1)
    else
    bif r11.2 == 3 then
      (F.impl_Answer ((r6.1, r6.2.1, r6.2.2.1, r7, r6.2.2.2.2)) a1.2.1).bind fun r14 =>
      some ((r6.1, r6.2.1, r6.2.2.1, r7, r6.2.2.2.2), r14, 4)
    else
    bif a0.2.2.1 then
      (F.impl_Answer ((r6.1, r6.2.1, r6.2.2.1, r7, r6.2.2.2.2)) a1.2.1).bind fun r15 =>
      some ((r6.1, r6.2.1, r6.2.2.1, r7, r6.2.2.2.2), r15, 5)
    else
    (F.impl_EntryOf a1.2.1 a1.2.2.2.2.2.1).bind fun r16 =>
    chk (inb a1.2.1 (List.length r6.2.2.2.2.1)) <|
    chk (inb a1.2.2.2.2.2.1.2.1 (List.length (List.getD r6.2.2.2.2.1 ((Int.toNat a1.2.1)) (([] : List DRow))))) <|
    (F.impl_Items a0).bind fun r17 =>
    (F.impl_RowPush (List.getD (List.getD r6.2.2.2.2.1 ((Int.toNat a1.2.1)) (([] : List DRow))) ((Int.toNat a1.2.2.2.2.2.1.2.1)) ((([] : List DEntry), ()))) r16.1 (decide (r17 ≥ a0.1.2.2.2.2.1))).bind fun r18 =>
    (some (List.set r6.2.2.2.2.1 ((Int.toNat a1.2.1)) (List.set (List.getD r6.2.2.2.2.1 ((Int.toNat a1.2.1)) (([] : List DRow))) ((Int.toNat a1.2.2.2.2.2.1.2.1)) r18.1))).bind fun r19 =>
    (F.impl_Answer ((r6.1, r6.2.1, r6.2.2.1, List.set r7 ((Int.toNat a1.2.1)) r11.1, r19, r6.2.2.2.2.2)) a1.2.1).bind fun r20 =>
    some ((r6.1, r6.2.1, r6.2.2.1, List.set r7 ((Int.toNat a1.2.1)) r11.1, r19, r6.2.2.2.2.2), r20, 0)
  else
  (F.impl_copyHouse a0).bind fun r21 =>
  chk (inb a1.2.1 (List.length r21.2.2.2.1)) <|
  (some (List.set r21.2.2.2.1 ((Int.toNat a1.2.1)) (((List.getD r21.2.2.2.1 ((Int.toNat a1.2.1)) ((0, 0, ([] : List DSpan), 0, 0, ()))).1, ((List.getD r21.2.2.2.1 ((Int.toNat a1.2.1)) ((0, 0, ([] : List DSpan), 0, 0, ()))).2).1, (((List.getD r21.2.2.2.1 ((Int.toNat a1.2.1)) ((0, 0, ([] : List DSpan), 0, 0, ()))).2).2).1, ((((List.getD r21.2.2.2.1 ((Int.toNat a1.2.1)) ((0, 0, ([] : List DSpan), 0, 0, ()))).2).2).2).1, a0.2.1, (((((List.getD r21.2.2.2.1 ((Int.toNat a1.2.1)) ((0, 0, ([] : List DSpan), 0, 0, ()))).2).2).2).2).2)))).bind fun r22 =>
  bif a1.1 == 0 then
    bif !a0.2.2.1 then
      (F.impl_SeatGrant (List.getD r22 ((Int.toNat a1.2.1)) ((0, 0, ([] : List DSpan), 0, 0, ()))) a0.1.1).bind fun r23 =>
      (F.impl_Answer ((r21.1, r21.2.1, r21.2.2.1, List.set r22 ((Int.toNat a1.2.1)) r23, r21.2.2.2.2)) a1.2.1).bind fun r24 =>
      some ((r21.1, r21.2.1, r21.2.2.1, List.set r22 ((Int.toNat a1.2.1)) r23, r21.2.2.2.2), r24, 2)
    else
    (F.impl_Answer ((r21.1, r21.2.1, r21.2.2.1, r22, r21.2.2.2.2)) a1.2.1).bind fun r25 =>
    some ((r21.1, r21.2.1, r21.2.2.1, r22, r21.2.2.2.2), r25, 2)
  else
  (F.impl_SeatData (List.getD r22 ((Int.toNat a1.2.1)) ((0, 0, ([] : List DSpan), 0, 0, ()))) a0.1.1 a1.2.2.1 a1.2.2.2.2.2.1.1).bind fun r26 =>
  bif r26.2 == 2 then
    (F.impl_Answer ((r21.1, r21.2.1, r21.2.2.1, r22, r21.2.2.2.2)) a1.2.1).bind fun r27 =>
    some ((r21.1, r21.2.1, r21.2.2.1, r22, r21.2.2.2.2), r27, 3)
  else
  bif r26.2 == 1 then
    (F.impl_Answer ((r21.1, r21.2.1, r21.2.2.1, r22, r21.2.2.2.2)) a1.2.1).bind fun r28 =>
    some ((r21.1, r21.2.1, r21.2.2.1, r22, r21.2.2.2.2), r28, 1)
  else
  bif r26.2 == 3 then
    (F.impl_Answer ((r21.1, r21.2.1, r21.2.2.1, r22, r21.2.2.2.2)) a1.2.1).bind fun r29 =>
    some ((r21.1, r21.2.1, r21.2.2.1, r22, r21.2.2.2.2), r29, 4)
  else
  bif a0.2.2.1 then
    (F.impl_Answer ((r21.1, r21.2.1, r21.2.2.1, r22, r21.2.2.2.2)) a1.2.1).bind fun r30 =>
    some ((r21.1, r21.2.1, r21.2.2.1, r22, r21.2.2.2.2), r30, 5)
  else
  (F.impl_EntryOf a1.2.1 a1.2.2.2.2.2.1).bind fun r31 =>
  chk (inb a1.2.1 (List.length r21.2.2.2.2.1)) <|
  chk (inb a1.2.2.2.2.2.1.2.1 (List.length (List.getD r21.2.2.2.2.1 ((Int.toNat a1.2.1)) (([] : List DRow))))) <|
  (F.impl_Items a0).bind fun r32 =>
  (F.impl_RowPush (List.getD (List.getD r21.2.2.2.2.1 ((Int.toNat a1.2.1)) (([] : List DRow))) ((Int.toNat a1.2.2.2.2.2.1.2.1)) ((([] : List DEntry), ()))) r31.1 (decide (r32 ≥ a0.1.2.2.2.2.1))).bind fun r33 =>
  (some (List.set r21.2.2.2.2.1 ((Int.toNat a1.2.1)) (List.set (List.getD r21.2.2.2.2.1 ((Int.toNat a1.2.1)) (([] : List DRow))) ((Int.toNat a1.2.2.2.2.2.1.2.1)) r33.1))).bind fun r34 =>
  (F.impl_Answer ((r21.1, r21.2.1, r21.2.2.1, List.set r22 ((Int.toNat a1.2.1)) r26.1, r34, r21.2.2.2.2.2)) a1.2.1).bind fun r35 =>
  some ((r21.1, r21.2.1, r21.2.2.1, List.set r22 ((Int.toNat a1.2.1)) r26.1, r34, r21.2.2.2.2.2), r35, 0)
noncomputable def C.impl_Ingress : Con := ⟨[.r (.val y18), .r (.val y22)], .many [y14, y20, (.int .i64)], fun x => F.impl_Ingress x.1 x.2.1⟩
def L.impl_Ingress : Loops := fun _ => none
noncomputable def K.impl_Ingress : Cons := lookK [(28, [], C.impl_HouseOk), (37, [], C.impl_Answer), (138, [], C.impl_copyHouse), (139, [], C.impl_Items), (155, [], C.impl_FrameOk), (156, [], C.impl_SeatGrant), (157, [], C.impl_SeatData), (158, [], C.impl_EntryOf), (159, [], C.impl_RowPush)]
theorem run.impl_Ingress : ∀ x, runF tb K.impl_Ingress L.impl_Ingress [] Tryz.f47 C.impl_Ingress x = C.impl_Ingress.fn x := fun x => by kernel_rfl

/-! ### laws.heldConf: function 142 -/
noncomputable def F.laws_heldConf (a0 : DConf) (a1 : Int) : Option Int :=
  (F.laws_heldIntS a0.2.2.2.1 a1).bind fun r1 =>
  bif decide (r1 < 0) then
    some (-1)
  else
    some r1
noncomputable def C.laws_heldConf : Con := ⟨[.r (.val y0), .r (.val (.int .i64))], .one (.int .i64), fun x => F.laws_heldConf x.1 x.2.1⟩
def L.laws_heldConf : Loops := fun _ => none
noncomputable def K.laws_heldConf : Cons := lookK [(35, [], C.laws_heldIntS)]
theorem run.laws_heldConf : ∀ x, runF tb K.laws_heldConf L.laws_heldConf [] Tryz.f142 C.laws_heldConf x = C.laws_heldConf.fn x := fun x => by kernel_rfl

/-! ### laws.heldSeatS: function 143 -/
noncomputable def F.laws_heldSeatS.s2 : ((List DSeat) × Int × Int × Unit) → Option (Lp ((List DSeat) × Int × Int × Unit) Int) := fun (x1, x2, x3, _) =>
  bif decide (x3 < (len x1)) then
    chk (inb x3 (List.length x1)) <|
    bif ((List.getD x1 ((Int.toNat x3)) ((0, 0, ([] : List DSpan), 0, 0, ()))).1) != x2 then
      some (.ret (-1))
    else
    chk (inb x3 (List.length x1)) <|
    bif (((List.getD x1 ((Int.toNat x3)) ((0, 0, ([] : List DSpan), 0, 0, ()))).2).1) != (w64 (x2 + 1)) then
      some (.ret (-1))
    else
    chk (inb x3 (List.length x1)) <|
    (F.laws_heldSpanS ((((List.getD x1 ((Int.toNat x3)) ((0, 0, ([] : List DSpan), 0, 0, ()))).2).2).1) (w64 ((w64 (x2 + 1)) + 1))).bind fun r4 =>
    bif decide (r4 < 0) then
      some (.ret (-1))
    else
    chk (inb x3 (List.length x1)) <|
    bif (((((List.getD x1 ((Int.toNat x3)) ((0, 0, ([] : List DSpan), 0, 0, ()))).2).2).2).1) != r4 then
      some (.ret (-1))
    else
    chk (inb x3 (List.length x1)) <|
    bif ((((((List.getD x1 ((Int.toNat x3)) ((0, 0, ([] : List DSpan), 0, 0, ()))).2).2).2).2).1) != (w64 (r4 + 1)) then
      some (.ret (-1))
    else
      some (.again (x1, w64 ((w64 (r4 + 1)) + 1), w64 (x3 + 1), ()))
  else
    some (.exit (x1, x2, x3, ()))
noncomputable def F.laws_heldSeatS (a0 : List DSeat) (a1 : Int) : Option Int :=
  afterO (loopO F.laws_heldSeatS.s2 (a0, a1, 0, ())) fun (x5, x6, x7, _) =>
  some x6
noncomputable def C.laws_heldSeatS : Con := ⟨[.r (.val (.sl false 139 y15)), .r (.val (.int .i64))], .one (.int .i64), fun x => F.laws_heldSeatS x.1 x.2.1⟩
def L.laws_heldSeatS : Loops := lookL [(2, ⟨[.pat 0 (.val (.sl false 139 y15)), .pat 1 (.val (.int .i64)), .pat 5 (.val (.int .i64))], 0⟩)]
noncomputable def K.laws_heldSeatS : Cons := lookK [(85, [], C.laws_heldSpanS)]
theorem run.laws_heldSeatS : ∀ x, runF tb K.laws_heldSeatS L.laws_heldSeatS [] Tryz.f143 C.laws_heldSeatS x = C.laws_heldSeatS.fn x := fun x => by kernel_rfl

/-! ### laws.heldEntryS: function 24 -/
noncomputable def F.laws_heldEntryS.s2 : ((List DEntry) × Int × Int × Unit) → Option (Lp ((List DEntry) × Int × Int × Unit) Int) := fun (x1, x2, x3, _) =>
  bif decide (x3 < (len x1)) then
    chk (inb x3 (List.length x1)) <|
    bif ((List.getD x1 ((Int.toNat x3)) ((0, 0, ([] : List DSpan), (0, 0, 0, 0, ([] : List Int), ([] : List Int), ([] : List (List Int)), ()), ()))).1) != x2 then
      some (.ret (-1))
    else
    chk (inb x3 (List.length x1)) <|
    bif (((List.getD x1 ((Int.toNat x3)) ((0, 0, ([] : List DSpan), (0, 0, 0, 0, ([] : List Int), ([] : List Int), ([] : List (List Int)), ()), ()))).2).1) != (w64 (x2 + 1)) then
      some (.ret (-1))
    else
    chk (inb x3 (List.length x1)) <|
    (F.laws_heldSpanS ((((List.getD x1 ((Int.toNat x3)) ((0, 0, ([] : List DSpan), (0, 0, 0, 0, ([] : List Int), ([] : List Int), ([] : List (List Int)), ()), ()))).2).2).1) (w64 ((w64 (x2 + 1)) + 1))).bind fun r4 =>
    bif decide (r4 < 0) then
      some (.ret (-1))
    else
    chk (inb x3 (List.length x1)) <|
    bif ((((((List.getD x1 ((Int.toNat x3)) ((0, 0, ([] : List DSpan), (0, 0, 0, 0, ([] : List Int), ([] : List Int), ([] : List (List Int)), ()), ()))).2).2).2).1).1) != r4 then
      some (.ret (-1))
    else
    chk (inb x3 (List.length x1)) <|
    bif (((((((List.getD x1 ((Int.toNat x3)) ((0, 0, ([] : List DSpan), (0, 0, 0, 0, ([] : List Int), ([] : List Int), ([] : List (List Int)), ()), ()))).2).2).2).1).2).1) != (w64 (r4 + 1)) then
      some (.ret (-1))
    else
    chk (inb x3 (List.length x1)) <|
    bif ((((((((List.getD x1 ((Int.toNat x3)) ((0, 0, ([] : List DSpan), (0, 0, 0, 0, ([] : List Int), ([] : List Int), ([] : List (List Int)), ()), ()))).2).2).2).1).2).2).1) != (w64 ((w64 (r4 + 1)) + 1)) then
      some (.ret (-1))
    else
    chk (inb x3 (List.length x1)) <|
    bif (((((((((List.getD x1 ((Int.toNat x3)) ((0, 0, ([] : List DSpan), (0, 0, 0, 0, ([] : List Int), ([] : List Int), ([] : List (List Int)), ()), ()))).2).2).2).1).2).2).2).1) != (w64 ((w64 ((w64 (r4 + 1)) + 1)) + 1)) then
      some (.ret (-1))
    else
    chk (inb x3 (List.length x1)) <|
    (F.laws_heldIntS ((((((((((List.getD x1 ((Int.toNat x3)) ((0, 0, ([] : List DSpan), (0, 0, 0, 0, ([] : List Int), ([] : List Int), ([] : List (List Int)), ()), ()))).2).2).2).1).2).2).2).2).1) (w64 ((w64 ((w64 ((w64 (r4 + 1)) + 1)) + 1)) + 1))).bind fun r5 =>
    bif decide (r5 < 0) then
      some (.ret (-1))
    else
    chk (inb x3 (List.length x1)) <|
    (F.laws_heldIntS (((((((((((List.getD x1 ((Int.toNat x3)) ((0, 0, ([] : List DSpan), (0, 0, 0, 0, ([] : List Int), ([] : List Int), ([] : List (List Int)), ()), ()))).2).2).2).1).2).2).2).2).2).1) r5).bind fun r6 =>
    bif decide (r6 < 0) then
      some (.ret (-1))
    else
    chk (inb x3 (List.length x1)) <|
    (F.laws_heldIntSS ((((((((((((List.getD x1 ((Int.toNat x3)) ((0, 0, ([] : List DSpan), (0, 0, 0, 0, ([] : List Int), ([] : List Int), ([] : List (List Int)), ()), ()))).2).2).2).1).2).2).2).2).2).2).1) r6).bind fun r7 =>
    bif decide (r7 < 0) then
      some (.ret (-1))
    else
      some (.again (x1, r7, w64 (x3 + 1), ()))
  else
    some (.exit (x1, x2, x3, ()))
noncomputable def F.laws_heldEntryS (a0 : List DEntry) (a1 : Int) : Option Int :=
  afterO (loopO F.laws_heldEntryS.s2 (a0, a1, 0, ())) fun (x8, x9, x10, _) =>
  some x9
noncomputable def C.laws_heldEntryS : Con := ⟨[.r (.val (.sl false 31 y16)), .r (.val (.int .i64))], .one (.int .i64), fun x => F.laws_heldEntryS x.1 x.2.1⟩
def L.laws_heldEntryS : Loops := lookL [(2, ⟨[.pat 0 (.val (.sl false 31 y16)), .pat 1 (.val (.int .i64)), .pat 5 (.val (.int .i64))], 0⟩)]
noncomputable def K.laws_heldEntryS : Cons := lookK [(35, [], C.laws_heldIntS), (85, [], C.laws_heldSpanS), (86, [], C.laws_heldIntSS)]
theorem run.laws_heldEntryS : ∀ x, runF tb K.laws_heldEntryS L.laws_heldEntryS [] Tryz.f24 C.laws_heldEntryS x = C.laws_heldEntryS.fn x := fun x => by kernel_rfl

/-! ### laws.heldRowS: function 248 -/
noncomputable def F.laws_heldRowS.s2 : ((List DRow) × Int × Int × Unit) → Option (Lp ((List DRow) × Int × Int × Unit) Int) := fun (x1, x2, x3, _) =>
  bif decide (x3 < (len x1)) then
    chk (inb x3 (List.length x1)) <|
    (F.laws_heldEntryS ((List.getD x1 ((Int.toNat x3)) ((([] : List DEntry), ()))).1) x2).bind fun r4 =>
    bif decide (r4 < 0) then
      some (.ret (-1))
    else
      some (.again (x1, r4, w64 (x3 + 1), ()))
  else
    some (.exit (x1, x2, x3, ()))
noncomputable def F.laws_heldRowS (a0 : List DRow) (a1 : Int) : Option Int :=
  afterO (loopO F.laws_heldRowS.s2 (a0, a1, 0, ())) fun (x5, x6, x7, _) =>
  some x6
noncomputable def C.laws_heldRowS : Con := ⟨[.r (.val (.sl false 105 (.cons (.sl false 31 y16) .nil))), .r (.val (.int .i64))], .one (.int .i64), fun x => F.laws_heldRowS x.1 x.2.1⟩
def L.laws_heldRowS : Loops := lookL [(2, ⟨[.pat 0 (.val (.sl false 105 (.cons (.sl false 31 y16) .nil))), .pat 1 (.val (.int .i64)), .pat 5 (.val (.int .i64))], 0⟩)]
noncomputable def K.laws_heldRowS : Cons := lookK [(24, [], C.laws_heldEntryS)]
theorem run.laws_heldRowS : ∀ x, runF tb K.laws_heldRowS L.laws_heldRowS [] Tryz.f248 C.laws_heldRowS x = C.laws_heldRowS.fn x := fun x => by kernel_rfl

/-! ### laws.heldRowSS: function 144 -/
noncomputable def F.laws_heldRowSS.s2 : ((List (List DRow)) × Int × Int × Unit) → Option (Lp ((List (List DRow)) × Int × Int × Unit) Int) := fun (x1, x2, x3, _) =>
  bif decide (x3 < (len x1)) then
    chk (inb x3 (List.length x1)) <|
    (F.laws_heldRowS (List.getD x1 ((Int.toNat x3)) (([] : List DRow))) x2).bind fun r4 =>
    bif decide (r4 < 0) then
      some (.ret (-1))
    else
      some (.again (x1, r4, w64 (x3 + 1), ()))
  else
    some (.exit (x1, x2, x3, ()))
noncomputable def F.laws_heldRowSS (a0 : List (List DRow)) (a1 : Int) : Option Int :=
  afterO (loopO F.laws_heldRowSS.s2 (a0, a1, 0, ())) fun (x5, x6, x7, _) =>
  some x6
noncomputable def C.laws_heldRowSS : Con := ⟨[.r (.val (.sl false 159 (.sl false 105 (.cons (.sl false 31 y16) .nil)))), .r (.val (.int .i64))], .one (.int .i64), fun x => F.laws_heldRowSS x.1 x.2.1⟩
def L.laws_heldRowSS : Loops := lookL [(2, ⟨[.pat 0 (.val (.sl false 159 (.sl false 105 (.cons (.sl false 31 y16) .nil)))), .pat 1 (.val (.int .i64)), .pat 5 (.val (.int .i64))], 0⟩)]
noncomputable def K.laws_heldRowSS : Cons := lookK [(248, [], C.laws_heldRowS)]
theorem run.laws_heldRowSS : ∀ x, runF tb K.laws_heldRowSS L.laws_heldRowSS [] Tryz.f144 C.laws_heldRowSS x = C.laws_heldRowSS.fn x := fun x => by kernel_rfl

/-! ### laws.heldTurnS: function 145 -/
noncomputable def F.laws_heldTurnS.s2 : ((List DTurn) × Int × Int × Unit) → Option (Lp ((List DTurn) × Int × Int × Unit) Int) := fun (x1, x2, x3, _) =>
  bif decide (x3 < (len x1)) then
    chk (inb x3 (List.length x1)) <|
    bif ((List.getD x1 ((Int.toNat x3)) ((0, false, ([] : List Int), ()))).1) != x2 then
      some (.ret (-1))
    else
    chk (inb x3 (List.length x1)) <|
    bif !((((List.getD x1 ((Int.toNat x3)) ((0, false, ([] : List Int), ()))).2).1) == ((Int.tmod (w64 (x2 + 1)) 3) == 0)) then
      some (.ret (-1))
    else
    chk (inb x3 (List.length x1)) <|
    (F.laws_heldIntS ((((List.getD x1 ((Int.toNat x3)) ((0, false, ([] : List Int), ()))).2).2).1) (w64 ((w64 (x2 + 1)) + 1))).bind fun r4 =>
    bif decide (r4 < 0) then
      some (.ret (-1))
    else
      some (.again (x1, r4, w64 (x3 + 1), ()))
  else
    some (.exit (x1, x2, x3, ()))
noncomputable def F.laws_heldTurnS (a0 : List DTurn) (a1 : Int) : Option Int :=
  afterO (loopO F.laws_heldTurnS.s2 (a0, a1, 0, ())) fun (x5, x6, x7, _) =>
  some x6
noncomputable def C.laws_heldTurnS : Con := ⟨[.r (.val (.sl false 175 y5)), .r (.val (.int .i64))], .one (.int .i64), fun x => F.laws_heldTurnS x.1 x.2.1⟩
def L.laws_heldTurnS : Loops := lookL [(2, ⟨[.pat 0 (.val (.sl false 175 y5)), .pat 1 (.val (.int .i64)), .pat 5 (.val (.int .i64))], 0⟩)]
noncomputable def K.laws_heldTurnS : Cons := lookK [(35, [], C.laws_heldIntS)]
theorem run.laws_heldTurnS : ∀ x, runF tb K.laws_heldTurnS L.laws_heldTurnS [] Tryz.f145 C.laws_heldTurnS x = C.laws_heldTurnS.fn x := fun x => by kernel_rfl

/-! ### laws.heldOutS: function 146 -/
noncomputable def F.laws_heldOutS.s2 : ((List DOut) × Int × Int × Unit) → Option (Lp ((List DOut) × Int × Int × Unit) Int) := fun (x1, x2, x3, _) =>
  bif decide (x3 < (len x1)) then
    chk (inb x3 (List.length x1)) <|
    bif ((List.getD x1 ((Int.toNat x3)) ((0, (0, 0, ([] : List DSpan), (0, 0, 0, 0, ([] : List Int), ([] : List Int), ([] : List (List Int)), ()), ()), ()))).1) != x2 then
      some (.ret (-1))
    else
    chk (inb x3 (List.length x1)) <|
    bif ((((List.getD x1 ((Int.toNat x3)) ((0, (0, 0, ([] : List DSpan), (0, 0, 0, 0, ([] : List Int), ([] : List Int), ([] : List (List Int)), ()), ()), ()))).2).1).1) != (w64 (x2 + 1)) then
      some (.ret (-1))
    else
    chk (inb x3 (List.length x1)) <|
    bif (((((List.getD x1 ((Int.toNat x3)) ((0, (0, 0, ([] : List DSpan), (0, 0, 0, 0, ([] : List Int), ([] : List Int), ([] : List (List Int)), ()), ()), ()))).2).1).2).1) != (w64 ((w64 (x2 + 1)) + 1)) then
      some (.ret (-1))
    else
    chk (inb x3 (List.length x1)) <|
    (F.laws_heldSpanS ((((((List.getD x1 ((Int.toNat x3)) ((0, (0, 0, ([] : List DSpan), (0, 0, 0, 0, ([] : List Int), ([] : List Int), ([] : List (List Int)), ()), ()), ()))).2).1).2).2).1) (w64 ((w64 ((w64 (x2 + 1)) + 1)) + 1))).bind fun r4 =>
    bif decide (r4 < 0) then
      some (.ret (-1))
    else
    chk (inb x3 (List.length x1)) <|
    bif ((((((((List.getD x1 ((Int.toNat x3)) ((0, (0, 0, ([] : List DSpan), (0, 0, 0, 0, ([] : List Int), ([] : List Int), ([] : List (List Int)), ()), ()), ()))).2).1).2).2).2).1).1) != r4 then
      some (.ret (-1))
    else
    chk (inb x3 (List.length x1)) <|
    bif (((((((((List.getD x1 ((Int.toNat x3)) ((0, (0, 0, ([] : List DSpan), (0, 0, 0, 0, ([] : List Int), ([] : List Int), ([] : List (List Int)), ()), ()), ()))).2).1).2).2).2).1).2).1) != (w64 (r4 + 1)) then
      some (.ret (-1))
    else
    chk (inb x3 (List.length x1)) <|
    bif ((((((((((List.getD x1 ((Int.toNat x3)) ((0, (0, 0, ([] : List DSpan), (0, 0, 0, 0, ([] : List Int), ([] : List Int), ([] : List (List Int)), ()), ()), ()))).2).1).2).2).2).1).2).2).1) != (w64 ((w64 (r4 + 1)) + 1)) then
      some (.ret (-1))
    else
    chk (inb x3 (List.length x1)) <|
    bif (((((((((((List.getD x1 ((Int.toNat x3)) ((0, (0, 0, ([] : List DSpan), (0, 0, 0, 0, ([] : List Int), ([] : List Int), ([] : List (List Int)), ()), ()), ()))).2).1).2).2).2).1).2).2).2).1) != (w64 ((w64 ((w64 (r4 + 1)) + 1)) + 1)) then
      some (.ret (-1))
    else
    chk (inb x3 (List.length x1)) <|
    (F.laws_heldIntS ((((((((((((List.getD x1 ((Int.toNat x3)) ((0, (0, 0, ([] : List DSpan), (0, 0, 0, 0, ([] : List Int), ([] : List Int), ([] : List (List Int)), ()), ()), ()))).2).1).2).2).2).1).2).2).2).2).1) (w64 ((w64 ((w64 ((w64 (r4 + 1)) + 1)) + 1)) + 1))).bind fun r5 =>
    bif decide (r5 < 0) then
      some (.ret (-1))
    else
    chk (inb x3 (List.length x1)) <|
    (F.laws_heldIntS (((((((((((((List.getD x1 ((Int.toNat x3)) ((0, (0, 0, ([] : List DSpan), (0, 0, 0, 0, ([] : List Int), ([] : List Int), ([] : List (List Int)), ()), ()), ()))).2).1).2).2).2).1).2).2).2).2).2).1) r5).bind fun r6 =>
    bif decide (r6 < 0) then
      some (.ret (-1))
    else
    chk (inb x3 (List.length x1)) <|
    (F.laws_heldIntSS ((((((((((((((List.getD x1 ((Int.toNat x3)) ((0, (0, 0, ([] : List DSpan), (0, 0, 0, 0, ([] : List Int), ([] : List Int), ([] : List (List Int)), ()), ()), ()))).2).1).2).2).2).1).2).2).2).2).2).2).1) r6).bind fun r7 =>
    bif decide (r7 < 0) then
      some (.ret (-1))
    else
      some (.again (x1, r7, w64 (x3 + 1), ()))
  else
    some (.exit (x1, x2, x3, ()))
noncomputable def F.laws_heldOutS (a0 : List DOut) (a1 : Int) : Option Int :=
  afterO (loopO F.laws_heldOutS.s2 (a0, a1, 0, ())) fun (x8, x9, x10, _) =>
  some x9
noncomputable def C.laws_heldOutS : Con := ⟨[.r (.val (.sl false 137 y17)), .r (.val (.int .i64))], .one (.int .i64), fun x => F.laws_heldOutS x.1 x.2.1⟩
def L.laws_heldOutS : Loops := lookL [(2, ⟨[.pat 0 (.val (.sl false 137 y17)), .pat 1 (.val (.int .i64)), .pat 5 (.val (.int .i64))], 0⟩)]
noncomputable def K.laws_heldOutS : Cons := lookK [(35, [], C.laws_heldIntS), (85, [], C.laws_heldSpanS), (86, [], C.laws_heldIntSS)]
theorem run.laws_heldOutS : ∀ x, runF tb K.laws_heldOutS L.laws_heldOutS [] Tryz.f146 C.laws_heldOutS x = C.laws_heldOutS.fn x := fun x => by kernel_rfl

/-! ### laws.heldHouse: function 43 -/
noncomputable def F.laws_heldHouse (a0 : DHouse) (a1 : Int) : Option Int :=
  (F.laws_heldConf a0.1 a1).bind fun r1 =>
  bif decide (r1 < 0) then
    some (-1)
  else
  (F.laws_heldSeatS a0.2.2.2.1 r1).bind fun r2 =>
  bif decide (r2 < 0) then
    some (-1)
  else
  (F.laws_heldRowSS a0.2.2.2.2.1 r2).bind fun r3 =>
  bif decide (r3 < 0) then
    some (-1)
  else
  (F.laws_heldTurnS a0.2.2.2.2.2.1 r3).bind fun r4 =>
  bif decide (r4 < 0) then
    some (-1)
  else
  (F.laws_heldEntryS a0.2.2.2.2.2.2.2.1 r4).bind fun r5 =>
  bif decide (r5 < 0) then
    some (-1)
  else
  (F.laws_heldOutS a0.2.2.2.2.2.2.2.2.1 r5).bind fun r6 =>
  bif decide (r6 < 0) then
    some (-1)
  else
    some r6
noncomputable def C.laws_heldHouse : Con := ⟨[.r (.val y18), .r (.val (.int .i64))], .one (.int .i64), fun x => F.laws_heldHouse x.1 x.2.1⟩
def L.laws_heldHouse : Loops := fun _ => none
noncomputable def K.laws_heldHouse : Cons := lookK [(24, [], C.laws_heldEntryS), (142, [], C.laws_heldConf), (143, [], C.laws_heldSeatS), (144, [], C.laws_heldRowSS), (145, [], C.laws_heldTurnS), (146, [], C.laws_heldOutS)]
theorem run.laws_heldHouse : ∀ x, runF tb K.laws_heldHouse L.laws_heldHouse [] Tryz.f43 C.laws_heldHouse x = C.laws_heldHouse.fn x := fun x => by kernel_rfl

/-! ### laws.FnExactIngress: function 9 -/
noncomputable def F.laws_FnExactIngress (a0 : DHouse) (a1 : DFrame) : Option Bool :=
  (F.laws_szHouse a0 1048576).bind fun r1 =>
  bif decide (r1 < 0) then
    some true
  else
  (F.laws_szFrame a1 r1).bind fun r2 =>
  bif decide (r2 < 0) then
    some true
  else
  (F.laws_toHouse a0).bind fun r3 =>
  (F.laws_toFrame a1).bind fun r4 =>
  (F.spec_Ingress r3 r4).bind fun r5 =>
  (F.laws_toHouse a0).bind fun r6 =>
  (F.laws_toFrame a1).bind fun r7 =>
  (F.impl_Ingress r6 r7).bind fun r8 =>
  (F.laws_eqHouse r8.1 r5.1).bind fun r9 =>
  bif !r9 then
    some false
  else
  (F.laws_eqFrame r8.2.1 r5.2.1).bind fun r10 =>
  bif !r10 then
    some false
  else
  bif r8.2.2 != r5.2.2 then
    some false
  else
  (F.laws_toHouse a0).bind fun r11 =>
  (F.laws_eqHouse r6 r11).bind fun r12 =>
  bif !r12 then
    some false
  else
  (F.laws_toFrame a1).bind fun r13 =>
  (F.laws_eqFrame r7 r13).bind fun r14 =>
  bif !r14 then
    some false
  else
  (F.laws_markHouse r6 1).bind fun r15 =>
  (F.laws_markFrame r7 r15.1).bind fun r16 =>
  bif decide (r16.1 < 0) then
    some false
  else
  (F.laws_eqHouse r8.1 r5.1).bind fun r17 =>
  bif !r17 then
    some false
  else
  (F.laws_eqFrame r8.2.1 r5.2.1).bind fun r18 =>
  bif !r18 then
    some false
  else
  bif r8.2.2 != r5.2.2 then
    some false
  else
  (F.laws_markHouse r8.1 1).bind fun r19 =>
  (F.laws_markFrame r8.2.1 r19.1).bind fun r20 =>
  (F.laws_heldHouse r19.2 1).bind fun r21 =>
  bif decide (r21 < 0) then
    some false
  else
  (F.laws_heldFrame r20.2 r21).bind fun r22 =>
  bif decide (r22 < 0) then
    some false
  else
  bif r22 != r20.1 then
    some false
  else
  (F.laws_toHouse a0).bind fun r23 =>
  (F.laws_toFrame a1).bind fun r24 =>
  (F.impl_Ingress r23 r24).bind fun r25 =>
  (F.laws_eqHouse r25.1 r5.1).bind fun r26 =>
  bif !r26 then
    some false
  else
  (F.laws_eqFrame r25.2.1 r5.2.1).bind fun r27 =>
  bif !r27 then
    some false
  else
  bif r25.2.2 != r5.2.2 then
    some false
  else
  (F.laws_heldHouse r19.2 1).bind fun r28 =>
  bif decide (r28 < 0) then
    some false
  else
  (F.laws_heldFrame r20.2 r28).bind fun r29 =>
  bif decide (r29 < 0) then
    some false
  else
  bif r29 != r20.1 then
    some false
  else
    some true
noncomputable def C.laws_FnExactIngress : Con := ⟨[.r (.val y7), .r (.val y23)], .one .bool, fun x => F.laws_FnExactIngress x.1 x.2.1⟩
def L.laws_FnExactIngress : Loops := fun _ => none
noncomputable def K.laws_FnExactIngress : Cons := lookK [(25, [], C.laws_szHouse), (27, [], C.laws_toHouse), (29, [], C.laws_eqHouse), (33, [], C.laws_markHouse), (38, [], C.laws_eqFrame), (39, [], C.laws_markFrame), (40, [], C.laws_heldFrame), (43, [], C.laws_heldHouse), (44, [], C.laws_szFrame), (45, [], C.spec_Ingress), (46, [], C.laws_toFrame), (47, [], C.impl_Ingress)]
theorem run.laws_FnExactIngress : ∀ x, runF tb K.laws_FnExactIngress L.laws_FnExactIngress [] Tryz.f9 C.laws_FnExactIngress x = C.laws_FnExactIngress.fn x := fun x => by kernel_rfl
end Go.Proofs.YtdnknkfnfnlajaaGreat.Vm
