import Derived.Test.YtdnknkfnfnlajaaGreatGfA
import Derived.KernelRfl
namespace Go.Proofs.YtdnknkfnfnlajaaGreat.Vm
open Go Go.RowKit
set_option maxRecDepth 100000
set_option linter.unusedVariables false

/-! ### laws.markEntryS: function 22 -/
noncomputable def F.laws_markEntryS.s2 : (Int × Int × (List DEntry) × Unit) → Option (Lp (Int × Int × (List DEntry) × Unit) (Int × (List DEntry))) := fun (x1, x2, x3, _) =>
  bif decide (x2 < (len x3)) then
    chk (inb x2 (List.length x3)) <|
    (some (List.set x3 ((Int.toNat x2)) ((x1, (List.getD x3 ((Int.toNat x2)) ((0, 0, [], (0, 0, 0, 0, [], [], [], ()), ()))).2)))).bind fun r4 =>
    chk (inb x2 (List.length r4)) <|
    (some (List.set r4 ((Int.toNat x2)) (((List.getD r4 ((Int.toNat x2)) ((0, 0, [], (0, 0, 0, 0, [], [], [], ()), ()))).1, w64 (x1 + 1), ((List.getD r4 ((Int.toNat x2)) ((0, 0, [], (0, 0, 0, 0, [], [], [], ()), ()))).2).2)))).bind fun r5 =>
    chk (inb x2 (List.length r5)) <|
    (F.laws_markSpanS ((((List.getD r5 ((Int.toNat x2)) ((0, 0, [], (0, 0, 0, 0, [], [], [], ()), ()))).2).2).1) (w64 ((w64 (x1 + 1)) + 1))).bind fun r6 =>
    (some (List.set r5 ((Int.toNat x2)) (((List.getD r5 ((Int.toNat x2)) ((0, 0, [], (0, 0, 0, 0, [], [], [], ()), ()))).1, ((List.getD r5 ((Int.toNat x2)) ((0, 0, [], (0, 0, 0, 0, [], [], [], ()), ()))).2).1, r6.2, (((List.getD r5 ((Int.toNat x2)) ((0, 0, [], (0, 0, 0, 0, [], [], [], ()), ()))).2).2).2)))).bind fun r7 =>
    chk (inb x2 (List.length r7)) <|
    (some (List.set r7 ((Int.toNat x2)) (((List.getD r7 ((Int.toNat x2)) ((0, 0, [], (0, 0, 0, 0, [], [], [], ()), ()))).1, ((List.getD r7 ((Int.toNat x2)) ((0, 0, [], (0, 0, 0, 0, [], [], [], ()), ()))).2).1, (((List.getD r7 ((Int.toNat x2)) ((0, 0, [], (0, 0, 0, 0, [], [], [], ()), ()))).2).2).1, (r6.1, (((((List.getD r7 ((Int.toNat x2)) ((0, 0, [], (0, 0, 0, 0, [], [], [], ()), ()))).2).2).2).1).2), ((((List.getD r7 ((Int.toNat x2)) ((0, 0, [], (0, 0, 0, 0, [], [], [], ()), ()))).2).2).2).2)))).bind fun r8 =>
    chk (inb x2 (List.length r8)) <|
    (some (List.set r8 ((Int.toNat x2)) (((List.getD r8 ((Int.toNat x2)) ((0, 0, [], (0, 0, 0, 0, [], [], [], ()), ()))).1, ((List.getD r8 ((Int.toNat x2)) ((0, 0, [], (0, 0, 0, 0, [], [], [], ()), ()))).2).1, (((List.getD r8 ((Int.toNat x2)) ((0, 0, [], (0, 0, 0, 0, [], [], [], ()), ()))).2).2).1, ((((((List.getD r8 ((Int.toNat x2)) ((0, 0, [], (0, 0, 0, 0, [], [], [], ()), ()))).2).2).2).1).1, w64 (r6.1 + 1), ((((((List.getD r8 ((Int.toNat x2)) ((0, 0, [], (0, 0, 0, 0, [], [], [], ()), ()))).2).2).2).1).2).2), ((((List.getD r8 ((Int.toNat x2)) ((0, 0, [], (0, 0, 0, 0, [], [], [], ()), ()))).2).2).2).2)))).bind fun r9 =>
    chk (inb x2 (List.length r9)) <|
    (some (List.set r9 ((Int.toNat x2)) (((List.getD r9 ((Int.toNat x2)) ((0, 0, [], (0, 0, 0, 0, [], [], [], ()), ()))).1, ((List.getD r9 ((Int.toNat x2)) ((0, 0, [], (0, 0, 0, 0, [], [], [], ()), ()))).2).1, (((List.getD r9 ((Int.toNat x2)) ((0, 0, [], (0, 0, 0, 0, [], [], [], ()), ()))).2).2).1, ((((((List.getD r9 ((Int.toNat x2)) ((0, 0, [], (0, 0, 0, 0, [], [], [], ()), ()))).2).2).2).1).1, ((((((List.getD r9 ((Int.toNat x2)) ((0, 0, [], (0, 0, 0, 0, [], [], [], ()), ()))).2).2).2).1).2).1, w64 ((w64 (r6.1 + 1)) + 1), (((((((List.getD r9 ((Int.toNat x2)) ((0, 0, [], (0, 0, 0, 0, [], [], [], ()), ()))).2).2).2).1).2).2).2), ((((List.getD r9 ((Int.toNat x2)) ((0, 0, [], (0, 0, 0, 0, [], [], [], ()), ()))).2).2).2).2)))).bind fun r10 =>
    chk (inb x2 (List.length r10)) <|
    (some (List.set r10 ((Int.toNat x2)) (((List.getD r10 ((Int.toNat x2)) ((0, 0, [], (0, 0, 0, 0, [], [], [], ()), ()))).1, ((List.getD r10 ((Int.toNat x2)) ((0, 0, [], (0, 0, 0, 0, [], [], [], ()), ()))).2).1, (((List.getD r10 ((Int.toNat x2)) ((0, 0, [], (0, 0, 0, 0, [], [], [], ()), ()))).2).2).1, ((((((List.getD r10 ((Int.toNat x2)) ((0, 0, [], (0, 0, 0, 0, [], [], [], ()), ()))).2).2).2).1).1, ((((((List.getD r10 ((Int.toNat x2)) ((0, 0, [], (0, 0, 0, 0, [], [], [], ()), ()))).2).2).2).1).2).1, (((((((List.getD r10 ((Int.toNat x2)) ((0, 0, [], (0, 0, 0, 0, [], [], [], ()), ()))).2).2).2).1).2).2).1, w64 ((w64 ((w64 (r6.1 + 1)) + 1)) + 1), ((((((((List.getD r10 ((Int.toNat x2)) ((0, 0, [], (0, 0, 0, 0, [], [], [], ()), ()))).2).2).2).1).2).2).2).2), ((((List.getD r10 ((Int.toNat x2)) ((0, 0, [], (0, 0, 0, 0, [], [], [], ()), ()))).2).2).2).2)))).bind fun r11 =>
    chk (inb x2 (List.length r11)) <|
    (F.laws_markIntS ((((((((((List.getD r11 ((Int.toNat x2)) ((0, 0, [], (0, 0, 0, 0, [], [], [], ()), ()))).2).2).2).1).2).2).2).2).1) (w64 ((w64 ((w64 ((w64 (r6.1 + 1)) + 1)) + 1)) + 1))).bind fun r12 =>
    (some (List.set r11 ((Int.toNat x2)) (((List.getD r11 ((Int.toNat x2)) ((0, 0, [], (0, 0, 0, 0, [], [], [], ()), ()))).1, ((List.getD r11 ((Int.toNat x2)) ((0, 0, [], (0, 0, 0, 0, [], [], [], ()), ()))).2).1, (((List.getD r11 ((Int.toNat x2)) ((0, 0, [], (0, 0, 0, 0, [], [], [], ()), ()))).2).2).1, ((((((List.getD r11 ((Int.toNat x2)) ((0, 0, [], (0, 0, 0, 0, [], [], [], ()), ()))).2).2).2).1).1, ((((((List.getD r11 ((Int.toNat x2)) ((0, 0, [], (0, 0, 0, 0, [], [], [], ()), ()))).2).2).2).1).2).1, (((((((List.getD r11 ((Int.toNat x2)) ((0, 0, [], (0, 0, 0, 0, [], [], [], ()), ()))).2).2).2).1).2).2).1, ((((((((List.getD r11 ((Int.toNat x2)) ((0, 0, [], (0, 0, 0, 0, [], [], [], ()), ()))).2).2).2).1).2).2).2).1, r12.2, (((((((((List.getD r11 ((Int.toNat x2)) ((0, 0, [], (0, 0, 0, 0, [], [], [], ()), ()))).2).2).2).1).2).2).2).2).2), ((((List.getD r11 ((Int.toNat x2)) ((0, 0, [], (0, 0, 0, 0, [], [], [], ()), ()))).2).2).2).2)))).bind fun r13 =>
    chk (inb x2 (List.length r13)) <|
    (F.laws_markIntS (((((((((((List.getD r13 ((Int.toNat x2)) ((0, 0, [], (0, 0, 0, 0, [], [], [], ()), ()))).2).2).2).1).2).2).2).2).2).1) r12.1).bind fun r14 =>
    (some (List.set r13 ((Int.toNat x2)) (((List.getD r13 ((Int.toNat x2)) ((0, 0, [], (0, 0, 0, 0, [], [], [], ()), ()))).1, ((List.getD r13 ((Int.toNat x2)) ((0, 0, [], (0, 0, 0, 0, [], [], [], ()), ()))).2).1, (((List.getD r13 ((Int.toNat x2)) ((0, 0, [], (0, 0, 0, 0, [], [], [], ()), ()))).2).2).1, ((((((List.getD r13 ((Int.toNat x2)) ((0, 0, [], (0, 0, 0, 0, [], [], [], ()), ()))).2).2).2).1).1, ((((((List.getD r13 ((Int.toNat x2)) ((0, 0, [], (0, 0, 0, 0, [], [], [], ()), ()))).2).2).2).1).2).1, (((((((List.getD r13 ((Int.toNat x2)) ((0, 0, [], (0, 0, 0, 0, [], [], [], ()), ()))).2).2).2).1).2).2).1, ((((((((List.getD r13 ((Int.toNat x2)) ((0, 0, [], (0, 0, 0, 0, [], [], [], ()), ()))).2).2).2).1).2).2).2).1, (((((((((List.getD r13 ((Int.toNat x2)) ((0, 0, [], (0, 0, 0, 0, [], [], [], ()), ()))).2).2).2).1).2).2).2).2).1, r14.2, ((((((((((List.getD r13 ((Int.toNat x2)) ((0, 0, [], (0, 0, 0, 0, [], [], [], ()), ()))).2).2).2).1).2).2).2).2).2).2), ((((List.getD r13 ((Int.toNat x2)) ((0, 0, [], (0, 0, 0, 0, [], [], [], ()), ()))).2).2).2).2)))).bind fun r15 =>
    chk (inb x2 (List.length r15)) <|
    (F.laws_markIntSS ((((((((((((List.getD r15 ((Int.toNat x2)) ((0, 0, [], (0, 0, 0, 0, [], [], [], ()), ()))).2).2).2).1).2).2).2).2).2).2).1) r14.1).bind fun r16 =>
    (some (List.set r15 ((Int.toNat x2)) (((List.getD r15 ((Int.toNat x2)) ((0, 0, [], (0, 0, 0, 0, [], [], [], ()), ()))).1, ((List.getD r15 ((Int.toNat x2)) ((0, 0, [], (0, 0, 0, 0, [], [], [], ()), ()))).2).1, (((List.getD r15 ((Int.toNat x2)) ((0, 0, [], (0, 0, 0, 0, [], [], [], ()), ()))).2).2).1, ((((((List.getD r15 ((Int.toNat x2)) ((0, 0, [], (0, 0, 0, 0, [], [], [], ()), ()))).2).2).2).1).1, ((((((List.getD r15 ((Int.toNat x2)) ((0, 0, [], (0, 0, 0, 0, [], [], [], ()), ()))).2).2).2).1).2).1, (((((((List.getD r15 ((Int.toNat x2)) ((0, 0, [], (0, 0, 0, 0, [], [], [], ()), ()))).2).2).2).1).2).2).1, ((((((((List.getD r15 ((Int.toNat x2)) ((0, 0, [], (0, 0, 0, 0, [], [], [], ()), ()))).2).2).2).1).2).2).2).1, (((((((((List.getD r15 ((Int.toNat x2)) ((0, 0, [], (0, 0, 0, 0, [], [], [], ()), ()))).2).2).2).1).2).2).2).2).1, ((((((((((List.getD r15 ((Int.toNat x2)) ((0, 0, [], (0, 0, 0, 0, [], [], [], ()), ()))).2).2).2).1).2).2).2).2).2).1, r16.2, (((((((((((List.getD r15 ((Int.toNat x2)) ((0, 0, [], (0, 0, 0, 0, [], [], [], ()), ()))).2).2).2).1).2).2).2).2).2).2).2), ((((List.getD r15 ((Int.toNat x2)) ((0, 0, [], (0, 0, 0, 0, [], [], [], ()), ()))).2).2).2).2)))).bind fun r17 =>
    some (.again (r16.1, w64 (x2 + 1), r17, ()))
  else
    some (.exit (x1, x2, x3, ()))
noncomputable def F.laws_markEntryS (a0 : List DEntry) (a1 : Int) : Option (Int × (List DEntry)) :=
  afterO (loopO F.laws_markEntryS.s2 (a1, 0, a0, ())) fun (x18, x19, x20, _) =>
  some (x18, x20)
noncomputable def C.laws_markEntryS : Con := ⟨[.c (.sl true 31 y13), .r (.val (.int .i64))], .one (.int .i64), fun x => F.laws_markEntryS x.1 x.2.1⟩
def L.laws_markEntryS : Loops := lookL [(2, ⟨[.pat 1 (.val (.int .i64)), .pat 5 (.val (.int .i64)), .root 0 false (.sl true 31 y13) [0]], 0⟩)]
noncomputable def K.laws_markEntryS : Cons := lookK [(34, [], C.laws_markIntS), (82, [], C.laws_markSpanS), (83, [], C.laws_markIntSS)]
theorem run.laws_markEntryS : ∀ x, runF tb K.laws_markEntryS L.laws_markEntryS [0] Tryz.f22 C.laws_markEntryS x = C.laws_markEntryS.fn x := fun x => by kernel_rfl

/-! ### laws.markRowS: function 232 -/
noncomputable def F.laws_markRowS.s2 : (Int × Int × (List DRow) × Unit) → Option (Lp (Int × Int × (List DRow) × Unit) (Int × (List DRow))) := fun (x1, x2, x3, _) =>
  bif decide (x2 < (len x3)) then
    chk (inb x2 (List.length x3)) <|
    (F.laws_markEntryS ((List.getD x3 ((Int.toNat x2)) (([], ()))).1) x1).bind fun r4 =>
    some (.again (r4.1, w64 (x2 + 1), List.set x3 ((Int.toNat x2)) ((r4.2, (List.getD x3 ((Int.toNat x2)) (([], ()))).2)), ()))
  else
    some (.exit (x1, x2, x3, ()))
noncomputable def F.laws_markRowS (a0 : List DRow) (a1 : Int) : Option (Int × (List DRow)) :=
  afterO (loopO F.laws_markRowS.s2 (a1, 0, a0, ())) fun (x5, x6, x7, _) =>
  some (x5, x7)
noncomputable def C.laws_markRowS : Con := ⟨[.c (.sl true 105 (.cons (.sl true 31 y13) .nil)), .r (.val (.int .i64))], .one (.int .i64), fun x => F.laws_markRowS x.1 x.2.1⟩
def L.laws_markRowS : Loops := lookL [(2, ⟨[.pat 1 (.val (.int .i64)), .pat 5 (.val (.int .i64)), .root 0 false (.sl true 105 (.cons (.sl true 31 y13) .nil)) [0]], 0⟩)]
noncomputable def K.laws_markRowS : Cons := lookK [(22, [], C.laws_markEntryS)]
theorem run.laws_markRowS : ∀ x, runF tb K.laws_markRowS L.laws_markRowS [0] Tryz.f232 C.laws_markRowS x = C.laws_markRowS.fn x := fun x => by kernel_rfl

/-! ### laws.markRowSS: function 127 -/
noncomputable def F.laws_markRowSS.s2 : (Int × Int × (List (List DRow)) × Unit) → Option (Lp (Int × Int × (List (List DRow)) × Unit) (Int × (List (List DRow)))) := fun (x1, x2, x3, _) =>
  bif decide (x2 < (len x3)) then
    chk (inb x2 (List.length x3)) <|
    (F.laws_markRowS (List.getD x3 ((Int.toNat x2)) ([])) x1).bind fun r4 =>
    some (.again (r4.1, w64 (x2 + 1), List.set x3 ((Int.toNat x2)) r4.2, ()))
  else
    some (.exit (x1, x2, x3, ()))
noncomputable def F.laws_markRowSS (a0 : List (List DRow)) (a1 : Int) : Option (Int × (List (List DRow))) :=
  afterO (loopO F.laws_markRowSS.s2 (a1, 0, a0, ())) fun (x5, x6, x7, _) =>
  some (x5, x7)
noncomputable def C.laws_markRowSS : Con := ⟨[.c (.sl true 159 (.sl true 105 (.cons (.sl true 31 y13) .nil))), .r (.val (.int .i64))], .one (.int .i64), fun x => F.laws_markRowSS x.1 x.2.1⟩
def L.laws_markRowSS : Loops := lookL [(2, ⟨[.pat 1 (.val (.int .i64)), .pat 5 (.val (.int .i64)), .root 0 false (.sl true 159 (.sl true 105 (.cons (.sl true 31 y13) .nil))) [0]], 0⟩)]
noncomputable def K.laws_markRowSS : Cons := lookK [(232, [], C.laws_markRowS)]
theorem run.laws_markRowSS : ∀ x, runF tb K.laws_markRowSS L.laws_markRowSS [0] Tryz.f127 C.laws_markRowSS x = C.laws_markRowSS.fn x := fun x => by kernel_rfl

/-! ### laws.markTurnS: function 128 -/
noncomputable def F.laws_markTurnS.s2 : (Int × Int × (List DTurn) × Unit) → Option (Lp (Int × Int × (List DTurn) × Unit) (Int × (List DTurn))) := fun (x1, x2, x3, _) =>
  bif decide (x2 < (len x3)) then
    chk (inb x2 (List.length x3)) <|
    chk (inb x2 (List.length (List.set x3 ((Int.toNat x2)) ((x1, (List.getD x3 ((Int.toNat x2)) ((0, false, [], ()))).2))))) <|
    (some (List.set (List.set x3 ((Int.toNat x2)) ((x1, (List.getD x3 ((Int.toNat x2)) ((0, false, [], ()))).2))) ((Int.toNat x2)) (((List.getD (List.set x3 ((Int.toNat x2)) ((x1, (List.getD x3 ((Int.toNat x2)) ((0, false, [], ()))).2))) ((Int.toNat x2)) ((0, false, [], ()))).1, (Int.tmod (w64 (x1 + 1)) 3) == 0, ((List.getD (List.set x3 ((Int.toNat x2)) ((x1, (List.getD x3 ((Int.toNat x2)) ((0, false, [], ()))).2))) ((Int.toNat x2)) ((0, false, [], ()))).2).2)))).bind fun r4 =>
    chk (inb x2 (List.length r4)) <|
    (F.laws_markIntS ((((List.getD r4 ((Int.toNat x2)) ((0, false, [], ()))).2).2).1) (w64 ((w64 (x1 + 1)) + 1))).bind fun r5 =>
    (some (List.set r4 ((Int.toNat x2)) (((List.getD r4 ((Int.toNat x2)) ((0, false, [], ()))).1, ((List.getD r4 ((Int.toNat x2)) ((0, false, [], ()))).2).1, r5.2, (((List.getD r4 ((Int.toNat x2)) ((0, false, [], ()))).2).2).2)))).bind fun r6 =>
    some (.again (r5.1, w64 (x2 + 1), r6, ()))
  else
    some (.exit (x1, x2, x3, ()))
noncomputable def F.laws_markTurnS (a0 : List DTurn) (a1 : Int) : Option (Int × (List DTurn)) :=
  afterO (loopO F.laws_markTurnS.s2 (a1, 0, a0, ())) fun (x7, x8, x9, _) =>
  some (x7, x9)
noncomputable def C.laws_markTurnS : Con := ⟨[.c (.sl true 175 y14), .r (.val (.int .i64))], .one (.int .i64), fun x => F.laws_markTurnS x.1 x.2.1⟩
def L.laws_markTurnS : Loops := lookL [(2, ⟨[.pat 1 (.val (.int .i64)), .pat 5 (.val (.int .i64)), .root 0 false (.sl true 175 y14) [0]], 0⟩)]
noncomputable def K.laws_markTurnS : Cons := lookK [(34, [], C.laws_markIntS)]
theorem run.laws_markTurnS : ∀ x, runF tb K.laws_markTurnS L.laws_markTurnS [0] Tryz.f128 C.laws_markTurnS x = C.laws_markTurnS.fn x := fun x => by kernel_rfl

/-! ### laws.markOutS: function 129 -/
noncomputable def F.laws_markOutS.s2 : (Int × Int × (List DOut) × Unit) → Option (Lp (Int × Int × (List DOut) × Unit) (Int × (List DOut))) := fun (x1, x2, x3, _) =>
  bif decide (x2 < (len x3)) then
    chk (inb x2 (List.length x3)) <|
    (some (List.set x3 ((Int.toNat x2)) ((x1, (List.getD x3 ((Int.toNat x2)) ((0, (0, 0, [], (0, 0, 0, 0, [], [], [], ()), ()), ()))).2)))).bind fun r4 =>
    chk (inb x2 (List.length r4)) <|
    (some (List.set r4 ((Int.toNat x2)) (((List.getD r4 ((Int.toNat x2)) ((0, (0, 0, [], (0, 0, 0, 0, [], [], [], ()), ()), ()))).1, (w64 (x1 + 1), (((List.getD r4 ((Int.toNat x2)) ((0, (0, 0, [], (0, 0, 0, 0, [], [], [], ()), ()), ()))).2).1).2), ((List.getD r4 ((Int.toNat x2)) ((0, (0, 0, [], (0, 0, 0, 0, [], [], [], ()), ()), ()))).2).2)))).bind fun r5 =>
    chk (inb x2 (List.length r5)) <|
    (some (List.set r5 ((Int.toNat x2)) (((List.getD r5 ((Int.toNat x2)) ((0, (0, 0, [], (0, 0, 0, 0, [], [], [], ()), ()), ()))).1, ((((List.getD r5 ((Int.toNat x2)) ((0, (0, 0, [], (0, 0, 0, 0, [], [], [], ()), ()), ()))).2).1).1, w64 ((w64 (x1 + 1)) + 1), ((((List.getD r5 ((Int.toNat x2)) ((0, (0, 0, [], (0, 0, 0, 0, [], [], [], ()), ()), ()))).2).1).2).2), ((List.getD r5 ((Int.toNat x2)) ((0, (0, 0, [], (0, 0, 0, 0, [], [], [], ()), ()), ()))).2).2)))).bind fun r6 =>
    chk (inb x2 (List.length r6)) <|
    (F.laws_markSpanS ((((((List.getD r6 ((Int.toNat x2)) ((0, (0, 0, [], (0, 0, 0, 0, [], [], [], ()), ()), ()))).2).1).2).2).1) (w64 ((w64 ((w64 (x1 + 1)) + 1)) + 1))).bind fun r7 =>
    (some (List.set r6 ((Int.toNat x2)) (((List.getD r6 ((Int.toNat x2)) ((0, (0, 0, [], (0, 0, 0, 0, [], [], [], ()), ()), ()))).1, ((((List.getD r6 ((Int.toNat x2)) ((0, (0, 0, [], (0, 0, 0, 0, [], [], [], ()), ()), ()))).2).1).1, ((((List.getD r6 ((Int.toNat x2)) ((0, (0, 0, [], (0, 0, 0, 0, [], [], [], ()), ()), ()))).2).1).2).1, r7.2, (((((List.getD r6 ((Int.toNat x2)) ((0, (0, 0, [], (0, 0, 0, 0, [], [], [], ()), ()), ()))).2).1).2).2).2), ((List.getD r6 ((Int.toNat x2)) ((0, (0, 0, [], (0, 0, 0, 0, [], [], [], ()), ()), ()))).2).2)))).bind fun r8 =>
    chk (inb x2 (List.length r8)) <|
    (some (List.set r8 ((Int.toNat x2)) (((List.getD r8 ((Int.toNat x2)) ((0, (0, 0, [], (0, 0, 0, 0, [], [], [], ()), ()), ()))).1, ((((List.getD r8 ((Int.toNat x2)) ((0, (0, 0, [], (0, 0, 0, 0, [], [], [], ()), ()), ()))).2).1).1, ((((List.getD r8 ((Int.toNat x2)) ((0, (0, 0, [], (0, 0, 0, 0, [], [], [], ()), ()), ()))).2).1).2).1, (((((List.getD r8 ((Int.toNat x2)) ((0, (0, 0, [], (0, 0, 0, 0, [], [], [], ()), ()), ()))).2).1).2).2).1, (r7.1, (((((((List.getD r8 ((Int.toNat x2)) ((0, (0, 0, [], (0, 0, 0, 0, [], [], [], ()), ()), ()))).2).1).2).2).2).1).2), ((((((List.getD r8 ((Int.toNat x2)) ((0, (0, 0, [], (0, 0, 0, 0, [], [], [], ()), ()), ()))).2).1).2).2).2).2), ((List.getD r8 ((Int.toNat x2)) ((0, (0, 0, [], (0, 0, 0, 0, [], [], [], ()), ()), ()))).2).2)))).bind fun r9 =>
    chk (inb x2 (List.length r9)) <|
    (some (List.set r9 ((Int.toNat x2)) (((List.getD r9 ((Int.toNat x2)) ((0, (0, 0, [], (0, 0, 0, 0, [], [], [], ()), ()), ()))).1, ((((List.getD r9 ((Int.toNat x2)) ((0, (0, 0, [], (0, 0, 0, 0, [], [], [], ()), ()), ()))).2).1).1, ((((List.getD r9 ((Int.toNat x2)) ((0, (0, 0, [], (0, 0, 0, 0, [], [], [], ()), ()), ()))).2).1).2).1, (((((List.getD r9 ((Int.toNat x2)) ((0, (0, 0, [], (0, 0, 0, 0, [], [], [], ()), ()), ()))).2).1).2).2).1, ((((((((List.getD r9 ((Int.toNat x2)) ((0, (0, 0, [], (0, 0, 0, 0, [], [], [], ()), ()), ()))).2).1).2).2).2).1).1, w64 (r7.1 + 1), ((((((((List.getD r9 ((Int.toNat x2)) ((0, (0, 0, [], (0, 0, 0, 0, [], [], [], ()), ()), ()))).2).1).2).2).2).1).2).2), ((((((List.getD r9 ((Int.toNat x2)) ((0, (0, 0, [], (0, 0, 0, 0, [], [], [], ()), ()), ()))).2).1).2).2).2).2), ((List.getD r9 ((Int.toNat x2)) ((0, (0, 0, [], (0, 0, 0, 0, [], [], [], ()), ()), ()))).2).2)))).bind fun r10 =>
    chk (inb x2 (List.length r10)) <|
    (some (List.set r10 ((Int.toNat x2)) (((List.getD r10 ((Int.toNat x2)) ((0, (0, 0, [], (0, 0, 0, 0, [], [], [], ()), ()), ()))).1, ((((List.getD r10 ((Int.toNat x2)) ((0, (0, 0, [], (0, 0, 0, 0, [], [], [], ()), ()), ()))).2).1).1, ((((List.getD r10 ((Int.toNat x2)) ((0, (0, 0, [], (0, 0, 0, 0, [], [], [], ()), ()), ()))).2).1).2).1, (((((List.getD r10 ((Int.toNat x2)) ((0, (0, 0, [], (0, 0, 0, 0, [], [], [], ()), ()), ()))).2).1).2).2).1, ((((((((List.getD r10 ((Int.toNat x2)) ((0, (0, 0, [], (0, 0, 0, 0, [], [], [], ()), ()), ()))).2).1).2).2).2).1).1, ((((((((List.getD r10 ((Int.toNat x2)) ((0, (0, 0, [], (0, 0, 0, 0, [], [], [], ()), ()), ()))).2).1).2).2).2).1).2).1, w64 ((w64 (r7.1 + 1)) + 1), (((((((((List.getD r10 ((Int.toNat x2)) ((0, (0, 0, [], (0, 0, 0, 0, [], [], [], ()), ()), ()))).2).1).2).2).2).1).2).2).2), ((((((List.getD r10 ((Int.toNat x2)) ((0, (0, 0, [], (0, 0, 0, 0, [], [], [], ()), ()), ()))).2).1).2).2).2).2), ((List.getD r10 ((Int.toNat x2)) ((0, (0, 0, [], (0, 0, 0, 0, [], [], [], ()), ()), ()))).2).2)))).bind fun r11 =>
    chk (inb x2 (List.length r11)) <|
    (some (List.set r11 ((Int.toNat x2)) (((List.getD r11 ((Int.toNat x2)) ((0, (0, 0, [], (0, 0, 0, 0, [], [], [], ()), ()), ()))).1, ((((List.getD r11 ((Int.toNat x2)) ((0, (0, 0, [], (0, 0, 0, 0, [], [], [], ()), ()), ()))).2).1).1, ((((List.getD r11 ((Int.toNat x2)) ((0, (0, 0, [], (0, 0, 0, 0, [], [], [], ()), ()), ()))).2).1).2).1, (((((List.getD r11 ((Int.toNat x2)) ((0, (0, 0, [], (0, 0, 0, 0, [], [], [], ()), ()), ()))).2).1).2).2).1, ((((((((List.getD r11 ((Int.toNat x2)) ((0, (0, 0, [], (0, 0, 0, 0, [], [], [], ()), ()), ()))).2).1).2).2).2).1).1, ((((((((List.getD r11 ((Int.toNat x2)) ((0, (0, 0, [], (0, 0, 0, 0, [], [], [], ()), ()), ()))).2).1).2).2).2).1).2).1, (((((((((List.getD r11 ((Int.toNat x2)) ((0, (0, 0, [], (0, 0, 0, 0, [], [], [], ()), ()), ()))).2).1).2).2).2).1).2).2).1, w64 ((w64 ((w64 (r7.1 + 1)) + 1)) + 1), ((((((((((List.getD r11 ((Int.toNat x2)) ((0, (0, 0, [], (0, 0, 0, 0, [], [], [], ()), ()), ()))).2).1).2).2).2).1).2).2).2).2), ((((((List.getD r11 ((Int.toNat x2)) ((0, (0, 0, [], (0, 0, 0, 0, [], [], [], ()), ()), ()))).2).1).2).2).2).2), ((List.getD r11 ((Int.toNat x2)) ((0, (0, 0, [], (0, 0, 0, 0, [], [], [], ()), ()), ()))).2).2)))).bind fun r12 =>
    chk (inb x2 (List.length r12)) <|
    (F.laws_markIntS ((((((((((((List.getD r12 ((Int.toNat x2)) ((0, (0, 0, [], (0, 0, 0, 0, [], [], [], ()), ()), ()))).2).1).2).2).2).1).2).2).2).2).1) (w64 ((w64 ((w64 ((w64 (r7.1 + 1)) + 1)) + 1)) + 1))).bind fun r13 =>
    (some (List.set r12 ((Int.toNat x2)) (((List.getD r12 ((Int.toNat x2)) ((0, (0, 0, [], (0, 0, 0, 0, [], [], [], ()), ()), ()))).1, ((((List.getD r12 ((Int.toNat x2)) ((0, (0, 0, [], (0, 0, 0, 0, [], [], [], ()), ()), ()))).2).1).1, ((((List.getD r12 ((Int.toNat x2)) ((0, (0, 0, [], (0, 0, 0, 0, [], [], [], ()), ()), ()))).2).1).2).1, (((((List.getD r12 ((Int.toNat x2)) ((0, (0, 0, [], (0, 0, 0, 0, [], [], [], ()), ()), ()))).2).1).2).2).1, ((((((((List.getD r12 ((Int.toNat x2)) ((0, (0, 0, [], (0, 0, 0, 0, [], [], [], ()), ()), ()))).2).1).2).2).2).1).1, ((((((((List.getD r12 ((Int.toNat x2)) ((0, (0, 0, [], (0, 0, 0, 0, [], [], [], ()), ()), ()))).2).1).2).2).2).1).2).1, (((((((((List.getD r12 ((Int.toNat x2)) ((0, (0, 0, [], (0, 0, 0, 0, [], [], [], ()), ()), ()))).2).1).2).2).2).1).2).2).1, ((((((((((List.getD r12 ((Int.toNat x2)) ((0, (0, 0, [], (0, 0, 0, 0, [], [], [], ()), ()), ()))).2).1).2).2).2).1).2).2).2).1, r13.2, (((((((((((List.getD r12 ((Int.toNat x2)) ((0, (0, 0, [], (0, 0, 0, 0, [], [], [], ()), ()), ()))).2).1).2).2).2).1).2).2).2).2).2), ((((((List.getD r12 ((Int.toNat x2)) ((0, (0, 0, [], (0, 0, 0, 0, [], [], [], ()), ()), ()))).2).1).2).2).2).2), ((List.getD r12 ((Int.toNat x2)) ((0, (0, 0, [], (0, 0, 0, 0, [], [], [], ()), ()), ()))).2).2)))).bind fun r14 =>
    chk (inb x2 (List.length r14)) <|
    (F.laws_markIntS (((((((((((((List.getD r14 ((Int.toNat x2)) ((0, (0, 0, [], (0, 0, 0, 0, [], [], [], ()), ()), ()))).2).1).2).2).2).1).2).2).2).2).2).1) r13.1).bind fun r15 =>
    (some (List.set r14 ((Int.toNat x2)) (((List.getD r14 ((Int.toNat x2)) ((0, (0, 0, [], (0, 0, 0, 0, [], [], [], ()), ()), ()))).1, ((((List.getD r14 ((Int.toNat x2)) ((0, (0, 0, [], (0, 0, 0, 0, [], [], [], ()), ()), ()))).2).1).1, ((((List.getD r14 ((Int.toNat x2)) ((0, (0, 0, [], (0, 0, 0, 0, [], [], [], ()), ()), ()))).2).1).2).1, (((((List.getD r14 ((Int.toNat x2)) ((0, (0, 0, [], (0, 0, 0, 0, [], [], [], ()), ()), ()))).2).1).2).2).1, ((((((((List.getD r14 ((Int.toNat x2)) ((0, (0, 0, [], (0, 0, 0, 0, [], [], [], ()), ()), ()))).2).1).2).2).2).1).1, ((((((((List.getD r14 ((Int.toNat x2)) ((0, (0, 0, [], (0, 0, 0, 0, [], [], [], ()), ()), ()))).2).1).2).2).2).1).2).1, (((((((((List.getD r14 ((Int.toNat x2)) ((0, (0, 0, [], (0, 0, 0, 0, [], [], [], ()), ()), ()))).2).1).2).2).2).1).2).2).1, ((((((((((List.getD r14 ((Int.toNat x2)) ((0, (0, 0, [], (0, 0, 0, 0, [], [], [], ()), ()), ()))).2).1).2).2).2).1).2).2).2).1, (((((((((((List.getD r14 ((Int.toNat x2)) ((0, (0, 0, [], (0, 0, 0, 0, [], [], [], ()), ()), ()))).2).1).2).2).2).1).2).2).2).2).1, r15.2, ((((((((((((List.getD r14 ((Int.toNat x2)) ((0, (0, 0, [], (0, 0, 0, 0, [], [], [], ()), ()), ()))).2).1).2).2).2).1).2).2).2).2).2).2), ((((((List.getD r14 ((Int.toNat x2)) ((0, (0, 0, [], (0, 0, 0, 0, [], [], [], ()), ()), ()))).2).1).2).2).2).2), ((List.getD r14 ((Int.toNat x2)) ((0, (0, 0, [], (0, 0, 0, 0, [], [], [], ()), ()), ()))).2).2)))).bind fun r16 =>
    chk (inb x2 (List.length r16)) <|
    (F.laws_markIntSS ((((((((((((((List.getD r16 ((Int.toNat x2)) ((0, (0, 0, [], (0, 0, 0, 0, [], [], [], ()), ()), ()))).2).1).2).2).2).1).2).2).2).2).2).2).1) r15.1).bind fun r17 =>
    (some (List.set r16 ((Int.toNat x2)) (((List.getD r16 ((Int.toNat x2)) ((0, (0, 0, [], (0, 0, 0, 0, [], [], [], ()), ()), ()))).1, ((((List.getD r16 ((Int.toNat x2)) ((0, (0, 0, [], (0, 0, 0, 0, [], [], [], ()), ()), ()))).2).1).1, ((((List.getD r16 ((Int.toNat x2)) ((0, (0, 0, [], (0, 0, 0, 0, [], [], [], ()), ()), ()))).2).1).2).1, (((((List.getD r16 ((Int.toNat x2)) ((0, (0, 0, [], (0, 0, 0, 0, [], [], [], ()), ()), ()))).2).1).2).2).1, ((((((((List.getD r16 ((Int.toNat x2)) ((0, (0, 0, [], (0, 0, 0, 0, [], [], [], ()), ()), ()))).2).1).2).2).2).1).1, ((((((((List.getD r16 ((Int.toNat x2)) ((0, (0, 0, [], (0, 0, 0, 0, [], [], [], ()), ()), ()))).2).1).2).2).2).1).2).1, (((((((((List.getD r16 ((Int.toNat x2)) ((0, (0, 0, [], (0, 0, 0, 0, [], [], [], ()), ()), ()))).2).1).2).2).2).1).2).2).1, ((((((((((List.getD r16 ((Int.toNat x2)) ((0, (0, 0, [], (0, 0, 0, 0, [], [], [], ()), ()), ()))).2).1).2).2).2).1).2).2).2).1, (((((((((((List.getD r16 ((Int.toNat x2)) ((0, (0, 0, [], (0, 0, 0, 0, [], [], [], ()), ()), ()))).2).1).2).2).2).1).2).2).2).2).1, ((((((((((((List.getD r16 ((Int.toNat x2)) ((0, (0, 0, [], (0, 0, 0, 0, [], [], [], ()), ()), ()))).2).1).2).2).2).1).2).2).2).2).2).1, r17.2, (((((((((((((List.getD r16 ((Int.toNat x2)) ((0, (0, 0, [], (0, 0, 0, 0, [], [], [], ()), ()), ()))).2).1).2).2).2).1).2).2).2).2).2).2).2), ((((((List.getD r16 ((Int.toNat x2)) ((0, (0, 0, [], (0, 0, 0, 0, [], [], [], ()), ()), ()))).2).1).2).2).2).2), ((List.getD r16 ((Int.toNat x2)) ((0, (0, 0, [], (0, 0, 0, 0, [], [], [], ()), ()), ()))).2).2)))).bind fun r18 =>
    some (.again (r17.1, w64 (x2 + 1), r18, ()))
  else
    some (.exit (x1, x2, x3, ()))
noncomputable def F.laws_markOutS (a0 : List DOut) (a1 : Int) : Option (Int × (List DOut)) :=
  afterO (loopO F.laws_markOutS.s2 (a1, 0, a0, ())) fun (x19, x20, x21, _) =>
  some (x19, x21)
noncomputable def C.laws_markOutS : Con := ⟨[.c (.sl true 137 y15), .r (.val (.int .i64))], .one (.int .i64), fun x => F.laws_markOutS x.1 x.2.1⟩
def L.laws_markOutS : Loops := lookL [(2, ⟨[.pat 1 (.val (.int .i64)), .pat 5 (.val (.int .i64)), .root 0 false (.sl true 137 y15) [0]], 0⟩)]
noncomputable def K.laws_markOutS : Cons := lookK [(34, [], C.laws_markIntS), (82, [], C.laws_markSpanS), (83, [], C.laws_markIntSS)]
theorem run.laws_markOutS : ∀ x, runF tb K.laws_markOutS L.laws_markOutS [0] Tryz.f129 C.laws_markOutS x = C.laws_markOutS.fn x := fun x => by kernel_rfl

/-! ### laws.markHouse: function 33 -/
noncomputable def F.laws_markHouse (a0 : DHouse) (a1 : Int) : Option (Int × DHouse) :=
  (F.laws_markConf a0.1 a1).bind fun r1 =>
  (F.laws_markSeatS a0.2.2.2.1 r1.1).bind fun r2 =>
  (F.laws_markRowSS a0.2.2.2.2.1 r2.1).bind fun r3 =>
  (F.laws_markTurnS a0.2.2.2.2.2.1 r3.1).bind fun r4 =>
  (F.laws_markEntryS a0.2.2.2.2.2.2.2.1 r4.1).bind fun r5 =>
  (F.laws_markOutS a0.2.2.2.2.2.2.2.2.1 r5.1).bind fun r6 =>
  some (r6.1, (r1.2, a0.2.1, a0.2.2.1, r2.2, r3.2, r4.2, a0.2.2.2.2.2.2.1, r5.2, r6.2, a0.2.2.2.2.2.2.2.2.2))
noncomputable def C.laws_markHouse : Con := ⟨[.c y16, .r (.val (.int .i64))], .one (.int .i64), fun x => F.laws_markHouse x.1 x.2.1⟩
def L.laws_markHouse : Loops := fun _ => none
noncomputable def K.laws_markHouse : Cons := lookK [(22, [], C.laws_markEntryS), (125, [], C.laws_markConf), (126, [], C.laws_markSeatS), (127, [], C.laws_markRowSS), (128, [], C.laws_markTurnS), (129, [], C.laws_markOutS)]
theorem run.laws_markHouse : ∀ x, runF tb K.laws_markHouse L.laws_markHouse [2] Tryz.f33 C.laws_markHouse x = C.laws_markHouse.fn x := fun x => by kernel_rfl

/-! ### laws.markSketch: function 84 -/
noncomputable def F.laws_markSketch (a0 : DSketch) (a1 : Int) : Option (Int × DSketch) :=
  (F.laws_markIntS a0.2.2.2.2.1 a1).bind fun r1 =>
  (F.laws_markIntS a0.2.2.2.2.2.1 r1.1).bind fun r2 =>
  (F.laws_markIntSS a0.2.2.2.2.2.2.1 r2.1).bind fun r3 =>
  some (r3.1, (a0.1, a0.2.1, a0.2.2.1, a0.2.2.2.1, r1.2, r2.2, r3.2, a0.2.2.2.2.2.2.2))
noncomputable def C.laws_markSketch : Con := ⟨[.c y12, .r (.val (.int .i64))], .one (.int .i64), fun x => F.laws_markSketch x.1 x.2.1⟩
def L.laws_markSketch : Loops := fun _ => none
noncomputable def K.laws_markSketch : Cons := lookK [(34, [], C.laws_markIntS), (83, [], C.laws_markIntSS)]
theorem run.laws_markSketch : ∀ x, runF tb K.laws_markSketch L.laws_markSketch [2] Tryz.f84 C.laws_markSketch x = C.laws_markSketch.fn x := fun x => by kernel_rfl

/-! ### laws.markItem: function 134 -/
noncomputable def F.laws_markItem (a0 : DItem) (a1 : Int) : Option (Int × DItem) :=
  (F.laws_markSketch a0.2.2.2.2.1 a1).bind fun r1 =>
  some (r1.1, (a0.1, a0.2.1, a0.2.2.1, a0.2.2.2.1, r1.2, a0.2.2.2.2.2))
noncomputable def C.laws_markItem : Con := ⟨[.c y17, .r (.val (.int .i64))], .one (.int .i64), fun x => F.laws_markItem x.1 x.2.1⟩
def L.laws_markItem : Loops := fun _ => none
noncomputable def K.laws_markItem : Cons := lookK [(84, [], C.laws_markSketch)]
theorem run.laws_markItem : ∀ x, runF tb K.laws_markItem L.laws_markItem [2] Tryz.f134 C.laws_markItem x = C.laws_markItem.fn x := fun x => by kernel_rfl

/-! ### laws.markFrame: function 39 -/
noncomputable def F.laws_markFrame (a0 : DFrame) (a1 : Int) : Option (Int × DFrame) :=
  (F.laws_markSpanS a0.2.2.2.2.1 a1).bind fun r1 =>
  (F.laws_markItem a0.2.2.2.2.2.1 r1.1).bind fun r2 =>
  some (r2.1, (a0.1, a0.2.1, a0.2.2.1, a0.2.2.2.1, r1.2, r2.2, a0.2.2.2.2.2.2))
noncomputable def C.laws_markFrame : Con := ⟨[.c y18, .r (.val (.int .i64))], .one (.int .i64), fun x => F.laws_markFrame x.1 x.2.1⟩
def L.laws_markFrame : Loops := fun _ => none
noncomputable def K.laws_markFrame : Cons := lookK [(82, [], C.laws_markSpanS), (134, [], C.laws_markItem)]
theorem run.laws_markFrame : ∀ x, runF tb K.laws_markFrame L.laws_markFrame [2] Tryz.f39 C.laws_markFrame x = C.laws_markFrame.fn x := fun x => by kernel_rfl

/-! ### laws.heldIntS: function 35 -/
noncomputable def F.laws_heldIntS.s2 : ((List Int) × Int × Int × Unit) → Option (Lp ((List Int) × Int × Int × Unit) Int) := fun (x1, x2, x3, _) =>
  bif decide (x3 < (len x1)) then
    chk (inb x3 (List.length x1)) <|
    bif (List.getD x1 ((Int.toNat x3)) 0) != x2 then
      some (.ret (-1))
    else
      some (.again (x1, w64 (x2 + 1), w64 (x3 + 1), ()))
  else
    some (.exit (x1, x2, x3, ()))
noncomputable def F.laws_heldIntS (a0 : List Int) (a1 : Int) : Option Int :=
  afterO (loopO F.laws_heldIntS.s2 (a0, a1, 0, ())) fun (x4, x5, x6, _) =>
  some x5
noncomputable def C.laws_heldIntS : Con := ⟨[.r (.val (.sl false 3 (.int .i64))), .r (.val (.int .i64))], .one (.int .i64), fun x => F.laws_heldIntS x.1 x.2.1⟩
def L.laws_heldIntS : Loops := lookL [(2, ⟨[.pat 0 (.val (.sl false 3 (.int .i64))), .pat 1 (.val (.int .i64)), .pat 5 (.val (.int .i64))], 0⟩)]
noncomputable def K.laws_heldIntS : Cons := lookK []
theorem run.laws_heldIntS : ∀ x, runF tb K.laws_heldIntS L.laws_heldIntS [] Tryz.f35 C.laws_heldIntS x = C.laws_heldIntS.fn x := fun x => by kernel_rfl

/-! ### laws.heldConf: function 142 -/
noncomputable def F.laws_heldConf (a0 : DConf) (a1 : Int) : Option Int :=
  (F.laws_heldIntS a0.2.2.2.1 a1).bind fun r1 =>
  bif decide (r1 < 0) then
    some (-1)
  else
    some r1
noncomputable def C.laws_heldConf : Con := ⟨[.r (.val y0), .r (.val (.int .i64))], .one (.int .i64), fun x => F.laws_heldConf x.1 x.2.1⟩
def L.laws_heldConf : Loops := fun _ => none
noncomputable def K.laws_heldConf : Cons := lookK [(35, [], C.laws_heldIntS)]
theorem run.laws_heldConf : ∀ x, runF tb K.laws_heldConf L.laws_heldConf [] Tryz.f142 C.laws_heldConf x = C.laws_heldConf.fn x := fun x => by kernel_rfl

/-! ### laws.heldSpanS: function 85 -/
noncomputable def F.laws_heldSpanS.s2 : ((List DSpan) × Int × Int × Unit) → Option (Lp ((List DSpan) × Int × Int × Unit) Int) := fun (x1, x2, x3, _) =>
  bif decide (x3 < (len x1)) then
    chk (inb x3 (List.length x1)) <|
    bif ((List.getD x1 ((Int.toNat x3)) ((0, 0, ()))).1) != x2 then
      some (.ret (-1))
    else
    chk (inb x3 (List.length x1)) <|
    bif (((List.getD x1 ((Int.toNat x3)) ((0, 0, ()))).2).1) != (w64 (x2 + 1)) then
      some (.ret (-1))
    else
      some (.again (x1, w64 ((w64 (x2 + 1)) + 1), w64 (x3 + 1), ()))
  else
    some (.exit (x1, x2, x3, ()))
noncomputable def F.laws_heldSpanS (a0 : List DSpan) (a1 : Int) : Option Int :=
  afterO (loopO F.laws_heldSpanS.s2 (a0, a1, 0, ())) fun (x4, x5, x6, _) =>
  some x5
noncomputable def C.laws_heldSpanS : Con := ⟨[.r (.val (.sl false 150 y1)), .r (.val (.int .i64))], .one (.int .i64), fun x => F.laws_heldSpanS x.1 x.2.1⟩
def L.laws_heldSpanS : Loops := lookL [(2, ⟨[.pat 0 (.val (.sl false 150 y1)), .pat 1 (.val (.int .i64)), .pat 5 (.val (.int .i64))], 0⟩)]
noncomputable def K.laws_heldSpanS : Cons := lookK []
theorem run.laws_heldSpanS : ∀ x, runF tb K.laws_heldSpanS L.laws_heldSpanS [] Tryz.f85 C.laws_heldSpanS x = C.laws_heldSpanS.fn x := fun x => by kernel_rfl

/-! ### laws.heldSeatS: function 143 -/
noncomputable def F.laws_heldSeatS.s2 : ((List DSeat) × Int × Int × Unit) → Option (Lp ((List DSeat) × Int × Int × Unit) Int) := fun (x1, x2, x3, _) =>
  bif decide (x3 < (len x1)) then
    chk (inb x3 (List.length x1)) <|
    bif ((List.getD x1 ((Int.toNat x3)) ((0, 0, [], 0, 0, ()))).1) != x2 then
      some (.ret (-1))
    else
    chk (inb x3 (List.length x1)) <|
    bif (((List.getD x1 ((Int.toNat x3)) ((0, 0, [], 0, 0, ()))).2).1) != (w64 (x2 + 1)) then
      some (.ret (-1))
    else
    chk (inb x3 (List.length x1)) <|
    (F.laws_heldSpanS ((((List.getD x1 ((Int.toNat x3)) ((0, 0, [], 0, 0, ()))).2).2).1) (w64 ((w64 (x2 + 1)) + 1))).bind fun r4 =>
    bif decide (r4 < 0) then
      some (.ret (-1))
    else
    chk (inb x3 (List.length x1)) <|
    bif (((((List.getD x1 ((Int.toNat x3)) ((0, 0, [], 0, 0, ()))).2).2).2).1) != r4 then
      some (.ret (-1))
    else
    chk (inb x3 (List.length x1)) <|
    bif ((((((List.getD x1 ((Int.toNat x3)) ((0, 0, [], 0, 0, ()))).2).2).2).2).1) != (w64 (r4 + 1)) then
      some (.ret (-1))
    else
      some (.again (x1, w64 ((w64 (r4 + 1)) + 1), w64 (x3 + 1), ()))
  else
    some (.exit (x1, x2, x3, ()))
noncomputable def F.laws_heldSeatS (a0 : List DSeat) (a1 : Int) : Option Int :=
  afterO (loopO F.laws_heldSeatS.s2 (a0, a1, 0, ())) fun (x5, x6, x7, _) =>
  some x6
noncomputable def C.laws_heldSeatS : Con := ⟨[.r (.val (.sl false 139 y19)), .r (.val (.int .i64))], .one (.int .i64), fun x => F.laws_heldSeatS x.1 x.2.1⟩
def L.laws_heldSeatS : Loops := lookL [(2, ⟨[.pat 0 (.val (.sl false 139 y19)), .pat 1 (.val (.int .i64)), .pat 5 (.val (.int .i64))], 0⟩)]
noncomputable def K.laws_heldSeatS : Cons := lookK [(85, [], C.laws_heldSpanS)]
theorem run.laws_heldSeatS : ∀ x, runF tb K.laws_heldSeatS L.laws_heldSeatS [] Tryz.f143 C.laws_heldSeatS x = C.laws_heldSeatS.fn x := fun x => by kernel_rfl

/-! ### laws.heldIntSS: function 86 -/
noncomputable def F.laws_heldIntSS.s2 : ((List (List Int)) × Int × Int × Unit) → Option (Lp ((List (List Int)) × Int × Int × Unit) Int) := fun (x1, x2, x3, _) =>
  bif decide (x3 < (len x1)) then
    chk (inb x3 (List.length x1)) <|
    (F.laws_heldIntS (List.getD x1 ((Int.toNat x3)) ([])) x2).bind fun r4 =>
    bif decide (r4 < 0) then
      some (.ret (-1))
    else
      some (.again (x1, r4, w64 (x3 + 1), ()))
  else
    some (.exit (x1, x2, x3, ()))
noncomputable def F.laws_heldIntSS (a0 : List (List Int)) (a1 : Int) : Option Int :=
  afterO (loopO F.laws_heldIntSS.s2 (a0, a1, 0, ())) fun (x5, x6, x7, _) =>
  some x6
noncomputable def C.laws_heldIntSS : Con := ⟨[.r (.val (.sl false 26 (.sl false 3 (.int .i64)))), .r (.val (.int .i64))], .one (.int .i64), fun x => F.laws_heldIntSS x.1 x.2.1⟩
def L.laws_heldIntSS : Loops := lookL [(2, ⟨[.pat 0 (.val (.sl false 26 (.sl false 3 (.int .i64)))), .pat 1 (.val (.int .i64)), .pat 5 (.val (.int .i64))], 0⟩)]
noncomputable def K.laws_heldIntSS : Cons := lookK [(35, [], C.laws_heldIntS)]
theorem run.laws_heldIntSS : ∀ x, runF tb K.laws_heldIntSS L.laws_heldIntSS [] Tryz.f86 C.laws_heldIntSS x = C.laws_heldIntSS.fn x := fun x => by kernel_rfl

/-! ### laws.heldEntryS: function 24 -/
noncomputable def F.laws_heldEntryS.s2 : ((List DEntry) × Int × Int × Unit) → Option (Lp ((List DEntry) × Int × Int × Unit) Int) := fun (x1, x2, x3, _) =>
  bif decide (x3 < (len x1)) then
    chk (inb x3 (List.length x1)) <|
    bif ((List.getD x1 ((Int.toNat x3)) ((0, 0, [], (0, 0, 0, 0, [], [], [], ()), ()))).1) != x2 then
      some (.ret (-1))
    else
    chk (inb x3 (List.length x1)) <|
    bif (((List.getD x1 ((Int.toNat x3)) ((0, 0, [], (0, 0, 0, 0, [], [], [], ()), ()))).2).1) != (w64 (x2 + 1)) then
      some (.ret (-1))
    else
    chk (inb x3 (List.length x1)) <|
    (F.laws_heldSpanS ((((List.getD x1 ((Int.toNat x3)) ((0, 0, [], (0, 0, 0, 0, [], [], [], ()), ()))).2).2).1) (w64 ((w64 (x2 + 1)) + 1))).bind fun r4 =>
    bif decide (r4 < 0) then
      some (.ret (-1))
    else
    chk (inb x3 (List.length x1)) <|
    bif ((((((List.getD x1 ((Int.toNat x3)) ((0, 0, [], (0, 0, 0, 0, [], [], [], ()), ()))).2).2).2).1).1) != r4 then
      some (.ret (-1))
    else
    chk (inb x3 (List.length x1)) <|
    bif (((((((List.getD x1 ((Int.toNat x3)) ((0, 0, [], (0, 0, 0, 0, [], [], [], ()), ()))).2).2).2).1).2).1) != (w64 (r4 + 1)) then
      some (.ret (-1))
    else
    chk (inb x3 (List.length x1)) <|
    bif ((((((((List.getD x1 ((Int.toNat x3)) ((0, 0, [], (0, 0, 0, 0, [], [], [], ()), ()))).2).2).2).1).2).2).1) != (w64 ((w64 (r4 + 1)) + 1)) then
      some (.ret (-1))
    else
    chk (inb x3 (List.length x1)) <|
    bif (((((((((List.getD x1 ((Int.toNat x3)) ((0, 0, [], (0, 0, 0, 0, [], [], [], ()), ()))).2).2).2).1).2).2).2).1) != (w64 ((w64 ((w64 (r4 + 1)) + 1)) + 1)) then
      some (.ret (-1))
    else
    chk (inb x3 (List.length x1)) <|
    (F.laws_heldIntS ((((((((((List.getD x1 ((Int.toNat x3)) ((0, 0, [], (0, 0, 0, 0, [], [], [], ()), ()))).2).2).2).1).2).2).2).2).1) (w64 ((w64 ((w64 ((w64 (r4 + 1)) + 1)) + 1)) + 1))).bind fun r5 =>
    bif decide (r5 < 0) then
      some (.ret (-1))
    else
    chk (inb x3 (List.length x1)) <|
    (F.laws_heldIntS (((((((((((List.getD x1 ((Int.toNat x3)) ((0, 0, [], (0, 0, 0, 0, [], [], [], ()), ()))).2).2).2).1).2).2).2).2).2).1) r5).bind fun r6 =>
    bif decide (r6 < 0) then
      some (.ret (-1))
    else
    chk (inb x3 (List.length x1)) <|
    (F.laws_heldIntSS ((((((((((((List.getD x1 ((Int.toNat x3)) ((0, 0, [], (0, 0, 0, 0, [], [], [], ()), ()))).2).2).2).1).2).2).2).2).2).2).1) r6).bind fun r7 =>
    bif decide (r7 < 0) then
      some (.ret (-1))
    else
      some (.again (x1, r7, w64 (x3 + 1), ()))
  else
    some (.exit (x1, x2, x3, ()))
noncomputable def F.laws_heldEntryS (a0 : List DEntry) (a1 : Int) : Option Int :=
  afterO (loopO F.laws_heldEntryS.s2 (a0, a1, 0, ())) fun (x8, x9, x10, _) =>
  some x9
noncomputable def C.laws_heldEntryS : Con := ⟨[.r (.val (.sl false 31 y20)), .r (.val (.int .i64))], .one (.int .i64), fun x => F.laws_heldEntryS x.1 x.2.1⟩
def L.laws_heldEntryS : Loops := lookL [(2, ⟨[.pat 0 (.val (.sl false 31 y20)), .pat 1 (.val (.int .i64)), .pat 5 (.val (.int .i64))], 0⟩)]
noncomputable def K.laws_heldEntryS : Cons := lookK [(35, [], C.laws_heldIntS), (85, [], C.laws_heldSpanS), (86, [], C.laws_heldIntSS)]
theorem run.laws_heldEntryS : ∀ x, runF tb K.laws_heldEntryS L.laws_heldEntryS [] Tryz.f24 C.laws_heldEntryS x = C.laws_heldEntryS.fn x := fun x => by kernel_rfl

/-! ### laws.heldRowS: function 248 -/
noncomputable def F.laws_heldRowS.s2 : ((List DRow) × Int × Int × Unit) → Option (Lp ((List DRow) × Int × Int × Unit) Int) := fun (x1, x2, x3, _) =>
  bif decide (x3 < (len x1)) then
    chk (inb x3 (List.length x1)) <|
    (F.laws_heldEntryS ((List.getD x1 ((Int.toNat x3)) (([], ()))).1) x2).bind fun r4 =>
    bif decide (r4 < 0) then
      some (.ret (-1))
    else
      some (.again (x1, r4, w64 (x3 + 1), ()))
  else
    some (.exit (x1, x2, x3, ()))
noncomputable def F.laws_heldRowS (a0 : List DRow) (a1 : Int) : Option Int :=
  afterO (loopO F.laws_heldRowS.s2 (a0, a1, 0, ())) fun (x5, x6, x7, _) =>
  some x6
noncomputable def C.laws_heldRowS : Con := ⟨[.r (.val (.sl false 105 (.cons (.sl false 31 y20) .nil))), .r (.val (.int .i64))], .one (.int .i64), fun x => F.laws_heldRowS x.1 x.2.1⟩
def L.laws_heldRowS : Loops := lookL [(2, ⟨[.pat 0 (.val (.sl false 105 (.cons (.sl false 31 y20) .nil))), .pat 1 (.val (.int .i64)), .pat 5 (.val (.int .i64))], 0⟩)]
noncomputable def K.laws_heldRowS : Cons := lookK [(24, [], C.laws_heldEntryS)]
theorem run.laws_heldRowS : ∀ x, runF tb K.laws_heldRowS L.laws_heldRowS [] Tryz.f248 C.laws_heldRowS x = C.laws_heldRowS.fn x := fun x => by kernel_rfl

/-! ### laws.heldRowSS: function 144 -/
noncomputable def F.laws_heldRowSS.s2 : ((List (List DRow)) × Int × Int × Unit) → Option (Lp ((List (List DRow)) × Int × Int × Unit) Int) := fun (x1, x2, x3, _) =>
  bif decide (x3 < (len x1)) then
    chk (inb x3 (List.length x1)) <|
    (F.laws_heldRowS (List.getD x1 ((Int.toNat x3)) ([])) x2).bind fun r4 =>
    bif decide (r4 < 0) then
      some (.ret (-1))
    else
      some (.again (x1, r4, w64 (x3 + 1), ()))
  else
    some (.exit (x1, x2, x3, ()))
noncomputable def F.laws_heldRowSS (a0 : List (List DRow)) (a1 : Int) : Option Int :=
  afterO (loopO F.laws_heldRowSS.s2 (a0, a1, 0, ())) fun (x5, x6, x7, _) =>
  some x6
noncomputable def C.laws_heldRowSS : Con := ⟨[.r (.val (.sl false 159 (.sl false 105 (.cons (.sl false 31 y20) .nil)))), .r (.val (.int .i64))], .one (.int .i64), fun x => F.laws_heldRowSS x.1 x.2.1⟩
def L.laws_heldRowSS : Loops := lookL [(2, ⟨[.pat 0 (.val (.sl false 159 (.sl false 105 (.cons (.sl false 31 y20) .nil)))), .pat 1 (.val (.int .i64)), .pat 5 (.val (.int .i64))], 0⟩)]
noncomputable def K.laws_heldRowSS : Cons := lookK [(248, [], C.laws_heldRowS)]
theorem run.laws_heldRowSS : ∀ x, runF tb K.laws_heldRowSS L.laws_heldRowSS [] Tryz.f144 C.laws_heldRowSS x = C.laws_heldRowSS.fn x := fun x => by kernel_rfl

/-! ### laws.heldTurnS: function 145 -/
noncomputable def F.laws_heldTurnS.s2 : ((List DTurn) × Int × Int × Unit) → Option (Lp ((List DTurn) × Int × Int × Unit) Int) := fun (x1, x2, x3, _) =>
  bif decide (x3 < (len x1)) then
    chk (inb x3 (List.length x1)) <|
    bif ((List.getD x1 ((Int.toNat x3)) ((0, false, [], ()))).1) != x2 then
      some (.ret (-1))
    else
    chk (inb x3 (List.length x1)) <|
    bif !((((List.getD x1 ((Int.toNat x3)) ((0, false, [], ()))).2).1) == ((Int.tmod (w64 (x2 + 1)) 3) == 0)) then
      some (.ret (-1))
    else
    chk (inb x3 (List.length x1)) <|
    (F.laws_heldIntS ((((List.getD x1 ((Int.toNat x3)) ((0, false, [], ()))).2).2).1) (w64 ((w64 (x2 + 1)) + 1))).bind fun r4 =>
    bif decide (r4 < 0) then
      some (.ret (-1))
    else
      some (.again (x1, r4, w64 (x3 + 1), ()))
  else
    some (.exit (x1, x2, x3, ()))
noncomputable def F.laws_heldTurnS (a0 : List DTurn) (a1 : Int) : Option Int :=
  afterO (loopO F.laws_heldTurnS.s2 (a0, a1, 0, ())) fun (x5, x6, x7, _) =>
  some x6
noncomputable def C.laws_heldTurnS : Con := ⟨[.r (.val (.sl false 175 y5)), .r (.val (.int .i64))], .one (.int .i64), fun x => F.laws_heldTurnS x.1 x.2.1⟩
def L.laws_heldTurnS : Loops := lookL [(2, ⟨[.pat 0 (.val (.sl false 175 y5)), .pat 1 (.val (.int .i64)), .pat 5 (.val (.int .i64))], 0⟩)]
noncomputable def K.laws_heldTurnS : Cons := lookK [(35, [], C.laws_heldIntS)]
theorem run.laws_heldTurnS : ∀ x, runF tb K.laws_heldTurnS L.laws_heldTurnS [] Tryz.f145 C.laws_heldTurnS x = C.laws_heldTurnS.fn x := fun x => by kernel_rfl

/-! ### laws.heldOutS: function 146 -/
noncomputable def F.laws_heldOutS.s2 : ((List DOut) × Int × Int × Unit) → Option (Lp ((List DOut) × Int × Int × Unit) Int) := fun (x1, x2, x3, _) =>
  bif decide (x3 < (len x1)) then
    chk (inb x3 (List.length x1)) <|
    bif ((List.getD x1 ((Int.toNat x3)) ((0, (0, 0, [], (0, 0, 0, 0, [], [], [], ()), ()), ()))).1) != x2 then
      some (.ret (-1))
    else
    chk (inb x3 (List.length x1)) <|
    bif ((((List.getD x1 ((Int.toNat x3)) ((0, (0, 0, [], (0, 0, 0, 0, [], [], [], ()), ()), ()))).2).1).1) != (w64 (x2 + 1)) then
      some (.ret (-1))
    else
    chk (inb x3 (List.length x1)) <|
    bif (((((List.getD x1 ((Int.toNat x3)) ((0, (0, 0, [], (0, 0, 0, 0, [], [], [], ()), ()), ()))).2).1).2).1) != (w64 ((w64 (x2 + 1)) + 1)) then
      some (.ret (-1))
    else
    chk (inb x3 (List.length x1)) <|
    (F.laws_heldSpanS ((((((List.getD x1 ((Int.toNat x3)) ((0, (0, 0, [], (0, 0, 0, 0, [], [], [], ()), ()), ()))).2).1).2).2).1) (w64 ((w64 ((w64 (x2 + 1)) + 1)) + 1))).bind fun r4 =>
    bif decide (r4 < 0) then
      some (.ret (-1))
    else
    chk (inb x3 (List.length x1)) <|
    bif ((((((((List.getD x1 ((Int.toNat x3)) ((0, (0, 0, [], (0, 0, 0, 0, [], [], [], ()), ()), ()))).2).1).2).2).2).1).1) != r4 then
      some (.ret (-1))
    else
    chk (inb x3 (List.length x1)) <|
    bif (((((((((List.getD x1 ((Int.toNat x3)) ((0, (0, 0, [], (0, 0, 0, 0, [], [], [], ()), ()), ()))).2).1).2).2).2).1).2).1) != (w64 (r4 + 1)) then
      some (.ret (-1))
    else
    chk (inb x3 (List.length x1)) <|
    bif ((((((((((List.getD x1 ((Int.toNat x3)) ((0, (0, 0, [], (0, 0, 0, 0, [], [], [], ()), ()), ()))).2).1).2).2).2).1).2).2).1) != (w64 ((w64 (r4 + 1)) + 1)) then
      some (.ret (-1))
    else
    chk (inb x3 (List.length x1)) <|
    bif (((((((((((List.getD x1 ((Int.toNat x3)) ((0, (0, 0, [], (0, 0, 0, 0, [], [], [], ()), ()), ()))).2).1).2).2).2).1).2).2).2).1) != (w64 ((w64 ((w64 (r4 + 1)) + 1)) + 1)) then
      some (.ret (-1))
    else
    chk (inb x3 (List.length x1)) <|
    (F.laws_heldIntS ((((((((((((List.getD x1 ((Int.toNat x3)) ((0, (0, 0, [], (0, 0, 0, 0, [], [], [], ()), ()), ()))).2).1).2).2).2).1).2).2).2).2).1) (w64 ((w64 ((w64 ((w64 (r4 + 1)) + 1)) + 1)) + 1))).bind fun r5 =>
    bif decide (r5 < 0) then
      some (.ret (-1))
    else
    chk (inb x3 (List.length x1)) <|
    (F.laws_heldIntS (((((((((((((List.getD x1 ((Int.toNat x3)) ((0, (0, 0, [], (0, 0, 0, 0, [], [], [], ()), ()), ()))).2).1).2).2).2).1).2).2).2).2).2).1) r5).bind fun r6 =>
    bif decide (r6 < 0) then
      some (.ret (-1))
    else
    chk (inb x3 (List.length x1)) <|
    (F.laws_heldIntSS ((((((((((((((List.getD x1 ((Int.toNat x3)) ((0, (0, 0, [], (0, 0, 0, 0, [], [], [], ()), ()), ()))).2).1).2).2).2).1).2).2).2).2).2).2).1) r6).bind fun r7 =>
    bif decide (r7 < 0) then
      some (.ret (-1))
    else
      some (.again (x1, r7, w64 (x3 + 1), ()))
  else
    some (.exit (x1, x2, x3, ()))
noncomputable def F.laws_heldOutS (a0 : List DOut) (a1 : Int) : Option Int :=
  afterO (loopO F.laws_heldOutS.s2 (a0, a1, 0, ())) fun (x8, x9, x10, _) =>
  some x9
noncomputable def C.laws_heldOutS : Con := ⟨[.r (.val (.sl false 137 y21)), .r (.val (.int .i64))], .one (.int .i64), fun x => F.laws_heldOutS x.1 x.2.1⟩
def L.laws_heldOutS : Loops := lookL [(2, ⟨[.pat 0 (.val (.sl false 137 y21)), .pat 1 (.val (.int .i64)), .pat 5 (.val (.int .i64))], 0⟩)]
noncomputable def K.laws_heldOutS : Cons := lookK [(35, [], C.laws_heldIntS), (85, [], C.laws_heldSpanS), (86, [], C.laws_heldIntSS)]
theorem run.laws_heldOutS : ∀ x, runF tb K.laws_heldOutS L.laws_heldOutS [] Tryz.f146 C.laws_heldOutS x = C.laws_heldOutS.fn x := fun x => by kernel_rfl

/-! ### laws.heldHouse: function 43 -/
noncomputable def F.laws_heldHouse (a0 : DHouse) (a1 : Int) : Option Int :=
  (F.laws_heldConf a0.1 a1).bind fun r1 =>
  bif decide (r1 < 0) then
    some (-1)
  else
  (F.laws_heldSeatS a0.2.2.2.1 r1).bind fun r2 =>
  bif decide (r2 < 0) then
    some (-1)
  else
  (F.laws_heldRowSS a0.2.2.2.2.1 r2).bind fun r3 =>
  bif decide (r3 < 0) then
    some (-1)
  else
  (F.laws_heldTurnS a0.2.2.2.2.2.1 r3).bind fun r4 =>
  bif decide (r4 < 0) then
    some (-1)
  else
  (F.laws_heldEntryS a0.2.2.2.2.2.2.2.1 r4).bind fun r5 =>
  bif decide (r5 < 0) then
    some (-1)
  else
  (F.laws_heldOutS a0.2.2.2.2.2.2.2.2.1 r5).bind fun r6 =>
  bif decide (r6 < 0) then
    some (-1)
  else
    some r6
noncomputable def C.laws_heldHouse : Con := ⟨[.r (.val y22), .r (.val (.int .i64))], .one (.int .i64), fun x => F.laws_heldHouse x.1 x.2.1⟩
def L.laws_heldHouse : Loops := fun _ => none
noncomputable def K.laws_heldHouse : Cons := lookK [(24, [], C.laws_heldEntryS), (142, [], C.laws_heldConf), (143, [], C.laws_heldSeatS), (144, [], C.laws_heldRowSS), (145, [], C.laws_heldTurnS), (146, [], C.laws_heldOutS)]
theorem run.laws_heldHouse : ∀ x, runF tb K.laws_heldHouse L.laws_heldHouse [] Tryz.f43 C.laws_heldHouse x = C.laws_heldHouse.fn x := fun x => by kernel_rfl

/-! ### laws.heldSketch: function 233 -/
noncomputable def F.laws_heldSketch (a0 : DSketch) (a1 : Int) : Option Int :=
  (F.laws_heldIntS a0.2.2.2.2.1 a1).bind fun r1 =>
  bif decide (r1 < 0) then
    some (-1)
  else
  (F.laws_heldIntS a0.2.2.2.2.2.1 r1).bind fun r2 =>
  bif decide (r2 < 0) then
    some (-1)
  else
  (F.laws_heldIntSS a0.2.2.2.2.2.2.1 r2).bind fun r3 =>
  bif decide (r3 < 0) then
    some (-1)
  else
    some r3
noncomputable def C.laws_heldSketch : Con := ⟨[.r (.val y3), .r (.val (.int .i64))], .one (.int .i64), fun x => F.laws_heldSketch x.1 x.2.1⟩
def L.laws_heldSketch : Loops := fun _ => none
noncomputable def K.laws_heldSketch : Cons := lookK [(35, [], C.laws_heldIntS), (86, [], C.laws_heldIntSS)]
theorem run.laws_heldSketch : ∀ x, runF tb K.laws_heldSketch L.laws_heldSketch [] Tryz.f233 C.laws_heldSketch x = C.laws_heldSketch.fn x := fun x => by kernel_rfl

/-! ### laws.heldItem: function 135 -/
noncomputable def F.laws_heldItem (a0 : DItem) (a1 : Int) : Option Int :=
  (F.laws_heldSketch a0.2.2.2.2.1 a1).bind fun r1 =>
  bif decide (r1 < 0) then
    some (-1)
  else
    some r1
noncomputable def C.laws_heldItem : Con := ⟨[.r (.val y8), .r (.val (.int .i64))], .one (.int .i64), fun x => F.laws_heldItem x.1 x.2.1⟩
def L.laws_heldItem : Loops := fun _ => none
noncomputable def K.laws_heldItem : Cons := lookK [(233, [], C.laws_heldSketch)]
theorem run.laws_heldItem : ∀ x, runF tb K.laws_heldItem L.laws_heldItem [] Tryz.f135 C.laws_heldItem x = C.laws_heldItem.fn x := fun x => by kernel_rfl

/-! ### laws.heldFrame: function 40 -/
noncomputable def F.laws_heldFrame (a0 : DFrame) (a1 : Int) : Option Int :=
  (F.laws_heldSpanS a0.2.2.2.2.1 a1).bind fun r1 =>
  bif decide (r1 < 0) then
    some (-1)
  else
  (F.laws_heldItem a0.2.2.2.2.2.1 r1).bind fun r2 =>
  bif decide (r2 < 0) then
    some (-1)
  else
    some r2
noncomputable def C.laws_heldFrame : Con := ⟨[.r (.val y23), .r (.val (.int .i64))], .one (.int .i64), fun x => F.laws_heldFrame x.1 x.2.1⟩
def L.laws_heldFrame : Loops := fun _ => none
noncomputable def K.laws_heldFrame : Cons := lookK [(85, [], C.laws_heldSpanS), (135, [], C.laws_heldItem)]
theorem run.laws_heldFrame : ∀ x, runF tb K.laws_heldFrame L.laws_heldFrame [] Tryz.f40 C.laws_heldFrame x = C.laws_heldFrame.fn x := fun x => by kernel_rfl

/-! ### laws.FnExactIngress: function 9 -/
noncomputable def F.laws_FnExactIngress (a0 : DHouse) (a1 : DFrame) : Option Bool :=
  (F.laws_szHouse a0 1048576).bind fun r1 =>
  bif decide (r1 < 0) then
    some true
  else
  (F.laws_szFrame a1 r1).bind fun r2 =>
  bif decide (r2 < 0) then
    some true
  else
  (F.laws_toHouse a0).bind fun r3 =>
  (F.laws_toFrame a1).bind fun r4 =>
  (F.spec_Ingress r3 r4).bind fun r5 =>
  (F.laws_toHouse a0).bind fun r6 =>
  (F.laws_toFrame a1).bind fun r7 =>
  (F.impl_Ingress r6 r7).bind fun r8 =>
  (F.laws_eqHouse r8.1 r5.1).bind fun r9 =>
  bif !r9 then
    some false
  else
  (F.laws_eqFrame r8.2.1 r5.2.1).bind fun r10 =>
  bif !r10 then
    some false
  else
  bif r8.2.2 != r5.2.2 then
    some false
  else
  (F.laws_toHouse a0).bind fun r11 =>
  (F.laws_eqHouse r6 r11).bind fun r12 =>
  bif !r12 then
    some false
  else
  (F.laws_toFrame a1).bind fun r13 =>
  (F.laws_eqFrame r7 r13).bind fun r14 =>
  bif !r14 then
    some false
  else
  (F.laws_markHouse r6 1).bind fun r15 =>
  (F.laws_markFrame r7 r15.1).bind fun r16 =>
  bif decide (r16.1 < 0) then
    some false
  else
  (F.laws_eqHouse r8.1 r5.1).bind fun r17 =>
  bif !r17 then
    some false
  else
  (F.laws_eqFrame r8.2.1 r5.2.1).bind fun r18 =>
  bif !r18 then
    some false
  else
  bif r8.2.2 != r5.2.2 then
    some false
  else
  (F.laws_markHouse r8.1 1).bind fun r19 =>
  (F.laws_markFrame r8.2.1 r19.1).bind fun r20 =>
  (F.laws_heldHouse r19.2 1).bind fun r21 =>
  bif decide (r21 < 0) then
    some false
  else
  (F.laws_heldFrame r20.2 r21).bind fun r22 =>
  bif decide (r22 < 0) then
    some false
  else
  bif r22 != r20.1 then
    some false
  else
  (F.laws_toHouse a0).bind fun r23 =>
  (F.laws_toFrame a1).bind fun r24 =>
  (F.impl_Ingress r23 r24).bind fun r25 =>
  (F.laws_eqHouse r25.1 r5.1).bind fun r26 =>
  bif !r26 then
    some false
  else
  (F.laws_eqFrame r25.2.1 r5.2.1).bind fun r27 =>
  bif !r27 then
    some false
  else
  bif r25.2.2 != r5.2.2 then
    some false
  else
  (F.laws_heldHouse r19.2 1).bind fun r28 =>
  bif decide (r28 < 0) then
    some false
  else
  (F.laws_heldFrame r20.2 r28).bind fun r29 =>
  bif decide (r29 < 0) then
    some false
  else
  bif r29 != r20.1 then
    some false
  else
    some true
noncomputable def C.laws_FnExactIngress : Con := ⟨[.r (.val y7), .r (.val y9)], .one .bool, fun x => F.laws_FnExactIngress x.1 x.2.1⟩
def L.laws_FnExactIngress : Loops := fun _ => none
noncomputable def K.laws_FnExactIngress : Cons := lookK [(25, [], C.laws_szHouse), (27, [], C.laws_toHouse), (29, [], C.laws_eqHouse), (33, [], C.laws_markHouse), (38, [], C.laws_eqFrame), (39, [], C.laws_markFrame), (40, [], C.laws_heldFrame), (43, [], C.laws_heldHouse), (44, [], C.laws_szFrame), (45, [], C.spec_Ingress), (46, [], C.laws_toFrame), (47, [], C.impl_Ingress)]
theorem run.laws_FnExactIngress : ∀ x, runF tb K.laws_FnExactIngress L.laws_FnExactIngress [] Tryz.f9 C.laws_FnExactIngress x = C.laws_FnExactIngress.fn x := fun x => by kernel_rfl
end Go.Proofs.YtdnknkfnfnlajaaGreat.Vm
