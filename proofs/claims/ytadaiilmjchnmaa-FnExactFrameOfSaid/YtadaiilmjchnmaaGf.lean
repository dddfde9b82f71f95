import Derived.Test.YtadaiilmjchnmaaGfA
import Derived.KernelRfl
namespace Go.Proofs.Ytadaiilmjchnmaa.Vm
open Go Go.RowKit
set_option maxRecDepth 100000
set_option linter.unusedVariables false

/-! ### impl.confSame: function 169 -/
noncomputable def F.impl_confSame (a0 : DConf) (a1 : DConf) : Option Bool :=
  bif a0.1 == a1.1 then
    bif a0.2.1 == a1.2.1 then
      bif a0.2.2.1 == a1.2.2.1 then
        (F.slices_Equal_int a0.2.2.2.1 a1.2.2.2.1).bind fun r1 =>
        bif r1 then
          bif a0.2.2.2.2.1 == a1.2.2.2.2.1 then
            bif a0.2.2.2.2.2.1 == a1.2.2.2.2.2.1 then
              bif a0.2.2.2.2.2.2.1 == a1.2.2.2.2.2.2.1 then
                some (a0.2.2.2.2.2.2.2.1 == a1.2.2.2.2.2.2.2.1)
              else
                some false
            else
              some false
          else
            some false
        else
          some false
      else
        some false
    else
      some false
  else
    some false
noncomputable def C.impl_confSame : Con := ⟨[.r (.val y11), .r (.val y11)], .one .bool, fun x => F.impl_confSame x.1 x.2.1⟩
def L.impl_confSame : Loops := fun _ => none
noncomputable def K.impl_confSame : Cons := lookK [(225, [], C.slices_Equal_int)]
theorem run.impl_confSame : ∀ x, runF tb K.impl_confSame L.impl_confSame [] Try.f169 C.impl_confSame x = C.impl_confSame.fn x := fun x => by kernel_rfl

/-! ### slices.Equal[[]impl.Span,impl.Span]: function 266 -/
noncomputable def F.slices_Equal_Span.s4 : ((List DSpan) × (List DSpan) × Int × Int × Unit) → Option (Lp ((List DSpan) × (List DSpan) × Int × Int × Unit) Bool) := fun (x1, x2, x3, x4, _) =>
  bif decide (x4 < x3) then
    chk (inb x4 (List.length x1)) <|
    chk (inb x4 (List.length x2)) <|
    bif !(Ty.eqX (.cons (.int .i64) (.cons (.int .i64) .nil)) (List.getD x1 ((Int.toNat x4)) ((0, 0, ()))) (List.getD x2 ((Int.toNat x4)) ((0, 0, ())))) then
      some (.ret false)
    else
      some (.again (x1, x2, x3, w64 (x4 + 1), ()))
  else
    some (.exit (x1, x2, x3, x4, ()))
noncomputable def F.slices_Equal_Span (a0 : List DSpan) (a1 : List DSpan) : Option Bool :=
  bif (len a0) != (len a1) then
    some false
  else
  afterO (loopO F.slices_Equal_Span.s4 (a0, a1, len a0, 0, ())) fun (x5, x6, x7, x8, _) =>
  some true
noncomputable def C.slices_Equal_Span : Con := ⟨[.r (.val (.sl false 175 y0)), .r (.val (.sl false 175 y0))], .one .bool, fun x => F.slices_Equal_Span x.1 x.2.1⟩
def L.slices_Equal_Span : Loops := lookL [(4, ⟨[.pat 0 (.val (.sl false 175 y0)), .pat 1 (.val (.sl false 175 y0)), .pat 12 (.val (.int .i64)), .pat 13 (.val (.int .i64))], 0⟩)]
noncomputable def K.slices_Equal_Span : Cons := lookK []
theorem run.slices_Equal_Span : ∀ x, runF tb K.slices_Equal_Span L.slices_Equal_Span [] Try.f266 C.slices_Equal_Span x = C.slices_Equal_Span.fn x := fun x => by kernel_rfl

/-! ### impl.seatSame: function 171 -/
noncomputable def F.impl_seatSame (a0 : DSeat) (a1 : DSeat) : Option Bool :=
  bif a0.1 == a1.1 then
    bif a0.2.1 == a1.2.1 then
      (F.slices_Equal_Span a0.2.2.1 a1.2.2.1).bind fun r1 =>
      bif r1 then
        bif a0.2.2.2.1 == a1.2.2.2.1 then
          some (a0.2.2.2.2.1 == a1.2.2.2.2.1)
        else
          some false
      else
        some false
    else
      some false
  else
    some false
noncomputable def C.impl_seatSame : Con := ⟨[.r (.val y21), .r (.val y21)], .one .bool, fun x => F.impl_seatSame x.1 x.2.1⟩
def L.impl_seatSame : Loops := fun _ => none
noncomputable def K.impl_seatSame : Cons := lookK [(266, [], C.slices_Equal_Span)]
theorem run.impl_seatSame : ∀ x, runF tb K.impl_seatSame L.impl_seatSame [] Try.f171 C.impl_seatSame x = C.impl_seatSame.fn x := fun x => by kernel_rfl

/-! ### slices.EqualFunc[[]impl.Seat,[]impl.Seat,impl.Seat,impl.Seat]: function 170 -/
noncomputable def F.slices_EqualFunc_SimplSeat__impl_seatSame.s4 : ((List DSeat) × Unit × (List DSeat) × Int × Int × Unit) → Option (Lp ((List DSeat) × Unit × (List DSeat) × Int × Int × Unit) Bool) := fun (x1, x2, x3, x4, x5, _) =>
  bif decide (x5 < x4) then
    chk (inb x5 (List.length x3)) <|
    chk (inb x5 (List.length x1)) <|
    (F.impl_seatSame (List.getD x3 ((Int.toNat x5)) ((0, 0, ([] : List DSpan), 0, 0, ()))) (List.getD x1 ((Int.toNat x5)) ((0, 0, ([] : List DSpan), 0, 0, ())))).bind fun r6 =>
    bif !r6 then
      some (.ret false)
    else
      some (.again (x1, (), x3, x4, w64 (x5 + 1), ()))
  else
    some (.exit (x1, (), x3, x4, x5, ()))
noncomputable def F.slices_EqualFunc_SimplSeat__impl_seatSame (a0 : List DSeat) (a1 : List DSeat) (a2 : Unit) : Option Bool :=
  bif (len a0) != (len a1) then
    some false
  else
  afterO (loopO F.slices_EqualFunc_SimplSeat__impl_seatSame.s4 (a1, (), a0, len a0, 0, ())) fun (x7, x8, x9, x10, x11, _) =>
  some true
noncomputable def C.slices_EqualFunc_SimplSeat__impl_seatSame : Con := ⟨[.r (.val (.sl false 87 y21)), .r (.val (.sl false 87 y21)), .r (.fn 171 .nil)], .one .bool, fun x => F.slices_EqualFunc_SimplSeat__impl_seatSame x.1 x.2.1 x.2.2.1⟩
def L.slices_EqualFunc_SimplSeat__impl_seatSame : Loops := lookL [(4, ⟨[.pat 1 (.val (.sl false 87 y21)), .pat 2 (.fn 171 .nil), .pat 15 (.val (.sl false 87 y21)), .pat 16 (.val (.int .i64)), .pat 17 (.val (.int .i64))], 0⟩)]
noncomputable def K.slices_EqualFunc_SimplSeat__impl_seatSame : Cons := lookK [(171, [], C.impl_seatSame)]
theorem run.slices_EqualFunc_SimplSeat__impl_seatSame : ∀ x, runF tb K.slices_EqualFunc_SimplSeat__impl_seatSame L.slices_EqualFunc_SimplSeat__impl_seatSame [] Try.f170 C.slices_EqualFunc_SimplSeat__impl_seatSame x = C.slices_EqualFunc_SimplSeat__impl_seatSame.fn x := fun x => by kernel_rfl

/-! ### impl.EntrySame: function 176 -/
noncomputable def F.impl_EntrySame (a0 : DEntry) (a1 : DEntry) : Option Bool :=
  bif a0.1 == a1.1 then
    bif a0.2.1 == a1.2.1 then
      (F.slices_Equal_Span a0.2.2.1 a1.2.2.1).bind fun r1 =>
      bif r1 then
        (F.impl_SketchSame a0.2.2.2.1 a1.2.2.2.1).bind fun r2 =>
        some r2
      else
        some false
    else
      some false
  else
    some false
noncomputable def C.impl_EntrySame : Con := ⟨[.r (.val y5), .r (.val y5)], .one .bool, fun x => F.impl_EntrySame x.1 x.2.1⟩
def L.impl_EntrySame : Loops := fun _ => none
noncomputable def K.impl_EntrySame : Cons := lookK [(89, [], C.impl_SketchSame), (266, [], C.slices_Equal_Span)]
theorem run.impl_EntrySame : ∀ x, runF tb K.impl_EntrySame L.impl_EntrySame [] Try.f176 C.impl_EntrySame x = C.impl_EntrySame.fn x := fun x => by kernel_rfl

/-! ### slices.EqualFunc[[]impl.Entry,[]impl.Entry,impl.Entry,impl.Entry]: function 175 -/
noncomputable def F.slices_EqualFunc_SimplEntry__impl_EntrySame.s4 : ((List DEntry) × Unit × (List DEntry) × Int × Int × Unit) → Option (Lp ((List DEntry) × Unit × (List DEntry) × Int × Int × Unit) Bool) := fun (x1, x2, x3, x4, x5, _) =>
  bif decide (x5 < x4) then
    chk (inb x5 (List.length x3)) <|
    chk (inb x5 (List.length x1)) <|
    (F.impl_EntrySame (List.getD x3 ((Int.toNat x5)) ((0, 0, ([] : List DSpan), (0, 0, 0, 0, ([] : List Int), ([] : List Int), ([] : List (List Int)), ()), ()))) (List.getD x1 ((Int.toNat x5)) ((0, 0, ([] : List DSpan), (0, 0, 0, 0, ([] : List Int), ([] : List Int), ([] : List (List Int)), ()), ())))).bind fun r6 =>
    bif !r6 then
      some (.ret false)
    else
      some (.again (x1, (), x3, x4, w64 (x5 + 1), ()))
  else
    some (.exit (x1, (), x3, x4, x5, ()))
noncomputable def F.slices_EqualFunc_SimplEntry__impl_EntrySame (a0 : List DEntry) (a1 : List DEntry) (a2 : Unit) : Option Bool :=
  bif (len a0) != (len a1) then
    some false
  else
  afterO (loopO F.slices_EqualFunc_SimplEntry__impl_EntrySame.s4 (a1, (), a0, len a0, 0, ())) fun (x7, x8, x9, x10, x11, _) =>
  some true
noncomputable def C.slices_EqualFunc_SimplEntry__impl_EntrySame : Con := ⟨[.r (.val (.sl false 32 y5)), .r (.val (.sl false 32 y5)), .r (.fn 176 .nil)], .one .bool, fun x => F.slices_EqualFunc_SimplEntry__impl_EntrySame x.1 x.2.1 x.2.2.1⟩
def L.slices_EqualFunc_SimplEntry__impl_EntrySame : Loops := lookL [(4, ⟨[.pat 1 (.val (.sl false 32 y5)), .pat 2 (.fn 176 .nil), .pat 15 (.val (.sl false 32 y5)), .pat 16 (.val (.int .i64)), .pat 17 (.val (.int .i64))], 0⟩)]
noncomputable def K.slices_EqualFunc_SimplEntry__impl_EntrySame : Cons := lookK [(176, [], C.impl_EntrySame)]
theorem run.slices_EqualFunc_SimplEntry__impl_EntrySame : ∀ x, runF tb K.slices_EqualFunc_SimplEntry__impl_EntrySame L.slices_EqualFunc_SimplEntry__impl_EntrySame [] Try.f175 C.slices_EqualFunc_SimplEntry__impl_EntrySame x = C.slices_EqualFunc_SimplEntry__impl_EntrySame.fn x := fun x => by kernel_rfl

/-! ### impl.RowSame: function 168 -/
noncomputable def F.impl_RowSame (a0 : DRow) (a1 : DRow) : Option Bool :=
  (F.slices_EqualFunc_SimplEntry__impl_EntrySame a0.1 a1.1 (())).bind fun r1 =>
  some r1
noncomputable def C.impl_RowSame : Con := ⟨[.r (.val (.cons (.sl false 32 y5) .nil)), .r (.val (.cons (.sl false 32 y5) .nil))], .one .bool, fun x => F.impl_RowSame x.1 x.2.1⟩
def L.impl_RowSame : Loops := fun _ => none
noncomputable def K.impl_RowSame : Cons := lookK [(175, [176], C.slices_EqualFunc_SimplEntry__impl_EntrySame)]
theorem run.impl_RowSame : ∀ x, runF tb K.impl_RowSame L.impl_RowSame [] Try.f168 C.impl_RowSame x = C.impl_RowSame.fn x := fun x => by kernel_rfl

/-! ### slices.EqualFunc[[]impl.Row,[]impl.Row,impl.Row,impl.Row]: function 167 -/
noncomputable def F.slices_EqualFunc_SimplRow__impl_RowSame.s4 : ((List DRow) × Unit × (List DRow) × Int × Int × Unit) → Option (Lp ((List DRow) × Unit × (List DRow) × Int × Int × Unit) Bool) := fun (x1, x2, x3, x4, x5, _) =>
  bif decide (x5 < x4) then
    chk (inb x5 (List.length x3)) <|
    chk (inb x5 (List.length x1)) <|
    (F.impl_RowSame (List.getD x3 ((Int.toNat x5)) ((([] : List DEntry), ()))) (List.getD x1 ((Int.toNat x5)) ((([] : List DEntry), ())))).bind fun r6 =>
    bif !r6 then
      some (.ret false)
    else
      some (.again (x1, (), x3, x4, w64 (x5 + 1), ()))
  else
    some (.exit (x1, (), x3, x4, x5, ()))
noncomputable def F.slices_EqualFunc_SimplRow__impl_RowSame (a0 : List DRow) (a1 : List DRow) (a2 : Unit) : Option Bool :=
  bif (len a0) != (len a1) then
    some false
  else
  afterO (loopO F.slices_EqualFunc_SimplRow__impl_RowSame.s4 (a1, (), a0, len a0, 0, ())) fun (x7, x8, x9, x10, x11, _) =>
  some true
noncomputable def C.slices_EqualFunc_SimplRow__impl_RowSame : Con := ⟨[.r (.val (.sl false 35 (.cons (.sl false 32 y5) .nil))), .r (.val (.sl false 35 (.cons (.sl false 32 y5) .nil))), .r (.fn 168 .nil)], .one .bool, fun x => F.slices_EqualFunc_SimplRow__impl_RowSame x.1 x.2.1 x.2.2.1⟩
def L.slices_EqualFunc_SimplRow__impl_RowSame : Loops := lookL [(4, ⟨[.pat 1 (.val (.sl false 35 (.cons (.sl false 32 y5) .nil))), .pat 2 (.fn 168 .nil), .pat 15 (.val (.sl false 35 (.cons (.sl false 32 y5) .nil))), .pat 16 (.val (.int .i64)), .pat 17 (.val (.int .i64))], 0⟩)]
noncomputable def K.slices_EqualFunc_SimplRow__impl_RowSame : Cons := lookK [(168, [], C.impl_RowSame)]
theorem run.slices_EqualFunc_SimplRow__impl_RowSame : ∀ x, runF tb K.slices_EqualFunc_SimplRow__impl_RowSame L.slices_EqualFunc_SimplRow__impl_RowSame [] Try.f167 C.slices_EqualFunc_SimplRow__impl_RowSame x = C.slices_EqualFunc_SimplRow__impl_RowSame.fn x := fun x => by kernel_rfl

/-! ### impl.HouseSame$1: function 166 -/
noncomputable def F.impl_HouseSame_1 (a0 : List DRow) (a1 : List DRow) : Option Bool :=
  (F.slices_EqualFunc_SimplRow__impl_RowSame a0 a1 (())).bind fun r1 =>
  some r1
noncomputable def C.impl_HouseSame_1 : Con := ⟨[.r (.val (.sl false 35 (.cons (.sl false 32 y5) .nil))), .r (.val (.sl false 35 (.cons (.sl false 32 y5) .nil)))], .one .bool, fun x => F.impl_HouseSame_1 x.1 x.2.1⟩
def L.impl_HouseSame_1 : Loops := fun _ => none
noncomputable def K.impl_HouseSame_1 : Cons := lookK [(167, [168], C.slices_EqualFunc_SimplRow__impl_RowSame)]
theorem run.impl_HouseSame_1 : ∀ x, runF tb K.impl_HouseSame_1 L.impl_HouseSame_1 [] Try.f166 C.impl_HouseSame_1 x = C.impl_HouseSame_1.fn x := fun x => by kernel_rfl

/-! ### slices.EqualFunc[[][]impl.Row,[][]impl.Row,[]impl.Row,[]impl.Row]: function 172 -/
noncomputable def F.slices_EqualFunc_SSimplRow__impl_HouseSame_1.s4 : ((List (List DRow)) × Unit × (List (List DRow)) × Int × Int × Unit) → Option (Lp ((List (List DRow)) × Unit × (List (List DRow)) × Int × Int × Unit) Bool) := fun (x1, x2, x3, x4, x5, _) =>
  bif decide (x5 < x4) then
    chk (inb x5 (List.length x3)) <|
    chk (inb x5 (List.length x1)) <|
    (F.impl_HouseSame_1 (List.getD x3 ((Int.toNat x5)) (([] : List DRow))) (List.getD x1 ((Int.toNat x5)) (([] : List DRow)))).bind fun r6 =>
    bif !r6 then
      some (.ret false)
    else
      some (.again (x1, (), x3, x4, w64 (x5 + 1), ()))
  else
    some (.exit (x1, (), x3, x4, x5, ()))
noncomputable def F.slices_EqualFunc_SSimplRow__impl_HouseSame_1 (a0 : List (List DRow)) (a1 : List (List DRow)) (a2 : Unit) : Option Bool :=
  bif (len a0) != (len a1) then
    some false
  else
  afterO (loopO F.slices_EqualFunc_SSimplRow__impl_HouseSame_1.s4 (a1, (), a0, len a0, 0, ())) fun (x7, x8, x9, x10, x11, _) =>
  some true
noncomputable def C.slices_EqualFunc_SSimplRow__impl_HouseSame_1 : Con := ⟨[.r (.val (.sl false 159 (.sl false 35 (.cons (.sl false 32 y5) .nil)))), .r (.val (.sl false 159 (.sl false 35 (.cons (.sl false 32 y5) .nil)))), .r (.fn 166 .nil)], .one .bool, fun x => F.slices_EqualFunc_SSimplRow__impl_HouseSame_1 x.1 x.2.1 x.2.2.1⟩
def L.slices_EqualFunc_SSimplRow__impl_HouseSame_1 : Loops := lookL [(4, ⟨[.pat 1 (.val (.sl false 159 (.sl false 35 (.cons (.sl false 32 y5) .nil)))), .pat 2 (.fn 166 .nil), .pat 15 (.val (.sl false 159 (.sl false 35 (.cons (.sl false 32 y5) .nil)))), .pat 16 (.val (.int .i64)), .pat 17 (.val (.int .i64))], 0⟩)]
noncomputable def K.slices_EqualFunc_SSimplRow__impl_HouseSame_1 : Cons := lookK [(166, [], C.impl_HouseSame_1)]
theorem run.slices_EqualFunc_SSimplRow__impl_HouseSame_1 : ∀ x, runF tb K.slices_EqualFunc_SSimplRow__impl_HouseSame_1 L.slices_EqualFunc_SSimplRow__impl_HouseSame_1 [] Try.f172 C.slices_EqualFunc_SSimplRow__impl_HouseSame_1 x = C.slices_EqualFunc_SSimplRow__impl_HouseSame_1.fn x := fun x => by kernel_rfl

/-! ### impl.turnSame: function 174 -/
noncomputable def F.impl_turnSame (a0 : DTurn) (a1 : DTurn) : Option Bool :=
  bif a0.1 == a1.1 then
    bif a0.2.1 == a1.2.1 then
      (F.slices_Equal_int a0.2.2.1 a1.2.2.1).bind fun r1 =>
      some r1
    else
      some false
  else
    some false
noncomputable def C.impl_turnSame : Con := ⟨[.r (.val y13), .r (.val y13)], .one .bool, fun x => F.impl_turnSame x.1 x.2.1⟩
def L.impl_turnSame : Loops := fun _ => none
noncomputable def K.impl_turnSame : Cons := lookK [(225, [], C.slices_Equal_int)]
theorem run.impl_turnSame : ∀ x, runF tb K.impl_turnSame L.impl_turnSame [] Try.f174 C.impl_turnSame x = C.impl_turnSame.fn x := fun x => by kernel_rfl

/-! ### slices.EqualFunc[[]impl.Turn,[]impl.Turn,impl.Turn,impl.Turn]: function 173 -/
noncomputable def F.slices_EqualFunc_SimplTurn__impl_turnSame.s4 : ((List DTurn) × Unit × (List DTurn) × Int × Int × Unit) → Option (Lp ((List DTurn) × Unit × (List DTurn) × Int × Int × Unit) Bool) := fun (x1, x2, x3, x4, x5, _) =>
  bif decide (x5 < x4) then
    chk (inb x5 (List.length x3)) <|
    chk (inb x5 (List.length x1)) <|
    (F.impl_turnSame (List.getD x3 ((Int.toNat x5)) ((0, false, ([] : List Int), ()))) (List.getD x1 ((Int.toNat x5)) ((0, false, ([] : List Int), ())))).bind fun r6 =>
    bif !r6 then
      some (.ret false)
    else
      some (.again (x1, (), x3, x4, w64 (x5 + 1), ()))
  else
    some (.exit (x1, (), x3, x4, x5, ()))
noncomputable def F.slices_EqualFunc_SimplTurn__impl_turnSame (a0 : List DTurn) (a1 : List DTurn) (a2 : Unit) : Option Bool :=
  bif (len a0) != (len a1) then
    some false
  else
  afterO (loopO F.slices_EqualFunc_SimplTurn__impl_turnSame.s4 (a1, (), a0, len a0, 0, ())) fun (x7, x8, x9, x10, x11, _) =>
  some true
noncomputable def C.slices_EqualFunc_SimplTurn__impl_turnSame : Con := ⟨[.r (.val (.sl false 192 y13)), .r (.val (.sl false 192 y13)), .r (.fn 174 .nil)], .one .bool, fun x => F.slices_EqualFunc_SimplTurn__impl_turnSame x.1 x.2.1 x.2.2.1⟩
def L.slices_EqualFunc_SimplTurn__impl_turnSame : Loops := lookL [(4, ⟨[.pat 1 (.val (.sl false 192 y13)), .pat 2 (.fn 174 .nil), .pat 15 (.val (.sl false 192 y13)), .pat 16 (.val (.int .i64)), .pat 17 (.val (.int .i64))], 0⟩)]
noncomputable def K.slices_EqualFunc_SimplTurn__impl_turnSame : Cons := lookK [(174, [], C.impl_turnSame)]
theorem run.slices_EqualFunc_SimplTurn__impl_turnSame : ∀ x, runF tb K.slices_EqualFunc_SimplTurn__impl_turnSame L.slices_EqualFunc_SimplTurn__impl_turnSame [] Try.f173 C.slices_EqualFunc_SimplTurn__impl_turnSame x = C.slices_EqualFunc_SimplTurn__impl_turnSame.fn x := fun x => by kernel_rfl

/-! ### impl.outSame: function 178 -/
noncomputable def F.impl_outSame (a0 : DOut) (a1 : DOut) : Option Bool :=
  bif a0.1 == a1.1 then
    (F.impl_EntrySame a0.2.1 a1.2.1).bind fun r1 =>
    some r1
  else
    some false
noncomputable def C.impl_outSame : Con := ⟨[.r (.val y22), .r (.val y22)], .one .bool, fun x => F.impl_outSame x.1 x.2.1⟩
def L.impl_outSame : Loops := fun _ => none
noncomputable def K.impl_outSame : Cons := lookK [(176, [], C.impl_EntrySame)]
theorem run.impl_outSame : ∀ x, runF tb K.impl_outSame L.impl_outSame [] Try.f178 C.impl_outSame x = C.impl_outSame.fn x := fun x => by kernel_rfl

/-! ### slices.EqualFunc[[]impl.Out,[]impl.Out,impl.Out,impl.Out]: function 177 -/
noncomputable def F.slices_EqualFunc_SimplOut__impl_outSame.s4 : ((List DOut) × Unit × (List DOut) × Int × Int × Unit) → Option (Lp ((List DOut) × Unit × (List DOut) × Int × Int × Unit) Bool) := fun (x1, x2, x3, x4, x5, _) =>
  bif decide (x5 < x4) then
    chk (inb x5 (List.length x3)) <|
    chk (inb x5 (List.length x1)) <|
    (F.impl_outSame (List.getD x3 ((Int.toNat x5)) ((0, (0, 0, ([] : List DSpan), (0, 0, 0, 0, ([] : List Int), ([] : List Int), ([] : List (List Int)), ()), ()), ()))) (List.getD x1 ((Int.toNat x5)) ((0, (0, 0, ([] : List DSpan), (0, 0, 0, 0, ([] : List Int), ([] : List Int), ([] : List (List Int)), ()), ()), ())))).bind fun r6 =>
    bif !r6 then
      some (.ret false)
    else
      some (.again (x1, (), x3, x4, w64 (x5 + 1), ()))
  else
    some (.exit (x1, (), x3, x4, x5, ()))
noncomputable def F.slices_EqualFunc_SimplOut__impl_outSame (a0 : List DOut) (a1 : List DOut) (a2 : Unit) : Option Bool :=
  bif (len a0) != (len a1) then
    some false
  else
  afterO (loopO F.slices_EqualFunc_SimplOut__impl_outSame.s4 (a1, (), a0, len a0, 0, ())) fun (x7, x8, x9, x10, x11, _) =>
  some true
noncomputable def C.slices_EqualFunc_SimplOut__impl_outSame : Con := ⟨[.r (.val (.sl false 194 y22)), .r (.val (.sl false 194 y22)), .r (.fn 178 .nil)], .one .bool, fun x => F.slices_EqualFunc_SimplOut__impl_outSame x.1 x.2.1 x.2.2.1⟩
def L.slices_EqualFunc_SimplOut__impl_outSame : Loops := lookL [(4, ⟨[.pat 1 (.val (.sl false 194 y22)), .pat 2 (.fn 178 .nil), .pat 15 (.val (.sl false 194 y22)), .pat 16 (.val (.int .i64)), .pat 17 (.val (.int .i64))], 0⟩)]
noncomputable def K.slices_EqualFunc_SimplOut__impl_outSame : Cons := lookK [(178, [], C.impl_outSame)]
theorem run.slices_EqualFunc_SimplOut__impl_outSame : ∀ x, runF tb K.slices_EqualFunc_SimplOut__impl_outSame L.slices_EqualFunc_SimplOut__impl_outSame [] Try.f177 C.slices_EqualFunc_SimplOut__impl_outSame x = C.slices_EqualFunc_SimplOut__impl_outSame.fn x := fun x => by kernel_rfl

/-! ### impl.HouseSame: function 58 -/
noncomputable def F.impl_HouseSame (a0 : DHouse) (a1 : DHouse) : Option Bool :=
  (F.impl_confSame a0.1 a1.1).bind fun r1 =>
  bif r1 then
    bif a0.2.1 == a1.2.1 then
      bif a0.2.2.1 == a1.2.2.1 then
        (F.slices_EqualFunc_SimplSeat__impl_seatSame a0.2.2.2.1 a1.2.2.2.1 (())).bind fun r2 =>
        bif r2 then
          (F.slices_EqualFunc_SSimplRow__impl_HouseSame_1 a0.2.2.2.2.1 a1.2.2.2.2.1 (())).bind fun r3 =>
          bif r3 then
            (F.slices_EqualFunc_SimplTurn__impl_turnSame a0.2.2.2.2.2.1 a1.2.2.2.2.2.1 (())).bind fun r4 =>
            bif r4 then
              bif a0.2.2.2.2.2.2.1 == a1.2.2.2.2.2.2.1 then
                (F.slices_EqualFunc_SimplEntry__impl_EntrySame a0.2.2.2.2.2.2.2.1 a1.2.2.2.2.2.2.2.1 (())).bind fun r5 =>
                bif r5 then
                  (F.slices_EqualFunc_SimplOut__impl_outSame a0.2.2.2.2.2.2.2.2.1 a1.2.2.2.2.2.2.2.2.1 (())).bind fun r6 =>
                  some r6
                else
                  some false
              else
                some false
            else
              some false
          else
            some false
        else
          some false
      else
        some false
    else
      some false
  else
    some false
noncomputable def C.impl_HouseSame : Con := ⟨[.r (.val y23), .r (.val y23)], .one .bool, fun x => F.impl_HouseSame x.1 x.2.1⟩
def L.impl_HouseSame : Loops := fun _ => none
noncomputable def K.impl_HouseSame : Cons := lookK [(169, [], C.impl_confSame), (170, [171], C.slices_EqualFunc_SimplSeat__impl_seatSame), (172, [166], C.slices_EqualFunc_SSimplRow__impl_HouseSame_1), (173, [174], C.slices_EqualFunc_SimplTurn__impl_turnSame), (175, [176], C.slices_EqualFunc_SimplEntry__impl_EntrySame), (177, [178], C.slices_EqualFunc_SimplOut__impl_outSame)]
theorem run.impl_HouseSame : ∀ x, runF tb K.impl_HouseSame L.impl_HouseSame [] Try.f58 C.impl_HouseSame x = C.impl_HouseSame.fn x := fun x => by kernel_rfl

/-! ### laws.FnExactHouseSame: function 9 -/
noncomputable def F.laws_FnExactHouseSame (a0 : DHouse) (a1 : DHouse) : Option Bool :=
  (F.laws_szHouse a0 1048576).bind fun r1 =>
  bif decide (r1 < 0) then
    some true
  else
  (F.laws_szHouse a1 r1).bind fun r2 =>
  bif decide (r2 < 0) then
    some true
  else
  (F.laws_toHouse a0).bind fun r3 =>
  (F.laws_toHouse a1).bind fun r4 =>
  (F.spec_HouseSame r3 r4).bind fun r5 =>
  (F.laws_toHouse a0).bind fun r6 =>
  (F.laws_toHouse a1).bind fun r7 =>
  (F.impl_HouseSame r6 r7).bind fun r8 =>
  bif !(r8 == r5) then
    some false
  else
  (F.laws_toHouse a0).bind fun r9 =>
  (F.laws_eqHouse r6 r9).bind fun r10 =>
  bif !r10 then
    some false
  else
  (F.laws_toHouse a1).bind fun r11 =>
  (F.laws_eqHouse r7 r11).bind fun r12 =>
  bif !r12 then
    some false
  else
    some true
noncomputable def C.laws_FnExactHouseSame : Con := ⟨[.r (.val y15), .r (.val y15)], .one .bool, fun x => F.laws_FnExactHouseSame x.1 x.2.1⟩
def L.laws_FnExactHouseSame : Loops := fun _ => none
noncomputable def K.laws_FnExactHouseSame : Cons := lookK [(35, [], C.laws_szHouse), (37, [], C.laws_toHouse), (39, [], C.laws_eqHouse), (57, [], C.spec_HouseSame), (58, [], C.impl_HouseSame)]
theorem run.laws_FnExactHouseSame : ∀ x, runF tb K.laws_FnExactHouseSame L.laws_FnExactHouseSame [] Try.f9 C.laws_FnExactHouseSame x = C.laws_FnExactHouseSame.fn x := fun x => by kernel_rfl

/-! ### laws.big: function 59 -/
noncomputable def F.laws_big (a0 : List Int) : Option Bool :=
  some (decide ((len a0) > 1048576))
noncomputable def C.laws_big : Con := ⟨[.r (.val (.sl false 5 (.int .u8)))], .one .bool, fun x => F.laws_big x.1⟩
def L.laws_big : Loops := fun _ => none
noncomputable def K.laws_big : Cons := lookK []
theorem run.laws_big : ∀ x, runF tb K.laws_big L.laws_big [] Try.f59 C.laws_big x = C.laws_big.fn x := fun x => by kernel_rfl

/-! ### spec.l1New: function 180 -/
noncomputable def F.spec_l1New.s3 : ((List Int) × Int × Int × Unit) → Option (Lp ((List Int) × Int × Int × Unit) DL1Cur) := fun (x1, x2, x3, _) =>
  bif decide (x3 < (len x1)) then
    bif decide (x3 < 4000) then
      chk (inb x3 (List.length x1)) <|
      some (.again (x1, ibits .and .i64 (w64 ((w64 ((w64 (x2 * 131)) + (w64 (List.getD x1 ((Int.toNat x3)) 0)))) + 7)) 1073741823, w64 (x3 + 1), ()))
    else
      some (.exit (x1, x2, x3, ()))
  else
    some (.exit (x1, x2, x3, ()))
noncomputable def F.spec_l1New (a0 : List Int) : Option DL1Cur :=
  afterO (loopO F.spec_l1New.s3 (a0, w64 (26583 + (len a0)), 0, ())) fun (x4, x5, x6, _) =>
  some (x4, 0, x5, ())
noncomputable def C.spec_l1New : Con := ⟨[.r (.val (.sl false 5 (.int .u8)))], .ptr y27, fun x => F.spec_l1New x.1⟩
def L.spec_l1New : Loops := lookL [(3, ⟨[.pat 0 (.val (.sl false 5 (.int .u8))), .pat 3 (.val (.int .i64)), .pat 4 (.val (.int .i64))], 0⟩)]
noncomputable def K.spec_l1New : Cons := lookK []
theorem run.spec_l1New : ∀ x, runF tb K.spec_l1New L.spec_l1New [] Try.f180 C.spec_l1New x = C.spec_l1New.fn x := fun x => by kernel_rfl

/-! ### spec.l1Byte: function 197 -/
noncomputable def F.spec_l1Byte (a0 : DL1Cur) : Option (Int × DL1Cur) :=
  bif decide (a0.2.1 < (len a0.1)) then
    chk (inb a0.2.1 (List.length a0.1)) <|
    some (ibits .and .i64 (w64 ((ibits .and .i64 (ibits .xor .i64 (Int.fdiv (w64 ((w64 (a0.2.2.1 * 6364136223846793005)) + 1442695040888963407)) (2 ^ (min 33 64))) (Int.fdiv (w64 ((w64 (a0.2.2.1 * 6364136223846793005)) + 1442695040888963407)) (2 ^ (min 45 64)))) 255) + (w64 (List.getD a0.1 ((Int.toNat a0.2.1)) 0)))) 255, (a0.1, w64 (a0.2.1 + 1), w64 ((w64 (a0.2.2.1 * 6364136223846793005)) + 1442695040888963407), a0.2.2.2))
  else
    some (ibits .and .i64 (ibits .xor .i64 (Int.fdiv (w64 ((w64 (a0.2.2.1 * 6364136223846793005)) + 1442695040888963407)) (2 ^ (min 33 64))) (Int.fdiv (w64 ((w64 (a0.2.2.1 * 6364136223846793005)) + 1442695040888963407)) (2 ^ (min 45 64)))) 255, (a0.1, a0.2.1, w64 ((w64 (a0.2.2.1 * 6364136223846793005)) + 1442695040888963407), a0.2.2.2))
noncomputable def C.spec_l1Byte : Con := ⟨[.p y27 y27], .one (.int .i64), fun x => F.spec_l1Byte x.1⟩
def L.spec_l1Byte : Loops := fun _ => none
noncomputable def K.spec_l1Byte : Cons := lookK []
theorem run.spec_l1Byte : ∀ x, runF tb K.spec_l1Byte L.spec_l1Byte [0] Try.f197 C.spec_l1Byte x = C.spec_l1Byte.fn x := fun x => by kernel_rfl

/-! ### spec.l1Below: function 196 -/
noncomputable def F.spec_l1Below (a0 : DL1Cur) (a1 : Int) : Option (Int × DL1Cur) :=
  bif decide (a1 ≤ 0) then
    some (0, a0)
  else
  bif decide (a1 ≤ 256) then
    (F.spec_l1Byte a0).bind fun r1 =>
    nchk (a1 == 0) <|
    some (Int.tmod r1.1 a1, r1.2)
  else
  (F.spec_l1Byte a0).bind fun r2 =>
  (F.spec_l1Byte r2.2).bind fun r3 =>
  (F.spec_l1Byte r3.2).bind fun r4 =>
  (F.spec_l1Byte r4.2).bind fun r5 =>
  nchk (a1 == 0) <|
  some (Int.tmod (w64 ((w64 ((w64 ((w64 (r2.1 * 16777216)) + (w64 (r3.1 * 65536)))) + (w64 (r4.1 * 256)))) + r5.1)) a1, r5.2)
noncomputable def C.spec_l1Below : Con := ⟨[.p y27 y27, .r (.val (.int .i64))], .one (.int .i64), fun x => F.spec_l1Below x.1 x.2.1⟩
def L.spec_l1Below : Loops := fun _ => none
noncomputable def K.spec_l1Below : Cons := lookK [(197, [], C.spec_l1Byte)]
theorem run.spec_l1Below : ∀ x, runF tb K.spec_l1Below L.spec_l1Below [0] Try.f196 C.spec_l1Below x = C.spec_l1Below.fn x := fun x => by kernel_rfl

/-! ### spec.l1PickInt: function 268 -/
noncomputable def F.spec_l1PickInt (a0 : DL1Cur) (a1 : List Int) : Option (Int × DL1Cur) :=
  (F.spec_l1Below a0 (len a1)).bind fun r1 =>
  chk (inb r1.1 (List.length a1)) <|
  some (List.getD a1 ((Int.toNat r1.1)) 0, r1.2)
noncomputable def C.spec_l1PickInt : Con := ⟨[.p y27 y27, .r (.val (.sl false 3 (.int .i64)))], .one (.int .i64), fun x => F.spec_l1PickInt x.1 x.2.1⟩
def L.spec_l1PickInt : Loops := fun _ => none
noncomputable def K.spec_l1PickInt : Cons := lookK [(196, [], C.spec_l1Below)]
theorem run.spec_l1PickInt : ∀ x, runF tb K.spec_l1PickInt L.spec_l1PickInt [0] Try.f268 C.spec_l1PickInt x = C.spec_l1PickInt.fn x := fun x => by kernel_rfl

/-! ### spec.l3Values: function 290 -/
noncomputable def F.spec_l3Values.s4 : ((List Int) × Int × Int × DL1Cur × Unit) → Option (Lp ((List Int) × Int × Int × DL1Cur × Unit) ((List Int) × DL1Cur)) := fun (x2, x3, x4, x5, _) =>
  bif decide (x4 < x3) then
    (F.spec_l1Byte x5).bind fun r6 =>
    (F.spec_l1PickInt r6.2 ([0, 1, 7, 8, 100, 5000, 1000000, r6.1, 1000001, -1])).bind fun r7 =>
    chk (fits (List.length x2 + List.length ([r7.1])) 8) <|
    some (.again (x2 ++ ([r7.1]), x3, w64 (x4 + 1), r7.2, ()))
  else
    some (.exit (x2, x3, x4, x5, ()))
noncomputable def F.spec_l3Values (a0 : DL1Cur) : Option ((List Int) × DL1Cur) :=
  (F.spec_l1Below a0 6).bind fun r1 =>
  afterO (loopO F.spec_l3Values.s4 (([] : List Int), r1.1, 0, r1.2, ())) fun (x8, x9, x10, x11, _) =>
  some (x8, x11)
noncomputable def C.spec_l3Values : Con := ⟨[.p y27 y27], .one (.sl true 3 (.int .i64)), fun x => F.spec_l3Values x.1⟩
def L.spec_l3Values : Loops := lookL [(4, ⟨[.own 3 (.sl true 3 (.int .i64)), .pat 4 (.val (.int .i64)), .pat 5 (.val (.int .i64)), .root 0 true y27 [0]], 0⟩)]
noncomputable def K.spec_l3Values : Cons := lookK [(196, [], C.spec_l1Below), (197, [], C.spec_l1Byte), (268, [], C.spec_l1PickInt)]
theorem run.spec_l3Values : ∀ x, runF tb K.spec_l3Values L.spec_l3Values [0] Try.f290 C.spec_l3Values x = C.spec_l3Values.fn x := fun x => by kernel_rfl

/-! ### spec.SketchNew: function 296 -/
noncomputable def F.spec_SketchNew : Option DSketch :=
  chk (mk 8 8 8) <|
  chk (mk 8 8 8) <|
  chk (mk 8 4 4) <|
  chk (mk 8 4 4) <|
  some (0, 0, 0, 0, List.replicate 8 0, List.replicate 8 0, [List.replicate 4 0, List.replicate 4 0], ())
noncomputable def C.spec_SketchNew : Con := ⟨[], .one y3, fun x => F.spec_SketchNew⟩
def L.spec_SketchNew : Loops := fun _ => none
noncomputable def K.spec_SketchNew : Cons := lookK []
theorem run.spec_SketchNew : ∀ x, runF tb K.spec_SketchNew L.spec_SketchNew [] Try.f296 C.spec_SketchNew x = C.spec_SketchNew.fn x := fun x => by kernel_rfl

/-! ### spec.l2Clip: function 317 -/
noncomputable def F.spec_l2Clip (a0 : Int) (a1 : Int) : Option Int :=
  (F.spec_l1Min a0 a1).bind fun r1 =>
  (F.spec_l1Max 0 r1).bind fun r2 =>
  some r2
noncomputable def C.spec_l2Clip : Con := ⟨[.r (.val (.int .i64)), .r (.val (.int .i64))], .one (.int .i64), fun x => F.spec_l2Clip x.1 x.2.1⟩
def L.spec_l2Clip : Loops := fun _ => none
noncomputable def K.spec_l2Clip : Cons := lookK [(224, [], C.spec_l1Max), (253, [], C.spec_l1Min)]
theorem run.spec_l2Clip : ∀ x, runF tb K.spec_l2Clip L.spec_l2Clip [] Try.f317 C.spec_l2Clip x = C.spec_l2Clip.fn x := fun x => by kernel_rfl

/-! ### spec.Add: function 308 -/
noncomputable def F.spec_Add (a0 : Int) (a1 : Int) : Option Int :=
  (F.spec_l2Clip a0 1000000000).bind fun r1 =>
  (F.spec_l2Clip a1 1000000000).bind fun r2 =>
  (F.spec_l1Min (w64 (r1 + r2)) 1000000000).bind fun r3 =>
  some r3
noncomputable def C.spec_Add : Con := ⟨[.r (.val (.int .i64)), .r (.val (.int .i64))], .one (.int .i64), fun x => F.spec_Add x.1 x.2.1⟩
def L.spec_Add : Loops := fun _ => none
noncomputable def K.spec_Add : Cons := lookK [(253, [], C.spec_l1Min), (317, [], C.spec_l2Clip)]
theorem run.spec_Add : ∀ x, runF tb K.spec_Add L.spec_Add [] Try.f308 C.spec_Add x = C.spec_Add.fn x := fun x => by kernel_rfl

/-! ### spec.BucketOf: function 309 -/
noncomputable def F.spec_BucketOf.s3 : (Int × Int × Unit) → Option (Lp (Int × Int × Unit) Int) := fun (x2, x3, _) =>
  bif decide (x2 > 0) then
    some (.again (w64 (Int.tdiv x2 2), w64 (x3 + 1), ()))
  else
    some (.exit (x2, x3, ()))
noncomputable def F.spec_BucketOf (a0 : Int) : Option Int :=
  (F.spec_l2Clip a0 1000000).bind fun r1 =>
  afterO (loopO F.spec_BucketOf.s3 (r1, 0, ())) fun (x4, x5, _) =>
  some (w64 (Int.tdiv (w64 (x5 + 2)) 3))
noncomputable def C.spec_BucketOf : Con := ⟨[.r (.val (.int .i64))], .one (.int .i64), fun x => F.spec_BucketOf x.1⟩
def L.spec_BucketOf : Loops := lookL [(3, ⟨[.pat 3 (.val (.int .i64)), .pat 4 (.val (.int .i64))], 0⟩)]
noncomputable def K.spec_BucketOf : Cons := lookK [(317, [], C.spec_l2Clip)]
theorem run.spec_BucketOf : ∀ x, runF tb K.spec_BucketOf L.spec_BucketOf [] Try.f309 C.spec_BucketOf x = C.spec_BucketOf.fn x := fun x => by kernel_rfl

/-! ### spec.Mix: function 310 -/
noncomputable def F.spec_Mix (a0 : Int) : Option Int :=
  (F.spec_l2Clip a0 1000000).bind fun r1 =>
  some (ibits .xor .i64 (Int.tmod (w64 ((w64 (r1 * 40503)) + 12345)) 65536) (w64 (Int.tdiv (Int.tmod (w64 ((w64 (r1 * 40503)) + 12345)) 65536) 256)))
noncomputable def C.spec_Mix : Con := ⟨[.r (.val (.int .i64))], .one (.int .i64), fun x => F.spec_Mix x.1⟩
def L.spec_Mix : Loops := fun _ => none
noncomputable def K.spec_Mix : Cons := lookK [(317, [], C.spec_l2Clip)]
theorem run.spec_Mix : ∀ x, runF tb K.spec_Mix L.spec_Mix [] Try.f310 C.spec_Mix x = C.spec_Mix.fn x := fun x => by kernel_rfl

/-! ### spec.RankOf: function 311 -/
noncomputable def F.spec_RankOf.s5 : (Int × Int × Unit) → Option (Lp (Int × Int × Unit) Int) := fun (x2, x3, _) =>
  bif (Int.tmod x2 2) == 0 then
    some (.again (w64 (Int.tdiv x2 2), w64 (x3 + 1), ()))
  else
    some (.exit (x2, x3, ()))
noncomputable def F.spec_RankOf (a0 : Int) : Option Int :=
  (F.spec_Mix a0).bind fun r1 =>
  bif r1 == 0 then
    some 17
  else
  afterO (loopO F.spec_RankOf.s5 (r1, 1, ())) fun (x4, x5, _) =>
  some x5
noncomputable def C.spec_RankOf : Con := ⟨[.r (.val (.int .i64))], .one (.int .i64), fun x => F.spec_RankOf x.1⟩
def L.spec_RankOf : Loops := lookL [(5, ⟨[.pat 3 (.val (.int .i64)), .pat 4 (.val (.int .i64))], 0⟩)]
noncomputable def K.spec_RankOf : Cons := lookK [(310, [], C.spec_Mix)]
theorem run.spec_RankOf : ∀ x, runF tb K.spec_RankOf L.spec_RankOf [] Try.f311 C.spec_RankOf x = C.spec_RankOf.fn x := fun x => by kernel_rfl

/-! ### spec.Insert: function 297 -/
noncomputable def F.spec_Insert.s14 : (Int × Int × DSketch × DSketch × Unit) → Option (Lp (Int × Int × DSketch × DSketch × Unit) (DSketch × Bool)) := fun (x14, x15, x16, x17, _) =>
  bif decide (x15 < 2) then
    (F.spec_Mix x14).bind fun r18 =>
    chk (inb x15 (List.length x17.2.2.2.2.2.2.1)) <|
    chk (inb x15 (List.length x17.2.2.2.2.2.2.1)) <|
    chk (inb (Int.tmod (w64 (r18 + x15)) 4) (List.length (List.getD x17.2.2.2.2.2.2.1 ((Int.toNat x15)) (([] : List Int))))) <|
    (F.spec_Add (List.getD (List.getD x17.2.2.2.2.2.2.1 ((Int.toNat x15)) (([] : List Int))) ((Int.toNat (Int.tmod (w64 (r18 + x15)) 4))) 0) 1).bind fun r19 =>
    chk (inb (Int.tmod (w64 (r18 + x15)) 4) (List.length (List.getD x17.2.2.2.2.2.2.1 ((Int.toNat x15)) (([] : List Int))))) <|
    (some (List.set x17.2.2.2.2.2.2.1 ((Int.toNat x15)) (List.set (List.getD x17.2.2.2.2.2.2.1 ((Int.toNat x15)) (([] : List Int))) ((Int.toNat (Int.tmod (w64 (r18 + x15)) 4))) r19))).bind fun r20 =>
    some (.again (x14, w64 (x15 + 1), x16, (x17.1, x17.2.1, x17.2.2.1, x17.2.2.2.1, x17.2.2.2.2.1, x17.2.2.2.2.2.1, r20, x17.2.2.2.2.2.2.2), ()))
  else
    some (.exit (x14, x15, x16, x17, ()))
noncomputable def F.spec_Insert (a0 : DSketch) (a1 : Int) : Option (DSketch × Bool) :=
  (F.spec_l3Copy a0).bind fun r1 =>
  (F.spec_SketchOk a0).bind fun r2 =>
  bif !r2 then
    some (r1, false)
  else
  (F.spec_l1In a1 0 1000000).bind fun r3 =>
  bif !r3 then
    some (r1, false)
  else
  (F.spec_Add a0.1 1).bind fun r4 =>
  (F.spec_Add a0.2.1 a1).bind fun r5 =>
  (F.spec_l1Min a0.2.2.1 a1).bind fun r6 =>
  bif a0.1 == 0 then
    (F.spec_l1Max a0.2.2.2.1 a1).bind fun r7 =>
    (F.spec_BucketOf a1).bind fun r8 =>
    (F.spec_BucketOf a1).bind fun r9 =>
    chk (inb r9 (List.length r1.2.2.2.2.1)) <|
    (F.spec_Add (List.getD r1.2.2.2.2.1 ((Int.toNat r9)) 0) 1).bind fun r10 =>
    chk (inb r8 (List.length r1.2.2.2.2.1)) <|
    (F.spec_Mix a1).bind fun r11 =>
    chk (inb (Int.tmod r11 8) (List.length r1.2.2.2.2.2.1)) <|
    (F.spec_RankOf a1).bind fun r12 =>
    (F.spec_l1Max (List.getD r1.2.2.2.2.2.1 ((Int.toNat (Int.tmod r11 8))) 0) r12).bind fun r13 =>
    chk (inb (Int.tmod r11 8) (List.length r1.2.2.2.2.2.1)) <|
    afterO (loopO F.spec_Insert.s14 (a1, 0, (0, 0, 0, 0, ([] : List Int), ([] : List Int), ([] : List (List Int)), ()), (r4, r5, a1, r7, List.set r1.2.2.2.2.1 ((Int.toNat r8)) r10, List.set r1.2.2.2.2.2.1 ((Int.toNat (Int.tmod r11 8))) r13, r1.2.2.2.2.2.2), ())) fun (x21, x22, x23, x24, _) =>
    some (x24, true)
  else
  (F.spec_l1Max a0.2.2.2.1 a1).bind fun r25 =>
  (F.spec_BucketOf a1).bind fun r26 =>
  (F.spec_BucketOf a1).bind fun r27 =>
  chk (inb r27 (List.length r1.2.2.2.2.1)) <|
  (F.spec_Add (List.getD r1.2.2.2.2.1 ((Int.toNat r27)) 0) 1).bind fun r28 =>
  chk (inb r26 (List.length r1.2.2.2.2.1)) <|
  (F.spec_Mix a1).bind fun r29 =>
  chk (inb (Int.tmod r29 8) (List.length r1.2.2.2.2.2.1)) <|
  (F.spec_RankOf a1).bind fun r30 =>
  (F.spec_l1Max (List.getD r1.2.2.2.2.2.1 ((Int.toNat (Int.tmod r29 8))) 0) r30).bind fun r31 =>
  chk (inb (Int.tmod r29 8) (List.length r1.2.2.2.2.2.1)) <|
  afterO (loopO F.spec_Insert.s14 (a1, 0, (0, 0, 0, 0, ([] : List Int), ([] : List Int), ([] : List (List Int)), ()), (r4, r5, r6, r25, List.set r1.2.2.2.2.1 ((Int.toNat r26)) r28, List.set r1.2.2.2.2.2.1 ((Int.toNat (Int.tmod r29 8))) r31, r1.2.2.2.2.2.2), ())) fun (x39, x40, x41, x42, _) =>
  some (x42, true)
noncomputable def C.spec_Insert : Con := ⟨[.r (.val y1), .r (.val (.int .i64))], .many [y3, .bool], fun x => F.spec_Insert x.1 x.2.1⟩
def L.spec_Insert : Loops := lookL [(14, ⟨[.pat 1 (.val (.int .i64)), .pat 8 (.val (.int .i64)), .root 4 true y3 [4], .root 6 true y3 [6]], 0⟩)]
noncomputable def K.spec_Insert : Cons := lookK [(70, [], C.spec_SketchOk), (107, [], C.spec_l3Copy), (136, [], C.spec_l1In), (224, [], C.spec_l1Max), (253, [], C.spec_l1Min), (308, [], C.spec_Add), (309, [], C.spec_BucketOf), (310, [], C.spec_Mix), (311, [], C.spec_RankOf)]
theorem run.spec_Insert : ∀ x, runF tb K.spec_Insert L.spec_Insert [] Try.f297 C.spec_Insert x = C.spec_Insert.fn x := fun x => by kernel_rfl

/-! ### spec.Sketched: function 289 -/
noncomputable def F.spec_Sketched.s3 : ((List Int) × Int × DSketch × DSketch × Unit) → Option (Lp ((List Int) × Int × DSketch × DSketch × Unit) DSketch) := fun (x2, x3, x4, x5, _) =>
  bif decide (x3 < (len x2)) then
    chk (inb x3 (List.length x2)) <|
    (F.spec_Insert x5 (List.getD x2 ((Int.toNat x3)) 0)).bind fun r6 =>
    some (.again (x2, w64 (x3 + 1), x4, r6.1, ()))
  else
    some (.exit (x2, x3, x4, x5, ()))
noncomputable def F.spec_Sketched (a0 : List Int) : Option DSketch :=
  (F.spec_SketchNew).bind fun r1 =>
  afterO (loopO F.spec_Sketched.s3 (a0, 0, (0, 0, 0, 0, ([] : List Int), ([] : List Int), ([] : List (List Int)), ()), r1, ())) fun (x7, x8, x9, x10, _) =>
  some x10
noncomputable def C.spec_Sketched : Con := ⟨[.r (.val (.sl false 3 (.int .i64)))], .one y3, fun x => F.spec_Sketched x.1⟩
def L.spec_Sketched : Loops := lookL [(3, ⟨[.pat 0 (.val (.sl false 3 (.int .i64))), .pat 4 (.val (.int .i64)), .root 2 true y3 [2], .root 3 true y3 [3]], 0⟩)]
noncomputable def K.spec_Sketched : Cons := lookK [(296, [], C.spec_SketchNew), (297, [], C.spec_Insert)]
theorem run.spec_Sketched : ∀ x, runF tb K.spec_Sketched L.spec_Sketched [] Try.f289 C.spec_Sketched x = C.spec_Sketched.fn x := fun x => by kernel_rfl

/-! ### spec.l6Right: function 280 -/
noncomputable def F.spec_l6Right (a0 : DL1Cur) : Option (DItem × DL1Cur) :=
  (F.spec_l1Below a0 8).bind fun r1 =>
  (F.spec_l1Below r1.2 2).bind fun r2 =>
  (F.spec_l1Below r2.2 2).bind fun r3 =>
  (F.spec_l1Below r3.2 3).bind fun r4 =>
  (F.spec_l3Values r4.2).bind fun r5 =>
  (F.spec_Sketched r5.1).bind fun r6 =>
  some ((w64 (1 + r1.1), r2.1, r3.1, r4.1, r6, ()), r5.2)
noncomputable def C.spec_l6Right : Con := ⟨[.p y27 y27], .one y8, fun x => F.spec_l6Right x.1⟩
def L.spec_l6Right : Loops := fun _ => none
noncomputable def K.spec_l6Right : Cons := lookK [(196, [], C.spec_l1Below), (289, [], C.spec_Sketched), (290, [], C.spec_l3Values)]
theorem run.spec_l6Right : ∀ x, runF tb K.spec_l6Right L.spec_l6Right [0] Try.f280 C.spec_l6Right x = C.spec_l6Right.fn x := fun x => by kernel_rfl

/-! ### spec.l7Right: function 267 -/
noncomputable def F.spec_l7Right.s4 : (Int × Int × DL1Cur × DFrame × DFrame × Unit) → Option (Lp (Int × Int × DL1Cur × DFrame × DFrame × Unit) (DFrame × DL1Cur)) := fun (x6, x7, x8, x9, x10, _) =>
  bif decide (x7 < x6) then
    (F.spec_l1Below x8 12).bind fun r11 =>
    (F.spec_l1Below r11.2 3).bind fun r12 =>
    (F.spec_l5Put x10.2.2.2.2.1 ((w64 (1 + r11.1), w64 ((w64 (1 + r11.1)) + r12.1), ()))).bind fun r13 =>
    some (.again (x6, w64 (x7 + 1), r12.2, x9, (x10.1, x10.2.1, x10.2.2.1, x10.2.2.2.1, r13, x10.2.2.2.2.2), ()))
  else
    some (.exit (x6, x7, x8, x9, x10, ()))
noncomputable def F.spec_l7Right (a0 : DL1Cur) : Option (DFrame × DL1Cur) :=
  (F.spec_l1Below a0 4).bind fun r1 =>
  (F.spec_l1Below r1.2 3).bind fun r2 =>
  (F.spec_l1Below r2.2 3).bind fun r3 =>
  (F.spec_l1Below r3.2 9).bind fun r4 =>
  (F.spec_l1Below r4.2 3).bind fun r5 =>
  afterO (loopO F.spec_l7Right.s4 (r5.1, 0, r5.2, (0, 0, 0, 0, ([] : List DSpan), (0, 0, 0, 0, (0, 0, 0, 0, ([] : List Int), ([] : List Int), ([] : List (List Int)), ()), ()), ()), (r1.1, r2.1, r3.1, r4.1, ([] : List DSpan), (0, 0, 0, 0, (0, 0, 0, 0, ([] : List Int), ([] : List Int), ([] : List (List Int)), ()), ()), ()), ())) fun (x14, x15, x16, x17, x18, _) =>
  bif x18.1 == 1 then
    (F.spec_l6Right x16).bind fun r19 =>
    some ((x18.1, x18.2.1, x18.2.2.1, x18.2.2.2.1, x18.2.2.2.2.1, r19.1, x18.2.2.2.2.2.2), r19.2)
  else
    some (x18, x16)
noncomputable def C.spec_l7Right : Con := ⟨[.p y27 y27], .one y25, fun x => F.spec_l7Right x.1⟩
def L.spec_l7Right : Loops := lookL [(4, ⟨[.pat 4 (.val (.int .i64)), .pat 5 (.val (.int .i64)), .root 0 true y27 [0], .root 2 true y25 [2], .root 3 true y25 [3]], 0⟩)]
noncomputable def K.spec_l7Right : Cons := lookK [(138, [], C.spec_l5Put), (196, [], C.spec_l1Below), (280, [], C.spec_l6Right)]
theorem run.spec_l7Right : ∀ x, runF tb K.spec_l7Right L.spec_l7Right [0] Try.f267 C.spec_l7Right x = C.spec_l7Right.fn x := fun x => by kernel_rfl

/-! ### spec.l5Right: function 288 -/
noncomputable def F.spec_l5Right.s4 : ((List DSpan) × Int × Int × DL1Cur × Unit) → Option (Lp ((List DSpan) × Int × Int × DL1Cur × Unit) ((List DSpan) × DL1Cur)) := fun (x2, x3, x4, x5, _) =>
  bif decide (x4 < x3) then
    (F.spec_l1Below x5 20).bind fun r6 =>
    (F.spec_l1Below r6.2 20).bind fun r7 =>
    (F.spec_l1Below r7.2 10).bind fun r8 =>
    (F.spec_l1PickInt r8.2 ([r6.1, r7.1, w64 (9990 + r8.1)])).bind fun r9 =>
    (F.spec_l1Below r9.2 3).bind fun r10 =>
    (F.spec_l1Min (w64 (r9.1 + r10.1)) 9999).bind fun r11 =>
    (F.spec_l5Put x2 ((r9.1, r11, ()))).bind fun r12 =>
    some (.again (r12, x3, w64 (x4 + 1), r10.2, ()))
  else
    some (.exit (x2, x3, x4, x5, ()))
noncomputable def F.spec_l5Right (a0 : DL1Cur) : Option ((List DSpan) × DL1Cur) :=
  (F.spec_l1Below a0 7).bind fun r1 =>
  afterO (loopO F.spec_l5Right.s4 (([] : List DSpan), r1.1, 0, r1.2, ())) fun (x13, x14, x15, x16, _) =>
  some (x13, x16)
noncomputable def C.spec_l5Right : Con := ⟨[.p y27 y27], .one (.sl true 175 y0), fun x => F.spec_l5Right x.1⟩
def L.spec_l5Right : Loops := lookL [(4, ⟨[.own 3 (.sl true 175 y0), .pat 4 (.val (.int .i64)), .pat 5 (.val (.int .i64)), .root 0 true y27 [0]], 0⟩)]
noncomputable def K.spec_l5Right : Cons := lookK [(138, [], C.spec_l5Put), (196, [], C.spec_l1Below), (253, [], C.spec_l1Min), (268, [], C.spec_l1PickInt)]
theorem run.spec_l5Right : ∀ x, runF tb K.spec_l5Right L.spec_l5Right [0] Try.f288 C.spec_l5Right x = C.spec_l5Right.fn x := fun x => by kernel_rfl

/-! ### spec.l1Once: function 190 -/
noncomputable def F.spec_l1Once (a0 : DL1Cur) (a1 : Int) : Option (Bool × DL1Cur) :=
  (F.spec_l1Below a0 a1).bind fun r1 =>
  some (r1.1 == 0, r1.2)
noncomputable def C.spec_l1Once : Con := ⟨[.p y27 y27, .r (.val (.int .i64))], .one .bool, fun x => F.spec_l1Once x.1 x.2.1⟩
def L.spec_l1Once : Loops := fun _ => none
noncomputable def K.spec_l1Once : Cons := lookK [(196, [], C.spec_l1Below)]
theorem run.spec_l1Once : ∀ x, runF tb K.spec_l1Once L.spec_l1Once [0] Try.f190 C.spec_l1Once x = C.spec_l1Once.fn x := fun x => by kernel_rfl

/-! ### spec.l5Draw: function 269 -/
noncomputable def F.spec_l5Draw (a0 : DL1Cur) : Option ((List DSpan) × DL1Cur) :=
  (F.spec_l5Right a0).bind fun r1 =>
  (F.spec_l1Once r1.2 8).bind fun r2 =>
  bif r2.1 then
    (F.spec_l1PickInt r2.2 ([-1, 3, 10000])).bind fun r3 =>
    (F.spec_l1PickInt r3.2 ([5, 10000, 9223372036854775807])).bind fun r4 =>
    chk (fits (List.length r1.1 + List.length ([(r3.1, r4.1, ())])) 16) <|
    some (r1.1 ++ ([(r3.1, r4.1, ())]), r4.2)
  else
    some (r1.1, r2.2)
noncomputable def C.spec_l5Draw : Con := ⟨[.p y27 y27], .one (.sl true 175 y0), fun x => F.spec_l5Draw x.1⟩
def L.spec_l5Draw : Loops := fun _ => none
noncomputable def K.spec_l5Draw : Cons := lookK [(190, [], C.spec_l1Once), (268, [], C.spec_l1PickInt), (288, [], C.spec_l5Right)]
theorem run.spec_l5Draw : ∀ x, runF tb K.spec_l5Draw L.spec_l5Draw [0] Try.f269 C.spec_l5Draw x = C.spec_l5Draw.fn x := fun x => by kernel_rfl

/-! ### spec.l3Right: function 272 -/
noncomputable def F.spec_l3Right (a0 : DL1Cur) : Option (DSketch × DL1Cur) :=
  (F.spec_l3Values a0).bind fun r1 =>
  (F.spec_Sketched r1.1).bind fun r2 =>
  (F.spec_l1Once r1.2 16).bind fun r3 =>
  bif r3.1 then
    bif decide (r2.1 > 0) then
      (F.spec_l1Below r3.2 2).bind fun r4 =>
      chk (inb 3 (List.length r2.2.2.2.2.1)) <|
      some ((w64 (1000000000 - r4.1), 999999997, r2.2.2.1, r2.2.2.2.1, List.set r2.2.2.2.2.1 3 1000000000, r2.2.2.2.2.2), r4.2)
    else
      some (r2, r3.2)
  else
    some (r2, r3.2)
noncomputable def C.spec_l3Right : Con := ⟨[.p y27 y27], .one y3, fun x => F.spec_l3Right x.1⟩
def L.spec_l3Right : Loops := fun _ => none
noncomputable def K.spec_l3Right : Cons := lookK [(190, [], C.spec_l1Once), (196, [], C.spec_l1Below), (289, [], C.spec_Sketched), (290, [], C.spec_l3Values)]
theorem run.spec_l3Right : ∀ x, runF tb K.spec_l3Right L.spec_l3Right [0] Try.f272 C.spec_l3Right x = C.spec_l3Right.fn x := fun x => by kernel_rfl

/-! ### spec.l3Draw: function 192 -/
noncomputable def F.spec_l3Draw (a0 : DL1Cur) : Option (DSketch × DL1Cur) :=
  (F.spec_l3Right a0).bind fun r1 =>
  (F.spec_l1Below r1.2 16).bind fun r2 =>
  bif r2.1 == 0 then
    (F.spec_l1PickInt r2.2 ([-1, 1000001, 500])).bind fun r3 =>
    some ((r1.1.1, r1.1.2.1, r3.1, r1.1.2.2.2), r3.2)
  else
  bif r2.1 == 1 then
    (F.spec_l1Below r2.2 8).bind fun r4 =>
    (F.spec_l1PickInt r4.2 ([-1, 17, 18])).bind fun r5 =>
    chk (inb r4.1 (List.length r1.1.2.2.2.2.2.1)) <|
    some ((r1.1.1, r1.1.2.1, r1.1.2.2.1, r1.1.2.2.2.1, r1.1.2.2.2.2.1, List.set r1.1.2.2.2.2.2.1 ((Int.toNat r4.1)) r5.1, r1.1.2.2.2.2.2.2), r5.2)
  else
  bif r2.1 == 2 then
    chk (fits (List.length r1.1.2.2.2.2.1 + List.length ([0])) 8) <|
    some ((r1.1.1, r1.1.2.1, r1.1.2.2.1, r1.1.2.2.2.1, r1.1.2.2.2.2.1 ++ ([0]), r1.1.2.2.2.2.2), r2.2)
  else
  bif r2.1 == 3 then
    chk (cutOk 0 1 (List.length r1.1.2.2.2.2.2.2.1)) <|
    some ((r1.1.1, r1.1.2.1, r1.1.2.2.1, r1.1.2.2.2.1, r1.1.2.2.2.2.1, r1.1.2.2.2.2.2.1, List.take (1 - 0) (List.drop 0 r1.1.2.2.2.2.2.2.1), r1.1.2.2.2.2.2.2.2), r2.2)
  else
  bif r2.1 == 4 then
    (F.spec_l1PickInt r2.2 ([0, -1, 1000000001])).bind fun r6 =>
    some ((r6.1, r1.1.2), r6.2)
  else
  bif r2.1 == 5 then
    chk (inb 1 (List.length r1.1.2.2.2.2.2.2.1)) <|
    (F.spec_l1PickInt r2.2 ([-1, 3, 1000000001])).bind fun r7 =>
    chk (inb 2 (List.length (List.getD r1.1.2.2.2.2.2.2.1 1 (([] : List Int))))) <|
    some ((r1.1.1, r1.1.2.1, r1.1.2.2.1, r1.1.2.2.2.1, r1.1.2.2.2.2.1, r1.1.2.2.2.2.2.1, List.set r1.1.2.2.2.2.2.2.1 1 (List.set (List.getD r1.1.2.2.2.2.2.2.1 1 (([] : List Int))) 2 r7.1), r1.1.2.2.2.2.2.2.2), r7.2)
  else
    some (r1.1, r2.2)
noncomputable def C.spec_l3Draw : Con := ⟨[.p y27 y27], .one y1, fun x => F.spec_l3Draw x.1⟩
def L.spec_l3Draw : Loops := fun _ => none
noncomputable def K.spec_l3Draw : Cons := lookK [(196, [], C.spec_l1Below), (268, [], C.spec_l1PickInt), (272, [], C.spec_l3Right)]
theorem run.spec_l3Draw : ∀ x, runF tb K.spec_l3Draw L.spec_l3Draw [0] Try.f192 C.spec_l3Draw x = C.spec_l3Draw.fn x := fun x => by kernel_rfl

/-! ### spec.l6Draw: function 220 -/
noncomputable def F.spec_l6Draw (a0 : DL1Cur) : Option (DItem × DL1Cur) :=
  (F.spec_l6Right a0).bind fun r1 =>
  (F.spec_l1Below r1.2 14).bind fun r2 =>
  bif r2.1 == 0 then
    (F.spec_l1PickInt r2.2 ([0, 60, 61, -1])).bind fun r3 =>
    some ((r3.1, r1.1.2), r3.2)
  else
  bif r2.1 == 1 then
    (F.spec_l1PickInt r2.2 ([-1, 2])).bind fun r4 =>
    some ((r1.1.1, r4.1, r1.1.2.2), r4.2)
  else
  bif r2.1 == 2 then
    (F.spec_l1PickInt r2.2 ([-1, 4, 5])).bind fun r5 =>
    some ((r1.1.1, r1.1.2.1, r5.1, r1.1.2.2.2), r5.2)
  else
  bif r2.1 == 3 then
    (F.spec_l1PickInt r2.2 ([-1, 20, 21])).bind fun r6 =>
    some ((r1.1.1, r1.1.2.1, r1.1.2.2.1, r6.1, r1.1.2.2.2.2), r6.2)
  else
  bif r2.1 == 4 then
    (F.spec_l3Draw r2.2).bind fun r7 =>
    some ((r1.1.1, r1.1.2.1, r1.1.2.2.1, r1.1.2.2.2.1, r7.1, r1.1.2.2.2.2.2), r7.2)
  else
    some (r1.1, r2.2)
noncomputable def C.spec_l6Draw : Con := ⟨[.p y27 y27], .one y6, fun x => F.spec_l6Draw x.1⟩
def L.spec_l6Draw : Loops := fun _ => none
noncomputable def K.spec_l6Draw : Cons := lookK [(192, [], C.spec_l3Draw), (196, [], C.spec_l1Below), (268, [], C.spec_l1PickInt), (280, [], C.spec_l6Right)]
theorem run.spec_l6Draw : ∀ x, runF tb K.spec_l6Draw L.spec_l6Draw [0] Try.f220 C.spec_l6Draw x = C.spec_l6Draw.fn x := fun x => by kernel_rfl

/-! ### spec.l7Draw: function 179 -/
noncomputable def F.spec_l7Draw (a0 : DL1Cur) : Option (DFrame × DL1Cur) :=
  (F.spec_l7Right a0).bind fun r1 =>
  (F.spec_l1Below r1.2 14).bind fun r2 =>
  bif r2.1 == 0 then
    (F.spec_l1PickInt r2.2 ([-1, 4, 1, 0])).bind fun r3 =>
    some ((r3.1, r1.1.2), r3.2)
  else
  bif r2.1 == 1 then
    (F.spec_l1PickInt r2.2 ([-1, 3])).bind fun r4 =>
    some ((r1.1.1, r4.1, r1.1.2.2), r4.2)
  else
  bif r2.1 == 2 then
    (F.spec_l1PickInt r2.2 ([-1, 1000, 1001])).bind fun r5 =>
    some ((r1.1.1, r1.1.2.1, r5.1, r1.1.2.2.2), r5.2)
  else
  bif r2.1 == 3 then
    (F.spec_l1PickInt r2.2 ([-1, 60, 61])).bind fun r6 =>
    some ((r1.1.1, r1.1.2.1, r1.1.2.2.1, r6.1, r1.1.2.2.2.2), r6.2)
  else
  bif r2.1 == 4 then
    (F.spec_l5Draw r2.2).bind fun r7 =>
    some ((r1.1.1, r1.1.2.1, r1.1.2.2.1, r1.1.2.2.2.1, r7.1, r1.1.2.2.2.2.2), r7.2)
  else
  bif r2.1 == 5 then
    (F.spec_l6Draw r2.2).bind fun r8 =>
    some ((r1.1.1, r1.1.2.1, r1.1.2.2.1, r1.1.2.2.2.1, r1.1.2.2.2.2.1, r8.1, r1.1.2.2.2.2.2.2), r8.2)
  else
    some (r1.1, r2.2)
noncomputable def C.spec_l7Draw : Con := ⟨[.p y27 y27], .one y24, fun x => F.spec_l7Draw x.1⟩
def L.spec_l7Draw : Loops := fun _ => none
noncomputable def K.spec_l7Draw : Cons := lookK [(196, [], C.spec_l1Below), (220, [], C.spec_l6Draw), (267, [], C.spec_l7Right), (268, [], C.spec_l1PickInt), (269, [], C.spec_l5Draw)]
theorem run.spec_l7Draw : ∀ x, runF tb K.spec_l7Draw L.spec_l7Draw [0] Try.f179 C.spec_l7Draw x = C.spec_l7Draw.fn x := fun x => by kernel_rfl

/-! ### spec.DrawFrameBytes: function 60 -/
noncomputable def F.spec_DrawFrameBytes (a0 : List Int) : Option DFrame :=
  (F.spec_l1New a0).bind fun r1 =>
  (F.spec_l7Draw r1).bind fun r2 =>
  some r2.1
noncomputable def C.spec_DrawFrameBytes : Con := ⟨[.r (.val (.sl false 5 (.int .u8)))], .one y24, fun x => F.spec_DrawFrameBytes x.1⟩
def L.spec_DrawFrameBytes : Loops := fun _ => none
noncomputable def K.spec_DrawFrameBytes : Cons := lookK [(179, [], C.spec_l7Draw), (180, [], C.spec_l1New)]
theorem run.spec_DrawFrameBytes : ∀ x, runF tb K.spec_DrawFrameBytes L.spec_DrawFrameBytes [] Try.f60 C.spec_DrawFrameBytes x = C.spec_DrawFrameBytes.fn x := fun x => by kernel_rfl

/-! ### spec.l7Item: function 189 -/
noncomputable def F.spec_l7Item (a0 : DItem) (a1 : DItem) : Option Bool :=
  bif a0.1 == a1.1 then
    bif a0.2.1 == a1.2.1 then
      bif a0.2.2.1 == a1.2.2.1 then
        bif a0.2.2.2.1 == a1.2.2.2.1 then
          (F.spec_SketchSame a0.2.2.2.2.1 a1.2.2.2.2.1).bind fun r1 =>
          some r1
        else
          some false
      else
        some false
    else
      some false
  else
    some false
noncomputable def C.spec_l7Item : Con := ⟨[.r (.val y6), .r (.val y6)], .one .bool, fun x => F.spec_l7Item x.1 x.2.1⟩
def L.spec_l7Item : Loops := fun _ => none
noncomputable def K.spec_l7Item : Cons := lookK [(71, [], C.spec_SketchSame)]
theorem run.spec_l7Item : ∀ x, runF tb K.spec_l7Item L.spec_l7Item [] Try.f189 C.spec_l7Item x = C.spec_l7Item.fn x := fun x => by kernel_rfl

/-! ### spec.FrameSame: function 63 -/
noncomputable def F.spec_FrameSame (a0 : DFrame) (a1 : DFrame) : Option Bool :=
  bif a0.1 == a1.1 then
    bif a0.2.1 == a1.2.1 then
      bif a0.2.2.1 == a1.2.2.1 then
        bif a0.2.2.2.1 == a1.2.2.2.1 then
          (F.spec_l5Same a0.2.2.2.2.1 a1.2.2.2.2.1).bind fun r1 =>
          bif r1 then
            (F.spec_l7Item a0.2.2.2.2.2.1 a1.2.2.2.2.2.1).bind fun r2 =>
            some r2
          else
            some false
        else
          some false
      else
        some false
    else
      some false
  else
    some false
noncomputable def C.spec_FrameSame : Con := ⟨[.r (.val y24), .r (.val y24)], .one .bool, fun x => F.spec_FrameSame x.1 x.2.1⟩
def L.spec_FrameSame : Loops := fun _ => none
noncomputable def K.spec_FrameSame : Cons := lookK [(188, [], C.spec_l5Same), (189, [], C.spec_l7Item)]
theorem run.spec_FrameSame : ∀ x, runF tb K.spec_FrameSame L.spec_FrameSame [] Try.f63 C.spec_FrameSame x = C.spec_FrameSame.fn x := fun x => by kernel_rfl

/-! ### spec.l11Nums: function 275 -/
noncomputable def F.spec_l11Nums.s4 : ((List Int) × Int × Int × Int × Unit) → Option (Lp ((List Int) × Int × Int × Int × Unit) Bool) := fun (x1, x2, x3, x4, _) =>
  bif decide (x4 < (len x1)) then
    chk (inb x4 (List.length x1)) <|
    (F.spec_l1In (List.getD x1 ((Int.toNat x4)) 0) x2 x3).bind fun r5 =>
    bif !r5 then
      some (.ret false)
    else
      some (.again (x1, x2, x3, w64 (x4 + 1), ()))
  else
    some (.exit (x1, x2, x3, x4, ()))
noncomputable def F.spec_l11Nums (a0 : List Int) (a1 : Int) (a2 : Int) : Option Bool :=
  bif (len a0) != 3 then
    some false
  else
  afterO (loopO F.spec_l11Nums.s4 (a0, a1, a2, 0, ())) fun (x6, x7, x8, x9, _) =>
  some true
noncomputable def C.spec_l11Nums : Con := ⟨[.r (.val (.sl false 3 (.int .i64))), .r (.val (.int .i64)), .r (.val (.int .i64))], .one .bool, fun x => F.spec_l11Nums x.1 x.2.1 x.2.2.1⟩
def L.spec_l11Nums : Loops := lookL [(4, ⟨[.pat 0 (.val (.sl false 3 (.int .i64))), .pat 1 (.val (.int .i64)), .pat 2 (.val (.int .i64)), .pat 7 (.val (.int .i64))], 0⟩)]
noncomputable def K.spec_l11Nums : Cons := lookK [(136, [], C.spec_l1In)]
theorem run.spec_l11Nums : ∀ x, runF tb K.spec_l11Nums L.spec_l11Nums [] Try.f275 C.spec_l11Nums x = C.spec_l11Nums.fn x := fun x => by kernel_rfl

/-! ### spec.ConfOk: function 199 -/
noncomputable def F.spec_ConfOk (a0 : DConf) : Option Bool :=
  (F.spec_l1In a0.1 1 8).bind fun r1 =>
  bif r1 then
    (F.spec_l1In a0.2.1 1 60).bind fun r2 =>
    bif r2 then
      (F.spec_l1In a0.2.2.1 1 10).bind fun r3 =>
      bif r3 then
        (F.spec_l11Nums a0.2.2.2.1 1 4).bind fun r4 =>
        bif r4 then
          (F.spec_l1In a0.2.2.2.2.1 1 100).bind fun r5 =>
          bif r5 then
            (F.spec_l1In a0.2.2.2.2.2.1 1 20).bind fun r6 =>
            bif r6 then
              (F.spec_l1In a0.2.2.2.2.2.2.1 0 20).bind fun r7 =>
              bif r7 then
                (F.spec_l1In a0.2.2.2.2.2.2.2.1 1 50).bind fun r8 =>
                some r8
              else
                some false
            else
              some false
          else
            some false
        else
          some false
      else
        some false
    else
      some false
  else
    some false
noncomputable def C.spec_ConfOk : Con := ⟨[.r (.val y11)], .one .bool, fun x => F.spec_ConfOk x.1⟩
def L.spec_ConfOk : Loops := fun _ => none
noncomputable def K.spec_ConfOk : Cons := lookK [(136, [], C.spec_l1In), (275, [], C.spec_l11Nums)]
theorem run.spec_ConfOk : ∀ x, runF tb K.spec_ConfOk L.spec_ConfOk [] Try.f199 C.spec_ConfOk x = C.spec_ConfOk.fn x := fun x => by kernel_rfl

/-! ### spec.l12Conf: function 200 -/
noncomputable def F.spec_l12Conf (a0 : DConf) : Option DConf :=
  chk (fits (List.length (([] : List Int)) + List.length a0.2.2.2.1) 8) <|
  some (a0.1, a0.2.1, a0.2.2.1, (([] : List Int)) ++ a0.2.2.2.1, a0.2.2.2.2)
noncomputable def C.spec_l12Conf : Con := ⟨[.r (.val y11)], .one y16, fun x => F.spec_l12Conf x.1⟩
def L.spec_l12Conf : Loops := fun _ => none
noncomputable def K.spec_l12Conf : Cons := lookK []
theorem run.spec_l12Conf : ∀ x, runF tb K.spec_l12Conf L.spec_l12Conf [] Try.f200 C.spec_l12Conf x = C.spec_l12Conf.fn x := fun x => by kernel_rfl

/-! ### spec.SeatGrant: function 201 -/
noncomputable def F.spec_SeatGrant (a0 : DSeat) (a1 : Int) : Option DSeat :=
  (F.spec_l9Copy a0).bind fun r1 =>
  (F.spec_SeatOk a0 a1).bind fun r2 =>
  bif r2 then
    (F.spec_l1Min 60 (w64 (a0.2.2.2.1 + a1))).bind fun r3 =>
    some (r1.1, r3, r1.2.2)
  else
    some r1
noncomputable def C.spec_SeatGrant : Con := ⟨[.r (.val y21), .r (.val (.int .i64))], .one y17, fun x => F.spec_SeatGrant x.1 x.2.1⟩
def L.spec_SeatGrant : Loops := fun _ => none
noncomputable def K.spec_SeatGrant : Cons := lookK [(134, [], C.spec_l9Copy), (135, [], C.spec_SeatOk), (253, [], C.spec_l1Min)]
theorem run.spec_SeatGrant : ∀ x, runF tb K.spec_SeatGrant L.spec_SeatGrant [] Try.f201 C.spec_SeatGrant x = C.spec_SeatGrant.fn x := fun x => by kernel_rfl

/-! ### spec.TurnNew: function 202 -/
noncomputable def F.spec_TurnNew : Option DTurn :=
  chk (mk 8 3 3) <|
  some (0, true, List.replicate 3 0, ())
noncomputable def C.spec_TurnNew : Con := ⟨[], .one y18, fun x => F.spec_TurnNew⟩
def L.spec_TurnNew : Loops := fun _ => none
noncomputable def K.spec_TurnNew : Cons := lookK []
theorem run.spec_TurnNew : ∀ x, runF tb K.spec_TurnNew L.spec_TurnNew [] Try.f202 C.spec_TurnNew x = C.spec_TurnNew.fn x := fun x => by kernel_rfl

/-! ### spec.HouseNew: function 73 -/
noncomputable def F.spec_HouseNew.s5 : (Int × DConf × DHouse × DHouse × Unit) → Option (Lp (Int × DConf × DHouse × DHouse × Unit) (DHouse × Bool)) := fun (x3, x4, x5, x6, _) =>
  bif decide (x3 < 3) then
    (F.spec_SeatGrant ((0, 0, ([] : List DSpan), 0, 0, ())) x4.1).bind fun r7 =>
    chk (fits (List.length x6.2.2.2.1 + List.length ([r7])) 56) <|
    chk (mk 24 2 2) <|
    chk (fits (List.length x6.2.2.2.2.1 + List.length ([List.replicate 2 ((([] : List DEntry), ()))])) 24) <|
    some (.again (w64 (x3 + 1), x4, x5, (x6.1, x6.2.1, x6.2.2.1, x6.2.2.2.1 ++ ([r7]), x6.2.2.2.2.1 ++ ([List.replicate 2 ((([] : List DEntry), ()))]), x6.2.2.2.2.2), ()))
  else
    some (.exit (x3, x4, x5, x6, ()))
noncomputable def F.spec_HouseNew.s10 : (Int × DHouse × DHouse × Unit) → Option (Lp (Int × DHouse × DHouse × Unit) (DHouse × Bool)) := fun (x12, x13, x14, _) =>
  bif decide (x12 < 2) then
    (F.spec_TurnNew).bind fun r15 =>
    chk (fits (List.length x14.2.2.2.2.2.1 + List.length ([r15])) 40) <|
    some (.again (w64 (x12 + 1), x13, (x14.1, x14.2.1, x14.2.2.1, x14.2.2.2.1, x14.2.2.2.2.1, x14.2.2.2.2.2.1 ++ ([r15]), x14.2.2.2.2.2.2), ()))
  else
    some (.exit (x12, x13, x14, ()))
noncomputable def F.spec_HouseNew (a0 : DConf) : Option (DHouse × Bool) :=
  (F.spec_ConfOk a0).bind fun r1 =>
  bif !r1 then
    some (((0, 0, 0, ([] : List Int), 0, 0, 0, 0, ()), 0, false, ([] : List DSeat), ([] : List (List DRow)), ([] : List DTurn), 0, ([] : List DEntry), ([] : List DOut), ()), false)
  else
  (F.spec_l12Conf a0).bind fun r2 =>
  afterO (loopO F.spec_HouseNew.s5 (0, a0, ((0, 0, 0, ([] : List Int), 0, 0, 0, 0, ()), 0, false, ([] : List DSeat), ([] : List (List DRow)), ([] : List DTurn), 0, ([] : List DEntry), ([] : List DOut), ()), (r2, 0, false, ([] : List DSeat), ([] : List (List DRow)), ([] : List DTurn), 0, ([] : List DEntry), ([] : List DOut), ()), ())) fun (x8, x9, x10, x11, _) =>
  afterO (loopO F.spec_HouseNew.s10 (0, x10, x11, ())) fun (x16, x17, x18, _) =>
  some (x18, true)
noncomputable def C.spec_HouseNew : Con := ⟨[.r (.val y11)], .many [y20, .bool], fun x => F.spec_HouseNew x.1⟩
def L.spec_HouseNew : Loops := lookL [(5, ⟨[.pat 5 (.val (.int .i64)), .root 1 true y11 [1], .root 2 true y20 [2], .root 4 true y20 [4]], 0⟩), (10, ⟨[.pat 6 (.val (.int .i64)), .root 2 true y20 [2], .root 4 true y20 [4]], 2⟩)]
noncomputable def K.spec_HouseNew : Cons := lookK [(199, [], C.spec_ConfOk), (200, [], C.spec_l12Conf), (201, [], C.spec_SeatGrant), (202, [], C.spec_TurnNew)]
theorem run.spec_HouseNew : ∀ x, runF tb K.spec_HouseNew L.spec_HouseNew [] Try.f73 C.spec_HouseNew x = C.spec_HouseNew.fn x := fun x => by kernel_rfl

/-! ### impl.allWithin: function 276 -/
noncomputable def F.impl_allWithin.s2 : ((List Int) × Int × Int × Int × (List Int) × Int × Int × Unit) → Option (Lp ((List Int) × Int × Int × Int × (List Int) × Int × Int × Unit) Bool) := fun (x1, x2, x3, x4, x5, x6, x7, _) =>
  bif decide (x7 < x6) then
    chk (inb x7 (List.length x5)) <|
    (F.impl_within (List.getD x5 ((Int.toNat x7)) 0) x3 x4).bind fun r8 =>
    bif !r8 then
      some (.ret false)
    else
      some (.again (x1, x2, x3, x4, x5, x6, w64 (x7 + 1), ()))
  else
    some (.exit (x1, x2, x3, x4, x5, x6, x7, ()))
noncomputable def F.impl_allWithin (a0 : List Int) (a1 : Int) (a2 : Int) (a3 : Int) : Option Bool :=
  afterO (loopO F.impl_allWithin.s2 (a0, a1, a2, a3, a0, len a0, 0, ())) fun (x9, x10, x11, x12, x13, x14, x15, _) =>
  some ((len x9) == x10)
noncomputable def C.impl_allWithin : Con := ⟨[.r (.val (.sl false 3 (.int .i64))), .r (.val (.int .i64)), .r (.val (.int .i64)), .r (.val (.int .i64))], .one .bool, fun x => F.impl_allWithin x.1 x.2.1 x.2.2.1 x.2.2.2.1⟩
def L.impl_allWithin : Loops := lookL [(2, ⟨[.pat 0 (.val (.sl false 3 (.int .i64))), .pat 1 (.val (.int .i64)), .pat 2 (.val (.int .i64)), .pat 3 (.val (.int .i64)), .pat 11 (.val (.sl false 3 (.int .i64))), .pat 12 (.val (.int .i64)), .pat 13 (.val (.int .i64))], 0⟩)]
noncomputable def K.impl_allWithin : Cons := lookK [(142, [], C.impl_within)]
theorem run.impl_allWithin : ∀ x, runF tb K.impl_allWithin L.impl_allWithin [] Try.f276 C.impl_allWithin x = C.impl_allWithin.fn x := fun x => by kernel_rfl

/-! ### impl.ConfOk: function 203 -/
noncomputable def F.impl_ConfOk (a0 : DConf) : Option Bool :=
  (F.impl_within a0.1 1 8).bind fun r1 =>
  bif r1 then
    (F.impl_within a0.2.1 1 60).bind fun r2 =>
    bif r2 then
      (F.impl_within a0.2.2.1 1 10).bind fun r3 =>
      bif r3 then
        (F.impl_allWithin a0.2.2.2.1 3 1 4).bind fun r4 =>
        bif r4 then
          (F.impl_within a0.2.2.2.2.1 1 100).bind fun r5 =>
          bif r5 then
            (F.impl_within a0.2.2.2.2.2.1 1 20).bind fun r6 =>
            bif r6 then
              (F.impl_within a0.2.2.2.2.2.2.1 0 20).bind fun r7 =>
              bif r7 then
                (F.impl_within a0.2.2.2.2.2.2.2.1 1 50).bind fun r8 =>
                some r8
              else
                some false
            else
              some false
          else
            some false
        else
          some false
      else
        some false
    else
      some false
  else
    some false
noncomputable def C.impl_ConfOk : Con := ⟨[.r (.val y11)], .one .bool, fun x => F.impl_ConfOk x.1⟩
def L.impl_ConfOk : Loops := fun _ => none
noncomputable def K.impl_ConfOk : Cons := lookK [(142, [], C.impl_within), (276, [], C.impl_allWithin)]
theorem run.impl_ConfOk : ∀ x, runF tb K.impl_ConfOk L.impl_ConfOk [] Try.f203 C.impl_ConfOk x = C.impl_ConfOk.fn x := fun x => by kernel_rfl

/-! ### impl.copyConf: function 204 -/
noncomputable def F.impl_copyConf (a0 : DConf) : Option DConf :=
  (F.impl_copyInts a0.2.2.2.1).bind fun r1 =>
  some (a0.1, a0.2.1, a0.2.2.1, r1, a0.2.2.2.2)
noncomputable def C.impl_copyConf : Con := ⟨[.r (.val y11)], .one y16, fun x => F.impl_copyConf x.1⟩
def L.impl_copyConf : Loops := fun _ => none
noncomputable def K.impl_copyConf : Cons := lookK [(242, [], C.impl_copyInts)]
theorem run.impl_copyConf : ∀ x, runF tb K.impl_copyConf L.impl_copyConf [] Try.f204 C.impl_copyConf x = C.impl_copyConf.fn x := fun x => by kernel_rfl

/-! ### impl.SeatGrant: function 205 -/
noncomputable def F.impl_SeatGrant (a0 : DSeat) (a1 : Int) : Option DSeat :=
  (F.impl_copySeat a0).bind fun r1 =>
  (F.impl_SeatOk a0 a1).bind fun r2 =>
  bif r2 then
    some (r1.1, mnI 60 (w64 (a0.2.2.2.1 + a1)), r1.2.2)
  else
    some r1
noncomputable def C.impl_SeatGrant : Con := ⟨[.r (.val y21), .r (.val (.int .i64))], .one y17, fun x => F.impl_SeatGrant x.1 x.2.1⟩
def L.impl_SeatGrant : Loops := fun _ => none
noncomputable def K.impl_SeatGrant : Cons := lookK [(140, [], C.impl_copySeat), (141, [], C.impl_SeatOk)]
theorem run.impl_SeatGrant : ∀ x, runF tb K.impl_SeatGrant L.impl_SeatGrant [] Try.f205 C.impl_SeatGrant x = C.impl_SeatGrant.fn x := fun x => by kernel_rfl

/-! ### impl.TurnNew: function 206 -/
noncomputable def F.impl_TurnNew : Option DTurn :=
  chk (mk 8 3 3) <|
  some (0, true, List.replicate 3 0, ())
noncomputable def C.impl_TurnNew : Con := ⟨[], .one y18, fun x => F.impl_TurnNew⟩
def L.impl_TurnNew : Loops := fun _ => none
noncomputable def K.impl_TurnNew : Cons := lookK []
theorem run.impl_TurnNew : ∀ x, runF tb K.impl_TurnNew L.impl_TurnNew [] Try.f206 C.impl_TurnNew x = C.impl_TurnNew.fn x := fun x => by kernel_rfl

/-! ### impl.HouseNew: function 75 -/
noncomputable def F.impl_HouseNew.s5 : (Int × DConf × DHouse × DHouse × Unit) → Option (Lp (Int × DConf × DHouse × DHouse × Unit) (DHouse × Bool)) := fun (x3, x4, x5, x6, _) =>
  bif decide (x3 < 3) then
    (F.impl_SeatGrant ((0, 0, ([] : List DSpan), 0, 0, ())) x4.1).bind fun r7 =>
    chk (fits (List.length x6.2.2.2.1 + List.length ([r7])) 56) <|
    chk (mk 24 2 2) <|
    chk (fits (List.length x6.2.2.2.2.1 + List.length ([List.replicate 2 ((([] : List DEntry), ()))])) 24) <|
    some (.again (w64 (x3 + 1), x4, x5, (x6.1, x6.2.1, x6.2.2.1, x6.2.2.2.1 ++ ([r7]), x6.2.2.2.2.1 ++ ([List.replicate 2 ((([] : List DEntry), ()))]), x6.2.2.2.2.2), ()))
  else
    some (.exit (x3, x4, x5, x6, ()))
noncomputable def F.impl_HouseNew.s10 : (Int × DHouse × DHouse × Unit) → Option (Lp (Int × DHouse × DHouse × Unit) (DHouse × Bool)) := fun (x12, x13, x14, _) =>
  bif decide (x12 < 2) then
    (F.impl_TurnNew).bind fun r15 =>
    chk (fits (List.length x14.2.2.2.2.2.1 + List.length ([r15])) 40) <|
    some (.again (w64 (x12 + 1), x13, (x14.1, x14.2.1, x14.2.2.1, x14.2.2.2.1, x14.2.2.2.2.1, x14.2.2.2.2.2.1 ++ ([r15]), x14.2.2.2.2.2.2), ()))
  else
    some (.exit (x12, x13, x14, ()))
noncomputable def F.impl_HouseNew (a0 : DConf) : Option (DHouse × Bool) :=
  (F.impl_ConfOk a0).bind fun r1 =>
  bif !r1 then
    some (((0, 0, 0, ([] : List Int), 0, 0, 0, 0, ()), 0, false, ([] : List DSeat), ([] : List (List DRow)), ([] : List DTurn), 0, ([] : List DEntry), ([] : List DOut), ()), false)
  else
  (F.impl_copyConf a0).bind fun r2 =>
  afterO (loopO F.impl_HouseNew.s5 (0, a0, ((0, 0, 0, ([] : List Int), 0, 0, 0, 0, ()), 0, false, ([] : List DSeat), ([] : List (List DRow)), ([] : List DTurn), 0, ([] : List DEntry), ([] : List DOut), ()), (r2, 0, false, ([] : List DSeat), ([] : List (List DRow)), ([] : List DTurn), 0, ([] : List DEntry), ([] : List DOut), ()), ())) fun (x8, x9, x10, x11, _) =>
  afterO (loopO F.impl_HouseNew.s10 (0, x10, x11, ())) fun (x16, x17, x18, _) =>
  some (x18, true)
noncomputable def C.impl_HouseNew : Con := ⟨[.r (.val y11)], .many [y20, .bool], fun x => F.impl_HouseNew x.1⟩
def L.impl_HouseNew : Loops := lookL [(5, ⟨[.pat 5 (.val (.int .i64)), .root 1 true y11 [1], .root 2 true y20 [2], .root 4 true y20 [4]], 0⟩), (10, ⟨[.pat 6 (.val (.int .i64)), .root 2 true y20 [2], .root 4 true y20 [4]], 2⟩)]
noncomputable def K.impl_HouseNew : Cons := lookK [(203, [], C.impl_ConfOk), (204, [], C.impl_copyConf), (205, [], C.impl_SeatGrant), (206, [], C.impl_TurnNew)]
theorem run.impl_HouseNew : ∀ x, runF tb K.impl_HouseNew L.impl_HouseNew [] Try.f75 C.impl_HouseNew x = C.impl_HouseNew.fn x := fun x => by kernel_rfl

/-! ### laws.markConf: function 77 -/
noncomputable def F.laws_markConf (a0 : DConf) (a1 : Int) : Option (Int × DConf) :=
  (F.laws_markIntS a0.2.2.2.1 a1).bind fun r1 =>
  some (r1.1, (a0.1, a0.2.1, a0.2.2.1, r1.2, a0.2.2.2.2))
noncomputable def C.laws_markConf : Con := ⟨[.c y16, .r (.val (.int .i64))], .one (.int .i64), fun x => F.laws_markConf x.1 x.2.1⟩
def L.laws_markConf : Loops := fun _ => none
noncomputable def K.laws_markConf : Cons := lookK [(118, [], C.laws_markIntS)]
theorem run.laws_markConf : ∀ x, runF tb K.laws_markConf L.laws_markConf [2] Try.f77 C.laws_markConf x = C.laws_markConf.fn x := fun x => by kernel_rfl

/-! ### laws.markSeatS: function 207 -/
noncomputable def F.laws_markSeatS.s2 : (Int × Int × (List DSeat) × Unit) → Option (Lp (Int × Int × (List DSeat) × Unit) (Int × (List DSeat))) := fun (x1, x2, x3, _) =>
  bif decide (x2 < (len x3)) then
    chk (inb x2 (List.length x3)) <|
    chk (inb x2 (List.length (List.set x3 ((Int.toNat x2)) ((x1, (List.getD x3 ((Int.toNat x2)) ((0, 0, ([] : List DSpan), 0, 0, ()))).2))))) <|
    (some (List.set (List.set x3 ((Int.toNat x2)) ((x1, (List.getD x3 ((Int.toNat x2)) ((0, 0, ([] : List DSpan), 0, 0, ()))).2))) ((Int.toNat x2)) (((List.getD (List.set x3 ((Int.toNat x2)) ((x1, (List.getD x3 ((Int.toNat x2)) ((0, 0, ([] : List DSpan), 0, 0, ()))).2))) ((Int.toNat x2)) ((0, 0, ([] : List DSpan), 0, 0, ()))).1, w64 (x1 + 1), ((List.getD (List.set x3 ((Int.toNat x2)) ((x1, (List.getD x3 ((Int.toNat x2)) ((0, 0, ([] : List DSpan), 0, 0, ()))).2))) ((Int.toNat x2)) ((0, 0, ([] : List DSpan), 0, 0, ()))).2).2)))).bind fun r4 =>
    chk (inb x2 (List.length r4)) <|
    (F.laws_markSpanS ((((List.getD r4 ((Int.toNat x2)) ((0, 0, ([] : List DSpan), 0, 0, ()))).2).2).1) (w64 ((w64 (x1 + 1)) + 1))).bind fun r5 =>
    (some (List.set r4 ((Int.toNat x2)) (((List.getD r4 ((Int.toNat x2)) ((0, 0, ([] : List DSpan), 0, 0, ()))).1, ((List.getD r4 ((Int.toNat x2)) ((0, 0, ([] : List DSpan), 0, 0, ()))).2).1, r5.2, (((List.getD r4 ((Int.toNat x2)) ((0, 0, ([] : List DSpan), 0, 0, ()))).2).2).2)))).bind fun r6 =>
    chk (inb x2 (List.length r6)) <|
    (some (List.set r6 ((Int.toNat x2)) (((List.getD r6 ((Int.toNat x2)) ((0, 0, ([] : List DSpan), 0, 0, ()))).1, ((List.getD r6 ((Int.toNat x2)) ((0, 0, ([] : List DSpan), 0, 0, ()))).2).1, (((List.getD r6 ((Int.toNat x2)) ((0, 0, ([] : List DSpan), 0, 0, ()))).2).2).1, r5.1, ((((List.getD r6 ((Int.toNat x2)) ((0, 0, ([] : List DSpan), 0, 0, ()))).2).2).2).2)))).bind fun r7 =>
    chk (inb x2 (List.length r7)) <|
    (some (List.set r7 ((Int.toNat x2)) (((List.getD r7 ((Int.toNat x2)) ((0, 0, ([] : List DSpan), 0, 0, ()))).1, ((List.getD r7 ((Int.toNat x2)) ((0, 0, ([] : List DSpan), 0, 0, ()))).2).1, (((List.getD r7 ((Int.toNat x2)) ((0, 0, ([] : List DSpan), 0, 0, ()))).2).2).1, ((((List.getD r7 ((Int.toNat x2)) ((0, 0, ([] : List DSpan), 0, 0, ()))).2).2).2).1, w64 (r5.1 + 1), (((((List.getD r7 ((Int.toNat x2)) ((0, 0, ([] : List DSpan), 0, 0, ()))).2).2).2).2).2)))).bind fun r8 =>
    some (.again (w64 ((w64 (r5.1 + 1)) + 1), w64 (x2 + 1), r8, ()))
  else
    some (.exit (x1, x2, x3, ()))
noncomputable def F.laws_markSeatS (a0 : List DSeat) (a1 : Int) : Option (Int × (List DSeat)) :=
  afterO (loopO F.laws_markSeatS.s2 (a1, 0, a0, ())) fun (x9, x10, x11, _) =>
  some (x9, x11)
noncomputable def C.laws_markSeatS : Con := ⟨[.c (.sl true 87 y17), .r (.val (.int .i64))], .one (.int .i64), fun x => F.laws_markSeatS x.1 x.2.1⟩
def L.laws_markSeatS : Loops := lookL [(2, ⟨[.pat 1 (.val (.int .i64)), .pat 5 (.val (.int .i64)), .root 0 false (.sl true 87 y17) [0]], 0⟩)]
noncomputable def K.laws_markSeatS : Cons := lookK [(83, [], C.laws_markSpanS)]
theorem run.laws_markSeatS : ∀ x, runF tb K.laws_markSeatS L.laws_markSeatS [0] Try.f207 C.laws_markSeatS x = C.laws_markSeatS.fn x := fun x => by kernel_rfl

/-! ### laws.markEntryS: function 98 -/
noncomputable def F.laws_markEntryS.s2 : (Int × Int × (List DEntry) × Unit) → Option (Lp (Int × Int × (List DEntry) × Unit) (Int × (List DEntry))) := fun (x1, x2, x3, _) =>
  bif decide (x2 < (len x3)) then
    chk (inb x2 (List.length x3)) <|
    (some (List.set x3 ((Int.toNat x2)) ((x1, (List.getD x3 ((Int.toNat x2)) ((0, 0, ([] : List DSpan), (0, 0, 0, 0, ([] : List Int), ([] : List Int), ([] : List (List Int)), ()), ()))).2)))).bind fun r4 =>
    chk (inb x2 (List.length r4)) <|
    (some (List.set r4 ((Int.toNat x2)) (((List.getD r4 ((Int.toNat x2)) ((0, 0, ([] : List DSpan), (0, 0, 0, 0, ([] : List Int), ([] : List Int), ([] : List (List Int)), ()), ()))).1, w64 (x1 + 1), ((List.getD r4 ((Int.toNat x2)) ((0, 0, ([] : List DSpan), (0, 0, 0, 0, ([] : List Int), ([] : List Int), ([] : List (List Int)), ()), ()))).2).2)))).bind fun r5 =>
    chk (inb x2 (List.length r5)) <|
    (F.laws_markSpanS ((((List.getD r5 ((Int.toNat x2)) ((0, 0, ([] : List DSpan), (0, 0, 0, 0, ([] : List Int), ([] : List Int), ([] : List (List Int)), ()), ()))).2).2).1) (w64 ((w64 (x1 + 1)) + 1))).bind fun r6 =>
    (some (List.set r5 ((Int.toNat x2)) (((List.getD r5 ((Int.toNat x2)) ((0, 0, ([] : List DSpan), (0, 0, 0, 0, ([] : List Int), ([] : List Int), ([] : List (List Int)), ()), ()))).1, ((List.getD r5 ((Int.toNat x2)) ((0, 0, ([] : List DSpan), (0, 0, 0, 0, ([] : List Int), ([] : List Int), ([] : List (List Int)), ()), ()))).2).1, r6.2, (((List.getD r5 ((Int.toNat x2)) ((0, 0, ([] : List DSpan), (0, 0, 0, 0, ([] : List Int), ([] : List Int), ([] : List (List Int)), ()), ()))).2).2).2)))).bind fun r7 =>
    chk (inb x2 (List.length r7)) <|
    (some (List.set r7 ((Int.toNat x2)) (((List.getD r7 ((Int.toNat x2)) ((0, 0, ([] : List DSpan), (0, 0, 0, 0, ([] : List Int), ([] : List Int), ([] : List (List Int)), ()), ()))).1, ((List.getD r7 ((Int.toNat x2)) ((0, 0, ([] : List DSpan), (0, 0, 0, 0, ([] : List Int), ([] : List Int), ([] : List (List Int)), ()), ()))).2).1, (((List.getD r7 ((Int.toNat x2)) ((0, 0, ([] : List DSpan), (0, 0, 0, 0, ([] : List Int), ([] : List Int), ([] : List (List Int)), ()), ()))).2).2).1, (r6.1, (((((List.getD r7 ((Int.toNat x2)) ((0, 0, ([] : List DSpan), (0, 0, 0, 0, ([] : List Int), ([] : List Int), ([] : List (List Int)), ()), ()))).2).2).2).1).2), ((((List.getD r7 ((Int.toNat x2)) ((0, 0, ([] : List DSpan), (0, 0, 0, 0, ([] : List Int), ([] : List Int), ([] : List (List Int)), ()), ()))).2).2).2).2)))).bind fun r8 =>
    chk (inb x2 (List.length r8)) <|
    (some (List.set r8 ((Int.toNat x2)) (((List.getD r8 ((Int.toNat x2)) ((0, 0, ([] : List DSpan), (0, 0, 0, 0, ([] : List Int), ([] : List Int), ([] : List (List Int)), ()), ()))).1, ((List.getD r8 ((Int.toNat x2)) ((0, 0, ([] : List DSpan), (0, 0, 0, 0, ([] : List Int), ([] : List Int), ([] : List (List Int)), ()), ()))).2).1, (((List.getD r8 ((Int.toNat x2)) ((0, 0, ([] : List DSpan), (0, 0, 0, 0, ([] : List Int), ([] : List Int), ([] : List (List Int)), ()), ()))).2).2).1, ((((((List.getD r8 ((Int.toNat x2)) ((0, 0, ([] : List DSpan), (0, 0, 0, 0, ([] : List Int), ([] : List Int), ([] : List (List Int)), ()), ()))).2).2).2).1).1, w64 (r6.1 + 1), ((((((List.getD r8 ((Int.toNat x2)) ((0, 0, ([] : List DSpan), (0, 0, 0, 0, ([] : List Int), ([] : List Int), ([] : List (List Int)), ()), ()))).2).2).2).1).2).2), ((((List.getD r8 ((Int.toNat x2)) ((0, 0, ([] : List DSpan), (0, 0, 0, 0, ([] : List Int), ([] : List Int), ([] : List (List Int)), ()), ()))).2).2).2).2)))).bind fun r9 =>
    chk (inb x2 (List.length r9)) <|
    (some (List.set r9 ((Int.toNat x2)) (((List.getD r9 ((Int.toNat x2)) ((0, 0, ([] : List DSpan), (0, 0, 0, 0, ([] : List Int), ([] : List Int), ([] : List (List Int)), ()), ()))).1, ((List.getD r9 ((Int.toNat x2)) ((0, 0, ([] : List DSpan), (0, 0, 0, 0, ([] : List Int), ([] : List Int), ([] : List (List Int)), ()), ()))).2).1, (((List.getD r9 ((Int.toNat x2)) ((0, 0, ([] : List DSpan), (0, 0, 0, 0, ([] : List Int), ([] : List Int), ([] : List (List Int)), ()), ()))).2).2).1, ((((((List.getD r9 ((Int.toNat x2)) ((0, 0, ([] : List DSpan), (0, 0, 0, 0, ([] : List Int), ([] : List Int), ([] : List (List Int)), ()), ()))).2).2).2).1).1, ((((((List.getD r9 ((Int.toNat x2)) ((0, 0, ([] : List DSpan), (0, 0, 0, 0, ([] : List Int), ([] : List Int), ([] : List (List Int)), ()), ()))).2).2).2).1).2).1, w64 ((w64 (r6.1 + 1)) + 1), (((((((List.getD r9 ((Int.toNat x2)) ((0, 0, ([] : List DSpan), (0, 0, 0, 0, ([] : List Int), ([] : List Int), ([] : List (List Int)), ()), ()))).2).2).2).1).2).2).2), ((((List.getD r9 ((Int.toNat x2)) ((0, 0, ([] : List DSpan), (0, 0, 0, 0, ([] : List Int), ([] : List Int), ([] : List (List Int)), ()), ()))).2).2).2).2)))).bind fun r10 =>
    chk (inb x2 (List.length r10)) <|
    (some (List.set r10 ((Int.toNat x2)) (((List.getD r10 ((Int.toNat x2)) ((0, 0, ([] : List DSpan), (0, 0, 0, 0, ([] : List Int), ([] : List Int), ([] : List (List Int)), ()), ()))).1, ((List.getD r10 ((Int.toNat x2)) ((0, 0, ([] : List DSpan), (0, 0, 0, 0, ([] : List Int), ([] : List Int), ([] : List (List Int)), ()), ()))).2).1, (((List.getD r10 ((Int.toNat x2)) ((0, 0, ([] : List DSpan), (0, 0, 0, 0, ([] : List Int), ([] : List Int), ([] : List (List Int)), ()), ()))).2).2).1, ((((((List.getD r10 ((Int.toNat x2)) ((0, 0, ([] : List DSpan), (0, 0, 0, 0, ([] : List Int), ([] : List Int), ([] : List (List Int)), ()), ()))).2).2).2).1).1, ((((((List.getD r10 ((Int.toNat x2)) ((0, 0, ([] : List DSpan), (0, 0, 0, 0, ([] : List Int), ([] : List Int), ([] : List (List Int)), ()), ()))).2).2).2).1).2).1, (((((((List.getD r10 ((Int.toNat x2)) ((0, 0, ([] : List DSpan), (0, 0, 0, 0, ([] : List Int), ([] : List Int), ([] : List (List Int)), ()), ()))).2).2).2).1).2).2).1, w64 ((w64 ((w64 (r6.1 + 1)) + 1)) + 1), ((((((((List.getD r10 ((Int.toNat x2)) ((0, 0, ([] : List DSpan), (0, 0, 0, 0, ([] : List Int), ([] : List Int), ([] : List (List Int)), ()), ()))).2).2).2).1).2).2).2).2), ((((List.getD r10 ((Int.toNat x2)) ((0, 0, ([] : List DSpan), (0, 0, 0, 0, ([] : List Int), ([] : List Int), ([] : List (List Int)), ()), ()))).2).2).2).2)))).bind fun r11 =>
    chk (inb x2 (List.length r11)) <|
    (F.laws_markIntS ((((((((((List.getD r11 ((Int.toNat x2)) ((0, 0, ([] : List DSpan), (0, 0, 0, 0, ([] : List Int), ([] : List Int), ([] : List (List Int)), ()), ()))).2).2).2).1).2).2).2).2).1) (w64 ((w64 ((w64 ((w64 (r6.1 + 1)) + 1)) + 1)) + 1))).bind fun r12 =>
    (some (List.set r11 ((Int.toNat x2)) (((List.getD r11 ((Int.toNat x2)) ((0, 0, ([] : List DSpan), (0, 0, 0, 0, ([] : List Int), ([] : List Int), ([] : List (List Int)), ()), ()))).1, ((List.getD r11 ((Int.toNat x2)) ((0, 0, ([] : List DSpan), (0, 0, 0, 0, ([] : List Int), ([] : List Int), ([] : List (List Int)), ()), ()))).2).1, (((List.getD r11 ((Int.toNat x2)) ((0, 0, ([] : List DSpan), (0, 0, 0, 0, ([] : List Int), ([] : List Int), ([] : List (List Int)), ()), ()))).2).2).1, ((((((List.getD r11 ((Int.toNat x2)) ((0, 0, ([] : List DSpan), (0, 0, 0, 0, ([] : List Int), ([] : List Int), ([] : List (List Int)), ()), ()))).2).2).2).1).1, ((((((List.getD r11 ((Int.toNat x2)) ((0, 0, ([] : List DSpan), (0, 0, 0, 0, ([] : List Int), ([] : List Int), ([] : List (List Int)), ()), ()))).2).2).2).1).2).1, (((((((List.getD r11 ((Int.toNat x2)) ((0, 0, ([] : List DSpan), (0, 0, 0, 0, ([] : List Int), ([] : List Int), ([] : List (List Int)), ()), ()))).2).2).2).1).2).2).1, ((((((((List.getD r11 ((Int.toNat x2)) ((0, 0, ([] : List DSpan), (0, 0, 0, 0, ([] : List Int), ([] : List Int), ([] : List (List Int)), ()), ()))).2).2).2).1).2).2).2).1, r12.2, (((((((((List.getD r11 ((Int.toNat x2)) ((0, 0, ([] : List DSpan), (0, 0, 0, 0, ([] : List Int), ([] : List Int), ([] : List (List Int)), ()), ()))).2).2).2).1).2).2).2).2).2), ((((List.getD r11 ((Int.toNat x2)) ((0, 0, ([] : List DSpan), (0, 0, 0, 0, ([] : List Int), ([] : List Int), ([] : List (List Int)), ()), ()))).2).2).2).2)))).bind fun r13 =>
    chk (inb x2 (List.length r13)) <|
    (F.laws_markIntS (((((((((((List.getD r13 ((Int.toNat x2)) ((0, 0, ([] : List DSpan), (0, 0, 0, 0, ([] : List Int), ([] : List Int), ([] : List (List Int)), ()), ()))).2).2).2).1).2).2).2).2).2).1) r12.1).bind fun r14 =>
    (some (List.set r13 ((Int.toNat x2)) (((List.getD r13 ((Int.toNat x2)) ((0, 0, ([] : List DSpan), (0, 0, 0, 0, ([] : List Int), ([] : List Int), ([] : List (List Int)), ()), ()))).1, ((List.getD r13 ((Int.toNat x2)) ((0, 0, ([] : List DSpan), (0, 0, 0, 0, ([] : List Int), ([] : List Int), ([] : List (List Int)), ()), ()))).2).1, (((List.getD r13 ((Int.toNat x2)) ((0, 0, ([] : List DSpan), (0, 0, 0, 0, ([] : List Int), ([] : List Int), ([] : List (List Int)), ()), ()))).2).2).1, ((((((List.getD r13 ((Int.toNat x2)) ((0, 0, ([] : List DSpan), (0, 0, 0, 0, ([] : List Int), ([] : List Int), ([] : List (List Int)), ()), ()))).2).2).2).1).1, ((((((List.getD r13 ((Int.toNat x2)) ((0, 0, ([] : List DSpan), (0, 0, 0, 0, ([] : List Int), ([] : List Int), ([] : List (List Int)), ()), ()))).2).2).2).1).2).1, (((((((List.getD r13 ((Int.toNat x2)) ((0, 0, ([] : List DSpan), (0, 0, 0, 0, ([] : List Int), ([] : List Int), ([] : List (List Int)), ()), ()))).2).2).2).1).2).2).1, ((((((((List.getD r13 ((Int.toNat x2)) ((0, 0, ([] : List DSpan), (0, 0, 0, 0, ([] : List Int), ([] : List Int), ([] : List (List Int)), ()), ()))).2).2).2).1).2).2).2).1, (((((((((List.getD r13 ((Int.toNat x2)) ((0, 0, ([] : List DSpan), (0, 0, 0, 0, ([] : List Int), ([] : List Int), ([] : List (List Int)), ()), ()))).2).2).2).1).2).2).2).2).1, r14.2, ((((((((((List.getD r13 ((Int.toNat x2)) ((0, 0, ([] : List DSpan), (0, 0, 0, 0, ([] : List Int), ([] : List Int), ([] : List (List Int)), ()), ()))).2).2).2).1).2).2).2).2).2).2), ((((List.getD r13 ((Int.toNat x2)) ((0, 0, ([] : List DSpan), (0, 0, 0, 0, ([] : List Int), ([] : List Int), ([] : List (List Int)), ()), ()))).2).2).2).2)))).bind fun r15 =>
    chk (inb x2 (List.length r15)) <|
    (F.laws_markIntSS ((((((((((((List.getD r15 ((Int.toNat x2)) ((0, 0, ([] : List DSpan), (0, 0, 0, 0, ([] : List Int), ([] : List Int), ([] : List (List Int)), ()), ()))).2).2).2).1).2).2).2).2).2).2).1) r14.1).bind fun r16 =>
    (some (List.set r15 ((Int.toNat x2)) (((List.getD r15 ((Int.toNat x2)) ((0, 0, ([] : List DSpan), (0, 0, 0, 0, ([] : List Int), ([] : List Int), ([] : List (List Int)), ()), ()))).1, ((List.getD r15 ((Int.toNat x2)) ((0, 0, ([] : List DSpan), (0, 0, 0, 0, ([] : List Int), ([] : List Int), ([] : List (List Int)), ()), ()))).2).1, (((List.getD r15 ((Int.toNat x2)) ((0, 0, ([] : List DSpan), (0, 0, 0, 0, ([] : List Int), ([] : List Int), ([] : List (List Int)), ()), ()))).2).2).1, ((((((List.getD r15 ((Int.toNat x2)) ((0, 0, ([] : List DSpan), (0, 0, 0, 0, ([] : List Int), ([] : List Int), ([] : List (List Int)), ()), ()))).2).2).2).1).1, ((((((List.getD r15 ((Int.toNat x2)) ((0, 0, ([] : List DSpan), (0, 0, 0, 0, ([] : List Int), ([] : List Int), ([] : List (List Int)), ()), ()))).2).2).2).1).2).1, (((((((List.getD r15 ((Int.toNat x2)) ((0, 0, ([] : List DSpan), (0, 0, 0, 0, ([] : List Int), ([] : List Int), ([] : List (List Int)), ()), ()))).2).2).2).1).2).2).1, ((((((((List.getD r15 ((Int.toNat x2)) ((0, 0, ([] : List DSpan), (0, 0, 0, 0, ([] : List Int), ([] : List Int), ([] : List (List Int)), ()), ()))).2).2).2).1).2).2).2).1, (((((((((List.getD r15 ((Int.toNat x2)) ((0, 0, ([] : List DSpan), (0, 0, 0, 0, ([] : List Int), ([] : List Int), ([] : List (List Int)), ()), ()))).2).2).2).1).2).2).2).2).1, ((((((((((List.getD r15 ((Int.toNat x2)) ((0, 0, ([] : List DSpan), (0, 0, 0, 0, ([] : List Int), ([] : List Int), ([] : List (List Int)), ()), ()))).2).2).2).1).2).2).2).2).2).1, r16.2, (((((((((((List.getD r15 ((Int.toNat x2)) ((0, 0, ([] : List DSpan), (0, 0, 0, 0, ([] : List Int), ([] : List Int), ([] : List (List Int)), ()), ()))).2).2).2).1).2).2).2).2).2).2).2), ((((List.getD r15 ((Int.toNat x2)) ((0, 0, ([] : List DSpan), (0, 0, 0, 0, ([] : List Int), ([] : List Int), ([] : List (List Int)), ()), ()))).2).2).2).2)))).bind fun r17 =>
    some (.again (r16.1, w64 (x2 + 1), r17, ()))
  else
    some (.exit (x1, x2, x3, ()))
noncomputable def F.laws_markEntryS (a0 : List DEntry) (a1 : Int) : Option (Int × (List DEntry)) :=
  afterO (loopO F.laws_markEntryS.s2 (a1, 0, a0, ())) fun (x18, x19, x20, _) =>
  some (x18, x20)
noncomputable def C.laws_markEntryS : Con := ⟨[.c (.sl true 32 y4), .r (.val (.int .i64))], .one (.int .i64), fun x => F.laws_markEntryS x.1 x.2.1⟩
def L.laws_markEntryS : Loops := lookL [(2, ⟨[.pat 1 (.val (.int .i64)), .pat 5 (.val (.int .i64)), .root 0 false (.sl true 32 y4) [0]], 0⟩)]
noncomputable def K.laws_markEntryS : Cons := lookK [(83, [], C.laws_markSpanS), (118, [], C.laws_markIntS), (119, [], C.laws_markIntSS)]
theorem run.laws_markEntryS : ∀ x, runF tb K.laws_markEntryS L.laws_markEntryS [0] Try.f98 C.laws_markEntryS x = C.laws_markEntryS.fn x := fun x => by kernel_rfl

/-! ### laws.markRowS: function 277 -/
noncomputable def F.laws_markRowS.s2 : (Int × Int × (List DRow) × Unit) → Option (Lp (Int × Int × (List DRow) × Unit) (Int × (List DRow))) := fun (x1, x2, x3, _) =>
  bif decide (x2 < (len x3)) then
    chk (inb x2 (List.length x3)) <|
    (F.laws_markEntryS ((List.getD x3 ((Int.toNat x2)) ((([] : List DEntry), ()))).1) x1).bind fun r4 =>
    some (.again (r4.1, w64 (x2 + 1), List.set x3 ((Int.toNat x2)) ((r4.2, (List.getD x3 ((Int.toNat x2)) ((([] : List DEntry), ()))).2)), ()))
  else
    some (.exit (x1, x2, x3, ()))
noncomputable def F.laws_markRowS (a0 : List DRow) (a1 : Int) : Option (Int × (List DRow)) :=
  afterO (loopO F.laws_markRowS.s2 (a1, 0, a0, ())) fun (x5, x6, x7, _) =>
  some (x5, x7)
noncomputable def C.laws_markRowS : Con := ⟨[.c (.sl true 35 (.cons (.sl true 32 y4) .nil)), .r (.val (.int .i64))], .one (.int .i64), fun x => F.laws_markRowS x.1 x.2.1⟩
def L.laws_markRowS : Loops := lookL [(2, ⟨[.pat 1 (.val (.int .i64)), .pat 5 (.val (.int .i64)), .root 0 false (.sl true 35 (.cons (.sl true 32 y4) .nil)) [0]], 0⟩)]
noncomputable def K.laws_markRowS : Cons := lookK [(98, [], C.laws_markEntryS)]
theorem run.laws_markRowS : ∀ x, runF tb K.laws_markRowS L.laws_markRowS [0] Try.f277 C.laws_markRowS x = C.laws_markRowS.fn x := fun x => by kernel_rfl

/-! ### laws.markRowSS: function 208 -/
noncomputable def F.laws_markRowSS.s2 : (Int × Int × (List (List DRow)) × Unit) → Option (Lp (Int × Int × (List (List DRow)) × Unit) (Int × (List (List DRow)))) := fun (x1, x2, x3, _) =>
  bif decide (x2 < (len x3)) then
    chk (inb x2 (List.length x3)) <|
    (F.laws_markRowS (List.getD x3 ((Int.toNat x2)) (([] : List DRow))) x1).bind fun r4 =>
    some (.again (r4.1, w64 (x2 + 1), List.set x3 ((Int.toNat x2)) r4.2, ()))
  else
    some (.exit (x1, x2, x3, ()))
noncomputable def F.laws_markRowSS (a0 : List (List DRow)) (a1 : Int) : Option (Int × (List (List DRow))) :=
  afterO (loopO F.laws_markRowSS.s2 (a1, 0, a0, ())) fun (x5, x6, x7, _) =>
  some (x5, x7)
noncomputable def C.laws_markRowSS : Con := ⟨[.c (.sl true 159 (.sl true 35 (.cons (.sl true 32 y4) .nil))), .r (.val (.int .i64))], .one (.int .i64), fun x => F.laws_markRowSS x.1 x.2.1⟩
def L.laws_markRowSS : Loops := lookL [(2, ⟨[.pat 1 (.val (.int .i64)), .pat 5 (.val (.int .i64)), .root 0 false (.sl true 159 (.sl true 35 (.cons (.sl true 32 y4) .nil))) [0]], 0⟩)]
noncomputable def K.laws_markRowSS : Cons := lookK [(277, [], C.laws_markRowS)]
theorem run.laws_markRowSS : ∀ x, runF tb K.laws_markRowSS L.laws_markRowSS [0] Try.f208 C.laws_markRowSS x = C.laws_markRowSS.fn x := fun x => by kernel_rfl

/-! ### laws.markTurnS: function 209 -/
noncomputable def F.laws_markTurnS.s2 : (Int × Int × (List DTurn) × Unit) → Option (Lp (Int × Int × (List DTurn) × Unit) (Int × (List DTurn))) := fun (x1, x2, x3, _) =>
  bif decide (x2 < (len x3)) then
    chk (inb x2 (List.length x3)) <|
    chk (inb x2 (List.length (List.set x3 ((Int.toNat x2)) ((x1, (List.getD x3 ((Int.toNat x2)) ((0, false, ([] : List Int), ()))).2))))) <|
    (some (List.set (List.set x3 ((Int.toNat x2)) ((x1, (List.getD x3 ((Int.toNat x2)) ((0, false, ([] : List Int), ()))).2))) ((Int.toNat x2)) (((List.getD (List.set x3 ((Int.toNat x2)) ((x1, (List.getD x3 ((Int.toNat x2)) ((0, false, ([] : List Int), ()))).2))) ((Int.toNat x2)) ((0, false, ([] : List Int), ()))).1, (Int.tmod (w64 (x1 + 1)) 3) == 0, ((List.getD (List.set x3 ((Int.toNat x2)) ((x1, (List.getD x3 ((Int.toNat x2)) ((0, false, ([] : List Int), ()))).2))) ((Int.toNat x2)) ((0, false, ([] : List Int), ()))).2).2)))).bind fun r4 =>
    chk (inb x2 (List.length r4)) <|
    (F.laws_markIntS ((((List.getD r4 ((Int.toNat x2)) ((0, false, ([] : List Int), ()))).2).2).1) (w64 ((w64 (x1 + 1)) + 1))).bind fun r5 =>
    (some (List.set r4 ((Int.toNat x2)) (((List.getD r4 ((Int.toNat x2)) ((0, false, ([] : List Int), ()))).1, ((List.getD r4 ((Int.toNat x2)) ((0, false, ([] : List Int), ()))).2).1, r5.2, (((List.getD r4 ((Int.toNat x2)) ((0, false, ([] : List Int), ()))).2).2).2)))).bind fun r6 =>
    some (.again (r5.1, w64 (x2 + 1), r6, ()))
  else
    some (.exit (x1, x2, x3, ()))
noncomputable def F.laws_markTurnS (a0 : List DTurn) (a1 : Int) : Option (Int × (List DTurn)) :=
  afterO (loopO F.laws_markTurnS.s2 (a1, 0, a0, ())) fun (x7, x8, x9, _) =>
  some (x7, x9)
noncomputable def C.laws_markTurnS : Con := ⟨[.c (.sl true 192 y18), .r (.val (.int .i64))], .one (.int .i64), fun x => F.laws_markTurnS x.1 x.2.1⟩
def L.laws_markTurnS : Loops := lookL [(2, ⟨[.pat 1 (.val (.int .i64)), .pat 5 (.val (.int .i64)), .root 0 false (.sl true 192 y18) [0]], 0⟩)]
noncomputable def K.laws_markTurnS : Cons := lookK [(118, [], C.laws_markIntS)]
theorem run.laws_markTurnS : ∀ x, runF tb K.laws_markTurnS L.laws_markTurnS [0] Try.f209 C.laws_markTurnS x = C.laws_markTurnS.fn x := fun x => by kernel_rfl

/-! ### laws.markOutS: function 210 -/
noncomputable def F.laws_markOutS.s2 : (Int × Int × (List DOut) × Unit) → Option (Lp (Int × Int × (List DOut) × Unit) (Int × (List DOut))) := fun (x1, x2, x3, _) =>
  bif decide (x2 < (len x3)) then
    chk (inb x2 (List.length x3)) <|
    (some (List.set x3 ((Int.toNat x2)) ((x1, (List.getD x3 ((Int.toNat x2)) ((0, (0, 0, ([] : List DSpan), (0, 0, 0, 0, ([] : List Int), ([] : List Int), ([] : List (List Int)), ()), ()), ()))).2)))).bind fun r4 =>
    chk (inb x2 (List.length r4)) <|
    (some (List.set r4 ((Int.toNat x2)) (((List.getD r4 ((Int.toNat x2)) ((0, (0, 0, ([] : List DSpan), (0, 0, 0, 0, ([] : List Int), ([] : List Int), ([] : List (List Int)), ()), ()), ()))).1, (w64 (x1 + 1), (((List.getD r4 ((Int.toNat x2)) ((0, (0, 0, ([] : List DSpan), (0, 0, 0, 0, ([] : List Int), ([] : List Int), ([] : List (List Int)), ()), ()), ()))).2).1).2), ((List.getD r4 ((Int.toNat x2)) ((0, (0, 0, ([] : List DSpan), (0, 0, 0, 0, ([] : List Int), ([] : List Int), ([] : List (List Int)), ()), ()), ()))).2).2)))).bind fun r5 =>
    chk (inb x2 (List.length r5)) <|
    (some (List.set r5 ((Int.toNat x2)) (((List.getD r5 ((Int.toNat x2)) ((0, (0, 0, ([] : List DSpan), (0, 0, 0, 0, ([] : List Int), ([] : List Int), ([] : List (List Int)), ()), ()), ()))).1, ((((List.getD r5 ((Int.toNat x2)) ((0, (0, 0, ([] : List DSpan), (0, 0, 0, 0, ([] : List Int), ([] : List Int), ([] : List (List Int)), ()), ()), ()))).2).1).1, w64 ((w64 (x1 + 1)) + 1), ((((List.getD r5 ((Int.toNat x2)) ((0, (0, 0, ([] : List DSpan), (0, 0, 0, 0, ([] : List Int), ([] : List Int), ([] : List (List Int)), ()), ()), ()))).2).1).2).2), ((List.getD r5 ((Int.toNat x2)) ((0, (0, 0, ([] : List DSpan), (0, 0, 0, 0, ([] : List Int), ([] : List Int), ([] : List (List Int)), ()), ()), ()))).2).2)))).bind fun r6 =>
    chk (inb x2 (List.length r6)) <|
    (F.laws_markSpanS ((((((List.getD r6 ((Int.toNat x2)) ((0, (0, 0, ([] : List DSpan), (0, 0, 0, 0, ([] : List Int), ([] : List Int), ([] : List (List Int)), ()), ()), ()))).2).1).2).2).1) (w64 ((w64 ((w64 (x1 + 1)) + 1)) + 1))).bind fun r7 =>
    (some (List.set r6 ((Int.toNat x2)) (((List.getD r6 ((Int.toNat x2)) ((0, (0, 0, ([] : List DSpan), (0, 0, 0, 0, ([] : List Int), ([] : List Int), ([] : List (List Int)), ()), ()), ()))).1, ((((List.getD r6 ((Int.toNat x2)) ((0, (0, 0, ([] : List DSpan), (0, 0, 0, 0, ([] : List Int), ([] : List Int), ([] : List (List Int)), ()), ()), ()))).2).1).1, ((((List.getD r6 ((Int.toNat x2)) ((0, (0, 0, ([] : List DSpan), (0, 0, 0, 0, ([] : List Int), ([] : List Int), ([] : List (List Int)), ()), ()), ()))).2).1).2).1, r7.2, (((((List.getD r6 ((Int.toNat x2)) ((0, (0, 0, ([] : List DSpan), (0, 0, 0, 0, ([] : List Int), ([] : List Int), ([] : List (List Int)), ()), ()), ()))).2).1).2).2).2), ((List.getD r6 ((Int.toNat x2)) ((0, (0, 0, ([] : List DSpan), (0, 0, 0, 0, ([] : List Int), ([] : List Int), ([] : List (List Int)), ()), ()), ()))).2).2)))).bind fun r8 =>
    chk (inb x2 (List.length r8)) <|
    (some (List.set r8 ((Int.toNat x2)) (((List.getD r8 ((Int.toNat x2)) ((0, (0, 0, ([] : List DSpan), (0, 0, 0, 0, ([] : List Int), ([] : List Int), ([] : List (List Int)), ()), ()), ()))).1, ((((List.getD r8 ((Int.toNat x2)) ((0, (0, 0, ([] : List DSpan), (0, 0, 0, 0, ([] : List Int), ([] : List Int), ([] : List (List Int)), ()), ()), ()))).2).1).1, ((((List.getD r8 ((Int.toNat x2)) ((0, (0, 0, ([] : List DSpan), (0, 0, 0, 0, ([] : List Int), ([] : List Int), ([] : List (List Int)), ()), ()), ()))).2).1).2).1, (((((List.getD r8 ((Int.toNat x2)) ((0, (0, 0, ([] : List DSpan), (0, 0, 0, 0, ([] : List Int), ([] : List Int), ([] : List (List Int)), ()), ()), ()))).2).1).2).2).1, (r7.1, (((((((List.getD r8 ((Int.toNat x2)) ((0, (0, 0, ([] : List DSpan), (0, 0, 0, 0, ([] : List Int), ([] : List Int), ([] : List (List Int)), ()), ()), ()))).2).1).2).2).2).1).2), ((((((List.getD r8 ((Int.toNat x2)) ((0, (0, 0, ([] : List DSpan), (0, 0, 0, 0, ([] : List Int), ([] : List Int), ([] : List (List Int)), ()), ()), ()))).2).1).2).2).2).2), ((List.getD r8 ((Int.toNat x2)) ((0, (0, 0, ([] : List DSpan), (0, 0, 0, 0, ([] : List Int), ([] : List Int), ([] : List (List Int)), ()), ()), ()))).2).2)))).bind fun r9 =>
    chk (inb x2 (List.length r9)) <|
    (some (List.set r9 ((Int.toNat x2)) (((List.getD r9 ((Int.toNat x2)) ((0, (0, 0, ([] : List DSpan), (0, 0, 0, 0, ([] : List Int), ([] : List Int), ([] : List (List Int)), ()), ()), ()))).1, ((((List.getD r9 ((Int.toNat x2)) ((0, (0, 0, ([] : List DSpan), (0, 0, 0, 0, ([] : List Int), ([] : List Int), ([] : List (List Int)), ()), ()), ()))).2).1).1, ((((List.getD r9 ((Int.toNat x2)) ((0, (0, 0, ([] : List DSpan), (0, 0, 0, 0, ([] : List Int), ([] : List Int), ([] : List (List Int)), ()), ()), ()))).2).1).2).1, (((((List.getD r9 ((Int.toNat x2)) ((0, (0, 0, ([] : List DSpan), (0, 0, 0, 0, ([] : List Int), ([] : List Int), ([] : List (List Int)), ()), ()), ()))).2).1).2).2).1, ((((((((List.getD r9 ((Int.toNat x2)) ((0, (0, 0, ([] : List DSpan), (0, 0, 0, 0, ([] : List Int), ([] : List Int), ([] : List (List Int)), ()), ()), ()))).2).1).2).2).2).1).1, w64 (r7.1 + 1), ((((((((List.getD r9 ((Int.toNat x2)) ((0, (0, 0, ([] : List DSpan), (0, 0, 0, 0, ([] : List Int), ([] : List Int), ([] : List (List Int)), ()), ()), ()))).2).1).2).2).2).1).2).2), ((((((List.getD r9 ((Int.toNat x2)) ((0, (0, 0, ([] : List DSpan), (0, 0, 0, 0, ([] : List Int), ([] : List Int), ([] : List (List Int)), ()), ()), ()))).2).1).2).2).2).2), ((List.getD r9 ((Int.toNat x2)) ((0, (0, 0, ([] : List DSpan), (0, 0, 0, 0, ([] : List Int), ([] : List Int), ([] : List (List Int)), ()), ()), ()))).2).2)))).bind fun r10 =>
    chk (inb x2 (List.length r10)) <|
    (some (List.set r10 ((Int.toNat x2)) (((List.getD r10 ((Int.toNat x2)) ((0, (0, 0, ([] : List DSpan), (0, 0, 0, 0, ([] : List Int), ([] : List Int), ([] : List (List Int)), ()), ()), ()))).1, ((((List.getD r10 ((Int.toNat x2)) ((0, (0, 0, ([] : List DSpan), (0, 0, 0, 0, ([] : List Int), ([] : List Int), ([] : List (List Int)), ()), ()), ()))).2).1).1, ((((List.getD r10 ((Int.toNat x2)) ((0, (0, 0, ([] : List DSpan), (0, 0, 0, 0, ([] : List Int), ([] : List Int), ([] : List (List Int)), ()), ()), ()))).2).1).2).1, (((((List.getD r10 ((Int.toNat x2)) ((0, (0, 0, ([] : List DSpan), (0, 0, 0, 0, ([] : List Int), ([] : List Int), ([] : List (List Int)), ()), ()), ()))).2).1).2).2).1, ((((((((List.getD r10 ((Int.toNat x2)) ((0, (0, 0, ([] : List DSpan), (0, 0, 0, 0, ([] : List Int), ([] : List Int), ([] : List (List Int)), ()), ()), ()))).2).1).2).2).2).1).1, ((((((((List.getD r10 ((Int.toNat x2)) ((0, (0, 0, ([] : List DSpan), (0, 0, 0, 0, ([] : List Int), ([] : List Int), ([] : List (List Int)), ()), ()), ()))).2).1).2).2).2).1).2).1, w64 ((w64 (r7.1 + 1)) + 1), (((((((((List.getD r10 ((Int.toNat x2)) ((0, (0, 0, ([] : List DSpan), (0, 0, 0, 0, ([] : List Int), ([] : List Int), ([] : List (List Int)), ()), ()), ()))).2).1).2).2).2).1).2).2).2), ((((((List.getD r10 ((Int.toNat x2)) ((0, (0, 0, ([] : List DSpan), (0, 0, 0, 0, ([] : List Int), ([] : List Int), ([] : List (List Int)), ()), ()), ()))).2).1).2).2).2).2), ((List.getD r10 ((Int.toNat x2)) ((0, (0, 0, ([] : List DSpan), (0, 0, 0, 0, ([] : List Int), ([] : List Int), ([] : List (List Int)), ()), ()), ()))).2).2)))).bind fun r11 =>
    chk (inb x2 (List.length r11)) <|
    (some (List.set r11 ((Int.toNat x2)) (((List.getD r11 ((Int.toNat x2)) ((0, (0, 0, ([] : List DSpan), (0, 0, 0, 0, ([] : List Int), ([] : List Int), ([] : List (List Int)), ()), ()), ()))).1, ((((List.getD r11 ((Int.toNat x2)) ((0, (0, 0, ([] : List DSpan), (0, 0, 0, 0, ([] : List Int), ([] : List Int), ([] : List (List Int)), ()), ()), ()))).2).1).1, ((((List.getD r11 ((Int.toNat x2)) ((0, (0, 0, ([] : List DSpan), (0, 0, 0, 0, ([] : List Int), ([] : List Int), ([] : List (List Int)), ()), ()), ()))).2).1).2).1, (((((List.getD r11 ((Int.toNat x2)) ((0, (0, 0, ([] : List DSpan), (0, 0, 0, 0, ([] : List Int), ([] : List Int), ([] : List (List Int)), ()), ()), ()))).2).1).2).2).1, ((((((((List.getD r11 ((Int.toNat x2)) ((0, (0, 0, ([] : List DSpan), (0, 0, 0, 0, ([] : List Int), ([] : List Int), ([] : List (List Int)), ()), ()), ()))).2).1).2).2).2).1).1, ((((((((List.getD r11 ((Int.toNat x2)) ((0, (0, 0, ([] : List DSpan), (0, 0, 0, 0, ([] : List Int), ([] : List Int), ([] : List (List Int)), ()), ()), ()))).2).1).2).2).2).1).2).1, (((((((((List.getD r11 ((Int.toNat x2)) ((0, (0, 0, ([] : List DSpan), (0, 0, 0, 0, ([] : List Int), ([] : List Int), ([] : List (List Int)), ()), ()), ()))).2).1).2).2).2).1).2).2).1, w64 ((w64 ((w64 (r7.1 + 1)) + 1)) + 1), ((((((((((List.getD r11 ((Int.toNat x2)) ((0, (0, 0, ([] : List DSpan), (0, 0, 0, 0, ([] : List Int), ([] : List Int), ([] : List (List Int)), ()), ()), ()))).2).1).2).2).2).1).2).2).2).2), ((((((List.getD r11 ((Int.toNat x2)) ((0, (0, 0, ([] : List DSpan), (0, 0, 0, 0, ([] : List Int), ([] : List Int), ([] : List (List Int)), ()), ()), ()))).2).1).2).2).2).2), ((List.getD r11 ((Int.toNat x2)) ((0, (0, 0, ([] : List DSpan), (0, 0, 0, 0, ([] : List Int), ([] : List Int), ([] : List (List Int)), ()), ()), ()))).2).2)))).bind fun r12 =>
    chk (inb x2 (List.length r12)) <|
    (F.laws_markIntS ((((((((((((List.getD r12 ((Int.toNat x2)) ((0, (0, 0, ([] : List DSpan), (0, 0, 0, 0, ([] : List Int), ([] : List Int), ([] : List (List Int)), ()), ()), ()))).2).1).2).2).2).1).2).2).2).2).1) (w64 ((w64 ((w64 ((w64 (r7.1 + 1)) + 1)) + 1)) + 1))).bind fun r13 =>
    (some (List.set r12 ((Int.toNat x2)) (((List.getD r12 ((Int.toNat x2)) ((0, (0, 0, ([] : List DSpan), (0, 0, 0, 0, ([] : List Int), ([] : List Int), ([] : List (List Int)), ()), ()), ()))).1, ((((List.getD r12 ((Int.toNat x2)) ((0, (0, 0, ([] : List DSpan), (0, 0, 0, 0, ([] : List Int), ([] : List Int), ([] : List (List Int)), ()), ()), ()))).2).1).1, ((((List.getD r12 ((Int.toNat x2)) ((0, (0, 0, ([] : List DSpan), (0, 0, 0, 0, ([] : List Int), ([] : List Int), ([] : List (List Int)), ()), ()), ()))).2).1).2).1, (((((List.getD r12 ((Int.toNat x2)) ((0, (0, 0, ([] : List DSpan), (0, 0, 0, 0, ([] : List Int), ([] : List Int), ([] : List (List Int)), ()), ()), ()))).2).1).2).2).1, ((((((((List.getD r12 ((Int.toNat x2)) ((0, (0, 0, ([] : List DSpan), (0, 0, 0, 0, ([] : List Int), ([] : List Int), ([] : List (List Int)), ()), ()), ()))).2).1).2).2).2).1).1, ((((((((List.getD r12 ((Int.toNat x2)) ((0, (0, 0, ([] : List DSpan), (0, 0, 0, 0, ([] : List Int), ([] : List Int), ([] : List (List Int)), ()), ()), ()))).2).1).2).2).2).1).2).1, (((((((((List.getD r12 ((Int.toNat x2)) ((0, (0, 0, ([] : List DSpan), (0, 0, 0, 0, ([] : List Int), ([] : List Int), ([] : List (List Int)), ()), ()), ()))).2).1).2).2).2).1).2).2).1, ((((((((((List.getD r12 ((Int.toNat x2)) ((0, (0, 0, ([] : List DSpan), (0, 0, 0, 0, ([] : List Int), ([] : List Int), ([] : List (List Int)), ()), ()), ()))).2).1).2).2).2).1).2).2).2).1, r13.2, (((((((((((List.getD r12 ((Int.toNat x2)) ((0, (0, 0, ([] : List DSpan), (0, 0, 0, 0, ([] : List Int), ([] : List Int), ([] : List (List Int)), ()), ()), ()))).2).1).2).2).2).1).2).2).2).2).2), ((((((List.getD r12 ((Int.toNat x2)) ((0, (0, 0, ([] : List DSpan), (0, 0, 0, 0, ([] : List Int), ([] : List Int), ([] : List (List Int)), ()), ()), ()))).2).1).2).2).2).2), ((List.getD r12 ((Int.toNat x2)) ((0, (0, 0, ([] : List DSpan), (0, 0, 0, 0, ([] : List Int), ([] : List Int), ([] : List (List Int)), ()), ()), ()))).2).2)))).bind fun r14 =>
    chk (inb x2 (List.length r14)) <|
    (F.laws_markIntS (((((((((((((List.getD r14 ((Int.toNat x2)) ((0, (0, 0, ([] : List DSpan), (0, 0, 0, 0, ([] : List Int), ([] : List Int), ([] : List (List Int)), ()), ()), ()))).2).1).2).2).2).1).2).2).2).2).2).1) r13.1).bind fun r15 =>
    (some (List.set r14 ((Int.toNat x2)) (((List.getD r14 ((Int.toNat x2)) ((0, (0, 0, ([] : List DSpan), (0, 0, 0, 0, ([] : List Int), ([] : List Int), ([] : List (List Int)), ()), ()), ()))).1, ((((List.getD r14 ((Int.toNat x2)) ((0, (0, 0, ([] : List DSpan), (0, 0, 0, 0, ([] : List Int), ([] : List Int), ([] : List (List Int)), ()), ()), ()))).2).1).1, ((((List.getD r14 ((Int.toNat x2)) ((0, (0, 0, ([] : List DSpan), (0, 0, 0, 0, ([] : List Int), ([] : List Int), ([] : List (List Int)), ()), ()), ()))).2).1).2).1, (((((List.getD r14 ((Int.toNat x2)) ((0, (0, 0, ([] : List DSpan), (0, 0, 0, 0, ([] : List Int), ([] : List Int), ([] : List (List Int)), ()), ()), ()))).2).1).2).2).1, ((((((((List.getD r14 ((Int.toNat x2)) ((0, (0, 0, ([] : List DSpan), (0, 0, 0, 0, ([] : List Int), ([] : List Int), ([] : List (List Int)), ()), ()), ()))).2).1).2).2).2).1).1, ((((((((List.getD r14 ((Int.toNat x2)) ((0, (0, 0, ([] : List DSpan), (0, 0, 0, 0, ([] : List Int), ([] : List Int), ([] : List (List Int)), ()), ()), ()))).2).1).2).2).2).1).2).1, (((((((((List.getD r14 ((Int.toNat x2)) ((0, (0, 0, ([] : List DSpan), (0, 0, 0, 0, ([] : List Int), ([] : List Int), ([] : List (List Int)), ()), ()), ()))).2).1).2).2).2).1).2).2).1, ((((((((((List.getD r14 ((Int.toNat x2)) ((0, (0, 0, ([] : List DSpan), (0, 0, 0, 0, ([] : List Int), ([] : List Int), ([] : List (List Int)), ()), ()), ()))).2).1).2).2).2).1).2).2).2).1, (((((((((((List.getD r14 ((Int.toNat x2)) ((0, (0, 0, ([] : List DSpan), (0, 0, 0, 0, ([] : List Int), ([] : List Int), ([] : List (List Int)), ()), ()), ()))).2).1).2).2).2).1).2).2).2).2).1, r15.2, ((((((((((((List.getD r14 ((Int.toNat x2)) ((0, (0, 0, ([] : List DSpan), (0, 0, 0, 0, ([] : List Int), ([] : List Int), ([] : List (List Int)), ()), ()), ()))).2).1).2).2).2).1).2).2).2).2).2).2), ((((((List.getD r14 ((Int.toNat x2)) ((0, (0, 0, ([] : List DSpan), (0, 0, 0, 0, ([] : List Int), ([] : List Int), ([] : List (List Int)), ()), ()), ()))).2).1).2).2).2).2), ((List.getD r14 ((Int.toNat x2)) ((0, (0, 0, ([] : List DSpan), (0, 0, 0, 0, ([] : List Int), ([] : List Int), ([] : List (List Int)), ()), ()), ()))).2).2)))).bind fun r16 =>
    chk (inb x2 (List.length r16)) <|
    (F.laws_markIntSS ((((((((((((((List.getD r16 ((Int.toNat x2)) ((0, (0, 0, ([] : List DSpan), (0, 0, 0, 0, ([] : List Int), ([] : List Int), ([] : List (List Int)), ()), ()), ()))).2).1).2).2).2).1).2).2).2).2).2).2).1) r15.1).bind fun r17 =>
    (some (List.set r16 ((Int.toNat x2)) (((List.getD r16 ((Int.toNat x2)) ((0, (0, 0, ([] : List DSpan), (0, 0, 0, 0, ([] : List Int), ([] : List Int), ([] : List (List Int)), ()), ()), ()))).1, ((((List.getD r16 ((Int.toNat x2)) ((0, (0, 0, ([] : List DSpan), (0, 0, 0, 0, ([] : List Int), ([] : List Int), ([] : List (List Int)), ()), ()), ()))).2).1).1, ((((List.getD r16 ((Int.toNat x2)) ((0, (0, 0, ([] : List DSpan), (0, 0, 0, 0, ([] : List Int), ([] : List Int), ([] : List (List Int)), ()), ()), ()))).2).1).2).1, (((((List.getD r16 ((Int.toNat x2)) ((0, (0, 0, ([] : List DSpan), (0, 0, 0, 0, ([] : List Int), ([] : List Int), ([] : List (List Int)), ()), ()), ()))).2).1).2).2).1, ((((((((List.getD r16 ((Int.toNat x2)) ((0, (0, 0, ([] : List DSpan), (0, 0, 0, 0, ([] : List Int), ([] : List Int), ([] : List (List Int)), ()), ()), ()))).2).1).2).2).2).1).1, ((((((((List.getD r16 ((Int.toNat x2)) ((0, (0, 0, ([] : List DSpan), (0, 0, 0, 0, ([] : List Int), ([] : List Int), ([] : List (List Int)), ()), ()), ()))).2).1).2).2).2).1).2).1, (((((((((List.getD r16 ((Int.toNat x2)) ((0, (0, 0, ([] : List DSpan), (0, 0, 0, 0, ([] : List Int), ([] : List Int), ([] : List (List Int)), ()), ()), ()))).2).1).2).2).2).1).2).2).1, ((((((((((List.getD r16 ((Int.toNat x2)) ((0, (0, 0, ([] : List DSpan), (0, 0, 0, 0, ([] : List Int), ([] : List Int), ([] : List (List Int)), ()), ()), ()))).2).1).2).2).2).1).2).2).2).1, (((((((((((List.getD r16 ((Int.toNat x2)) ((0, (0, 0, ([] : List DSpan), (0, 0, 0, 0, ([] : List Int), ([] : List Int), ([] : List (List Int)), ()), ()), ()))).2).1).2).2).2).1).2).2).2).2).1, ((((((((((((List.getD r16 ((Int.toNat x2)) ((0, (0, 0, ([] : List DSpan), (0, 0, 0, 0, ([] : List Int), ([] : List Int), ([] : List (List Int)), ()), ()), ()))).2).1).2).2).2).1).2).2).2).2).2).1, r17.2, (((((((((((((List.getD r16 ((Int.toNat x2)) ((0, (0, 0, ([] : List DSpan), (0, 0, 0, 0, ([] : List Int), ([] : List Int), ([] : List (List Int)), ()), ()), ()))).2).1).2).2).2).1).2).2).2).2).2).2).2), ((((((List.getD r16 ((Int.toNat x2)) ((0, (0, 0, ([] : List DSpan), (0, 0, 0, 0, ([] : List Int), ([] : List Int), ([] : List (List Int)), ()), ()), ()))).2).1).2).2).2).2), ((List.getD r16 ((Int.toNat x2)) ((0, (0, 0, ([] : List DSpan), (0, 0, 0, 0, ([] : List Int), ([] : List Int), ([] : List (List Int)), ()), ()), ()))).2).2)))).bind fun r18 =>
    some (.again (r17.1, w64 (x2 + 1), r18, ()))
  else
    some (.exit (x1, x2, x3, ()))
noncomputable def F.laws_markOutS (a0 : List DOut) (a1 : Int) : Option (Int × (List DOut)) :=
  afterO (loopO F.laws_markOutS.s2 (a1, 0, a0, ())) fun (x19, x20, x21, _) =>
  some (x19, x21)
noncomputable def C.laws_markOutS : Con := ⟨[.c (.sl true 194 y19), .r (.val (.int .i64))], .one (.int .i64), fun x => F.laws_markOutS x.1 x.2.1⟩
def L.laws_markOutS : Loops := lookL [(2, ⟨[.pat 1 (.val (.int .i64)), .pat 5 (.val (.int .i64)), .root 0 false (.sl true 194 y19) [0]], 0⟩)]
noncomputable def K.laws_markOutS : Cons := lookK [(83, [], C.laws_markSpanS), (118, [], C.laws_markIntS), (119, [], C.laws_markIntSS)]
theorem run.laws_markOutS : ∀ x, runF tb K.laws_markOutS L.laws_markOutS [0] Try.f210 C.laws_markOutS x = C.laws_markOutS.fn x := fun x => by kernel_rfl

/-! ### laws.markHouse: function 78 -/
noncomputable def F.laws_markHouse (a0 : DHouse) (a1 : Int) : Option (Int × DHouse) :=
  (F.laws_markConf a0.1 a1).bind fun r1 =>
  (F.laws_markSeatS a0.2.2.2.1 r1.1).bind fun r2 =>
  (F.laws_markRowSS a0.2.2.2.2.1 r2.1).bind fun r3 =>
  (F.laws_markTurnS a0.2.2.2.2.2.1 r3.1).bind fun r4 =>
  (F.laws_markEntryS a0.2.2.2.2.2.2.2.1 r4.1).bind fun r5 =>
  (F.laws_markOutS a0.2.2.2.2.2.2.2.2.1 r5.1).bind fun r6 =>
  some (r6.1, (r1.2, a0.2.1, a0.2.2.1, r2.2, r3.2, r4.2, a0.2.2.2.2.2.2.1, r5.2, r6.2, a0.2.2.2.2.2.2.2.2.2))
noncomputable def C.laws_markHouse : Con := ⟨[.c y20, .r (.val (.int .i64))], .one (.int .i64), fun x => F.laws_markHouse x.1 x.2.1⟩
def L.laws_markHouse : Loops := fun _ => none
noncomputable def K.laws_markHouse : Cons := lookK [(77, [], C.laws_markConf), (98, [], C.laws_markEntryS), (207, [], C.laws_markSeatS), (208, [], C.laws_markRowSS), (209, [], C.laws_markTurnS), (210, [], C.laws_markOutS)]
theorem run.laws_markHouse : ∀ x, runF tb K.laws_markHouse L.laws_markHouse [2] Try.f78 C.laws_markHouse x = C.laws_markHouse.fn x := fun x => by kernel_rfl

/-! ### laws.heldConf: function 211 -/
noncomputable def F.laws_heldConf (a0 : DConf) (a1 : Int) : Option Int :=
  (F.laws_heldIntS a0.2.2.2.1 a1).bind fun r1 =>
  bif decide (r1 < 0) then
    some (-1)
  else
    some r1
noncomputable def C.laws_heldConf : Con := ⟨[.r (.val y11), .r (.val (.int .i64))], .one (.int .i64), fun x => F.laws_heldConf x.1 x.2.1⟩
def L.laws_heldConf : Loops := fun _ => none
noncomputable def K.laws_heldConf : Cons := lookK [(235, [], C.laws_heldIntS)]
theorem run.laws_heldConf : ∀ x, runF tb K.laws_heldConf L.laws_heldConf [] Try.f211 C.laws_heldConf x = C.laws_heldConf.fn x := fun x => by kernel_rfl

/-! ### laws.heldSeatS: function 212 -/
noncomputable def F.laws_heldSeatS.s2 : ((List DSeat) × Int × Int × Unit) → Option (Lp ((List DSeat) × Int × Int × Unit) Int) := fun (x1, x2, x3, _) =>
  bif decide (x3 < (len x1)) then
    chk (inb x3 (List.length x1)) <|
    bif ((List.getD x1 ((Int.toNat x3)) ((0, 0, ([] : List DSpan), 0, 0, ()))).1) != x2 then
      some (.ret (-1))
    else
    chk (inb x3 (List.length x1)) <|
    bif (((List.getD x1 ((Int.toNat x3)) ((0, 0, ([] : List DSpan), 0, 0, ()))).2).1) != (w64 (x2 + 1)) then
      some (.ret (-1))
    else
    chk (inb x3 (List.length x1)) <|
    (F.laws_heldSpanS ((((List.getD x1 ((Int.toNat x3)) ((0, 0, ([] : List DSpan), 0, 0, ()))).2).2).1) (w64 ((w64 (x2 + 1)) + 1))).bind fun r4 =>
    bif decide (r4 < 0) then
      some (.ret (-1))
    else
    chk (inb x3 (List.length x1)) <|
    bif (((((List.getD x1 ((Int.toNat x3)) ((0, 0, ([] : List DSpan), 0, 0, ()))).2).2).2).1) != r4 then
      some (.ret (-1))
    else
    chk (inb x3 (List.length x1)) <|
    bif ((((((List.getD x1 ((Int.toNat x3)) ((0, 0, ([] : List DSpan), 0, 0, ()))).2).2).2).2).1) != (w64 (r4 + 1)) then
      some (.ret (-1))
    else
      some (.again (x1, w64 ((w64 (r4 + 1)) + 1), w64 (x3 + 1), ()))
  else
    some (.exit (x1, x2, x3, ()))
noncomputable def F.laws_heldSeatS (a0 : List DSeat) (a1 : Int) : Option Int :=
  afterO (loopO F.laws_heldSeatS.s2 (a0, a1, 0, ())) fun (x5, x6, x7, _) =>
  some x6
noncomputable def C.laws_heldSeatS : Con := ⟨[.r (.val (.sl false 87 y21)), .r (.val (.int .i64))], .one (.int .i64), fun x => F.laws_heldSeatS x.1 x.2.1⟩
def L.laws_heldSeatS : Loops := lookL [(2, ⟨[.pat 0 (.val (.sl false 87 y21)), .pat 1 (.val (.int .i64)), .pat 5 (.val (.int .i64))], 0⟩)]
noncomputable def K.laws_heldSeatS : Cons := lookK [(84, [], C.laws_heldSpanS)]
theorem run.laws_heldSeatS : ∀ x, runF tb K.laws_heldSeatS L.laws_heldSeatS [] Try.f212 C.laws_heldSeatS x = C.laws_heldSeatS.fn x := fun x => by kernel_rfl

/-! ### laws.heldEntryS: function 100 -/
noncomputable def F.laws_heldEntryS.s2 : ((List DEntry) × Int × Int × Unit) → Option (Lp ((List DEntry) × Int × Int × Unit) Int) := fun (x1, x2, x3, _) =>
  bif decide (x3 < (len x1)) then
    chk (inb x3 (List.length x1)) <|
    bif ((List.getD x1 ((Int.toNat x3)) ((0, 0, ([] : List DSpan), (0, 0, 0, 0, ([] : List Int), ([] : List Int), ([] : List (List Int)), ()), ()))).1) != x2 then
      some (.ret (-1))
    else
    chk (inb x3 (List.length x1)) <|
    bif (((List.getD x1 ((Int.toNat x3)) ((0, 0, ([] : List DSpan), (0, 0, 0, 0, ([] : List Int), ([] : List Int), ([] : List (List Int)), ()), ()))).2).1) != (w64 (x2 + 1)) then
      some (.ret (-1))
    else
    chk (inb x3 (List.length x1)) <|
    (F.laws_heldSpanS ((((List.getD x1 ((Int.toNat x3)) ((0, 0, ([] : List DSpan), (0, 0, 0, 0, ([] : List Int), ([] : List Int), ([] : List (List Int)), ()), ()))).2).2).1) (w64 ((w64 (x2 + 1)) + 1))).bind fun r4 =>
    bif decide (r4 < 0) then
      some (.ret (-1))
    else
    chk (inb x3 (List.length x1)) <|
    bif ((((((List.getD x1 ((Int.toNat x3)) ((0, 0, ([] : List DSpan), (0, 0, 0, 0, ([] : List Int), ([] : List Int), ([] : List (List Int)), ()), ()))).2).2).2).1).1) != r4 then
      some (.ret (-1))
    else
    chk (inb x3 (List.length x1)) <|
    bif (((((((List.getD x1 ((Int.toNat x3)) ((0, 0, ([] : List DSpan), (0, 0, 0, 0, ([] : List Int), ([] : List Int), ([] : List (List Int)), ()), ()))).2).2).2).1).2).1) != (w64 (r4 + 1)) then
      some (.ret (-1))
    else
    chk (inb x3 (List.length x1)) <|
    bif ((((((((List.getD x1 ((Int.toNat x3)) ((0, 0, ([] : List DSpan), (0, 0, 0, 0, ([] : List Int), ([] : List Int), ([] : List (List Int)), ()), ()))).2).2).2).1).2).2).1) != (w64 ((w64 (r4 + 1)) + 1)) then
      some (.ret (-1))
    else
    chk (inb x3 (List.length x1)) <|
    bif (((((((((List.getD x1 ((Int.toNat x3)) ((0, 0, ([] : List DSpan), (0, 0, 0, 0, ([] : List Int), ([] : List Int), ([] : List (List Int)), ()), ()))).2).2).2).1).2).2).2).1) != (w64 ((w64 ((w64 (r4 + 1)) + 1)) + 1)) then
      some (.ret (-1))
    else
    chk (inb x3 (List.length x1)) <|
    (F.laws_heldIntS ((((((((((List.getD x1 ((Int.toNat x3)) ((0, 0, ([] : List DSpan), (0, 0, 0, 0, ([] : List Int), ([] : List Int), ([] : List (List Int)), ()), ()))).2).2).2).1).2).2).2).2).1) (w64 ((w64 ((w64 ((w64 (r4 + 1)) + 1)) + 1)) + 1))).bind fun r5 =>
    bif decide (r5 < 0) then
      some (.ret (-1))
    else
    chk (inb x3 (List.length x1)) <|
    (F.laws_heldIntS (((((((((((List.getD x1 ((Int.toNat x3)) ((0, 0, ([] : List DSpan), (0, 0, 0, 0, ([] : List Int), ([] : List Int), ([] : List (List Int)), ()), ()))).2).2).2).1).2).2).2).2).2).1) r5).bind fun r6 =>
    bif decide (r6 < 0) then
      some (.ret (-1))
    else
    chk (inb x3 (List.length x1)) <|
    (F.laws_heldIntSS ((((((((((((List.getD x1 ((Int.toNat x3)) ((0, 0, ([] : List DSpan), (0, 0, 0, 0, ([] : List Int), ([] : List Int), ([] : List (List Int)), ()), ()))).2).2).2).1).2).2).2).2).2).2).1) r6).bind fun r7 =>
    bif decide (r7 < 0) then
      some (.ret (-1))
    else
      some (.again (x1, r7, w64 (x3 + 1), ()))
  else
    some (.exit (x1, x2, x3, ()))
noncomputable def F.laws_heldEntryS (a0 : List DEntry) (a1 : Int) : Option Int :=
  afterO (loopO F.laws_heldEntryS.s2 (a0, a1, 0, ())) fun (x8, x9, x10, _) =>
  some x9
noncomputable def C.laws_heldEntryS : Con := ⟨[.r (.val (.sl false 32 y5)), .r (.val (.int .i64))], .one (.int .i64), fun x => F.laws_heldEntryS x.1 x.2.1⟩
def L.laws_heldEntryS : Loops := lookL [(2, ⟨[.pat 0 (.val (.sl false 32 y5)), .pat 1 (.val (.int .i64)), .pat 5 (.val (.int .i64))], 0⟩)]
noncomputable def K.laws_heldEntryS : Cons := lookK [(84, [], C.laws_heldSpanS), (235, [], C.laws_heldIntS), (236, [], C.laws_heldIntSS)]
theorem run.laws_heldEntryS : ∀ x, runF tb K.laws_heldEntryS L.laws_heldEntryS [] Try.f100 C.laws_heldEntryS x = C.laws_heldEntryS.fn x := fun x => by kernel_rfl

/-! ### laws.heldRowS: function 278 -/
noncomputable def F.laws_heldRowS.s2 : ((List DRow) × Int × Int × Unit) → Option (Lp ((List DRow) × Int × Int × Unit) Int) := fun (x1, x2, x3, _) =>
  bif decide (x3 < (len x1)) then
    chk (inb x3 (List.length x1)) <|
    (F.laws_heldEntryS ((List.getD x1 ((Int.toNat x3)) ((([] : List DEntry), ()))).1) x2).bind fun r4 =>
    bif decide (r4 < 0) then
      some (.ret (-1))
    else
      some (.again (x1, r4, w64 (x3 + 1), ()))
  else
    some (.exit (x1, x2, x3, ()))
noncomputable def F.laws_heldRowS (a0 : List DRow) (a1 : Int) : Option Int :=
  afterO (loopO F.laws_heldRowS.s2 (a0, a1, 0, ())) fun (x5, x6, x7, _) =>
  some x6
noncomputable def C.laws_heldRowS : Con := ⟨[.r (.val (.sl false 35 (.cons (.sl false 32 y5) .nil))), .r (.val (.int .i64))], .one (.int .i64), fun x => F.laws_heldRowS x.1 x.2.1⟩
def L.laws_heldRowS : Loops := lookL [(2, ⟨[.pat 0 (.val (.sl false 35 (.cons (.sl false 32 y5) .nil))), .pat 1 (.val (.int .i64)), .pat 5 (.val (.int .i64))], 0⟩)]
noncomputable def K.laws_heldRowS : Cons := lookK [(100, [], C.laws_heldEntryS)]
theorem run.laws_heldRowS : ∀ x, runF tb K.laws_heldRowS L.laws_heldRowS [] Try.f278 C.laws_heldRowS x = C.laws_heldRowS.fn x := fun x => by kernel_rfl

/-! ### laws.heldRowSS: function 213 -/
noncomputable def F.laws_heldRowSS.s2 : ((List (List DRow)) × Int × Int × Unit) → Option (Lp ((List (List DRow)) × Int × Int × Unit) Int) := fun (x1, x2, x3, _) =>
  bif decide (x3 < (len x1)) then
    chk (inb x3 (List.length x1)) <|
    (F.laws_heldRowS (List.getD x1 ((Int.toNat x3)) (([] : List DRow))) x2).bind fun r4 =>
    bif decide (r4 < 0) then
      some (.ret (-1))
    else
      some (.again (x1, r4, w64 (x3 + 1), ()))
  else
    some (.exit (x1, x2, x3, ()))
noncomputable def F.laws_heldRowSS (a0 : List (List DRow)) (a1 : Int) : Option Int :=
  afterO (loopO F.laws_heldRowSS.s2 (a0, a1, 0, ())) fun (x5, x6, x7, _) =>
  some x6
noncomputable def C.laws_heldRowSS : Con := ⟨[.r (.val (.sl false 159 (.sl false 35 (.cons (.sl false 32 y5) .nil)))), .r (.val (.int .i64))], .one (.int .i64), fun x => F.laws_heldRowSS x.1 x.2.1⟩
def L.laws_heldRowSS : Loops := lookL [(2, ⟨[.pat 0 (.val (.sl false 159 (.sl false 35 (.cons (.sl false 32 y5) .nil)))), .pat 1 (.val (.int .i64)), .pat 5 (.val (.int .i64))], 0⟩)]
noncomputable def K.laws_heldRowSS : Cons := lookK [(278, [], C.laws_heldRowS)]
theorem run.laws_heldRowSS : ∀ x, runF tb K.laws_heldRowSS L.laws_heldRowSS [] Try.f213 C.laws_heldRowSS x = C.laws_heldRowSS.fn x := fun x => by kernel_rfl

/-! ### laws.heldTurnS: function 214 -/
noncomputable def F.laws_heldTurnS.s2 : ((List DTurn) × Int × Int × Unit) → Option (Lp ((List DTurn) × Int × Int × Unit) Int) := fun (x1, x2, x3, _) =>
  bif decide (x3 < (len x1)) then
    chk (inb x3 (List.length x1)) <|
    bif ((List.getD x1 ((Int.toNat x3)) ((0, false, ([] : List Int), ()))).1) != x2 then
      some (.ret (-1))
    else
    chk (inb x3 (List.length x1)) <|
    bif !((((List.getD x1 ((Int.toNat x3)) ((0, false, ([] : List Int), ()))).2).1) == ((Int.tmod (w64 (x2 + 1)) 3) == 0)) then
      some (.ret (-1))
    else
    chk (inb x3 (List.length x1)) <|
    (F.laws_heldIntS ((((List.getD x1 ((Int.toNat x3)) ((0, false, ([] : List Int), ()))).2).2).1) (w64 ((w64 (x2 + 1)) + 1))).bind fun r4 =>
    bif decide (r4 < 0) then
      some (.ret (-1))
    else
      some (.again (x1, r4, w64 (x3 + 1), ()))
  else
    some (.exit (x1, x2, x3, ()))
noncomputable def F.laws_heldTurnS (a0 : List DTurn) (a1 : Int) : Option Int :=
  afterO (loopO F.laws_heldTurnS.s2 (a0, a1, 0, ())) fun (x5, x6, x7, _) =>
  some x6
noncomputable def C.laws_heldTurnS : Con := ⟨[.r (.val (.sl false 192 y13)), .r (.val (.int .i64))], .one (.int .i64), fun x => F.laws_heldTurnS x.1 x.2.1⟩
def L.laws_heldTurnS : Loops := lookL [(2, ⟨[.pat 0 (.val (.sl false 192 y13)), .pat 1 (.val (.int .i64)), .pat 5 (.val (.int .i64))], 0⟩)]
noncomputable def K.laws_heldTurnS : Cons := lookK [(235, [], C.laws_heldIntS)]
theorem run.laws_heldTurnS : ∀ x, runF tb K.laws_heldTurnS L.laws_heldTurnS [] Try.f214 C.laws_heldTurnS x = C.laws_heldTurnS.fn x := fun x => by kernel_rfl

/-! ### laws.heldOutS: function 215 -/
noncomputable def F.laws_heldOutS.s2 : ((List DOut) × Int × Int × Unit) → Option (Lp ((List DOut) × Int × Int × Unit) Int) := fun (x1, x2, x3, _) =>
  bif decide (x3 < (len x1)) then
    chk (inb x3 (List.length x1)) <|
    bif ((List.getD x1 ((Int.toNat x3)) ((0, (0, 0, ([] : List DSpan), (0, 0, 0, 0, ([] : List Int), ([] : List Int), ([] : List (List Int)), ()), ()), ()))).1) != x2 then
      some (.ret (-1))
    else
    chk (inb x3 (List.length x1)) <|
    bif ((((List.getD x1 ((Int.toNat x3)) ((0, (0, 0, ([] : List DSpan), (0, 0, 0, 0, ([] : List Int), ([] : List Int), ([] : List (List Int)), ()), ()), ()))).2).1).1) != (w64 (x2 + 1)) then
      some (.ret (-1))
    else
    chk (inb x3 (List.length x1)) <|
    bif (((((List.getD x1 ((Int.toNat x3)) ((0, (0, 0, ([] : List DSpan), (0, 0, 0, 0, ([] : List Int), ([] : List Int), ([] : List (List Int)), ()), ()), ()))).2).1).2).1) != (w64 ((w64 (x2 + 1)) + 1)) then
      some (.ret (-1))
    else
    chk (inb x3 (List.length x1)) <|
    (F.laws_heldSpanS ((((((List.getD x1 ((Int.toNat x3)) ((0, (0, 0, ([] : List DSpan), (0, 0, 0, 0, ([] : List Int), ([] : List Int), ([] : List (List Int)), ()), ()), ()))).2).1).2).2).1) (w64 ((w64 ((w64 (x2 + 1)) + 1)) + 1))).bind fun r4 =>
    bif decide (r4 < 0) then
      some (.ret (-1))
    else
    chk (inb x3 (List.length x1)) <|
    bif ((((((((List.getD x1 ((Int.toNat x3)) ((0, (0, 0, ([] : List DSpan), (0, 0, 0, 0, ([] : List Int), ([] : List Int), ([] : List (List Int)), ()), ()), ()))).2).1).2).2).2).1).1) != r4 then
      some (.ret (-1))
    else
    chk (inb x3 (List.length x1)) <|
    bif (((((((((List.getD x1 ((Int.toNat x3)) ((0, (0, 0, ([] : List DSpan), (0, 0, 0, 0, ([] : List Int), ([] : List Int), ([] : List (List Int)), ()), ()), ()))).2).1).2).2).2).1).2).1) != (w64 (r4 + 1)) then
      some (.ret (-1))
    else
    chk (inb x3 (List.length x1)) <|
    bif ((((((((((List.getD x1 ((Int.toNat x3)) ((0, (0, 0, ([] : List DSpan), (0, 0, 0, 0, ([] : List Int), ([] : List Int), ([] : List (List Int)), ()), ()), ()))).2).1).2).2).2).1).2).2).1) != (w64 ((w64 (r4 + 1)) + 1)) then
      some (.ret (-1))
    else
    chk (inb x3 (List.length x1)) <|
    bif (((((((((((List.getD x1 ((Int.toNat x3)) ((0, (0, 0, ([] : List DSpan), (0, 0, 0, 0, ([] : List Int), ([] : List Int), ([] : List (List Int)), ()), ()), ()))).2).1).2).2).2).1).2).2).2).1) != (w64 ((w64 ((w64 (r4 + 1)) + 1)) + 1)) then
      some (.ret (-1))
    else
    chk (inb x3 (List.length x1)) <|
    (F.laws_heldIntS ((((((((((((List.getD x1 ((Int.toNat x3)) ((0, (0, 0, ([] : List DSpan), (0, 0, 0, 0, ([] : List Int), ([] : List Int), ([] : List (List Int)), ()), ()), ()))).2).1).2).2).2).1).2).2).2).2).1) (w64 ((w64 ((w64 ((w64 (r4 + 1)) + 1)) + 1)) + 1))).bind fun r5 =>
    bif decide (r5 < 0) then
      some (.ret (-1))
    else
    chk (inb x3 (List.length x1)) <|
    (F.laws_heldIntS (((((((((((((List.getD x1 ((Int.toNat x3)) ((0, (0, 0, ([] : List DSpan), (0, 0, 0, 0, ([] : List Int), ([] : List Int), ([] : List (List Int)), ()), ()), ()))).2).1).2).2).2).1).2).2).2).2).2).1) r5).bind fun r6 =>
    bif decide (r6 < 0) then
      some (.ret (-1))
    else
    chk (inb x3 (List.length x1)) <|
    (F.laws_heldIntSS ((((((((((((((List.getD x1 ((Int.toNat x3)) ((0, (0, 0, ([] : List DSpan), (0, 0, 0, 0, ([] : List Int), ([] : List Int), ([] : List (List Int)), ()), ()), ()))).2).1).2).2).2).1).2).2).2).2).2).2).1) r6).bind fun r7 =>
    bif decide (r7 < 0) then
      some (.ret (-1))
    else
      some (.again (x1, r7, w64 (x3 + 1), ()))
  else
    some (.exit (x1, x2, x3, ()))
noncomputable def F.laws_heldOutS (a0 : List DOut) (a1 : Int) : Option Int :=
  afterO (loopO F.laws_heldOutS.s2 (a0, a1, 0, ())) fun (x8, x9, x10, _) =>
  some x9
noncomputable def C.laws_heldOutS : Con := ⟨[.r (.val (.sl false 194 y22)), .r (.val (.int .i64))], .one (.int .i64), fun x => F.laws_heldOutS x.1 x.2.1⟩
def L.laws_heldOutS : Loops := lookL [(2, ⟨[.pat 0 (.val (.sl false 194 y22)), .pat 1 (.val (.int .i64)), .pat 5 (.val (.int .i64))], 0⟩)]
noncomputable def K.laws_heldOutS : Cons := lookK [(84, [], C.laws_heldSpanS), (235, [], C.laws_heldIntS), (236, [], C.laws_heldIntSS)]
theorem run.laws_heldOutS : ∀ x, runF tb K.laws_heldOutS L.laws_heldOutS [] Try.f215 C.laws_heldOutS x = C.laws_heldOutS.fn x := fun x => by kernel_rfl

/-! ### laws.heldHouse: function 79 -/
noncomputable def F.laws_heldHouse (a0 : DHouse) (a1 : Int) : Option Int :=
  (F.laws_heldConf a0.1 a1).bind fun r1 =>
  bif decide (r1 < 0) then
    some (-1)
  else
  (F.laws_heldSeatS a0.2.2.2.1 r1).bind fun r2 =>
  bif decide (r2 < 0) then
    some (-1)
  else
  (F.laws_heldRowSS a0.2.2.2.2.1 r2).bind fun r3 =>
  bif decide (r3 < 0) then
    some (-1)
  else
  (F.laws_heldTurnS a0.2.2.2.2.2.1 r3).bind fun r4 =>
  bif decide (r4 < 0) then
    some (-1)
  else
  (F.laws_heldEntryS a0.2.2.2.2.2.2.2.1 r4).bind fun r5 =>
  bif decide (r5 < 0) then
    some (-1)
  else
  (F.laws_heldOutS a0.2.2.2.2.2.2.2.2.1 r5).bind fun r6 =>
  bif decide (r6 < 0) then
    some (-1)
  else
    some r6
noncomputable def C.laws_heldHouse : Con := ⟨[.r (.val y23), .r (.val (.int .i64))], .one (.int .i64), fun x => F.laws_heldHouse x.1 x.2.1⟩
def L.laws_heldHouse : Loops := fun _ => none
noncomputable def K.laws_heldHouse : Cons := lookK [(100, [], C.laws_heldEntryS), (211, [], C.laws_heldConf), (212, [], C.laws_heldSeatS), (213, [], C.laws_heldRowSS), (214, [], C.laws_heldTurnS), (215, [], C.laws_heldOutS)]
theorem run.laws_heldHouse : ∀ x, runF tb K.laws_heldHouse L.laws_heldHouse [] Try.f79 C.laws_heldHouse x = C.laws_heldHouse.fn x := fun x => by kernel_rfl

/-! ### laws.FnExactHouseNew: function 11 -/
noncomputable def F.laws_FnExactHouseNew (a0 : DConf) : Option Bool :=
  (F.laws_szConf a0 1048576).bind fun r1 =>
  bif decide (r1 < 0) then
    some true
  else
  (F.laws_toConf a0).bind fun r2 =>
  (F.spec_HouseNew r2).bind fun r3 =>
  (F.laws_toConf a0).bind fun r4 =>
  (F.impl_HouseNew r4).bind fun r5 =>
  (F.laws_eqHouse r5.1 r3.1).bind fun r6 =>
  bif !r6 then
    some false
  else
  bif !(r5.2 == r3.2) then
    some false
  else
  (F.laws_toConf a0).bind fun r7 =>
  (F.laws_eqConf r4 r7).bind fun r8 =>
  bif !r8 then
    some false
  else
  (F.laws_markConf r4 1).bind fun r9 =>
  bif decide (r9.1 < 0) then
    some false
  else
  (F.laws_eqHouse r5.1 r3.1).bind fun r10 =>
  bif !r10 then
    some false
  else
  bif !(r5.2 == r3.2) then
    some false
  else
  (F.laws_markHouse r5.1 1).bind fun r11 =>
  (F.laws_heldHouse r11.2 1).bind fun r12 =>
  bif decide (r12 < 0) then
    some false
  else
  bif r12 != r11.1 then
    some false
  else
  (F.laws_toConf a0).bind fun r13 =>
  (F.impl_HouseNew r13).bind fun r14 =>
  (F.laws_eqHouse r14.1 r3.1).bind fun r15 =>
  bif !r15 then
    some false
  else
  bif !(r14.2 == r3.2) then
    some false
  else
  (F.laws_heldHouse r11.2 1).bind fun r16 =>
  bif decide (r16 < 0) then
    some false
  else
  bif r16 != r11.1 then
    some false
  else
    some true
noncomputable def C.laws_FnExactHouseNew : Con := ⟨[.r (.val y11)], .one .bool, fun x => F.laws_FnExactHouseNew x.1⟩
def L.laws_FnExactHouseNew : Loops := fun _ => none
noncomputable def K.laws_FnExactHouseNew : Cons := lookK [(39, [], C.laws_eqHouse), (72, [], C.laws_szConf), (73, [], C.spec_HouseNew), (74, [], C.laws_toConf), (75, [], C.impl_HouseNew), (76, [], C.laws_eqConf), (77, [], C.laws_markConf), (78, [], C.laws_markHouse), (79, [], C.laws_heldHouse)]
theorem run.laws_FnExactHouseNew : ∀ x, runF tb K.laws_FnExactHouseNew L.laws_FnExactHouseNew [] Try.f11 C.laws_FnExactHouseNew x = C.laws_FnExactHouseNew.fn x := fun x => by kernel_rfl

/-! ### spec.l5Join: function 216 -/
noncomputable def F.spec_l5Join.s3 : ((List DSpan) × (List DSpan) × Int × Unit) → Option (Lp ((List DSpan) × (List DSpan) × Int × Unit) ((List DSpan))) := fun (x2, x3, x4, _) =>
  bif decide (x4 < (len x2)) then
    chk (inb x4 (List.length x2)) <|
    (F.spec_l5Put x3 (List.getD x2 ((Int.toNat x4)) ((0, 0, ())))).bind fun r5 =>
    some (.again (x2, r5, w64 (x4 + 1), ()))
  else
    some (.exit (x2, x3, x4, ()))
noncomputable def F.spec_l5Join (a0 : List DSpan) (a1 : List DSpan) : Option ((List DSpan)) :=
  (F.spec_l5Copy a0).bind fun r1 =>
  afterO (loopO F.spec_l5Join.s3 (a1, r1, 0, ())) fun (x6, x7, x8, _) =>
  some x7
noncomputable def C.spec_l5Join : Con := ⟨[.r (.val (.sl false 175 y0)), .r (.val (.sl false 175 y0))], .one (.sl true 175 y0), fun x => F.spec_l5Join x.1 x.2.1⟩
def L.spec_l5Join : Loops := lookL [(3, ⟨[.pat 1 (.val (.sl false 175 y0)), .own 5 (.sl true 175 y0), .pat 6 (.val (.int .i64))], 0⟩)]
noncomputable def K.spec_l5Join : Cons := lookK [(138, [], C.spec_l5Put), (238, [], C.spec_l5Copy)]
theorem run.spec_l5Join : ∀ x, runF tb K.spec_l5Join L.spec_l5Join [] Try.f216 C.spec_l5Join x = C.spec_l5Join.fn x := fun x => by kernel_rfl

/-! ### spec.RowIds: function 80 -/
noncomputable def F.spec_RowIds.s5 : ((List DSpan) × Int × DRow × Unit) → Option (Lp ((List DSpan) × Int × DRow × Unit) ((List DSpan))) := fun (x2, x3, x4, _) =>
  bif decide (x3 < (len x4.1)) then
    chk (inb x3 (List.length x4.1)) <|
    (F.spec_l5Join x2 ((((List.getD x4.1 ((Int.toNat x3)) ((0, 0, ([] : List DSpan), (0, 0, 0, 0, ([] : List Int), ([] : List Int), ([] : List (List Int)), ()), ()))).2).2).1)).bind fun r5 =>
    some (.again (r5, w64 (x3 + 1), x4, ()))
  else
    some (.exit (x2, x3, x4, ()))
noncomputable def F.spec_RowIds (a0 : DRow) : Option ((List DSpan)) :=
  (F.spec_RowOk a0).bind fun r1 =>
  bif !r1 then
    some ([] : List DSpan)
  else
  afterO (loopO F.spec_RowIds.s5 (([] : List DSpan), 0, a0, ())) fun (x6, x7, x8, _) =>
  some x6
noncomputable def C.spec_RowIds : Con := ⟨[.r (.val (.cons (.sl false 32 y5) .nil))], .one (.sl true 175 y0), fun x => F.spec_RowIds x.1⟩
def L.spec_RowIds : Loops := lookL [(5, ⟨[.own 3 (.sl true 175 y0), .pat 4 (.val (.int .i64)), .root 1 true (.cons (.sl false 32 y5) .nil) [1]], 0⟩)]
noncomputable def K.spec_RowIds : Cons := lookK [(93, [], C.spec_RowOk), (216, [], C.spec_l5Join)]
theorem run.spec_RowIds : ∀ x, runF tb K.spec_RowIds L.spec_RowIds [] Try.f80 C.spec_RowIds x = C.spec_RowIds.fn x := fun x => by kernel_rfl

/-! ### impl.EntryOk: function 282 -/
noncomputable def F.impl_EntryOk (a0 : DEntry) : Option Bool :=
  (F.impl_within a0.1 0 4).bind fun r1 =>
  bif r1 then
    (F.impl_within a0.2.1 0 20).bind fun r2 =>
    bif r2 then
      (F.impl_SetOk a0.2.2.1).bind fun r3 =>
      bif r3 then
        bif decide ((len a0.2.2.1) > 0) then
          (F.impl_SketchOk a0.2.2.2.1).bind fun r4 =>
          some r4
        else
          some false
      else
        some false
    else
      some false
  else
    some false
noncomputable def C.impl_EntryOk : Con := ⟨[.r (.val y5)], .one .bool, fun x => F.impl_EntryOk x.1⟩
def L.impl_EntryOk : Loops := fun _ => none
noncomputable def K.impl_EntryOk : Cons := lookK [(142, [], C.impl_within), (193, [], C.impl_SketchOk), (257, [], C.impl_SetOk)]
theorem run.impl_EntryOk : ∀ x, runF tb K.impl_EntryOk L.impl_EntryOk [] Try.f282 C.impl_EntryOk x = C.impl_EntryOk.fn x := fun x => by kernel_rfl

/-! ### impl.SetApart: function 283 -/
noncomputable def F.impl_SetApart.s7 : ((List DSpan) × (List DSpan) × Int × Int × (List DSpan) × Int × Int × DSpan × Unit) → Option (Lp ((List DSpan) × (List DSpan) × Int × Int × (List DSpan) × Int × Int × DSpan × Unit) (Lp ((List DSpan) × (List DSpan) × Int × Int × Unit) Bool)) := fun (x7, x8, x9, x10, x11, x12, x13, x14, _) =>
  bif decide (x13 < x12) then
    chk (inb x13 (List.length x11)) <|
    bif decide (x14.1 ≤ (((List.getD x11 ((Int.toNat x13)) ((0, 0, ()))).2).1)) then
      bif decide (((List.getD x11 ((Int.toNat x13)) ((0, 0, ()))).1) ≤ x14.2.1) then
        some (.ret (.ret false))
      else
        some (.again (x7, x8, x9, x10, x11, x12, w64 (x13 + 1), x14, ()))
    else
      some (.again (x7, x8, x9, x10, x11, x12, w64 (x13 + 1), x14, ()))
  else
    some (.exit (x7, x8, x9, x10, x11, x12, x13, x14, ()))
noncomputable def F.impl_SetApart.s4 : ((List DSpan) × (List DSpan) × Int × Int × Unit) → Option (Lp ((List DSpan) × (List DSpan) × Int × Int × Unit) Bool) := fun (x3, x4, x5, x6, _) =>
  bif decide (x6 < x5) then
    chk (inb x6 (List.length x4)) <|
    afterO (loopO F.impl_SetApart.s7 (x3, x4, x5, x6, x3, len x3, 0, List.getD x4 ((Int.toNat x6)) ((0, 0, ())), ())) fun (x15, x16, x17, x18, x19, x20, x21, x22, _) =>
    some (.again (x15, x16, x17, w64 (x18 + 1), ()))
  else
    some (.exit (x3, x4, x5, x6, ()))
noncomputable def F.impl_SetApart (a0 : List DSpan) (a1 : List DSpan) : Option Bool :=
  (F.impl_SetOk a0).bind fun r1 =>
  bif !r1 then
    some false
  else
  (F.impl_SetOk a1).bind fun r2 =>
  bif !r2 then
    some false
  else
  afterO (loopO F.impl_SetApart.s4 (a1, a0, len a0, 0, ())) fun (x23, x24, x25, x26, _) =>
  some true
noncomputable def C.impl_SetApart : Con := ⟨[.r (.val (.sl false 175 y0)), .r (.val (.sl false 175 y0))], .one .bool, fun x => F.impl_SetApart x.1 x.2.1⟩
def L.impl_SetApart : Loops := lookL [(7, ⟨[.pat 1 (.val (.sl false 175 y0)), .pat 17 (.val (.sl false 175 y0)), .pat 18 (.val (.int .i64)), .pat 19 (.val (.int .i64)), .pat 23 (.val (.sl false 175 y0)), .pat 24 (.val (.int .i64)), .pat 25 (.val (.int .i64)), .root 6 true y0 [6]], 2⟩), (4, ⟨[.pat 1 (.val (.sl false 175 y0)), .pat 17 (.val (.sl false 175 y0)), .pat 18 (.val (.int .i64)), .pat 19 (.val (.int .i64))], 0⟩)]
noncomputable def K.impl_SetApart : Cons := lookK [(257, [], C.impl_SetOk)]
theorem run.impl_SetApart : ∀ x, runF tb K.impl_SetApart L.impl_SetApart [] Try.f283 C.impl_SetApart x = C.impl_SetApart.fn x := fun x => by kernel_rfl

/-! ### impl.apart: function 234 -/
noncomputable def F.impl_apart.s7 : ((List DEntry) × (List DEntry) × Int × Int × (List DEntry) × Int × Int × DEntry × Unit) → Option (Lp ((List DEntry) × (List DEntry) × Int × Int × (List DEntry) × Int × Int × DEntry × Unit) (Lp ((List DEntry) × (List DEntry) × Int × Int × Unit) Bool)) := fun (x6, x7, x8, x9, x10, x11, x12, x13, _) =>
  bif decide (x12 < x11) then
    chk (inb x12 (List.length x10)) <|
    (F.impl_SetApart x13.2.2.1 ((((List.getD x10 ((Int.toNat x12)) ((0, 0, ([] : List DSpan), (0, 0, 0, 0, ([] : List Int), ([] : List Int), ([] : List (List Int)), ()), ()))).2).2).1)).bind fun r14 =>
    bif !r14 then
      some (.ret (.ret false))
    else
      some (.again (x6, x7, x8, x9, x10, x11, w64 (x12 + 1), x13, ()))
  else
    some (.exit (x6, x7, x8, x9, x10, x11, x12, x13, ()))
noncomputable def F.impl_apart.s2 : ((List DEntry) × (List DEntry) × Int × Int × Unit) → Option (Lp ((List DEntry) × (List DEntry) × Int × Int × Unit) Bool) := fun (x1, x2, x3, x4, _) =>
  bif decide (x4 < x3) then
    chk (inb x4 (List.length x2)) <|
    (F.impl_EntryOk (List.getD x2 ((Int.toNat x4)) ((0, 0, ([] : List DSpan), (0, 0, 0, 0, ([] : List Int), ([] : List Int), ([] : List (List Int)), ()), ())))).bind fun r5 =>
    bif !r5 then
      some (.ret false)
    else
    chk (cutOk 0 x4 (List.length x1)) <|
    afterO (loopO F.impl_apart.s7 (x1, x2, x3, x4, List.take ((Int.toNat x4) - 0) (List.drop 0 x1), len (List.take ((Int.toNat x4) - 0) (List.drop 0 x1)), 0, List.getD x2 ((Int.toNat x4)) ((0, 0, ([] : List DSpan), (0, 0, 0, 0, ([] : List Int), ([] : List Int), ([] : List (List Int)), ()), ())), ())) fun (x15, x16, x17, x18, x19, x20, x21, x22, _) =>
    some (.again (x15, x16, x17, w64 (x18 + 1), ()))
  else
    some (.exit (x1, x2, x3, x4, ()))
noncomputable def F.impl_apart (a0 : List DEntry) : Option Bool :=
  afterO (loopO F.impl_apart.s2 (a0, a0, len a0, 0, ())) fun (x23, x24, x25, x26, _) =>
  some true
noncomputable def C.impl_apart : Con := ⟨[.r (.val (.sl false 32 y5))], .one .bool, fun x => F.impl_apart x.1⟩
def L.impl_apart : Loops := lookL [(7, ⟨[.pat 0 (.val (.sl false 32 y5)), .pat 7 (.val (.sl false 32 y5)), .pat 8 (.val (.int .i64)), .pat 9 (.val (.int .i64)), .pat 19 (.val (.sl false 32 y5)), .pat 20 (.val (.int .i64)), .pat 21 (.val (.int .i64)), .root 4 true y5 [4]], 2⟩), (2, ⟨[.pat 0 (.val (.sl false 32 y5)), .pat 7 (.val (.sl false 32 y5)), .pat 8 (.val (.int .i64)), .pat 9 (.val (.int .i64))], 0⟩)]
noncomputable def K.impl_apart : Cons := lookK [(282, [], C.impl_EntryOk), (283, [], C.impl_SetApart)]
theorem run.impl_apart : ∀ x, runF tb K.impl_apart L.impl_apart [] Try.f234 C.impl_apart x = C.impl_apart.fn x := fun x => by kernel_rfl

/-! ### impl.RowOk: function 96 -/
noncomputable def F.impl_RowOk (a0 : DRow) : Option Bool :=
  bif decide ((len a0.1) ≤ 24) then
    (F.impl_apart a0.1).bind fun r1 =>
    some r1
  else
    some false
noncomputable def C.impl_RowOk : Con := ⟨[.r (.val (.cons (.sl false 32 y5) .nil))], .one .bool, fun x => F.impl_RowOk x.1⟩
def L.impl_RowOk : Loops := fun _ => none
noncomputable def K.impl_RowOk : Cons := lookK [(234, [], C.impl_apart)]
theorem run.impl_RowOk : ∀ x, runF tb K.impl_RowOk L.impl_RowOk [] Try.f96 C.impl_RowOk x = C.impl_RowOk.fn x := fun x => by kernel_rfl

/-! ### impl.idsOf: function 217 -/
noncomputable def F.impl_idsOf.s3 : ((List DSpan) × (List DEntry) × Int × Int × Unit) → Option (Lp ((List DSpan) × (List DEntry) × Int × Int × Unit) ((List DSpan))) := fun (x1, x2, x3, x4, _) =>
  bif decide (x4 < x3) then
    chk (inb x4 (List.length x2)) <|
    chk (fits (List.length x1 + List.length ((((List.getD x2 ((Int.toNat x4)) ((0, 0, ([] : List DSpan), (0, 0, 0, 0, ([] : List Int), ([] : List Int), ([] : List (List Int)), ()), ()))).2).2).1)) 16) <|
    some (.again (x1 ++ ((((List.getD x2 ((Int.toNat x4)) ((0, 0, ([] : List DSpan), (0, 0, 0, 0, ([] : List Int), ([] : List Int), ([] : List (List Int)), ()), ()))).2).2).1), x2, x3, w64 (x4 + 1), ()))
  else
    some (.exit (x1, x2, x3, x4, ()))
noncomputable def F.impl_idsOf (a0 : List DEntry) : Option ((List DSpan)) :=
  afterO (loopO F.impl_idsOf.s3 (([] : List DSpan), a0, len a0, 0, ())) fun (x5, x6, x7, x8, _) =>
  (F.impl_union x5).bind fun r9 =>
  some r9
noncomputable def C.impl_idsOf : Con := ⟨[.r (.val (.sl false 32 y5))], .one (.sl true 175 y0), fun x => F.impl_idsOf x.1⟩
def L.impl_idsOf : Loops := lookL [(3, ⟨[.own 3 (.sl true 175 y0), .pat 6 (.val (.sl false 32 y5)), .pat 7 (.val (.int .i64)), .pat 8 (.val (.int .i64))], 0⟩)]
noncomputable def K.impl_idsOf : Cons := lookK [(258, [], C.impl_union)]
theorem run.impl_idsOf : ∀ x, runF tb K.impl_idsOf L.impl_idsOf [] Try.f217 C.impl_idsOf x = C.impl_idsOf.fn x := fun x => by kernel_rfl

/-! ### impl.RowIds: function 81 -/
noncomputable def F.impl_RowIds (a0 : DRow) : Option ((List DSpan)) :=
  (F.impl_RowOk a0).bind fun r1 =>
  bif !r1 then
    some ([] : List DSpan)
  else
  (F.impl_idsOf a0.1).bind fun r2 =>
  some r2
noncomputable def C.impl_RowIds : Con := ⟨[.r (.val (.cons (.sl false 32 y5) .nil))], .one (.sl true 175 y0), fun x => F.impl_RowIds x.1⟩
def L.impl_RowIds : Loops := fun _ => none
noncomputable def K.impl_RowIds : Cons := lookK [(96, [], C.impl_RowOk), (217, [], C.impl_idsOf)]
theorem run.impl_RowIds : ∀ x, runF tb K.impl_RowIds L.impl_RowIds [] Try.f81 C.impl_RowIds x = C.impl_RowIds.fn x := fun x => by kernel_rfl

/-! ### laws.markRow: function 20 -/
noncomputable def F.laws_markRow (a0 : DRow) (a1 : Int) : Option (Int × DRow) :=
  (F.laws_markEntryS a0.1 a1).bind fun r1 =>
  some (r1.1, (r1.2, a0.2))
noncomputable def C.laws_markRow : Con := ⟨[.c (.cons (.sl true 32 y4) .nil), .r (.val (.int .i64))], .one (.int .i64), fun x => F.laws_markRow x.1 x.2.1⟩
def L.laws_markRow : Loops := fun _ => none
noncomputable def K.laws_markRow : Cons := lookK [(98, [], C.laws_markEntryS)]
theorem run.laws_markRow : ∀ x, runF tb K.laws_markRow L.laws_markRow [2] Try.f20 C.laws_markRow x = C.laws_markRow.fn x := fun x => by kernel_rfl

/-! ### laws.FnExactRowIds: function 12 -/
noncomputable def F.laws_FnExactRowIds (a0 : DRow) : Option Bool :=
  (F.laws_szRow a0 1048576).bind fun r1 =>
  bif decide (r1 < 0) then
    some true
  else
  (F.laws_toRow a0).bind fun r2 =>
  (F.spec_RowIds r2).bind fun r3 =>
  (F.laws_toRow a0).bind fun r4 =>
  (F.impl_RowIds r4).bind fun r5 =>
  (F.laws_eqSpanS r5 r3).bind fun r6 =>
  bif !r6 then
    some false
  else
  (F.laws_toRow a0).bind fun r7 =>
  (F.laws_eqRow r4 r7).bind fun r8 =>
  bif !r8 then
    some false
  else
  (F.laws_markRow r4 1).bind fun r9 =>
  bif decide (r9.1 < 0) then
    some false
  else
  (F.laws_eqSpanS r5 r3).bind fun r10 =>
  bif !r10 then
    some false
  else
  (F.laws_markSpanS r5 1).bind fun r11 =>
  (F.laws_heldSpanS r11.2 1).bind fun r12 =>
  bif decide (r12 < 0) then
    some false
  else
  bif r12 != r11.1 then
    some false
  else
  (F.laws_toRow a0).bind fun r13 =>
  (F.impl_RowIds r13).bind fun r14 =>
  (F.laws_eqSpanS r14 r3).bind fun r15 =>
  bif !r15 then
    some false
  else
  (F.laws_heldSpanS r11.2 1).bind fun r16 =>
  bif decide (r16 < 0) then
    some false
  else
  bif r16 != r11.1 then
    some false
  else
    some true
noncomputable def C.laws_FnExactRowIds : Con := ⟨[.r (.val (.cons (.sl false 240 y2) .nil))], .one .bool, fun x => F.laws_FnExactRowIds x.1⟩
def L.laws_FnExactRowIds : Loops := fun _ => none
noncomputable def K.laws_FnExactRowIds : Cons := lookK [(14, [], C.laws_szRow), (16, [], C.laws_toRow), (19, [], C.laws_eqRow), (20, [], C.laws_markRow), (80, [], C.spec_RowIds), (81, [], C.impl_RowIds), (82, [], C.laws_eqSpanS), (83, [], C.laws_markSpanS), (84, [], C.laws_heldSpanS)]
theorem run.laws_FnExactRowIds : ∀ x, runF tb K.laws_FnExactRowIds L.laws_FnExactRowIds [] Try.f12 C.laws_FnExactRowIds x = C.laws_FnExactRowIds.fn x := fun x => by kernel_rfl

/-! ### spec.AgentNew: function 292 -/
noncomputable def F.spec_AgentNew (a0 : Int) : Option (DAgent × Bool) :=
  (F.spec_AgentOk ((a0, 0, false, 0, ([] : List DItem), ([] : List DSpan), 0, ()))).bind fun r1 =>
  bif !r1 then
    some ((0, 0, false, 0, ([] : List DItem), ([] : List DSpan), 0, ()), false)
  else
    some ((a0, 0, false, 0, ([] : List DItem), ([] : List DSpan), 0, ()), true)
noncomputable def C.spec_AgentNew : Con := ⟨[.r (.val (.int .i64))], .many [y9, .bool], fun x => F.spec_AgentNew x.1⟩
def L.spec_AgentNew : Loops := fun _ => none
noncomputable def K.spec_AgentNew : Cons := lookK [(105, [], C.spec_AgentOk)]
theorem run.spec_AgentNew : ∀ x, runF tb K.spec_AgentNew L.spec_AgentNew [] Try.f292 C.spec_AgentNew x = C.spec_AgentNew.fn x := fun x => by kernel_rfl

/-! ### spec.l8Right: function 279 -/
noncomputable def F.spec_l8Right.s4 : (Int × Int × DL1Cur × DAgent × DAgent × Unit) → Option (Lp (Int × Int × DL1Cur × DAgent × DAgent × Unit) (DAgent × DL1Cur)) := fun (x4, x5, x6, x7, x8, _) =>
  bif decide (x5 < x4) then
    (F.spec_l6Right x6).bind fun r9 =>
    (F.spec_Seal x8 r9.1.2.1 r9.1.2.2.1 r9.1.2.2.2.1 r9.1.2.2.2.2.1).bind fun r10 =>
    some (.again (x4, w64 (x5 + 1), r9.2, x7, r10.1, ()))
  else
    some (.exit (x4, x5, x6, x7, x8, ()))
noncomputable def F.spec_l8Right.s14 : (Int × Int × Int × DL1Cur × DAgent × DAgent × Unit) → Option (Lp (Int × Int × Int × DL1Cur × DAgent × DAgent × Unit) (DAgent × DL1Cur)) := fun (x20, x21, x22, x23, x24, x25, _) =>
  bif decide (x22 < x21) then
    bif decide (x20 > 0) then
      (F.spec_l1Below x23 x20).bind fun r26 =>
      (F.spec_l8One (w64 (1 + r26.1))).bind fun r27 =>
      (F.spec_l5Put x25.2.2.2.2.2.1 r27).bind fun r28 =>
      some (.again (x20, x21, w64 (x22 + 1), r26.2, x24, (x25.1, x25.2.1, x25.2.2.1, x25.2.2.2.1, x25.2.2.2.2.1, r28, x25.2.2.2.2.2.2), ()))
    else
      some (.exit (x20, x21, x22, x23, x24, x25, ()))
  else
    some (.exit (x20, x21, x22, x23, x24, x25, ()))
noncomputable def F.spec_l8Right (a0 : DL1Cur) : Option (DAgent × DL1Cur) :=
  (F.spec_l1Below a0 3).bind fun r1 =>
  (F.spec_AgentNew r1.1).bind fun r2 =>
  (F.spec_l1Below r1.2 7).bind fun r3 =>
  afterO (loopO F.spec_l8Right.s4 (r3.1, 0, r3.2, (0, 0, false, 0, ([] : List DItem), ([] : List DSpan), 0, ()), r2.1, ())) fun (x11, x12, x13, x14, x15, _) =>
  (F.spec_l1Below x13 3).bind fun r16 =>
  (F.spec_l1Once r16.2 4).bind fun r17 =>
  bif !r17.1 then
    (F.spec_l1Below r17.2 9).bind fun r18 =>
    (F.spec_l1Below r18.2 3).bind fun r19 =>
    afterO (loopO F.spec_l8Right.s14 (x11, r19.1, 0, r19.2, x14, (x15.1, r16.1, true, r18.1, x15.2.2.2.2), ())) fun (x29, x30, x31, x32, x33, x34, _) =>
    (F.spec_l1Below x32 8).bind fun r35 =>
    some ((x34.1, x34.2.1, x34.2.2.1, x34.2.2.2.1, x34.2.2.2.2.1, x34.2.2.2.2.2.1, r35.1, x34.2.2.2.2.2.2.2), r35.2)
  else
  (F.spec_l1Below r17.2 3).bind fun r36 =>
  afterO (loopO F.spec_l8Right.s14 (x11, r36.1, 0, r36.2, x14, (x15.1, r16.1, x15.2.2), ())) fun (x46, x47, x48, x49, x50, x51, _) =>
  (F.spec_l1Below x49 8).bind fun r52 =>
  some ((x51.1, x51.2.1, x51.2.2.1, x51.2.2.2.1, x51.2.2.2.2.1, x51.2.2.2.2.2.1, r52.1, x51.2.2.2.2.2.2.2), r52.2)
noncomputable def C.spec_l8Right : Con := ⟨[.p y27 y27], .one y10, fun x => F.spec_l8Right x.1⟩
def L.spec_l8Right : Loops := lookL [(4, ⟨[.pat 5 (.val (.int .i64)), .pat 6 (.val (.int .i64)), .root 0 true y27 [0], .root 2 true y9 [2], .root 3 true y10 [3]], 0⟩), (14, ⟨[.pat 5 (.val (.int .i64)), .pat 8 (.val (.int .i64)), .pat 9 (.val (.int .i64)), .root 0 true y27 [0], .root 2 true y9 [2], .root 3 true y10 [3]], 2⟩)]
noncomputable def K.spec_l8Right : Cons := lookK [(26, [], C.spec_Seal), (138, [], C.spec_l5Put), (139, [], C.spec_l8One), (190, [], C.spec_l1Once), (196, [], C.spec_l1Below), (280, [], C.spec_l6Right), (292, [], C.spec_AgentNew)]
theorem run.spec_l8Right : ∀ x, runF tb K.spec_l8Right L.spec_l8Right [0] Try.f279 C.spec_l8Right x = C.spec_l8Right.fn x := fun x => by kernel_rfl
end Go.Proofs.Ytadaiilmjchnmaa.Vm
