import Derived.Test.YtcebhnphcgigfaaV1
import Derived.Test.YtcebhnphcgigfaaProg
import Derived.KernelRfl
namespace Go.Proofs.Ytcebhnphcgigfaa.Vm
open Go Go.RowKit
set_option maxRecDepth 100000
set_option linter.unusedVariables false
def lookL (l : List (Nat × Loop)) : Loops := fun n => lookN l n
def eqNs : List Nat → List Nat → Bool
  | [], [] => true
  | a :: l, b :: m => Nat.beq a b && eqNs l m
  | _, _ => false
def lookK : List (FuncId × List Nat × Con) → Cons
  | [], _, _ => none
  | (f, ks, c) :: l, g, xs => bif Nat.beq f g && eqNs ks xs then some c else lookK l g xs
abbrev DSpan : Type := Int × Int × Unit
abbrev DSeat : Type := Int × Int × (List DSpan) × Int × Int × Unit
abbrev DL1Cur : Type := (List Int) × Int × Int × Unit
abbrev DSketch : Type := Int × Int × Int × Int × (List Int) × (List Int) × (List (List Int)) × Unit
abbrev DItem : Type := Int × Int × Int × Int × DSketch × Unit
abbrev DFrame : Type := Int × Int × Int × Int × (List DSpan) × DItem × Unit
abbrev DEntry : Type := Int × Int × (List DSpan) × DSketch × Unit
abbrev DRow : Type := (List DEntry) × Unit
abbrev DAgent : Type := Int × Int × Bool × Int × (List DItem) × (List DSpan) × Int × Unit
abbrev y0 : Ty := .cons (.int .i64) (.cons (.int .i64) .nil)
abbrev y1 : Ty := .cons (.int .i64) (.cons (.int .i64) (.cons (.sl false 148 y0) (.cons (.int .i64) (.cons (.int .i64) .nil))))
abbrev y2 : Ty := .cons (.int .i64) (.cons (.int .i64) (.cons (.sl true 106 y0) (.cons (.int .i64) (.cons (.int .i64) .nil))))
abbrev y3 : Ty := .cons (.int .i64) (.cons (.int .i64) (.cons (.sl false 106 y0) (.cons (.int .i64) (.cons (.int .i64) .nil))))
abbrev y4 : Ty := .cons (.sl false 5 (.int .u8)) (.cons (.int .i64) (.cons (.int .i64) .nil))
abbrev y5 : Ty := .cons (.int .i64) (.cons (.int .i64) (.cons (.int .i64) (.cons (.int .i64) (.cons (.sl false 3 (.int .i64)) (.cons (.sl false 3 (.int .i64)) (.cons (.sl false 43 (.sl false 3 (.int .i64))) .nil))))))
abbrev y6 : Ty := .cons (.int .i64) (.cons (.int .i64) (.cons (.int .i64) (.cons (.int .i64) (.cons y5 .nil))))
abbrev y7 : Ty := .cons (.int .i64) (.cons (.int .i64) (.cons (.int .i64) (.cons (.int .i64) (.cons (.sl false 148 y0) (.cons y6 .nil)))))
abbrev y8 : Ty := .cons (.int .i64) (.cons (.int .i64) (.cons (.int .i64) (.cons (.int .i64) (.cons (.sl true 3 (.int .i64)) (.cons (.sl true 3 (.int .i64)) (.cons (.sl true 43 (.sl true 3 (.int .i64))) .nil))))))
abbrev y9 : Ty := .cons (.int .i64) (.cons (.int .i64) (.cons (.int .i64) (.cons (.int .i64) (.cons y8 .nil))))
abbrev y10 : Ty := .cons (.int .i64) (.cons (.int .i64) (.cons (.int .i64) (.cons (.int .i64) (.cons (.sl true 106 y0) (.cons y9 .nil)))))
abbrev y11 : Ty := .cons (.int .i64) (.cons (.int .i64) (.cons (.int .i64) (.cons (.int .i64) (.cons (.sl false 106 y0) (.cons y6 .nil)))))
abbrev y12 : Ty := .cons (.int .i64) (.cons (.int .i64) (.cons (.sl false 148 y0) (.cons y5 .nil)))
abbrev y13 : Ty := .cons (.int .i64) (.cons (.int .i64) (.cons (.sl true 106 y0) (.cons y8 .nil)))
abbrev y14 : Ty := .cons (.int .i64) (.cons (.int .i64) (.cons (.sl false 106 y0) (.cons y5 .nil)))
abbrev y15 : Ty := .cons (.int .i64) (.cons (.int .i64) (.cons .bool (.cons (.int .i64) (.cons (.sl false 48 y6) (.cons (.sl false 148 y0) (.cons (.int .i64) .nil))))))
abbrev y16 : Ty := .cons (.int .i64) (.cons (.int .i64) (.cons .bool (.cons (.int .i64) (.cons (.sl true 55 y9) (.cons (.sl true 106 y0) (.cons (.int .i64) .nil))))))
abbrev y17 : Ty := .cons (.int .i64) (.cons (.int .i64) (.cons .bool (.cons (.int .i64) (.cons (.sl false 55 y6) (.cons (.sl false 106 y0) (.cons (.int .i64) .nil))))))
abbrev y18 : Ty := .cons (.sl false 5 (.int .u8)) (.cons (.int .i64) (.cons .bool .nil))
def tb : List (TypeId × TRow) := [
  (2, ⟨(.int .i64), 8, []⟩),
  (3, ⟨(.int .i64), 8, []⟩),
  (4, ⟨.bool, 1, []⟩),
  (5, ⟨(.int .u8), 1, []⟩),
  (6, ⟨(.int .u8), 1, []⟩),
  (9, ⟨.str, 16, []⟩),
  (10, ⟨.str, 16, []⟩),
  (11, ⟨.str, 16, []⟩),
  (12, ⟨(.int .u64), 8, []⟩),
  (21, ⟨(.int .i32), 4, []⟩),
  (22, ⟨(.sl false 148 y0), 24, []⟩),
  (23, ⟨y1, 56, [3, 3, 22, 3, 3]⟩),
  (24, ⟨y1, 56, [3, 3, 22, 3, 3]⟩),
  (26, ⟨(.sl false 106 y0), 24, []⟩),
  (27, ⟨y3, 56, [3, 3, 26, 3, 3]⟩),
  (28, ⟨y3, 56, [3, 3, 26, 3, 3]⟩),
  (37, ⟨(.sl false 5 (.int .u8)), 24, []⟩),
  (43, ⟨(.sl false 3 (.int .i64)), 24, []⟩),
  (44, ⟨(.sl false 43 (.sl false 3 (.int .i64))), 24, []⟩),
  (45, ⟨y5, 104, [3, 3, 3, 3, 43, 43, 44]⟩),
  (46, ⟨y5, 104, [3, 3, 3, 3, 43, 43, 44]⟩),
  (47, ⟨y6, 136, [3, 3, 3, 3, 46]⟩),
  (48, ⟨y6, 136, [3, 3, 3, 3, 46]⟩),
  (49, ⟨y7, 192, [3, 3, 3, 3, 22, 48]⟩),
  (50, ⟨y7, 192, [3, 3, 3, 3, 22, 48]⟩),
  (53, ⟨y5, 104, [3, 3, 3, 3, 43, 43, 44]⟩),
  (54, ⟨y6, 136, [3, 3, 3, 3, 53]⟩),
  (55, ⟨y6, 136, [3, 3, 3, 3, 53]⟩),
  (56, ⟨y11, 192, [3, 3, 3, 3, 26, 55]⟩),
  (57, ⟨y11, 192, [3, 3, 3, 3, 26, 55]⟩),
  (60, ⟨(.sl false 160 y12), 24, []⟩),
  (61, ⟨(.cons (.sl false 160 y12) .nil), 24, [60]⟩),
  (62, ⟨(.cons (.sl false 160 y12) .nil), 24, [60]⟩),
  (65, ⟨(.sl false 122 y14), 24, []⟩),
  (66, ⟨(.cons (.sl false 122 y14) .nil), 24, [65]⟩),
  (67, ⟨(.cons (.sl false 122 y14) .nil), 24, [65]⟩),
  (74, ⟨(.sl false 48 y6), 24, []⟩),
  (75, ⟨y15, 88, [3, 3, 4, 3, 74, 22, 3]⟩),
  (76, ⟨y15, 88, [3, 3, 4, 3, 74, 22, 3]⟩),
  (79, ⟨(.sl false 55 y6), 24, []⟩),
  (80, ⟨y17, 88, [3, 3, 4, 3, 79, 26, 3]⟩),
  (81, ⟨y17, 88, [3, 3, 4, 3, 79, 26, 3]⟩),
  (105, ⟨y0, 16, [3, 3]⟩),
  (106, ⟨y0, 16, [3, 3]⟩),
  (121, ⟨y14, 144, [3, 3, 26, 53]⟩),
  (122, ⟨y14, 144, [3, 3, 26, 53]⟩),
  (137, ⟨(.int .u64), 8, []⟩),
  (139, ⟨y18, 40, [37, 3, 4]⟩),
  (140, ⟨y18, 40, [37, 3, 4]⟩),
  (148, ⟨y0, 16, [3, 3]⟩),
  (150, ⟨y4, 40, [37, 3, 3]⟩),
  (151, ⟨y4, 40, [37, 3, 3]⟩),
  (159, ⟨y12, 144, [3, 3, 22, 46]⟩),
  (160, ⟨y12, 144, [3, 3, 22, 46]⟩),
  (200, ⟨(.int .u32), 4, []⟩),
  (201, ⟨(.int .u8), 1, []⟩),
  (202, ⟨(.int .u8), 1, []⟩),
  (205, ⟨(.int .i32), 4, []⟩),
  (206, ⟨(.int .i32), 4, []⟩)]

/-! ### laws.szSpanS: function 66 -/
noncomputable def F.laws_szSpanS (a0 : List DSpan) (a1 : Int) : Option Int :=
  bif decide ((w64 (a1 - (len a0))) < 0) then
    some (-1)
  else
    some (w64 (a1 - (len a0)))
noncomputable def C.laws_szSpanS : Con := ⟨[.r (.val (.sl false 148 y0)), .r (.val (.int .i64))], .one (.int .i64), fun x => F.laws_szSpanS x.1 x.2.1⟩
def L.laws_szSpanS : Loops := fun _ => none
noncomputable def K.laws_szSpanS : Cons := lookK []
theorem run.laws_szSpanS : ∀ x, runF tb K.laws_szSpanS L.laws_szSpanS [] Try.f66 C.laws_szSpanS x = C.laws_szSpanS.fn x := fun x => by kernel_rfl

/-! ### laws.szSeat: function 15 -/
noncomputable def F.laws_szSeat (a0 : DSeat) (a1 : Int) : Option Int :=
  (F.laws_szSpanS a0.2.2.1 a1).bind fun r1 =>
  bif decide (r1 < 0) then
    some (-1)
  else
    some r1
noncomputable def C.laws_szSeat : Con := ⟨[.r (.val y1), .r (.val (.int .i64))], .one (.int .i64), fun x => F.laws_szSeat x.1 x.2.1⟩
def L.laws_szSeat : Loops := fun _ => none
noncomputable def K.laws_szSeat : Cons := lookK [(66, [], C.laws_szSpanS)]
theorem run.laws_szSeat : ∀ x, runF tb K.laws_szSeat L.laws_szSeat [] Try.f15 C.laws_szSeat x = C.laws_szSeat.fn x := fun x => by kernel_rfl

/-! ### laws.toSpan: function 125 -/
noncomputable def F.laws_toSpan (a0 : DSpan) : Option DSpan :=
  some (a0.1, a0.2.1, ())
noncomputable def C.laws_toSpan : Con := ⟨[.r (.val y0)], .one y0, fun x => F.laws_toSpan x.1⟩
def L.laws_toSpan : Loops := fun _ => none
noncomputable def K.laws_toSpan : Cons := lookK []
theorem run.laws_toSpan : ∀ x, runF tb K.laws_toSpan L.laws_toSpan [] Try.f125 C.laws_toSpan x = C.laws_toSpan.fn x := fun x => by kernel_rfl

/-! ### laws.toSpanS: function 70 -/
noncomputable def F.laws_toSpanS.s3 : ((List DSpan) × (List DSpan) × Int × Unit) → Option (Lp ((List DSpan) × (List DSpan) × Int × Unit) ((List DSpan))) := fun (x1, x2, x3, _) =>
  bif decide (x3 < (len x1)) then
    chk (inb x3 (List.length x1)) <|
    (F.laws_toSpan (List.getD x1 ((Int.toNat x3)) ((0, 0, ())))).bind fun r4 =>
    chk (inb x3 (List.length x2)) <|
    some (.again (x1, List.set x2 ((Int.toNat x3)) r4, w64 (x3 + 1), ()))
  else
    some (.exit (x1, x2, x3, ()))
noncomputable def F.laws_toSpanS (a0 : List DSpan) : Option ((List DSpan)) :=
  chk (mk 16 (len a0) (len a0)) <|
  afterO (loopO F.laws_toSpanS.s3 (a0, List.replicate (Int.toNat (len a0)) ((0, 0, ())), 0, ())) fun (x5, x6, x7, _) =>
  some x6
noncomputable def C.laws_toSpanS : Con := ⟨[.r (.val (.sl false 148 y0))], .one (.sl true 106 y0), fun x => F.laws_toSpanS x.1⟩
def L.laws_toSpanS : Loops := lookL [(3, ⟨[.pat 0 (.val (.sl false 148 y0)), .own 3 (.sl true 106 y0), .pat 4 (.val (.int .i64))], 0⟩)]
noncomputable def K.laws_toSpanS : Cons := lookK [(125, [], C.laws_toSpan)]
theorem run.laws_toSpanS : ∀ x, runF tb K.laws_toSpanS L.laws_toSpanS [] Try.f70 C.laws_toSpanS x = C.laws_toSpanS.fn x := fun x => by kernel_rfl

/-! ### laws.toSeat: function 17 -/
noncomputable def F.laws_toSeat (a0 : DSeat) : Option DSeat :=
  (F.laws_toSpanS a0.2.2.1).bind fun r1 =>
  some (a0.1, a0.2.1, r1, a0.2.2.2.1, a0.2.2.2.2.1, ())
noncomputable def C.laws_toSeat : Con := ⟨[.r (.val y1)], .one y2, fun x => F.laws_toSeat x.1⟩
def L.laws_toSeat : Loops := fun _ => none
noncomputable def K.laws_toSeat : Cons := lookK [(70, [], C.laws_toSpanS)]
theorem run.laws_toSeat : ∀ x, runF tb K.laws_toSeat L.laws_toSeat [] Try.f17 C.laws_toSeat x = C.laws_toSeat.fn x := fun x => by kernel_rfl

/-! ### spec.l5Copy: function 123 -/
noncomputable def F.spec_l5Copy (a0 : List DSpan) : Option ((List DSpan)) :=
  chk (fits (List.length (([] : List DSpan)) + List.length a0) 16) <|
  some ((([] : List DSpan)) ++ a0)
noncomputable def C.spec_l5Copy : Con := ⟨[.r (.val (.sl false 106 y0))], .one (.sl true 106 y0), fun x => F.spec_l5Copy x.1⟩
def L.spec_l5Copy : Loops := fun _ => none
noncomputable def K.spec_l5Copy : Cons := lookK []
theorem run.spec_l5Copy : ∀ x, runF tb K.spec_l5Copy L.spec_l5Copy [] Try.f123 C.spec_l5Copy x = C.spec_l5Copy.fn x := fun x => by kernel_rfl

/-! ### spec.l9Copy: function 67 -/
noncomputable def F.spec_l9Copy (a0 : DSeat) : Option DSeat :=
  (F.spec_l5Copy a0.2.2.1).bind fun r1 =>
  some (a0.1, a0.2.1, r1, a0.2.2.2)
noncomputable def C.spec_l9Copy : Con := ⟨[.r (.val y3)], .one y2, fun x => F.spec_l9Copy x.1⟩
def L.spec_l9Copy : Loops := fun _ => none
noncomputable def K.spec_l9Copy : Cons := lookK [(123, [], C.spec_l5Copy)]
theorem run.spec_l9Copy : ∀ x, runF tb K.spec_l9Copy L.spec_l9Copy [] Try.f67 C.spec_l9Copy x = C.spec_l9Copy.fn x := fun x => by kernel_rfl

/-! ### spec.l1In: function 69 -/
noncomputable def F.spec_l1In (a0 : Int) (a1 : Int) (a2 : Int) : Option Bool :=
  bif decide (a0 ≥ a1) then
    some (decide (a0 ≤ a2))
  else
    some false
noncomputable def C.spec_l1In : Con := ⟨[.r (.val (.int .i64)), .r (.val (.int .i64)), .r (.val (.int .i64))], .one .bool, fun x => F.spec_l1In x.1 x.2.1 x.2.2.1⟩
def L.spec_l1In : Loops := fun _ => none
noncomputable def K.spec_l1In : Cons := lookK []
theorem run.spec_l1In : ∀ x, runF tb K.spec_l1In L.spec_l1In [] Try.f69 C.spec_l1In x = C.spec_l1In.fn x := fun x => by kernel_rfl

/-! ### spec.SetOk: function 96 -/
noncomputable def F.spec_SetOk.s2 : ((List DSpan) × Int × Unit) → Option (Lp ((List DSpan) × Int × Unit) Bool) := fun (x1, x2, _) =>
  bif decide (x2 < (len x1)) then
    chk (inb x2 (List.length x1)) <|
    (F.spec_l1In ((List.getD x1 ((Int.toNat x2)) ((0, 0, ()))).1) 0 9999).bind fun r3 =>
    bif !r3 then
      some (.ret false)
    else
    chk (inb x2 (List.length x1)) <|
    chk (inb x2 (List.length x1)) <|
    (F.spec_l1In (((List.getD x1 ((Int.toNat x2)) ((0, 0, ()))).2).1) ((List.getD x1 ((Int.toNat x2)) ((0, 0, ()))).1) 9999).bind fun r4 =>
    bif !r4 then
      some (.ret false)
    else
    bif decide (x2 > 0) then
      chk (inb x2 (List.length x1)) <|
      chk (inb (w64 (x2 - 1)) (List.length x1)) <|
      bif decide (((List.getD x1 ((Int.toNat x2)) ((0, 0, ()))).1) ≤ (w64 ((((List.getD x1 ((Int.toNat (w64 (x2 - 1)))) ((0, 0, ()))).2).1) + 1))) then
        some (.ret false)
      else
        some (.again (x1, w64 (x2 + 1), ()))
    else
      some (.again (x1, w64 (x2 + 1), ()))
  else
    some (.exit (x1, x2, ()))
noncomputable def F.spec_SetOk (a0 : List DSpan) : Option Bool :=
  afterO (loopO F.spec_SetOk.s2 (a0, 0, ())) fun (x5, x6, _) =>
  some true
noncomputable def C.spec_SetOk : Con := ⟨[.r (.val (.sl false 106 y0))], .one .bool, fun x => F.spec_SetOk x.1⟩
def L.spec_SetOk : Loops := lookL [(2, ⟨[.pat 0 (.val (.sl false 106 y0)), .pat 3 (.val (.int .i64))], 0⟩)]
noncomputable def K.spec_SetOk : Cons := lookK [(69, [], C.spec_l1In)]
theorem run.spec_SetOk : ∀ x, runF tb K.spec_SetOk L.spec_SetOk [] Try.f96 C.spec_SetOk x = C.spec_SetOk.fn x := fun x => by kernel_rfl

/-! ### spec.l8Below: function 104 -/
noncomputable def F.spec_l8Below.s4 : ((List DSpan) × Int × Int × Unit) → Option (Lp ((List DSpan) × Int × Int × Unit) Bool) := fun (x2, x3, x4, _) =>
  bif decide (x4 < (len x2)) then
    chk (inb x4 (List.length x2)) <|
    bif decide (((List.getD x2 ((Int.toNat x4)) ((0, 0, ()))).1) < 1) then
      some (.ret false)
    else
    chk (inb x4 (List.length x2)) <|
    bif decide ((((List.getD x2 ((Int.toNat x4)) ((0, 0, ()))).2).1) > x3) then
      some (.ret false)
    else
      some (.again (x2, x3, w64 (x4 + 1), ()))
  else
    some (.exit (x2, x3, x4, ()))
noncomputable def F.spec_l8Below (a0 : List DSpan) (a1 : Int) : Option Bool :=
  (F.spec_SetOk a0).bind fun r1 =>
  bif !r1 then
    some false
  else
  afterO (loopO F.spec_l8Below.s4 (a0, a1, 0, ())) fun (x5, x6, x7, _) =>
  some true
noncomputable def C.spec_l8Below : Con := ⟨[.r (.val (.sl false 106 y0)), .r (.val (.int .i64))], .one .bool, fun x => F.spec_l8Below x.1 x.2.1⟩
def L.spec_l8Below : Loops := lookL [(4, ⟨[.pat 0 (.val (.sl false 106 y0)), .pat 1 (.val (.int .i64)), .pat 5 (.val (.int .i64))], 0⟩)]
noncomputable def K.spec_l8Below : Cons := lookK [(96, [], C.spec_SetOk)]
theorem run.spec_l8Below : ∀ x, runF tb K.spec_l8Below L.spec_l8Below [] Try.f104 C.spec_l8Below x = C.spec_l8Below.fn x := fun x => by kernel_rfl

/-! ### spec.SetSize: function 124 -/
noncomputable def F.spec_SetSize.s5 : ((List DSpan) × Int × Int × Unit) → Option (Lp ((List DSpan) × Int × Int × Unit) Int) := fun (x2, x3, x4, _) =>
  bif decide (x4 < (len x2)) then
    chk (inb x4 (List.length x2)) <|
    chk (inb x4 (List.length x2)) <|
    some (.again (x2, w64 ((w64 ((w64 (x3 + (((List.getD x2 ((Int.toNat x4)) ((0, 0, ()))).2).1))) - ((List.getD x2 ((Int.toNat x4)) ((0, 0, ()))).1))) + 1), w64 (x4 + 1), ()))
  else
    some (.exit (x2, x3, x4, ()))
noncomputable def F.spec_SetSize (a0 : List DSpan) : Option Int :=
  (F.spec_SetOk a0).bind fun r1 =>
  bif !r1 then
    some 0
  else
  afterO (loopO F.spec_SetSize.s5 (a0, 0, 0, ())) fun (x5, x6, x7, _) =>
  some x6
noncomputable def C.spec_SetSize : Con := ⟨[.r (.val (.sl false 106 y0))], .one (.int .i64), fun x => F.spec_SetSize x.1⟩
def L.spec_SetSize : Loops := lookL [(5, ⟨[.pat 0 (.val (.sl false 106 y0)), .pat 3 (.val (.int .i64)), .pat 4 (.val (.int .i64))], 0⟩)]
noncomputable def K.spec_SetSize : Cons := lookK [(96, [], C.spec_SetOk)]
theorem run.spec_SetSize : ∀ x, runF tb K.spec_SetSize L.spec_SetSize [] Try.f124 C.spec_SetSize x = C.spec_SetSize.fn x := fun x => by kernel_rfl

/-! ### spec.SeatOk: function 68 -/
noncomputable def F.spec_SeatOk (a0 : DSeat) (a1 : Int) : Option Bool :=
  (F.spec_l1In a1 1 8).bind fun r1 =>
  bif r1 then
    (F.spec_l1In a0.1 0 1000).bind fun r2 =>
    bif r2 then
      (F.spec_l1In a0.2.1 0 60).bind fun r3 =>
      bif r3 then
        (F.spec_l8Below a0.2.2.1 a0.2.1).bind fun r4 =>
        bif r4 then
          (F.spec_SetSize a0.2.2.1).bind fun r5 =>
          (F.spec_l1In a0.2.2.2.1 0 r5).bind fun r6 =>
          bif r6 then
            bif decide (a0.2.1 ≤ (w64 (a0.2.2.2.1 + a1))) then
              (F.spec_l1In a0.2.2.2.2.1 0 1000000).bind fun r7 =>
              some r7
            else
              some false
          else
            some false
        else
          some false
      else
        some false
    else
      some false
  else
    some false
noncomputable def C.spec_SeatOk : Con := ⟨[.r (.val y3), .r (.val (.int .i64))], .one .bool, fun x => F.spec_SeatOk x.1 x.2.1⟩
def L.spec_SeatOk : Loops := fun _ => none
noncomputable def K.spec_SeatOk : Cons := lookK [(69, [], C.spec_l1In), (104, [], C.spec_l8Below), (124, [], C.spec_SetSize)]
theorem run.spec_SeatOk : ∀ x, runF tb K.spec_SeatOk L.spec_SeatOk [] Try.f68 C.spec_SeatOk x = C.spec_SeatOk.fn x := fun x => by kernel_rfl

/-! ### spec.SeatMerge: function 16 -/
noncomputable def F.spec_SeatMerge (a0 : DSeat) (a1 : Int) (a2 : Int) : Option (DSeat × Bool) :=
  (F.spec_l9Copy a0).bind fun r1 =>
  (F.spec_SeatOk a0 a1).bind fun r2 =>
  bif !r2 then
    some (r1, false)
  else
  (F.spec_l1In a2 0 60).bind fun r3 =>
  bif !r3 then
    some (r1, false)
  else
  (F.spec_SeatOk ((r1.1, r1.2.1, r1.2.2.1, w64 (a0.2.2.2.1 + a2), r1.2.2.2.2)) a1).bind fun r4 =>
  bif !r4 then
    (F.spec_l9Copy a0).bind fun r5 =>
    some (r5, false)
  else
    some ((r1.1, r1.2.1, r1.2.2.1, w64 (a0.2.2.2.1 + a2), r1.2.2.2.2), true)
noncomputable def C.spec_SeatMerge : Con := ⟨[.r (.val y3), .r (.val (.int .i64)), .r (.val (.int .i64))], .many [y2, .bool], fun x => F.spec_SeatMerge x.1 x.2.1 x.2.2.1⟩
def L.spec_SeatMerge : Loops := fun _ => none
noncomputable def K.spec_SeatMerge : Cons := lookK [(67, [], C.spec_l9Copy), (68, [], C.spec_SeatOk), (69, [], C.spec_l1In)]
theorem run.spec_SeatMerge : ∀ x, runF tb K.spec_SeatMerge L.spec_SeatMerge [] Try.f16 C.spec_SeatMerge x = C.spec_SeatMerge.fn x := fun x => by kernel_rfl

/-! ### impl.copySet: function 126 -/
noncomputable def F.impl_copySet (a0 : List DSpan) : Option ((List DSpan)) :=
  chk (fits (List.length a0) 16) <|
  some a0
noncomputable def C.impl_copySet : Con := ⟨[.r (.val (.sl false 106 y0))], .one (.sl true 106 y0), fun x => F.impl_copySet x.1⟩
def L.impl_copySet : Loops := fun _ => none
noncomputable def K.impl_copySet : Cons := lookK []
theorem run.impl_copySet : ∀ x, runF tb K.impl_copySet L.impl_copySet [] Try.f126 C.impl_copySet x = C.impl_copySet.fn x := fun x => by kernel_rfl

/-! ### impl.copySeat: function 71 -/
noncomputable def F.impl_copySeat (a0 : DSeat) : Option DSeat :=
  (F.impl_copySet a0.2.2.1).bind fun r1 =>
  some (a0.1, a0.2.1, r1, a0.2.2.2)
noncomputable def C.impl_copySeat : Con := ⟨[.r (.val y3)], .one y2, fun x => F.impl_copySeat x.1⟩
def L.impl_copySeat : Loops := fun _ => none
noncomputable def K.impl_copySeat : Cons := lookK [(126, [], C.impl_copySet)]
theorem run.impl_copySeat : ∀ x, runF tb K.impl_copySeat L.impl_copySeat [] Try.f71 C.impl_copySeat x = C.impl_copySeat.fn x := fun x => by kernel_rfl

/-! ### impl.within: function 72 -/
noncomputable def F.impl_within (a0 : Int) (a1 : Int) (a2 : Int) : Option Bool :=
  bif decide (a0 ≥ a1) then
    some (decide (a0 ≤ a2))
  else
    some false
noncomputable def C.impl_within : Con := ⟨[.r (.val (.int .i64)), .r (.val (.int .i64)), .r (.val (.int .i64))], .one .bool, fun x => F.impl_within x.1 x.2.1 x.2.2.1⟩
def L.impl_within : Loops := fun _ => none
noncomputable def K.impl_within : Cons := lookK []
theorem run.impl_within : ∀ x, runF tb K.impl_within L.impl_within [] Try.f72 C.impl_within x = C.impl_within.fn x := fun x => by kernel_rfl

/-! ### impl.SetOk: function 81 -/
noncomputable def F.impl_SetOk.s2 : ((List DSpan) × (List DSpan) × Int × Int × Unit) → Option (Lp ((List DSpan) × (List DSpan) × Int × Int × Unit) Bool) := fun (x1, x2, x3, x4, _) =>
  bif decide (x4 < x3) then
    chk (inb x4 (List.length x2)) <|
    (F.impl_within ((List.getD x2 ((Int.toNat x4)) ((0, 0, ()))).1) 0 9999).bind fun r5 =>
    bif !r5 then
      some (.ret false)
    else
    (F.impl_within (((List.getD x2 ((Int.toNat x4)) ((0, 0, ()))).2).1) ((List.getD x2 ((Int.toNat x4)) ((0, 0, ()))).1) 9999).bind fun r6 =>
    bif !r6 then
      some (.ret false)
    else
    bif decide (x4 > 0) then
      chk (inb (w64 (x4 - 1)) (List.length x1)) <|
      bif decide (((List.getD x2 ((Int.toNat x4)) ((0, 0, ()))).1) ≤ (w64 ((((List.getD x1 ((Int.toNat (w64 (x4 - 1)))) ((0, 0, ()))).2).1) + 1))) then
        some (.ret false)
      else
        some (.again (x1, x2, x3, w64 (x4 + 1), ()))
    else
      some (.again (x1, x2, x3, w64 (x4 + 1), ()))
  else
    some (.exit (x1, x2, x3, x4, ()))
noncomputable def F.impl_SetOk (a0 : List DSpan) : Option Bool :=
  afterO (loopO F.impl_SetOk.s2 (a0, a0, len a0, 0, ())) fun (x7, x8, x9, x10, _) =>
  some true
noncomputable def C.impl_SetOk : Con := ⟨[.r (.val (.sl false 106 y0))], .one .bool, fun x => F.impl_SetOk x.1⟩
def L.impl_SetOk : Loops := lookL [(2, ⟨[.pat 0 (.val (.sl false 106 y0)), .pat 5 (.val (.sl false 106 y0)), .pat 6 (.val (.int .i64)), .pat 7 (.val (.int .i64))], 0⟩)]
noncomputable def K.impl_SetOk : Cons := lookK [(72, [], C.impl_within)]
theorem run.impl_SetOk : ∀ x, runF tb K.impl_SetOk L.impl_SetOk [] Try.f81 C.impl_SetOk x = C.impl_SetOk.fn x := fun x => by kernel_rfl

/-! ### impl.allIn: function 80 -/
noncomputable def F.impl_allIn (a0 : List DSpan) (a1 : Int) (a2 : Int) : Option Bool :=
  (F.impl_SetOk a0).bind fun r1 =>
  bif r1 then
    bif (len a0) == 0 then
      some true
    else
    chk (inb 0 (List.length a0)) <|
    bif decide (((List.getD a0 0 ((0, 0, ()))).1) ≥ a1) then
      chk (inb (w64 ((len a0) - 1)) (List.length a0)) <|
      some (decide ((((List.getD a0 ((Int.toNat (w64 ((len a0) - 1)))) ((0, 0, ()))).2).1) ≤ a2))
    else
      some false
  else
    some false
noncomputable def C.impl_allIn : Con := ⟨[.r (.val (.sl false 106 y0)), .r (.val (.int .i64)), .r (.val (.int .i64))], .one .bool, fun x => F.impl_allIn x.1 x.2.1 x.2.2.1⟩
def L.impl_allIn : Loops := fun _ => none
noncomputable def K.impl_allIn : Cons := lookK [(81, [], C.impl_SetOk)]
theorem run.impl_allIn : ∀ x, runF tb K.impl_allIn L.impl_allIn [] Try.f80 C.impl_allIn x = C.impl_allIn.fn x := fun x => by kernel_rfl

/-! ### impl.SetSize: function 28 -/
noncomputable def F.impl_SetSize.s5 : (Int × (List DSpan) × Int × Int × Unit) → Option (Lp (Int × (List DSpan) × Int × Int × Unit) Int) := fun (x2, x3, x4, x5, _) =>
  bif decide (x5 < x4) then
    chk (inb x5 (List.length x3)) <|
    some (.again (w64 (x2 + (w64 ((w64 ((((List.getD x3 ((Int.toNat x5)) ((0, 0, ()))).2).1) - ((List.getD x3 ((Int.toNat x5)) ((0, 0, ()))).1))) + 1))), x3, x4, w64 (x5 + 1), ()))
  else
    some (.exit (x2, x3, x4, x5, ()))
noncomputable def F.impl_SetSize (a0 : List DSpan) : Option Int :=
  (F.impl_SetOk a0).bind fun r1 =>
  bif !r1 then
    some 0
  else
  afterO (loopO F.impl_SetSize.s5 (0, a0, len a0, 0, ())) fun (x6, x7, x8, x9, _) =>
  some x6
noncomputable def C.impl_SetSize : Con := ⟨[.r (.val (.sl false 106 y0))], .one (.int .i64), fun x => F.impl_SetSize x.1⟩
def L.impl_SetSize : Loops := lookL [(5, ⟨[.pat 3 (.val (.int .i64)), .pat 9 (.val (.sl false 106 y0)), .pat 10 (.val (.int .i64)), .pat 11 (.val (.int .i64))], 0⟩)]
noncomputable def K.impl_SetSize : Cons := lookK [(81, [], C.impl_SetOk)]
theorem run.impl_SetSize : ∀ x, runF tb K.impl_SetSize L.impl_SetSize [] Try.f28 C.impl_SetSize x = C.impl_SetSize.fn x := fun x => by kernel_rfl

/-! ### impl.SeatOk: function 27 -/
noncomputable def F.impl_SeatOk (a0 : DSeat) (a1 : Int) : Option Bool :=
  (F.impl_within a1 1 8).bind fun r1 =>
  bif r1 then
    (F.impl_within a0.1 0 1000).bind fun r2 =>
    bif r2 then
      (F.impl_within a0.2.1 0 60).bind fun r3 =>
      bif r3 then
        (F.impl_allIn a0.2.2.1 1 a0.2.1).bind fun r4 =>
        bif r4 then
          (F.impl_SetSize a0.2.2.1).bind fun r5 =>
          (F.impl_within a0.2.2.2.1 0 r5).bind fun r6 =>
          bif r6 then
            bif decide (a0.2.1 ≤ (w64 (a0.2.2.2.1 + a1))) then
              (F.impl_within a0.2.2.2.2.1 0 1000000).bind fun r7 =>
              some r7
            else
              some false
          else
            some false
        else
          some false
      else
        some false
    else
      some false
  else
    some false
noncomputable def C.impl_SeatOk : Con := ⟨[.r (.val y3), .r (.val (.int .i64))], .one .bool, fun x => F.impl_SeatOk x.1 x.2.1⟩
def L.impl_SeatOk : Loops := fun _ => none
noncomputable def K.impl_SeatOk : Cons := lookK [(28, [], C.impl_SetSize), (72, [], C.impl_within), (80, [], C.impl_allIn)]
theorem run.impl_SeatOk : ∀ x, runF tb K.impl_SeatOk L.impl_SeatOk [] Try.f27 C.impl_SeatOk x = C.impl_SeatOk.fn x := fun x => by kernel_rfl

/-! ### impl.SeatMerge: function 18 -/
noncomputable def F.impl_SeatMerge (a0 : DSeat) (a1 : Int) (a2 : Int) : Option (DSeat × Bool) :=
  (F.impl_copySeat a0).bind fun r1 =>
  (F.impl_SeatOk a0 a1).bind fun r2 =>
  bif !r2 then
    some (r1, false)
  else
  (F.impl_within a2 0 60).bind fun r3 =>
  bif !r3 then
    some (r1, false)
  else
  (F.impl_SeatOk ((r1.1, r1.2.1, r1.2.2.1, w64 (r1.2.2.2.1 + a2), r1.2.2.2.2)) a1).bind fun r4 =>
  bif !r4 then
    (F.impl_copySeat a0).bind fun r5 =>
    some (r5, false)
  else
    some ((r1.1, r1.2.1, r1.2.2.1, w64 (r1.2.2.2.1 + a2), r1.2.2.2.2), true)
noncomputable def C.impl_SeatMerge : Con := ⟨[.r (.val y3), .r (.val (.int .i64)), .r (.val (.int .i64))], .many [y2, .bool], fun x => F.impl_SeatMerge x.1 x.2.1 x.2.2.1⟩
def L.impl_SeatMerge : Loops := fun _ => none
noncomputable def K.impl_SeatMerge : Cons := lookK [(27, [], C.impl_SeatOk), (71, [], C.impl_copySeat), (72, [], C.impl_within)]
theorem run.impl_SeatMerge : ∀ x, runF tb K.impl_SeatMerge L.impl_SeatMerge [] Try.f18 C.impl_SeatMerge x = C.impl_SeatMerge.fn x := fun x => by kernel_rfl

/-! ### laws.eqSpan: function 127 -/
noncomputable def F.laws_eqSpan (a0 : DSpan) (a1 : DSpan) : Option Bool :=
  bif a0.1 != a1.1 then
    some false
  else
  bif a0.2.1 != a1.2.1 then
    some false
  else
    some true
noncomputable def C.laws_eqSpan : Con := ⟨[.r (.val y0), .r (.val y0)], .one .bool, fun x => F.laws_eqSpan x.1 x.2.1⟩
def L.laws_eqSpan : Loops := fun _ => none
noncomputable def K.laws_eqSpan : Cons := lookK []
theorem run.laws_eqSpan : ∀ x, runF tb K.laws_eqSpan L.laws_eqSpan [] Try.f127 C.laws_eqSpan x = C.laws_eqSpan.fn x := fun x => by kernel_rfl

/-! ### laws.eqSpanS: function 73 -/
noncomputable def F.laws_eqSpanS.s4 : ((List DSpan) × (List DSpan) × Int × Unit) → Option (Lp ((List DSpan) × (List DSpan) × Int × Unit) Bool) := fun (x1, x2, x3, _) =>
  bif decide (x3 < (len x1)) then
    chk (inb x3 (List.length x1)) <|
    chk (inb x3 (List.length x2)) <|
    (F.laws_eqSpan (List.getD x1 ((Int.toNat x3)) ((0, 0, ()))) (List.getD x2 ((Int.toNat x3)) ((0, 0, ())))).bind fun r4 =>
    bif !r4 then
      some (.ret false)
    else
      some (.again (x1, x2, w64 (x3 + 1), ()))
  else
    some (.exit (x1, x2, x3, ()))
noncomputable def F.laws_eqSpanS (a0 : List DSpan) (a1 : List DSpan) : Option Bool :=
  bif (len a0) != (len a1) then
    some false
  else
  afterO (loopO F.laws_eqSpanS.s4 (a0, a1, 0, ())) fun (x5, x6, x7, _) =>
  some true
noncomputable def C.laws_eqSpanS : Con := ⟨[.r (.val (.sl false 106 y0)), .r (.val (.sl false 106 y0))], .one .bool, fun x => F.laws_eqSpanS x.1 x.2.1⟩
def L.laws_eqSpanS : Loops := lookL [(4, ⟨[.pat 0 (.val (.sl false 106 y0)), .pat 1 (.val (.sl false 106 y0)), .pat 5 (.val (.int .i64))], 0⟩)]
noncomputable def K.laws_eqSpanS : Cons := lookK [(127, [], C.laws_eqSpan)]
theorem run.laws_eqSpanS : ∀ x, runF tb K.laws_eqSpanS L.laws_eqSpanS [] Try.f73 C.laws_eqSpanS x = C.laws_eqSpanS.fn x := fun x => by kernel_rfl

/-! ### laws.eqSeat: function 19 -/
noncomputable def F.laws_eqSeat (a0 : DSeat) (a1 : DSeat) : Option Bool :=
  bif a0.1 != a1.1 then
    some false
  else
  bif a0.2.1 != a1.2.1 then
    some false
  else
  (F.laws_eqSpanS a0.2.2.1 a1.2.2.1).bind fun r1 =>
  bif !r1 then
    some false
  else
  bif a0.2.2.2.1 != a1.2.2.2.1 then
    some false
  else
  bif a0.2.2.2.2.1 != a1.2.2.2.2.1 then
    some false
  else
    some true
noncomputable def C.laws_eqSeat : Con := ⟨[.r (.val y3), .r (.val y3)], .one .bool, fun x => F.laws_eqSeat x.1 x.2.1⟩
def L.laws_eqSeat : Loops := fun _ => none
noncomputable def K.laws_eqSeat : Cons := lookK [(73, [], C.laws_eqSpanS)]
theorem run.laws_eqSeat : ∀ x, runF tb K.laws_eqSeat L.laws_eqSeat [] Try.f19 C.laws_eqSeat x = C.laws_eqSeat.fn x := fun x => by kernel_rfl

/-! ### laws.markSpanS: function 74 -/
noncomputable def F.laws_markSpanS.s2 : (Int × Int × (List DSpan) × Unit) → Option (Lp (Int × Int × (List DSpan) × Unit) (Int × (List DSpan))) := fun (x1, x2, x3, _) =>
  bif decide (x2 < (len x3)) then
    chk (inb x2 (List.length x3)) <|
    chk (inb x2 (List.length (List.set x3 ((Int.toNat x2)) ((x1, (List.getD x3 ((Int.toNat x2)) ((0, 0, ()))).2))))) <|
    (some (List.set (List.set x3 ((Int.toNat x2)) ((x1, (List.getD x3 ((Int.toNat x2)) ((0, 0, ()))).2))) ((Int.toNat x2)) (((List.getD (List.set x3 ((Int.toNat x2)) ((x1, (List.getD x3 ((Int.toNat x2)) ((0, 0, ()))).2))) ((Int.toNat x2)) ((0, 0, ()))).1, w64 (x1 + 1), ((List.getD (List.set x3 ((Int.toNat x2)) ((x1, (List.getD x3 ((Int.toNat x2)) ((0, 0, ()))).2))) ((Int.toNat x2)) ((0, 0, ()))).2).2)))).bind fun r4 =>
    some (.again (w64 ((w64 (x1 + 1)) + 1), w64 (x2 + 1), r4, ()))
  else
    some (.exit (x1, x2, x3, ()))
noncomputable def F.laws_markSpanS (a0 : List DSpan) (a1 : Int) : Option (Int × (List DSpan)) :=
  afterO (loopO F.laws_markSpanS.s2 (a1, 0, a0, ())) fun (x5, x6, x7, _) =>
  some (x5, x7)
noncomputable def C.laws_markSpanS : Con := ⟨[.c (.sl true 106 y0), .r (.val (.int .i64))], .one (.int .i64), fun x => F.laws_markSpanS x.1 x.2.1⟩
def L.laws_markSpanS : Loops := lookL [(2, ⟨[.pat 1 (.val (.int .i64)), .pat 5 (.val (.int .i64)), .root 0 false (.sl true 106 y0) [0]], 0⟩)]
noncomputable def K.laws_markSpanS : Cons := lookK []
theorem run.laws_markSpanS : ∀ x, runF tb K.laws_markSpanS L.laws_markSpanS [0] Try.f74 C.laws_markSpanS x = C.laws_markSpanS.fn x := fun x => by kernel_rfl

/-! ### laws.markSeat: function 20 -/
noncomputable def F.laws_markSeat (a0 : DSeat) (a1 : Int) : Option (Int × DSeat) :=
  (F.laws_markSpanS a0.2.2.1 a1).bind fun r1 =>
  some (r1.1, (a0.1, a0.2.1, r1.2, a0.2.2.2))
noncomputable def C.laws_markSeat : Con := ⟨[.c y2, .r (.val (.int .i64))], .one (.int .i64), fun x => F.laws_markSeat x.1 x.2.1⟩
def L.laws_markSeat : Loops := fun _ => none
noncomputable def K.laws_markSeat : Cons := lookK [(74, [], C.laws_markSpanS)]
theorem run.laws_markSeat : ∀ x, runF tb K.laws_markSeat L.laws_markSeat [2] Try.f20 C.laws_markSeat x = C.laws_markSeat.fn x := fun x => by kernel_rfl

/-! ### laws.heldSpanS: function 75 -/
noncomputable def F.laws_heldSpanS.s2 : ((List DSpan) × Int × Int × Unit) → Option (Lp ((List DSpan) × Int × Int × Unit) Int) := fun (x1, x2, x3, _) =>
  bif decide (x3 < (len x1)) then
    chk (inb x3 (List.length x1)) <|
    bif ((List.getD x1 ((Int.toNat x3)) ((0, 0, ()))).1) != x2 then
      some (.ret (-1))
    else
    chk (inb x3 (List.length x1)) <|
    bif (((List.getD x1 ((Int.toNat x3)) ((0, 0, ()))).2).1) != (w64 (x2 + 1)) then
      some (.ret (-1))
    else
      some (.again (x1, w64 ((w64 (x2 + 1)) + 1), w64 (x3 + 1), ()))
  else
    some (.exit (x1, x2, x3, ()))
noncomputable def F.laws_heldSpanS (a0 : List DSpan) (a1 : Int) : Option Int :=
  afterO (loopO F.laws_heldSpanS.s2 (a0, a1, 0, ())) fun (x4, x5, x6, _) =>
  some x5
noncomputable def C.laws_heldSpanS : Con := ⟨[.r (.val (.sl false 106 y0)), .r (.val (.int .i64))], .one (.int .i64), fun x => F.laws_heldSpanS x.1 x.2.1⟩
def L.laws_heldSpanS : Loops := lookL [(2, ⟨[.pat 0 (.val (.sl false 106 y0)), .pat 1 (.val (.int .i64)), .pat 5 (.val (.int .i64))], 0⟩)]
noncomputable def K.laws_heldSpanS : Cons := lookK []
theorem run.laws_heldSpanS : ∀ x, runF tb K.laws_heldSpanS L.laws_heldSpanS [] Try.f75 C.laws_heldSpanS x = C.laws_heldSpanS.fn x := fun x => by kernel_rfl

/-! ### laws.heldSeat: function 21 -/
noncomputable def F.laws_heldSeat (a0 : DSeat) (a1 : Int) : Option Int :=
  (F.laws_heldSpanS a0.2.2.1 a1).bind fun r1 =>
  bif decide (r1 < 0) then
    some (-1)
  else
    some r1
noncomputable def C.laws_heldSeat : Con := ⟨[.r (.val y3), .r (.val (.int .i64))], .one (.int .i64), fun x => F.laws_heldSeat x.1 x.2.1⟩
def L.laws_heldSeat : Loops := fun _ => none
noncomputable def K.laws_heldSeat : Cons := lookK [(75, [], C.laws_heldSpanS)]
theorem run.laws_heldSeat : ∀ x, runF tb K.laws_heldSeat L.laws_heldSeat [] Try.f21 C.laws_heldSeat x = C.laws_heldSeat.fn x := fun x => by kernel_rfl

/-! ### laws.FnExactSeatMerge: function 3 -/
noncomputable def F.laws_FnExactSeatMerge (a0 : DSeat) (a1 : Int) (a2 : Int) : Option Bool :=
  (F.laws_szSeat a0 1048576).bind fun r1 =>
  bif decide (r1 < 0) then
    some true
  else
  (F.laws_toSeat a0).bind fun r2 =>
  (F.spec_SeatMerge r2 a1 a2).bind fun r3 =>
  (F.laws_toSeat a0).bind fun r4 =>
  (F.impl_SeatMerge r4 a1 a2).bind fun r5 =>
  (F.laws_eqSeat r5.1 r3.1).bind fun r6 =>
  bif !r6 then
    some false
  else
  bif !(r5.2 == r3.2) then
    some false
  else
  (F.laws_toSeat a0).bind fun r7 =>
  (F.laws_eqSeat r4 r7).bind fun r8 =>
  bif !r8 then
    some false
  else
  (F.laws_markSeat r4 1).bind fun r9 =>
  bif decide (r9.1 < 0) then
    some false
  else
  (F.laws_eqSeat r5.1 r3.1).bind fun r10 =>
  bif !r10 then
    some false
  else
  bif !(r5.2 == r3.2) then
    some false
  else
  (F.laws_markSeat r5.1 1).bind fun r11 =>
  (F.laws_heldSeat r11.2 1).bind fun r12 =>
  bif decide (r12 < 0) then
    some false
  else
  bif r12 != r11.1 then
    some false
  else
  (F.laws_toSeat a0).bind fun r13 =>
  (F.impl_SeatMerge r13 a1 a2).bind fun r14 =>
  (F.laws_eqSeat r14.1 r3.1).bind fun r15 =>
  bif !r15 then
    some false
  else
  bif !(r14.2 == r3.2) then
    some false
  else
  (F.laws_heldSeat r11.2 1).bind fun r16 =>
  bif decide (r16 < 0) then
    some false
  else
  bif r16 != r11.1 then
    some false
  else
    some true
noncomputable def C.laws_FnExactSeatMerge : Con := ⟨[.r (.val y1), .r (.val (.int .i64)), .r (.val (.int .i64))], .one .bool, fun x => F.laws_FnExactSeatMerge x.1 x.2.1 x.2.2.1⟩
def L.laws_FnExactSeatMerge : Loops := fun _ => none
noncomputable def K.laws_FnExactSeatMerge : Cons := lookK [(15, [], C.laws_szSeat), (16, [], C.spec_SeatMerge), (17, [], C.laws_toSeat), (18, [], C.impl_SeatMerge), (19, [], C.laws_eqSeat), (20, [], C.laws_markSeat), (21, [], C.laws_heldSeat)]
theorem run.laws_FnExactSeatMerge : ∀ x, runF tb K.laws_FnExactSeatMerge L.laws_FnExactSeatMerge [] Try.f3 C.laws_FnExactSeatMerge x = C.laws_FnExactSeatMerge.fn x := fun x => by kernel_rfl

/-! ### spec.SeatReclaim: function 22 -/
noncomputable def F.spec_SeatReclaim (a0 : DSeat) (a1 : Int) : Option DSeat :=
  (F.spec_l9Copy a0).bind fun r1 =>
  (F.spec_SeatOk a0 a1).bind fun r2 =>
  bif !r2 then
    some r1
  else
  bif a0.1 == 1000 then
    some r1
  else
  bif decide ((len a0.2.2.1) > 0) then
    chk (inb (w64 ((len a0.2.2.1) - 1)) (List.length a0.2.2.1)) <|
    some (w64 (a0.1 + 1), ((List.getD a0.2.2.1 ((Int.toNat (w64 ((len a0.2.2.1) - 1)))) ((0, 0, ()))).2).1, r1.2.2)
  else
    some (w64 (a0.1 + 1), 0, r1.2.2)
noncomputable def C.spec_SeatReclaim : Con := ⟨[.r (.val y3), .r (.val (.int .i64))], .one y2, fun x => F.spec_SeatReclaim x.1 x.2.1⟩
def L.spec_SeatReclaim : Loops := fun _ => none
noncomputable def K.spec_SeatReclaim : Cons := lookK [(67, [], C.spec_l9Copy), (68, [], C.spec_SeatOk)]
theorem run.spec_SeatReclaim : ∀ x, runF tb K.spec_SeatReclaim L.spec_SeatReclaim [] Try.f22 C.spec_SeatReclaim x = C.spec_SeatReclaim.fn x := fun x => by kernel_rfl

/-! ### impl.greatest: function 76 -/
noncomputable def F.impl_greatest (a0 : List DSpan) : Option Int :=
  bif (len a0) == 0 then
    some 0
  else
  chk (inb (w64 ((len a0) - 1)) (List.length a0)) <|
  some (((List.getD a0 ((Int.toNat (w64 ((len a0) - 1)))) ((0, 0, ()))).2).1)
noncomputable def C.impl_greatest : Con := ⟨[.r (.val (.sl false 106 y0))], .one (.int .i64), fun x => F.impl_greatest x.1⟩
def L.impl_greatest : Loops := fun _ => none
noncomputable def K.impl_greatest : Cons := lookK []
theorem run.impl_greatest : ∀ x, runF tb K.impl_greatest L.impl_greatest [] Try.f76 C.impl_greatest x = C.impl_greatest.fn x := fun x => by kernel_rfl

/-! ### impl.SeatReclaim: function 23 -/
noncomputable def F.impl_SeatReclaim (a0 : DSeat) (a1 : Int) : Option DSeat :=
  (F.impl_copySeat a0).bind fun r1 =>
  (F.impl_SeatOk a0 a1).bind fun r2 =>
  bif r2 then
    bif decide (a0.1 < 1000) then
      (F.impl_greatest a0.2.2.1).bind fun r3 =>
      some (w64 (r1.1 + 1), r3, r1.2.2)
    else
      some r1
  else
    some r1
noncomputable def C.impl_SeatReclaim : Con := ⟨[.r (.val y3), .r (.val (.int .i64))], .one y2, fun x => F.impl_SeatReclaim x.1 x.2.1⟩
def L.impl_SeatReclaim : Loops := fun _ => none
noncomputable def K.impl_SeatReclaim : Cons := lookK [(27, [], C.impl_SeatOk), (71, [], C.impl_copySeat), (76, [], C.impl_greatest)]
theorem run.impl_SeatReclaim : ∀ x, runF tb K.impl_SeatReclaim L.impl_SeatReclaim [] Try.f23 C.impl_SeatReclaim x = C.impl_SeatReclaim.fn x := fun x => by kernel_rfl

/-! ### laws.FnExactSeatReclaim: function 4 -/
noncomputable def F.laws_FnExactSeatReclaim (a0 : DSeat) (a1 : Int) : Option Bool :=
  (F.laws_szSeat a0 1048576).bind fun r1 =>
  bif decide (r1 < 0) then
    some true
  else
  (F.laws_toSeat a0).bind fun r2 =>
  (F.spec_SeatReclaim r2 a1).bind fun r3 =>
  (F.laws_toSeat a0).bind fun r4 =>
  (F.impl_SeatReclaim r4 a1).bind fun r5 =>
  (F.laws_eqSeat r5 r3).bind fun r6 =>
  bif !r6 then
    some false
  else
  (F.laws_toSeat a0).bind fun r7 =>
  (F.laws_eqSeat r4 r7).bind fun r8 =>
  bif !r8 then
    some false
  else
  (F.laws_markSeat r4 1).bind fun r9 =>
  bif decide (r9.1 < 0) then
    some false
  else
  (F.laws_eqSeat r5 r3).bind fun r10 =>
  bif !r10 then
    some false
  else
  (F.laws_markSeat r5 1).bind fun r11 =>
  (F.laws_heldSeat r11.2 1).bind fun r12 =>
  bif decide (r12 < 0) then
    some false
  else
  bif r12 != r11.1 then
    some false
  else
  (F.laws_toSeat a0).bind fun r13 =>
  (F.impl_SeatReclaim r13 a1).bind fun r14 =>
  (F.laws_eqSeat r14 r3).bind fun r15 =>
  bif !r15 then
    some false
  else
  (F.laws_heldSeat r11.2 1).bind fun r16 =>
  bif decide (r16 < 0) then
    some false
  else
  bif r16 != r11.1 then
    some false
  else
    some true
noncomputable def C.laws_FnExactSeatReclaim : Con := ⟨[.r (.val y1), .r (.val (.int .i64))], .one .bool, fun x => F.laws_FnExactSeatReclaim x.1 x.2.1⟩
def L.laws_FnExactSeatReclaim : Loops := fun _ => none
noncomputable def K.laws_FnExactSeatReclaim : Cons := lookK [(15, [], C.laws_szSeat), (17, [], C.laws_toSeat), (19, [], C.laws_eqSeat), (20, [], C.laws_markSeat), (21, [], C.laws_heldSeat), (22, [], C.spec_SeatReclaim), (23, [], C.impl_SeatReclaim)]
theorem run.laws_FnExactSeatReclaim : ∀ x, runF tb K.laws_FnExactSeatReclaim L.laws_FnExactSeatReclaim [] Try.f4 C.laws_FnExactSeatReclaim x = C.laws_FnExactSeatReclaim.fn x := fun x => by kernel_rfl

/-! ### laws.big: function 24 -/
noncomputable def F.laws_big (a0 : List Int) : Option Bool :=
  some (decide ((len a0) > 1048576))
noncomputable def C.laws_big : Con := ⟨[.r (.val (.sl false 5 (.int .u8)))], .one .bool, fun x => F.laws_big x.1⟩
def L.laws_big : Loops := fun _ => none
noncomputable def K.laws_big : Cons := lookK []
theorem run.laws_big : ∀ x, runF tb K.laws_big L.laws_big [] Try.f24 C.laws_big x = C.laws_big.fn x := fun x => by kernel_rfl

/-! ### spec.l1New: function 77 -/
noncomputable def F.spec_l1New.s3 : ((List Int) × Int × Int × Unit) → Option (Lp ((List Int) × Int × Int × Unit) DL1Cur) := fun (x1, x2, x3, _) =>
  bif decide (x3 < (len x1)) then
    bif decide (x3 < 4000) then
      chk (inb x3 (List.length x1)) <|
      some (.again (x1, ibits .and .i64 (w64 ((w64 ((w64 (x2 * 131)) + (w64 (List.getD x1 ((Int.toNat x3)) 0)))) + 7)) 1073741823, w64 (x3 + 1), ()))
    else
      some (.exit (x1, x2, x3, ()))
  else
    some (.exit (x1, x2, x3, ()))
noncomputable def F.spec_l1New (a0 : List Int) : Option DL1Cur :=
  afterO (loopO F.spec_l1New.s3 (a0, w64 (26583 + (len a0)), 0, ())) fun (x4, x5, x6, _) =>
  some (x4, 0, x5, ())
noncomputable def C.spec_l1New : Con := ⟨[.r (.val (.sl false 5 (.int .u8)))], .ptr y4, fun x => F.spec_l1New x.1⟩
def L.spec_l1New : Loops := lookL [(3, ⟨[.pat 0 (.val (.sl false 5 (.int .u8))), .pat 3 (.val (.int .i64)), .pat 4 (.val (.int .i64))], 0⟩)]
noncomputable def K.spec_l1New : Cons := lookK []
theorem run.spec_l1New : ∀ x, runF tb K.spec_l1New L.spec_l1New [] Try.f77 C.spec_l1New x = C.spec_l1New.fn x := fun x => by kernel_rfl

/-! ### spec.l1Byte: function 159 -/
noncomputable def F.spec_l1Byte (a0 : DL1Cur) : Option (Int × DL1Cur) :=
  bif decide (a0.2.1 < (len a0.1)) then
    chk (inb a0.2.1 (List.length a0.1)) <|
    some (ibits .and .i64 (w64 ((ibits .and .i64 (ibits .xor .i64 (Int.fdiv (w64 ((w64 (a0.2.2.1 * 6364136223846793005)) + 1442695040888963407)) (2 ^ (min 33 64))) (Int.fdiv (w64 ((w64 (a0.2.2.1 * 6364136223846793005)) + 1442695040888963407)) (2 ^ (min 45 64)))) 255) + (w64 (List.getD a0.1 ((Int.toNat a0.2.1)) 0)))) 255, (a0.1, w64 (a0.2.1 + 1), w64 ((w64 (a0.2.2.1 * 6364136223846793005)) + 1442695040888963407), a0.2.2.2))
  else
    some (ibits .and .i64 (ibits .xor .i64 (Int.fdiv (w64 ((w64 (a0.2.2.1 * 6364136223846793005)) + 1442695040888963407)) (2 ^ (min 33 64))) (Int.fdiv (w64 ((w64 (a0.2.2.1 * 6364136223846793005)) + 1442695040888963407)) (2 ^ (min 45 64)))) 255, (a0.1, a0.2.1, w64 ((w64 (a0.2.2.1 * 6364136223846793005)) + 1442695040888963407), a0.2.2.2))
noncomputable def C.spec_l1Byte : Con := ⟨[.p y4 y4], .one (.int .i64), fun x => F.spec_l1Byte x.1⟩
def L.spec_l1Byte : Loops := fun _ => none
noncomputable def K.spec_l1Byte : Cons := lookK []
theorem run.spec_l1Byte : ∀ x, runF tb K.spec_l1Byte L.spec_l1Byte [0] Try.f159 C.spec_l1Byte x = C.spec_l1Byte.fn x := fun x => by kernel_rfl

/-! ### spec.l1Below: function 128 -/
noncomputable def F.spec_l1Below (a0 : DL1Cur) (a1 : Int) : Option (Int × DL1Cur) :=
  bif decide (a1 ≤ 0) then
    some (0, a0)
  else
  bif decide (a1 ≤ 256) then
    (F.spec_l1Byte a0).bind fun r1 =>
    nchk (a1 == 0) <|
    some (Int.tmod r1.1 a1, r1.2)
  else
  (F.spec_l1Byte a0).bind fun r2 =>
  (F.spec_l1Byte r2.2).bind fun r3 =>
  (F.spec_l1Byte r3.2).bind fun r4 =>
  (F.spec_l1Byte r4.2).bind fun r5 =>
  nchk (a1 == 0) <|
  some (Int.tmod (w64 ((w64 ((w64 ((w64 (r2.1 * 16777216)) + (w64 (r3.1 * 65536)))) + (w64 (r4.1 * 256)))) + r5.1)) a1, r5.2)
noncomputable def C.spec_l1Below : Con := ⟨[.p y4 y4, .r (.val (.int .i64))], .one (.int .i64), fun x => F.spec_l1Below x.1 x.2.1⟩
def L.spec_l1Below : Loops := fun _ => none
noncomputable def K.spec_l1Below : Cons := lookK [(159, [], C.spec_l1Byte)]
theorem run.spec_l1Below : ∀ x, runF tb K.spec_l1Below L.spec_l1Below [0] Try.f128 C.spec_l1Below x = C.spec_l1Below.fn x := fun x => by kernel_rfl

/-! ### spec.l1Min: function 180 -/
noncomputable def F.spec_l1Min (a0 : Int) (a1 : Int) : Option Int :=
  bif decide (a0 < a1) then
    some a0
  else
    some a1
noncomputable def C.spec_l1Min : Con := ⟨[.r (.val (.int .i64)), .r (.val (.int .i64))], .one (.int .i64), fun x => F.spec_l1Min x.1 x.2.1⟩
def L.spec_l1Min : Loops := fun _ => none
noncomputable def K.spec_l1Min : Cons := lookK []
theorem run.spec_l1Min : ∀ x, runF tb K.spec_l1Min L.spec_l1Min [] Try.f180 C.spec_l1Min x = C.spec_l1Min.fn x := fun x => by kernel_rfl

/-! ### spec.SeatGrant: function 160 -/
noncomputable def F.spec_SeatGrant (a0 : DSeat) (a1 : Int) : Option DSeat :=
  (F.spec_l9Copy a0).bind fun r1 =>
  (F.spec_SeatOk a0 a1).bind fun r2 =>
  bif r2 then
    (F.spec_l1Min 60 (w64 (a0.2.2.2.1 + a1))).bind fun r3 =>
    some (r1.1, r3, r1.2.2)
  else
    some r1
noncomputable def C.spec_SeatGrant : Con := ⟨[.r (.val y3), .r (.val (.int .i64))], .one y2, fun x => F.spec_SeatGrant x.1 x.2.1⟩
def L.spec_SeatGrant : Loops := fun _ => none
noncomputable def K.spec_SeatGrant : Cons := lookK [(67, [], C.spec_l9Copy), (68, [], C.spec_SeatOk), (180, [], C.spec_l1Min)]
theorem run.spec_SeatGrant : ∀ x, runF tb K.spec_SeatGrant L.spec_SeatGrant [] Try.f160 C.spec_SeatGrant x = C.spec_SeatGrant.fn x := fun x => by kernel_rfl

/-! ### spec.SetHas: function 109 -/
noncomputable def F.spec_SetHas.s2 : ((List DSpan) × Int × Int × Unit) → Option (Lp ((List DSpan) × Int × Int × Unit) Bool) := fun (x1, x2, x3, _) =>
  bif decide (x3 < (len x1)) then
    chk (inb x3 (List.length x1)) <|
    chk (inb x3 (List.length x1)) <|
    (F.spec_l1In x2 ((List.getD x1 ((Int.toNat x3)) ((0, 0, ()))).1) (((List.getD x1 ((Int.toNat x3)) ((0, 0, ()))).2).1)).bind fun r4 =>
    bif r4 then
      some (.ret true)
    else
      some (.again (x1, x2, w64 (x3 + 1), ()))
  else
    some (.exit (x1, x2, x3, ()))
noncomputable def F.spec_SetHas (a0 : List DSpan) (a1 : Int) : Option Bool :=
  afterO (loopO F.spec_SetHas.s2 (a0, a1, 0, ())) fun (x5, x6, x7, _) =>
  some false
noncomputable def C.spec_SetHas : Con := ⟨[.r (.val (.sl false 106 y0)), .r (.val (.int .i64))], .one .bool, fun x => F.spec_SetHas x.1 x.2.1⟩
def L.spec_SetHas : Loops := lookL [(2, ⟨[.pat 0 (.val (.sl false 106 y0)), .pat 1 (.val (.int .i64)), .pat 5 (.val (.int .i64))], 0⟩)]
noncomputable def K.spec_SetHas : Cons := lookK [(69, [], C.spec_l1In)]
theorem run.spec_SetHas : ∀ x, runF tb K.spec_SetHas L.spec_SetHas [] Try.f109 C.spec_SetHas x = C.spec_SetHas.fn x := fun x => by kernel_rfl

/-! ### spec.l8One: function 181 -/
noncomputable def F.spec_l8One (a0 : Int) : Option DSpan :=
  some (a0, a0, ())
noncomputable def C.spec_l8One : Con := ⟨[.r (.val (.int .i64))], .one y0, fun x => F.spec_l8One x.1⟩
def L.spec_l8One : Loops := fun _ => none
noncomputable def K.spec_l8One : Cons := lookK []
theorem run.spec_l8One : ∀ x, runF tb K.spec_l8One L.spec_l8One [] Try.f181 C.spec_l8One x = C.spec_l8One.fn x := fun x => by kernel_rfl

/-! ### spec.l1Max: function 182 -/
noncomputable def F.spec_l1Max (a0 : Int) (a1 : Int) : Option Int :=
  bif decide (a0 > a1) then
    some a0
  else
    some a1
noncomputable def C.spec_l1Max : Con := ⟨[.r (.val (.int .i64)), .r (.val (.int .i64))], .one (.int .i64), fun x => F.spec_l1Max x.1 x.2.1⟩
def L.spec_l1Max : Loops := fun _ => none
noncomputable def K.spec_l1Max : Cons := lookK []
theorem run.spec_l1Max : ∀ x, runF tb K.spec_l1Max L.spec_l1Max [] Try.f182 C.spec_l1Max x = C.spec_l1Max.fn x := fun x => by kernel_rfl

/-! ### spec.l5Put: function 174 -/
noncomputable def F.spec_l5Put.s4 : ((List DSpan) × (List DSpan) × Bool × Int × DSpan × Unit) → Option (Lp ((List DSpan) × (List DSpan) × Bool × Int × DSpan × Unit) ((List DSpan))) := fun (x1, x2, x3, x4, x5, _) =>
  bif decide (x4 < (len x1)) then
    chk (inb x4 (List.length x1)) <|
    bif decide ((w64 ((((List.getD x1 ((Int.toNat x4)) ((0, 0, ()))).2).1) + 1)) < x5.1) then
      chk (inb x4 (List.length x1)) <|
      chk (fits (List.length x2 + List.length ([List.getD x1 ((Int.toNat x4)) ((0, 0, ()))])) 16) <|
      some (.again (x1, x2 ++ ([List.getD x1 ((Int.toNat x4)) ((0, 0, ()))]), x3, w64 (x4 + 1), x5, ()))
    else
    chk (inb x4 (List.length x1)) <|
    bif decide (((List.getD x1 ((Int.toNat x4)) ((0, 0, ()))).1) > (w64 (x5.2.1 + 1))) then
      bif !x3 then
        chk (fits (List.length x2 + List.length ([x5])) 16) <|
        chk (inb x4 (List.length x1)) <|
        chk (fits (List.length (x2 ++ ([x5])) + List.length ([List.getD x1 ((Int.toNat x4)) ((0, 0, ()))])) 16) <|
        some (.again (x1, (x2 ++ ([x5])) ++ ([List.getD x1 ((Int.toNat x4)) ((0, 0, ()))]), true, w64 (x4 + 1), x5, ()))
      else
      chk (inb x4 (List.length x1)) <|
      chk (fits (List.length x2 + List.length ([List.getD x1 ((Int.toNat x4)) ((0, 0, ()))])) 16) <|
      some (.again (x1, x2 ++ ([List.getD x1 ((Int.toNat x4)) ((0, 0, ()))]), x3, w64 (x4 + 1), x5, ()))
    else
    chk (inb x4 (List.length x1)) <|
    (F.spec_l1Min x5.1 ((List.getD x1 ((Int.toNat x4)) ((0, 0, ()))).1)).bind fun r6 =>
    chk (inb x4 (List.length x1)) <|
    (F.spec_l1Max x5.2.1 (((List.getD x1 ((Int.toNat x4)) ((0, 0, ()))).2).1)).bind fun r7 =>
    some (.again (x1, x2, x3, w64 (x4 + 1), (r6, r7, ()), ()))
  else
    some (.exit (x1, x2, x3, x4, x5, ()))
noncomputable def F.spec_l5Put (a0 : List DSpan) (a1 : DSpan) : Option ((List DSpan)) :=
  afterO (loopO F.spec_l5Put.s4 (a0, ([] : List DSpan), false, 0, a1, ())) fun (x8, x9, x10, x11, x12, _) =>
  bif !x10 then
    chk (fits (List.length x9 + List.length ([x12])) 16) <|
    some (x9 ++ ([x12]))
  else
    some x9
noncomputable def C.spec_l5Put : Con := ⟨[.r (.val (.sl false 106 y0)), .r (.val y0)], .one (.sl true 106 y0), fun x => F.spec_l5Put x.1 x.2.1⟩
def L.spec_l5Put : Loops := lookL [(4, ⟨[.pat 0 (.val (.sl false 106 y0)), .own 5 (.sl true 106 y0), .pat 6 (.val .bool), .pat 7 (.val (.int .i64)), .root 3 true y0 [3]], 0⟩)]
noncomputable def K.spec_l5Put : Cons := lookK [(180, [], C.spec_l1Min), (182, [], C.spec_l1Max)]
theorem run.spec_l5Put : ∀ x, runF tb K.spec_l5Put L.spec_l5Put [] Try.f174 C.spec_l5Put x = C.spec_l5Put.fn x := fun x => by kernel_rfl

/-! ### spec.SeatData: function 161 -/
noncomputable def F.spec_SeatData (a0 : DSeat) (a1 : Int) (a2 : Int) (a3 : Int) : Option (DSeat × Int) :=
  (F.spec_l9Copy a0).bind fun r1 =>
  (F.spec_SeatOk a0 a1).bind fun r2 =>
  bif !r2 then
    some (r1, 4)
  else
  (F.spec_l1In a3 1 60).bind fun r3 =>
  bif !r3 then
    some (r1, 4)
  else
  bif a2 != a0.1 then
    some (r1, 2)
  else
  (F.spec_SetHas a0.2.2.1 a3).bind fun r4 =>
  bif r4 then
    some (r1, 1)
  else
  bif decide (a3 > a0.2.1) then
    some (r1, 3)
  else
  (F.spec_l8One a3).bind fun r5 =>
  (F.spec_l5Put a0.2.2.1 r5).bind fun r6 =>
  some ((r1.1, r1.2.1, r6, r1.2.2.2), 0)
noncomputable def C.spec_SeatData : Con := ⟨[.r (.val y3), .r (.val (.int .i64)), .r (.val (.int .i64)), .r (.val (.int .i64))], .many [y2, (.int .i64)], fun x => F.spec_SeatData x.1 x.2.1 x.2.2.1 x.2.2.2.1⟩
def L.spec_SeatData : Loops := fun _ => none
noncomputable def K.spec_SeatData : Cons := lookK [(67, [], C.spec_l9Copy), (68, [], C.spec_SeatOk), (69, [], C.spec_l1In), (109, [], C.spec_SetHas), (174, [], C.spec_l5Put), (181, [], C.spec_l8One)]
theorem run.spec_SeatData : ∀ x, runF tb K.spec_SeatData L.spec_SeatData [] Try.f161 C.spec_SeatData x = C.spec_SeatData.fn x := fun x => by kernel_rfl

/-! ### spec.l1Once: function 162 -/
noncomputable def F.spec_l1Once (a0 : DL1Cur) (a1 : Int) : Option (Bool × DL1Cur) :=
  (F.spec_l1Below a0 a1).bind fun r1 =>
  some (r1.1 == 0, r1.2)
noncomputable def C.spec_l1Once : Con := ⟨[.p y4 y4, .r (.val (.int .i64))], .one .bool, fun x => F.spec_l1Once x.1 x.2.1⟩
def L.spec_l1Once : Loops := fun _ => none
noncomputable def K.spec_l1Once : Cons := lookK [(128, [], C.spec_l1Below)]
theorem run.spec_l1Once : ∀ x, runF tb K.spec_l1Once L.spec_l1Once [0] Try.f162 C.spec_l1Once x = C.spec_l1Once.fn x := fun x => by kernel_rfl

/-! ### spec.l9Right: function 129 -/
noncomputable def F.spec_l9Right.s4 : (Int × Int × Int × DL1Cur × DSeat × DSeat × Unit) → Option (Lp (Int × Int × Int × DL1Cur × DSeat × DSeat × Unit) (DSeat × DL1Cur)) := fun (x4, x5, x6, x7, x8, x9, _) =>
  bif decide (x6 < x5) then
    (F.spec_l1Below x7 12).bind fun r10 =>
    (F.spec_SeatData x9 x4 0 (w64 (1 + r10.1))).bind fun r11 =>
    (F.spec_l1Once r10.2 3).bind fun r12 =>
    bif r12.1 then
      (F.spec_SeatMerge r11.1 x4 1).bind fun r13 =>
      (F.spec_SeatGrant r13.1 x4).bind fun r14 =>
      some (.again (x4, x5, w64 (x6 + 1), r12.2, x8, r14, ()))
    else
      some (.again (x4, x5, w64 (x6 + 1), r12.2, x8, r11.1, ()))
  else
    some (.exit (x4, x5, x6, x7, x8, x9, ()))
noncomputable def F.spec_l9Right (a0 : DL1Cur) (a1 : Int) : Option (DSeat × DL1Cur) :=
  (F.spec_l1Below a0 5).bind fun r1 =>
  (F.spec_SeatGrant ((0, 0, ([] : List DSpan), 0, r1.1, ())) a1).bind fun r2 =>
  (F.spec_l1Below r1.2 7).bind fun r3 =>
  afterO (loopO F.spec_l9Right.s4 (a1, r3.1, 0, r3.2, (0, 0, ([] : List DSpan), 0, 0, ()), r2, ())) fun (x15, x16, x17, x18, x19, x20, _) =>
  (F.spec_l1Below x18 3).bind fun r21 =>
  some ((r21.1, x20.2), r21.2)
noncomputable def C.spec_l9Right : Con := ⟨[.p y4 y4, .r (.val (.int .i64))], .one y2, fun x => F.spec_l9Right x.1 x.2.1⟩
def L.spec_l9Right : Loops := lookL [(4, ⟨[.pat 1 (.val (.int .i64)), .pat 6 (.val (.int .i64)), .pat 7 (.val (.int .i64)), .root 0 true y4 [0], .root 4 true y2 [4], .root 5 true y2 [5]], 0⟩)]
noncomputable def K.spec_l9Right : Cons := lookK [(16, [], C.spec_SeatMerge), (128, [], C.spec_l1Below), (160, [], C.spec_SeatGrant), (161, [], C.spec_SeatData), (162, [], C.spec_l1Once)]
theorem run.spec_l9Right : ∀ x, runF tb K.spec_l9Right L.spec_l9Right [0] Try.f129 C.spec_l9Right x = C.spec_l9Right.fn x := fun x => by kernel_rfl

/-! ### spec.l1PickInt: function 79 -/
noncomputable def F.spec_l1PickInt (a0 : DL1Cur) (a1 : List Int) : Option (Int × DL1Cur) :=
  (F.spec_l1Below a0 (len a1)).bind fun r1 =>
  chk (inb r1.1 (List.length a1)) <|
  some (List.getD a1 ((Int.toNat r1.1)) 0, r1.2)
noncomputable def C.spec_l1PickInt : Con := ⟨[.p y4 y4, .r (.val (.sl false 3 (.int .i64)))], .one (.int .i64), fun x => F.spec_l1PickInt x.1 x.2.1⟩
def L.spec_l1PickInt : Loops := fun _ => none
noncomputable def K.spec_l1PickInt : Cons := lookK [(128, [], C.spec_l1Below)]
theorem run.spec_l1PickInt : ∀ x, runF tb K.spec_l1PickInt L.spec_l1PickInt [0] Try.f79 C.spec_l1PickInt x = C.spec_l1PickInt.fn x := fun x => by kernel_rfl

/-! ### spec.l5Right: function 163 -/
noncomputable def F.spec_l5Right.s4 : ((List DSpan) × Int × Int × DL1Cur × Unit) → Option (Lp ((List DSpan) × Int × Int × DL1Cur × Unit) ((List DSpan) × DL1Cur)) := fun (x2, x3, x4, x5, _) =>
  bif decide (x4 < x3) then
    (F.spec_l1Below x5 20).bind fun r6 =>
    (F.spec_l1Below r6.2 20).bind fun r7 =>
    (F.spec_l1Below r7.2 10).bind fun r8 =>
    (F.spec_l1PickInt r8.2 ([r6.1, r7.1, w64 (9990 + r8.1)])).bind fun r9 =>
    (F.spec_l1Below r9.2 3).bind fun r10 =>
    (F.spec_l1Min (w64 (r9.1 + r10.1)) 9999).bind fun r11 =>
    (F.spec_l5Put x2 ((r9.1, r11, ()))).bind fun r12 =>
    some (.again (r12, x3, w64 (x4 + 1), r10.2, ()))
  else
    some (.exit (x2, x3, x4, x5, ()))
noncomputable def F.spec_l5Right (a0 : DL1Cur) : Option ((List DSpan) × DL1Cur) :=
  (F.spec_l1Below a0 7).bind fun r1 =>
  afterO (loopO F.spec_l5Right.s4 (([] : List DSpan), r1.1, 0, r1.2, ())) fun (x13, x14, x15, x16, _) =>
  some (x13, x16)
noncomputable def C.spec_l5Right : Con := ⟨[.p y4 y4], .one (.sl true 106 y0), fun x => F.spec_l5Right x.1⟩
def L.spec_l5Right : Loops := lookL [(4, ⟨[.own 3 (.sl true 106 y0), .pat 4 (.val (.int .i64)), .pat 5 (.val (.int .i64)), .root 0 true y4 [0]], 0⟩)]
noncomputable def K.spec_l5Right : Cons := lookK [(79, [], C.spec_l1PickInt), (128, [], C.spec_l1Below), (174, [], C.spec_l5Put), (180, [], C.spec_l1Min)]
theorem run.spec_l5Right : ∀ x, runF tb K.spec_l5Right L.spec_l5Right [0] Try.f163 C.spec_l5Right x = C.spec_l5Right.fn x := fun x => by kernel_rfl

/-! ### spec.l5Draw: function 130 -/
noncomputable def F.spec_l5Draw (a0 : DL1Cur) : Option ((List DSpan) × DL1Cur) :=
  (F.spec_l5Right a0).bind fun r1 =>
  (F.spec_l1Once r1.2 8).bind fun r2 =>
  bif r2.1 then
    (F.spec_l1PickInt r2.2 ([-1, 3, 10000])).bind fun r3 =>
    (F.spec_l1PickInt r3.2 ([5, 10000, 9223372036854775807])).bind fun r4 =>
    chk (fits (List.length r1.1 + List.length ([(r3.1, r4.1, ())])) 16) <|
    some (r1.1 ++ ([(r3.1, r4.1, ())]), r4.2)
  else
    some (r1.1, r2.2)
noncomputable def C.spec_l5Draw : Con := ⟨[.p y4 y4], .one (.sl true 106 y0), fun x => F.spec_l5Draw x.1⟩
def L.spec_l5Draw : Loops := fun _ => none
noncomputable def K.spec_l5Draw : Cons := lookK [(79, [], C.spec_l1PickInt), (162, [], C.spec_l1Once), (163, [], C.spec_l5Right)]
theorem run.spec_l5Draw : ∀ x, runF tb K.spec_l5Draw L.spec_l5Draw [0] Try.f130 C.spec_l5Draw x = C.spec_l5Draw.fn x := fun x => by kernel_rfl

/-! ### spec.l9Draw: function 78 -/
noncomputable def F.spec_l9Draw (a0 : DL1Cur) : Option (DSeat × Int × DL1Cur) :=
  (F.spec_l1Below a0 8).bind fun r1 =>
  (F.spec_l9Right r1.2 (w64 (1 + r1.1))).bind fun r2 =>
  (F.spec_l1Below r2.2 14).bind fun r3 =>
  bif r3.1 == 0 then
    (F.spec_l1PickInt r3.2 ([-1, 60, 61, 0])).bind fun r4 =>
    some ((r2.1.1, r4.1, r2.1.2.2), w64 (1 + r1.1), r4.2)
  else
  bif r3.1 == 1 then
    (F.spec_l5Draw r3.2).bind fun r5 =>
    some ((r2.1.1, r2.1.2.1, r5.1, r2.1.2.2.2), w64 (1 + r1.1), r5.2)
  else
  bif r3.1 == 2 then
    (F.spec_l1PickInt r3.2 ([-1, 1, 9, 9223372036854775807])).bind fun r6 =>
    some ((r2.1.1, r2.1.2.1, r2.1.2.2.1, r6.1, r2.1.2.2.2.2), w64 (1 + r1.1), r6.2)
  else
  bif r3.1 == 3 then
    (F.spec_l1PickInt r3.2 ([-1, 1000, 1001])).bind fun r7 =>
    some ((r7.1, r2.1.2), w64 (1 + r1.1), r7.2)
  else
  bif r3.1 == 4 then
    (F.spec_l1PickInt r3.2 ([0, 9, 1])).bind fun r8 =>
    some (r2.1, r8.1, r8.2)
  else
    some (r2.1, w64 (1 + r1.1), r3.2)
noncomputable def C.spec_l9Draw : Con := ⟨[.p y4 y4], .many [y2, (.int .i64)], fun x => F.spec_l9Draw x.1⟩
def L.spec_l9Draw : Loops := fun _ => none
noncomputable def K.spec_l9Draw : Cons := lookK [(79, [], C.spec_l1PickInt), (128, [], C.spec_l1Below), (129, [], C.spec_l9Right), (130, [], C.spec_l5Draw)]
theorem run.spec_l9Draw : ∀ x, runF tb K.spec_l9Draw L.spec_l9Draw [0] Try.f78 C.spec_l9Draw x = C.spec_l9Draw.fn x := fun x => by kernel_rfl

/-! ### spec.DrawSeatMerge: function 25 -/
noncomputable def F.spec_DrawSeatMerge (a0 : List Int) : Option (DSeat × Int × Int) :=
  (F.spec_l1New a0).bind fun r1 =>
  (F.spec_l9Draw r1).bind fun r2 =>
  (F.spec_l1PickInt r2.2.2 ([0, 1, 2, -1, 9, 9223372036854775807])).bind fun r3 =>
  some (r2.1, r2.2.1, r3.1)
noncomputable def C.spec_DrawSeatMerge : Con := ⟨[.r (.val (.sl false 5 (.int .u8)))], .many [y2, (.int .i64), (.int .i64)], fun x => F.spec_DrawSeatMerge x.1⟩
def L.spec_DrawSeatMerge : Loops := fun _ => none
noncomputable def K.spec_DrawSeatMerge : Cons := lookK [(77, [], C.spec_l1New), (78, [], C.spec_l9Draw), (79, [], C.spec_l1PickInt)]
theorem run.spec_DrawSeatMerge : ∀ x, runF tb K.spec_DrawSeatMerge L.spec_DrawSeatMerge [] Try.f25 C.spec_DrawSeatMerge x = C.spec_DrawSeatMerge.fn x := fun x => by kernel_rfl

/-! ### impl.SeatGrant: function 26 -/
noncomputable def F.impl_SeatGrant (a0 : DSeat) (a1 : Int) : Option DSeat :=
  (F.impl_copySeat a0).bind fun r1 =>
  (F.impl_SeatOk a0 a1).bind fun r2 =>
  bif r2 then
    some (r1.1, mnI 60 (w64 (a0.2.2.2.1 + a1)), r1.2.2)
  else
    some r1
noncomputable def C.impl_SeatGrant : Con := ⟨[.r (.val y3), .r (.val (.int .i64))], .one y2, fun x => F.impl_SeatGrant x.1 x.2.1⟩
def L.impl_SeatGrant : Loops := fun _ => none
noncomputable def K.impl_SeatGrant : Cons := lookK [(27, [], C.impl_SeatOk), (71, [], C.impl_copySeat)]
theorem run.impl_SeatGrant : ∀ x, runF tb K.impl_SeatGrant L.impl_SeatGrant [] Try.f26 C.impl_SeatGrant x = C.impl_SeatGrant.fn x := fun x => by kernel_rfl

/-! ### laws.FnSeatMerged: function 5 -/
noncomputable def F.laws_FnSeatMerged (a0 : List Int) : Option Bool :=
  (F.laws_big a0).bind fun r1 =>
  bif r1 then
    some true
  else
  (F.spec_DrawSeatMerge a0).bind fun r2 =>
  (F.impl_SeatMerge r2.1 r2.2.1 r2.2.2).bind fun r3 =>
  (F.spec_SeatMerge r2.1 r2.2.1 r2.2.2).bind fun r4 =>
  bif !(r3.2 == r4.2) then
    some false
  else
  bif !r3.2 then
    some (r3.1.2.2.2.1 == r2.1.2.2.2.1)
  else
  (F.impl_SeatGrant r3.1 r2.2.1).bind fun r5 =>
  (F.impl_SeatOk r3.1 r2.2.1).bind fun r6 =>
  bif r6 then
    bif r3.1.2.2.2.1 == (w64 (r2.1.2.2.2.1 + r2.2.2)) then
      (F.impl_SetSize r3.1.2.2.1).bind fun r7 =>
      bif decide (r3.1.2.2.2.1 ≤ r7) then
        bif decide (r5.2.1 ≥ r3.1.2.1) then
          bif r5.2.1 == (w64 (r3.1.2.2.2.1 + r2.2.1)) then
            some true
          else
            some (r5.2.1 == 60)
        else
          some false
      else
        some false
    else
      some false
  else
    some false
noncomputable def C.laws_FnSeatMerged : Con := ⟨[.r (.val (.sl false 5 (.int .u8)))], .one .bool, fun x => F.laws_FnSeatMerged x.1⟩
def L.laws_FnSeatMerged : Loops := fun _ => none
noncomputable def K.laws_FnSeatMerged : Cons := lookK [(16, [], C.spec_SeatMerge), (18, [], C.impl_SeatMerge), (24, [], C.laws_big), (25, [], C.spec_DrawSeatMerge), (26, [], C.impl_SeatGrant), (27, [], C.impl_SeatOk), (28, [], C.impl_SetSize)]
theorem run.laws_FnSeatMerged : ∀ x, runF tb K.laws_FnSeatMerged L.laws_FnSeatMerged [] Try.f5 C.laws_FnSeatMerged x = C.laws_FnSeatMerged.fn x := fun x => by kernel_rfl

/-! ### laws.szIntS: function 164 -/
noncomputable def F.laws_szIntS (a0 : List Int) (a1 : Int) : Option Int :=
  bif decide ((w64 (a1 - (len a0))) < 0) then
    some (-1)
  else
    some (w64 (a1 - (len a0)))
noncomputable def C.laws_szIntS : Con := ⟨[.r (.val (.sl false 3 (.int .i64))), .r (.val (.int .i64))], .one (.int .i64), fun x => F.laws_szIntS x.1 x.2.1⟩
def L.laws_szIntS : Loops := fun _ => none
noncomputable def K.laws_szIntS : Cons := lookK []
theorem run.laws_szIntS : ∀ x, runF tb K.laws_szIntS L.laws_szIntS [] Try.f164 C.laws_szIntS x = C.laws_szIntS.fn x := fun x => by kernel_rfl

/-! ### laws.szIntSS: function 165 -/
noncomputable def F.laws_szIntSS.s5 : ((List (List Int)) × Int × Int × Unit) → Option (Lp ((List (List Int)) × Int × Int × Unit) Int) := fun (x1, x2, x3, _) =>
  bif decide (x3 < (len x1)) then
    chk (inb x3 (List.length x1)) <|
    (F.laws_szIntS (List.getD x1 ((Int.toNat x3)) (([] : List Int))) x2).bind fun r4 =>
    bif decide (r4 < 0) then
      some (.ret (-1))
    else
      some (.again (x1, r4, w64 (x3 + 1), ()))
  else
    some (.exit (x1, x2, x3, ()))
noncomputable def F.laws_szIntSS (a0 : List (List Int)) (a1 : Int) : Option Int :=
  bif decide ((w64 (a1 - (len a0))) < 0) then
    some (-1)
  else
  afterO (loopO F.laws_szIntSS.s5 (a0, w64 (a1 - (len a0)), 0, ())) fun (x5, x6, x7, _) =>
  some x6
noncomputable def C.laws_szIntSS : Con := ⟨[.r (.val (.sl false 43 (.sl false 3 (.int .i64)))), .r (.val (.int .i64))], .one (.int .i64), fun x => F.laws_szIntSS x.1 x.2.1⟩
def L.laws_szIntSS : Loops := lookL [(5, ⟨[.pat 0 (.val (.sl false 43 (.sl false 3 (.int .i64)))), .pat 1 (.val (.int .i64)), .pat 5 (.val (.int .i64))], 0⟩)]
noncomputable def K.laws_szIntSS : Cons := lookK [(164, [], C.laws_szIntS)]
theorem run.laws_szIntSS : ∀ x, runF tb K.laws_szIntSS L.laws_szIntSS [] Try.f165 C.laws_szIntSS x = C.laws_szIntSS.fn x := fun x => by kernel_rfl

/-! ### laws.szSketch: function 131 -/
noncomputable def F.laws_szSketch (a0 : DSketch) (a1 : Int) : Option Int :=
  (F.laws_szIntS a0.2.2.2.2.1 a1).bind fun r1 =>
  bif decide (r1 < 0) then
    some (-1)
  else
  (F.laws_szIntS a0.2.2.2.2.2.1 r1).bind fun r2 =>
  bif decide (r2 < 0) then
    some (-1)
  else
  (F.laws_szIntSS a0.2.2.2.2.2.2.1 r2).bind fun r3 =>
  bif decide (r3 < 0) then
    some (-1)
  else
    some r3
noncomputable def C.laws_szSketch : Con := ⟨[.r (.val y5), .r (.val (.int .i64))], .one (.int .i64), fun x => F.laws_szSketch x.1 x.2.1⟩
def L.laws_szSketch : Loops := fun _ => none
noncomputable def K.laws_szSketch : Cons := lookK [(164, [], C.laws_szIntS), (165, [], C.laws_szIntSS)]
theorem run.laws_szSketch : ∀ x, runF tb K.laws_szSketch L.laws_szSketch [] Try.f131 C.laws_szSketch x = C.laws_szSketch.fn x := fun x => by kernel_rfl

/-! ### laws.szItem: function 82 -/
noncomputable def F.laws_szItem (a0 : DItem) (a1 : Int) : Option Int :=
  (F.laws_szSketch a0.2.2.2.2.1 a1).bind fun r1 =>
  bif decide (r1 < 0) then
    some (-1)
  else
    some r1
noncomputable def C.laws_szItem : Con := ⟨[.r (.val y6), .r (.val (.int .i64))], .one (.int .i64), fun x => F.laws_szItem x.1 x.2.1⟩
def L.laws_szItem : Loops := fun _ => none
noncomputable def K.laws_szItem : Cons := lookK [(131, [], C.laws_szSketch)]
theorem run.laws_szItem : ∀ x, runF tb K.laws_szItem L.laws_szItem [] Try.f82 C.laws_szItem x = C.laws_szItem.fn x := fun x => by kernel_rfl

/-! ### laws.szFrame: function 29 -/
noncomputable def F.laws_szFrame (a0 : DFrame) (a1 : Int) : Option Int :=
  (F.laws_szSpanS a0.2.2.2.2.1 a1).bind fun r1 =>
  bif decide (r1 < 0) then
    some (-1)
  else
  (F.laws_szItem a0.2.2.2.2.2.1 r1).bind fun r2 =>
  bif decide (r2 < 0) then
    some (-1)
  else
    some r2
noncomputable def C.laws_szFrame : Con := ⟨[.r (.val y7), .r (.val (.int .i64))], .one (.int .i64), fun x => F.laws_szFrame x.1 x.2.1⟩
def L.laws_szFrame : Loops := fun _ => none
noncomputable def K.laws_szFrame : Cons := lookK [(66, [], C.laws_szSpanS), (82, [], C.laws_szItem)]
theorem run.laws_szFrame : ∀ x, runF tb K.laws_szFrame L.laws_szFrame [] Try.f29 C.laws_szFrame x = C.laws_szFrame.fn x := fun x => by kernel_rfl

/-! ### laws.toIntS: function 167 -/
noncomputable def F.laws_toIntS.s3 : ((List Int) × (List Int) × Int × Unit) → Option (Lp ((List Int) × (List Int) × Int × Unit) ((List Int))) := fun (x1, x2, x3, _) =>
  bif decide (x3 < (len x1)) then
    chk (inb x3 (List.length x1)) <|
    chk (inb x3 (List.length x2)) <|
    some (.again (x1, List.set x2 ((Int.toNat x3)) (List.getD x1 ((Int.toNat x3)) 0), w64 (x3 + 1), ()))
  else
    some (.exit (x1, x2, x3, ()))
noncomputable def F.laws_toIntS (a0 : List Int) : Option ((List Int)) :=
  chk (mk 8 (len a0) (len a0)) <|
  afterO (loopO F.laws_toIntS.s3 (a0, List.replicate (Int.toNat (len a0)) 0, 0, ())) fun (x4, x5, x6, _) =>
  some x5
noncomputable def C.laws_toIntS : Con := ⟨[.r (.val (.sl false 3 (.int .i64)))], .one (.sl true 3 (.int .i64)), fun x => F.laws_toIntS x.1⟩
def L.laws_toIntS : Loops := lookL [(3, ⟨[.pat 0 (.val (.sl false 3 (.int .i64))), .own 3 (.sl true 3 (.int .i64)), .pat 4 (.val (.int .i64))], 0⟩)]
noncomputable def K.laws_toIntS : Cons := lookK []
theorem run.laws_toIntS : ∀ x, runF tb K.laws_toIntS L.laws_toIntS [] Try.f167 C.laws_toIntS x = C.laws_toIntS.fn x := fun x => by kernel_rfl

/-! ### laws.toIntSS: function 168 -/
noncomputable def F.laws_toIntSS.s3 : ((List (List Int)) × (List (List Int)) × Int × Unit) → Option (Lp ((List (List Int)) × (List (List Int)) × Int × Unit) ((List (List Int)))) := fun (x1, x2, x3, _) =>
  bif decide (x3 < (len x1)) then
    chk (inb x3 (List.length x1)) <|
    (F.laws_toIntS (List.getD x1 ((Int.toNat x3)) (([] : List Int)))).bind fun r4 =>
    chk (inb x3 (List.length x2)) <|
    some (.again (x1, List.set x2 ((Int.toNat x3)) r4, w64 (x3 + 1), ()))
  else
    some (.exit (x1, x2, x3, ()))
noncomputable def F.laws_toIntSS (a0 : List (List Int)) : Option ((List (List Int))) :=
  chk (mk 24 (len a0) (len a0)) <|
  afterO (loopO F.laws_toIntSS.s3 (a0, List.replicate (Int.toNat (len a0)) (([] : List Int)), 0, ())) fun (x5, x6, x7, _) =>
  some x6
noncomputable def C.laws_toIntSS : Con := ⟨[.r (.val (.sl false 43 (.sl false 3 (.int .i64))))], .one (.sl true 43 (.sl true 3 (.int .i64))), fun x => F.laws_toIntSS x.1⟩
def L.laws_toIntSS : Loops := lookL [(3, ⟨[.pat 0 (.val (.sl false 43 (.sl false 3 (.int .i64)))), .own 3 (.sl true 43 (.sl true 3 (.int .i64))), .pat 4 (.val (.int .i64))], 0⟩)]
noncomputable def K.laws_toIntSS : Cons := lookK [(167, [], C.laws_toIntS)]
theorem run.laws_toIntSS : ∀ x, runF tb K.laws_toIntSS L.laws_toIntSS [] Try.f168 C.laws_toIntSS x = C.laws_toIntSS.fn x := fun x => by kernel_rfl

/-! ### laws.toSketch: function 133 -/
noncomputable def F.laws_toSketch (a0 : DSketch) : Option DSketch :=
  (F.laws_toIntS a0.2.2.2.2.1).bind fun r1 =>
  (F.laws_toIntS a0.2.2.2.2.2.1).bind fun r2 =>
  (F.laws_toIntSS a0.2.2.2.2.2.2.1).bind fun r3 =>
  some (a0.1, a0.2.1, a0.2.2.1, a0.2.2.2.1, r1, r2, r3, ())
noncomputable def C.laws_toSketch : Con := ⟨[.r (.val y5)], .one y8, fun x => F.laws_toSketch x.1⟩
def L.laws_toSketch : Loops := fun _ => none
noncomputable def K.laws_toSketch : Cons := lookK [(167, [], C.laws_toIntS), (168, [], C.laws_toIntSS)]
theorem run.laws_toSketch : ∀ x, runF tb K.laws_toSketch L.laws_toSketch [] Try.f133 C.laws_toSketch x = C.laws_toSketch.fn x := fun x => by kernel_rfl

/-! ### laws.toItem: function 85 -/
noncomputable def F.laws_toItem (a0 : DItem) : Option DItem :=
  (F.laws_toSketch a0.2.2.2.2.1).bind fun r1 =>
  some (a0.1, a0.2.1, a0.2.2.1, a0.2.2.2.1, r1, ())
noncomputable def C.laws_toItem : Con := ⟨[.r (.val y6)], .one y9, fun x => F.laws_toItem x.1⟩
def L.laws_toItem : Loops := fun _ => none
noncomputable def K.laws_toItem : Cons := lookK [(133, [], C.laws_toSketch)]
theorem run.laws_toItem : ∀ x, runF tb K.laws_toItem L.laws_toItem [] Try.f85 C.laws_toItem x = C.laws_toItem.fn x := fun x => by kernel_rfl

/-! ### laws.toFrame: function 31 -/
noncomputable def F.laws_toFrame (a0 : DFrame) : Option DFrame :=
  (F.laws_toSpanS a0.2.2.2.2.1).bind fun r1 =>
  (F.laws_toItem a0.2.2.2.2.2.1).bind fun r2 =>
  some (a0.1, a0.2.1, a0.2.2.1, a0.2.2.2.1, r1, r2, ())
noncomputable def C.laws_toFrame : Con := ⟨[.r (.val y7)], .one y10, fun x => F.laws_toFrame x.1⟩
def L.laws_toFrame : Loops := fun _ => none
noncomputable def K.laws_toFrame : Cons := lookK [(70, [], C.laws_toSpanS), (85, [], C.laws_toItem)]
theorem run.laws_toFrame : ∀ x, runF tb K.laws_toFrame L.laws_toFrame [] Try.f31 C.laws_toFrame x = C.laws_toFrame.fn x := fun x => by kernel_rfl

/-! ### spec.l5Same: function 83 -/
noncomputable def F.spec_l5Same.s4 : ((List DSpan) × (List DSpan) × Int × Unit) → Option (Lp ((List DSpan) × (List DSpan) × Int × Unit) Bool) := fun (x1, x2, x3, _) =>
  bif decide (x3 < (len x1)) then
    chk (inb x3 (List.length x1)) <|
    chk (inb x3 (List.length x2)) <|
    bif !(Ty.eqX (.cons (.int .i64) (.cons (.int .i64) .nil)) (List.getD x1 ((Int.toNat x3)) ((0, 0, ()))) (List.getD x2 ((Int.toNat x3)) ((0, 0, ())))) then
      some (.ret false)
    else
      some (.again (x1, x2, w64 (x3 + 1), ()))
  else
    some (.exit (x1, x2, x3, ()))
noncomputable def F.spec_l5Same (a0 : List DSpan) (a1 : List DSpan) : Option Bool :=
  bif (len a0) != (len a1) then
    some false
  else
  afterO (loopO F.spec_l5Same.s4 (a0, a1, 0, ())) fun (x4, x5, x6, _) =>
  some true
noncomputable def C.spec_l5Same : Con := ⟨[.r (.val (.sl false 106 y0)), .r (.val (.sl false 106 y0))], .one .bool, fun x => F.spec_l5Same x.1 x.2.1⟩
def L.spec_l5Same : Loops := lookL [(4, ⟨[.pat 0 (.val (.sl false 106 y0)), .pat 1 (.val (.sl false 106 y0)), .pat 5 (.val (.int .i64))], 0⟩)]
noncomputable def K.spec_l5Same : Cons := lookK []
theorem run.spec_l5Same : ∀ x, runF tb K.spec_l5Same L.spec_l5Same [] Try.f83 C.spec_l5Same x = C.spec_l5Same.fn x := fun x => by kernel_rfl

/-! ### spec.l1Same: function 166 -/
noncomputable def F.spec_l1Same.s4 : ((List Int) × (List Int) × Int × Unit) → Option (Lp ((List Int) × (List Int) × Int × Unit) Bool) := fun (x1, x2, x3, _) =>
  bif decide (x3 < (len x1)) then
    chk (inb x3 (List.length x1)) <|
    chk (inb x3 (List.length x2)) <|
    bif (List.getD x1 ((Int.toNat x3)) 0) != (List.getD x2 ((Int.toNat x3)) 0) then
      some (.ret false)
    else
      some (.again (x1, x2, w64 (x3 + 1), ()))
  else
    some (.exit (x1, x2, x3, ()))
noncomputable def F.spec_l1Same (a0 : List Int) (a1 : List Int) : Option Bool :=
  bif (len a0) != (len a1) then
    some false
  else
  afterO (loopO F.spec_l1Same.s4 (a0, a1, 0, ())) fun (x4, x5, x6, _) =>
  some true
noncomputable def C.spec_l1Same : Con := ⟨[.r (.val (.sl false 3 (.int .i64))), .r (.val (.sl false 3 (.int .i64)))], .one .bool, fun x => F.spec_l1Same x.1 x.2.1⟩
def L.spec_l1Same : Loops := lookL [(4, ⟨[.pat 0 (.val (.sl false 3 (.int .i64))), .pat 1 (.val (.sl false 3 (.int .i64))), .pat 5 (.val (.int .i64))], 0⟩)]
noncomputable def K.spec_l1Same : Cons := lookK []
theorem run.spec_l1Same : ∀ x, runF tb K.spec_l1Same L.spec_l1Same [] Try.f166 C.spec_l1Same x = C.spec_l1Same.fn x := fun x => by kernel_rfl

/-! ### spec.SketchSame: function 132 -/
noncomputable def F.spec_SketchSame.s4 : (Int × DSketch × DSketch × Unit) → Option (Lp (Int × DSketch × DSketch × Unit) Bool) := fun (x3, x4, x5, _) =>
  bif decide (x3 < (len x4.2.2.2.2.2.2.1)) then
    chk (inb x3 (List.length x4.2.2.2.2.2.2.1)) <|
    chk (inb x3 (List.length x5.2.2.2.2.2.2.1)) <|
    (F.spec_l1Same (List.getD x4.2.2.2.2.2.2.1 ((Int.toNat x3)) (([] : List Int))) (List.getD x5.2.2.2.2.2.2.1 ((Int.toNat x3)) (([] : List Int)))).bind fun r6 =>
    bif !r6 then
      some (.ret false)
    else
      some (.again (w64 (x3 + 1), x4, x5, ()))
  else
    some (.exit (x3, x4, x5, ()))
noncomputable def F.spec_SketchSame (a0 : DSketch) (a1 : DSketch) : Option Bool :=
  bif a0.1 != a1.1 then
    some false
  else
  bif a0.2.1 != a1.2.1 then
    some false
  else
  bif a0.2.2.1 != a1.2.2.1 then
    some false
  else
  bif a0.2.2.2.1 != a1.2.2.2.1 then
    some false
  else
  (F.spec_l1Same a0.2.2.2.2.1 a1.2.2.2.2.1).bind fun r1 =>
  bif !r1 then
    some false
  else
  (F.spec_l1Same a0.2.2.2.2.2.1 a1.2.2.2.2.2.1).bind fun r2 =>
  bif !r2 then
    some false
  else
  bif (len a0.2.2.2.2.2.2.1) != (len a1.2.2.2.2.2.2.1) then
    some false
  else
  afterO (loopO F.spec_SketchSame.s4 (0, a0, a1, ())) fun (x7, x8, x9, _) =>
  some true
noncomputable def C.spec_SketchSame : Con := ⟨[.r (.val y5), .r (.val y5)], .one .bool, fun x => F.spec_SketchSame x.1 x.2.1⟩
def L.spec_SketchSame : Loops := lookL [(4, ⟨[.pat 5 (.val (.int .i64)), .root 2 true y5 [2], .root 3 true y5 [3]], 0⟩)]
noncomputable def K.spec_SketchSame : Cons := lookK [(166, [], C.spec_l1Same)]
theorem run.spec_SketchSame : ∀ x, runF tb K.spec_SketchSame L.spec_SketchSame [] Try.f132 C.spec_SketchSame x = C.spec_SketchSame.fn x := fun x => by kernel_rfl

/-! ### spec.l7Item: function 84 -/
noncomputable def F.spec_l7Item (a0 : DItem) (a1 : DItem) : Option Bool :=
  bif a0.1 == a1.1 then
    bif a0.2.1 == a1.2.1 then
      bif a0.2.2.1 == a1.2.2.1 then
        bif a0.2.2.2.1 == a1.2.2.2.1 then
          (F.spec_SketchSame a0.2.2.2.2.1 a1.2.2.2.2.1).bind fun r1 =>
          some r1
        else
          some false
      else
        some false
    else
      some false
  else
    some false
noncomputable def C.spec_l7Item : Con := ⟨[.r (.val y6), .r (.val y6)], .one .bool, fun x => F.spec_l7Item x.1 x.2.1⟩
def L.spec_l7Item : Loops := fun _ => none
noncomputable def K.spec_l7Item : Cons := lookK [(132, [], C.spec_SketchSame)]
theorem run.spec_l7Item : ∀ x, runF tb K.spec_l7Item L.spec_l7Item [] Try.f84 C.spec_l7Item x = C.spec_l7Item.fn x := fun x => by kernel_rfl

/-! ### spec.FrameSame: function 30 -/
noncomputable def F.spec_FrameSame (a0 : DFrame) (a1 : DFrame) : Option Bool :=
  bif a0.1 == a1.1 then
    bif a0.2.1 == a1.2.1 then
      bif a0.2.2.1 == a1.2.2.1 then
        bif a0.2.2.2.1 == a1.2.2.2.1 then
          (F.spec_l5Same a0.2.2.2.2.1 a1.2.2.2.2.1).bind fun r1 =>
          bif r1 then
            (F.spec_l7Item a0.2.2.2.2.2.1 a1.2.2.2.2.2.1).bind fun r2 =>
            some r2
          else
            some false
        else
          some false
      else
        some false
    else
      some false
  else
    some false
noncomputable def C.spec_FrameSame : Con := ⟨[.r (.val y11), .r (.val y11)], .one .bool, fun x => F.spec_FrameSame x.1 x.2.1⟩
def L.spec_FrameSame : Loops := fun _ => none
noncomputable def K.spec_FrameSame : Cons := lookK [(83, [], C.spec_l5Same), (84, [], C.spec_l7Item)]
theorem run.spec_FrameSame : ∀ x, runF tb K.spec_FrameSame L.spec_FrameSame [] Try.f30 C.spec_FrameSame x = C.spec_FrameSame.fn x := fun x => by kernel_rfl

/-! ### slices.Equal[[]impl.Span,impl.Span]: function 86 -/
noncomputable def F.slices_Equal_Span.s4 : ((List DSpan) × (List DSpan) × Int × Int × Unit) → Option (Lp ((List DSpan) × (List DSpan) × Int × Int × Unit) Bool) := fun (x1, x2, x3, x4, _) =>
  bif decide (x4 < x3) then
    chk (inb x4 (List.length x1)) <|
    chk (inb x4 (List.length x2)) <|
    bif !(Ty.eqX (.cons (.int .i64) (.cons (.int .i64) .nil)) (List.getD x1 ((Int.toNat x4)) ((0, 0, ()))) (List.getD x2 ((Int.toNat x4)) ((0, 0, ())))) then
      some (.ret false)
    else
      some (.again (x1, x2, x3, w64 (x4 + 1), ()))
  else
    some (.exit (x1, x2, x3, x4, ()))
noncomputable def F.slices_Equal_Span (a0 : List DSpan) (a1 : List DSpan) : Option Bool :=
  bif (len a0) != (len a1) then
    some false
  else
  afterO (loopO F.slices_Equal_Span.s4 (a0, a1, len a0, 0, ())) fun (x5, x6, x7, x8, _) =>
  some true
noncomputable def C.slices_Equal_Span : Con := ⟨[.r (.val (.sl false 106 y0)), .r (.val (.sl false 106 y0))], .one .bool, fun x => F.slices_Equal_Span x.1 x.2.1⟩
def L.slices_Equal_Span : Loops := lookL [(4, ⟨[.pat 0 (.val (.sl false 106 y0)), .pat 1 (.val (.sl false 106 y0)), .pat 12 (.val (.int .i64)), .pat 13 (.val (.int .i64))], 0⟩)]
noncomputable def K.slices_Equal_Span : Cons := lookK []
theorem run.slices_Equal_Span : ∀ x, runF tb K.slices_Equal_Span L.slices_Equal_Span [] Try.f86 C.slices_Equal_Span x = C.slices_Equal_Span.fn x := fun x => by kernel_rfl

/-! ### slices.Equal[[]int,int]: function 169 -/
noncomputable def F.slices_Equal_int.s4 : ((List Int) × (List Int) × Int × Int × Unit) → Option (Lp ((List Int) × (List Int) × Int × Int × Unit) Bool) := fun (x1, x2, x3, x4, _) =>
  bif decide (x4 < x3) then
    chk (inb x4 (List.length x1)) <|
    chk (inb x4 (List.length x2)) <|
    bif (List.getD x1 ((Int.toNat x4)) 0) != (List.getD x2 ((Int.toNat x4)) 0) then
      some (.ret false)
    else
      some (.again (x1, x2, x3, w64 (x4 + 1), ()))
  else
    some (.exit (x1, x2, x3, x4, ()))
noncomputable def F.slices_Equal_int (a0 : List Int) (a1 : List Int) : Option Bool :=
  bif (len a0) != (len a1) then
    some false
  else
  afterO (loopO F.slices_Equal_int.s4 (a0, a1, len a0, 0, ())) fun (x5, x6, x7, x8, _) =>
  some true
noncomputable def C.slices_Equal_int : Con := ⟨[.r (.val (.sl false 3 (.int .i64))), .r (.val (.sl false 3 (.int .i64)))], .one .bool, fun x => F.slices_Equal_int x.1 x.2.1⟩
def L.slices_Equal_int : Loops := lookL [(4, ⟨[.pat 0 (.val (.sl false 3 (.int .i64))), .pat 1 (.val (.sl false 3 (.int .i64))), .pat 12 (.val (.int .i64)), .pat 13 (.val (.int .i64))], 0⟩)]
noncomputable def K.slices_Equal_int : Cons := lookK []
theorem run.slices_Equal_int : ∀ x, runF tb K.slices_Equal_int L.slices_Equal_int [] Try.f169 C.slices_Equal_int x = C.slices_Equal_int.fn x := fun x => by kernel_rfl

/-! ### slices.EqualFunc[[][]int,[][]int,[]int,[]int]: function 170 -/
noncomputable def F.slices_EqualFunc_SSint__slices_Equal_int.s4 : ((List (List Int)) × Unit × (List (List Int)) × Int × Int × Unit) → Option (Lp ((List (List Int)) × Unit × (List (List Int)) × Int × Int × Unit) Bool) := fun (x1, x2, x3, x4, x5, _) =>
  bif decide (x5 < x4) then
    chk (inb x5 (List.length x3)) <|
    chk (inb x5 (List.length x1)) <|
    (F.slices_Equal_int (List.getD x3 ((Int.toNat x5)) (([] : List Int))) (List.getD x1 ((Int.toNat x5)) (([] : List Int)))).bind fun r6 =>
    bif !r6 then
      some (.ret false)
    else
      some (.again (x1, (), x3, x4, w64 (x5 + 1), ()))
  else
    some (.exit (x1, (), x3, x4, x5, ()))
noncomputable def F.slices_EqualFunc_SSint__slices_Equal_int (a0 : List (List Int)) (a1 : List (List Int)) (a2 : Unit) : Option Bool :=
  bif (len a0) != (len a1) then
    some false
  else
  afterO (loopO F.slices_EqualFunc_SSint__slices_Equal_int.s4 (a1, (), a0, len a0, 0, ())) fun (x7, x8, x9, x10, x11, _) =>
  some true
noncomputable def C.slices_EqualFunc_SSint__slices_Equal_int : Con := ⟨[.r (.val (.sl false 43 (.sl false 3 (.int .i64)))), .r (.val (.sl false 43 (.sl false 3 (.int .i64)))), .r (.fn 169 .nil)], .one .bool, fun x => F.slices_EqualFunc_SSint__slices_Equal_int x.1 x.2.1 x.2.2.1⟩
def L.slices_EqualFunc_SSint__slices_Equal_int : Loops := lookL [(4, ⟨[.pat 1 (.val (.sl false 43 (.sl false 3 (.int .i64)))), .pat 2 (.fn 169 .nil), .pat 15 (.val (.sl false 43 (.sl false 3 (.int .i64)))), .pat 16 (.val (.int .i64)), .pat 17 (.val (.int .i64))], 0⟩)]
noncomputable def K.slices_EqualFunc_SSint__slices_Equal_int : Cons := lookK [(169, [], C.slices_Equal_int)]
theorem run.slices_EqualFunc_SSint__slices_Equal_int : ∀ x, runF tb K.slices_EqualFunc_SSint__slices_Equal_int L.slices_EqualFunc_SSint__slices_Equal_int [] Try.f170 C.slices_EqualFunc_SSint__slices_Equal_int x = C.slices_EqualFunc_SSint__slices_Equal_int.fn x := fun x => by kernel_rfl

/-! ### impl.SketchSame: function 134 -/
noncomputable def F.impl_SketchSame (a0 : DSketch) (a1 : DSketch) : Option Bool :=
  bif a0.1 == a1.1 then
    bif a0.2.1 == a1.2.1 then
      bif a0.2.2.1 == a1.2.2.1 then
        bif a0.2.2.2.1 == a1.2.2.2.1 then
          (F.slices_Equal_int a0.2.2.2.2.1 a1.2.2.2.2.1).bind fun r1 =>
          bif r1 then
            (F.slices_Equal_int a0.2.2.2.2.2.1 a1.2.2.2.2.2.1).bind fun r2 =>
            bif r2 then
              (F.slices_EqualFunc_SSint__slices_Equal_int a0.2.2.2.2.2.2.1 a1.2.2.2.2.2.2.1 (())).bind fun r3 =>
              some r3
            else
              some false
          else
            some false
        else
          some false
      else
        some false
    else
      some false
  else
    some false
noncomputable def C.impl_SketchSame : Con := ⟨[.r (.val y5), .r (.val y5)], .one .bool, fun x => F.impl_SketchSame x.1 x.2.1⟩
def L.impl_SketchSame : Loops := fun _ => none
noncomputable def K.impl_SketchSame : Cons := lookK [(169, [], C.slices_Equal_int), (170, [169], C.slices_EqualFunc_SSint__slices_Equal_int)]
theorem run.impl_SketchSame : ∀ x, runF tb K.impl_SketchSame L.impl_SketchSame [] Try.f134 C.impl_SketchSame x = C.impl_SketchSame.fn x := fun x => by kernel_rfl

/-! ### impl.itemSame: function 87 -/
noncomputable def F.impl_itemSame (a0 : DItem) (a1 : DItem) : Option Bool :=
  bif a0.1 == a1.1 then
    bif a0.2.1 == a1.2.1 then
      bif a0.2.2.1 == a1.2.2.1 then
        bif a0.2.2.2.1 == a1.2.2.2.1 then
          (F.impl_SketchSame a0.2.2.2.2.1 a1.2.2.2.2.1).bind fun r1 =>
          some r1
        else
          some false
      else
        some false
    else
      some false
  else
    some false
noncomputable def C.impl_itemSame : Con := ⟨[.r (.val y6), .r (.val y6)], .one .bool, fun x => F.impl_itemSame x.1 x.2.1⟩
def L.impl_itemSame : Loops := fun _ => none
noncomputable def K.impl_itemSame : Cons := lookK [(134, [], C.impl_SketchSame)]
theorem run.impl_itemSame : ∀ x, runF tb K.impl_itemSame L.impl_itemSame [] Try.f87 C.impl_itemSame x = C.impl_itemSame.fn x := fun x => by kernel_rfl

/-! ### impl.FrameSame: function 32 -/
noncomputable def F.impl_FrameSame (a0 : DFrame) (a1 : DFrame) : Option Bool :=
  bif a0.1 == a1.1 then
    bif a0.2.1 == a1.2.1 then
      bif a0.2.2.1 == a1.2.2.1 then
        bif a0.2.2.2.1 == a1.2.2.2.1 then
          (F.slices_Equal_Span a0.2.2.2.2.1 a1.2.2.2.2.1).bind fun r1 =>
          bif r1 then
            (F.impl_itemSame a0.2.2.2.2.2.1 a1.2.2.2.2.2.1).bind fun r2 =>
            some r2
          else
            some false
        else
          some false
      else
        some false
    else
      some false
  else
    some false
noncomputable def C.impl_FrameSame : Con := ⟨[.r (.val y11), .r (.val y11)], .one .bool, fun x => F.impl_FrameSame x.1 x.2.1⟩
def L.impl_FrameSame : Loops := fun _ => none
noncomputable def K.impl_FrameSame : Cons := lookK [(86, [], C.slices_Equal_Span), (87, [], C.impl_itemSame)]
theorem run.impl_FrameSame : ∀ x, runF tb K.impl_FrameSame L.impl_FrameSame [] Try.f32 C.impl_FrameSame x = C.impl_FrameSame.fn x := fun x => by kernel_rfl

/-! ### laws.eqIntS: function 54 -/
noncomputable def F.laws_eqIntS.s4 : ((List Int) × (List Int) × Int × Unit) → Option (Lp ((List Int) × (List Int) × Int × Unit) Bool) := fun (x1, x2, x3, _) =>
  bif decide (x3 < (len x1)) then
    chk (inb x3 (List.length x1)) <|
    chk (inb x3 (List.length x2)) <|
    bif (List.getD x1 ((Int.toNat x3)) 0) != (List.getD x2 ((Int.toNat x3)) 0) then
      some (.ret false)
    else
      some (.again (x1, x2, w64 (x3 + 1), ()))
  else
    some (.exit (x1, x2, x3, ()))
noncomputable def F.laws_eqIntS (a0 : List Int) (a1 : List Int) : Option Bool :=
  bif (len a0) != (len a1) then
    some false
  else
  afterO (loopO F.laws_eqIntS.s4 (a0, a1, 0, ())) fun (x4, x5, x6, _) =>
  some true
noncomputable def C.laws_eqIntS : Con := ⟨[.r (.val (.sl false 3 (.int .i64))), .r (.val (.sl false 3 (.int .i64)))], .one .bool, fun x => F.laws_eqIntS x.1 x.2.1⟩
def L.laws_eqIntS : Loops := lookL [(4, ⟨[.pat 0 (.val (.sl false 3 (.int .i64))), .pat 1 (.val (.sl false 3 (.int .i64))), .pat 5 (.val (.int .i64))], 0⟩)]
noncomputable def K.laws_eqIntS : Cons := lookK []
theorem run.laws_eqIntS : ∀ x, runF tb K.laws_eqIntS L.laws_eqIntS [] Try.f54 C.laws_eqIntS x = C.laws_eqIntS.fn x := fun x => by kernel_rfl

/-! ### laws.eqIntSS: function 171 -/
noncomputable def F.laws_eqIntSS.s4 : ((List (List Int)) × (List (List Int)) × Int × Unit) → Option (Lp ((List (List Int)) × (List (List Int)) × Int × Unit) Bool) := fun (x1, x2, x3, _) =>
  bif decide (x3 < (len x1)) then
    chk (inb x3 (List.length x1)) <|
    chk (inb x3 (List.length x2)) <|
    (F.laws_eqIntS (List.getD x1 ((Int.toNat x3)) (([] : List Int))) (List.getD x2 ((Int.toNat x3)) (([] : List Int)))).bind fun r4 =>
    bif !r4 then
      some (.ret false)
    else
      some (.again (x1, x2, w64 (x3 + 1), ()))
  else
    some (.exit (x1, x2, x3, ()))
noncomputable def F.laws_eqIntSS (a0 : List (List Int)) (a1 : List (List Int)) : Option Bool :=
  bif (len a0) != (len a1) then
    some false
  else
  afterO (loopO F.laws_eqIntSS.s4 (a0, a1, 0, ())) fun (x5, x6, x7, _) =>
  some true
noncomputable def C.laws_eqIntSS : Con := ⟨[.r (.val (.sl false 43 (.sl false 3 (.int .i64)))), .r (.val (.sl false 43 (.sl false 3 (.int .i64))))], .one .bool, fun x => F.laws_eqIntSS x.1 x.2.1⟩
def L.laws_eqIntSS : Loops := lookL [(4, ⟨[.pat 0 (.val (.sl false 43 (.sl false 3 (.int .i64)))), .pat 1 (.val (.sl false 43 (.sl false 3 (.int .i64)))), .pat 5 (.val (.int .i64))], 0⟩)]
noncomputable def K.laws_eqIntSS : Cons := lookK [(54, [], C.laws_eqIntS)]
theorem run.laws_eqIntSS : ∀ x, runF tb K.laws_eqIntSS L.laws_eqIntSS [] Try.f171 C.laws_eqIntSS x = C.laws_eqIntSS.fn x := fun x => by kernel_rfl

/-! ### laws.eqSketch: function 135 -/
noncomputable def F.laws_eqSketch (a0 : DSketch) (a1 : DSketch) : Option Bool :=
  bif a0.1 != a1.1 then
    some false
  else
  bif a0.2.1 != a1.2.1 then
    some false
  else
  bif a0.2.2.1 != a1.2.2.1 then
    some false
  else
  bif a0.2.2.2.1 != a1.2.2.2.1 then
    some false
  else
  (F.laws_eqIntS a0.2.2.2.2.1 a1.2.2.2.2.1).bind fun r1 =>
  bif !r1 then
    some false
  else
  (F.laws_eqIntS a0.2.2.2.2.2.1 a1.2.2.2.2.2.1).bind fun r2 =>
  bif !r2 then
    some false
  else
  (F.laws_eqIntSS a0.2.2.2.2.2.2.1 a1.2.2.2.2.2.2.1).bind fun r3 =>
  bif !r3 then
    some false
  else
    some true
noncomputable def C.laws_eqSketch : Con := ⟨[.r (.val y5), .r (.val y5)], .one .bool, fun x => F.laws_eqSketch x.1 x.2.1⟩
def L.laws_eqSketch : Loops := fun _ => none
noncomputable def K.laws_eqSketch : Cons := lookK [(54, [], C.laws_eqIntS), (171, [], C.laws_eqIntSS)]
theorem run.laws_eqSketch : ∀ x, runF tb K.laws_eqSketch L.laws_eqSketch [] Try.f135 C.laws_eqSketch x = C.laws_eqSketch.fn x := fun x => by kernel_rfl

/-! ### laws.eqItem: function 88 -/
noncomputable def F.laws_eqItem (a0 : DItem) (a1 : DItem) : Option Bool :=
  bif a0.1 != a1.1 then
    some false
  else
  bif a0.2.1 != a1.2.1 then
    some false
  else
  bif a0.2.2.1 != a1.2.2.1 then
    some false
  else
  bif a0.2.2.2.1 != a1.2.2.2.1 then
    some false
  else
  (F.laws_eqSketch a0.2.2.2.2.1 a1.2.2.2.2.1).bind fun r1 =>
  bif !r1 then
    some false
  else
    some true
noncomputable def C.laws_eqItem : Con := ⟨[.r (.val y6), .r (.val y6)], .one .bool, fun x => F.laws_eqItem x.1 x.2.1⟩
def L.laws_eqItem : Loops := fun _ => none
noncomputable def K.laws_eqItem : Cons := lookK [(135, [], C.laws_eqSketch)]
theorem run.laws_eqItem : ∀ x, runF tb K.laws_eqItem L.laws_eqItem [] Try.f88 C.laws_eqItem x = C.laws_eqItem.fn x := fun x => by kernel_rfl

/-! ### laws.eqFrame: function 33 -/
noncomputable def F.laws_eqFrame (a0 : DFrame) (a1 : DFrame) : Option Bool :=
  bif a0.1 != a1.1 then
    some false
  else
  bif a0.2.1 != a1.2.1 then
    some false
  else
  bif a0.2.2.1 != a1.2.2.1 then
    some false
  else
  bif a0.2.2.2.1 != a1.2.2.2.1 then
    some false
  else
  (F.laws_eqSpanS a0.2.2.2.2.1 a1.2.2.2.2.1).bind fun r1 =>
  bif !r1 then
    some false
  else
  (F.laws_eqItem a0.2.2.2.2.2.1 a1.2.2.2.2.2.1).bind fun r2 =>
  bif !r2 then
    some false
  else
    some true
noncomputable def C.laws_eqFrame : Con := ⟨[.r (.val y11), .r (.val y11)], .one .bool, fun x => F.laws_eqFrame x.1 x.2.1⟩
def L.laws_eqFrame : Loops := fun _ => none
noncomputable def K.laws_eqFrame : Cons := lookK [(73, [], C.laws_eqSpanS), (88, [], C.laws_eqItem)]
theorem run.laws_eqFrame : ∀ x, runF tb K.laws_eqFrame L.laws_eqFrame [] Try.f33 C.laws_eqFrame x = C.laws_eqFrame.fn x := fun x => by kernel_rfl

/-! ### laws.FnExactFrameSame: function 6 -/
noncomputable def F.laws_FnExactFrameSame (a0 : DFrame) (a1 : DFrame) : Option Bool :=
  (F.laws_szFrame a0 1048576).bind fun r1 =>
  bif decide (r1 < 0) then
    some true
  else
  (F.laws_szFrame a1 r1).bind fun r2 =>
  bif decide (r2 < 0) then
    some true
  else
  (F.laws_toFrame a0).bind fun r3 =>
  (F.laws_toFrame a1).bind fun r4 =>
  (F.spec_FrameSame r3 r4).bind fun r5 =>
  (F.laws_toFrame a0).bind fun r6 =>
  (F.laws_toFrame a1).bind fun r7 =>
  (F.impl_FrameSame r6 r7).bind fun r8 =>
  bif !(r8 == r5) then
    some false
  else
  (F.laws_toFrame a0).bind fun r9 =>
  (F.laws_eqFrame r6 r9).bind fun r10 =>
  bif !r10 then
    some false
  else
  (F.laws_toFrame a1).bind fun r11 =>
  (F.laws_eqFrame r7 r11).bind fun r12 =>
  bif !r12 then
    some false
  else
    some true
noncomputable def C.laws_FnExactFrameSame : Con := ⟨[.r (.val y7), .r (.val y7)], .one .bool, fun x => F.laws_FnExactFrameSame x.1 x.2.1⟩
def L.laws_FnExactFrameSame : Loops := fun _ => none
noncomputable def K.laws_FnExactFrameSame : Cons := lookK [(29, [], C.laws_szFrame), (30, [], C.spec_FrameSame), (31, [], C.laws_toFrame), (32, [], C.impl_FrameSame), (33, [], C.laws_eqFrame)]
theorem run.laws_FnExactFrameSame : ∀ x, runF tb K.laws_FnExactFrameSame L.laws_FnExactFrameSame [] Try.f6 C.laws_FnExactFrameSame x = C.laws_FnExactFrameSame.fn x := fun x => by kernel_rfl

/-! ### laws.szEntry: function 136 -/
noncomputable def F.laws_szEntry (a0 : DEntry) (a1 : Int) : Option Int :=
  (F.laws_szSpanS a0.2.2.1 a1).bind fun r1 =>
  bif decide (r1 < 0) then
    some (-1)
  else
  (F.laws_szSketch a0.2.2.2.1 r1).bind fun r2 =>
  bif decide (r2 < 0) then
    some (-1)
  else
    some r2
noncomputable def C.laws_szEntry : Con := ⟨[.r (.val y12), .r (.val (.int .i64))], .one (.int .i64), fun x => F.laws_szEntry x.1 x.2.1⟩
def L.laws_szEntry : Loops := fun _ => none
noncomputable def K.laws_szEntry : Cons := lookK [(66, [], C.laws_szSpanS), (131, [], C.laws_szSketch)]
theorem run.laws_szEntry : ∀ x, runF tb K.laws_szEntry L.laws_szEntry [] Try.f136 C.laws_szEntry x = C.laws_szEntry.fn x := fun x => by kernel_rfl

/-! ### laws.szEntryS: function 89 -/
noncomputable def F.laws_szEntryS.s5 : ((List DEntry) × Int × Int × Unit) → Option (Lp ((List DEntry) × Int × Int × Unit) Int) := fun (x1, x2, x3, _) =>
  bif decide (x3 < (len x1)) then
    chk (inb x3 (List.length x1)) <|
    (F.laws_szEntry (List.getD x1 ((Int.toNat x3)) ((0, 0, ([] : List DSpan), (0, 0, 0, 0, ([] : List Int), ([] : List Int), ([] : List (List Int)), ()), ()))) x2).bind fun r4 =>
    bif decide (r4 < 0) then
      some (.ret (-1))
    else
      some (.again (x1, r4, w64 (x3 + 1), ()))
  else
    some (.exit (x1, x2, x3, ()))
noncomputable def F.laws_szEntryS (a0 : List DEntry) (a1 : Int) : Option Int :=
  bif decide ((w64 (a1 - (len a0))) < 0) then
    some (-1)
  else
  afterO (loopO F.laws_szEntryS.s5 (a0, w64 (a1 - (len a0)), 0, ())) fun (x5, x6, x7, _) =>
  some x6
noncomputable def C.laws_szEntryS : Con := ⟨[.r (.val (.sl false 160 y12)), .r (.val (.int .i64))], .one (.int .i64), fun x => F.laws_szEntryS x.1 x.2.1⟩
def L.laws_szEntryS : Loops := lookL [(5, ⟨[.pat 0 (.val (.sl false 160 y12)), .pat 1 (.val (.int .i64)), .pat 5 (.val (.int .i64))], 0⟩)]
noncomputable def K.laws_szEntryS : Cons := lookK [(136, [], C.laws_szEntry)]
theorem run.laws_szEntryS : ∀ x, runF tb K.laws_szEntryS L.laws_szEntryS [] Try.f89 C.laws_szEntryS x = C.laws_szEntryS.fn x := fun x => by kernel_rfl

/-! ### laws.szRow: function 34 -/
noncomputable def F.laws_szRow (a0 : DRow) (a1 : Int) : Option Int :=
  (F.laws_szEntryS a0.1 a1).bind fun r1 =>
  bif decide (r1 < 0) then
    some (-1)
  else
    some r1
noncomputable def C.laws_szRow : Con := ⟨[.r (.val (.cons (.sl false 160 y12) .nil)), .r (.val (.int .i64))], .one (.int .i64), fun x => F.laws_szRow x.1 x.2.1⟩
def L.laws_szRow : Loops := fun _ => none
noncomputable def K.laws_szRow : Cons := lookK [(89, [], C.laws_szEntryS)]
theorem run.laws_szRow : ∀ x, runF tb K.laws_szRow L.laws_szRow [] Try.f34 C.laws_szRow x = C.laws_szRow.fn x := fun x => by kernel_rfl

/-! ### laws.toEntry: function 138 -/
noncomputable def F.laws_toEntry (a0 : DEntry) : Option DEntry :=
  (F.laws_toSpanS a0.2.2.1).bind fun r1 =>
  (F.laws_toSketch a0.2.2.2.1).bind fun r2 =>
  some (a0.1, a0.2.1, r1, r2, ())
noncomputable def C.laws_toEntry : Con := ⟨[.r (.val y12)], .one y13, fun x => F.laws_toEntry x.1⟩
def L.laws_toEntry : Loops := fun _ => none
noncomputable def K.laws_toEntry : Cons := lookK [(70, [], C.laws_toSpanS), (133, [], C.laws_toSketch)]
theorem run.laws_toEntry : ∀ x, runF tb K.laws_toEntry L.laws_toEntry [] Try.f138 C.laws_toEntry x = C.laws_toEntry.fn x := fun x => by kernel_rfl

/-! ### laws.toEntryS: function 91 -/
noncomputable def F.laws_toEntryS.s3 : ((List DEntry) × (List DEntry) × Int × Unit) → Option (Lp ((List DEntry) × (List DEntry) × Int × Unit) ((List DEntry))) := fun (x1, x2, x3, _) =>
  bif decide (x3 < (len x1)) then
    chk (inb x3 (List.length x1)) <|
    (F.laws_toEntry (List.getD x1 ((Int.toNat x3)) ((0, 0, ([] : List DSpan), (0, 0, 0, 0, ([] : List Int), ([] : List Int), ([] : List (List Int)), ()), ())))).bind fun r4 =>
    chk (inb x3 (List.length x2)) <|
    some (.again (x1, List.set x2 ((Int.toNat x3)) r4, w64 (x3 + 1), ()))
  else
    some (.exit (x1, x2, x3, ()))
noncomputable def F.laws_toEntryS (a0 : List DEntry) : Option ((List DEntry)) :=
  chk (mk 144 (len a0) (len a0)) <|
  afterO (loopO F.laws_toEntryS.s3 (a0, List.replicate (Int.toNat (len a0)) ((0, 0, ([] : List DSpan), (0, 0, 0, 0, ([] : List Int), ([] : List Int), ([] : List (List Int)), ()), ())), 0, ())) fun (x5, x6, x7, _) =>
  some x6
noncomputable def C.laws_toEntryS : Con := ⟨[.r (.val (.sl false 160 y12))], .one (.sl true 122 y13), fun x => F.laws_toEntryS x.1⟩
def L.laws_toEntryS : Loops := lookL [(3, ⟨[.pat 0 (.val (.sl false 160 y12)), .own 3 (.sl true 122 y13), .pat 4 (.val (.int .i64))], 0⟩)]
noncomputable def K.laws_toEntryS : Cons := lookK [(138, [], C.laws_toEntry)]
theorem run.laws_toEntryS : ∀ x, runF tb K.laws_toEntryS L.laws_toEntryS [] Try.f91 C.laws_toEntryS x = C.laws_toEntryS.fn x := fun x => by kernel_rfl

/-! ### laws.toRow: function 36 -/
noncomputable def F.laws_toRow (a0 : DRow) : Option DRow :=
  (F.laws_toEntryS a0.1).bind fun r1 =>
  some (r1, ())
noncomputable def C.laws_toRow : Con := ⟨[.r (.val (.cons (.sl false 160 y12) .nil))], .one (.cons (.sl true 122 y13) .nil), fun x => F.laws_toRow x.1⟩
def L.laws_toRow : Loops := fun _ => none
noncomputable def K.laws_toRow : Cons := lookK [(91, [], C.laws_toEntryS)]
theorem run.laws_toRow : ∀ x, runF tb K.laws_toRow L.laws_toRow [] Try.f36 C.laws_toRow x = C.laws_toRow.fn x := fun x => by kernel_rfl

/-! ### spec.EntrySame: function 137 -/
noncomputable def F.spec_EntrySame (a0 : DEntry) (a1 : DEntry) : Option Bool :=
  bif a0.1 == a1.1 then
    bif a0.2.1 == a1.2.1 then
      (F.spec_l5Same a0.2.2.1 a1.2.2.1).bind fun r1 =>
      bif r1 then
        (F.spec_SketchSame a0.2.2.2.1 a1.2.2.2.1).bind fun r2 =>
        some r2
      else
        some false
    else
      some false
  else
    some false
noncomputable def C.spec_EntrySame : Con := ⟨[.r (.val y14), .r (.val y14)], .one .bool, fun x => F.spec_EntrySame x.1 x.2.1⟩
def L.spec_EntrySame : Loops := fun _ => none
noncomputable def K.spec_EntrySame : Cons := lookK [(83, [], C.spec_l5Same), (132, [], C.spec_SketchSame)]
theorem run.spec_EntrySame : ∀ x, runF tb K.spec_EntrySame L.spec_EntrySame [] Try.f137 C.spec_EntrySame x = C.spec_EntrySame.fn x := fun x => by kernel_rfl

/-! ### spec.l10Entries: function 90 -/
noncomputable def F.spec_l10Entries.s4 : ((List DEntry) × (List DEntry) × Int × Unit) → Option (Lp ((List DEntry) × (List DEntry) × Int × Unit) Bool) := fun (x1, x2, x3, _) =>
  bif decide (x3 < (len x1)) then
    chk (inb x3 (List.length x1)) <|
    chk (inb x3 (List.length x2)) <|
    (F.spec_EntrySame (List.getD x1 ((Int.toNat x3)) ((0, 0, ([] : List DSpan), (0, 0, 0, 0, ([] : List Int), ([] : List Int), ([] : List (List Int)), ()), ()))) (List.getD x2 ((Int.toNat x3)) ((0, 0, ([] : List DSpan), (0, 0, 0, 0, ([] : List Int), ([] : List Int), ([] : List (List Int)), ()), ())))).bind fun r4 =>
    bif !r4 then
      some (.ret false)
    else
      some (.again (x1, x2, w64 (x3 + 1), ()))
  else
    some (.exit (x1, x2, x3, ()))
noncomputable def F.spec_l10Entries (a0 : List DEntry) (a1 : List DEntry) : Option Bool :=
  bif (len a0) != (len a1) then
    some false
  else
  afterO (loopO F.spec_l10Entries.s4 (a0, a1, 0, ())) fun (x5, x6, x7, _) =>
  some true
noncomputable def C.spec_l10Entries : Con := ⟨[.r (.val (.sl false 122 y14)), .r (.val (.sl false 122 y14))], .one .bool, fun x => F.spec_l10Entries x.1 x.2.1⟩
def L.spec_l10Entries : Loops := lookL [(4, ⟨[.pat 0 (.val (.sl false 122 y14)), .pat 1 (.val (.sl false 122 y14)), .pat 5 (.val (.int .i64))], 0⟩)]
noncomputable def K.spec_l10Entries : Cons := lookK [(137, [], C.spec_EntrySame)]
theorem run.spec_l10Entries : ∀ x, runF tb K.spec_l10Entries L.spec_l10Entries [] Try.f90 C.spec_l10Entries x = C.spec_l10Entries.fn x := fun x => by kernel_rfl

/-! ### spec.RowSame: function 35 -/
noncomputable def F.spec_RowSame (a0 : DRow) (a1 : DRow) : Option Bool :=
  (F.spec_l10Entries a0.1 a1.1).bind fun r1 =>
  some r1
noncomputable def C.spec_RowSame : Con := ⟨[.r (.val (.cons (.sl false 122 y14) .nil)), .r (.val (.cons (.sl false 122 y14) .nil))], .one .bool, fun x => F.spec_RowSame x.1 x.2.1⟩
def L.spec_RowSame : Loops := fun _ => none
noncomputable def K.spec_RowSame : Cons := lookK [(90, [], C.spec_l10Entries)]
theorem run.spec_RowSame : ∀ x, runF tb K.spec_RowSame L.spec_RowSame [] Try.f35 C.spec_RowSame x = C.spec_RowSame.fn x := fun x => by kernel_rfl

/-! ### impl.EntrySame: function 93 -/
noncomputable def F.impl_EntrySame (a0 : DEntry) (a1 : DEntry) : Option Bool :=
  bif a0.1 == a1.1 then
    bif a0.2.1 == a1.2.1 then
      (F.slices_Equal_Span a0.2.2.1 a1.2.2.1).bind fun r1 =>
      bif r1 then
        (F.impl_SketchSame a0.2.2.2.1 a1.2.2.2.1).bind fun r2 =>
        some r2
      else
        some false
    else
      some false
  else
    some false
noncomputable def C.impl_EntrySame : Con := ⟨[.r (.val y14), .r (.val y14)], .one .bool, fun x => F.impl_EntrySame x.1 x.2.1⟩
def L.impl_EntrySame : Loops := fun _ => none
noncomputable def K.impl_EntrySame : Cons := lookK [(86, [], C.slices_Equal_Span), (134, [], C.impl_SketchSame)]
theorem run.impl_EntrySame : ∀ x, runF tb K.impl_EntrySame L.impl_EntrySame [] Try.f93 C.impl_EntrySame x = C.impl_EntrySame.fn x := fun x => by kernel_rfl

/-! ### slices.EqualFunc[[]impl.Entry,[]impl.Entry,impl.Entry,impl.Entry]: function 92 -/
noncomputable def F.slices_EqualFunc_SimplEntry__impl_EntrySame.s4 : ((List DEntry) × Unit × (List DEntry) × Int × Int × Unit) → Option (Lp ((List DEntry) × Unit × (List DEntry) × Int × Int × Unit) Bool) := fun (x1, x2, x3, x4, x5, _) =>
  bif decide (x5 < x4) then
    chk (inb x5 (List.length x3)) <|
    chk (inb x5 (List.length x1)) <|
    (F.impl_EntrySame (List.getD x3 ((Int.toNat x5)) ((0, 0, ([] : List DSpan), (0, 0, 0, 0, ([] : List Int), ([] : List Int), ([] : List (List Int)), ()), ()))) (List.getD x1 ((Int.toNat x5)) ((0, 0, ([] : List DSpan), (0, 0, 0, 0, ([] : List Int), ([] : List Int), ([] : List (List Int)), ()), ())))).bind fun r6 =>
    bif !r6 then
      some (.ret false)
    else
      some (.again (x1, (), x3, x4, w64 (x5 + 1), ()))
  else
    some (.exit (x1, (), x3, x4, x5, ()))
noncomputable def F.slices_EqualFunc_SimplEntry__impl_EntrySame (a0 : List DEntry) (a1 : List DEntry) (a2 : Unit) : Option Bool :=
  bif (len a0) != (len a1) then
    some false
  else
  afterO (loopO F.slices_EqualFunc_SimplEntry__impl_EntrySame.s4 (a1, (), a0, len a0, 0, ())) fun (x7, x8, x9, x10, x11, _) =>
  some true
noncomputable def C.slices_EqualFunc_SimplEntry__impl_EntrySame : Con := ⟨[.r (.val (.sl false 122 y14)), .r (.val (.sl false 122 y14)), .r (.fn 93 .nil)], .one .bool, fun x => F.slices_EqualFunc_SimplEntry__impl_EntrySame x.1 x.2.1 x.2.2.1⟩
def L.slices_EqualFunc_SimplEntry__impl_EntrySame : Loops := lookL [(4, ⟨[.pat 1 (.val (.sl false 122 y14)), .pat 2 (.fn 93 .nil), .pat 15 (.val (.sl false 122 y14)), .pat 16 (.val (.int .i64)), .pat 17 (.val (.int .i64))], 0⟩)]
noncomputable def K.slices_EqualFunc_SimplEntry__impl_EntrySame : Cons := lookK [(93, [], C.impl_EntrySame)]
theorem run.slices_EqualFunc_SimplEntry__impl_EntrySame : ∀ x, runF tb K.slices_EqualFunc_SimplEntry__impl_EntrySame L.slices_EqualFunc_SimplEntry__impl_EntrySame [] Try.f92 C.slices_EqualFunc_SimplEntry__impl_EntrySame x = C.slices_EqualFunc_SimplEntry__impl_EntrySame.fn x := fun x => by kernel_rfl

/-! ### impl.RowSame: function 37 -/
noncomputable def F.impl_RowSame (a0 : DRow) (a1 : DRow) : Option Bool :=
  (F.slices_EqualFunc_SimplEntry__impl_EntrySame a0.1 a1.1 (())).bind fun r1 =>
  some r1
noncomputable def C.impl_RowSame : Con := ⟨[.r (.val (.cons (.sl false 122 y14) .nil)), .r (.val (.cons (.sl false 122 y14) .nil))], .one .bool, fun x => F.impl_RowSame x.1 x.2.1⟩
def L.impl_RowSame : Loops := fun _ => none
noncomputable def K.impl_RowSame : Cons := lookK [(92, [93], C.slices_EqualFunc_SimplEntry__impl_EntrySame)]
theorem run.impl_RowSame : ∀ x, runF tb K.impl_RowSame L.impl_RowSame [] Try.f37 C.impl_RowSame x = C.impl_RowSame.fn x := fun x => by kernel_rfl

/-! ### laws.eqEntry: function 139 -/
noncomputable def F.laws_eqEntry (a0 : DEntry) (a1 : DEntry) : Option Bool :=
  bif a0.1 != a1.1 then
    some false
  else
  bif a0.2.1 != a1.2.1 then
    some false
  else
  (F.laws_eqSpanS a0.2.2.1 a1.2.2.1).bind fun r1 =>
  bif !r1 then
    some false
  else
  (F.laws_eqSketch a0.2.2.2.1 a1.2.2.2.1).bind fun r2 =>
  bif !r2 then
    some false
  else
    some true
noncomputable def C.laws_eqEntry : Con := ⟨[.r (.val y14), .r (.val y14)], .one .bool, fun x => F.laws_eqEntry x.1 x.2.1⟩
def L.laws_eqEntry : Loops := fun _ => none
noncomputable def K.laws_eqEntry : Cons := lookK [(73, [], C.laws_eqSpanS), (135, [], C.laws_eqSketch)]
theorem run.laws_eqEntry : ∀ x, runF tb K.laws_eqEntry L.laws_eqEntry [] Try.f139 C.laws_eqEntry x = C.laws_eqEntry.fn x := fun x => by kernel_rfl

/-! ### laws.eqEntryS: function 94 -/
noncomputable def F.laws_eqEntryS.s4 : ((List DEntry) × (List DEntry) × Int × Unit) → Option (Lp ((List DEntry) × (List DEntry) × Int × Unit) Bool) := fun (x1, x2, x3, _) =>
  bif decide (x3 < (len x1)) then
    chk (inb x3 (List.length x1)) <|
    chk (inb x3 (List.length x2)) <|
    (F.laws_eqEntry (List.getD x1 ((Int.toNat x3)) ((0, 0, ([] : List DSpan), (0, 0, 0, 0, ([] : List Int), ([] : List Int), ([] : List (List Int)), ()), ()))) (List.getD x2 ((Int.toNat x3)) ((0, 0, ([] : List DSpan), (0, 0, 0, 0, ([] : List Int), ([] : List Int), ([] : List (List Int)), ()), ())))).bind fun r4 =>
    bif !r4 then
      some (.ret false)
    else
      some (.again (x1, x2, w64 (x3 + 1), ()))
  else
    some (.exit (x1, x2, x3, ()))
noncomputable def F.laws_eqEntryS (a0 : List DEntry) (a1 : List DEntry) : Option Bool :=
  bif (len a0) != (len a1) then
    some false
  else
  afterO (loopO F.laws_eqEntryS.s4 (a0, a1, 0, ())) fun (x5, x6, x7, _) =>
  some true
noncomputable def C.laws_eqEntryS : Con := ⟨[.r (.val (.sl false 122 y14)), .r (.val (.sl false 122 y14))], .one .bool, fun x => F.laws_eqEntryS x.1 x.2.1⟩
def L.laws_eqEntryS : Loops := lookL [(4, ⟨[.pat 0 (.val (.sl false 122 y14)), .pat 1 (.val (.sl false 122 y14)), .pat 5 (.val (.int .i64))], 0⟩)]
noncomputable def K.laws_eqEntryS : Cons := lookK [(139, [], C.laws_eqEntry)]
theorem run.laws_eqEntryS : ∀ x, runF tb K.laws_eqEntryS L.laws_eqEntryS [] Try.f94 C.laws_eqEntryS x = C.laws_eqEntryS.fn x := fun x => by kernel_rfl

/-! ### laws.eqRow: function 38 -/
noncomputable def F.laws_eqRow (a0 : DRow) (a1 : DRow) : Option Bool :=
  (F.laws_eqEntryS a0.1 a1.1).bind fun r1 =>
  bif !r1 then
    some false
  else
    some true
noncomputable def C.laws_eqRow : Con := ⟨[.r (.val (.cons (.sl false 122 y14) .nil)), .r (.val (.cons (.sl false 122 y14) .nil))], .one .bool, fun x => F.laws_eqRow x.1 x.2.1⟩
def L.laws_eqRow : Loops := fun _ => none
noncomputable def K.laws_eqRow : Cons := lookK [(94, [], C.laws_eqEntryS)]
theorem run.laws_eqRow : ∀ x, runF tb K.laws_eqRow L.laws_eqRow [] Try.f38 C.laws_eqRow x = C.laws_eqRow.fn x := fun x => by kernel_rfl

/-! ### laws.FnExactRowSame: function 7 -/
noncomputable def F.laws_FnExactRowSame (a0 : DRow) (a1 : DRow) : Option Bool :=
  (F.laws_szRow a0 1048576).bind fun r1 =>
  bif decide (r1 < 0) then
    some true
  else
  (F.laws_szRow a1 r1).bind fun r2 =>
  bif decide (r2 < 0) then
    some true
  else
  (F.laws_toRow a0).bind fun r3 =>
  (F.laws_toRow a1).bind fun r4 =>
  (F.spec_RowSame r3 r4).bind fun r5 =>
  (F.laws_toRow a0).bind fun r6 =>
  (F.laws_toRow a1).bind fun r7 =>
  (F.impl_RowSame r6 r7).bind fun r8 =>
  bif !(r8 == r5) then
    some false
  else
  (F.laws_toRow a0).bind fun r9 =>
  (F.laws_eqRow r6 r9).bind fun r10 =>
  bif !r10 then
    some false
  else
  (F.laws_toRow a1).bind fun r11 =>
  (F.laws_eqRow r7 r11).bind fun r12 =>
  bif !r12 then
    some false
  else
    some true
noncomputable def C.laws_FnExactRowSame : Con := ⟨[.r (.val (.cons (.sl false 160 y12) .nil)), .r (.val (.cons (.sl false 160 y12) .nil))], .one .bool, fun x => F.laws_FnExactRowSame x.1 x.2.1⟩
def L.laws_FnExactRowSame : Loops := fun _ => none
noncomputable def K.laws_FnExactRowSame : Cons := lookK [(34, [], C.laws_szRow), (35, [], C.spec_RowSame), (36, [], C.laws_toRow), (37, [], C.impl_RowSame), (38, [], C.laws_eqRow)]
theorem run.laws_FnExactRowSame : ∀ x, runF tb K.laws_FnExactRowSame L.laws_FnExactRowSame [] Try.f7 C.laws_FnExactRowSame x = C.laws_FnExactRowSame.fn x := fun x => by kernel_rfl

/-! ### spec.l6Agent: function 95 -/
noncomputable def F.spec_l6Agent (a0 : Int) : Option Bool :=
  (F.spec_l1In a0 0 2).bind fun r1 =>
  some r1
noncomputable def C.spec_l6Agent : Con := ⟨[.r (.val (.int .i64))], .one .bool, fun x => F.spec_l6Agent x.1⟩
def L.spec_l6Agent : Loops := fun _ => none
noncomputable def K.spec_l6Agent : Cons := lookK [(69, [], C.spec_l1In)]
theorem run.spec_l6Agent : ∀ x, runF tb K.spec_l6Agent L.spec_l6Agent [] Try.f95 C.spec_l6Agent x = C.spec_l6Agent.fn x := fun x => by kernel_rfl

/-! ### spec.l6Place: function 140 -/
noncomputable def F.spec_l6Place (a0 : Int) (a1 : Int) : Option Bool :=
  (F.spec_l1In a0 0 4).bind fun r1 =>
  bif r1 then
    (F.spec_l1In a1 0 20).bind fun r2 =>
    some r2
  else
    some false
noncomputable def C.spec_l6Place : Con := ⟨[.r (.val (.int .i64)), .r (.val (.int .i64))], .one .bool, fun x => F.spec_l6Place x.1 x.2.1⟩
def L.spec_l6Place : Loops := fun _ => none
noncomputable def K.spec_l6Place : Cons := lookK [(69, [], C.spec_l1In)]
theorem run.spec_l6Place : ∀ x, runF tb K.spec_l6Place L.spec_l6Place [] Try.f140 C.spec_l6Place x = C.spec_l6Place.fn x := fun x => by kernel_rfl

/-! ### spec.l3List: function 172 -/
noncomputable def F.spec_l3List.s4 : ((List Int) × Int × Int × Bool × Int × Unit) → Option (Lp ((List Int) × Int × Int × Bool × Int × Unit) Bool) := fun (x1, x2, x3, x4, x5, _) =>
  bif decide (x5 < x2) then
    chk (inb x5 (List.length x1)) <|
    (F.spec_l1In (List.getD x1 ((Int.toNat x5)) 0) 0 x3).bind fun r6 =>
    bif !r6 then
      some (.ret false)
    else
    bif x4 then
      chk (inb x5 (List.length x1)) <|
      bif (List.getD x1 ((Int.toNat x5)) 0) != 0 then
        some (.ret false)
      else
        some (.again (x1, x2, x3, x4, w64 (x5 + 1), ()))
    else
      some (.again (x1, x2, x3, x4, w64 (x5 + 1), ()))
  else
    some (.exit (x1, x2, x3, x4, x5, ()))
noncomputable def F.spec_l3List (a0 : List Int) (a1 : Int) (a2 : Int) (a3 : Bool) : Option Bool :=
  bif (len a0) != a1 then
    some false
  else
  afterO (loopO F.spec_l3List.s4 (a0, a1, a2, a3, 0, ())) fun (x7, x8, x9, x10, x11, _) =>
  some true
noncomputable def C.spec_l3List : Con := ⟨[.r (.val (.sl false 3 (.int .i64))), .r (.val (.int .i64)), .r (.val (.int .i64)), .r (.val .bool)], .one .bool, fun x => F.spec_l3List x.1 x.2.1 x.2.2.1 x.2.2.2.1⟩
def L.spec_l3List : Loops := lookL [(4, ⟨[.pat 0 (.val (.sl false 3 (.int .i64))), .pat 1 (.val (.int .i64)), .pat 2 (.val (.int .i64)), .pat 3 (.val .bool), .pat 9 (.val (.int .i64))], 0⟩)]
noncomputable def K.spec_l3List : Cons := lookK [(69, [], C.spec_l1In)]
theorem run.spec_l3List : ∀ x, runF tb K.spec_l3List L.spec_l3List [] Try.f172 C.spec_l3List x = C.spec_l3List.fn x := fun x => by kernel_rfl

/-! ### spec.SketchOk: function 141 -/
noncomputable def F.spec_SketchOk (a0 : DSketch) : Option Bool :=
  (F.spec_l1In a0.1 0 1000000000).bind fun r1 =>
  bif !r1 then
    some false
  else
  (F.spec_l1In a0.2.1 0 1000000000).bind fun r2 =>
  bif !r2 then
    some false
  else
  (F.spec_l1In a0.2.2.1 0 1000000).bind fun r3 =>
  bif !r3 then
    some false
  else
  (F.spec_l1In a0.2.2.2.1 0 1000000).bind fun r4 =>
  bif !r4 then
    some false
  else
  bif decide (a0.2.2.1 > a0.2.2.2.1) then
    some false
  else
  bif (len a0.2.2.2.2.2.2.1) != 2 then
    some false
  else
  bif a0.1 == 0 then
    bif a0.2.1 != 0 then
      some false
    else
    bif a0.2.2.2.1 != 0 then
      some false
    else
    (F.spec_l3List a0.2.2.2.2.1 8 1000000000 (a0.1 == 0)).bind fun r5 =>
    bif r5 then
      (F.spec_l3List a0.2.2.2.2.2.1 8 17 (a0.1 == 0)).bind fun r6 =>
      bif r6 then
        chk (inb 0 (List.length a0.2.2.2.2.2.2.1)) <|
        (F.spec_l3List (List.getD a0.2.2.2.2.2.2.1 0 (([] : List Int))) 4 1000000000 (a0.1 == 0)).bind fun r7 =>
        bif r7 then
          chk (inb 1 (List.length a0.2.2.2.2.2.2.1)) <|
          (F.spec_l3List (List.getD a0.2.2.2.2.2.2.1 1 (([] : List Int))) 4 1000000000 (a0.1 == 0)).bind fun r8 =>
          some r8
        else
          some false
      else
        some false
    else
      some false
  else
  (F.spec_l3List a0.2.2.2.2.1 8 1000000000 (a0.1 == 0)).bind fun r9 =>
  bif r9 then
    (F.spec_l3List a0.2.2.2.2.2.1 8 17 (a0.1 == 0)).bind fun r10 =>
    bif r10 then
      chk (inb 0 (List.length a0.2.2.2.2.2.2.1)) <|
      (F.spec_l3List (List.getD a0.2.2.2.2.2.2.1 0 (([] : List Int))) 4 1000000000 (a0.1 == 0)).bind fun r11 =>
      bif r11 then
        chk (inb 1 (List.length a0.2.2.2.2.2.2.1)) <|
        (F.spec_l3List (List.getD a0.2.2.2.2.2.2.1 1 (([] : List Int))) 4 1000000000 (a0.1 == 0)).bind fun r12 =>
        some r12
      else
        some false
    else
      some false
  else
    some false
noncomputable def C.spec_SketchOk : Con := ⟨[.r (.val y5)], .one .bool, fun x => F.spec_SketchOk x.1⟩
def L.spec_SketchOk : Loops := fun _ => none
noncomputable def K.spec_SketchOk : Cons := lookK [(69, [], C.spec_l1In), (172, [], C.spec_l3List)]
theorem run.spec_SketchOk : ∀ x, runF tb K.spec_SketchOk L.spec_SketchOk [] Try.f141 C.spec_SketchOk x = C.spec_SketchOk.fn x := fun x => by kernel_rfl

/-! ### spec.ItemOk: function 97 -/
noncomputable def F.spec_ItemOk (a0 : DItem) : Option Bool :=
  (F.spec_l1In a0.1 1 60).bind fun r1 =>
  bif r1 then
    (F.spec_l1In a0.2.1 0 1).bind fun r2 =>
    bif r2 then
      (F.spec_l6Place a0.2.2.1 a0.2.2.2.1).bind fun r3 =>
      bif r3 then
        (F.spec_SketchOk a0.2.2.2.2.1).bind fun r4 =>
        some r4
      else
        some false
    else
      some false
  else
    some false
noncomputable def C.spec_ItemOk : Con := ⟨[.r (.val y6)], .one .bool, fun x => F.spec_ItemOk x.1⟩
def L.spec_ItemOk : Loops := fun _ => none
noncomputable def K.spec_ItemOk : Cons := lookK [(69, [], C.spec_l1In), (140, [], C.spec_l6Place), (141, [], C.spec_SketchOk)]
theorem run.spec_ItemOk : ∀ x, runF tb K.spec_ItemOk L.spec_ItemOk [] Try.f97 C.spec_ItemOk x = C.spec_ItemOk.fn x := fun x => by kernel_rfl

/-! ### spec.l7Zero: function 98 -/
noncomputable def F.spec_l7Zero (a0 : DItem) : Option Bool :=
  bif a0.1 == 0 then
    bif a0.2.1 == 0 then
      bif a0.2.2.1 == 0 then
        bif a0.2.2.2.1 == 0 then
          bif a0.2.2.2.2.1.1 == 0 then
            bif a0.2.2.2.2.1.2.1 == 0 then
              bif a0.2.2.2.2.1.2.2.1 == 0 then
                bif a0.2.2.2.2.1.2.2.2.1 == 0 then
                  bif (len a0.2.2.2.2.1.2.2.2.2.1) == 0 then
                    bif (len a0.2.2.2.2.1.2.2.2.2.2.1) == 0 then
                      some ((len a0.2.2.2.2.1.2.2.2.2.2.2.1) == 0)
                    else
                      some false
                  else
                    some false
                else
                  some false
              else
                some false
            else
              some false
          else
            some false
        else
          some false
      else
        some false
    else
      some false
  else
    some false
noncomputable def C.spec_l7Zero : Con := ⟨[.r (.val y6)], .one .bool, fun x => F.spec_l7Zero x.1⟩
def L.spec_l7Zero : Loops := fun _ => none
noncomputable def K.spec_l7Zero : Cons := lookK []
theorem run.spec_l7Zero : ∀ x, runF tb K.spec_l7Zero L.spec_l7Zero [] Try.f98 C.spec_l7Zero x = C.spec_l7Zero.fn x := fun x => by kernel_rfl

/-! ### spec.FrameOk: function 39 -/
noncomputable def F.spec_FrameOk.s4 : (Int × DFrame × Unit) → Option (Lp (Int × DFrame × Unit) Bool) := fun (x6, x7, _) =>
  bif decide (x6 < (len x7.2.2.2.2.1)) then
    chk (inb x6 (List.length x7.2.2.2.2.1)) <|
    bif decide (((List.getD x7.2.2.2.2.1 ((Int.toNat x6)) ((0, 0, ()))).1) < 1) then
      some (.ret false)
    else
    chk (inb x6 (List.length x7.2.2.2.2.1)) <|
    bif decide ((((List.getD x7.2.2.2.2.1 ((Int.toNat x6)) ((0, 0, ()))).2).1) > 60) then
      some (.ret false)
    else
      some (.again (w64 (x6 + 1), x7, ()))
  else
    some (.exit (x6, x7, ()))
noncomputable def F.spec_FrameOk (a0 : DFrame) : Option Bool :=
  (F.spec_l1In a0.1 0 3).bind fun r1 =>
  bif !r1 then
    some false
  else
  (F.spec_l6Agent a0.2.1).bind fun r2 =>
  bif !r2 then
    some false
  else
  (F.spec_l1In a0.2.2.1 0 1000).bind fun r3 =>
  bif !r3 then
    some false
  else
  (F.spec_l1In a0.2.2.2.1 0 60).bind fun r4 =>
  bif !r4 then
    some false
  else
  (F.spec_SetOk a0.2.2.2.2.1).bind fun r5 =>
  bif !r5 then
    some false
  else
  afterO (loopO F.spec_FrameOk.s4 (0, a0, ())) fun (x8, x9, _) =>
  bif x9.1 == 1 then
    (F.spec_ItemOk x9.2.2.2.2.2.1).bind fun r10 =>
    some r10
  else
  (F.spec_l7Zero x9.2.2.2.2.2.1).bind fun r11 =>
  some r11
noncomputable def C.spec_FrameOk : Con := ⟨[.r (.val y11)], .one .bool, fun x => F.spec_FrameOk x.1⟩
def L.spec_FrameOk : Loops := lookL [(4, ⟨[.pat 3 (.val (.int .i64)), .root 1 true y11 [1]], 0⟩)]
noncomputable def K.spec_FrameOk : Cons := lookK [(69, [], C.spec_l1In), (95, [], C.spec_l6Agent), (96, [], C.spec_SetOk), (97, [], C.spec_ItemOk), (98, [], C.spec_l7Zero)]
theorem run.spec_FrameOk : ∀ x, runF tb K.spec_FrameOk L.spec_FrameOk [] Try.f39 C.spec_FrameOk x = C.spec_FrameOk.fn x := fun x => by kernel_rfl

/-! ### impl.copyInts: function 177 -/
noncomputable def F.impl_copyInts (a0 : List Int) : Option ((List Int)) :=
  chk (fits (List.length a0) 8) <|
  some a0
noncomputable def C.impl_copyInts : Con := ⟨[.r (.val (.sl false 3 (.int .i64)))], .one (.sl true 3 (.int .i64)), fun x => F.impl_copyInts x.1⟩
def L.impl_copyInts : Loops := fun _ => none
noncomputable def K.impl_copyInts : Cons := lookK []
theorem run.impl_copyInts : ∀ x, runF tb K.impl_copyInts L.impl_copyInts [] Try.f177 C.impl_copyInts x = C.impl_copyInts.fn x := fun x => by kernel_rfl

/-! ### impl.counts: function 152 -/
noncomputable def F.impl_counts.s3 : ((List Int) × (List (List Int)) × Int × Int × Unit) → Option (Lp ((List Int) × (List (List Int)) × Int × Int × Unit) ((List Int))) := fun (x2, x3, x4, x5, _) =>
  bif decide (x5 < x4) then
    chk (inb x5 (List.length x3)) <|
    chk (fits (List.length x2 + List.length (List.getD x3 ((Int.toNat x5)) (([] : List Int)))) 8) <|
    some (.again (x2 ++ (List.getD x3 ((Int.toNat x5)) (([] : List Int))), x3, x4, w64 (x5 + 1), ()))
  else
    some (.exit (x2, x3, x4, x5, ()))
noncomputable def F.impl_counts (a0 : DSketch) : Option ((List Int)) :=
  (F.impl_copyInts a0.2.2.2.2.1).bind fun r1 =>
  chk (fits (List.length r1 + List.length a0.2.2.2.2.2.1) 8) <|
  afterO (loopO F.impl_counts.s3 (r1 ++ a0.2.2.2.2.2.1, a0.2.2.2.2.2.2.1, len a0.2.2.2.2.2.2.1, 0, ())) fun (x6, x7, x8, x9, _) =>
  some x6
noncomputable def C.impl_counts : Con := ⟨[.r (.val y5)], .one (.sl true 3 (.int .i64)), fun x => F.impl_counts x.1⟩
def L.impl_counts : Loops := lookL [(3, ⟨[.own 3 (.sl true 3 (.int .i64)), .pat 13 (.val (.sl false 43 (.sl false 3 (.int .i64)))), .pat 14 (.val (.int .i64)), .pat 15 (.val (.int .i64))], 0⟩)]
noncomputable def K.impl_counts : Cons := lookK [(177, [], C.impl_copyInts)]
theorem run.impl_counts : ∀ x, runF tb K.impl_counts L.impl_counts [] Try.f152 C.impl_counts x = C.impl_counts.fn x := fun x => by kernel_rfl

/-! ### impl.SketchOk: function 142 -/
noncomputable def F.impl_SketchOk.s5 : (Int × (List Int) × Int × Int × DSketch × Unit) → Option (Lp (Int × (List Int) × Int × Int × DSketch × Unit) Bool) := fun (x2, x3, x4, x5, x6, _) =>
  bif decide (x5 < x4) then
    chk (inb x5 (List.length x3)) <|
    (F.impl_within (List.getD x3 ((Int.toNat x5)) 0) 0 1000000000).bind fun r7 =>
    bif !r7 then
      some (.ret false)
    else
      some (.again (w64 (x2 + (List.getD x3 ((Int.toNat x5)) 0)), x3, x4, w64 (x5 + 1), x6, ()))
  else
    some (.exit (x2, x3, x4, x5, x6, ()))
noncomputable def F.impl_SketchOk.s12 : (Int × (List Int) × Int × Int × DSketch × Unit) → Option (Lp (Int × (List Int) × Int × Int × DSketch × Unit) Bool) := fun (x13, x14, x15, x16, x17, _) =>
  bif decide (x16 < x15) then
    chk (inb x16 (List.length x14)) <|
    bif decide ((List.getD x14 ((Int.toNat x16)) 0) > 17) then
      some (.ret false)
    else
      some (.again (x13, x14, x15, w64 (x16 + 1), x17, ()))
  else
    some (.exit (x13, x14, x15, x16, x17, ()))
noncomputable def F.impl_SketchOk (a0 : DSketch) : Option Bool :=
  bif (len a0.2.2.2.2.1) != 8 then
    some false
  else
  bif (len a0.2.2.2.2.2.1) != 8 then
    some false
  else
  bif (len a0.2.2.2.2.2.2.1) != 2 then
    some false
  else
  chk (inb 0 (List.length a0.2.2.2.2.2.2.1)) <|
  bif (len (List.getD a0.2.2.2.2.2.2.1 0 (([] : List Int)))) != 4 then
    some false
  else
  chk (inb 1 (List.length a0.2.2.2.2.2.2.1)) <|
  bif (len (List.getD a0.2.2.2.2.2.2.1 1 (([] : List Int)))) != 4 then
    some false
  else
  (F.impl_counts a0).bind fun r1 =>
  chk (fits (List.length r1 + List.length ([a0.1, a0.2.1, a0.2.2.1, a0.2.2.2.1])) 8) <|
  afterO (loopO F.impl_SketchOk.s5 (0, r1 ++ ([a0.1, a0.2.1, a0.2.2.1, a0.2.2.2.1]), len (r1 ++ ([a0.1, a0.2.1, a0.2.2.1, a0.2.2.2.1])), 0, a0, ())) fun (x8, x9, x10, x11, x12, _) =>
  afterO (loopO F.impl_SketchOk.s12 (x8, x12.2.2.2.2.2.1, len x12.2.2.2.2.2.1, 0, x12, ())) fun (x18, x19, x20, x21, x22, _) =>
  bif x22.1 == 0 then
    some (x18 == 0)
  else
  bif decide (x22.2.2.1 ≤ x22.2.2.2.1) then
    some (decide (x22.2.2.2.1 ≤ 1000000))
  else
    some false
noncomputable def C.impl_SketchOk : Con := ⟨[.r (.val y5)], .one .bool, fun x => F.impl_SketchOk x.1⟩
def L.impl_SketchOk : Loops := lookL [(5, ⟨[.pat 3 (.val (.int .i64)), .own 51 (.sl true 3 (.int .i64)), .pat 52 (.val (.int .i64)), .pat 53 (.val (.int .i64)), .root 1 true y5 [1]], 0⟩), (12, ⟨[.pat 3 (.val (.int .i64)), .pat 65 (.val (.sl false 3 (.int .i64))), .pat 66 (.val (.int .i64)), .pat 67 (.val (.int .i64)), .root 1 true y5 [1]], 2⟩)]
noncomputable def K.impl_SketchOk : Cons := lookK [(72, [], C.impl_within), (152, [], C.impl_counts)]
theorem run.impl_SketchOk : ∀ x, runF tb K.impl_SketchOk L.impl_SketchOk [] Try.f142 C.impl_SketchOk x = C.impl_SketchOk.fn x := fun x => by kernel_rfl

/-! ### impl.ItemOk: function 99 -/
noncomputable def F.impl_ItemOk (a0 : DItem) : Option Bool :=
  (F.impl_within a0.1 1 60).bind fun r1 =>
  bif r1 then
    (F.impl_within a0.2.1 0 1).bind fun r2 =>
    bif r2 then
      (F.impl_within a0.2.2.1 0 4).bind fun r3 =>
      bif r3 then
        (F.impl_within a0.2.2.2.1 0 20).bind fun r4 =>
        bif r4 then
          (F.impl_SketchOk a0.2.2.2.2.1).bind fun r5 =>
          some r5
        else
          some false
      else
        some false
    else
      some false
  else
    some false
noncomputable def C.impl_ItemOk : Con := ⟨[.r (.val y6)], .one .bool, fun x => F.impl_ItemOk x.1⟩
def L.impl_ItemOk : Loops := fun _ => none
noncomputable def K.impl_ItemOk : Cons := lookK [(72, [], C.impl_within), (142, [], C.impl_SketchOk)]
theorem run.impl_ItemOk : ∀ x, runF tb K.impl_ItemOk L.impl_ItemOk [] Try.f99 C.impl_ItemOk x = C.impl_ItemOk.fn x := fun x => by kernel_rfl

/-! ### impl.FrameOk: function 40 -/
noncomputable def F.impl_FrameOk (a0 : DFrame) : Option Bool :=
  (F.impl_within a0.1 0 3).bind fun r1 =>
  bif !r1 then
    some false
  else
  (F.impl_within a0.2.1 0 2).bind fun r2 =>
  bif !r2 then
    some false
  else
  (F.impl_within a0.2.2.1 0 1000).bind fun r3 =>
  bif !r3 then
    some false
  else
  (F.impl_within a0.2.2.2.1 0 60).bind fun r4 =>
  bif !r4 then
    some false
  else
  (F.impl_allIn a0.2.2.2.2.1 1 60).bind fun r5 =>
  bif !r5 then
    some false
  else
  bif a0.1 == 1 then
    (F.impl_ItemOk a0.2.2.2.2.2.1).bind fun r6 =>
    some r6
  else
  (F.impl_itemSame a0.2.2.2.2.2.1 ((0, 0, 0, 0, (0, 0, 0, 0, ([] : List Int), ([] : List Int), ([] : List (List Int)), ()), ()))).bind fun r7 =>
  some r7
noncomputable def C.impl_FrameOk : Con := ⟨[.r (.val y11)], .one .bool, fun x => F.impl_FrameOk x.1⟩
def L.impl_FrameOk : Loops := fun _ => none
noncomputable def K.impl_FrameOk : Cons := lookK [(72, [], C.impl_within), (80, [], C.impl_allIn), (87, [], C.impl_itemSame), (99, [], C.impl_ItemOk)]
theorem run.impl_FrameOk : ∀ x, runF tb K.impl_FrameOk L.impl_FrameOk [] Try.f40 C.impl_FrameOk x = C.impl_FrameOk.fn x := fun x => by kernel_rfl

/-! ### laws.FnExactFrameOk: function 8 -/
noncomputable def F.laws_FnExactFrameOk (a0 : DFrame) : Option Bool :=
  (F.laws_szFrame a0 1048576).bind fun r1 =>
  bif decide (r1 < 0) then
    some true
  else
  (F.laws_toFrame a0).bind fun r2 =>
  (F.spec_FrameOk r2).bind fun r3 =>
  (F.laws_toFrame a0).bind fun r4 =>
  (F.impl_FrameOk r4).bind fun r5 =>
  bif !(r5 == r3) then
    some false
  else
  (F.laws_toFrame a0).bind fun r6 =>
  (F.laws_eqFrame r4 r6).bind fun r7 =>
  bif !r7 then
    some false
  else
    some true
noncomputable def C.laws_FnExactFrameOk : Con := ⟨[.r (.val y7)], .one .bool, fun x => F.laws_FnExactFrameOk x.1⟩
def L.laws_FnExactFrameOk : Loops := fun _ => none
noncomputable def K.laws_FnExactFrameOk : Cons := lookK [(29, [], C.laws_szFrame), (31, [], C.laws_toFrame), (33, [], C.laws_eqFrame), (39, [], C.spec_FrameOk), (40, [], C.impl_FrameOk)]
theorem run.laws_FnExactFrameOk : ∀ x, runF tb K.laws_FnExactFrameOk L.laws_FnExactFrameOk [] Try.f8 C.laws_FnExactFrameOk x = C.laws_FnExactFrameOk.fn x := fun x => by kernel_rfl

/-! ### spec.EntryOk: function 100 -/
noncomputable def F.spec_EntryOk (a0 : DEntry) : Option Bool :=
  (F.spec_l6Place a0.1 a0.2.1).bind fun r1 =>
  bif r1 then
    bif decide ((len a0.2.2.1) > 0) then
      (F.spec_SetOk a0.2.2.1).bind fun r2 =>
      bif r2 then
        (F.spec_SketchOk a0.2.2.2.1).bind fun r3 =>
        some r3
      else
        some false
    else
      some false
  else
    some false
noncomputable def C.spec_EntryOk : Con := ⟨[.r (.val y14)], .one .bool, fun x => F.spec_EntryOk x.1⟩
def L.spec_EntryOk : Loops := fun _ => none
noncomputable def K.spec_EntryOk : Cons := lookK [(96, [], C.spec_SetOk), (140, [], C.spec_l6Place), (141, [], C.spec_SketchOk)]
theorem run.spec_EntryOk : ∀ x, runF tb K.spec_EntryOk L.spec_EntryOk [] Try.f100 C.spec_EntryOk x = C.spec_EntryOk.fn x := fun x => by kernel_rfl

/-! ### spec.SetApart: function 101 -/
noncomputable def F.spec_SetApart.s7 : ((List DSpan) × (List DSpan) × Int × Int × Unit) → Option (Lp ((List DSpan) × (List DSpan) × Int × Int × Unit) (Lp ((List DSpan) × (List DSpan) × Int × Unit) Bool)) := fun (x6, x7, x8, x9, _) =>
  bif decide (x9 < (len x7)) then
    chk (inb x8 (List.length x6)) <|
    chk (inb x9 (List.length x7)) <|
    bif decide (((List.getD x6 ((Int.toNat x8)) ((0, 0, ()))).1) ≤ (((List.getD x7 ((Int.toNat x9)) ((0, 0, ()))).2).1)) then
      chk (inb x9 (List.length x7)) <|
      chk (inb x8 (List.length x6)) <|
      bif decide (((List.getD x7 ((Int.toNat x9)) ((0, 0, ()))).1) ≤ (((List.getD x6 ((Int.toNat x8)) ((0, 0, ()))).2).1)) then
        some (.ret (.ret false))
      else
        some (.again (x6, x7, x8, w64 (x9 + 1), ()))
    else
      some (.again (x6, x7, x8, w64 (x9 + 1), ()))
  else
    some (.exit (x6, x7, x8, x9, ()))
noncomputable def F.spec_SetApart.s4 : ((List DSpan) × (List DSpan) × Int × Unit) → Option (Lp ((List DSpan) × (List DSpan) × Int × Unit) Bool) := fun (x3, x4, x5, _) =>
  bif decide (x5 < (len x3)) then
    afterO (loopO F.spec_SetApart.s7 (x3, x4, x5, 0, ())) fun (x10, x11, x12, x13, _) =>
    some (.again (x10, x11, w64 (x12 + 1), ()))
  else
    some (.exit (x3, x4, x5, ()))
noncomputable def F.spec_SetApart (a0 : List DSpan) (a1 : List DSpan) : Option Bool :=
  (F.spec_SetOk a0).bind fun r1 =>
  bif !r1 then
    some false
  else
  (F.spec_SetOk a1).bind fun r2 =>
  bif !r2 then
    some false
  else
  afterO (loopO F.spec_SetApart.s4 (a0, a1, 0, ())) fun (x14, x15, x16, _) =>
  some true
noncomputable def C.spec_SetApart : Con := ⟨[.r (.val (.sl false 106 y0)), .r (.val (.sl false 106 y0))], .one .bool, fun x => F.spec_SetApart x.1 x.2.1⟩
def L.spec_SetApart : Loops := lookL [(7, ⟨[.pat 0 (.val (.sl false 106 y0)), .pat 1 (.val (.sl false 106 y0)), .pat 5 (.val (.int .i64)), .pat 6 (.val (.int .i64))], 2⟩), (4, ⟨[.pat 0 (.val (.sl false 106 y0)), .pat 1 (.val (.sl false 106 y0)), .pat 5 (.val (.int .i64))], 0⟩)]
noncomputable def K.spec_SetApart : Cons := lookK [(96, [], C.spec_SetOk)]
theorem run.spec_SetApart : ∀ x, runF tb K.spec_SetApart L.spec_SetApart [] Try.f101 C.spec_SetApart x = C.spec_SetApart.fn x := fun x => by kernel_rfl

/-! ### spec.RowOk: function 41 -/
noncomputable def F.spec_RowOk.s9 : (Int × Int × DRow × Unit) → Option (Lp (Int × Int × DRow × Unit) (Lp (Int × DRow × Unit) Bool)) := fun (x4, x5, x6, _) =>
  bif decide (x5 < x4) then
    chk (inb x4 (List.length x6.1)) <|
    chk (inb x5 (List.length x6.1)) <|
    (F.spec_SetApart ((((List.getD x6.1 ((Int.toNat x4)) ((0, 0, ([] : List DSpan), (0, 0, 0, 0, ([] : List Int), ([] : List Int), ([] : List (List Int)), ()), ()))).2).2).1) ((((List.getD x6.1 ((Int.toNat x5)) ((0, 0, ([] : List DSpan), (0, 0, 0, 0, ([] : List Int), ([] : List Int), ([] : List (List Int)), ()), ()))).2).2).1)).bind fun r7 =>
    bif !r7 then
      some (.ret (.ret false))
    else
      some (.again (x4, w64 (x5 + 1), x6, ()))
  else
    some (.exit (x4, x5, x6, ()))
noncomputable def F.spec_RowOk.s4 : (Int × DRow × Unit) → Option (Lp (Int × DRow × Unit) Bool) := fun (x1, x2, _) =>
  bif decide (x1 < (len x2.1)) then
    chk (inb x1 (List.length x2.1)) <|
    (F.spec_EntryOk (List.getD x2.1 ((Int.toNat x1)) ((0, 0, ([] : List DSpan), (0, 0, 0, 0, ([] : List Int), ([] : List Int), ([] : List (List Int)), ()), ())))).bind fun r3 =>
    bif !r3 then
      some (.ret false)
    else
    afterO (loopO F.spec_RowOk.s9 (x1, 0, x2, ())) fun (x8, x9, x10, _) =>
    some (.again (w64 (x8 + 1), x10, ()))
  else
    some (.exit (x1, x2, ()))
noncomputable def F.spec_RowOk (a0 : DRow) : Option Bool :=
  bif decide ((len a0.1) > 24) then
    some false
  else
  afterO (loopO F.spec_RowOk.s4 (0, a0, ())) fun (x11, x12, _) =>
  some true
noncomputable def C.spec_RowOk : Con := ⟨[.r (.val (.cons (.sl false 122 y14) .nil))], .one .bool, fun x => F.spec_RowOk x.1⟩
def L.spec_RowOk : Loops := lookL [(9, ⟨[.pat 3 (.val (.int .i64)), .pat 4 (.val (.int .i64)), .root 1 true (.cons (.sl false 122 y14) .nil) [1]], 2⟩), (4, ⟨[.pat 3 (.val (.int .i64)), .root 1 true (.cons (.sl false 122 y14) .nil) [1]], 0⟩)]
noncomputable def K.spec_RowOk : Cons := lookK [(100, [], C.spec_EntryOk), (101, [], C.spec_SetApart)]
theorem run.spec_RowOk : ∀ x, runF tb K.spec_RowOk L.spec_RowOk [] Try.f41 C.spec_RowOk x = C.spec_RowOk.fn x := fun x => by kernel_rfl

/-! ### impl.EntryOk: function 143 -/
noncomputable def F.impl_EntryOk (a0 : DEntry) : Option Bool :=
  (F.impl_within a0.1 0 4).bind fun r1 =>
  bif r1 then
    (F.impl_within a0.2.1 0 20).bind fun r2 =>
    bif r2 then
      (F.impl_SetOk a0.2.2.1).bind fun r3 =>
      bif r3 then
        bif decide ((len a0.2.2.1) > 0) then
          (F.impl_SketchOk a0.2.2.2.1).bind fun r4 =>
          some r4
        else
          some false
      else
        some false
    else
      some false
  else
    some false
noncomputable def C.impl_EntryOk : Con := ⟨[.r (.val y14)], .one .bool, fun x => F.impl_EntryOk x.1⟩
def L.impl_EntryOk : Loops := fun _ => none
noncomputable def K.impl_EntryOk : Cons := lookK [(72, [], C.impl_within), (81, [], C.impl_SetOk), (142, [], C.impl_SketchOk)]
theorem run.impl_EntryOk : ∀ x, runF tb K.impl_EntryOk L.impl_EntryOk [] Try.f143 C.impl_EntryOk x = C.impl_EntryOk.fn x := fun x => by kernel_rfl

/-! ### impl.SetApart: function 144 -/
noncomputable def F.impl_SetApart.s7 : ((List DSpan) × (List DSpan) × Int × Int × (List DSpan) × Int × Int × DSpan × Unit) → Option (Lp ((List DSpan) × (List DSpan) × Int × Int × (List DSpan) × Int × Int × DSpan × Unit) (Lp ((List DSpan) × (List DSpan) × Int × Int × Unit) Bool)) := fun (x7, x8, x9, x10, x11, x12, x13, x14, _) =>
  bif decide (x13 < x12) then
    chk (inb x13 (List.length x11)) <|
    bif decide (x14.1 ≤ (((List.getD x11 ((Int.toNat x13)) ((0, 0, ()))).2).1)) then
      bif decide (((List.getD x11 ((Int.toNat x13)) ((0, 0, ()))).1) ≤ x14.2.1) then
        some (.ret (.ret false))
      else
        some (.again (x7, x8, x9, x10, x11, x12, w64 (x13 + 1), x14, ()))
    else
      some (.again (x7, x8, x9, x10, x11, x12, w64 (x13 + 1), x14, ()))
  else
    some (.exit (x7, x8, x9, x10, x11, x12, x13, x14, ()))
noncomputable def F.impl_SetApart.s4 : ((List DSpan) × (List DSpan) × Int × Int × Unit) → Option (Lp ((List DSpan) × (List DSpan) × Int × Int × Unit) Bool) := fun (x3, x4, x5, x6, _) =>
  bif decide (x6 < x5) then
    chk (inb x6 (List.length x4)) <|
    afterO (loopO F.impl_SetApart.s7 (x3, x4, x5, x6, x3, len x3, 0, List.getD x4 ((Int.toNat x6)) ((0, 0, ())), ())) fun (x15, x16, x17, x18, x19, x20, x21, x22, _) =>
    some (.again (x15, x16, x17, w64 (x18 + 1), ()))
  else
    some (.exit (x3, x4, x5, x6, ()))
noncomputable def F.impl_SetApart (a0 : List DSpan) (a1 : List DSpan) : Option Bool :=
  (F.impl_SetOk a0).bind fun r1 =>
  bif !r1 then
    some false
  else
  (F.impl_SetOk a1).bind fun r2 =>
  bif !r2 then
    some false
  else
  afterO (loopO F.impl_SetApart.s4 (a1, a0, len a0, 0, ())) fun (x23, x24, x25, x26, _) =>
  some true
noncomputable def C.impl_SetApart : Con := ⟨[.r (.val (.sl false 106 y0)), .r (.val (.sl false 106 y0))], .one .bool, fun x => F.impl_SetApart x.1 x.2.1⟩
def L.impl_SetApart : Loops := lookL [(7, ⟨[.pat 1 (.val (.sl false 106 y0)), .pat 17 (.val (.sl false 106 y0)), .pat 18 (.val (.int .i64)), .pat 19 (.val (.int .i64)), .pat 23 (.val (.sl false 106 y0)), .pat 24 (.val (.int .i64)), .pat 25 (.val (.int .i64)), .root 6 true y0 [6]], 2⟩), (4, ⟨[.pat 1 (.val (.sl false 106 y0)), .pat 17 (.val (.sl false 106 y0)), .pat 18 (.val (.int .i64)), .pat 19 (.val (.int .i64))], 0⟩)]
noncomputable def K.impl_SetApart : Cons := lookK [(81, [], C.impl_SetOk)]
theorem run.impl_SetApart : ∀ x, runF tb K.impl_SetApart L.impl_SetApart [] Try.f144 C.impl_SetApart x = C.impl_SetApart.fn x := fun x => by kernel_rfl

/-! ### impl.apart: function 102 -/
noncomputable def F.impl_apart.s7 : ((List DEntry) × (List DEntry) × Int × Int × (List DEntry) × Int × Int × DEntry × Unit) → Option (Lp ((List DEntry) × (List DEntry) × Int × Int × (List DEntry) × Int × Int × DEntry × Unit) (Lp ((List DEntry) × (List DEntry) × Int × Int × Unit) Bool)) := fun (x6, x7, x8, x9, x10, x11, x12, x13, _) =>
  bif decide (x12 < x11) then
    chk (inb x12 (List.length x10)) <|
    (F.impl_SetApart x13.2.2.1 ((((List.getD x10 ((Int.toNat x12)) ((0, 0, ([] : List DSpan), (0, 0, 0, 0, ([] : List Int), ([] : List Int), ([] : List (List Int)), ()), ()))).2).2).1)).bind fun r14 =>
    bif !r14 then
      some (.ret (.ret false))
    else
      some (.again (x6, x7, x8, x9, x10, x11, w64 (x12 + 1), x13, ()))
  else
    some (.exit (x6, x7, x8, x9, x10, x11, x12, x13, ()))
noncomputable def F.impl_apart.s2 : ((List DEntry) × (List DEntry) × Int × Int × Unit) → Option (Lp ((List DEntry) × (List DEntry) × Int × Int × Unit) Bool) := fun (x1, x2, x3, x4, _) =>
  bif decide (x4 < x3) then
    chk (inb x4 (List.length x2)) <|
    (F.impl_EntryOk (List.getD x2 ((Int.toNat x4)) ((0, 0, ([] : List DSpan), (0, 0, 0, 0, ([] : List Int), ([] : List Int), ([] : List (List Int)), ()), ())))).bind fun r5 =>
    bif !r5 then
      some (.ret false)
    else
    chk (cutOk 0 x4 (List.length x1)) <|
    afterO (loopO F.impl_apart.s7 (x1, x2, x3, x4, List.take ((Int.toNat x4) - 0) (List.drop 0 x1), len (List.take ((Int.toNat x4) - 0) (List.drop 0 x1)), 0, List.getD x2 ((Int.toNat x4)) ((0, 0, ([] : List DSpan), (0, 0, 0, 0, ([] : List Int), ([] : List Int), ([] : List (List Int)), ()), ())), ())) fun (x15, x16, x17, x18, x19, x20, x21, x22, _) =>
    some (.again (x15, x16, x17, w64 (x18 + 1), ()))
  else
    some (.exit (x1, x2, x3, x4, ()))
noncomputable def F.impl_apart (a0 : List DEntry) : Option Bool :=
  afterO (loopO F.impl_apart.s2 (a0, a0, len a0, 0, ())) fun (x23, x24, x25, x26, _) =>
  some true
noncomputable def C.impl_apart : Con := ⟨[.r (.val (.sl false 122 y14))], .one .bool, fun x => F.impl_apart x.1⟩
def L.impl_apart : Loops := lookL [(7, ⟨[.pat 0 (.val (.sl false 122 y14)), .pat 7 (.val (.sl false 122 y14)), .pat 8 (.val (.int .i64)), .pat 9 (.val (.int .i64)), .pat 19 (.val (.sl false 122 y14)), .pat 20 (.val (.int .i64)), .pat 21 (.val (.int .i64)), .root 4 true y14 [4]], 2⟩), (2, ⟨[.pat 0 (.val (.sl false 122 y14)), .pat 7 (.val (.sl false 122 y14)), .pat 8 (.val (.int .i64)), .pat 9 (.val (.int .i64))], 0⟩)]
noncomputable def K.impl_apart : Cons := lookK [(143, [], C.impl_EntryOk), (144, [], C.impl_SetApart)]
theorem run.impl_apart : ∀ x, runF tb K.impl_apart L.impl_apart [] Try.f102 C.impl_apart x = C.impl_apart.fn x := fun x => by kernel_rfl

/-! ### impl.RowOk: function 42 -/
noncomputable def F.impl_RowOk (a0 : DRow) : Option Bool :=
  bif decide ((len a0.1) ≤ 24) then
    (F.impl_apart a0.1).bind fun r1 =>
    some r1
  else
    some false
noncomputable def C.impl_RowOk : Con := ⟨[.r (.val (.cons (.sl false 122 y14) .nil))], .one .bool, fun x => F.impl_RowOk x.1⟩
def L.impl_RowOk : Loops := fun _ => none
noncomputable def K.impl_RowOk : Cons := lookK [(102, [], C.impl_apart)]
theorem run.impl_RowOk : ∀ x, runF tb K.impl_RowOk L.impl_RowOk [] Try.f42 C.impl_RowOk x = C.impl_RowOk.fn x := fun x => by kernel_rfl

/-! ### laws.FnExactRowOk: function 9 -/
noncomputable def F.laws_FnExactRowOk (a0 : DRow) : Option Bool :=
  (F.laws_szRow a0 1048576).bind fun r1 =>
  bif decide (r1 < 0) then
    some true
  else
  (F.laws_toRow a0).bind fun r2 =>
  (F.spec_RowOk r2).bind fun r3 =>
  (F.laws_toRow a0).bind fun r4 =>
  (F.impl_RowOk r4).bind fun r5 =>
  bif !(r5 == r3) then
    some false
  else
  (F.laws_toRow a0).bind fun r6 =>
  (F.laws_eqRow r4 r6).bind fun r7 =>
  bif !r7 then
    some false
  else
    some true
noncomputable def C.laws_FnExactRowOk : Con := ⟨[.r (.val (.cons (.sl false 160 y12) .nil))], .one .bool, fun x => F.laws_FnExactRowOk x.1⟩
def L.laws_FnExactRowOk : Loops := fun _ => none
noncomputable def K.laws_FnExactRowOk : Cons := lookK [(34, [], C.laws_szRow), (36, [], C.laws_toRow), (38, [], C.laws_eqRow), (41, [], C.spec_RowOk), (42, [], C.impl_RowOk)]
theorem run.laws_FnExactRowOk : ∀ x, runF tb K.laws_FnExactRowOk L.laws_FnExactRowOk [] Try.f9 C.laws_FnExactRowOk x = C.laws_FnExactRowOk.fn x := fun x => by kernel_rfl

/-! ### laws.szItemS: function 103 -/
noncomputable def F.laws_szItemS.s5 : ((List DItem) × Int × Int × Unit) → Option (Lp ((List DItem) × Int × Int × Unit) Int) := fun (x1, x2, x3, _) =>
  bif decide (x3 < (len x1)) then
    chk (inb x3 (List.length x1)) <|
    (F.laws_szItem (List.getD x1 ((Int.toNat x3)) ((0, 0, 0, 0, (0, 0, 0, 0, ([] : List Int), ([] : List Int), ([] : List (List Int)), ()), ()))) x2).bind fun r4 =>
    bif decide (r4 < 0) then
      some (.ret (-1))
    else
      some (.again (x1, r4, w64 (x3 + 1), ()))
  else
    some (.exit (x1, x2, x3, ()))
noncomputable def F.laws_szItemS (a0 : List DItem) (a1 : Int) : Option Int :=
  bif decide ((w64 (a1 - (len a0))) < 0) then
    some (-1)
  else
  afterO (loopO F.laws_szItemS.s5 (a0, w64 (a1 - (len a0)), 0, ())) fun (x5, x6, x7, _) =>
  some x6
noncomputable def C.laws_szItemS : Con := ⟨[.r (.val (.sl false 48 y6)), .r (.val (.int .i64))], .one (.int .i64), fun x => F.laws_szItemS x.1 x.2.1⟩
def L.laws_szItemS : Loops := lookL [(5, ⟨[.pat 0 (.val (.sl false 48 y6)), .pat 1 (.val (.int .i64)), .pat 5 (.val (.int .i64))], 0⟩)]
noncomputable def K.laws_szItemS : Cons := lookK [(82, [], C.laws_szItem)]
theorem run.laws_szItemS : ∀ x, runF tb K.laws_szItemS L.laws_szItemS [] Try.f103 C.laws_szItemS x = C.laws_szItemS.fn x := fun x => by kernel_rfl

/-! ### laws.szAgent: function 43 -/
noncomputable def F.laws_szAgent (a0 : DAgent) (a1 : Int) : Option Int :=
  (F.laws_szItemS a0.2.2.2.2.1 a1).bind fun r1 =>
  bif decide (r1 < 0) then
    some (-1)
  else
  (F.laws_szSpanS a0.2.2.2.2.2.1 r1).bind fun r2 =>
  bif decide (r2 < 0) then
    some (-1)
  else
    some r2
noncomputable def C.laws_szAgent : Con := ⟨[.r (.val y15), .r (.val (.int .i64))], .one (.int .i64), fun x => F.laws_szAgent x.1 x.2.1⟩
def L.laws_szAgent : Loops := fun _ => none
noncomputable def K.laws_szAgent : Cons := lookK [(66, [], C.laws_szSpanS), (103, [], C.laws_szItemS)]
theorem run.laws_szAgent : ∀ x, runF tb K.laws_szAgent L.laws_szAgent [] Try.f43 C.laws_szAgent x = C.laws_szAgent.fn x := fun x => by kernel_rfl

/-! ### laws.toItemS: function 105 -/
noncomputable def F.laws_toItemS.s3 : ((List DItem) × (List DItem) × Int × Unit) → Option (Lp ((List DItem) × (List DItem) × Int × Unit) ((List DItem))) := fun (x1, x2, x3, _) =>
  bif decide (x3 < (len x1)) then
    chk (inb x3 (List.length x1)) <|
    (F.laws_toItem (List.getD x1 ((Int.toNat x3)) ((0, 0, 0, 0, (0, 0, 0, 0, ([] : List Int), ([] : List Int), ([] : List (List Int)), ()), ())))).bind fun r4 =>
    chk (inb x3 (List.length x2)) <|
    some (.again (x1, List.set x2 ((Int.toNat x3)) r4, w64 (x3 + 1), ()))
  else
    some (.exit (x1, x2, x3, ()))
noncomputable def F.laws_toItemS (a0 : List DItem) : Option ((List DItem)) :=
  chk (mk 136 (len a0) (len a0)) <|
  afterO (loopO F.laws_toItemS.s3 (a0, List.replicate (Int.toNat (len a0)) ((0, 0, 0, 0, (0, 0, 0, 0, ([] : List Int), ([] : List Int), ([] : List (List Int)), ()), ())), 0, ())) fun (x5, x6, x7, _) =>
  some x6
noncomputable def C.laws_toItemS : Con := ⟨[.r (.val (.sl false 48 y6))], .one (.sl true 55 y9), fun x => F.laws_toItemS x.1⟩
def L.laws_toItemS : Loops := lookL [(3, ⟨[.pat 0 (.val (.sl false 48 y6)), .own 3 (.sl true 55 y9), .pat 4 (.val (.int .i64))], 0⟩)]
noncomputable def K.laws_toItemS : Cons := lookK [(85, [], C.laws_toItem)]
theorem run.laws_toItemS : ∀ x, runF tb K.laws_toItemS L.laws_toItemS [] Try.f105 C.laws_toItemS x = C.laws_toItemS.fn x := fun x => by kernel_rfl

/-! ### laws.toAgent: function 45 -/
noncomputable def F.laws_toAgent (a0 : DAgent) : Option DAgent :=
  (F.laws_toItemS a0.2.2.2.2.1).bind fun r1 =>
  (F.laws_toSpanS a0.2.2.2.2.2.1).bind fun r2 =>
  some (a0.1, a0.2.1, a0.2.2.1, a0.2.2.2.1, r1, r2, a0.2.2.2.2.2.2.1, ())
noncomputable def C.laws_toAgent : Con := ⟨[.r (.val y15)], .one y16, fun x => F.laws_toAgent x.1⟩
def L.laws_toAgent : Loops := fun _ => none
noncomputable def K.laws_toAgent : Cons := lookK [(70, [], C.laws_toSpanS), (105, [], C.laws_toItemS)]
theorem run.laws_toAgent : ∀ x, runF tb K.laws_toAgent L.laws_toAgent [] Try.f45 C.laws_toAgent x = C.laws_toAgent.fn x := fun x => by kernel_rfl

/-! ### spec.AgentOk: function 44 -/
noncomputable def F.spec_AgentOk.s4 : (Int × DAgent × Unit) → Option (Lp (Int × DAgent × Unit) Bool) := fun (x6, x7, _) =>
  bif decide (x6 < (len x7.2.2.2.2.1)) then
    chk (inb x6 (List.length x7.2.2.2.2.1)) <|
    (F.spec_ItemOk (List.getD x7.2.2.2.2.1 ((Int.toNat x6)) ((0, 0, 0, 0, (0, 0, 0, 0, ([] : List Int), ([] : List Int), ([] : List (List Int)), ()), ())))).bind fun r8 =>
    bif !r8 then
      some (.ret false)
    else
    chk (inb x6 (List.length x7.2.2.2.2.1)) <|
    bif ((List.getD x7.2.2.2.2.1 ((Int.toNat x6)) ((0, 0, 0, 0, (0, 0, 0, 0, ([] : List Int), ([] : List Int), ([] : List (List Int)), ()), ()))).1) != (w64 (x6 + 1)) then
      some (.ret false)
    else
      some (.again (w64 (x6 + 1), x7, ()))
  else
    some (.exit (x6, x7, ()))
noncomputable def F.spec_AgentOk (a0 : DAgent) : Option Bool :=
  (F.spec_l6Agent a0.1).bind fun r1 =>
  bif !r1 then
    some false
  else
  (F.spec_l1In a0.2.1 0 1000).bind fun r2 =>
  bif !r2 then
    some false
  else
  (F.spec_l1In a0.2.2.2.1 0 60).bind fun r3 =>
  bif !r3 then
    some false
  else
  bif decide ((len a0.2.2.2.2.1) > 60) then
    some false
  else
  (F.spec_l1In a0.2.2.2.2.2.2.1 0 60).bind fun r4 =>
  bif !r4 then
    some false
  else
  (F.spec_l8Below a0.2.2.2.2.2.1 (len a0.2.2.2.2.1)).bind fun r5 =>
  bif !r5 then
    some false
  else
  bif !a0.2.2.1 then
    bif decide (a0.2.2.2.1 > 0) then
      some false
    else
    afterO (loopO F.spec_AgentOk.s4 (0, a0, ())) fun (x9, x10, _) =>
    some true
  else
  afterO (loopO F.spec_AgentOk.s4 (0, a0, ())) fun (x14, x15, _) =>
  some true
noncomputable def C.spec_AgentOk : Con := ⟨[.r (.val y17)], .one .bool, fun x => F.spec_AgentOk x.1⟩
def L.spec_AgentOk : Loops := lookL [(4, ⟨[.pat 3 (.val (.int .i64)), .root 1 true y17 [1]], 0⟩)]
noncomputable def K.spec_AgentOk : Cons := lookK [(69, [], C.spec_l1In), (95, [], C.spec_l6Agent), (97, [], C.spec_ItemOk), (104, [], C.spec_l8Below)]
theorem run.spec_AgentOk : ∀ x, runF tb K.spec_AgentOk L.spec_AgentOk [] Try.f44 C.spec_AgentOk x = C.spec_AgentOk.fn x := fun x => by kernel_rfl

/-! ### impl.AgentOk: function 46 -/
noncomputable def F.impl_AgentOk.s4 : ((List DItem) × Int × Int × DAgent × Unit) → Option (Lp ((List DItem) × Int × Int × DAgent × Unit) Bool) := fun (x5, x6, x7, x8, _) =>
  bif decide (x7 < x6) then
    chk (inb x7 (List.length x5)) <|
    (F.impl_ItemOk (List.getD x5 ((Int.toNat x7)) ((0, 0, 0, 0, (0, 0, 0, 0, ([] : List Int), ([] : List Int), ([] : List (List Int)), ()), ())))).bind fun r9 =>
    bif !r9 then
      some (.ret false)
    else
    bif ((List.getD x5 ((Int.toNat x7)) ((0, 0, 0, 0, (0, 0, 0, 0, ([] : List Int), ([] : List Int), ([] : List (List Int)), ()), ()))).1) != (w64 (x7 + 1)) then
      some (.ret false)
    else
      some (.again (x5, x6, w64 (x7 + 1), x8, ()))
  else
    some (.exit (x5, x6, x7, x8, ()))
noncomputable def F.impl_AgentOk (a0 : DAgent) : Option Bool :=
  (F.impl_within a0.1 0 2).bind fun r1 =>
  bif !r1 then
    some false
  else
  (F.impl_within a0.2.1 0 1000).bind fun r2 =>
  bif !r2 then
    some false
  else
  (F.impl_within a0.2.2.2.1 0 60).bind fun r3 =>
  bif !r3 then
    some false
  else
  bif decide ((len a0.2.2.2.2.1) > 60) then
    some false
  else
  (F.impl_within a0.2.2.2.2.2.2.1 0 60).bind fun r4 =>
  bif !r4 then
    some false
  else
  afterO (loopO F.impl_AgentOk.s4 (a0.2.2.2.2.1, len a0.2.2.2.2.1, 0, a0, ())) fun (x10, x11, x12, x13, _) =>
  (F.impl_allIn x13.2.2.2.2.2.1 1 (len x13.2.2.2.2.1)).bind fun r14 =>
  bif r14 then
    bif x13.2.2.1 then
      some true
    else
      some (x13.2.2.2.1 == 0)
  else
    some false
noncomputable def C.impl_AgentOk : Con := ⟨[.r (.val y17)], .one .bool, fun x => F.impl_AgentOk x.1⟩
def L.impl_AgentOk : Loops := lookL [(4, ⟨[.pat 34 (.val (.sl false 55 y6)), .pat 35 (.val (.int .i64)), .pat 36 (.val (.int .i64)), .root 1 true y17 [1]], 0⟩)]
noncomputable def K.impl_AgentOk : Cons := lookK [(72, [], C.impl_within), (80, [], C.impl_allIn), (99, [], C.impl_ItemOk)]
theorem run.impl_AgentOk : ∀ x, runF tb K.impl_AgentOk L.impl_AgentOk [] Try.f46 C.impl_AgentOk x = C.impl_AgentOk.fn x := fun x => by kernel_rfl

/-! ### laws.eqItemS: function 106 -/
noncomputable def F.laws_eqItemS.s4 : ((List DItem) × (List DItem) × Int × Unit) → Option (Lp ((List DItem) × (List DItem) × Int × Unit) Bool) := fun (x1, x2, x3, _) =>
  bif decide (x3 < (len x1)) then
    chk (inb x3 (List.length x1)) <|
    chk (inb x3 (List.length x2)) <|
    (F.laws_eqItem (List.getD x1 ((Int.toNat x3)) ((0, 0, 0, 0, (0, 0, 0, 0, ([] : List Int), ([] : List Int), ([] : List (List Int)), ()), ()))) (List.getD x2 ((Int.toNat x3)) ((0, 0, 0, 0, (0, 0, 0, 0, ([] : List Int), ([] : List Int), ([] : List (List Int)), ()), ())))).bind fun r4 =>
    bif !r4 then
      some (.ret false)
    else
      some (.again (x1, x2, w64 (x3 + 1), ()))
  else
    some (.exit (x1, x2, x3, ()))
noncomputable def F.laws_eqItemS (a0 : List DItem) (a1 : List DItem) : Option Bool :=
  bif (len a0) != (len a1) then
    some false
  else
  afterO (loopO F.laws_eqItemS.s4 (a0, a1, 0, ())) fun (x5, x6, x7, _) =>
  some true
noncomputable def C.laws_eqItemS : Con := ⟨[.r (.val (.sl false 55 y6)), .r (.val (.sl false 55 y6))], .one .bool, fun x => F.laws_eqItemS x.1 x.2.1⟩
def L.laws_eqItemS : Loops := lookL [(4, ⟨[.pat 0 (.val (.sl false 55 y6)), .pat 1 (.val (.sl false 55 y6)), .pat 5 (.val (.int .i64))], 0⟩)]
noncomputable def K.laws_eqItemS : Cons := lookK [(88, [], C.laws_eqItem)]
theorem run.laws_eqItemS : ∀ x, runF tb K.laws_eqItemS L.laws_eqItemS [] Try.f106 C.laws_eqItemS x = C.laws_eqItemS.fn x := fun x => by kernel_rfl

/-! ### laws.eqAgent: function 47 -/
noncomputable def F.laws_eqAgent (a0 : DAgent) (a1 : DAgent) : Option Bool :=
  bif a0.1 != a1.1 then
    some false
  else
  bif a0.2.1 != a1.2.1 then
    some false
  else
  bif !(a0.2.2.1 == a1.2.2.1) then
    some false
  else
  bif a0.2.2.2.1 != a1.2.2.2.1 then
    some false
  else
  (F.laws_eqItemS a0.2.2.2.2.1 a1.2.2.2.2.1).bind fun r1 =>
  bif !r1 then
    some false
  else
  (F.laws_eqSpanS a0.2.2.2.2.2.1 a1.2.2.2.2.2.1).bind fun r2 =>
  bif !r2 then
    some false
  else
  bif a0.2.2.2.2.2.2.1 != a1.2.2.2.2.2.2.1 then
    some false
  else
    some true
noncomputable def C.laws_eqAgent : Con := ⟨[.r (.val y17), .r (.val y17)], .one .bool, fun x => F.laws_eqAgent x.1 x.2.1⟩
def L.laws_eqAgent : Loops := fun _ => none
noncomputable def K.laws_eqAgent : Cons := lookK [(73, [], C.laws_eqSpanS), (106, [], C.laws_eqItemS)]
theorem run.laws_eqAgent : ∀ x, runF tb K.laws_eqAgent L.laws_eqAgent [] Try.f47 C.laws_eqAgent x = C.laws_eqAgent.fn x := fun x => by kernel_rfl

/-! ### laws.FnExactAgentOk: function 10 -/
noncomputable def F.laws_FnExactAgentOk (a0 : DAgent) : Option Bool :=
  (F.laws_szAgent a0 1048576).bind fun r1 =>
  bif decide (r1 < 0) then
    some true
  else
  (F.laws_toAgent a0).bind fun r2 =>
  (F.spec_AgentOk r2).bind fun r3 =>
  (F.laws_toAgent a0).bind fun r4 =>
  (F.impl_AgentOk r4).bind fun r5 =>
  bif !(r5 == r3) then
    some false
  else
  (F.laws_toAgent a0).bind fun r6 =>
  (F.laws_eqAgent r4 r6).bind fun r7 =>
  bif !r7 then
    some false
  else
    some true
noncomputable def C.laws_FnExactAgentOk : Con := ⟨[.r (.val y15)], .one .bool, fun x => F.laws_FnExactAgentOk x.1⟩
def L.laws_FnExactAgentOk : Loops := fun _ => none
noncomputable def K.laws_FnExactAgentOk : Cons := lookK [(43, [], C.laws_szAgent), (44, [], C.spec_AgentOk), (45, [], C.laws_toAgent), (46, [], C.impl_AgentOk), (47, [], C.laws_eqAgent)]
theorem run.laws_FnExactAgentOk : ∀ x, runF tb K.laws_FnExactAgentOk L.laws_FnExactAgentOk [] Try.f10 C.laws_FnExactAgentOk x = C.laws_FnExactAgentOk.fn x := fun x => by kernel_rfl

/-! ### spec.AgentNew: function 48 -/
noncomputable def F.spec_AgentNew (a0 : Int) : Option (DAgent × Bool) :=
  (F.spec_AgentOk ((a0, 0, false, 0, ([] : List DItem), ([] : List DSpan), 0, ()))).bind fun r1 =>
  bif !r1 then
    some ((0, 0, false, 0, ([] : List DItem), ([] : List DSpan), 0, ()), false)
  else
    some ((a0, 0, false, 0, ([] : List DItem), ([] : List DSpan), 0, ()), true)
noncomputable def C.spec_AgentNew : Con := ⟨[.r (.val (.int .i64))], .many [y16, .bool], fun x => F.spec_AgentNew x.1⟩
def L.spec_AgentNew : Loops := fun _ => none
noncomputable def K.spec_AgentNew : Cons := lookK [(44, [], C.spec_AgentOk)]
theorem run.spec_AgentNew : ∀ x, runF tb K.spec_AgentNew L.spec_AgentNew [] Try.f48 C.spec_AgentNew x = C.spec_AgentNew.fn x := fun x => by kernel_rfl

/-! ### impl.AgentNew: function 49 -/
noncomputable def F.impl_AgentNew (a0 : Int) : Option (DAgent × Bool) :=
  (F.impl_AgentOk ((a0, 0, false, 0, ([] : List DItem), ([] : List DSpan), 0, ()))).bind fun r1 =>
  bif !r1 then
    some ((0, 0, false, 0, ([] : List DItem), ([] : List DSpan), 0, ()), false)
  else
    some ((a0, 0, false, 0, ([] : List DItem), ([] : List DSpan), 0, ()), true)
noncomputable def C.impl_AgentNew : Con := ⟨[.r (.val (.int .i64))], .many [y16, .bool], fun x => F.impl_AgentNew x.1⟩
def L.impl_AgentNew : Loops := fun _ => none
noncomputable def K.impl_AgentNew : Cons := lookK [(46, [], C.impl_AgentOk)]
theorem run.impl_AgentNew : ∀ x, runF tb K.impl_AgentNew L.impl_AgentNew [] Try.f49 C.impl_AgentNew x = C.impl_AgentNew.fn x := fun x => by kernel_rfl

/-! ### laws.markIntS: function 55 -/
noncomputable def F.laws_markIntS.s2 : (Int × Int × (List Int) × Unit) → Option (Lp (Int × Int × (List Int) × Unit) (Int × (List Int))) := fun (x1, x2, x3, _) =>
  bif decide (x2 < (len x3)) then
    chk (inb x2 (List.length x3)) <|
    some (.again (w64 (x1 + 1), w64 (x2 + 1), List.set x3 ((Int.toNat x2)) x1, ()))
  else
    some (.exit (x1, x2, x3, ()))
noncomputable def F.laws_markIntS (a0 : List Int) (a1 : Int) : Option (Int × (List Int)) :=
  afterO (loopO F.laws_markIntS.s2 (a1, 0, a0, ())) fun (x4, x5, x6, _) =>
  some (x4, x6)
noncomputable def C.laws_markIntS : Con := ⟨[.c (.sl true 3 (.int .i64)), .r (.val (.int .i64))], .one (.int .i64), fun x => F.laws_markIntS x.1 x.2.1⟩
def L.laws_markIntS : Loops := lookL [(2, ⟨[.pat 1 (.val (.int .i64)), .pat 5 (.val (.int .i64)), .root 0 false (.sl true 3 (.int .i64)) [0]], 0⟩)]
noncomputable def K.laws_markIntS : Cons := lookK []
theorem run.laws_markIntS : ∀ x, runF tb K.laws_markIntS L.laws_markIntS [0] Try.f55 C.laws_markIntS x = C.laws_markIntS.fn x := fun x => by kernel_rfl

/-! ### laws.markIntSS: function 145 -/
noncomputable def F.laws_markIntSS.s2 : (Int × Int × (List (List Int)) × Unit) → Option (Lp (Int × Int × (List (List Int)) × Unit) (Int × (List (List Int)))) := fun (x1, x2, x3, _) =>
  bif decide (x2 < (len x3)) then
    chk (inb x2 (List.length x3)) <|
    (F.laws_markIntS (List.getD x3 ((Int.toNat x2)) (([] : List Int))) x1).bind fun r4 =>
    some (.again (r4.1, w64 (x2 + 1), List.set x3 ((Int.toNat x2)) r4.2, ()))
  else
    some (.exit (x1, x2, x3, ()))
noncomputable def F.laws_markIntSS (a0 : List (List Int)) (a1 : Int) : Option (Int × (List (List Int))) :=
  afterO (loopO F.laws_markIntSS.s2 (a1, 0, a0, ())) fun (x5, x6, x7, _) =>
  some (x5, x7)
noncomputable def C.laws_markIntSS : Con := ⟨[.c (.sl true 43 (.sl true 3 (.int .i64))), .r (.val (.int .i64))], .one (.int .i64), fun x => F.laws_markIntSS x.1 x.2.1⟩
def L.laws_markIntSS : Loops := lookL [(2, ⟨[.pat 1 (.val (.int .i64)), .pat 5 (.val (.int .i64)), .root 0 false (.sl true 43 (.sl true 3 (.int .i64))) [0]], 0⟩)]
noncomputable def K.laws_markIntSS : Cons := lookK [(55, [], C.laws_markIntS)]
theorem run.laws_markIntSS : ∀ x, runF tb K.laws_markIntSS L.laws_markIntSS [0] Try.f145 C.laws_markIntSS x = C.laws_markIntSS.fn x := fun x => by kernel_rfl

/-! ### laws.markItemS: function 107 -/
noncomputable def F.laws_markItemS.s2 : (Int × Int × (List DItem) × Unit) → Option (Lp (Int × Int × (List DItem) × Unit) (Int × (List DItem))) := fun (x1, x2, x3, _) =>
  bif decide (x2 < (len x3)) then
    chk (inb x2 (List.length x3)) <|
    (some (List.set x3 ((Int.toNat x2)) ((x1, (List.getD x3 ((Int.toNat x2)) ((0, 0, 0, 0, (0, 0, 0, 0, ([] : List Int), ([] : List Int), ([] : List (List Int)), ()), ()))).2)))).bind fun r4 =>
    chk (inb x2 (List.length r4)) <|
    (some (List.set r4 ((Int.toNat x2)) (((List.getD r4 ((Int.toNat x2)) ((0, 0, 0, 0, (0, 0, 0, 0, ([] : List Int), ([] : List Int), ([] : List (List Int)), ()), ()))).1, w64 (x1 + 1), ((List.getD r4 ((Int.toNat x2)) ((0, 0, 0, 0, (0, 0, 0, 0, ([] : List Int), ([] : List Int), ([] : List (List Int)), ()), ()))).2).2)))).bind fun r5 =>
    chk (inb x2 (List.length r5)) <|
    (some (List.set r5 ((Int.toNat x2)) (((List.getD r5 ((Int.toNat x2)) ((0, 0, 0, 0, (0, 0, 0, 0, ([] : List Int), ([] : List Int), ([] : List (List Int)), ()), ()))).1, ((List.getD r5 ((Int.toNat x2)) ((0, 0, 0, 0, (0, 0, 0, 0, ([] : List Int), ([] : List Int), ([] : List (List Int)), ()), ()))).2).1, w64 ((w64 (x1 + 1)) + 1), (((List.getD r5 ((Int.toNat x2)) ((0, 0, 0, 0, (0, 0, 0, 0, ([] : List Int), ([] : List Int), ([] : List (List Int)), ()), ()))).2).2).2)))).bind fun r6 =>
    chk (inb x2 (List.length r6)) <|
    (some (List.set r6 ((Int.toNat x2)) (((List.getD r6 ((Int.toNat x2)) ((0, 0, 0, 0, (0, 0, 0, 0, ([] : List Int), ([] : List Int), ([] : List (List Int)), ()), ()))).1, ((List.getD r6 ((Int.toNat x2)) ((0, 0, 0, 0, (0, 0, 0, 0, ([] : List Int), ([] : List Int), ([] : List (List Int)), ()), ()))).2).1, (((List.getD r6 ((Int.toNat x2)) ((0, 0, 0, 0, (0, 0, 0, 0, ([] : List Int), ([] : List Int), ([] : List (List Int)), ()), ()))).2).2).1, w64 ((w64 ((w64 (x1 + 1)) + 1)) + 1), ((((List.getD r6 ((Int.toNat x2)) ((0, 0, 0, 0, (0, 0, 0, 0, ([] : List Int), ([] : List Int), ([] : List (List Int)), ()), ()))).2).2).2).2)))).bind fun r7 =>
    chk (inb x2 (List.length r7)) <|
    (some (List.set r7 ((Int.toNat x2)) (((List.getD r7 ((Int.toNat x2)) ((0, 0, 0, 0, (0, 0, 0, 0, ([] : List Int), ([] : List Int), ([] : List (List Int)), ()), ()))).1, ((List.getD r7 ((Int.toNat x2)) ((0, 0, 0, 0, (0, 0, 0, 0, ([] : List Int), ([] : List Int), ([] : List (List Int)), ()), ()))).2).1, (((List.getD r7 ((Int.toNat x2)) ((0, 0, 0, 0, (0, 0, 0, 0, ([] : List Int), ([] : List Int), ([] : List (List Int)), ()), ()))).2).2).1, ((((List.getD r7 ((Int.toNat x2)) ((0, 0, 0, 0, (0, 0, 0, 0, ([] : List Int), ([] : List Int), ([] : List (List Int)), ()), ()))).2).2).2).1, (w64 ((w64 ((w64 ((w64 (x1 + 1)) + 1)) + 1)) + 1), ((((((List.getD r7 ((Int.toNat x2)) ((0, 0, 0, 0, (0, 0, 0, 0, ([] : List Int), ([] : List Int), ([] : List (List Int)), ()), ()))).2).2).2).2).1).2), (((((List.getD r7 ((Int.toNat x2)) ((0, 0, 0, 0, (0, 0, 0, 0, ([] : List Int), ([] : List Int), ([] : List (List Int)), ()), ()))).2).2).2).2).2)))).bind fun r8 =>
    chk (inb x2 (List.length r8)) <|
    (some (List.set r8 ((Int.toNat x2)) (((List.getD r8 ((Int.toNat x2)) ((0, 0, 0, 0, (0, 0, 0, 0, ([] : List Int), ([] : List Int), ([] : List (List Int)), ()), ()))).1, ((List.getD r8 ((Int.toNat x2)) ((0, 0, 0, 0, (0, 0, 0, 0, ([] : List Int), ([] : List Int), ([] : List (List Int)), ()), ()))).2).1, (((List.getD r8 ((Int.toNat x2)) ((0, 0, 0, 0, (0, 0, 0, 0, ([] : List Int), ([] : List Int), ([] : List (List Int)), ()), ()))).2).2).1, ((((List.getD r8 ((Int.toNat x2)) ((0, 0, 0, 0, (0, 0, 0, 0, ([] : List Int), ([] : List Int), ([] : List (List Int)), ()), ()))).2).2).2).1, (((((((List.getD r8 ((Int.toNat x2)) ((0, 0, 0, 0, (0, 0, 0, 0, ([] : List Int), ([] : List Int), ([] : List (List Int)), ()), ()))).2).2).2).2).1).1, w64 ((w64 ((w64 ((w64 ((w64 (x1 + 1)) + 1)) + 1)) + 1)) + 1), (((((((List.getD r8 ((Int.toNat x2)) ((0, 0, 0, 0, (0, 0, 0, 0, ([] : List Int), ([] : List Int), ([] : List (List Int)), ()), ()))).2).2).2).2).1).2).2), (((((List.getD r8 ((Int.toNat x2)) ((0, 0, 0, 0, (0, 0, 0, 0, ([] : List Int), ([] : List Int), ([] : List (List Int)), ()), ()))).2).2).2).2).2)))).bind fun r9 =>
    chk (inb x2 (List.length r9)) <|
    (some (List.set r9 ((Int.toNat x2)) (((List.getD r9 ((Int.toNat x2)) ((0, 0, 0, 0, (0, 0, 0, 0, ([] : List Int), ([] : List Int), ([] : List (List Int)), ()), ()))).1, ((List.getD r9 ((Int.toNat x2)) ((0, 0, 0, 0, (0, 0, 0, 0, ([] : List Int), ([] : List Int), ([] : List (List Int)), ()), ()))).2).1, (((List.getD r9 ((Int.toNat x2)) ((0, 0, 0, 0, (0, 0, 0, 0, ([] : List Int), ([] : List Int), ([] : List (List Int)), ()), ()))).2).2).1, ((((List.getD r9 ((Int.toNat x2)) ((0, 0, 0, 0, (0, 0, 0, 0, ([] : List Int), ([] : List Int), ([] : List (List Int)), ()), ()))).2).2).2).1, (((((((List.getD r9 ((Int.toNat x2)) ((0, 0, 0, 0, (0, 0, 0, 0, ([] : List Int), ([] : List Int), ([] : List (List Int)), ()), ()))).2).2).2).2).1).1, (((((((List.getD r9 ((Int.toNat x2)) ((0, 0, 0, 0, (0, 0, 0, 0, ([] : List Int), ([] : List Int), ([] : List (List Int)), ()), ()))).2).2).2).2).1).2).1, w64 ((w64 ((w64 ((w64 ((w64 ((w64 (x1 + 1)) + 1)) + 1)) + 1)) + 1)) + 1), ((((((((List.getD r9 ((Int.toNat x2)) ((0, 0, 0, 0, (0, 0, 0, 0, ([] : List Int), ([] : List Int), ([] : List (List Int)), ()), ()))).2).2).2).2).1).2).2).2), (((((List.getD r9 ((Int.toNat x2)) ((0, 0, 0, 0, (0, 0, 0, 0, ([] : List Int), ([] : List Int), ([] : List (List Int)), ()), ()))).2).2).2).2).2)))).bind fun r10 =>
    chk (inb x2 (List.length r10)) <|
    (some (List.set r10 ((Int.toNat x2)) (((List.getD r10 ((Int.toNat x2)) ((0, 0, 0, 0, (0, 0, 0, 0, ([] : List Int), ([] : List Int), ([] : List (List Int)), ()), ()))).1, ((List.getD r10 ((Int.toNat x2)) ((0, 0, 0, 0, (0, 0, 0, 0, ([] : List Int), ([] : List Int), ([] : List (List Int)), ()), ()))).2).1, (((List.getD r10 ((Int.toNat x2)) ((0, 0, 0, 0, (0, 0, 0, 0, ([] : List Int), ([] : List Int), ([] : List (List Int)), ()), ()))).2).2).1, ((((List.getD r10 ((Int.toNat x2)) ((0, 0, 0, 0, (0, 0, 0, 0, ([] : List Int), ([] : List Int), ([] : List (List Int)), ()), ()))).2).2).2).1, (((((((List.getD r10 ((Int.toNat x2)) ((0, 0, 0, 0, (0, 0, 0, 0, ([] : List Int), ([] : List Int), ([] : List (List Int)), ()), ()))).2).2).2).2).1).1, (((((((List.getD r10 ((Int.toNat x2)) ((0, 0, 0, 0, (0, 0, 0, 0, ([] : List Int), ([] : List Int), ([] : List (List Int)), ()), ()))).2).2).2).2).1).2).1, ((((((((List.getD r10 ((Int.toNat x2)) ((0, 0, 0, 0, (0, 0, 0, 0, ([] : List Int), ([] : List Int), ([] : List (List Int)), ()), ()))).2).2).2).2).1).2).2).1, w64 ((w64 ((w64 ((w64 ((w64 ((w64 ((w64 (x1 + 1)) + 1)) + 1)) + 1)) + 1)) + 1)) + 1), (((((((((List.getD r10 ((Int.toNat x2)) ((0, 0, 0, 0, (0, 0, 0, 0, ([] : List Int), ([] : List Int), ([] : List (List Int)), ()), ()))).2).2).2).2).1).2).2).2).2), (((((List.getD r10 ((Int.toNat x2)) ((0, 0, 0, 0, (0, 0, 0, 0, ([] : List Int), ([] : List Int), ([] : List (List Int)), ()), ()))).2).2).2).2).2)))).bind fun r11 =>
    chk (inb x2 (List.length r11)) <|
    (F.laws_markIntS (((((((((((List.getD r11 ((Int.toNat x2)) ((0, 0, 0, 0, (0, 0, 0, 0, ([] : List Int), ([] : List Int), ([] : List (List Int)), ()), ()))).2).2).2).2).1).2).2).2).2).1) (w64 ((w64 ((w64 ((w64 ((w64 ((w64 ((w64 ((w64 (x1 + 1)) + 1)) + 1)) + 1)) + 1)) + 1)) + 1)) + 1))).bind fun r12 =>
    (some (List.set r11 ((Int.toNat x2)) (((List.getD r11 ((Int.toNat x2)) ((0, 0, 0, 0, (0, 0, 0, 0, ([] : List Int), ([] : List Int), ([] : List (List Int)), ()), ()))).1, ((List.getD r11 ((Int.toNat x2)) ((0, 0, 0, 0, (0, 0, 0, 0, ([] : List Int), ([] : List Int), ([] : List (List Int)), ()), ()))).2).1, (((List.getD r11 ((Int.toNat x2)) ((0, 0, 0, 0, (0, 0, 0, 0, ([] : List Int), ([] : List Int), ([] : List (List Int)), ()), ()))).2).2).1, ((((List.getD r11 ((Int.toNat x2)) ((0, 0, 0, 0, (0, 0, 0, 0, ([] : List Int), ([] : List Int), ([] : List (List Int)), ()), ()))).2).2).2).1, (((((((List.getD r11 ((Int.toNat x2)) ((0, 0, 0, 0, (0, 0, 0, 0, ([] : List Int), ([] : List Int), ([] : List (List Int)), ()), ()))).2).2).2).2).1).1, (((((((List.getD r11 ((Int.toNat x2)) ((0, 0, 0, 0, (0, 0, 0, 0, ([] : List Int), ([] : List Int), ([] : List (List Int)), ()), ()))).2).2).2).2).1).2).1, ((((((((List.getD r11 ((Int.toNat x2)) ((0, 0, 0, 0, (0, 0, 0, 0, ([] : List Int), ([] : List Int), ([] : List (List Int)), ()), ()))).2).2).2).2).1).2).2).1, (((((((((List.getD r11 ((Int.toNat x2)) ((0, 0, 0, 0, (0, 0, 0, 0, ([] : List Int), ([] : List Int), ([] : List (List Int)), ()), ()))).2).2).2).2).1).2).2).2).1, r12.2, ((((((((((List.getD r11 ((Int.toNat x2)) ((0, 0, 0, 0, (0, 0, 0, 0, ([] : List Int), ([] : List Int), ([] : List (List Int)), ()), ()))).2).2).2).2).1).2).2).2).2).2), (((((List.getD r11 ((Int.toNat x2)) ((0, 0, 0, 0, (0, 0, 0, 0, ([] : List Int), ([] : List Int), ([] : List (List Int)), ()), ()))).2).2).2).2).2)))).bind fun r13 =>
    chk (inb x2 (List.length r13)) <|
    (F.laws_markIntS ((((((((((((List.getD r13 ((Int.toNat x2)) ((0, 0, 0, 0, (0, 0, 0, 0, ([] : List Int), ([] : List Int), ([] : List (List Int)), ()), ()))).2).2).2).2).1).2).2).2).2).2).1) r12.1).bind fun r14 =>
    (some (List.set r13 ((Int.toNat x2)) (((List.getD r13 ((Int.toNat x2)) ((0, 0, 0, 0, (0, 0, 0, 0, ([] : List Int), ([] : List Int), ([] : List (List Int)), ()), ()))).1, ((List.getD r13 ((Int.toNat x2)) ((0, 0, 0, 0, (0, 0, 0, 0, ([] : List Int), ([] : List Int), ([] : List (List Int)), ()), ()))).2).1, (((List.getD r13 ((Int.toNat x2)) ((0, 0, 0, 0, (0, 0, 0, 0, ([] : List Int), ([] : List Int), ([] : List (List Int)), ()), ()))).2).2).1, ((((List.getD r13 ((Int.toNat x2)) ((0, 0, 0, 0, (0, 0, 0, 0, ([] : List Int), ([] : List Int), ([] : List (List Int)), ()), ()))).2).2).2).1, (((((((List.getD r13 ((Int.toNat x2)) ((0, 0, 0, 0, (0, 0, 0, 0, ([] : List Int), ([] : List Int), ([] : List (List Int)), ()), ()))).2).2).2).2).1).1, (((((((List.getD r13 ((Int.toNat x2)) ((0, 0, 0, 0, (0, 0, 0, 0, ([] : List Int), ([] : List Int), ([] : List (List Int)), ()), ()))).2).2).2).2).1).2).1, ((((((((List.getD r13 ((Int.toNat x2)) ((0, 0, 0, 0, (0, 0, 0, 0, ([] : List Int), ([] : List Int), ([] : List (List Int)), ()), ()))).2).2).2).2).1).2).2).1, (((((((((List.getD r13 ((Int.toNat x2)) ((0, 0, 0, 0, (0, 0, 0, 0, ([] : List Int), ([] : List Int), ([] : List (List Int)), ()), ()))).2).2).2).2).1).2).2).2).1, ((((((((((List.getD r13 ((Int.toNat x2)) ((0, 0, 0, 0, (0, 0, 0, 0, ([] : List Int), ([] : List Int), ([] : List (List Int)), ()), ()))).2).2).2).2).1).2).2).2).2).1, r14.2, (((((((((((List.getD r13 ((Int.toNat x2)) ((0, 0, 0, 0, (0, 0, 0, 0, ([] : List Int), ([] : List Int), ([] : List (List Int)), ()), ()))).2).2).2).2).1).2).2).2).2).2).2), (((((List.getD r13 ((Int.toNat x2)) ((0, 0, 0, 0, (0, 0, 0, 0, ([] : List Int), ([] : List Int), ([] : List (List Int)), ()), ()))).2).2).2).2).2)))).bind fun r15 =>
    chk (inb x2 (List.length r15)) <|
    (F.laws_markIntSS (((((((((((((List.getD r15 ((Int.toNat x2)) ((0, 0, 0, 0, (0, 0, 0, 0, ([] : List Int), ([] : List Int), ([] : List (List Int)), ()), ()))).2).2).2).2).1).2).2).2).2).2).2).1) r14.1).bind fun r16 =>
    (some (List.set r15 ((Int.toNat x2)) (((List.getD r15 ((Int.toNat x2)) ((0, 0, 0, 0, (0, 0, 0, 0, ([] : List Int), ([] : List Int), ([] : List (List Int)), ()), ()))).1, ((List.getD r15 ((Int.toNat x2)) ((0, 0, 0, 0, (0, 0, 0, 0, ([] : List Int), ([] : List Int), ([] : List (List Int)), ()), ()))).2).1, (((List.getD r15 ((Int.toNat x2)) ((0, 0, 0, 0, (0, 0, 0, 0, ([] : List Int), ([] : List Int), ([] : List (List Int)), ()), ()))).2).2).1, ((((List.getD r15 ((Int.toNat x2)) ((0, 0, 0, 0, (0, 0, 0, 0, ([] : List Int), ([] : List Int), ([] : List (List Int)), ()), ()))).2).2).2).1, (((((((List.getD r15 ((Int.toNat x2)) ((0, 0, 0, 0, (0, 0, 0, 0, ([] : List Int), ([] : List Int), ([] : List (List Int)), ()), ()))).2).2).2).2).1).1, (((((((List.getD r15 ((Int.toNat x2)) ((0, 0, 0, 0, (0, 0, 0, 0, ([] : List Int), ([] : List Int), ([] : List (List Int)), ()), ()))).2).2).2).2).1).2).1, ((((((((List.getD r15 ((Int.toNat x2)) ((0, 0, 0, 0, (0, 0, 0, 0, ([] : List Int), ([] : List Int), ([] : List (List Int)), ()), ()))).2).2).2).2).1).2).2).1, (((((((((List.getD r15 ((Int.toNat x2)) ((0, 0, 0, 0, (0, 0, 0, 0, ([] : List Int), ([] : List Int), ([] : List (List Int)), ()), ()))).2).2).2).2).1).2).2).2).1, ((((((((((List.getD r15 ((Int.toNat x2)) ((0, 0, 0, 0, (0, 0, 0, 0, ([] : List Int), ([] : List Int), ([] : List (List Int)), ()), ()))).2).2).2).2).1).2).2).2).2).1, (((((((((((List.getD r15 ((Int.toNat x2)) ((0, 0, 0, 0, (0, 0, 0, 0, ([] : List Int), ([] : List Int), ([] : List (List Int)), ()), ()))).2).2).2).2).1).2).2).2).2).2).1, r16.2, ((((((((((((List.getD r15 ((Int.toNat x2)) ((0, 0, 0, 0, (0, 0, 0, 0, ([] : List Int), ([] : List Int), ([] : List (List Int)), ()), ()))).2).2).2).2).1).2).2).2).2).2).2).2), (((((List.getD r15 ((Int.toNat x2)) ((0, 0, 0, 0, (0, 0, 0, 0, ([] : List Int), ([] : List Int), ([] : List (List Int)), ()), ()))).2).2).2).2).2)))).bind fun r17 =>
    some (.again (r16.1, w64 (x2 + 1), r17, ()))
  else
    some (.exit (x1, x2, x3, ()))
noncomputable def F.laws_markItemS (a0 : List DItem) (a1 : Int) : Option (Int × (List DItem)) :=
  afterO (loopO F.laws_markItemS.s2 (a1, 0, a0, ())) fun (x18, x19, x20, _) =>
  some (x18, x20)
noncomputable def C.laws_markItemS : Con := ⟨[.c (.sl true 55 y9), .r (.val (.int .i64))], .one (.int .i64), fun x => F.laws_markItemS x.1 x.2.1⟩
def L.laws_markItemS : Loops := lookL [(2, ⟨[.pat 1 (.val (.int .i64)), .pat 5 (.val (.int .i64)), .root 0 false (.sl true 55 y9) [0]], 0⟩)]
noncomputable def K.laws_markItemS : Cons := lookK [(55, [], C.laws_markIntS), (145, [], C.laws_markIntSS)]
theorem run.laws_markItemS : ∀ x, runF tb K.laws_markItemS L.laws_markItemS [0] Try.f107 C.laws_markItemS x = C.laws_markItemS.fn x := fun x => by kernel_rfl

/-! ### laws.markAgent: function 50 -/
noncomputable def F.laws_markAgent (a0 : DAgent) (a1 : Int) : Option (Int × DAgent) :=
  (F.laws_markItemS a0.2.2.2.2.1 a1).bind fun r1 =>
  (F.laws_markSpanS a0.2.2.2.2.2.1 r1.1).bind fun r2 =>
  some (r2.1, (a0.1, a0.2.1, a0.2.2.1, a0.2.2.2.1, r1.2, r2.2, a0.2.2.2.2.2.2))
noncomputable def C.laws_markAgent : Con := ⟨[.c y16, .r (.val (.int .i64))], .one (.int .i64), fun x => F.laws_markAgent x.1 x.2.1⟩
def L.laws_markAgent : Loops := fun _ => none
noncomputable def K.laws_markAgent : Cons := lookK [(74, [], C.laws_markSpanS), (107, [], C.laws_markItemS)]
theorem run.laws_markAgent : ∀ x, runF tb K.laws_markAgent L.laws_markAgent [2] Try.f50 C.laws_markAgent x = C.laws_markAgent.fn x := fun x => by kernel_rfl

/-! ### laws.heldIntS: function 56 -/
noncomputable def F.laws_heldIntS.s2 : ((List Int) × Int × Int × Unit) → Option (Lp ((List Int) × Int × Int × Unit) Int) := fun (x1, x2, x3, _) =>
  bif decide (x3 < (len x1)) then
    chk (inb x3 (List.length x1)) <|
    bif (List.getD x1 ((Int.toNat x3)) 0) != x2 then
      some (.ret (-1))
    else
      some (.again (x1, w64 (x2 + 1), w64 (x3 + 1), ()))
  else
    some (.exit (x1, x2, x3, ()))
noncomputable def F.laws_heldIntS (a0 : List Int) (a1 : Int) : Option Int :=
  afterO (loopO F.laws_heldIntS.s2 (a0, a1, 0, ())) fun (x4, x5, x6, _) =>
  some x5
noncomputable def C.laws_heldIntS : Con := ⟨[.r (.val (.sl false 3 (.int .i64))), .r (.val (.int .i64))], .one (.int .i64), fun x => F.laws_heldIntS x.1 x.2.1⟩
def L.laws_heldIntS : Loops := lookL [(2, ⟨[.pat 0 (.val (.sl false 3 (.int .i64))), .pat 1 (.val (.int .i64)), .pat 5 (.val (.int .i64))], 0⟩)]
noncomputable def K.laws_heldIntS : Cons := lookK []
theorem run.laws_heldIntS : ∀ x, runF tb K.laws_heldIntS L.laws_heldIntS [] Try.f56 C.laws_heldIntS x = C.laws_heldIntS.fn x := fun x => by kernel_rfl

/-! ### laws.heldIntSS: function 146 -/
noncomputable def F.laws_heldIntSS.s2 : ((List (List Int)) × Int × Int × Unit) → Option (Lp ((List (List Int)) × Int × Int × Unit) Int) := fun (x1, x2, x3, _) =>
  bif decide (x3 < (len x1)) then
    chk (inb x3 (List.length x1)) <|
    (F.laws_heldIntS (List.getD x1 ((Int.toNat x3)) (([] : List Int))) x2).bind fun r4 =>
    bif decide (r4 < 0) then
      some (.ret (-1))
    else
      some (.again (x1, r4, w64 (x3 + 1), ()))
  else
    some (.exit (x1, x2, x3, ()))
noncomputable def F.laws_heldIntSS (a0 : List (List Int)) (a1 : Int) : Option Int :=
  afterO (loopO F.laws_heldIntSS.s2 (a0, a1, 0, ())) fun (x5, x6, x7, _) =>
  some x6
noncomputable def C.laws_heldIntSS : Con := ⟨[.r (.val (.sl false 43 (.sl false 3 (.int .i64)))), .r (.val (.int .i64))], .one (.int .i64), fun x => F.laws_heldIntSS x.1 x.2.1⟩
def L.laws_heldIntSS : Loops := lookL [(2, ⟨[.pat 0 (.val (.sl false 43 (.sl false 3 (.int .i64)))), .pat 1 (.val (.int .i64)), .pat 5 (.val (.int .i64))], 0⟩)]
noncomputable def K.laws_heldIntSS : Cons := lookK [(56, [], C.laws_heldIntS)]
theorem run.laws_heldIntSS : ∀ x, runF tb K.laws_heldIntSS L.laws_heldIntSS [] Try.f146 C.laws_heldIntSS x = C.laws_heldIntSS.fn x := fun x => by kernel_rfl

/-! ### laws.heldItemS: function 108 -/
noncomputable def F.laws_heldItemS.s2 : ((List DItem) × Int × Int × Unit) → Option (Lp ((List DItem) × Int × Int × Unit) Int) := fun (x1, x2, x3, _) =>
  bif decide (x3 < (len x1)) then
    chk (inb x3 (List.length x1)) <|
    bif ((List.getD x1 ((Int.toNat x3)) ((0, 0, 0, 0, (0, 0, 0, 0, ([] : List Int), ([] : List Int), ([] : List (List Int)), ()), ()))).1) != x2 then
      some (.ret (-1))
    else
    chk (inb x3 (List.length x1)) <|
    bif (((List.getD x1 ((Int.toNat x3)) ((0, 0, 0, 0, (0, 0, 0, 0, ([] : List Int), ([] : List Int), ([] : List (List Int)), ()), ()))).2).1) != (w64 (x2 + 1)) then
      some (.ret (-1))
    else
    chk (inb x3 (List.length x1)) <|
    bif ((((List.getD x1 ((Int.toNat x3)) ((0, 0, 0, 0, (0, 0, 0, 0, ([] : List Int), ([] : List Int), ([] : List (List Int)), ()), ()))).2).2).1) != (w64 ((w64 (x2 + 1)) + 1)) then
      some (.ret (-1))
    else
    chk (inb x3 (List.length x1)) <|
    bif (((((List.getD x1 ((Int.toNat x3)) ((0, 0, 0, 0, (0, 0, 0, 0, ([] : List Int), ([] : List Int), ([] : List (List Int)), ()), ()))).2).2).2).1) != (w64 ((w64 ((w64 (x2 + 1)) + 1)) + 1)) then
      some (.ret (-1))
    else
    chk (inb x3 (List.length x1)) <|
    bif (((((((List.getD x1 ((Int.toNat x3)) ((0, 0, 0, 0, (0, 0, 0, 0, ([] : List Int), ([] : List Int), ([] : List (List Int)), ()), ()))).2).2).2).2).1).1) != (w64 ((w64 ((w64 ((w64 (x2 + 1)) + 1)) + 1)) + 1)) then
      some (.ret (-1))
    else
    chk (inb x3 (List.length x1)) <|
    bif ((((((((List.getD x1 ((Int.toNat x3)) ((0, 0, 0, 0, (0, 0, 0, 0, ([] : List Int), ([] : List Int), ([] : List (List Int)), ()), ()))).2).2).2).2).1).2).1) != (w64 ((w64 ((w64 ((w64 ((w64 (x2 + 1)) + 1)) + 1)) + 1)) + 1)) then
      some (.ret (-1))
    else
    chk (inb x3 (List.length x1)) <|
    bif (((((((((List.getD x1 ((Int.toNat x3)) ((0, 0, 0, 0, (0, 0, 0, 0, ([] : List Int), ([] : List Int), ([] : List (List Int)), ()), ()))).2).2).2).2).1).2).2).1) != (w64 ((w64 ((w64 ((w64 ((w64 ((w64 (x2 + 1)) + 1)) + 1)) + 1)) + 1)) + 1)) then
      some (.ret (-1))
    else
    chk (inb x3 (List.length x1)) <|
    bif ((((((((((List.getD x1 ((Int.toNat x3)) ((0, 0, 0, 0, (0, 0, 0, 0, ([] : List Int), ([] : List Int), ([] : List (List Int)), ()), ()))).2).2).2).2).1).2).2).2).1) != (w64 ((w64 ((w64 ((w64 ((w64 ((w64 ((w64 (x2 + 1)) + 1)) + 1)) + 1)) + 1)) + 1)) + 1)) then
      some (.ret (-1))
    else
    chk (inb x3 (List.length x1)) <|
    (F.laws_heldIntS (((((((((((List.getD x1 ((Int.toNat x3)) ((0, 0, 0, 0, (0, 0, 0, 0, ([] : List Int), ([] : List Int), ([] : List (List Int)), ()), ()))).2).2).2).2).1).2).2).2).2).1) (w64 ((w64 ((w64 ((w64 ((w64 ((w64 ((w64 ((w64 (x2 + 1)) + 1)) + 1)) + 1)) + 1)) + 1)) + 1)) + 1))).bind fun r4 =>
    bif decide (r4 < 0) then
      some (.ret (-1))
    else
    chk (inb x3 (List.length x1)) <|
    (F.laws_heldIntS ((((((((((((List.getD x1 ((Int.toNat x3)) ((0, 0, 0, 0, (0, 0, 0, 0, ([] : List Int), ([] : List Int), ([] : List (List Int)), ()), ()))).2).2).2).2).1).2).2).2).2).2).1) r4).bind fun r5 =>
    bif decide (r5 < 0) then
      some (.ret (-1))
    else
    chk (inb x3 (List.length x1)) <|
    (F.laws_heldIntSS (((((((((((((List.getD x1 ((Int.toNat x3)) ((0, 0, 0, 0, (0, 0, 0, 0, ([] : List Int), ([] : List Int), ([] : List (List Int)), ()), ()))).2).2).2).2).1).2).2).2).2).2).2).1) r5).bind fun r6 =>
    bif decide (r6 < 0) then
      some (.ret (-1))
    else
      some (.again (x1, r6, w64 (x3 + 1), ()))
  else
    some (.exit (x1, x2, x3, ()))
noncomputable def F.laws_heldItemS (a0 : List DItem) (a1 : Int) : Option Int :=
  afterO (loopO F.laws_heldItemS.s2 (a0, a1, 0, ())) fun (x7, x8, x9, _) =>
  some x8
noncomputable def C.laws_heldItemS : Con := ⟨[.r (.val (.sl false 55 y6)), .r (.val (.int .i64))], .one (.int .i64), fun x => F.laws_heldItemS x.1 x.2.1⟩
def L.laws_heldItemS : Loops := lookL [(2, ⟨[.pat 0 (.val (.sl false 55 y6)), .pat 1 (.val (.int .i64)), .pat 5 (.val (.int .i64))], 0⟩)]
noncomputable def K.laws_heldItemS : Cons := lookK [(56, [], C.laws_heldIntS), (146, [], C.laws_heldIntSS)]
theorem run.laws_heldItemS : ∀ x, runF tb K.laws_heldItemS L.laws_heldItemS [] Try.f108 C.laws_heldItemS x = C.laws_heldItemS.fn x := fun x => by kernel_rfl

/-! ### laws.heldAgent: function 51 -/
noncomputable def F.laws_heldAgent (a0 : DAgent) (a1 : Int) : Option Int :=
  (F.laws_heldItemS a0.2.2.2.2.1 a1).bind fun r1 =>
  bif decide (r1 < 0) then
    some (-1)
  else
  (F.laws_heldSpanS a0.2.2.2.2.2.1 r1).bind fun r2 =>
  bif decide (r2 < 0) then
    some (-1)
  else
    some r2
noncomputable def C.laws_heldAgent : Con := ⟨[.r (.val y17), .r (.val (.int .i64))], .one (.int .i64), fun x => F.laws_heldAgent x.1 x.2.1⟩
def L.laws_heldAgent : Loops := fun _ => none
noncomputable def K.laws_heldAgent : Cons := lookK [(75, [], C.laws_heldSpanS), (108, [], C.laws_heldItemS)]
theorem run.laws_heldAgent : ∀ x, runF tb K.laws_heldAgent L.laws_heldAgent [] Try.f51 C.laws_heldAgent x = C.laws_heldAgent.fn x := fun x => by kernel_rfl

/-! ### laws.FnExactAgentNew: function 11 -/
noncomputable def F.laws_FnExactAgentNew (a0 : Int) : Option Bool :=
  (F.spec_AgentNew a0).bind fun r1 =>
  (F.impl_AgentNew a0).bind fun r2 =>
  (F.laws_eqAgent r2.1 r1.1).bind fun r3 =>
  bif !r3 then
    some false
  else
  bif !(r2.2 == r1.2) then
    some false
  else
  (F.laws_markAgent r2.1 1).bind fun r4 =>
  (F.laws_heldAgent r4.2 1).bind fun r5 =>
  bif decide (r5 < 0) then
    some false
  else
  bif r5 != r4.1 then
    some false
  else
  (F.impl_AgentNew a0).bind fun r6 =>
  (F.laws_eqAgent r6.1 r1.1).bind fun r7 =>
  bif !r7 then
    some false
  else
  bif !(r6.2 == r1.2) then
    some false
  else
  (F.laws_heldAgent r4.2 1).bind fun r8 =>
  bif decide (r8 < 0) then
    some false
  else
  bif r8 != r4.1 then
    some false
  else
    some true
noncomputable def C.laws_FnExactAgentNew : Con := ⟨[.r (.val (.int .i64))], .one .bool, fun x => F.laws_FnExactAgentNew x.1⟩
def L.laws_FnExactAgentNew : Loops := fun _ => none
noncomputable def K.laws_FnExactAgentNew : Cons := lookK [(47, [], C.laws_eqAgent), (48, [], C.spec_AgentNew), (49, [], C.impl_AgentNew), (50, [], C.laws_markAgent), (51, [], C.laws_heldAgent)]
theorem run.laws_FnExactAgentNew : ∀ x, runF tb K.laws_FnExactAgentNew L.laws_FnExactAgentNew [] Try.f11 C.laws_FnExactAgentNew x = C.laws_FnExactAgentNew.fn x := fun x => by kernel_rfl

/-! ### spec.Waiting: function 52 -/
noncomputable def F.spec_Waiting.s5 : ((List Int) × Int × DAgent × Unit) → Option (Lp ((List Int) × Int × DAgent × Unit) ((List Int))) := fun (x2, x3, x4, _) =>
  bif decide (x3 ≤ (len x4.2.2.2.2.1)) then
    bif decide (x3 ≤ x4.2.2.2.1) then
      (F.spec_SetHas x4.2.2.2.2.2.1 x3).bind fun r5 =>
      bif !r5 then
        chk (fits (List.length x2 + List.length ([x3])) 8) <|
        some (.again (x2 ++ ([x3]), w64 (x3 + 1), x4, ()))
      else
        some (.again (x2, w64 (x3 + 1), x4, ()))
    else
      some (.exit (x2, x3, x4, ()))
  else
    some (.exit (x2, x3, x4, ()))
noncomputable def F.spec_Waiting (a0 : DAgent) : Option ((List Int)) :=
  (F.spec_AgentOk a0).bind fun r1 =>
  bif !r1 then
    some ([] : List Int)
  else
  bif !a0.2.2.1 then
    some ([] : List Int)
  else
  afterO (loopO F.spec_Waiting.s5 (([] : List Int), 1, a0, ())) fun (x6, x7, x8, _) =>
  some x6
noncomputable def C.spec_Waiting : Con := ⟨[.r (.val y17)], .one (.sl true 3 (.int .i64)), fun x => F.spec_Waiting x.1⟩
def L.spec_Waiting : Loops := lookL [(5, ⟨[.own 3 (.sl true 3 (.int .i64)), .pat 4 (.val (.int .i64)), .root 1 true y17 [1]], 0⟩)]
noncomputable def K.spec_Waiting : Cons := lookK [(44, [], C.spec_AgentOk), (109, [], C.spec_SetHas)]
theorem run.spec_Waiting : ∀ x, runF tb K.spec_Waiting L.spec_Waiting [] Try.f52 C.spec_Waiting x = C.spec_Waiting.fn x := fun x => by kernel_rfl

/-! ### impl.SetHas$1: function 148 -/
noncomputable def F.impl_SetHas_1 (a0 : DSpan) (a1 : Int) : Option Bool :=
  (F.impl_within a1 a0.1 a0.2.1).bind fun r1 =>
  some r1
noncomputable def C.impl_SetHas_1 : Con := ⟨[.r (.val y0), .r (.sptr (.int .i64))], .one .bool, fun x => F.impl_SetHas_1 x.1 x.2.1⟩
def L.impl_SetHas_1 : Loops := fun _ => none
noncomputable def K.impl_SetHas_1 : Cons := lookK [(72, [], C.impl_within)]
theorem run.impl_SetHas_1 : ∀ x, runF tb K.impl_SetHas_1 L.impl_SetHas_1 [] Try.f148 C.impl_SetHas_1 x = C.impl_SetHas_1.fn x := fun x => by kernel_rfl

/-! ### slices.IndexFunc[[]impl.Span,impl.Span]: function 173 -/
noncomputable def F.slices_IndexFunc_Span__impl_SetHas_1.s2 : ((List DSpan) × (Int × Unit) × Int × Int × Unit) → Option (Lp ((List DSpan) × (Int × Unit) × Int × Int × Unit) Int) := fun (x1, x2, x3, x4, _) =>
  bif decide (x4 < x3) then
    chk (inb x4 (List.length x1)) <|
    (F.impl_SetHas_1 (List.getD x1 ((Int.toNat x4)) ((0, 0, ()))) x2.1).bind fun r5 =>
    bif r5 then
      some (.ret x4)
    else
      some (.again (x1, (x2.1, ()), x3, w64 (x4 + 1), ()))
  else
    some (.exit (x1, (x2.1, ()), x3, x4, ()))
noncomputable def F.slices_IndexFunc_Span__impl_SetHas_1 (a0 : List DSpan) (a1 : Int × Unit) : Option Int :=
  afterO (loopO F.slices_IndexFunc_Span__impl_SetHas_1.s2 (a0, (a1.1, ()), len a0, 0, ())) fun (x6, x7, x8, x9, _) =>
  some (-1)
noncomputable def C.slices_IndexFunc_Span__impl_SetHas_1 : Con := ⟨[.r (.val (.sl false 106 y0)), .r (.fn 148 (.cons (.sptr (.int .i64)) .nil))], .one (.int .i64), fun x => F.slices_IndexFunc_Span__impl_SetHas_1 x.1 x.2.1⟩
def L.slices_IndexFunc_Span__impl_SetHas_1 : Loops := lookL [(2, ⟨[.pat 0 (.val (.sl false 106 y0)), .pat 1 (.fn 148 (.cons (.sptr (.int .i64)) .nil)), .pat 7 (.val (.int .i64)), .pat 8 (.val (.int .i64))], 0⟩)]
noncomputable def K.slices_IndexFunc_Span__impl_SetHas_1 : Cons := lookK [(148, [], C.impl_SetHas_1)]
theorem run.slices_IndexFunc_Span__impl_SetHas_1 : ∀ x, runF tb K.slices_IndexFunc_Span__impl_SetHas_1 L.slices_IndexFunc_Span__impl_SetHas_1 [] Try.f173 C.slices_IndexFunc_Span__impl_SetHas_1 x = C.slices_IndexFunc_Span__impl_SetHas_1.fn x := fun x => by kernel_rfl

/-! ### slices.ContainsFunc[[]impl.Span,impl.Span]: function 147 -/
noncomputable def F.slices_ContainsFunc_Span__impl_SetHas_1 (a0 : List DSpan) (a1 : Int × Unit) : Option Bool :=
  (F.slices_IndexFunc_Span__impl_SetHas_1 a0 ((a1.1, ()))).bind fun r1 =>
  some (decide (r1 ≥ 0))
noncomputable def C.slices_ContainsFunc_Span__impl_SetHas_1 : Con := ⟨[.r (.val (.sl false 106 y0)), .r (.fn 148 (.cons (.sptr (.int .i64)) .nil))], .one .bool, fun x => F.slices_ContainsFunc_Span__impl_SetHas_1 x.1 x.2.1⟩
def L.slices_ContainsFunc_Span__impl_SetHas_1 : Loops := fun _ => none
noncomputable def K.slices_ContainsFunc_Span__impl_SetHas_1 : Cons := lookK [(173, [148], C.slices_IndexFunc_Span__impl_SetHas_1)]
theorem run.slices_ContainsFunc_Span__impl_SetHas_1 : ∀ x, runF tb K.slices_ContainsFunc_Span__impl_SetHas_1 L.slices_ContainsFunc_Span__impl_SetHas_1 [] Try.f147 C.slices_ContainsFunc_Span__impl_SetHas_1 x = C.slices_ContainsFunc_Span__impl_SetHas_1.fn x := fun x => by kernel_rfl

/-! ### impl.SetHas: function 110 -/
noncomputable def F.impl_SetHas (a0 : List DSpan) (a1 : Int) : Option Bool :=
  (F.slices_ContainsFunc_Span__impl_SetHas_1 a0 ((a1, ()))).bind fun r1 =>
  some r1
noncomputable def C.impl_SetHas : Con := ⟨[.r (.val (.sl false 106 y0)), .r (.val (.int .i64))], .one .bool, fun x => F.impl_SetHas x.1 x.2.1⟩
def L.impl_SetHas : Loops := fun _ => none
noncomputable def K.impl_SetHas : Cons := lookK [(147, [148], C.slices_ContainsFunc_Span__impl_SetHas_1)]
theorem run.impl_SetHas : ∀ x, runF tb K.impl_SetHas L.impl_SetHas [] Try.f110 C.impl_SetHas x = C.impl_SetHas.fn x := fun x => by kernel_rfl

/-! ### impl.Waiting: function 53 -/
noncomputable def F.impl_Waiting.s5 : ((List Int) × Int × DAgent × Unit) → Option (Lp ((List Int) × Int × DAgent × Unit) ((List Int))) := fun (x2, x3, x4, _) =>
  bif decide (x3 ≤ (mnI (len x4.2.2.2.2.1) x4.2.2.2.1)) then
    (F.impl_SetHas x4.2.2.2.2.2.1 x3).bind fun r5 =>
    bif !r5 then
      chk (fits (List.length x2 + List.length ([x3])) 8) <|
      some (.again (x2 ++ ([x3]), w64 (x3 + 1), x4, ()))
    else
      some (.again (x2, w64 (x3 + 1), x4, ()))
  else
    some (.exit (x2, x3, x4, ()))
noncomputable def F.impl_Waiting (a0 : DAgent) : Option ((List Int)) :=
  (F.impl_AgentOk a0).bind fun r1 =>
  bif !r1 then
    some ([] : List Int)
  else
  bif !a0.2.2.1 then
    some ([] : List Int)
  else
  afterO (loopO F.impl_Waiting.s5 (([] : List Int), 1, a0, ())) fun (x6, x7, x8, _) =>
  some x6
noncomputable def C.impl_Waiting : Con := ⟨[.r (.val y17)], .one (.sl true 3 (.int .i64)), fun x => F.impl_Waiting x.1⟩
def L.impl_Waiting : Loops := lookL [(5, ⟨[.own 3 (.sl true 3 (.int .i64)), .pat 4 (.val (.int .i64)), .root 1 true y17 [1]], 0⟩)]
noncomputable def K.impl_Waiting : Cons := lookK [(46, [], C.impl_AgentOk), (110, [], C.impl_SetHas)]
theorem run.impl_Waiting : ∀ x, runF tb K.impl_Waiting L.impl_Waiting [] Try.f53 C.impl_Waiting x = C.impl_Waiting.fn x := fun x => by kernel_rfl

/-! ### laws.FnExactWaiting: function 12 -/
noncomputable def F.laws_FnExactWaiting (a0 : DAgent) : Option Bool :=
  (F.laws_szAgent a0 1048576).bind fun r1 =>
  bif decide (r1 < 0) then
    some true
  else
  (F.laws_toAgent a0).bind fun r2 =>
  (F.spec_Waiting r2).bind fun r3 =>
  (F.laws_toAgent a0).bind fun r4 =>
  (F.impl_Waiting r4).bind fun r5 =>
  (F.laws_eqIntS r5 r3).bind fun r6 =>
  bif !r6 then
    some false
  else
  (F.laws_toAgent a0).bind fun r7 =>
  (F.laws_eqAgent r4 r7).bind fun r8 =>
  bif !r8 then
    some false
  else
  (F.laws_markAgent r4 1).bind fun r9 =>
  bif decide (r9.1 < 0) then
    some false
  else
  (F.laws_eqIntS r5 r3).bind fun r10 =>
  bif !r10 then
    some false
  else
  (F.laws_markIntS r5 1).bind fun r11 =>
  (F.laws_heldIntS r11.2 1).bind fun r12 =>
  bif decide (r12 < 0) then
    some false
  else
  bif r12 != r11.1 then
    some false
  else
  (F.laws_toAgent a0).bind fun r13 =>
  (F.impl_Waiting r13).bind fun r14 =>
  (F.laws_eqIntS r14 r3).bind fun r15 =>
  bif !r15 then
    some false
  else
  (F.laws_heldIntS r11.2 1).bind fun r16 =>
  bif decide (r16 < 0) then
    some false
  else
  bif r16 != r11.1 then
    some false
  else
    some true
noncomputable def C.laws_FnExactWaiting : Con := ⟨[.r (.val y15)], .one .bool, fun x => F.laws_FnExactWaiting x.1⟩
def L.laws_FnExactWaiting : Loops := fun _ => none
noncomputable def K.laws_FnExactWaiting : Cons := lookK [(43, [], C.laws_szAgent), (45, [], C.laws_toAgent), (47, [], C.laws_eqAgent), (50, [], C.laws_markAgent), (52, [], C.spec_Waiting), (53, [], C.impl_Waiting), (54, [], C.laws_eqIntS), (55, [], C.laws_markIntS), (56, [], C.laws_heldIntS)]
theorem run.laws_FnExactWaiting : ∀ x, runF tb K.laws_FnExactWaiting L.laws_FnExactWaiting [] Try.f12 C.laws_FnExactWaiting x = C.laws_FnExactWaiting.fn x := fun x => by kernel_rfl

/-! ### spec.l3Values: function 184 -/
noncomputable def F.spec_l3Values.s4 : ((List Int) × Int × Int × DL1Cur × Unit) → Option (Lp ((List Int) × Int × Int × DL1Cur × Unit) ((List Int) × DL1Cur)) := fun (x2, x3, x4, x5, _) =>
  bif decide (x4 < x3) then
    (F.spec_l1Byte x5).bind fun r6 =>
    (F.spec_l1PickInt r6.2 ([0, 1, 7, 8, 100, 5000, 1000000, r6.1, 1000001, -1])).bind fun r7 =>
    chk (fits (List.length x2 + List.length ([r7.1])) 8) <|
    some (.again (x2 ++ ([r7.1]), x3, w64 (x4 + 1), r7.2, ()))
  else
    some (.exit (x2, x3, x4, x5, ()))
noncomputable def F.spec_l3Values (a0 : DL1Cur) : Option ((List Int) × DL1Cur) :=
  (F.spec_l1Below a0 6).bind fun r1 =>
  afterO (loopO F.spec_l3Values.s4 (([] : List Int), r1.1, 0, r1.2, ())) fun (x8, x9, x10, x11, _) =>
  some (x8, x11)
noncomputable def C.spec_l3Values : Con := ⟨[.p y4 y4], .one (.sl true 3 (.int .i64)), fun x => F.spec_l3Values x.1⟩
def L.spec_l3Values : Loops := lookL [(4, ⟨[.own 3 (.sl true 3 (.int .i64)), .pat 4 (.val (.int .i64)), .pat 5 (.val (.int .i64)), .root 0 true y4 [0]], 0⟩)]
noncomputable def K.spec_l3Values : Cons := lookK [(79, [], C.spec_l1PickInt), (128, [], C.spec_l1Below), (159, [], C.spec_l1Byte)]
theorem run.spec_l3Values : ∀ x, runF tb K.spec_l3Values L.spec_l3Values [0] Try.f184 C.spec_l3Values x = C.spec_l3Values.fn x := fun x => by kernel_rfl

/-! ### spec.SketchNew: function 186 -/
noncomputable def F.spec_SketchNew : Option DSketch :=
  chk (mk 8 8 8) <|
  chk (mk 8 8 8) <|
  chk (mk 8 4 4) <|
  chk (mk 8 4 4) <|
  some (0, 0, 0, 0, List.replicate 8 0, List.replicate 8 0, [List.replicate 4 0, List.replicate 4 0], ())
noncomputable def C.spec_SketchNew : Con := ⟨[], .one y8, fun x => F.spec_SketchNew⟩
def L.spec_SketchNew : Loops := fun _ => none
noncomputable def K.spec_SketchNew : Cons := lookK []
theorem run.spec_SketchNew : ∀ x, runF tb K.spec_SketchNew L.spec_SketchNew [] Try.f186 C.spec_SketchNew x = C.spec_SketchNew.fn x := fun x => by kernel_rfl

/-! ### spec.l3Copy: function 188 -/
noncomputable def F.spec_l3Copy.s6 : (Int × DSketch × DSketch × DSketch × Unit) → Option (Lp (Int × DSketch × DSketch × DSketch × Unit) DSketch) := fun (x1, x2, x3, x4, _) =>
  bif decide (x1 < (len x2.2.2.2.2.2.2.1)) then
    chk (inb x1 (List.length x2.2.2.2.2.2.2.1)) <|
    chk (fits (List.length (([] : List Int)) + List.length (List.getD x2.2.2.2.2.2.2.1 ((Int.toNat x1)) (([] : List Int)))) 8) <|
    chk (fits (List.length x4.2.2.2.2.2.2.1 + List.length ([(([] : List Int)) ++ (List.getD x2.2.2.2.2.2.2.1 ((Int.toNat x1)) (([] : List Int)))])) 24) <|
    some (.again (w64 (x1 + 1), x2, x3, (x4.1, x4.2.1, x4.2.2.1, x4.2.2.2.1, x4.2.2.2.2.1, x4.2.2.2.2.2.1, x4.2.2.2.2.2.2.1 ++ ([(([] : List Int)) ++ (List.getD x2.2.2.2.2.2.2.1 ((Int.toNat x1)) (([] : List Int)))]), x4.2.2.2.2.2.2.2), ()))
  else
    some (.exit (x1, x2, x3, x4, ()))
noncomputable def F.spec_l3Copy (a0 : DSketch) : Option DSketch :=
  chk (fits (List.length (([] : List Int)) + List.length a0.2.2.2.2.1) 8) <|
  chk (fits (List.length (([] : List Int)) + List.length a0.2.2.2.2.2.1) 8) <|
  afterO (loopO F.spec_l3Copy.s6 (0, a0, (0, 0, 0, 0, ([] : List Int), ([] : List Int), ([] : List (List Int)), ()), (a0.1, a0.2.1, a0.2.2.1, a0.2.2.2.1, (([] : List Int)) ++ a0.2.2.2.2.1, (([] : List Int)) ++ a0.2.2.2.2.2.1, ([] : List (List Int)), a0.2.2.2.2.2.2.2), ())) fun (x5, x6, x7, x8, _) =>
  some x8
noncomputable def C.spec_l3Copy : Con := ⟨[.r (.val y5)], .one y8, fun x => F.spec_l3Copy x.1⟩
def L.spec_l3Copy : Loops := lookL [(6, ⟨[.pat 4 (.val (.int .i64)), .root 1 true y5 [1], .root 2 true y8 [2], .root 3 true y8 [3]], 0⟩)]
noncomputable def K.spec_l3Copy : Cons := lookK []
theorem run.spec_l3Copy : ∀ x, runF tb K.spec_l3Copy L.spec_l3Copy [] Try.f188 C.spec_l3Copy x = C.spec_l3Copy.fn x := fun x => by kernel_rfl

/-! ### spec.l2Clip: function 193 -/
noncomputable def F.spec_l2Clip (a0 : Int) (a1 : Int) : Option Int :=
  (F.spec_l1Min a0 a1).bind fun r1 =>
  (F.spec_l1Max 0 r1).bind fun r2 =>
  some r2
noncomputable def C.spec_l2Clip : Con := ⟨[.r (.val (.int .i64)), .r (.val (.int .i64))], .one (.int .i64), fun x => F.spec_l2Clip x.1 x.2.1⟩
def L.spec_l2Clip : Loops := fun _ => none
noncomputable def K.spec_l2Clip : Cons := lookK [(180, [], C.spec_l1Min), (182, [], C.spec_l1Max)]
theorem run.spec_l2Clip : ∀ x, runF tb K.spec_l2Clip L.spec_l2Clip [] Try.f193 C.spec_l2Clip x = C.spec_l2Clip.fn x := fun x => by kernel_rfl

/-! ### spec.Add: function 189 -/
noncomputable def F.spec_Add (a0 : Int) (a1 : Int) : Option Int :=
  (F.spec_l2Clip a0 1000000000).bind fun r1 =>
  (F.spec_l2Clip a1 1000000000).bind fun r2 =>
  (F.spec_l1Min (w64 (r1 + r2)) 1000000000).bind fun r3 =>
  some r3
noncomputable def C.spec_Add : Con := ⟨[.r (.val (.int .i64)), .r (.val (.int .i64))], .one (.int .i64), fun x => F.spec_Add x.1 x.2.1⟩
def L.spec_Add : Loops := fun _ => none
noncomputable def K.spec_Add : Cons := lookK [(180, [], C.spec_l1Min), (193, [], C.spec_l2Clip)]
theorem run.spec_Add : ∀ x, runF tb K.spec_Add L.spec_Add [] Try.f189 C.spec_Add x = C.spec_Add.fn x := fun x => by kernel_rfl

/-! ### spec.BucketOf: function 190 -/
noncomputable def F.spec_BucketOf.s3 : (Int × Int × Unit) → Option (Lp (Int × Int × Unit) Int) := fun (x2, x3, _) =>
  bif decide (x2 > 0) then
    some (.again (w64 (Int.tdiv x2 2), w64 (x3 + 1), ()))
  else
    some (.exit (x2, x3, ()))
noncomputable def F.spec_BucketOf (a0 : Int) : Option Int :=
  (F.spec_l2Clip a0 1000000).bind fun r1 =>
  afterO (loopO F.spec_BucketOf.s3 (r1, 0, ())) fun (x4, x5, _) =>
  some (w64 (Int.tdiv (w64 (x5 + 2)) 3))
noncomputable def C.spec_BucketOf : Con := ⟨[.r (.val (.int .i64))], .one (.int .i64), fun x => F.spec_BucketOf x.1⟩
def L.spec_BucketOf : Loops := lookL [(3, ⟨[.pat 3 (.val (.int .i64)), .pat 4 (.val (.int .i64))], 0⟩)]
noncomputable def K.spec_BucketOf : Cons := lookK [(193, [], C.spec_l2Clip)]
theorem run.spec_BucketOf : ∀ x, runF tb K.spec_BucketOf L.spec_BucketOf [] Try.f190 C.spec_BucketOf x = C.spec_BucketOf.fn x := fun x => by kernel_rfl

/-! ### spec.Mix: function 191 -/
noncomputable def F.spec_Mix (a0 : Int) : Option Int :=
  (F.spec_l2Clip a0 1000000).bind fun r1 =>
  some (ibits .xor .i64 (Int.tmod (w64 ((w64 (r1 * 40503)) + 12345)) 65536) (w64 (Int.tdiv (Int.tmod (w64 ((w64 (r1 * 40503)) + 12345)) 65536) 256)))
noncomputable def C.spec_Mix : Con := ⟨[.r (.val (.int .i64))], .one (.int .i64), fun x => F.spec_Mix x.1⟩
def L.spec_Mix : Loops := fun _ => none
noncomputable def K.spec_Mix : Cons := lookK [(193, [], C.spec_l2Clip)]
theorem run.spec_Mix : ∀ x, runF tb K.spec_Mix L.spec_Mix [] Try.f191 C.spec_Mix x = C.spec_Mix.fn x := fun x => by kernel_rfl

/-! ### spec.RankOf: function 192 -/
noncomputable def F.spec_RankOf.s5 : (Int × Int × Unit) → Option (Lp (Int × Int × Unit) Int) := fun (x2, x3, _) =>
  bif (Int.tmod x2 2) == 0 then
    some (.again (w64 (Int.tdiv x2 2), w64 (x3 + 1), ()))
  else
    some (.exit (x2, x3, ()))
noncomputable def F.spec_RankOf (a0 : Int) : Option Int :=
  (F.spec_Mix a0).bind fun r1 =>
  bif r1 == 0 then
    some 17
  else
  afterO (loopO F.spec_RankOf.s5 (r1, 1, ())) fun (x4, x5, _) =>
  some x5
noncomputable def C.spec_RankOf : Con := ⟨[.r (.val (.int .i64))], .one (.int .i64), fun x => F.spec_RankOf x.1⟩
def L.spec_RankOf : Loops := lookL [(5, ⟨[.pat 3 (.val (.int .i64)), .pat 4 (.val (.int .i64))], 0⟩)]
noncomputable def K.spec_RankOf : Cons := lookK [(191, [], C.spec_Mix)]
theorem run.spec_RankOf : ∀ x, runF tb K.spec_RankOf L.spec_RankOf [] Try.f192 C.spec_RankOf x = C.spec_RankOf.fn x := fun x => by kernel_rfl

/-! ### spec.Insert: function 187 -/
noncomputable def F.spec_Insert.s14 : (Int × Int × DSketch × DSketch × Unit) → Option (Lp (Int × Int × DSketch × DSketch × Unit) (DSketch × Bool)) := fun (x14, x15, x16, x17, _) =>
  bif decide (x15 < 2) then
    (F.spec_Mix x14).bind fun r18 =>
    chk (inb x15 (List.length x17.2.2.2.2.2.2.1)) <|
    chk (inb x15 (List.length x17.2.2.2.2.2.2.1)) <|
    chk (inb (Int.tmod (w64 (r18 + x15)) 4) (List.length (List.getD x17.2.2.2.2.2.2.1 ((Int.toNat x15)) (([] : List Int))))) <|
    (F.spec_Add (List.getD (List.getD x17.2.2.2.2.2.2.1 ((Int.toNat x15)) (([] : List Int))) ((Int.toNat (Int.tmod (w64 (r18 + x15)) 4))) 0) 1).bind fun r19 =>
    chk (inb (Int.tmod (w64 (r18 + x15)) 4) (List.length (List.getD x17.2.2.2.2.2.2.1 ((Int.toNat x15)) (([] : List Int))))) <|
    (some (List.set x17.2.2.2.2.2.2.1 ((Int.toNat x15)) (List.set (List.getD x17.2.2.2.2.2.2.1 ((Int.toNat x15)) (([] : List Int))) ((Int.toNat (Int.tmod (w64 (r18 + x15)) 4))) r19))).bind fun r20 =>
    some (.again (x14, w64 (x15 + 1), x16, (x17.1, x17.2.1, x17.2.2.1, x17.2.2.2.1, x17.2.2.2.2.1, x17.2.2.2.2.2.1, r20, x17.2.2.2.2.2.2.2), ()))
  else
    some (.exit (x14, x15, x16, x17, ()))
noncomputable def F.spec_Insert (a0 : DSketch) (a1 : Int) : Option (DSketch × Bool) :=
  (F.spec_l3Copy a0).bind fun r1 =>
  (F.spec_SketchOk a0).bind fun r2 =>
  bif !r2 then
    some (r1, false)
  else
  (F.spec_l1In a1 0 1000000).bind fun r3 =>
  bif !r3 then
    some (r1, false)
  else
  (F.spec_Add a0.1 1).bind fun r4 =>
  (F.spec_Add a0.2.1 a1).bind fun r5 =>
  (F.spec_l1Min a0.2.2.1 a1).bind fun r6 =>
  bif a0.1 == 0 then
    (F.spec_l1Max a0.2.2.2.1 a1).bind fun r7 =>
    (F.spec_BucketOf a1).bind fun r8 =>
    (F.spec_BucketOf a1).bind fun r9 =>
    chk (inb r9 (List.length r1.2.2.2.2.1)) <|
    (F.spec_Add (List.getD r1.2.2.2.2.1 ((Int.toNat r9)) 0) 1).bind fun r10 =>
    chk (inb r8 (List.length r1.2.2.2.2.1)) <|
    (F.spec_Mix a1).bind fun r11 =>
    chk (inb (Int.tmod r11 8) (List.length r1.2.2.2.2.2.1)) <|
    (F.spec_RankOf a1).bind fun r12 =>
    (F.spec_l1Max (List.getD r1.2.2.2.2.2.1 ((Int.toNat (Int.tmod r11 8))) 0) r12).bind fun r13 =>
    chk (inb (Int.tmod r11 8) (List.length r1.2.2.2.2.2.1)) <|
    afterO (loopO F.spec_Insert.s14 (a1, 0, (0, 0, 0, 0, ([] : List Int), ([] : List Int), ([] : List (List Int)), ()), (r4, r5, a1, r7, List.set r1.2.2.2.2.1 ((Int.toNat r8)) r10, List.set r1.2.2.2.2.2.1 ((Int.toNat (Int.tmod r11 8))) r13, r1.2.2.2.2.2.2), ())) fun (x21, x22, x23, x24, _) =>
    some (x24, true)
  else
  (F.spec_l1Max a0.2.2.2.1 a1).bind fun r25 =>
  (F.spec_BucketOf a1).bind fun r26 =>
  (F.spec_BucketOf a1).bind fun r27 =>
  chk (inb r27 (List.length r1.2.2.2.2.1)) <|
  (F.spec_Add (List.getD r1.2.2.2.2.1 ((Int.toNat r27)) 0) 1).bind fun r28 =>
  chk (inb r26 (List.length r1.2.2.2.2.1)) <|
  (F.spec_Mix a1).bind fun r29 =>
  chk (inb (Int.tmod r29 8) (List.length r1.2.2.2.2.2.1)) <|
  (F.spec_RankOf a1).bind fun r30 =>
  (F.spec_l1Max (List.getD r1.2.2.2.2.2.1 ((Int.toNat (Int.tmod r29 8))) 0) r30).bind fun r31 =>
  chk (inb (Int.tmod r29 8) (List.length r1.2.2.2.2.2.1)) <|
  afterO (loopO F.spec_Insert.s14 (a1, 0, (0, 0, 0, 0, ([] : List Int), ([] : List Int), ([] : List (List Int)), ()), (r4, r5, r6, r25, List.set r1.2.2.2.2.1 ((Int.toNat r26)) r28, List.set r1.2.2.2.2.2.1 ((Int.toNat (Int.tmod r29 8))) r31, r1.2.2.2.2.2.2), ())) fun (x39, x40, x41, x42, _) =>
  some (x42, true)
noncomputable def C.spec_Insert : Con := ⟨[.r (.val y5), .r (.val (.int .i64))], .many [y8, .bool], fun x => F.spec_Insert x.1 x.2.1⟩
def L.spec_Insert : Loops := lookL [(14, ⟨[.pat 1 (.val (.int .i64)), .pat 8 (.val (.int .i64)), .root 4 true y8 [4], .root 6 true y8 [6]], 0⟩)]
noncomputable def K.spec_Insert : Cons := lookK [(69, [], C.spec_l1In), (141, [], C.spec_SketchOk), (180, [], C.spec_l1Min), (182, [], C.spec_l1Max), (188, [], C.spec_l3Copy), (189, [], C.spec_Add), (190, [], C.spec_BucketOf), (191, [], C.spec_Mix), (192, [], C.spec_RankOf)]
theorem run.spec_Insert : ∀ x, runF tb K.spec_Insert L.spec_Insert [] Try.f187 C.spec_Insert x = C.spec_Insert.fn x := fun x => by kernel_rfl

/-! ### spec.Sketched: function 183 -/
noncomputable def F.spec_Sketched.s3 : ((List Int) × Int × DSketch × DSketch × Unit) → Option (Lp ((List Int) × Int × DSketch × DSketch × Unit) DSketch) := fun (x2, x3, x4, x5, _) =>
  bif decide (x3 < (len x2)) then
    chk (inb x3 (List.length x2)) <|
    (F.spec_Insert x5 (List.getD x2 ((Int.toNat x3)) 0)).bind fun r6 =>
    some (.again (x2, w64 (x3 + 1), x4, r6.1, ()))
  else
    some (.exit (x2, x3, x4, x5, ()))
noncomputable def F.spec_Sketched (a0 : List Int) : Option DSketch :=
  (F.spec_SketchNew).bind fun r1 =>
  afterO (loopO F.spec_Sketched.s3 (a0, 0, (0, 0, 0, 0, ([] : List Int), ([] : List Int), ([] : List (List Int)), ()), r1, ())) fun (x7, x8, x9, x10, _) =>
  some x10
noncomputable def C.spec_Sketched : Con := ⟨[.r (.val (.sl false 3 (.int .i64)))], .one y8, fun x => F.spec_Sketched x.1⟩
def L.spec_Sketched : Loops := lookL [(3, ⟨[.pat 0 (.val (.sl false 3 (.int .i64))), .pat 4 (.val (.int .i64)), .root 2 true y8 [2], .root 3 true y8 [3]], 0⟩)]
noncomputable def K.spec_Sketched : Cons := lookK [(186, [], C.spec_SketchNew), (187, [], C.spec_Insert)]
theorem run.spec_Sketched : ∀ x, runF tb K.spec_Sketched L.spec_Sketched [] Try.f183 C.spec_Sketched x = C.spec_Sketched.fn x := fun x => by kernel_rfl

/-! ### spec.l6Right: function 175 -/
noncomputable def F.spec_l6Right (a0 : DL1Cur) : Option (DItem × DL1Cur) :=
  (F.spec_l1Below a0 8).bind fun r1 =>
  (F.spec_l1Below r1.2 2).bind fun r2 =>
  (F.spec_l1Below r2.2 2).bind fun r3 =>
  (F.spec_l1Below r3.2 3).bind fun r4 =>
  (F.spec_l3Values r4.2).bind fun r5 =>
  (F.spec_Sketched r5.1).bind fun r6 =>
  some ((w64 (1 + r1.1), r2.1, r3.1, r4.1, r6, ()), r5.2)
noncomputable def C.spec_l6Right : Con := ⟨[.p y4 y4], .one y9, fun x => F.spec_l6Right x.1⟩
def L.spec_l6Right : Loops := fun _ => none
noncomputable def K.spec_l6Right : Cons := lookK [(128, [], C.spec_l1Below), (183, [], C.spec_Sketched), (184, [], C.spec_l3Values)]
theorem run.spec_l6Right : ∀ x, runF tb K.spec_l6Right L.spec_l6Right [0] Try.f175 C.spec_l6Right x = C.spec_l6Right.fn x := fun x => by kernel_rfl

/-! ### spec.l7Right: function 149 -/
noncomputable def F.spec_l7Right.s4 : (Int × Int × DL1Cur × DFrame × DFrame × Unit) → Option (Lp (Int × Int × DL1Cur × DFrame × DFrame × Unit) (DFrame × DL1Cur)) := fun (x6, x7, x8, x9, x10, _) =>
  bif decide (x7 < x6) then
    (F.spec_l1Below x8 12).bind fun r11 =>
    (F.spec_l1Below r11.2 3).bind fun r12 =>
    (F.spec_l5Put x10.2.2.2.2.1 ((w64 (1 + r11.1), w64 ((w64 (1 + r11.1)) + r12.1), ()))).bind fun r13 =>
    some (.again (x6, w64 (x7 + 1), r12.2, x9, (x10.1, x10.2.1, x10.2.2.1, x10.2.2.2.1, r13, x10.2.2.2.2.2), ()))
  else
    some (.exit (x6, x7, x8, x9, x10, ()))
noncomputable def F.spec_l7Right (a0 : DL1Cur) : Option (DFrame × DL1Cur) :=
  (F.spec_l1Below a0 4).bind fun r1 =>
  (F.spec_l1Below r1.2 3).bind fun r2 =>
  (F.spec_l1Below r2.2 3).bind fun r3 =>
  (F.spec_l1Below r3.2 9).bind fun r4 =>
  (F.spec_l1Below r4.2 3).bind fun r5 =>
  afterO (loopO F.spec_l7Right.s4 (r5.1, 0, r5.2, (0, 0, 0, 0, ([] : List DSpan), (0, 0, 0, 0, (0, 0, 0, 0, ([] : List Int), ([] : List Int), ([] : List (List Int)), ()), ()), ()), (r1.1, r2.1, r3.1, r4.1, ([] : List DSpan), (0, 0, 0, 0, (0, 0, 0, 0, ([] : List Int), ([] : List Int), ([] : List (List Int)), ()), ()), ()), ())) fun (x14, x15, x16, x17, x18, _) =>
  bif x18.1 == 1 then
    (F.spec_l6Right x16).bind fun r19 =>
    some ((x18.1, x18.2.1, x18.2.2.1, x18.2.2.2.1, x18.2.2.2.2.1, r19.1, x18.2.2.2.2.2.2), r19.2)
  else
    some (x18, x16)
noncomputable def C.spec_l7Right : Con := ⟨[.p y4 y4], .one y10, fun x => F.spec_l7Right x.1⟩
def L.spec_l7Right : Loops := lookL [(4, ⟨[.pat 4 (.val (.int .i64)), .pat 5 (.val (.int .i64)), .root 0 true y4 [0], .root 2 true y10 [2], .root 3 true y10 [3]], 0⟩)]
noncomputable def K.spec_l7Right : Cons := lookK [(128, [], C.spec_l1Below), (174, [], C.spec_l5Put), (175, [], C.spec_l6Right)]
theorem run.spec_l7Right : ∀ x, runF tb K.spec_l7Right L.spec_l7Right [0] Try.f149 C.spec_l7Right x = C.spec_l7Right.fn x := fun x => by kernel_rfl

/-! ### spec.l3Right: function 185 -/
noncomputable def F.spec_l3Right (a0 : DL1Cur) : Option (DSketch × DL1Cur) :=
  (F.spec_l3Values a0).bind fun r1 =>
  (F.spec_Sketched r1.1).bind fun r2 =>
  (F.spec_l1Once r1.2 16).bind fun r3 =>
  bif r3.1 then
    bif decide (r2.1 > 0) then
      (F.spec_l1Below r3.2 2).bind fun r4 =>
      chk (inb 3 (List.length r2.2.2.2.2.1)) <|
      some ((w64 (1000000000 - r4.1), 999999997, r2.2.2.1, r2.2.2.2.1, List.set r2.2.2.2.2.1 3 1000000000, r2.2.2.2.2.2), r4.2)
    else
      some (r2, r3.2)
  else
    some (r2, r3.2)
noncomputable def C.spec_l3Right : Con := ⟨[.p y4 y4], .one y8, fun x => F.spec_l3Right x.1⟩
def L.spec_l3Right : Loops := fun _ => none
noncomputable def K.spec_l3Right : Cons := lookK [(128, [], C.spec_l1Below), (162, [], C.spec_l1Once), (183, [], C.spec_Sketched), (184, [], C.spec_l3Values)]
theorem run.spec_l3Right : ∀ x, runF tb K.spec_l3Right L.spec_l3Right [0] Try.f185 C.spec_l3Right x = C.spec_l3Right.fn x := fun x => by kernel_rfl

/-! ### spec.l3Draw: function 176 -/
noncomputable def F.spec_l3Draw (a0 : DL1Cur) : Option (DSketch × DL1Cur) :=
  (F.spec_l3Right a0).bind fun r1 =>
  (F.spec_l1Below r1.2 16).bind fun r2 =>
  bif r2.1 == 0 then
    (F.spec_l1PickInt r2.2 ([-1, 1000001, 500])).bind fun r3 =>
    some ((r1.1.1, r1.1.2.1, r3.1, r1.1.2.2.2), r3.2)
  else
  bif r2.1 == 1 then
    (F.spec_l1Below r2.2 8).bind fun r4 =>
    (F.spec_l1PickInt r4.2 ([-1, 17, 18])).bind fun r5 =>
    chk (inb r4.1 (List.length r1.1.2.2.2.2.2.1)) <|
    some ((r1.1.1, r1.1.2.1, r1.1.2.2.1, r1.1.2.2.2.1, r1.1.2.2.2.2.1, List.set r1.1.2.2.2.2.2.1 ((Int.toNat r4.1)) r5.1, r1.1.2.2.2.2.2.2), r5.2)
  else
  bif r2.1 == 2 then
    chk (fits (List.length r1.1.2.2.2.2.1 + List.length ([0])) 8) <|
    some ((r1.1.1, r1.1.2.1, r1.1.2.2.1, r1.1.2.2.2.1, r1.1.2.2.2.2.1 ++ ([0]), r1.1.2.2.2.2.2), r2.2)
  else
  bif r2.1 == 3 then
    chk (cutOk 0 1 (List.length r1.1.2.2.2.2.2.2.1)) <|
    some ((r1.1.1, r1.1.2.1, r1.1.2.2.1, r1.1.2.2.2.1, r1.1.2.2.2.2.1, r1.1.2.2.2.2.2.1, List.take (1 - 0) (List.drop 0 r1.1.2.2.2.2.2.2.1), r1.1.2.2.2.2.2.2.2), r2.2)
  else
  bif r2.1 == 4 then
    (F.spec_l1PickInt r2.2 ([0, -1, 1000000001])).bind fun r6 =>
    some ((r6.1, r1.1.2), r6.2)
  else
  bif r2.1 == 5 then
    chk (inb 1 (List.length r1.1.2.2.2.2.2.2.1)) <|
    (F.spec_l1PickInt r2.2 ([-1, 3, 1000000001])).bind fun r7 =>
    chk (inb 2 (List.length (List.getD r1.1.2.2.2.2.2.2.1 1 (([] : List Int))))) <|
    some ((r1.1.1, r1.1.2.1, r1.1.2.2.1, r1.1.2.2.2.1, r1.1.2.2.2.2.1, r1.1.2.2.2.2.2.1, List.set r1.1.2.2.2.2.2.2.1 1 (List.set (List.getD r1.1.2.2.2.2.2.2.1 1 (([] : List Int))) 2 r7.1), r1.1.2.2.2.2.2.2.2), r7.2)
  else
    some (r1.1, r2.2)
noncomputable def C.spec_l3Draw : Con := ⟨[.p y4 y4], .one y5, fun x => F.spec_l3Draw x.1⟩
def L.spec_l3Draw : Loops := fun _ => none
noncomputable def K.spec_l3Draw : Cons := lookK [(79, [], C.spec_l1PickInt), (128, [], C.spec_l1Below), (185, [], C.spec_l3Right)]
theorem run.spec_l3Draw : ∀ x, runF tb K.spec_l3Draw L.spec_l3Draw [0] Try.f176 C.spec_l3Draw x = C.spec_l3Draw.fn x := fun x => by kernel_rfl

/-! ### spec.l6Draw: function 150 -/
noncomputable def F.spec_l6Draw (a0 : DL1Cur) : Option (DItem × DL1Cur) :=
  (F.spec_l6Right a0).bind fun r1 =>
  (F.spec_l1Below r1.2 14).bind fun r2 =>
  bif r2.1 == 0 then
    (F.spec_l1PickInt r2.2 ([0, 60, 61, -1])).bind fun r3 =>
    some ((r3.1, r1.1.2), r3.2)
  else
  bif r2.1 == 1 then
    (F.spec_l1PickInt r2.2 ([-1, 2])).bind fun r4 =>
    some ((r1.1.1, r4.1, r1.1.2.2), r4.2)
  else
  bif r2.1 == 2 then
    (F.spec_l1PickInt r2.2 ([-1, 4, 5])).bind fun r5 =>
    some ((r1.1.1, r1.1.2.1, r5.1, r1.1.2.2.2), r5.2)
  else
  bif r2.1 == 3 then
    (F.spec_l1PickInt r2.2 ([-1, 20, 21])).bind fun r6 =>
    some ((r1.1.1, r1.1.2.1, r1.1.2.2.1, r6.1, r1.1.2.2.2.2), r6.2)
  else
  bif r2.1 == 4 then
    (F.spec_l3Draw r2.2).bind fun r7 =>
    some ((r1.1.1, r1.1.2.1, r1.1.2.2.1, r1.1.2.2.2.1, r7.1, r1.1.2.2.2.2.2), r7.2)
  else
    some (r1.1, r2.2)
noncomputable def C.spec_l6Draw : Con := ⟨[.p y4 y4], .one y6, fun x => F.spec_l6Draw x.1⟩
def L.spec_l6Draw : Loops := fun _ => none
noncomputable def K.spec_l6Draw : Cons := lookK [(79, [], C.spec_l1PickInt), (128, [], C.spec_l1Below), (175, [], C.spec_l6Right), (176, [], C.spec_l3Draw)]
theorem run.spec_l6Draw : ∀ x, runF tb K.spec_l6Draw L.spec_l6Draw [0] Try.f150 C.spec_l6Draw x = C.spec_l6Draw.fn x := fun x => by kernel_rfl

/-! ### spec.l7Draw: function 111 -/
noncomputable def F.spec_l7Draw (a0 : DL1Cur) : Option (DFrame × DL1Cur) :=
  (F.spec_l7Right a0).bind fun r1 =>
  (F.spec_l1Below r1.2 14).bind fun r2 =>
  bif r2.1 == 0 then
    (F.spec_l1PickInt r2.2 ([-1, 4, 1, 0])).bind fun r3 =>
    some ((r3.1, r1.1.2), r3.2)
  else
  bif r2.1 == 1 then
    (F.spec_l1PickInt r2.2 ([-1, 3])).bind fun r4 =>
    some ((r1.1.1, r4.1, r1.1.2.2), r4.2)
  else
  bif r2.1 == 2 then
    (F.spec_l1PickInt r2.2 ([-1, 1000, 1001])).bind fun r5 =>
    some ((r1.1.1, r1.1.2.1, r5.1, r1.1.2.2.2), r5.2)
  else
  bif r2.1 == 3 then
    (F.spec_l1PickInt r2.2 ([-1, 60, 61])).bind fun r6 =>
    some ((r1.1.1, r1.1.2.1, r1.1.2.2.1, r6.1, r1.1.2.2.2.2), r6.2)
  else
  bif r2.1 == 4 then
    (F.spec_l5Draw r2.2).bind fun r7 =>
    some ((r1.1.1, r1.1.2.1, r1.1.2.2.1, r1.1.2.2.2.1, r7.1, r1.1.2.2.2.2.2), r7.2)
  else
  bif r2.1 == 5 then
    (F.spec_l6Draw r2.2).bind fun r8 =>
    some ((r1.1.1, r1.1.2.1, r1.1.2.2.1, r1.1.2.2.2.1, r1.1.2.2.2.2.1, r8.1, r1.1.2.2.2.2.2.2), r8.2)
  else
    some (r1.1, r2.2)
noncomputable def C.spec_l7Draw : Con := ⟨[.p y4 y4], .one y11, fun x => F.spec_l7Draw x.1⟩
def L.spec_l7Draw : Loops := fun _ => none
noncomputable def K.spec_l7Draw : Cons := lookK [(79, [], C.spec_l1PickInt), (128, [], C.spec_l1Below), (130, [], C.spec_l5Draw), (149, [], C.spec_l7Right), (150, [], C.spec_l6Draw)]
theorem run.spec_l7Draw : ∀ x, runF tb K.spec_l7Draw L.spec_l7Draw [0] Try.f111 C.spec_l7Draw x = C.spec_l7Draw.fn x := fun x => by kernel_rfl

/-! ### spec.DrawFrameBytes: function 57 -/
noncomputable def F.spec_DrawFrameBytes (a0 : List Int) : Option DFrame :=
  (F.spec_l1New a0).bind fun r1 =>
  (F.spec_l7Draw r1).bind fun r2 =>
  some r2.1
noncomputable def C.spec_DrawFrameBytes : Con := ⟨[.r (.val (.sl false 5 (.int .u8)))], .one y11, fun x => F.spec_DrawFrameBytes x.1⟩
def L.spec_DrawFrameBytes : Loops := fun _ => none
noncomputable def K.spec_DrawFrameBytes : Cons := lookK [(77, [], C.spec_l1New), (111, [], C.spec_l7Draw)]
theorem run.spec_DrawFrameBytes : ∀ x, runF tb K.spec_DrawFrameBytes L.spec_DrawFrameBytes [] Try.f57 C.spec_DrawFrameBytes x = C.spec_DrawFrameBytes.fn x := fun x => by kernel_rfl

/-! ### impl.PutNum: function 151 -/
noncomputable def F.impl_PutNum.s4 : (Int × (List Int) × Unit) → Option (Lp (Int × (List Int) × Unit) ((List Int))) := fun (x2, x3, _) =>
  bif decide (x2 ≥ 128) then
    chk (fits (List.length x3 + List.length ([IntKind.wrap .u8 (w64 ((Int.tmod x2 128) + 128))])) 1) <|
    some (.again (w64 (Int.tdiv x2 128), x3 ++ ([IntKind.wrap .u8 (w64 ((Int.tmod x2 128) + 128))]), ()))
  else
    some (.exit (x2, x3, ()))
noncomputable def F.impl_PutNum (a0 : Int) : Option ((List Int)) :=
  (F.impl_within a0 0 2147483647).bind fun r1 =>
  bif !r1 then
    some ([] : List Int)
  else
  afterO (loopO F.impl_PutNum.s4 (a0, ([] : List Int), ())) fun (x4, x5, _) =>
  chk (fits (List.length x5 + List.length ([IntKind.wrap .u8 x4])) 1) <|
  some (x5 ++ ([IntKind.wrap .u8 x4]))
noncomputable def C.impl_PutNum : Con := ⟨[.r (.val (.int .i64))], .one (.sl true 5 (.int .u8)), fun x => F.impl_PutNum x.1⟩
def L.impl_PutNum : Loops := lookL [(4, ⟨[.pat 0 (.val (.int .i64)), .own 3 (.sl true 5 (.int .u8))], 0⟩)]
noncomputable def K.impl_PutNum : Cons := lookK [(72, [], C.impl_within)]
theorem run.impl_PutNum : ∀ x, runF tb K.impl_PutNum L.impl_PutNum [] Try.f151 C.impl_PutNum x = C.impl_PutNum.fn x := fun x => by kernel_rfl

/-! ### impl.putNums: function 112 -/
noncomputable def F.impl_putNums.s3 : ((List Int) × (List Int) × Int × Int × Unit) → Option (Lp ((List Int) × (List Int) × Int × Int × Unit) ((List Int))) := fun (x1, x2, x3, x4, _) =>
  bif decide (x4 < x3) then
    chk (inb x4 (List.length x2)) <|
    (F.impl_PutNum (List.getD x2 ((Int.toNat x4)) 0)).bind fun r5 =>
    chk (fits (List.length x1 + List.length r5) 1) <|
    some (.again (x1 ++ r5, x2, x3, w64 (x4 + 1), ()))
  else
    some (.exit (x1, x2, x3, x4, ()))
noncomputable def F.impl_putNums (a0 : List Int) : Option ((List Int)) :=
  afterO (loopO F.impl_putNums.s3 (([] : List Int), a0, len a0, 0, ())) fun (x6, x7, x8, x9, _) =>
  some x6
noncomputable def C.impl_putNums : Con := ⟨[.r (.val (.sl false 3 (.int .i64)))], .one (.sl true 5 (.int .u8)), fun x => F.impl_putNums x.1⟩
def L.impl_putNums : Loops := lookL [(3, ⟨[.own 3 (.sl true 5 (.int .u8)), .pat 6 (.val (.sl false 3 (.int .i64))), .pat 7 (.val (.int .i64)), .pat 8 (.val (.int .i64))], 0⟩)]
noncomputable def K.impl_putNums : Cons := lookK [(151, [], C.impl_PutNum)]
theorem run.impl_putNums : ∀ x, runF tb K.impl_putNums L.impl_putNums [] Try.f112 C.impl_putNums x = C.impl_putNums.fn x := fun x => by kernel_rfl

/-! ### impl.putSpans: function 113 -/
noncomputable def F.impl_putSpans.s3 : ((List Int) × (List DSpan) × Int × Int × Unit) → Option (Lp ((List Int) × (List DSpan) × Int × Int × Unit) ((List Int))) := fun (x2, x3, x4, x5, _) =>
  bif decide (x5 < x4) then
    chk (inb x5 (List.length x3)) <|
    (F.impl_putNums ([(List.getD x3 ((Int.toNat x5)) ((0, 0, ()))).1, ((List.getD x3 ((Int.toNat x5)) ((0, 0, ()))).2).1])).bind fun r6 =>
    chk (fits (List.length x2 + List.length r6) 1) <|
    some (.again (x2 ++ r6, x3, x4, w64 (x5 + 1), ()))
  else
    some (.exit (x2, x3, x4, x5, ()))
noncomputable def F.impl_putSpans (a0 : List DSpan) : Option ((List Int)) :=
  (F.impl_PutNum (len a0)).bind fun r1 =>
  afterO (loopO F.impl_putSpans.s3 (r1, a0, len a0, 0, ())) fun (x7, x8, x9, x10, _) =>
  some x7
noncomputable def C.impl_putSpans : Con := ⟨[.r (.val (.sl false 106 y0))], .one (.sl true 5 (.int .u8)), fun x => F.impl_putSpans x.1⟩
def L.impl_putSpans : Loops := lookL [(3, ⟨[.own 3 (.sl true 5 (.int .u8)), .pat 9 (.val (.sl false 106 y0)), .pat 10 (.val (.int .i64)), .pat 11 (.val (.int .i64))], 0⟩)]
noncomputable def K.impl_putSpans : Cons := lookK [(112, [], C.impl_putNums), (151, [], C.impl_PutNum)]
theorem run.impl_putSpans : ∀ x, runF tb K.impl_putSpans L.impl_putSpans [] Try.f113 C.impl_putSpans x = C.impl_putSpans.fn x := fun x => by kernel_rfl

/-! ### impl.SketchBytes: function 114 -/
noncomputable def F.impl_SketchBytes (a0 : DSketch) : Option ((List Int)) :=
  (F.impl_SketchOk a0).bind fun r1 =>
  bif !r1 then
    some ([] : List Int)
  else
  (F.impl_counts a0).bind fun r2 =>
  chk (fits (List.length ([a0.1, a0.2.1, a0.2.2.1, a0.2.2.2.1]) + List.length r2) 8) <|
  (F.impl_putNums (([a0.1, a0.2.1, a0.2.2.1, a0.2.2.2.1]) ++ r2)).bind fun r3 =>
  some r3
noncomputable def C.impl_SketchBytes : Con := ⟨[.r (.val y5)], .one (.sl true 5 (.int .u8)), fun x => F.impl_SketchBytes x.1⟩
def L.impl_SketchBytes : Loops := fun _ => none
noncomputable def K.impl_SketchBytes : Cons := lookK [(112, [], C.impl_putNums), (142, [], C.impl_SketchOk), (152, [], C.impl_counts)]
theorem run.impl_SketchBytes : ∀ x, runF tb K.impl_SketchBytes L.impl_SketchBytes [] Try.f114 C.impl_SketchBytes x = C.impl_SketchBytes.fn x := fun x => by kernel_rfl

/-! ### impl.Crc: function 115 -/
noncomputable def F.impl_Crc.s7 : (Int × Int × (List Int) × Int × Int × Unit) → Option (Lp (Int × Int × (List Int) × Int × Int × Unit) (Lp (Int × (List Int) × Int × Int × Unit) Int)) := fun (x5, x6, x7, x8, x9, _) =>
  bif decide (x6 < 8) then
    bif (ibits .and .i64 x5 1) == 1 then
      some (.again (ibits .xor .i64 (Int.fdiv x5 (2 ^ (min 1 64))) 3988292384, w64 (x6 + 1), x7, x8, x9, ()))
    else
      some (.again (Int.fdiv x5 (2 ^ (min 1 64)), w64 (x6 + 1), x7, x8, x9, ()))
  else
    some (.exit (x5, x6, x7, x8, x9, ()))
noncomputable def F.impl_Crc.s3 : (Int × (List Int) × Int × Int × Unit) → Option (Lp (Int × (List Int) × Int × Int × Unit) Int) := fun (x1, x2, x3, x4, _) =>
  bif decide (x4 < x3) then
    chk (inb x4 (List.length x2)) <|
    afterO (loopO F.impl_Crc.s7 (ibits .xor .i64 x1 (w64 (List.getD x2 ((Int.toNat x4)) 0)), 0, x2, x3, x4, ())) fun (x10, x11, x12, x13, x14, _) =>
    some (.again (x10, x12, x13, w64 (x14 + 1), ()))
  else
    some (.exit (x1, x2, x3, x4, ()))
noncomputable def F.impl_Crc (a0 : List Int) : Option Int :=
  afterO (loopO F.impl_Crc.s3 (4294967295, a0, len a0, 0, ())) fun (x15, x16, x17, x18, _) =>
  some (ibits .xor .i64 x15 4294967295)
noncomputable def C.impl_Crc : Con := ⟨[.r (.val (.sl false 5 (.int .u8)))], .one (.int .i64), fun x => F.impl_Crc x.1⟩
def L.impl_Crc : Loops := lookL [(7, ⟨[.pat 3 (.val (.int .i64)), .pat 6 (.val (.int .i64)), .pat 8 (.val (.sl false 5 (.int .u8))), .pat 9 (.val (.int .i64)), .pat 10 (.val (.int .i64))], 2⟩), (3, ⟨[.pat 3 (.val (.int .i64)), .pat 8 (.val (.sl false 5 (.int .u8))), .pat 9 (.val (.int .i64)), .pat 10 (.val (.int .i64))], 0⟩)]
noncomputable def K.impl_Crc : Cons := lookK []
theorem run.impl_Crc : ∀ x, runF tb K.impl_Crc L.impl_Crc [] Try.f115 C.impl_Crc x = C.impl_Crc.fn x := fun x => by kernel_rfl

/-! ### impl.FrameBytes: function 58 -/
noncomputable def F.impl_FrameBytes (a0 : DFrame) : Option ((List Int)) :=
  (F.impl_FrameOk a0).bind fun r1 =>
  bif !r1 then
    some ([] : List Int)
  else
  (F.impl_putNums ([a0.1, a0.2.1, a0.2.2.1, a0.2.2.2.1])).bind fun r2 =>
  chk (fits (List.length ([87, 82]) + List.length r2) 1) <|
  (F.impl_putSpans a0.2.2.2.2.1).bind fun r3 =>
  chk (fits (List.length (([87, 82]) ++ r2) + List.length r3) 1) <|
  bif a0.1 == 1 then
    (F.impl_putNums ([a0.2.2.2.2.2.1.1, a0.2.2.2.2.2.1.2.1, a0.2.2.2.2.2.1.2.2.1, a0.2.2.2.2.2.1.2.2.2.1])).bind fun r4 =>
    chk (fits (List.length ((([87, 82]) ++ r2) ++ r3) + List.length r4) 1) <|
    (F.impl_SketchBytes a0.2.2.2.2.2.1.2.2.2.2.1).bind fun r5 =>
    chk (fits (List.length (((([87, 82]) ++ r2) ++ r3) ++ r4) + List.length r5) 1) <|
    (F.impl_Crc ((((([87, 82]) ++ r2) ++ r3) ++ r4) ++ r5)).bind fun r6 =>
    chk (fits (List.length ((((([87, 82]) ++ r2) ++ r3) ++ r4) ++ r5) + List.length ([IntKind.wrap .u8 (Int.fdiv r6 (2 ^ (min 24 64))), IntKind.wrap .u8 (Int.fdiv r6 (2 ^ (min 16 64))), IntKind.wrap .u8 (Int.fdiv r6 (2 ^ (min 8 64))), IntKind.wrap .u8 r6])) 1) <|
    some (((((([87, 82]) ++ r2) ++ r3) ++ r4) ++ r5) ++ ([IntKind.wrap .u8 (Int.fdiv r6 (2 ^ (min 24 64))), IntKind.wrap .u8 (Int.fdiv r6 (2 ^ (min 16 64))), IntKind.wrap .u8 (Int.fdiv r6 (2 ^ (min 8 64))), IntKind.wrap .u8 r6]))
  else
  (F.impl_Crc ((([87, 82]) ++ r2) ++ r3)).bind fun r7 =>
  chk (fits (List.length ((([87, 82]) ++ r2) ++ r3) + List.length ([IntKind.wrap .u8 (Int.fdiv r7 (2 ^ (min 24 64))), IntKind.wrap .u8 (Int.fdiv r7 (2 ^ (min 16 64))), IntKind.wrap .u8 (Int.fdiv r7 (2 ^ (min 8 64))), IntKind.wrap .u8 r7])) 1) <|
  some (((([87, 82]) ++ r2) ++ r3) ++ ([IntKind.wrap .u8 (Int.fdiv r7 (2 ^ (min 24 64))), IntKind.wrap .u8 (Int.fdiv r7 (2 ^ (min 16 64))), IntKind.wrap .u8 (Int.fdiv r7 (2 ^ (min 8 64))), IntKind.wrap .u8 r7]))
noncomputable def C.impl_FrameBytes : Con := ⟨[.r (.val y11)], .one (.sl true 5 (.int .u8)), fun x => F.impl_FrameBytes x.1⟩
def L.impl_FrameBytes : Loops := fun _ => none
noncomputable def K.impl_FrameBytes : Cons := lookK [(40, [], C.impl_FrameOk), (112, [], C.impl_putNums), (113, [], C.impl_putSpans), (114, [], C.impl_SketchBytes), (115, [], C.impl_Crc)]
theorem run.impl_FrameBytes : ∀ x, runF tb K.impl_FrameBytes L.impl_FrameBytes [] Try.f58 C.impl_FrameBytes x = C.impl_FrameBytes.fn x := fun x => by kernel_rfl

/-! ### laws.at0: function 59 -/
noncomputable def F.laws_at0 (a0 : List Int) (a1 : Int) : Option Int :=
  bif decide (a1 < (len a0)) then
    chk (inb a1 (List.length a0)) <|
    some (w64 (List.getD a0 ((Int.toNat a1)) 0))
  else
    some (Int.tmod (w64 ((w64 (a1 * 7)) + (len a0))) 256)
noncomputable def C.laws_at0 : Con := ⟨[.r (.val (.sl false 5 (.int .u8))), .r (.val (.int .i64))], .one (.int .i64), fun x => F.laws_at0 x.1 x.2.1⟩
def L.laws_at0 : Loops := fun _ => none
noncomputable def K.laws_at0 : Cons := lookK []
theorem run.laws_at0 : ∀ x, runF tb K.laws_at0 L.laws_at0 [] Try.f59 C.laws_at0 x = C.laws_at0.fn x := fun x => by kernel_rfl

/-! ### spec.PutNum: function 178 -/
noncomputable def F.spec_PutNum.s4 : (Int × (List Int) × Unit) → Option (Lp (Int × (List Int) × Unit) ((List Int))) := fun (x2, x3, _) =>
  bif decide (x2 > 127) then
    chk (fits (List.length x3 + List.length ([IntKind.wrap .u8 (w64 ((Int.tmod x2 128) + 128))])) 1) <|
    some (.again (w64 (Int.tdiv x2 128), x3 ++ ([IntKind.wrap .u8 (w64 ((Int.tmod x2 128) + 128))]), ()))
  else
    some (.exit (x2, x3, ()))
noncomputable def F.spec_PutNum (a0 : Int) : Option ((List Int)) :=
  (F.spec_l1In a0 0 2147483647).bind fun r1 =>
  bif !r1 then
    some ([] : List Int)
  else
  afterO (loopO F.spec_PutNum.s4 (a0, ([] : List Int), ())) fun (x4, x5, _) =>
  chk (fits (List.length x5 + List.length ([IntKind.wrap .u8 x4])) 1) <|
  some (x5 ++ ([IntKind.wrap .u8 x4]))
noncomputable def C.spec_PutNum : Con := ⟨[.r (.val (.int .i64))], .one (.sl true 5 (.int .u8)), fun x => F.spec_PutNum x.1⟩
def L.spec_PutNum : Loops := lookL [(4, ⟨[.pat 0 (.val (.int .i64)), .own 3 (.sl true 5 (.int .u8))], 0⟩)]
noncomputable def K.spec_PutNum : Cons := lookK [(69, [], C.spec_l1In)]
theorem run.spec_PutNum : ∀ x, runF tb K.spec_PutNum L.spec_PutNum [] Try.f178 C.spec_PutNum x = C.spec_PutNum.fn x := fun x => by kernel_rfl

/-! ### spec.l7Put: function 155 -/
noncomputable def F.spec_l7Put.s3 : ((List Int) × (List Int) × Int × Unit) → Option (Lp ((List Int) × (List Int) × Int × Unit) ((List Int))) := fun (x1, x2, x3, _) =>
  bif decide (x3 < (len x1)) then
    chk (inb x3 (List.length x1)) <|
    (F.spec_PutNum (List.getD x1 ((Int.toNat x3)) 0)).bind fun r4 =>
    chk (fits (List.length x2 + List.length r4) 1) <|
    some (.again (x1, x2 ++ r4, w64 (x3 + 1), ()))
  else
    some (.exit (x1, x2, x3, ()))
noncomputable def F.spec_l7Put (a0 : List Int) : Option ((List Int)) :=
  afterO (loopO F.spec_l7Put.s3 (a0, ([] : List Int), 0, ())) fun (x5, x6, x7, _) =>
  some x6
noncomputable def C.spec_l7Put : Con := ⟨[.r (.val (.sl false 3 (.int .i64)))], .one (.sl true 5 (.int .u8)), fun x => F.spec_l7Put x.1⟩
def L.spec_l7Put : Loops := lookL [(3, ⟨[.pat 0 (.val (.sl false 3 (.int .i64))), .own 3 (.sl true 5 (.int .u8)), .pat 4 (.val (.int .i64))], 0⟩)]
noncomputable def K.spec_l7Put : Cons := lookK [(178, [], C.spec_PutNum)]
theorem run.spec_l7Put : ∀ x, runF tb K.spec_l7Put L.spec_l7Put [] Try.f155 C.spec_l7Put x = C.spec_l7Put.fn x := fun x => by kernel_rfl

/-! ### spec.l7Nums: function 179 -/
noncomputable def F.spec_l7Nums.s5 : ((List Int) × Int × DSketch × Unit) → Option (Lp ((List Int) × Int × DSketch × Unit) ((List Int))) := fun (x1, x2, x3, _) =>
  bif decide (x2 < (len x3.2.2.2.2.2.2.1)) then
    chk (inb x2 (List.length x3.2.2.2.2.2.2.1)) <|
    chk (fits (List.length x1 + List.length (List.getD x3.2.2.2.2.2.2.1 ((Int.toNat x2)) (([] : List Int)))) 8) <|
    some (.again (x1 ++ (List.getD x3.2.2.2.2.2.2.1 ((Int.toNat x2)) (([] : List Int))), w64 (x2 + 1), x3, ()))
  else
    some (.exit (x1, x2, x3, ()))
noncomputable def F.spec_l7Nums (a0 : DSketch) : Option ((List Int)) :=
  chk (fits (List.length ([a0.1, a0.2.1, a0.2.2.1, a0.2.2.2.1]) + List.length a0.2.2.2.2.1) 8) <|
  chk (fits (List.length (([a0.1, a0.2.1, a0.2.2.1, a0.2.2.2.1]) ++ a0.2.2.2.2.1) + List.length a0.2.2.2.2.2.1) 8) <|
  afterO (loopO F.spec_l7Nums.s5 ((([a0.1, a0.2.1, a0.2.2.1, a0.2.2.2.1]) ++ a0.2.2.2.2.1) ++ a0.2.2.2.2.2.1, 0, a0, ())) fun (x4, x5, x6, _) =>
  some x4
noncomputable def C.spec_l7Nums : Con := ⟨[.r (.val y5)], .one (.sl true 3 (.int .i64)), fun x => F.spec_l7Nums x.1⟩
def L.spec_l7Nums : Loops := lookL [(5, ⟨[.own 3 (.sl true 3 (.int .i64)), .pat 4 (.val (.int .i64)), .root 1 true y5 [1]], 0⟩)]
noncomputable def K.spec_l7Nums : Cons := lookK []
theorem run.spec_l7Nums : ∀ x, runF tb K.spec_l7Nums L.spec_l7Nums [] Try.f179 C.spec_l7Nums x = C.spec_l7Nums.fn x := fun x => by kernel_rfl

/-! ### spec.SketchBytes: function 156 -/
noncomputable def F.spec_SketchBytes (a0 : DSketch) : Option ((List Int)) :=
  (F.spec_SketchOk a0).bind fun r1 =>
  bif !r1 then
    some ([] : List Int)
  else
  (F.spec_l7Nums a0).bind fun r2 =>
  (F.spec_l7Put r2).bind fun r3 =>
  some r3
noncomputable def C.spec_SketchBytes : Con := ⟨[.r (.val y5)], .one (.sl true 5 (.int .u8)), fun x => F.spec_SketchBytes x.1⟩
def L.spec_SketchBytes : Loops := fun _ => none
noncomputable def K.spec_SketchBytes : Cons := lookK [(141, [], C.spec_SketchOk), (155, [], C.spec_l7Put), (179, [], C.spec_l7Nums)]
theorem run.spec_SketchBytes : ∀ x, runF tb K.spec_SketchBytes L.spec_SketchBytes [] Try.f156 C.spec_SketchBytes x = C.spec_SketchBytes.fn x := fun x => by kernel_rfl

/-! ### spec.l7Body: function 120 -/
noncomputable def F.spec_l7Body.s3 : ((List Int) × Int × DFrame × Unit) → Option (Lp ((List Int) × Int × DFrame × Unit) ((List Int))) := fun (x2, x3, x4, _) =>
  bif decide (x3 < (len x4.2.2.2.2.1)) then
    chk (inb x3 (List.length x4.2.2.2.2.1)) <|
    chk (inb x3 (List.length x4.2.2.2.2.1)) <|
    (F.spec_l7Put ([(List.getD x4.2.2.2.2.1 ((Int.toNat x3)) ((0, 0, ()))).1, ((List.getD x4.2.2.2.2.1 ((Int.toNat x3)) ((0, 0, ()))).2).1])).bind fun r5 =>
    chk (fits (List.length x2 + List.length r5) 1) <|
    some (.again (x2 ++ r5, w64 (x3 + 1), x4, ()))
  else
    some (.exit (x2, x3, x4, ()))
noncomputable def F.spec_l7Body (a0 : DFrame) : Option ((List Int)) :=
  (F.spec_l7Put ([a0.1, a0.2.1, a0.2.2.1, a0.2.2.2.1, len a0.2.2.2.2.1])).bind fun r1 =>
  chk (fits (List.length ([87, 82]) + List.length r1) 1) <|
  afterO (loopO F.spec_l7Body.s3 (([87, 82]) ++ r1, 0, a0, ())) fun (x6, x7, x8, _) =>
  bif x8.1 == 1 then
    (F.spec_l7Put ([x8.2.2.2.2.2.1.1, x8.2.2.2.2.2.1.2.1, x8.2.2.2.2.2.1.2.2.1, x8.2.2.2.2.2.1.2.2.2.1])).bind fun r9 =>
    chk (fits (List.length x6 + List.length r9) 1) <|
    (F.spec_SketchBytes x8.2.2.2.2.2.1.2.2.2.2.1).bind fun r10 =>
    chk (fits (List.length (x6 ++ r9) + List.length r10) 1) <|
    some ((x6 ++ r9) ++ r10)
  else
    some x6
noncomputable def C.spec_l7Body : Con := ⟨[.r (.val y11)], .one (.sl true 5 (.int .u8)), fun x => F.spec_l7Body x.1⟩
def L.spec_l7Body : Loops := lookL [(3, ⟨[.own 3 (.sl true 5 (.int .u8)), .pat 4 (.val (.int .i64)), .root 1 true y11 [1]], 0⟩)]
noncomputable def K.spec_l7Body : Cons := lookK [(155, [], C.spec_l7Put), (156, [], C.spec_SketchBytes)]
theorem run.spec_l7Body : ∀ x, runF tb K.spec_l7Body L.spec_l7Body [] Try.f120 C.spec_l7Body x = C.spec_l7Body.fn x := fun x => by kernel_rfl

/-! ### spec.Crc: function 157 -/
noncomputable def F.spec_Crc.s7 : ((List Int) × Int × Int × Int × Unit) → Option (Lp ((List Int) × Int × Int × Int × Unit) (Lp ((List Int) × Int × Int × Unit) Int)) := fun (x4, x5, x6, x7, _) =>
  bif decide (x7 < 8) then
    bif (Int.tmod x5 2) == 1 then
      some (.again (x4, ibits .xor .i64 (w64 (Int.tdiv x5 2)) 3988292384, x6, w64 (x7 + 1), ()))
    else
      some (.again (x4, w64 (Int.tdiv x5 2), x6, w64 (x7 + 1), ()))
  else
    some (.exit (x4, x5, x6, x7, ()))
noncomputable def F.spec_Crc.s3 : ((List Int) × Int × Int × Unit) → Option (Lp ((List Int) × Int × Int × Unit) Int) := fun (x1, x2, x3, _) =>
  bif decide (x3 < (len x1)) then
    chk (inb x3 (List.length x1)) <|
    afterO (loopO F.spec_Crc.s7 (x1, ibits .xor .i64 x2 (w64 (List.getD x1 ((Int.toNat x3)) 0)), x3, 0, ())) fun (x8, x9, x10, x11, _) =>
    some (.again (x8, x9, w64 (x10 + 1), ()))
  else
    some (.exit (x1, x2, x3, ()))
noncomputable def F.spec_Crc (a0 : List Int) : Option Int :=
  afterO (loopO F.spec_Crc.s3 (a0, 4294967295, 0, ())) fun (x12, x13, x14, _) =>
  some (ibits .xor .i64 x13 4294967295)
noncomputable def C.spec_Crc : Con := ⟨[.r (.val (.sl false 5 (.int .u8)))], .one (.int .i64), fun x => F.spec_Crc x.1⟩
def L.spec_Crc : Loops := lookL [(7, ⟨[.pat 0 (.val (.sl false 5 (.int .u8))), .pat 3 (.val (.int .i64)), .pat 4 (.val (.int .i64)), .pat 5 (.val (.int .i64))], 2⟩), (3, ⟨[.pat 0 (.val (.sl false 5 (.int .u8))), .pat 3 (.val (.int .i64)), .pat 4 (.val (.int .i64))], 0⟩)]
noncomputable def K.spec_Crc : Cons := lookK []
theorem run.spec_Crc : ∀ x, runF tb K.spec_Crc L.spec_Crc [] Try.f157 C.spec_Crc x = C.spec_Crc.fn x := fun x => by kernel_rfl

/-! ### spec.l7Sum: function 121 -/
noncomputable def F.spec_l7Sum (a0 : List Int) : Option ((List Int)) :=
  (F.spec_Crc a0).bind fun r1 =>
  some ([IntKind.wrap .u8 (w64 (Int.tdiv r1 16777216)), IntKind.wrap .u8 (Int.tmod (w64 (Int.tdiv r1 65536)) 256), IntKind.wrap .u8 (Int.tmod (w64 (Int.tdiv r1 256)) 256), IntKind.wrap .u8 (Int.tmod r1 256)])
noncomputable def C.spec_l7Sum : Con := ⟨[.r (.val (.sl false 5 (.int .u8)))], .one (.sl true 5 (.int .u8)), fun x => F.spec_l7Sum x.1⟩
def L.spec_l7Sum : Loops := fun _ => none
noncomputable def K.spec_l7Sum : Cons := lookK [(157, [], C.spec_Crc)]
theorem run.spec_l7Sum : ∀ x, runF tb K.spec_l7Sum L.spec_l7Sum [] Try.f121 C.spec_l7Sum x = C.spec_l7Sum.fn x := fun x => by kernel_rfl

/-! ### spec.FrameBytes: function 61 -/
noncomputable def F.spec_FrameBytes (a0 : DFrame) : Option ((List Int)) :=
  (F.spec_FrameOk a0).bind fun r1 =>
  bif !r1 then
    some ([] : List Int)
  else
  (F.spec_l7Body a0).bind fun r2 =>
  (F.spec_l7Sum r2).bind fun r3 =>
  chk (fits (List.length r2 + List.length r3) 1) <|
  some (r2 ++ r3)
noncomputable def C.spec_FrameBytes : Con := ⟨[.r (.val y11)], .one (.sl true 5 (.int .u8)), fun x => F.spec_FrameBytes x.1⟩
def L.spec_FrameBytes : Loops := fun _ => none
noncomputable def K.spec_FrameBytes : Cons := lookK [(39, [], C.spec_FrameOk), (120, [], C.spec_l7Body), (121, [], C.spec_l7Sum)]
theorem run.spec_FrameBytes : ∀ x, runF tb K.spec_FrameBytes L.spec_FrameBytes [] Try.f61 C.spec_FrameBytes x = C.spec_FrameBytes.fn x := fun x => by kernel_rfl

/-! ### laws.eqByteS: function 62 -/
noncomputable def F.laws_eqByteS.s4 : ((List Int) × (List Int) × Int × Unit) → Option (Lp ((List Int) × (List Int) × Int × Unit) Bool) := fun (x1, x2, x3, _) =>
  bif decide (x3 < (len x1)) then
    chk (inb x3 (List.length x1)) <|
    chk (inb x3 (List.length x2)) <|
    bif (List.getD x1 ((Int.toNat x3)) 0) != (List.getD x2 ((Int.toNat x3)) 0) then
      some (.ret false)
    else
      some (.again (x1, x2, w64 (x3 + 1), ()))
  else
    some (.exit (x1, x2, x3, ()))
noncomputable def F.laws_eqByteS (a0 : List Int) (a1 : List Int) : Option Bool :=
  bif (len a0) != (len a1) then
    some false
  else
  afterO (loopO F.laws_eqByteS.s4 (a0, a1, 0, ())) fun (x4, x5, x6, _) =>
  some true
noncomputable def C.laws_eqByteS : Con := ⟨[.r (.val (.sl false 5 (.int .u8))), .r (.val (.sl false 5 (.int .u8)))], .one .bool, fun x => F.laws_eqByteS x.1 x.2.1⟩
def L.laws_eqByteS : Loops := lookL [(4, ⟨[.pat 0 (.val (.sl false 5 (.int .u8))), .pat 1 (.val (.sl false 5 (.int .u8))), .pat 5 (.val (.int .i64))], 0⟩)]
noncomputable def K.laws_eqByteS : Cons := lookK []
theorem run.laws_eqByteS : ∀ x, runF tb K.laws_eqByteS L.laws_eqByteS [] Try.f62 C.laws_eqByteS x = C.laws_eqByteS.fn x := fun x => by kernel_rfl

/-! ### laws.markSketch: function 158 -/
noncomputable def F.laws_markSketch (a0 : DSketch) (a1 : Int) : Option (Int × DSketch) :=
  (F.laws_markIntS a0.2.2.2.2.1 a1).bind fun r1 =>
  (F.laws_markIntS a0.2.2.2.2.2.1 r1.1).bind fun r2 =>
  (F.laws_markIntSS a0.2.2.2.2.2.2.1 r2.1).bind fun r3 =>
  some (r3.1, (a0.1, a0.2.1, a0.2.2.1, a0.2.2.2.1, r1.2, r2.2, r3.2, a0.2.2.2.2.2.2.2))
noncomputable def C.laws_markSketch : Con := ⟨[.c y8, .r (.val (.int .i64))], .one (.int .i64), fun x => F.laws_markSketch x.1 x.2.1⟩
def L.laws_markSketch : Loops := fun _ => none
noncomputable def K.laws_markSketch : Cons := lookK [(55, [], C.laws_markIntS), (145, [], C.laws_markIntSS)]
theorem run.laws_markSketch : ∀ x, runF tb K.laws_markSketch L.laws_markSketch [2] Try.f158 C.laws_markSketch x = C.laws_markSketch.fn x := fun x => by kernel_rfl

/-! ### laws.markItem: function 122 -/
noncomputable def F.laws_markItem (a0 : DItem) (a1 : Int) : Option (Int × DItem) :=
  (F.laws_markSketch a0.2.2.2.2.1 a1).bind fun r1 =>
  some (r1.1, (a0.1, a0.2.1, a0.2.2.1, a0.2.2.2.1, r1.2, a0.2.2.2.2.2))
noncomputable def C.laws_markItem : Con := ⟨[.c y9, .r (.val (.int .i64))], .one (.int .i64), fun x => F.laws_markItem x.1 x.2.1⟩
def L.laws_markItem : Loops := fun _ => none
noncomputable def K.laws_markItem : Cons := lookK [(158, [], C.laws_markSketch)]
theorem run.laws_markItem : ∀ x, runF tb K.laws_markItem L.laws_markItem [2] Try.f122 C.laws_markItem x = C.laws_markItem.fn x := fun x => by kernel_rfl

/-! ### laws.markFrame: function 63 -/
noncomputable def F.laws_markFrame (a0 : DFrame) (a1 : Int) : Option (Int × DFrame) :=
  (F.laws_markSpanS a0.2.2.2.2.1 a1).bind fun r1 =>
  (F.laws_markItem a0.2.2.2.2.2.1 r1.1).bind fun r2 =>
  some (r2.1, (a0.1, a0.2.1, a0.2.2.1, a0.2.2.2.1, r1.2, r2.2, a0.2.2.2.2.2.2))
noncomputable def C.laws_markFrame : Con := ⟨[.c y10, .r (.val (.int .i64))], .one (.int .i64), fun x => F.laws_markFrame x.1 x.2.1⟩
def L.laws_markFrame : Loops := fun _ => none
noncomputable def K.laws_markFrame : Cons := lookK [(74, [], C.laws_markSpanS), (122, [], C.laws_markItem)]
theorem run.laws_markFrame : ∀ x, runF tb K.laws_markFrame L.laws_markFrame [2] Try.f63 C.laws_markFrame x = C.laws_markFrame.fn x := fun x => by kernel_rfl

/-! ### laws.markByteS: function 64 -/
noncomputable def F.laws_markByteS.s2 : (Int × Int × (List Int) × Unit) → Option (Lp (Int × Int × (List Int) × Unit) (Int × (List Int))) := fun (x1, x2, x3, _) =>
  bif decide (x2 < (len x3)) then
    chk (inb x2 (List.length x3)) <|
    some (.again (w64 (x1 + 1), w64 (x2 + 1), List.set x3 ((Int.toNat x2)) (IntKind.wrap .u8 x1), ()))
  else
    some (.exit (x1, x2, x3, ()))
noncomputable def F.laws_markByteS (a0 : List Int) (a1 : Int) : Option (Int × (List Int)) :=
  afterO (loopO F.laws_markByteS.s2 (a1, 0, a0, ())) fun (x4, x5, x6, _) =>
  some (x4, x6)
noncomputable def C.laws_markByteS : Con := ⟨[.c (.sl true 5 (.int .u8)), .r (.val (.int .i64))], .one (.int .i64), fun x => F.laws_markByteS x.1 x.2.1⟩
def L.laws_markByteS : Loops := lookL [(2, ⟨[.pat 1 (.val (.int .i64)), .pat 5 (.val (.int .i64)), .root 0 false (.sl true 5 (.int .u8)) [0]], 0⟩)]
noncomputable def K.laws_markByteS : Cons := lookK []
theorem run.laws_markByteS : ∀ x, runF tb K.laws_markByteS L.laws_markByteS [0] Try.f64 C.laws_markByteS x = C.laws_markByteS.fn x := fun x => by kernel_rfl

/-! ### laws.heldByteS: function 65 -/
noncomputable def F.laws_heldByteS.s2 : ((List Int) × Int × Int × Unit) → Option (Lp ((List Int) × Int × Int × Unit) Int) := fun (x1, x2, x3, _) =>
  bif decide (x3 < (len x1)) then
    chk (inb x3 (List.length x1)) <|
    bif (List.getD x1 ((Int.toNat x3)) 0) != (IntKind.wrap .u8 x2) then
      some (.ret (-1))
    else
      some (.again (x1, w64 (x2 + 1), w64 (x3 + 1), ()))
  else
    some (.exit (x1, x2, x3, ()))
noncomputable def F.laws_heldByteS (a0 : List Int) (a1 : Int) : Option Int :=
  afterO (loopO F.laws_heldByteS.s2 (a0, a1, 0, ())) fun (x4, x5, x6, _) =>
  some x5
noncomputable def C.laws_heldByteS : Con := ⟨[.r (.val (.sl false 5 (.int .u8))), .r (.val (.int .i64))], .one (.int .i64), fun x => F.laws_heldByteS x.1 x.2.1⟩
def L.laws_heldByteS : Loops := lookL [(2, ⟨[.pat 0 (.val (.sl false 5 (.int .u8))), .pat 1 (.val (.int .i64)), .pat 5 (.val (.int .i64))], 0⟩)]
noncomputable def K.laws_heldByteS : Cons := lookK []
theorem run.laws_heldByteS : ∀ x, runF tb K.laws_heldByteS L.laws_heldByteS [] Try.f65 C.laws_heldByteS x = C.laws_heldByteS.fn x := fun x => by kernel_rfl

/-! ### laws.FnExactFrameBytes: function 14 -/
noncomputable def F.laws_FnExactFrameBytes (a0 : DFrame) : Option Bool :=
  (F.laws_szFrame a0 1048576).bind fun r1 =>
  bif decide (r1 < 0) then
    some true
  else
  (F.laws_toFrame a0).bind fun r2 =>
  (F.spec_FrameBytes r2).bind fun r3 =>
  (F.laws_toFrame a0).bind fun r4 =>
  (F.impl_FrameBytes r4).bind fun r5 =>
  (F.laws_eqByteS r5 r3).bind fun r6 =>
  bif !r6 then
    some false
  else
  (F.laws_toFrame a0).bind fun r7 =>
  (F.laws_eqFrame r4 r7).bind fun r8 =>
  bif !r8 then
    some false
  else
  (F.laws_markFrame r4 1).bind fun r9 =>
  bif decide (r9.1 < 0) then
    some false
  else
  (F.laws_eqByteS r5 r3).bind fun r10 =>
  bif !r10 then
    some false
  else
  (F.laws_markByteS r5 1).bind fun r11 =>
  (F.laws_heldByteS r11.2 1).bind fun r12 =>
  bif decide (r12 < 0) then
    some false
  else
  bif r12 != r11.1 then
    some false
  else
  (F.laws_toFrame a0).bind fun r13 =>
  (F.impl_FrameBytes r13).bind fun r14 =>
  (F.laws_eqByteS r14 r3).bind fun r15 =>
  bif !r15 then
    some false
  else
  (F.laws_heldByteS r11.2 1).bind fun r16 =>
  bif decide (r16 < 0) then
    some false
  else
  bif r16 != r11.1 then
    some false
  else
    some true
noncomputable def C.laws_FnExactFrameBytes : Con := ⟨[.r (.val y7)], .one .bool, fun x => F.laws_FnExactFrameBytes x.1⟩
def L.laws_FnExactFrameBytes : Loops := fun _ => none
noncomputable def K.laws_FnExactFrameBytes : Cons := lookK [(29, [], C.laws_szFrame), (31, [], C.laws_toFrame), (33, [], C.laws_eqFrame), (58, [], C.impl_FrameBytes), (61, [], C.spec_FrameBytes), (62, [], C.laws_eqByteS), (63, [], C.laws_markFrame), (64, [], C.laws_markByteS), (65, [], C.laws_heldByteS)]
theorem run.laws_FnExactFrameBytes : ∀ x, runF tb K.laws_FnExactFrameBytes L.laws_FnExactFrameBytes [] Try.f14 C.laws_FnExactFrameBytes x = C.laws_FnExactFrameBytes.fn x := fun x => by kernel_rfl
end Go.Proofs.Ytcebhnphcgigfaa.Vm
