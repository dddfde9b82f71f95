import Derived.Test.YtadaiilmjchnmaaV1
import Derived.Test.YtadaiilmjchnmaaProg
import Derived.Test.YtadaiilmjchnmaaVS0
import Derived.KernelRfl
namespace Go.Proofs.Ytadaiilmjchnmaa.Vm
open Go Go.RowKit
set_option maxRecDepth 100000
set_option linter.unusedVariables false
def lookL (l : List (Nat × Loop)) : Loops := fun n => lookN l n
def eqNs : List Nat → List Nat → Bool
  | [], [] => true
  | a :: l, b :: m => Nat.beq a b && eqNs l m
  | _, _ => false
def lookK : List (FuncId × List Nat × Con) → Cons
  | [], _, _ => none
  | (f, ks, c) :: l, g, xs => bif Nat.beq f g && eqNs ks xs then some c else lookK l g xs
abbrev DSpan : Type := Int × Int × Unit
abbrev DSketch : Type := Int × Int × Int × Int × (List Int) × (List Int) × (List (List Int)) × Unit
abbrev DEntry : Type := Int × Int × (List DSpan) × DSketch × Unit
abbrev DRow : Type := (List DEntry) × Unit
abbrev DItem : Type := Int × Int × Int × Int × DSketch × Unit
abbrev DAgent : Type := Int × Int × Bool × Int × (List DItem) × (List DSpan) × Int × Unit
abbrev DConf : Type := Int × Int × Int × (List Int) × Int × Int × Int × Int × Unit
abbrev DSeat : Type := Int × Int × (List DSpan) × Int × Int × Unit
abbrev DTurn : Type := Int × Bool × (List Int) × Unit
abbrev DOut : Type := Int × DEntry × Unit
abbrev DHouse : Type := DConf × Int × Bool × (List DSeat) × (List (List DRow)) × (List DTurn) × Int × (List DEntry) × (List DOut) × Unit
abbrev DFrame : Type := Int × Int × Int × Int × (List DSpan) × DItem × Unit
abbrev DReader : Type := (List Int) × Int × Bool × Unit
abbrev DL1Cur : Type := (List Int) × Int × Int × Unit
abbrev y0 : Ty := .cons (.int .i64) (.cons (.int .i64) .nil)
abbrev y1 : Ty := .cons (.int .i64) (.cons (.int .i64) (.cons (.int .i64) (.cons (.int .i64) (.cons (.sl false 3 (.int .i64)) (.cons (.sl false 3 (.int .i64)) (.cons (.sl false 27 (.sl false 3 (.int .i64))) .nil))))))
abbrev y2 : Ty := .cons (.int .i64) (.cons (.int .i64) (.cons (.sl false 252 y0) (.cons y1 .nil)))
abbrev y3 : Ty := .cons (.int .i64) (.cons (.int .i64) (.cons (.int .i64) (.cons (.int .i64) (.cons (.sl true 3 (.int .i64)) (.cons (.sl true 3 (.int .i64)) (.cons (.sl true 27 (.sl true 3 (.int .i64))) .nil))))))
abbrev y4 : Ty := .cons (.int .i64) (.cons (.int .i64) (.cons (.sl true 175 y0) (.cons y3 .nil)))
abbrev y5 : Ty := .cons (.int .i64) (.cons (.int .i64) (.cons (.sl false 175 y0) (.cons y1 .nil)))
abbrev y6 : Ty := .cons (.int .i64) (.cons (.int .i64) (.cons (.int .i64) (.cons (.int .i64) (.cons y1 .nil))))
abbrev y7 : Ty := .cons (.int .i64) (.cons (.int .i64) (.cons .bool (.cons (.int .i64) (.cons (.sl false 248 y6) (.cons (.sl false 252 y0) (.cons (.int .i64) .nil))))))
abbrev y8 : Ty := .cons (.int .i64) (.cons (.int .i64) (.cons (.int .i64) (.cons (.int .i64) (.cons y3 .nil))))
abbrev y9 : Ty := .cons (.int .i64) (.cons (.int .i64) (.cons .bool (.cons (.int .i64) (.cons (.sl true 96 y8) (.cons (.sl true 175 y0) (.cons (.int .i64) .nil))))))
abbrev y10 : Ty := .cons (.int .i64) (.cons (.int .i64) (.cons .bool (.cons (.int .i64) (.cons (.sl false 96 y6) (.cons (.sl false 175 y0) (.cons (.int .i64) .nil))))))
abbrev y11 : Ty := .cons (.int .i64) (.cons (.int .i64) (.cons (.int .i64) (.cons (.sl false 3 (.int .i64)) (.cons (.int .i64) (.cons (.int .i64) (.cons (.int .i64) (.cons (.int .i64) .nil)))))))
abbrev y12 : Ty := .cons (.int .i64) (.cons (.int .i64) (.cons (.sl false 252 y0) (.cons (.int .i64) (.cons (.int .i64) .nil))))
abbrev y13 : Ty := .cons (.int .i64) (.cons .bool (.cons (.sl false 3 (.int .i64)) .nil))
abbrev y14 : Ty := .cons (.int .i64) (.cons y2 .nil)
abbrev y15 : Ty := .cons y11 (.cons (.int .i64) (.cons .bool (.cons (.sl false 84 y12) (.cons (.sl false 254 (.sl false 24 (.cons (.sl false 240 y2) .nil))) (.cons (.sl false 256 y13) (.cons (.int .i64) (.cons (.sl false 240 y2) (.cons (.sl false 259 y14) .nil))))))))
abbrev y16 : Ty := .cons (.int .i64) (.cons (.int .i64) (.cons (.int .i64) (.cons (.sl true 3 (.int .i64)) (.cons (.int .i64) (.cons (.int .i64) (.cons (.int .i64) (.cons (.int .i64) .nil)))))))
abbrev y17 : Ty := .cons (.int .i64) (.cons (.int .i64) (.cons (.sl true 175 y0) (.cons (.int .i64) (.cons (.int .i64) .nil))))
abbrev y18 : Ty := .cons (.int .i64) (.cons .bool (.cons (.sl true 3 (.int .i64)) .nil))
abbrev y19 : Ty := .cons (.int .i64) (.cons y4 .nil)
abbrev y20 : Ty := .cons y16 (.cons (.int .i64) (.cons .bool (.cons (.sl true 87 y17) (.cons (.sl true 159 (.sl true 35 (.cons (.sl true 32 y4) .nil))) (.cons (.sl true 192 y18) (.cons (.int .i64) (.cons (.sl true 32 y4) (.cons (.sl true 194 y19) .nil))))))))
abbrev y21 : Ty := .cons (.int .i64) (.cons (.int .i64) (.cons (.sl false 175 y0) (.cons (.int .i64) (.cons (.int .i64) .nil))))
abbrev y22 : Ty := .cons (.int .i64) (.cons y5 .nil)
abbrev y23 : Ty := .cons y11 (.cons (.int .i64) (.cons .bool (.cons (.sl false 87 y21) (.cons (.sl false 159 (.sl false 35 (.cons (.sl false 32 y5) .nil))) (.cons (.sl false 192 y13) (.cons (.int .i64) (.cons (.sl false 32 y5) (.cons (.sl false 194 y22) .nil))))))))
abbrev y24 : Ty := .cons (.int .i64) (.cons (.int .i64) (.cons (.int .i64) (.cons (.int .i64) (.cons (.sl false 175 y0) (.cons y6 .nil)))))
abbrev y25 : Ty := .cons (.int .i64) (.cons (.int .i64) (.cons (.int .i64) (.cons (.int .i64) (.cons (.sl true 175 y0) (.cons y8 .nil)))))
abbrev y26 : Ty := .cons (.sl false 5 (.int .u8)) (.cons (.int .i64) (.cons .bool .nil))
abbrev y27 : Ty := .cons (.sl false 5 (.int .u8)) (.cons (.int .i64) (.cons (.int .i64) .nil))
def tb : List (TypeId × TRow) := [
  (2, ⟨(.int .i64), 8, []⟩),
  (3, ⟨(.int .i64), 8, []⟩),
  (4, ⟨.bool, 1, []⟩),
  (5, ⟨(.int .u8), 1, []⟩),
  (6, ⟨(.int .u8), 1, []⟩),
  (9, ⟨.str, 16, []⟩),
  (10, ⟨.str, 16, []⟩),
  (11, ⟨.str, 16, []⟩),
  (12, ⟨(.int .u64), 8, []⟩),
  (21, ⟨(.int .i32), 4, []⟩),
  (22, ⟨(.sl false 240 y2), 24, []⟩),
  (23, ⟨(.cons (.sl false 240 y2) .nil), 24, [22]⟩),
  (24, ⟨(.cons (.sl false 240 y2) .nil), 24, [22]⟩),
  (26, ⟨(.sl false 175 y0), 24, []⟩),
  (27, ⟨(.sl false 3 (.int .i64)), 24, []⟩),
  (28, ⟨(.sl false 27 (.sl false 3 (.int .i64))), 24, []⟩),
  (29, ⟨y1, 104, [3, 3, 3, 3, 27, 27, 28]⟩),
  (30, ⟨y1, 104, [3, 3, 3, 3, 27, 27, 28]⟩),
  (31, ⟨y5, 144, [3, 3, 26, 30]⟩),
  (32, ⟨y5, 144, [3, 3, 26, 30]⟩),
  (33, ⟨(.sl false 32 y5), 24, []⟩),
  (34, ⟨(.cons (.sl false 32 y5) .nil), 24, [33]⟩),
  (35, ⟨(.cons (.sl false 32 y5) .nil), 24, [33]⟩),
  (44, ⟨(.sl false 248 y6), 24, []⟩),
  (45, ⟨(.sl false 252 y0), 24, []⟩),
  (46, ⟨y7, 88, [3, 3, 4, 3, 44, 45, 3]⟩),
  (47, ⟨y7, 88, [3, 3, 4, 3, 44, 45, 3]⟩),
  (48, ⟨y1, 104, [3, 3, 3, 3, 27, 27, 28]⟩),
  (51, ⟨(.sl false 96 y6), 24, []⟩),
  (52, ⟨y10, 88, [3, 3, 4, 3, 51, 26, 3]⟩),
  (53, ⟨y10, 88, [3, 3, 4, 3, 51, 26, 3]⟩),
  (63, ⟨y11, 80, [3, 3, 3, 27, 3, 3, 3, 3]⟩),
  (64, ⟨y11, 80, [3, 3, 3, 27, 3, 3, 3, 3]⟩),
  (65, ⟨(.sl false 84 y12), 24, []⟩),
  (66, ⟨(.sl false 254 (.sl false 24 (.cons (.sl false 240 y2) .nil))), 24, []⟩),
  (67, ⟨(.sl false 256 y13), 24, []⟩),
  (68, ⟨(.sl false 259 y14), 24, []⟩),
  (69, ⟨y15, 224, [64, 3, 4, 65, 66, 67, 3, 22, 68]⟩),
  (70, ⟨y15, 224, [64, 3, 4, 65, 66, 67, 3, 22, 68]⟩),
  (73, ⟨y11, 80, [3, 3, 3, 27, 3, 3, 3, 3]⟩),
  (74, ⟨(.sl false 87 y21), 24, []⟩),
  (75, ⟨(.sl false 159 (.sl false 35 (.cons (.sl false 32 y5) .nil))), 24, []⟩),
  (76, ⟨(.sl false 192 y13), 24, []⟩),
  (77, ⟨(.sl false 194 y22), 24, []⟩),
  (78, ⟨y23, 224, [73, 3, 4, 74, 75, 76, 3, 33, 77]⟩),
  (79, ⟨y23, 224, [73, 3, 4, 74, 75, 76, 3, 33, 77]⟩),
  (83, ⟨y12, 56, [3, 3, 45, 3, 3]⟩),
  (84, ⟨y12, 56, [3, 3, 45, 3, 3]⟩),
  (86, ⟨y21, 56, [3, 3, 26, 3, 3]⟩),
  (87, ⟨y21, 56, [3, 3, 26, 3, 3]⟩),
  (94, ⟨(.sl false 5 (.int .u8)), 24, []⟩),
  (95, ⟨y6, 136, [3, 3, 3, 3, 30]⟩),
  (96, ⟨y6, 136, [3, 3, 3, 3, 30]⟩),
  (97, ⟨y24, 192, [3, 3, 3, 3, 26, 96]⟩),
  (98, ⟨y24, 192, [3, 3, 3, 3, 26, 96]⟩),
  (159, ⟨(.sl false 35 (.cons (.sl false 32 y5) .nil)), 24, []⟩),
  (174, ⟨y0, 16, [3, 3]⟩),
  (175, ⟨y0, 16, [3, 3]⟩),
  (182, ⟨y26, 40, [94, 3, 4]⟩),
  (183, ⟨y26, 40, [94, 3, 4]⟩),
  (191, ⟨y13, 40, [3, 4, 27]⟩),
  (192, ⟨y13, 40, [3, 4, 27]⟩),
  (193, ⟨y22, 152, [3, 32]⟩),
  (194, ⟨y22, 152, [3, 32]⟩),
  (210, ⟨(.int .u64), 8, []⟩),
  (239, ⟨y2, 144, [3, 3, 45, 48]⟩),
  (240, ⟨y2, 144, [3, 3, 45, 48]⟩),
  (247, ⟨y6, 136, [3, 3, 3, 3, 48]⟩),
  (248, ⟨y6, 136, [3, 3, 3, 3, 48]⟩),
  (252, ⟨y0, 16, [3, 3]⟩),
  (254, ⟨(.sl false 24 (.cons (.sl false 240 y2) .nil)), 24, []⟩),
  (256, ⟨y13, 40, [3, 4, 27]⟩),
  (258, ⟨y14, 152, [3, 240]⟩),
  (259, ⟨y14, 152, [3, 240]⟩),
  (271, ⟨y27, 40, [94, 3, 3]⟩),
  (272, ⟨y27, 40, [94, 3, 3]⟩),
  (290, ⟨(.int .i64), 8, []⟩),
  (298, ⟨(.int .u32), 4, []⟩),
  (300, ⟨(.int .u64), 8, []⟩),
  (302, ⟨(.int .u64), 8, []⟩),
  (317, ⟨(.int .u8), 1, []⟩),
  (318, ⟨(.int .u8), 1, []⟩),
  (321, ⟨(.int .i32), 4, []⟩),
  (322, ⟨(.int .i32), 4, []⟩)]

/-! ### laws.szSpanS: function 102 -/
noncomputable def F.laws_szSpanS (a0 : List DSpan) (a1 : Int) : Option Int :=
  bif decide ((w64 (a1 - (len a0))) < 0) then
    some (-1)
  else
    some (w64 (a1 - (len a0)))
noncomputable def C.laws_szSpanS : Con := ⟨[.r (.val (.sl false 252 y0)), .r (.val (.int .i64))], .one (.int .i64), fun x => F.laws_szSpanS x.1 x.2.1⟩
def L.laws_szSpanS : Loops := fun _ => none
noncomputable def K.laws_szSpanS : Cons := lookK []
theorem run.laws_szSpanS : ∀ x, runF tb K.laws_szSpanS L.laws_szSpanS [] Try.f102 C.laws_szSpanS x = C.laws_szSpanS.fn x := fun x => by kernel_rfl

/-! ### laws.szIntS: function 103 -/
noncomputable def F.laws_szIntS (a0 : List Int) (a1 : Int) : Option Int :=
  bif decide ((w64 (a1 - (len a0))) < 0) then
    some (-1)
  else
    some (w64 (a1 - (len a0)))
noncomputable def C.laws_szIntS : Con := ⟨[.r (.val (.sl false 3 (.int .i64))), .r (.val (.int .i64))], .one (.int .i64), fun x => F.laws_szIntS x.1 x.2.1⟩
def L.laws_szIntS : Loops := fun _ => none
noncomputable def K.laws_szIntS : Cons := lookK []
theorem run.laws_szIntS : ∀ x, runF tb K.laws_szIntS L.laws_szIntS [] Try.f103 C.laws_szIntS x = C.laws_szIntS.fn x := fun x => by kernel_rfl

/-! ### laws.szIntSS: function 104 -/
noncomputable def F.laws_szIntSS.s5 : ((List (List Int)) × Int × Int × Unit) → Option (Lp ((List (List Int)) × Int × Int × Unit) Int) := fun (x1, x2, x3, _) =>
  bif decide (x3 < (len x1)) then
    chk (inb x3 (List.length x1)) <|
    (F.laws_szIntS (List.getD x1 ((Int.toNat x3)) (([] : List Int))) x2).bind fun r4 =>
    bif decide (r4 < 0) then
      some (.ret (-1))
    else
      some (.again (x1, r4, w64 (x3 + 1), ()))
  else
    some (.exit (x1, x2, x3, ()))
noncomputable def F.laws_szIntSS (a0 : List (List Int)) (a1 : Int) : Option Int :=
  bif decide ((w64 (a1 - (len a0))) < 0) then
    some (-1)
  else
  afterO (loopO F.laws_szIntSS.s5 (a0, w64 (a1 - (len a0)), 0, ())) fun (x5, x6, x7, _) =>
  some x6
noncomputable def C.laws_szIntSS : Con := ⟨[.r (.val (.sl false 27 (.sl false 3 (.int .i64)))), .r (.val (.int .i64))], .one (.int .i64), fun x => F.laws_szIntSS x.1 x.2.1⟩
def L.laws_szIntSS : Loops := lookL [(5, ⟨[.pat 0 (.val (.sl false 27 (.sl false 3 (.int .i64)))), .pat 1 (.val (.int .i64)), .pat 5 (.val (.int .i64))], 0⟩)]
noncomputable def K.laws_szIntSS : Cons := lookK [(103, [], C.laws_szIntS)]
theorem run.laws_szIntSS : ∀ x, runF tb K.laws_szIntSS L.laws_szIntSS [] Try.f104 C.laws_szIntSS x = C.laws_szIntSS.fn x := fun x => by kernel_rfl

/-! ### laws.szSketch: function 25 -/
noncomputable def F.laws_szSketch (a0 : DSketch) (a1 : Int) : Option Int :=
  (F.laws_szIntS a0.2.2.2.2.1 a1).bind fun r1 =>
  bif decide (r1 < 0) then
    some (-1)
  else
  (F.laws_szIntS a0.2.2.2.2.2.1 r1).bind fun r2 =>
  bif decide (r2 < 0) then
    some (-1)
  else
  (F.laws_szIntSS a0.2.2.2.2.2.2.1 r2).bind fun r3 =>
  bif decide (r3 < 0) then
    some (-1)
  else
    some r3
noncomputable def C.laws_szSketch : Con := ⟨[.r (.val y1), .r (.val (.int .i64))], .one (.int .i64), fun x => F.laws_szSketch x.1 x.2.1⟩
def L.laws_szSketch : Loops := fun _ => none
noncomputable def K.laws_szSketch : Cons := lookK [(103, [], C.laws_szIntS), (104, [], C.laws_szIntSS)]
theorem run.laws_szSketch : ∀ x, runF tb K.laws_szSketch L.laws_szSketch [] Try.f25 C.laws_szSketch x = C.laws_szSketch.fn x := fun x => by kernel_rfl

/-! ### laws.szEntry: function 228 -/
noncomputable def F.laws_szEntry (a0 : DEntry) (a1 : Int) : Option Int :=
  (F.laws_szSpanS a0.2.2.1 a1).bind fun r1 =>
  bif decide (r1 < 0) then
    some (-1)
  else
  (F.laws_szSketch a0.2.2.2.1 r1).bind fun r2 =>
  bif decide (r2 < 0) then
    some (-1)
  else
    some r2
noncomputable def C.laws_szEntry : Con := ⟨[.r (.val y2), .r (.val (.int .i64))], .one (.int .i64), fun x => F.laws_szEntry x.1 x.2.1⟩
def L.laws_szEntry : Loops := fun _ => none
noncomputable def K.laws_szEntry : Cons := lookK [(25, [], C.laws_szSketch), (102, [], C.laws_szSpanS)]
theorem run.laws_szEntry : ∀ x, runF tb K.laws_szEntry L.laws_szEntry [] Try.f228 C.laws_szEntry x = C.laws_szEntry.fn x := fun x => by kernel_rfl

/-! ### laws.szEntryS: function 91 -/
noncomputable def F.laws_szEntryS.s5 : ((List DEntry) × Int × Int × Unit) → Option (Lp ((List DEntry) × Int × Int × Unit) Int) := fun (x1, x2, x3, _) =>
  bif decide (x3 < (len x1)) then
    chk (inb x3 (List.length x1)) <|
    (F.laws_szEntry (List.getD x1 ((Int.toNat x3)) ((0, 0, ([] : List DSpan), (0, 0, 0, 0, ([] : List Int), ([] : List Int), ([] : List (List Int)), ()), ()))) x2).bind fun r4 =>
    bif decide (r4 < 0) then
      some (.ret (-1))
    else
      some (.again (x1, r4, w64 (x3 + 1), ()))
  else
    some (.exit (x1, x2, x3, ()))
noncomputable def F.laws_szEntryS (a0 : List DEntry) (a1 : Int) : Option Int :=
  bif decide ((w64 (a1 - (len a0))) < 0) then
    some (-1)
  else
  afterO (loopO F.laws_szEntryS.s5 (a0, w64 (a1 - (len a0)), 0, ())) fun (x5, x6, x7, _) =>
  some x6
noncomputable def C.laws_szEntryS : Con := ⟨[.r (.val (.sl false 240 y2)), .r (.val (.int .i64))], .one (.int .i64), fun x => F.laws_szEntryS x.1 x.2.1⟩
def L.laws_szEntryS : Loops := lookL [(5, ⟨[.pat 0 (.val (.sl false 240 y2)), .pat 1 (.val (.int .i64)), .pat 5 (.val (.int .i64))], 0⟩)]
noncomputable def K.laws_szEntryS : Cons := lookK [(228, [], C.laws_szEntry)]
theorem run.laws_szEntryS : ∀ x, runF tb K.laws_szEntryS L.laws_szEntryS [] Try.f91 C.laws_szEntryS x = C.laws_szEntryS.fn x := fun x => by kernel_rfl

/-! ### laws.szRow: function 14 -/
noncomputable def F.laws_szRow (a0 : DRow) (a1 : Int) : Option Int :=
  (F.laws_szEntryS a0.1 a1).bind fun r1 =>
  bif decide (r1 < 0) then
    some (-1)
  else
    some r1
noncomputable def C.laws_szRow : Con := ⟨[.r (.val (.cons (.sl false 240 y2) .nil)), .r (.val (.int .i64))], .one (.int .i64), fun x => F.laws_szRow x.1 x.2.1⟩
def L.laws_szRow : Loops := fun _ => none
noncomputable def K.laws_szRow : Cons := lookK [(91, [], C.laws_szEntryS)]
theorem run.laws_szRow : ∀ x, runF tb K.laws_szRow L.laws_szRow [] Try.f14 C.laws_szRow x = C.laws_szRow.fn x := fun x => by kernel_rfl

/-! ### laws.toSpan: function 240 -/
noncomputable def F.laws_toSpan (a0 : DSpan) : Option DSpan :=
  some (a0.1, a0.2.1, ())
noncomputable def C.laws_toSpan : Con := ⟨[.r (.val y0)], .one y0, fun x => F.laws_toSpan x.1⟩
def L.laws_toSpan : Loops := fun _ => none
noncomputable def K.laws_toSpan : Cons := lookK []
theorem run.laws_toSpan : ∀ x, runF tb K.laws_toSpan L.laws_toSpan [] Try.f240 C.laws_toSpan x = C.laws_toSpan.fn x := fun x => by kernel_rfl

/-! ### laws.toSpanS: function 109 -/
noncomputable def F.laws_toSpanS.s3 : ((List DSpan) × (List DSpan) × Int × Unit) → Option (Lp ((List DSpan) × (List DSpan) × Int × Unit) ((List DSpan))) := fun (x1, x2, x3, _) =>
  bif decide (x3 < (len x1)) then
    chk (inb x3 (List.length x1)) <|
    (F.laws_toSpan (List.getD x1 ((Int.toNat x3)) ((0, 0, ())))).bind fun r4 =>
    chk (inb x3 (List.length x2)) <|
    some (.again (x1, List.set x2 ((Int.toNat x3)) r4, w64 (x3 + 1), ()))
  else
    some (.exit (x1, x2, x3, ()))
noncomputable def F.laws_toSpanS (a0 : List DSpan) : Option ((List DSpan)) :=
  chk (mk 16 (len a0) (len a0)) <|
  afterO (loopO F.laws_toSpanS.s3 (a0, List.replicate (Int.toNat (len a0)) ((0, 0, ())), 0, ())) fun (x5, x6, x7, _) =>
  some x6
noncomputable def C.laws_toSpanS : Con := ⟨[.r (.val (.sl false 252 y0))], .one (.sl true 175 y0), fun x => F.laws_toSpanS x.1⟩
def L.laws_toSpanS : Loops := lookL [(3, ⟨[.pat 0 (.val (.sl false 252 y0)), .own 3 (.sl true 175 y0), .pat 4 (.val (.int .i64))], 0⟩)]
noncomputable def K.laws_toSpanS : Cons := lookK [(240, [], C.laws_toSpan)]
theorem run.laws_toSpanS : ∀ x, runF tb K.laws_toSpanS L.laws_toSpanS [] Try.f109 C.laws_toSpanS x = C.laws_toSpanS.fn x := fun x => by kernel_rfl

/-! ### laws.toIntS: function 110 -/
noncomputable def F.laws_toIntS.s3 : ((List Int) × (List Int) × Int × Unit) → Option (Lp ((List Int) × (List Int) × Int × Unit) ((List Int))) := fun (x1, x2, x3, _) =>
  bif decide (x3 < (len x1)) then
    chk (inb x3 (List.length x1)) <|
    chk (inb x3 (List.length x2)) <|
    some (.again (x1, List.set x2 ((Int.toNat x3)) (List.getD x1 ((Int.toNat x3)) 0), w64 (x3 + 1), ()))
  else
    some (.exit (x1, x2, x3, ()))
noncomputable def F.laws_toIntS (a0 : List Int) : Option ((List Int)) :=
  chk (mk 8 (len a0) (len a0)) <|
  afterO (loopO F.laws_toIntS.s3 (a0, List.replicate (Int.toNat (len a0)) 0, 0, ())) fun (x4, x5, x6, _) =>
  some x5
noncomputable def C.laws_toIntS : Con := ⟨[.r (.val (.sl false 3 (.int .i64)))], .one (.sl true 3 (.int .i64)), fun x => F.laws_toIntS x.1⟩
def L.laws_toIntS : Loops := lookL [(3, ⟨[.pat 0 (.val (.sl false 3 (.int .i64))), .own 3 (.sl true 3 (.int .i64)), .pat 4 (.val (.int .i64))], 0⟩)]
noncomputable def K.laws_toIntS : Cons := lookK []
theorem run.laws_toIntS : ∀ x, runF tb K.laws_toIntS L.laws_toIntS [] Try.f110 C.laws_toIntS x = C.laws_toIntS.fn x := fun x => by kernel_rfl

/-! ### laws.toIntSS: function 111 -/
noncomputable def F.laws_toIntSS.s3 : ((List (List Int)) × (List (List Int)) × Int × Unit) → Option (Lp ((List (List Int)) × (List (List Int)) × Int × Unit) ((List (List Int)))) := fun (x1, x2, x3, _) =>
  bif decide (x3 < (len x1)) then
    chk (inb x3 (List.length x1)) <|
    (F.laws_toIntS (List.getD x1 ((Int.toNat x3)) (([] : List Int)))).bind fun r4 =>
    chk (inb x3 (List.length x2)) <|
    some (.again (x1, List.set x2 ((Int.toNat x3)) r4, w64 (x3 + 1), ()))
  else
    some (.exit (x1, x2, x3, ()))
noncomputable def F.laws_toIntSS (a0 : List (List Int)) : Option ((List (List Int))) :=
  chk (mk 24 (len a0) (len a0)) <|
  afterO (loopO F.laws_toIntSS.s3 (a0, List.replicate (Int.toNat (len a0)) (([] : List Int)), 0, ())) fun (x5, x6, x7, _) =>
  some x6
noncomputable def C.laws_toIntSS : Con := ⟨[.r (.val (.sl false 27 (.sl false 3 (.int .i64))))], .one (.sl true 27 (.sl true 3 (.int .i64))), fun x => F.laws_toIntSS x.1⟩
def L.laws_toIntSS : Loops := lookL [(3, ⟨[.pat 0 (.val (.sl false 27 (.sl false 3 (.int .i64)))), .own 3 (.sl true 27 (.sl true 3 (.int .i64))), .pat 4 (.val (.int .i64))], 0⟩)]
noncomputable def K.laws_toIntSS : Cons := lookK [(110, [], C.laws_toIntS)]
theorem run.laws_toIntSS : ∀ x, runF tb K.laws_toIntSS L.laws_toIntSS [] Try.f111 C.laws_toIntSS x = C.laws_toIntSS.fn x := fun x => by kernel_rfl

/-! ### laws.toSketch: function 28 -/
noncomputable def F.laws_toSketch (a0 : DSketch) : Option DSketch :=
  (F.laws_toIntS a0.2.2.2.2.1).bind fun r1 =>
  (F.laws_toIntS a0.2.2.2.2.2.1).bind fun r2 =>
  (F.laws_toIntSS a0.2.2.2.2.2.2.1).bind fun r3 =>
  some (a0.1, a0.2.1, a0.2.2.1, a0.2.2.2.1, r1, r2, r3, ())
noncomputable def C.laws_toSketch : Con := ⟨[.r (.val y1)], .one y3, fun x => F.laws_toSketch x.1⟩
def L.laws_toSketch : Loops := fun _ => none
noncomputable def K.laws_toSketch : Cons := lookK [(110, [], C.laws_toIntS), (111, [], C.laws_toIntSS)]
theorem run.laws_toSketch : ∀ x, runF tb K.laws_toSketch L.laws_toSketch [] Try.f28 C.laws_toSketch x = C.laws_toSketch.fn x := fun x => by kernel_rfl

/-! ### laws.toEntry: function 232 -/
noncomputable def F.laws_toEntry (a0 : DEntry) : Option DEntry :=
  (F.laws_toSpanS a0.2.2.1).bind fun r1 =>
  (F.laws_toSketch a0.2.2.2.1).bind fun r2 =>
  some (a0.1, a0.2.1, r1, r2, ())
noncomputable def C.laws_toEntry : Con := ⟨[.r (.val y2)], .one y4, fun x => F.laws_toEntry x.1⟩
def L.laws_toEntry : Loops := fun _ => none
noncomputable def K.laws_toEntry : Cons := lookK [(28, [], C.laws_toSketch), (109, [], C.laws_toSpanS)]
theorem run.laws_toEntry : ∀ x, runF tb K.laws_toEntry L.laws_toEntry [] Try.f232 C.laws_toEntry x = C.laws_toEntry.fn x := fun x => by kernel_rfl

/-! ### laws.toEntryS: function 94 -/
noncomputable def F.laws_toEntryS.s3 : ((List DEntry) × (List DEntry) × Int × Unit) → Option (Lp ((List DEntry) × (List DEntry) × Int × Unit) ((List DEntry))) := fun (x1, x2, x3, _) =>
  bif decide (x3 < (len x1)) then
    chk (inb x3 (List.length x1)) <|
    (F.laws_toEntry (List.getD x1 ((Int.toNat x3)) ((0, 0, ([] : List DSpan), (0, 0, 0, 0, ([] : List Int), ([] : List Int), ([] : List (List Int)), ()), ())))).bind fun r4 =>
    chk (inb x3 (List.length x2)) <|
    some (.again (x1, List.set x2 ((Int.toNat x3)) r4, w64 (x3 + 1), ()))
  else
    some (.exit (x1, x2, x3, ()))
noncomputable def F.laws_toEntryS (a0 : List DEntry) : Option ((List DEntry)) :=
  chk (mk 144 (len a0) (len a0)) <|
  afterO (loopO F.laws_toEntryS.s3 (a0, List.replicate (Int.toNat (len a0)) ((0, 0, ([] : List DSpan), (0, 0, 0, 0, ([] : List Int), ([] : List Int), ([] : List (List Int)), ()), ())), 0, ())) fun (x5, x6, x7, _) =>
  some x6
noncomputable def C.laws_toEntryS : Con := ⟨[.r (.val (.sl false 240 y2))], .one (.sl true 32 y4), fun x => F.laws_toEntryS x.1⟩
def L.laws_toEntryS : Loops := lookL [(3, ⟨[.pat 0 (.val (.sl false 240 y2)), .own 3 (.sl true 32 y4), .pat 4 (.val (.int .i64))], 0⟩)]
noncomputable def K.laws_toEntryS : Cons := lookK [(232, [], C.laws_toEntry)]
theorem run.laws_toEntryS : ∀ x, runF tb K.laws_toEntryS L.laws_toEntryS [] Try.f94 C.laws_toEntryS x = C.laws_toEntryS.fn x := fun x => by kernel_rfl

/-! ### laws.toRow: function 16 -/
noncomputable def F.laws_toRow (a0 : DRow) : Option DRow :=
  (F.laws_toEntryS a0.1).bind fun r1 =>
  some (r1, ())
noncomputable def C.laws_toRow : Con := ⟨[.r (.val (.cons (.sl false 240 y2) .nil))], .one (.cons (.sl true 32 y4) .nil), fun x => F.laws_toRow x.1⟩
def L.laws_toRow : Loops := fun _ => none
noncomputable def K.laws_toRow : Cons := lookK [(94, [], C.laws_toEntryS)]
theorem run.laws_toRow : ∀ x, runF tb K.laws_toRow L.laws_toRow [] Try.f16 C.laws_toRow x = C.laws_toRow.fn x := fun x => by kernel_rfl

/-! ### spec.l5Copy: function 238 -/
noncomputable def F.spec_l5Copy (a0 : List DSpan) : Option ((List DSpan)) :=
  chk (fits (List.length (([] : List DSpan)) + List.length a0) 16) <|
  some ((([] : List DSpan)) ++ a0)
noncomputable def C.spec_l5Copy : Con := ⟨[.r (.val (.sl false 175 y0))], .one (.sl true 175 y0), fun x => F.spec_l5Copy x.1⟩
def L.spec_l5Copy : Loops := fun _ => none
noncomputable def K.spec_l5Copy : Cons := lookK []
theorem run.spec_l5Copy : ∀ x, runF tb K.spec_l5Copy L.spec_l5Copy [] Try.f238 C.spec_l5Copy x = C.spec_l5Copy.fn x := fun x => by kernel_rfl

/-! ### spec.l3Copy: function 107 -/
noncomputable def F.spec_l3Copy.s6 : (Int × DSketch × DSketch × DSketch × Unit) → Option (Lp (Int × DSketch × DSketch × DSketch × Unit) DSketch) := fun (x1, x2, x3, x4, _) =>
  bif decide (x1 < (len x2.2.2.2.2.2.2.1)) then
    chk (inb x1 (List.length x2.2.2.2.2.2.2.1)) <|
    chk (fits (List.length (([] : List Int)) + List.length (List.getD x2.2.2.2.2.2.2.1 ((Int.toNat x1)) (([] : List Int)))) 8) <|
    chk (fits (List.length x4.2.2.2.2.2.2.1 + List.length ([(([] : List Int)) ++ (List.getD x2.2.2.2.2.2.2.1 ((Int.toNat x1)) (([] : List Int)))])) 24) <|
    some (.again (w64 (x1 + 1), x2, x3, (x4.1, x4.2.1, x4.2.2.1, x4.2.2.2.1, x4.2.2.2.2.1, x4.2.2.2.2.2.1, x4.2.2.2.2.2.2.1 ++ ([(([] : List Int)) ++ (List.getD x2.2.2.2.2.2.2.1 ((Int.toNat x1)) (([] : List Int)))]), x4.2.2.2.2.2.2.2), ()))
  else
    some (.exit (x1, x2, x3, x4, ()))
noncomputable def F.spec_l3Copy (a0 : DSketch) : Option DSketch :=
  chk (fits (List.length (([] : List Int)) + List.length a0.2.2.2.2.1) 8) <|
  chk (fits (List.length (([] : List Int)) + List.length a0.2.2.2.2.2.1) 8) <|
  afterO (loopO F.spec_l3Copy.s6 (0, a0, (0, 0, 0, 0, ([] : List Int), ([] : List Int), ([] : List (List Int)), ()), (a0.1, a0.2.1, a0.2.2.1, a0.2.2.2.1, (([] : List Int)) ++ a0.2.2.2.2.1, (([] : List Int)) ++ a0.2.2.2.2.2.1, ([] : List (List Int)), a0.2.2.2.2.2.2.2), ())) fun (x5, x6, x7, x8, _) =>
  some x8
noncomputable def C.spec_l3Copy : Con := ⟨[.r (.val y1)], .one y3, fun x => F.spec_l3Copy x.1⟩
def L.spec_l3Copy : Loops := lookL [(6, ⟨[.pat 4 (.val (.int .i64)), .root 1 true y1 [1], .root 2 true y3 [2], .root 3 true y3 [3]], 0⟩)]
noncomputable def K.spec_l3Copy : Cons := lookK []
theorem run.spec_l3Copy : ∀ x, runF tb K.spec_l3Copy L.spec_l3Copy [] Try.f107 C.spec_l3Copy x = C.spec_l3Copy.fn x := fun x => by kernel_rfl

/-! ### spec.l6Copy: function 229 -/
noncomputable def F.spec_l6Copy (a0 : DEntry) : Option DEntry :=
  (F.spec_l5Copy a0.2.2.1).bind fun r1 =>
  (F.spec_l3Copy a0.2.2.2.1).bind fun r2 =>
  some (a0.1, a0.2.1, r1, r2, ())
noncomputable def C.spec_l6Copy : Con := ⟨[.r (.val y5)], .one y4, fun x => F.spec_l6Copy x.1⟩
def L.spec_l6Copy : Loops := fun _ => none
noncomputable def K.spec_l6Copy : Cons := lookK [(107, [], C.spec_l3Copy), (238, [], C.spec_l5Copy)]
theorem run.spec_l6Copy : ∀ x, runF tb K.spec_l6Copy L.spec_l6Copy [] Try.f229 C.spec_l6Copy x = C.spec_l6Copy.fn x := fun x => by kernel_rfl

/-! ### spec.l10Copy: function 92 -/
noncomputable def F.spec_l10Copy.s3 : (Int × DRow × DRow × DRow × Unit) → Option (Lp (Int × DRow × DRow × DRow × Unit) DRow) := fun (x1, x2, x3, x4, _) =>
  bif decide (x1 < (len x2.1)) then
    chk (inb x1 (List.length x2.1)) <|
    (F.spec_l6Copy (List.getD x2.1 ((Int.toNat x1)) ((0, 0, ([] : List DSpan), (0, 0, 0, 0, ([] : List Int), ([] : List Int), ([] : List (List Int)), ()), ())))).bind fun r5 =>
    chk (fits (List.length x4.1 + List.length ([r5])) 144) <|
    some (.again (w64 (x1 + 1), x2, x3, (x4.1 ++ ([r5]), x4.2), ()))
  else
    some (.exit (x1, x2, x3, x4, ()))
noncomputable def F.spec_l10Copy (a0 : DRow) : Option DRow :=
  afterO (loopO F.spec_l10Copy.s3 (0, a0, (([] : List DEntry), ()), (([] : List DEntry), ()), ())) fun (x6, x7, x8, x9, _) =>
  some x9
noncomputable def C.spec_l10Copy : Con := ⟨[.r (.val (.cons (.sl false 32 y5) .nil))], .one (.cons (.sl true 32 y4) .nil), fun x => F.spec_l10Copy x.1⟩
def L.spec_l10Copy : Loops := lookL [(3, ⟨[.pat 4 (.val (.int .i64)), .root 1 true (.cons (.sl false 32 y5) .nil) [1], .root 2 true (.cons (.sl true 32 y4) .nil) [2], .root 3 true (.cons (.sl true 32 y4) .nil) [3]], 0⟩)]
noncomputable def K.spec_l10Copy : Cons := lookK [(229, [], C.spec_l6Copy)]
theorem run.spec_l10Copy : ∀ x, runF tb K.spec_l10Copy L.spec_l10Copy [] Try.f92 C.spec_l10Copy x = C.spec_l10Copy.fn x := fun x => by kernel_rfl

/-! ### spec.l1In: function 136 -/
noncomputable def F.spec_l1In (a0 : Int) (a1 : Int) (a2 : Int) : Option Bool :=
  bif decide (a0 ≥ a1) then
    some (decide (a0 ≤ a2))
  else
    some false
noncomputable def C.spec_l1In : Con := ⟨[.r (.val (.int .i64)), .r (.val (.int .i64)), .r (.val (.int .i64))], .one .bool, fun x => F.spec_l1In x.1 x.2.1 x.2.2.1⟩
def L.spec_l1In : Loops := fun _ => none
noncomputable def K.spec_l1In : Cons := lookK []
theorem run.spec_l1In : ∀ x, runF tb K.spec_l1In L.spec_l1In [] Try.f136 C.spec_l1In x = C.spec_l1In.fn x := fun x => by kernel_rfl

/-! ### spec.l6Place: function 271 -/
noncomputable def F.spec_l6Place (a0 : Int) (a1 : Int) : Option Bool :=
  (F.spec_l1In a0 0 4).bind fun r1 =>
  bif r1 then
    (F.spec_l1In a1 0 20).bind fun r2 =>
    some r2
  else
    some false
noncomputable def C.spec_l6Place : Con := ⟨[.r (.val (.int .i64)), .r (.val (.int .i64))], .one .bool, fun x => F.spec_l6Place x.1 x.2.1⟩
def L.spec_l6Place : Loops := fun _ => none
noncomputable def K.spec_l6Place : Cons := lookK [(136, [], C.spec_l1In)]
theorem run.spec_l6Place : ∀ x, runF tb K.spec_l6Place L.spec_l6Place [] Try.f271 C.spec_l6Place x = C.spec_l6Place.fn x := fun x => by kernel_rfl

/-! ### spec.SetOk: function 185 -/
noncomputable def F.spec_SetOk.s2 : ((List DSpan) × Int × Unit) → Option (Lp ((List DSpan) × Int × Unit) Bool) := fun (x1, x2, _) =>
  bif decide (x2 < (len x1)) then
    chk (inb x2 (List.length x1)) <|
    (F.spec_l1In ((List.getD x1 ((Int.toNat x2)) ((0, 0, ()))).1) 0 9999).bind fun r3 =>
    bif !r3 then
      some (.ret false)
    else
    chk (inb x2 (List.length x1)) <|
    chk (inb x2 (List.length x1)) <|
    (F.spec_l1In (((List.getD x1 ((Int.toNat x2)) ((0, 0, ()))).2).1) ((List.getD x1 ((Int.toNat x2)) ((0, 0, ()))).1) 9999).bind fun r4 =>
    bif !r4 then
      some (.ret false)
    else
    bif decide (x2 > 0) then
      chk (inb x2 (List.length x1)) <|
      chk (inb (w64 (x2 - 1)) (List.length x1)) <|
      bif decide (((List.getD x1 ((Int.toNat x2)) ((0, 0, ()))).1) ≤ (w64 ((((List.getD x1 ((Int.toNat (w64 (x2 - 1)))) ((0, 0, ()))).2).1) + 1))) then
        some (.ret false)
      else
        some (.again (x1, w64 (x2 + 1), ()))
    else
      some (.again (x1, w64 (x2 + 1), ()))
  else
    some (.exit (x1, x2, ()))
noncomputable def F.spec_SetOk (a0 : List DSpan) : Option Bool :=
  afterO (loopO F.spec_SetOk.s2 (a0, 0, ())) fun (x5, x6, _) =>
  some true
noncomputable def C.spec_SetOk : Con := ⟨[.r (.val (.sl false 175 y0))], .one .bool, fun x => F.spec_SetOk x.1⟩
def L.spec_SetOk : Loops := lookL [(2, ⟨[.pat 0 (.val (.sl false 175 y0)), .pat 3 (.val (.int .i64))], 0⟩)]
noncomputable def K.spec_SetOk : Cons := lookK [(136, [], C.spec_l1In)]
theorem run.spec_SetOk : ∀ x, runF tb K.spec_SetOk L.spec_SetOk [] Try.f185 C.spec_SetOk x = C.spec_SetOk.fn x := fun x => by kernel_rfl

/-! ### spec.l3List: function 198 -/
noncomputable def F.spec_l3List.s4 : ((List Int) × Int × Int × Bool × Int × Unit) → Option (Lp ((List Int) × Int × Int × Bool × Int × Unit) Bool) := fun (x1, x2, x3, x4, x5, _) =>
  bif decide (x5 < x2) then
    chk (inb x5 (List.length x1)) <|
    (F.spec_l1In (List.getD x1 ((Int.toNat x5)) 0) 0 x3).bind fun r6 =>
    bif !r6 then
      some (.ret false)
    else
    bif x4 then
      chk (inb x5 (List.length x1)) <|
      bif (List.getD x1 ((Int.toNat x5)) 0) != 0 then
        some (.ret false)
      else
        some (.again (x1, x2, x3, x4, w64 (x5 + 1), ()))
    else
      some (.again (x1, x2, x3, x4, w64 (x5 + 1), ()))
  else
    some (.exit (x1, x2, x3, x4, x5, ()))
noncomputable def F.spec_l3List (a0 : List Int) (a1 : Int) (a2 : Int) (a3 : Bool) : Option Bool :=
  bif (len a0) != a1 then
    some false
  else
  afterO (loopO F.spec_l3List.s4 (a0, a1, a2, a3, 0, ())) fun (x7, x8, x9, x10, x11, _) =>
  some true
noncomputable def C.spec_l3List : Con := ⟨[.r (.val (.sl false 3 (.int .i64))), .r (.val (.int .i64)), .r (.val (.int .i64)), .r (.val .bool)], .one .bool, fun x => F.spec_l3List x.1 x.2.1 x.2.2.1 x.2.2.2.1⟩
def L.spec_l3List : Loops := lookL [(4, ⟨[.pat 0 (.val (.sl false 3 (.int .i64))), .pat 1 (.val (.int .i64)), .pat 2 (.val (.int .i64)), .pat 3 (.val .bool), .pat 9 (.val (.int .i64))], 0⟩)]
noncomputable def K.spec_l3List : Cons := lookK [(136, [], C.spec_l1In)]
theorem run.spec_l3List : ∀ x, runF tb K.spec_l3List L.spec_l3List [] Try.f198 C.spec_l3List x = C.spec_l3List.fn x := fun x => by kernel_rfl

/-! ### spec.SketchOk: function 70 -/
noncomputable def F.spec_SketchOk (a0 : DSketch) : Option Bool :=
  (F.spec_l1In a0.1 0 1000000000).bind fun r1 =>
  bif !r1 then
    some false
  else
  (F.spec_l1In a0.2.1 0 1000000000).bind fun r2 =>
  bif !r2 then
    some false
  else
  (F.spec_l1In a0.2.2.1 0 1000000).bind fun r3 =>
  bif !r3 then
    some false
  else
  (F.spec_l1In a0.2.2.2.1 0 1000000).bind fun r4 =>
  bif !r4 then
    some false
  else
  bif decide (a0.2.2.1 > a0.2.2.2.1) then
    some false
  else
  bif (len a0.2.2.2.2.2.2.1) != 2 then
    some false
  else
  bif a0.1 == 0 then
    bif a0.2.1 != 0 then
      some false
    else
    bif a0.2.2.2.1 != 0 then
      some false
    else
    (F.spec_l3List a0.2.2.2.2.1 8 1000000000 (a0.1 == 0)).bind fun r5 =>
    bif r5 then
      (F.spec_l3List a0.2.2.2.2.2.1 8 17 (a0.1 == 0)).bind fun r6 =>
      bif r6 then
        chk (inb 0 (List.length a0.2.2.2.2.2.2.1)) <|
        (F.spec_l3List (List.getD a0.2.2.2.2.2.2.1 0 (([] : List Int))) 4 1000000000 (a0.1 == 0)).bind fun r7 =>
        bif r7 then
          chk (inb 1 (List.length a0.2.2.2.2.2.2.1)) <|
          (F.spec_l3List (List.getD a0.2.2.2.2.2.2.1 1 (([] : List Int))) 4 1000000000 (a0.1 == 0)).bind fun r8 =>
          some r8
        else
          some false
      else
        some false
    else
      some false
  else
  (F.spec_l3List a0.2.2.2.2.1 8 1000000000 (a0.1 == 0)).bind fun r9 =>
  bif r9 then
    (F.spec_l3List a0.2.2.2.2.2.1 8 17 (a0.1 == 0)).bind fun r10 =>
    bif r10 then
      chk (inb 0 (List.length a0.2.2.2.2.2.2.1)) <|
      (F.spec_l3List (List.getD a0.2.2.2.2.2.2.1 0 (([] : List Int))) 4 1000000000 (a0.1 == 0)).bind fun r11 =>
      bif r11 then
        chk (inb 1 (List.length a0.2.2.2.2.2.2.1)) <|
        (F.spec_l3List (List.getD a0.2.2.2.2.2.2.1 1 (([] : List Int))) 4 1000000000 (a0.1 == 0)).bind fun r12 =>
        some r12
      else
        some false
    else
      some false
  else
    some false
noncomputable def C.spec_SketchOk : Con := ⟨[.r (.val y1)], .one .bool, fun x => F.spec_SketchOk x.1⟩
def L.spec_SketchOk : Loops := fun _ => none
noncomputable def K.spec_SketchOk : Cons := lookK [(136, [], C.spec_l1In), (198, [], C.spec_l3List)]
theorem run.spec_SketchOk : ∀ x, runF tb K.spec_SketchOk L.spec_SketchOk [] Try.f70 C.spec_SketchOk x = C.spec_SketchOk.fn x := fun x => by kernel_rfl

/-! ### spec.EntryOk: function 230 -/
noncomputable def F.spec_EntryOk (a0 : DEntry) : Option Bool :=
  (F.spec_l6Place a0.1 a0.2.1).bind fun r1 =>
  bif r1 then
    bif decide ((len a0.2.2.1) > 0) then
      (F.spec_SetOk a0.2.2.1).bind fun r2 =>
      bif r2 then
        (F.spec_SketchOk a0.2.2.2.1).bind fun r3 =>
        some r3
      else
        some false
    else
      some false
  else
    some false
noncomputable def C.spec_EntryOk : Con := ⟨[.r (.val y5)], .one .bool, fun x => F.spec_EntryOk x.1⟩
def L.spec_EntryOk : Loops := fun _ => none
noncomputable def K.spec_EntryOk : Cons := lookK [(70, [], C.spec_SketchOk), (185, [], C.spec_SetOk), (271, [], C.spec_l6Place)]
theorem run.spec_EntryOk : ∀ x, runF tb K.spec_EntryOk L.spec_EntryOk [] Try.f230 C.spec_EntryOk x = C.spec_EntryOk.fn x := fun x => by kernel_rfl

/-! ### spec.SetApart: function 231 -/
noncomputable def F.spec_SetApart.s7 : ((List DSpan) × (List DSpan) × Int × Int × Unit) → Option (Lp ((List DSpan) × (List DSpan) × Int × Int × Unit) (Lp ((List DSpan) × (List DSpan) × Int × Unit) Bool)) := fun (x6, x7, x8, x9, _) =>
  bif decide (x9 < (len x7)) then
    chk (inb x8 (List.length x6)) <|
    chk (inb x9 (List.length x7)) <|
    bif decide (((List.getD x6 ((Int.toNat x8)) ((0, 0, ()))).1) ≤ (((List.getD x7 ((Int.toNat x9)) ((0, 0, ()))).2).1)) then
      chk (inb x9 (List.length x7)) <|
      chk (inb x8 (List.length x6)) <|
      bif decide (((List.getD x7 ((Int.toNat x9)) ((0, 0, ()))).1) ≤ (((List.getD x6 ((Int.toNat x8)) ((0, 0, ()))).2).1)) then
        some (.ret (.ret false))
      else
        some (.again (x6, x7, x8, w64 (x9 + 1), ()))
    else
      some (.again (x6, x7, x8, w64 (x9 + 1), ()))
  else
    some (.exit (x6, x7, x8, x9, ()))
noncomputable def F.spec_SetApart.s4 : ((List DSpan) × (List DSpan) × Int × Unit) → Option (Lp ((List DSpan) × (List DSpan) × Int × Unit) Bool) := fun (x3, x4, x5, _) =>
  bif decide (x5 < (len x3)) then
    afterO (loopO F.spec_SetApart.s7 (x3, x4, x5, 0, ())) fun (x10, x11, x12, x13, _) =>
    some (.again (x10, x11, w64 (x12 + 1), ()))
  else
    some (.exit (x3, x4, x5, ()))
noncomputable def F.spec_SetApart (a0 : List DSpan) (a1 : List DSpan) : Option Bool :=
  (F.spec_SetOk a0).bind fun r1 =>
  bif !r1 then
    some false
  else
  (F.spec_SetOk a1).bind fun r2 =>
  bif !r2 then
    some false
  else
  afterO (loopO F.spec_SetApart.s4 (a0, a1, 0, ())) fun (x14, x15, x16, _) =>
  some true
noncomputable def C.spec_SetApart : Con := ⟨[.r (.val (.sl false 175 y0)), .r (.val (.sl false 175 y0))], .one .bool, fun x => F.spec_SetApart x.1 x.2.1⟩
def L.spec_SetApart : Loops := lookL [(7, ⟨[.pat 0 (.val (.sl false 175 y0)), .pat 1 (.val (.sl false 175 y0)), .pat 5 (.val (.int .i64)), .pat 6 (.val (.int .i64))], 2⟩), (4, ⟨[.pat 0 (.val (.sl false 175 y0)), .pat 1 (.val (.sl false 175 y0)), .pat 5 (.val (.int .i64))], 0⟩)]
noncomputable def K.spec_SetApart : Cons := lookK [(185, [], C.spec_SetOk)]
theorem run.spec_SetApart : ∀ x, runF tb K.spec_SetApart L.spec_SetApart [] Try.f231 C.spec_SetApart x = C.spec_SetApart.fn x := fun x => by kernel_rfl

/-! ### spec.RowOk: function 93 -/
noncomputable def F.spec_RowOk.s9 : (Int × Int × DRow × Unit) → Option (Lp (Int × Int × DRow × Unit) (Lp (Int × DRow × Unit) Bool)) := fun (x4, x5, x6, _) =>
  bif decide (x5 < x4) then
    chk (inb x4 (List.length x6.1)) <|
    chk (inb x5 (List.length x6.1)) <|
    (F.spec_SetApart ((((List.getD x6.1 ((Int.toNat x4)) ((0, 0, ([] : List DSpan), (0, 0, 0, 0, ([] : List Int), ([] : List Int), ([] : List (List Int)), ()), ()))).2).2).1) ((((List.getD x6.1 ((Int.toNat x5)) ((0, 0, ([] : List DSpan), (0, 0, 0, 0, ([] : List Int), ([] : List Int), ([] : List (List Int)), ()), ()))).2).2).1)).bind fun r7 =>
    bif !r7 then
      some (.ret (.ret false))
    else
      some (.again (x4, w64 (x5 + 1), x6, ()))
  else
    some (.exit (x4, x5, x6, ()))
noncomputable def F.spec_RowOk.s4 : (Int × DRow × Unit) → Option (Lp (Int × DRow × Unit) Bool) := fun (x1, x2, _) =>
  bif decide (x1 < (len x2.1)) then
    chk (inb x1 (List.length x2.1)) <|
    (F.spec_EntryOk (List.getD x2.1 ((Int.toNat x1)) ((0, 0, ([] : List DSpan), (0, 0, 0, 0, ([] : List Int), ([] : List Int), ([] : List (List Int)), ()), ())))).bind fun r3 =>
    bif !r3 then
      some (.ret false)
    else
    afterO (loopO F.spec_RowOk.s9 (x1, 0, x2, ())) fun (x8, x9, x10, _) =>
    some (.again (w64 (x8 + 1), x10, ()))
  else
    some (.exit (x1, x2, ()))
noncomputable def F.spec_RowOk (a0 : DRow) : Option Bool :=
  bif decide ((len a0.1) > 24) then
    some false
  else
  afterO (loopO F.spec_RowOk.s4 (0, a0, ())) fun (x11, x12, _) =>
  some true
noncomputable def C.spec_RowOk : Con := ⟨[.r (.val (.cons (.sl false 32 y5) .nil))], .one .bool, fun x => F.spec_RowOk x.1⟩
def L.spec_RowOk : Loops := lookL [(9, ⟨[.pat 3 (.val (.int .i64)), .pat 4 (.val (.int .i64)), .root 1 true (.cons (.sl false 32 y5) .nil) [1]], 2⟩), (4, ⟨[.pat 3 (.val (.int .i64)), .root 1 true (.cons (.sl false 32 y5) .nil) [1]], 0⟩)]
noncomputable def K.spec_RowOk : Cons := lookK [(230, [], C.spec_EntryOk), (231, [], C.spec_SetApart)]
theorem run.spec_RowOk : ∀ x, runF tb K.spec_RowOk L.spec_RowOk [] Try.f93 C.spec_RowOk x = C.spec_RowOk.fn x := fun x => by kernel_rfl

/-! ### laws.szItem: function 237 -/
noncomputable def F.laws_szItem (a0 : DItem) (a1 : Int) : Option Int :=
  (F.laws_szSketch a0.2.2.2.2.1 a1).bind fun r1 =>
  bif decide (r1 < 0) then
    some (-1)
  else
    some r1
noncomputable def C.laws_szItem : Con := ⟨[.r (.val y6), .r (.val (.int .i64))], .one (.int .i64), fun x => F.laws_szItem x.1 x.2.1⟩
def L.laws_szItem : Loops := fun _ => none
noncomputable def K.laws_szItem : Cons := lookK [(25, [], C.laws_szSketch)]
theorem run.laws_szItem : ∀ x, runF tb K.laws_szItem L.laws_szItem [] Try.f237 C.laws_szItem x = C.laws_szItem.fn x := fun x => by kernel_rfl

/-! ### laws.szItemS: function 101 -/
noncomputable def F.laws_szItemS.s5 : ((List DItem) × Int × Int × Unit) → Option (Lp ((List DItem) × Int × Int × Unit) Int) := fun (x1, x2, x3, _) =>
  bif decide (x3 < (len x1)) then
    chk (inb x3 (List.length x1)) <|
    (F.laws_szItem (List.getD x1 ((Int.toNat x3)) ((0, 0, 0, 0, (0, 0, 0, 0, ([] : List Int), ([] : List Int), ([] : List (List Int)), ()), ()))) x2).bind fun r4 =>
    bif decide (r4 < 0) then
      some (.ret (-1))
    else
      some (.again (x1, r4, w64 (x3 + 1), ()))
  else
    some (.exit (x1, x2, x3, ()))
noncomputable def F.laws_szItemS (a0 : List DItem) (a1 : Int) : Option Int :=
  bif decide ((w64 (a1 - (len a0))) < 0) then
    some (-1)
  else
  afterO (loopO F.laws_szItemS.s5 (a0, w64 (a1 - (len a0)), 0, ())) fun (x5, x6, x7, _) =>
  some x6
noncomputable def C.laws_szItemS : Con := ⟨[.r (.val (.sl false 248 y6)), .r (.val (.int .i64))], .one (.int .i64), fun x => F.laws_szItemS x.1 x.2.1⟩
def L.laws_szItemS : Loops := lookL [(5, ⟨[.pat 0 (.val (.sl false 248 y6)), .pat 1 (.val (.int .i64)), .pat 5 (.val (.int .i64))], 0⟩)]
noncomputable def K.laws_szItemS : Cons := lookK [(237, [], C.laws_szItem)]
theorem run.laws_szItemS : ∀ x, runF tb K.laws_szItemS L.laws_szItemS [] Try.f101 C.laws_szItemS x = C.laws_szItemS.fn x := fun x => by kernel_rfl

/-! ### laws.szAgent: function 24 -/
noncomputable def F.laws_szAgent (a0 : DAgent) (a1 : Int) : Option Int :=
  (F.laws_szItemS a0.2.2.2.2.1 a1).bind fun r1 =>
  bif decide (r1 < 0) then
    some (-1)
  else
  (F.laws_szSpanS a0.2.2.2.2.2.1 r1).bind fun r2 =>
  bif decide (r2 < 0) then
    some (-1)
  else
    some r2
noncomputable def C.laws_szAgent : Con := ⟨[.r (.val y7), .r (.val (.int .i64))], .one (.int .i64), fun x => F.laws_szAgent x.1 x.2.1⟩
def L.laws_szAgent : Loops := fun _ => none
noncomputable def K.laws_szAgent : Cons := lookK [(101, [], C.laws_szItemS), (102, [], C.laws_szSpanS)]
theorem run.laws_szAgent : ∀ x, runF tb K.laws_szAgent L.laws_szAgent [] Try.f24 C.laws_szAgent x = C.laws_szAgent.fn x := fun x => by kernel_rfl

/-! ### laws.toItem: function 239 -/
noncomputable def F.laws_toItem (a0 : DItem) : Option DItem :=
  (F.laws_toSketch a0.2.2.2.2.1).bind fun r1 =>
  some (a0.1, a0.2.1, a0.2.2.1, a0.2.2.2.1, r1, ())
noncomputable def C.laws_toItem : Con := ⟨[.r (.val y6)], .one y8, fun x => F.laws_toItem x.1⟩
def L.laws_toItem : Loops := fun _ => none
noncomputable def K.laws_toItem : Cons := lookK [(28, [], C.laws_toSketch)]
theorem run.laws_toItem : ∀ x, runF tb K.laws_toItem L.laws_toItem [] Try.f239 C.laws_toItem x = C.laws_toItem.fn x := fun x => by kernel_rfl

/-! ### laws.toItemS: function 108 -/
noncomputable def F.laws_toItemS.s3 : ((List DItem) × (List DItem) × Int × Unit) → Option (Lp ((List DItem) × (List DItem) × Int × Unit) ((List DItem))) := fun (x1, x2, x3, _) =>
  bif decide (x3 < (len x1)) then
    chk (inb x3 (List.length x1)) <|
    (F.laws_toItem (List.getD x1 ((Int.toNat x3)) ((0, 0, 0, 0, (0, 0, 0, 0, ([] : List Int), ([] : List Int), ([] : List (List Int)), ()), ())))).bind fun r4 =>
    chk (inb x3 (List.length x2)) <|
    some (.again (x1, List.set x2 ((Int.toNat x3)) r4, w64 (x3 + 1), ()))
  else
    some (.exit (x1, x2, x3, ()))
noncomputable def F.laws_toItemS (a0 : List DItem) : Option ((List DItem)) :=
  chk (mk 136 (len a0) (len a0)) <|
  afterO (loopO F.laws_toItemS.s3 (a0, List.replicate (Int.toNat (len a0)) ((0, 0, 0, 0, (0, 0, 0, 0, ([] : List Int), ([] : List Int), ([] : List (List Int)), ()), ())), 0, ())) fun (x5, x6, x7, _) =>
  some x6
noncomputable def C.laws_toItemS : Con := ⟨[.r (.val (.sl false 248 y6))], .one (.sl true 96 y8), fun x => F.laws_toItemS x.1⟩
def L.laws_toItemS : Loops := lookL [(3, ⟨[.pat 0 (.val (.sl false 248 y6)), .own 3 (.sl true 96 y8), .pat 4 (.val (.int .i64))], 0⟩)]
noncomputable def K.laws_toItemS : Cons := lookK [(239, [], C.laws_toItem)]
theorem run.laws_toItemS : ∀ x, runF tb K.laws_toItemS L.laws_toItemS [] Try.f108 C.laws_toItemS x = C.laws_toItemS.fn x := fun x => by kernel_rfl

/-! ### laws.toAgent: function 27 -/
noncomputable def F.laws_toAgent (a0 : DAgent) : Option DAgent :=
  (F.laws_toItemS a0.2.2.2.2.1).bind fun r1 =>
  (F.laws_toSpanS a0.2.2.2.2.2.1).bind fun r2 =>
  some (a0.1, a0.2.1, a0.2.2.1, a0.2.2.2.1, r1, r2, a0.2.2.2.2.2.2.1, ())
noncomputable def C.laws_toAgent : Con := ⟨[.r (.val y7)], .one y9, fun x => F.laws_toAgent x.1⟩
def L.laws_toAgent : Loops := fun _ => none
noncomputable def K.laws_toAgent : Cons := lookK [(108, [], C.laws_toItemS), (109, [], C.laws_toSpanS)]
theorem run.laws_toAgent : ∀ x, runF tb K.laws_toAgent L.laws_toAgent [] Try.f27 C.laws_toAgent x = C.laws_toAgent.fn x := fun x => by kernel_rfl

/-! ### spec.l6Agent: function 184 -/
noncomputable def F.spec_l6Agent (a0 : Int) : Option Bool :=
  (F.spec_l1In a0 0 2).bind fun r1 =>
  some r1
noncomputable def C.spec_l6Agent : Con := ⟨[.r (.val (.int .i64))], .one .bool, fun x => F.spec_l6Agent x.1⟩
def L.spec_l6Agent : Loops := fun _ => none
noncomputable def K.spec_l6Agent : Cons := lookK [(136, [], C.spec_l1In)]
theorem run.spec_l6Agent : ∀ x, runF tb K.spec_l6Agent L.spec_l6Agent [] Try.f184 C.spec_l6Agent x = C.spec_l6Agent.fn x := fun x => by kernel_rfl

/-! ### spec.l8Below: function 223 -/
noncomputable def F.spec_l8Below.s4 : ((List DSpan) × Int × Int × Unit) → Option (Lp ((List DSpan) × Int × Int × Unit) Bool) := fun (x2, x3, x4, _) =>
  bif decide (x4 < (len x2)) then
    chk (inb x4 (List.length x2)) <|
    bif decide (((List.getD x2 ((Int.toNat x4)) ((0, 0, ()))).1) < 1) then
      some (.ret false)
    else
    chk (inb x4 (List.length x2)) <|
    bif decide ((((List.getD x2 ((Int.toNat x4)) ((0, 0, ()))).2).1) > x3) then
      some (.ret false)
    else
      some (.again (x2, x3, w64 (x4 + 1), ()))
  else
    some (.exit (x2, x3, x4, ()))
noncomputable def F.spec_l8Below (a0 : List DSpan) (a1 : Int) : Option Bool :=
  (F.spec_SetOk a0).bind fun r1 =>
  bif !r1 then
    some false
  else
  afterO (loopO F.spec_l8Below.s4 (a0, a1, 0, ())) fun (x5, x6, x7, _) =>
  some true
noncomputable def C.spec_l8Below : Con := ⟨[.r (.val (.sl false 175 y0)), .r (.val (.int .i64))], .one .bool, fun x => F.spec_l8Below x.1 x.2.1⟩
def L.spec_l8Below : Loops := lookL [(4, ⟨[.pat 0 (.val (.sl false 175 y0)), .pat 1 (.val (.int .i64)), .pat 5 (.val (.int .i64))], 0⟩)]
noncomputable def K.spec_l8Below : Cons := lookK [(185, [], C.spec_SetOk)]
theorem run.spec_l8Below : ∀ x, runF tb K.spec_l8Below L.spec_l8Below [] Try.f223 C.spec_l8Below x = C.spec_l8Below.fn x := fun x => by kernel_rfl

/-! ### spec.ItemOk: function 186 -/
noncomputable def F.spec_ItemOk (a0 : DItem) : Option Bool :=
  (F.spec_l1In a0.1 1 60).bind fun r1 =>
  bif r1 then
    (F.spec_l1In a0.2.1 0 1).bind fun r2 =>
    bif r2 then
      (F.spec_l6Place a0.2.2.1 a0.2.2.2.1).bind fun r3 =>
      bif r3 then
        (F.spec_SketchOk a0.2.2.2.2.1).bind fun r4 =>
        some r4
      else
        some false
    else
      some false
  else
    some false
noncomputable def C.spec_ItemOk : Con := ⟨[.r (.val y6)], .one .bool, fun x => F.spec_ItemOk x.1⟩
def L.spec_ItemOk : Loops := fun _ => none
noncomputable def K.spec_ItemOk : Cons := lookK [(70, [], C.spec_SketchOk), (136, [], C.spec_l1In), (271, [], C.spec_l6Place)]
theorem run.spec_ItemOk : ∀ x, runF tb K.spec_ItemOk L.spec_ItemOk [] Try.f186 C.spec_ItemOk x = C.spec_ItemOk.fn x := fun x => by kernel_rfl

/-! ### spec.AgentOk: function 105 -/
noncomputable def F.spec_AgentOk.s4 : (Int × DAgent × Unit) → Option (Lp (Int × DAgent × Unit) Bool) := fun (x6, x7, _) =>
  bif decide (x6 < (len x7.2.2.2.2.1)) then
    chk (inb x6 (List.length x7.2.2.2.2.1)) <|
    (F.spec_ItemOk (List.getD x7.2.2.2.2.1 ((Int.toNat x6)) ((0, 0, 0, 0, (0, 0, 0, 0, ([] : List Int), ([] : List Int), ([] : List (List Int)), ()), ())))).bind fun r8 =>
    bif !r8 then
      some (.ret false)
    else
    chk (inb x6 (List.length x7.2.2.2.2.1)) <|
    bif ((List.getD x7.2.2.2.2.1 ((Int.toNat x6)) ((0, 0, 0, 0, (0, 0, 0, 0, ([] : List Int), ([] : List Int), ([] : List (List Int)), ()), ()))).1) != (w64 (x6 + 1)) then
      some (.ret false)
    else
      some (.again (w64 (x6 + 1), x7, ()))
  else
    some (.exit (x6, x7, ()))
noncomputable def F.spec_AgentOk (a0 : DAgent) : Option Bool :=
  (F.spec_l6Agent a0.1).bind fun r1 =>
  bif !r1 then
    some false
  else
  (F.spec_l1In a0.2.1 0 1000).bind fun r2 =>
  bif !r2 then
    some false
  else
  (F.spec_l1In a0.2.2.2.1 0 60).bind fun r3 =>
  bif !r3 then
    some false
  else
  bif decide ((len a0.2.2.2.2.1) > 60) then
    some false
  else
  (F.spec_l1In a0.2.2.2.2.2.2.1 0 60).bind fun r4 =>
  bif !r4 then
    some false
  else
  (F.spec_l8Below a0.2.2.2.2.2.1 (len a0.2.2.2.2.1)).bind fun r5 =>
  bif !r5 then
    some false
  else
  bif !a0.2.2.1 then
    bif decide (a0.2.2.2.1 > 0) then
      some false
    else
    afterO (loopO F.spec_AgentOk.s4 (0, a0, ())) fun (x9, x10, _) =>
    some true
  else
  afterO (loopO F.spec_AgentOk.s4 (0, a0, ())) fun (x14, x15, _) =>
  some true
noncomputable def C.spec_AgentOk : Con := ⟨[.r (.val y10)], .one .bool, fun x => F.spec_AgentOk x.1⟩
def L.spec_AgentOk : Loops := lookL [(4, ⟨[.pat 3 (.val (.int .i64)), .root 1 true y10 [1]], 0⟩)]
noncomputable def K.spec_AgentOk : Cons := lookK [(136, [], C.spec_l1In), (184, [], C.spec_l6Agent), (186, [], C.spec_ItemOk), (223, [], C.spec_l8Below)]
theorem run.spec_AgentOk : ∀ x, runF tb K.spec_AgentOk L.spec_AgentOk [] Try.f105 C.spec_AgentOk x = C.spec_AgentOk.fn x := fun x => by kernel_rfl

/-! ### spec.l6Item: function 157 -/
noncomputable def F.spec_l6Item (a0 : DItem) : Option DItem :=
  (F.spec_l3Copy a0.2.2.2.2.1).bind fun r1 =>
  some (a0.1, a0.2.1, a0.2.2.1, a0.2.2.2.1, r1, a0.2.2.2.2.2)
noncomputable def C.spec_l6Item : Con := ⟨[.r (.val y6)], .one y8, fun x => F.spec_l6Item x.1⟩
def L.spec_l6Item : Loops := fun _ => none
noncomputable def K.spec_l6Item : Cons := lookK [(107, [], C.spec_l3Copy)]
theorem run.spec_l6Item : ∀ x, runF tb K.spec_l6Item L.spec_l6Item [] Try.f157 C.spec_l6Item x = C.spec_l6Item.fn x := fun x => by kernel_rfl

/-! ### spec.l8Copy: function 106 -/
noncomputable def F.spec_l8Copy.s5 : (Int × DAgent × DAgent × DAgent × Unit) → Option (Lp (Int × DAgent × DAgent × DAgent × Unit) DAgent) := fun (x2, x3, x4, x5, _) =>
  bif decide (x2 < (len x3.2.2.2.2.1)) then
    chk (inb x2 (List.length x3.2.2.2.2.1)) <|
    (F.spec_l6Item (List.getD x3.2.2.2.2.1 ((Int.toNat x2)) ((0, 0, 0, 0, (0, 0, 0, 0, ([] : List Int), ([] : List Int), ([] : List (List Int)), ()), ())))).bind fun r6 =>
    chk (fits (List.length x5.2.2.2.2.1 + List.length ([r6])) 136) <|
    some (.again (w64 (x2 + 1), x3, x4, (x5.1, x5.2.1, x5.2.2.1, x5.2.2.2.1, x5.2.2.2.2.1 ++ ([r6]), x5.2.2.2.2.2), ()))
  else
    some (.exit (x2, x3, x4, x5, ()))
noncomputable def F.spec_l8Copy (a0 : DAgent) : Option DAgent :=
  (F.spec_l5Copy a0.2.2.2.2.2.1).bind fun r1 =>
  afterO (loopO F.spec_l8Copy.s5 (0, a0, (0, 0, false, 0, ([] : List DItem), ([] : List DSpan), 0, ()), (a0.1, a0.2.1, a0.2.2.1, a0.2.2.2.1, ([] : List DItem), r1, a0.2.2.2.2.2.2), ())) fun (x7, x8, x9, x10, _) =>
  some x10
noncomputable def C.spec_l8Copy : Con := ⟨[.r (.val y10)], .one y9, fun x => F.spec_l8Copy x.1⟩
def L.spec_l8Copy : Loops := lookL [(5, ⟨[.pat 4 (.val (.int .i64)), .root 1 true y10 [1], .root 2 true y9 [2], .root 3 true y9 [3]], 0⟩)]
noncomputable def K.spec_l8Copy : Cons := lookK [(157, [], C.spec_l6Item), (238, [], C.spec_l5Copy)]
theorem run.spec_l8Copy : ∀ x, runF tb K.spec_l8Copy L.spec_l8Copy [] Try.f106 C.spec_l8Copy x = C.spec_l8Copy.fn x := fun x => by kernel_rfl

/-! ### spec.Seal: function 26 -/
noncomputable def F.spec_Seal (a0 : DAgent) (a1 : Int) (a2 : Int) (a3 : Int) (a4 : DSketch) : Option (DAgent × Int) :=
  (F.spec_AgentOk a0).bind fun r1 =>
  bif !r1 then
    (F.spec_l8Copy a0).bind fun r2 =>
    some (r2, 0)
  else
  (F.spec_l8Copy a0).bind fun r3 =>
  (F.spec_l3Copy a4).bind fun r4 =>
  chk (fits (List.length r3.2.2.2.2.1 + List.length ([(w64 ((len a0.2.2.2.2.1) + 1), a1, a2, a3, r4, ())])) 136) <|
  (F.spec_AgentOk ((r3.1, r3.2.1, r3.2.2.1, r3.2.2.2.1, r3.2.2.2.2.1 ++ ([(w64 ((len a0.2.2.2.2.1) + 1), a1, a2, a3, r4, ())]), r3.2.2.2.2.2))).bind fun r5 =>
  bif !r5 then
    (F.spec_l8Copy a0).bind fun r6 =>
    some (r6, 0)
  else
    some ((r3.1, r3.2.1, r3.2.2.1, r3.2.2.2.1, r3.2.2.2.2.1 ++ ([(w64 ((len a0.2.2.2.2.1) + 1), a1, a2, a3, r4, ())]), r3.2.2.2.2.2), len (r3.2.2.2.2.1 ++ ([(w64 ((len a0.2.2.2.2.1) + 1), a1, a2, a3, r4, ())])))
noncomputable def C.spec_Seal : Con := ⟨[.r (.val y10), .r (.val (.int .i64)), .r (.val (.int .i64)), .r (.val (.int .i64)), .r (.val y1)], .many [y10, (.int .i64)], fun x => F.spec_Seal x.1 x.2.1 x.2.2.1 x.2.2.2.1 x.2.2.2.2.1⟩
def L.spec_Seal : Loops := lookL [(1000007, ⟨[.root 10 true y9 [10], .root 12 true y10 [12]], 0⟩)]
noncomputable def K.spec_Seal : Cons := lookK [(105, [], C.spec_AgentOk), (106, [], C.spec_l8Copy), (107, [], C.spec_l3Copy)]
theorem run.spec_Seal : ∀ x, runF tb K.spec_Seal L.spec_Seal [] Try.f26 C.spec_Seal x = C.spec_Seal.fn x := fun x => by kernel_rfl

/-! ### impl.within: function 142 -/
noncomputable def F.impl_within (a0 : Int) (a1 : Int) (a2 : Int) : Option Bool :=
  bif decide (a0 ≥ a1) then
    some (decide (a0 ≤ a2))
  else
    some false
noncomputable def C.impl_within : Con := ⟨[.r (.val (.int .i64)), .r (.val (.int .i64)), .r (.val (.int .i64))], .one .bool, fun x => F.impl_within x.1 x.2.1 x.2.2.1⟩
def L.impl_within : Loops := fun _ => none
noncomputable def K.impl_within : Cons := lookK []
theorem run.impl_within : ∀ x, runF tb K.impl_within L.impl_within [] Try.f142 C.impl_within x = C.impl_within.fn x := fun x => by kernel_rfl

/-! ### impl.copyInts: function 242 -/
noncomputable def F.impl_copyInts (a0 : List Int) : Option ((List Int)) :=
  chk (fits (List.length a0) 8) <|
  some a0
noncomputable def C.impl_copyInts : Con := ⟨[.r (.val (.sl false 3 (.int .i64)))], .one (.sl true 3 (.int .i64)), fun x => F.impl_copyInts x.1⟩
def L.impl_copyInts : Loops := fun _ => none
noncomputable def K.impl_copyInts : Cons := lookK []
theorem run.impl_copyInts : ∀ x, runF tb K.impl_copyInts L.impl_copyInts [] Try.f242 C.impl_copyInts x = C.impl_copyInts.fn x := fun x => by kernel_rfl

/-! ### impl.counts: function 194 -/
noncomputable def F.impl_counts.s3 : ((List Int) × (List (List Int)) × Int × Int × Unit) → Option (Lp ((List Int) × (List (List Int)) × Int × Int × Unit) ((List Int))) := fun (x2, x3, x4, x5, _) =>
  bif decide (x5 < x4) then
    chk (inb x5 (List.length x3)) <|
    chk (fits (List.length x2 + List.length (List.getD x3 ((Int.toNat x5)) (([] : List Int)))) 8) <|
    some (.again (x2 ++ (List.getD x3 ((Int.toNat x5)) (([] : List Int))), x3, x4, w64 (x5 + 1), ()))
  else
    some (.exit (x2, x3, x4, x5, ()))
noncomputable def F.impl_counts (a0 : DSketch) : Option ((List Int)) :=
  (F.impl_copyInts a0.2.2.2.2.1).bind fun r1 =>
  chk (fits (List.length r1 + List.length a0.2.2.2.2.2.1) 8) <|
  afterO (loopO F.impl_counts.s3 (r1 ++ a0.2.2.2.2.2.1, a0.2.2.2.2.2.2.1, len a0.2.2.2.2.2.2.1, 0, ())) fun (x6, x7, x8, x9, _) =>
  some x6
noncomputable def C.impl_counts : Con := ⟨[.r (.val y1)], .one (.sl true 3 (.int .i64)), fun x => F.impl_counts x.1⟩
def L.impl_counts : Loops := lookL [(3, ⟨[.own 3 (.sl true 3 (.int .i64)), .pat 13 (.val (.sl false 27 (.sl false 3 (.int .i64)))), .pat 14 (.val (.int .i64)), .pat 15 (.val (.int .i64))], 0⟩)]
noncomputable def K.impl_counts : Cons := lookK [(242, [], C.impl_copyInts)]
theorem run.impl_counts : ∀ x, runF tb K.impl_counts L.impl_counts [] Try.f194 C.impl_counts x = C.impl_counts.fn x := fun x => by kernel_rfl

/-! ### impl.SketchOk: function 193 -/
noncomputable def F.impl_SketchOk.s5 : (Int × (List Int) × Int × Int × DSketch × Unit) → Option (Lp (Int × (List Int) × Int × Int × DSketch × Unit) Bool) := fun (x2, x3, x4, x5, x6, _) =>
  bif decide (x5 < x4) then
    chk (inb x5 (List.length x3)) <|
    (F.impl_within (List.getD x3 ((Int.toNat x5)) 0) 0 1000000000).bind fun r7 =>
    bif !r7 then
      some (.ret false)
    else
      some (.again (w64 (x2 + (List.getD x3 ((Int.toNat x5)) 0)), x3, x4, w64 (x5 + 1), x6, ()))
  else
    some (.exit (x2, x3, x4, x5, x6, ()))
noncomputable def F.impl_SketchOk.s12 : (Int × (List Int) × Int × Int × DSketch × Unit) → Option (Lp (Int × (List Int) × Int × Int × DSketch × Unit) Bool) := fun (x13, x14, x15, x16, x17, _) =>
  bif decide (x16 < x15) then
    chk (inb x16 (List.length x14)) <|
    bif decide ((List.getD x14 ((Int.toNat x16)) 0) > 17) then
      some (.ret false)
    else
      some (.again (x13, x14, x15, w64 (x16 + 1), x17, ()))
  else
    some (.exit (x13, x14, x15, x16, x17, ()))
noncomputable def F.impl_SketchOk (a0 : DSketch) : Option Bool :=
  bif (len a0.2.2.2.2.1) != 8 then
    some false
  else
  bif (len a0.2.2.2.2.2.1) != 8 then
    some false
  else
  bif (len a0.2.2.2.2.2.2.1) != 2 then
    some false
  else
  chk (inb 0 (List.length a0.2.2.2.2.2.2.1)) <|
  bif (len (List.getD a0.2.2.2.2.2.2.1 0 (([] : List Int)))) != 4 then
    some false
  else
  chk (inb 1 (List.length a0.2.2.2.2.2.2.1)) <|
  bif (len (List.getD a0.2.2.2.2.2.2.1 1 (([] : List Int)))) != 4 then
    some false
  else
  (F.impl_counts a0).bind fun r1 =>
  chk (fits (List.length r1 + List.length ([a0.1, a0.2.1, a0.2.2.1, a0.2.2.2.1])) 8) <|
  afterO (loopO F.impl_SketchOk.s5 (0, r1 ++ ([a0.1, a0.2.1, a0.2.2.1, a0.2.2.2.1]), len (r1 ++ ([a0.1, a0.2.1, a0.2.2.1, a0.2.2.2.1])), 0, a0, ())) fun (x8, x9, x10, x11, x12, _) =>
  afterO (loopO F.impl_SketchOk.s12 (x8, x12.2.2.2.2.2.1, len x12.2.2.2.2.2.1, 0, x12, ())) fun (x18, x19, x20, x21, x22, _) =>
  bif x22.1 == 0 then
    some (x18 == 0)
  else
  bif decide (x22.2.2.1 ≤ x22.2.2.2.1) then
    some (decide (x22.2.2.2.1 ≤ 1000000))
  else
    some false
noncomputable def C.impl_SketchOk : Con := ⟨[.r (.val y1)], .one .bool, fun x => F.impl_SketchOk x.1⟩
def L.impl_SketchOk : Loops := lookL [(5, ⟨[.pat 3 (.val (.int .i64)), .own 51 (.sl true 3 (.int .i64)), .pat 52 (.val (.int .i64)), .pat 53 (.val (.int .i64)), .root 1 true y1 [1]], 0⟩), (12, ⟨[.pat 3 (.val (.int .i64)), .pat 65 (.val (.sl false 3 (.int .i64))), .pat 66 (.val (.int .i64)), .pat 67 (.val (.int .i64)), .root 1 true y1 [1]], 2⟩)]
noncomputable def K.impl_SketchOk : Cons := lookK [(142, [], C.impl_within), (194, [], C.impl_counts)]
theorem run.impl_SketchOk : ∀ x, runF tb K.impl_SketchOk L.impl_SketchOk [] Try.f193 C.impl_SketchOk x = C.impl_SketchOk.fn x := fun x => by kernel_rfl

/-! ### impl.ItemOk: function 227 -/
noncomputable def F.impl_ItemOk (a0 : DItem) : Option Bool :=
  (F.impl_within a0.1 1 60).bind fun r1 =>
  bif r1 then
    (F.impl_within a0.2.1 0 1).bind fun r2 =>
    bif r2 then
      (F.impl_within a0.2.2.1 0 4).bind fun r3 =>
      bif r3 then
        (F.impl_within a0.2.2.2.1 0 20).bind fun r4 =>
        bif r4 then
          (F.impl_SketchOk a0.2.2.2.2.1).bind fun r5 =>
          some r5
        else
          some false
      else
        some false
    else
      some false
  else
    some false
noncomputable def C.impl_ItemOk : Con := ⟨[.r (.val y6)], .one .bool, fun x => F.impl_ItemOk x.1⟩
def L.impl_ItemOk : Loops := fun _ => none
noncomputable def K.impl_ItemOk : Cons := lookK [(142, [], C.impl_within), (193, [], C.impl_SketchOk)]
theorem run.impl_ItemOk : ∀ x, runF tb K.impl_ItemOk L.impl_ItemOk [] Try.f227 C.impl_ItemOk x = C.impl_ItemOk.fn x := fun x => by kernel_rfl

/-! ### impl.SetOk: function 257 -/
noncomputable def F.impl_SetOk.s2 : ((List DSpan) × (List DSpan) × Int × Int × Unit) → Option (Lp ((List DSpan) × (List DSpan) × Int × Int × Unit) Bool) := fun (x1, x2, x3, x4, _) =>
  bif decide (x4 < x3) then
    chk (inb x4 (List.length x2)) <|
    (F.impl_within ((List.getD x2 ((Int.toNat x4)) ((0, 0, ()))).1) 0 9999).bind fun r5 =>
    bif !r5 then
      some (.ret false)
    else
    (F.impl_within (((List.getD x2 ((Int.toNat x4)) ((0, 0, ()))).2).1) ((List.getD x2 ((Int.toNat x4)) ((0, 0, ()))).1) 9999).bind fun r6 =>
    bif !r6 then
      some (.ret false)
    else
    bif decide (x4 > 0) then
      chk (inb (w64 (x4 - 1)) (List.length x1)) <|
      bif decide (((List.getD x2 ((Int.toNat x4)) ((0, 0, ()))).1) ≤ (w64 ((((List.getD x1 ((Int.toNat (w64 (x4 - 1)))) ((0, 0, ()))).2).1) + 1))) then
        some (.ret false)
      else
        some (.again (x1, x2, x3, w64 (x4 + 1), ()))
    else
      some (.again (x1, x2, x3, w64 (x4 + 1), ()))
  else
    some (.exit (x1, x2, x3, x4, ()))
noncomputable def F.impl_SetOk (a0 : List DSpan) : Option Bool :=
  afterO (loopO F.impl_SetOk.s2 (a0, a0, len a0, 0, ())) fun (x7, x8, x9, x10, _) =>
  some true
noncomputable def C.impl_SetOk : Con := ⟨[.r (.val (.sl false 175 y0))], .one .bool, fun x => F.impl_SetOk x.1⟩
def L.impl_SetOk : Loops := lookL [(2, ⟨[.pat 0 (.val (.sl false 175 y0)), .pat 5 (.val (.sl false 175 y0)), .pat 6 (.val (.int .i64)), .pat 7 (.val (.int .i64))], 0⟩)]
noncomputable def K.impl_SetOk : Cons := lookK [(142, [], C.impl_within)]
theorem run.impl_SetOk : ∀ x, runF tb K.impl_SetOk L.impl_SetOk [] Try.f257 C.impl_SetOk x = C.impl_SetOk.fn x := fun x => by kernel_rfl

/-! ### impl.allIn: function 221 -/
noncomputable def F.impl_allIn (a0 : List DSpan) (a1 : Int) (a2 : Int) : Option Bool :=
  (F.impl_SetOk a0).bind fun r1 =>
  bif r1 then
    bif (len a0) == 0 then
      some true
    else
    chk (inb 0 (List.length a0)) <|
    bif decide (((List.getD a0 0 ((0, 0, ()))).1) ≥ a1) then
      chk (inb (w64 ((len a0) - 1)) (List.length a0)) <|
      some (decide ((((List.getD a0 ((Int.toNat (w64 ((len a0) - 1)))) ((0, 0, ()))).2).1) ≤ a2))
    else
      some false
  else
    some false
noncomputable def C.impl_allIn : Con := ⟨[.r (.val (.sl false 175 y0)), .r (.val (.int .i64)), .r (.val (.int .i64))], .one .bool, fun x => F.impl_allIn x.1 x.2.1 x.2.2.1⟩
def L.impl_allIn : Loops := fun _ => none
noncomputable def K.impl_allIn : Cons := lookK [(257, [], C.impl_SetOk)]
theorem run.impl_allIn : ∀ x, runF tb K.impl_allIn L.impl_allIn [] Try.f221 C.impl_allIn x = C.impl_allIn.fn x := fun x => by kernel_rfl

/-! ### impl.AgentOk: function 90 -/
noncomputable def F.impl_AgentOk.s4 : ((List DItem) × Int × Int × DAgent × Unit) → Option (Lp ((List DItem) × Int × Int × DAgent × Unit) Bool) := fun (x5, x6, x7, x8, _) =>
  bif decide (x7 < x6) then
    chk (inb x7 (List.length x5)) <|
    (F.impl_ItemOk (List.getD x5 ((Int.toNat x7)) ((0, 0, 0, 0, (0, 0, 0, 0, ([] : List Int), ([] : List Int), ([] : List (List Int)), ()), ())))).bind fun r9 =>
    bif !r9 then
      some (.ret false)
    else
    bif ((List.getD x5 ((Int.toNat x7)) ((0, 0, 0, 0, (0, 0, 0, 0, ([] : List Int), ([] : List Int), ([] : List (List Int)), ()), ()))).1) != (w64 (x7 + 1)) then
      some (.ret false)
    else
      some (.again (x5, x6, w64 (x7 + 1), x8, ()))
  else
    some (.exit (x5, x6, x7, x8, ()))
noncomputable def F.impl_AgentOk (a0 : DAgent) : Option Bool :=
  (F.impl_within a0.1 0 2).bind fun r1 =>
  bif !r1 then
    some false
  else
  (F.impl_within a0.2.1 0 1000).bind fun r2 =>
  bif !r2 then
    some false
  else
  (F.impl_within a0.2.2.2.1 0 60).bind fun r3 =>
  bif !r3 then
    some false
  else
  bif decide ((len a0.2.2.2.2.1) > 60) then
    some false
  else
  (F.impl_within a0.2.2.2.2.2.2.1 0 60).bind fun r4 =>
  bif !r4 then
    some false
  else
  afterO (loopO F.impl_AgentOk.s4 (a0.2.2.2.2.1, len a0.2.2.2.2.1, 0, a0, ())) fun (x10, x11, x12, x13, _) =>
  (F.impl_allIn x13.2.2.2.2.2.1 1 (len x13.2.2.2.2.1)).bind fun r14 =>
  bif r14 then
    bif x13.2.2.1 then
      some true
    else
      some (x13.2.2.2.1 == 0)
  else
    some false
noncomputable def C.impl_AgentOk : Con := ⟨[.r (.val y10)], .one .bool, fun x => F.impl_AgentOk x.1⟩
def L.impl_AgentOk : Loops := lookL [(4, ⟨[.pat 34 (.val (.sl false 96 y6)), .pat 35 (.val (.int .i64)), .pat 36 (.val (.int .i64)), .root 1 true y10 [1]], 0⟩)]
noncomputable def K.impl_AgentOk : Cons := lookK [(142, [], C.impl_within), (221, [], C.impl_allIn), (227, [], C.impl_ItemOk)]
theorem run.impl_AgentOk : ∀ x, runF tb K.impl_AgentOk L.impl_AgentOk [] Try.f90 C.impl_AgentOk x = C.impl_AgentOk.fn x := fun x => by kernel_rfl

/-! ### impl.copySet: function 241 -/
noncomputable def F.impl_copySet (a0 : List DSpan) : Option ((List DSpan)) :=
  chk (fits (List.length a0) 16) <|
  some a0
noncomputable def C.impl_copySet : Con := ⟨[.r (.val (.sl false 175 y0))], .one (.sl true 175 y0), fun x => F.impl_copySet x.1⟩
def L.impl_copySet : Loops := fun _ => none
noncomputable def K.impl_copySet : Cons := lookK []
theorem run.impl_copySet : ∀ x, runF tb K.impl_copySet L.impl_copySet [] Try.f241 C.impl_copySet x = C.impl_copySet.fn x := fun x => by kernel_rfl

/-! ### impl.copySketch: function 113 -/
noncomputable def F.impl_copySketch.s6 : ((List (List Int)) × Int × Int × DSketch × DSketch × Unit) → Option (Lp ((List (List Int)) × Int × Int × DSketch × DSketch × Unit) DSketch) := fun (x3, x4, x5, x6, x7, _) =>
  bif decide (x5 < x4) then
    chk (inb x5 (List.length x3)) <|
    (F.impl_copyInts (List.getD x3 ((Int.toNat x5)) (([] : List Int)))).bind fun r8 =>
    chk (fits (List.length x7.2.2.2.2.2.2.1 + List.length ([r8])) 24) <|
    some (.again (x3, x4, w64 (x5 + 1), x6, (x7.1, x7.2.1, x7.2.2.1, x7.2.2.2.1, x7.2.2.2.2.1, x7.2.2.2.2.2.1, x7.2.2.2.2.2.2.1 ++ ([r8]), x7.2.2.2.2.2.2.2), ()))
  else
    some (.exit (x3, x4, x5, x6, x7, ()))
noncomputable def F.impl_copySketch (a0 : DSketch) : Option DSketch :=
  (F.impl_copyInts a0.2.2.2.2.1).bind fun r1 =>
  (F.impl_copyInts a0.2.2.2.2.2.1).bind fun r2 =>
  afterO (loopO F.impl_copySketch.s6 (a0.2.2.2.2.2.2.1, len a0.2.2.2.2.2.2.1, 0, (0, 0, 0, 0, ([] : List Int), ([] : List Int), ([] : List (List Int)), ()), (a0.1, a0.2.1, a0.2.2.1, a0.2.2.2.1, r1, r2, ([] : List (List Int)), a0.2.2.2.2.2.2.2), ())) fun (x9, x10, x11, x12, x13, _) =>
  some x13
noncomputable def C.impl_copySketch : Con := ⟨[.r (.val y1)], .one y3, fun x => F.impl_copySketch x.1⟩
def L.impl_copySketch : Loops := lookL [(6, ⟨[.pat 17 (.val (.sl false 27 (.sl false 3 (.int .i64)))), .pat 18 (.val (.int .i64)), .pat 19 (.val (.int .i64)), .root 2 true y3 [2], .root 3 true y3 [3]], 0⟩)]
noncomputable def K.impl_copySketch : Cons := lookK [(242, [], C.impl_copyInts)]
theorem run.impl_copySketch : ∀ x, runF tb K.impl_copySketch L.impl_copySketch [] Try.f113 C.impl_copySketch x = C.impl_copySketch.fn x := fun x => by kernel_rfl

/-! ### impl.copyItem: function 159 -/
noncomputable def F.impl_copyItem (a0 : DItem) : Option DItem :=
  (F.impl_copySketch a0.2.2.2.2.1).bind fun r1 =>
  some (a0.1, a0.2.1, a0.2.2.1, a0.2.2.2.1, r1, a0.2.2.2.2.2)
noncomputable def C.impl_copyItem : Con := ⟨[.r (.val y6)], .one y8, fun x => F.impl_copyItem x.1⟩
def L.impl_copyItem : Loops := fun _ => none
noncomputable def K.impl_copyItem : Cons := lookK [(113, [], C.impl_copySketch)]
theorem run.impl_copyItem : ∀ x, runF tb K.impl_copyItem L.impl_copyItem [] Try.f159 C.impl_copyItem x = C.impl_copyItem.fn x := fun x => by kernel_rfl

/-! ### impl.copyAgent: function 112 -/
noncomputable def F.impl_copyAgent.s5 : ((List DItem) × Int × Int × DAgent × DAgent × Unit) → Option (Lp ((List DItem) × Int × Int × DAgent × DAgent × Unit) DAgent) := fun (x2, x3, x4, x5, x6, _) =>
  bif decide (x4 < x3) then
    chk (inb x4 (List.length x2)) <|
    (F.impl_copyItem (List.getD x2 ((Int.toNat x4)) ((0, 0, 0, 0, (0, 0, 0, 0, ([] : List Int), ([] : List Int), ([] : List (List Int)), ()), ())))).bind fun r7 =>
    chk (fits (List.length x6.2.2.2.2.1 + List.length ([r7])) 136) <|
    some (.again (x2, x3, w64 (x4 + 1), x5, (x6.1, x6.2.1, x6.2.2.1, x6.2.2.2.1, x6.2.2.2.2.1 ++ ([r7]), x6.2.2.2.2.2), ()))
  else
    some (.exit (x2, x3, x4, x5, x6, ()))
noncomputable def F.impl_copyAgent (a0 : DAgent) : Option DAgent :=
  (F.impl_copySet a0.2.2.2.2.2.1).bind fun r1 =>
  afterO (loopO F.impl_copyAgent.s5 (a0.2.2.2.2.1, len a0.2.2.2.2.1, 0, (0, 0, false, 0, ([] : List DItem), ([] : List DSpan), 0, ()), (a0.1, a0.2.1, a0.2.2.1, a0.2.2.2.1, ([] : List DItem), r1, a0.2.2.2.2.2.2), ())) fun (x8, x9, x10, x11, x12, _) =>
  some x12
noncomputable def C.impl_copyAgent : Con := ⟨[.r (.val y10)], .one y9, fun x => F.impl_copyAgent x.1⟩
def L.impl_copyAgent : Loops := lookL [(5, ⟨[.pat 13 (.val (.sl false 96 y6)), .pat 14 (.val (.int .i64)), .pat 15 (.val (.int .i64)), .root 2 true y9 [2], .root 3 true y9 [3]], 0⟩)]
noncomputable def K.impl_copyAgent : Cons := lookK [(159, [], C.impl_copyItem), (241, [], C.impl_copySet)]
theorem run.impl_copyAgent : ∀ x, runF tb K.impl_copyAgent L.impl_copyAgent [] Try.f112 C.impl_copyAgent x = C.impl_copyAgent.fn x := fun x => by kernel_rfl

/-! ### impl.Seal: function 29 -/
noncomputable def F.impl_Seal (a0 : DAgent) (a1 : Int) (a2 : Int) (a3 : Int) (a4 : DSketch) : Option (DAgent × Int) :=
  (F.impl_AgentOk a0).bind fun r1 =>
  bif !r1 then
    (F.impl_copyAgent a0).bind fun r2 =>
    some (r2, 0)
  else
  (F.impl_copyAgent a0).bind fun r3 =>
  (F.impl_copySketch a4).bind fun r4 =>
  chk (fits (List.length r3.2.2.2.2.1 + List.length ([(w64 ((len a0.2.2.2.2.1) + 1), a1, a2, a3, r4, ())])) 136) <|
  (F.impl_AgentOk ((r3.1, r3.2.1, r3.2.2.1, r3.2.2.2.1, r3.2.2.2.2.1 ++ ([(w64 ((len a0.2.2.2.2.1) + 1), a1, a2, a3, r4, ())]), r3.2.2.2.2.2))).bind fun r5 =>
  bif !r5 then
    (F.impl_copyAgent a0).bind fun r6 =>
    some (r6, 0)
  else
    some ((r3.1, r3.2.1, r3.2.2.1, r3.2.2.2.1, r3.2.2.2.2.1 ++ ([(w64 ((len a0.2.2.2.2.1) + 1), a1, a2, a3, r4, ())]), r3.2.2.2.2.2), w64 ((len a0.2.2.2.2.1) + 1))
noncomputable def C.impl_Seal : Con := ⟨[.r (.val y10), .r (.val (.int .i64)), .r (.val (.int .i64)), .r (.val (.int .i64)), .r (.val y1)], .many [y9, (.int .i64)], fun x => F.impl_Seal x.1 x.2.1 x.2.2.1 x.2.2.2.1 x.2.2.2.2.1⟩
def L.impl_Seal : Loops := fun _ => none
noncomputable def K.impl_Seal : Cons := lookK [(90, [], C.impl_AgentOk), (112, [], C.impl_copyAgent), (113, [], C.impl_copySketch)]
theorem run.impl_Seal : ∀ x, runF tb K.impl_Seal L.impl_Seal [] Try.f29 C.impl_Seal x = C.impl_Seal.fn x := fun x => by kernel_rfl

/-! ### laws.eqIntS: function 115 -/
noncomputable def F.laws_eqIntS.s4 : ((List Int) × (List Int) × Int × Unit) → Option (Lp ((List Int) × (List Int) × Int × Unit) Bool) := fun (x1, x2, x3, _) =>
  bif decide (x3 < (len x1)) then
    chk (inb x3 (List.length x1)) <|
    chk (inb x3 (List.length x2)) <|
    bif (List.getD x1 ((Int.toNat x3)) 0) != (List.getD x2 ((Int.toNat x3)) 0) then
      some (.ret false)
    else
      some (.again (x1, x2, w64 (x3 + 1), ()))
  else
    some (.exit (x1, x2, x3, ()))
noncomputable def F.laws_eqIntS (a0 : List Int) (a1 : List Int) : Option Bool :=
  bif (len a0) != (len a1) then
    some false
  else
  afterO (loopO F.laws_eqIntS.s4 (a0, a1, 0, ())) fun (x4, x5, x6, _) =>
  some true
noncomputable def C.laws_eqIntS : Con := ⟨[.r (.val (.sl false 3 (.int .i64))), .r (.val (.sl false 3 (.int .i64)))], .one .bool, fun x => F.laws_eqIntS x.1 x.2.1⟩
def L.laws_eqIntS : Loops := lookL [(4, ⟨[.pat 0 (.val (.sl false 3 (.int .i64))), .pat 1 (.val (.sl false 3 (.int .i64))), .pat 5 (.val (.int .i64))], 0⟩)]
noncomputable def K.laws_eqIntS : Cons := lookK []
theorem run.laws_eqIntS : ∀ x, runF tb K.laws_eqIntS L.laws_eqIntS [] Try.f115 C.laws_eqIntS x = C.laws_eqIntS.fn x := fun x => by kernel_rfl

/-! ### laws.eqIntSS: function 116 -/
noncomputable def F.laws_eqIntSS.s4 : ((List (List Int)) × (List (List Int)) × Int × Unit) → Option (Lp ((List (List Int)) × (List (List Int)) × Int × Unit) Bool) := fun (x1, x2, x3, _) =>
  bif decide (x3 < (len x1)) then
    chk (inb x3 (List.length x1)) <|
    chk (inb x3 (List.length x2)) <|
    (F.laws_eqIntS (List.getD x1 ((Int.toNat x3)) (([] : List Int))) (List.getD x2 ((Int.toNat x3)) (([] : List Int)))).bind fun r4 =>
    bif !r4 then
      some (.ret false)
    else
      some (.again (x1, x2, w64 (x3 + 1), ()))
  else
    some (.exit (x1, x2, x3, ()))
noncomputable def F.laws_eqIntSS (a0 : List (List Int)) (a1 : List (List Int)) : Option Bool :=
  bif (len a0) != (len a1) then
    some false
  else
  afterO (loopO F.laws_eqIntSS.s4 (a0, a1, 0, ())) fun (x5, x6, x7, _) =>
  some true
noncomputable def C.laws_eqIntSS : Con := ⟨[.r (.val (.sl false 27 (.sl false 3 (.int .i64)))), .r (.val (.sl false 27 (.sl false 3 (.int .i64))))], .one .bool, fun x => F.laws_eqIntSS x.1 x.2.1⟩
def L.laws_eqIntSS : Loops := lookL [(4, ⟨[.pat 0 (.val (.sl false 27 (.sl false 3 (.int .i64)))), .pat 1 (.val (.sl false 27 (.sl false 3 (.int .i64)))), .pat 5 (.val (.int .i64))], 0⟩)]
noncomputable def K.laws_eqIntSS : Cons := lookK [(115, [], C.laws_eqIntS)]
theorem run.laws_eqIntSS : ∀ x, runF tb K.laws_eqIntSS L.laws_eqIntSS [] Try.f116 C.laws_eqIntSS x = C.laws_eqIntSS.fn x := fun x => by kernel_rfl

/-! ### laws.eqSketch: function 31 -/
noncomputable def F.laws_eqSketch (a0 : DSketch) (a1 : DSketch) : Option Bool :=
  bif a0.1 != a1.1 then
    some false
  else
  bif a0.2.1 != a1.2.1 then
    some false
  else
  bif a0.2.2.1 != a1.2.2.1 then
    some false
  else
  bif a0.2.2.2.1 != a1.2.2.2.1 then
    some false
  else
  (F.laws_eqIntS a0.2.2.2.2.1 a1.2.2.2.2.1).bind fun r1 =>
  bif !r1 then
    some false
  else
  (F.laws_eqIntS a0.2.2.2.2.2.1 a1.2.2.2.2.2.1).bind fun r2 =>
  bif !r2 then
    some false
  else
  (F.laws_eqIntSS a0.2.2.2.2.2.2.1 a1.2.2.2.2.2.2.1).bind fun r3 =>
  bif !r3 then
    some false
  else
    some true
noncomputable def C.laws_eqSketch : Con := ⟨[.r (.val y1), .r (.val y1)], .one .bool, fun x => F.laws_eqSketch x.1 x.2.1⟩
def L.laws_eqSketch : Loops := fun _ => none
noncomputable def K.laws_eqSketch : Cons := lookK [(115, [], C.laws_eqIntS), (116, [], C.laws_eqIntSS)]
theorem run.laws_eqSketch : ∀ x, runF tb K.laws_eqSketch L.laws_eqSketch [] Try.f31 C.laws_eqSketch x = C.laws_eqSketch.fn x := fun x => by kernel_rfl

/-! ### laws.eqItem: function 153 -/
noncomputable def F.laws_eqItem (a0 : DItem) (a1 : DItem) : Option Bool :=
  bif a0.1 != a1.1 then
    some false
  else
  bif a0.2.1 != a1.2.1 then
    some false
  else
  bif a0.2.2.1 != a1.2.2.1 then
    some false
  else
  bif a0.2.2.2.1 != a1.2.2.2.1 then
    some false
  else
  (F.laws_eqSketch a0.2.2.2.2.1 a1.2.2.2.2.1).bind fun r1 =>
  bif !r1 then
    some false
  else
    some true
noncomputable def C.laws_eqItem : Con := ⟨[.r (.val y6), .r (.val y6)], .one .bool, fun x => F.laws_eqItem x.1 x.2.1⟩
def L.laws_eqItem : Loops := fun _ => none
noncomputable def K.laws_eqItem : Cons := lookK [(31, [], C.laws_eqSketch)]
theorem run.laws_eqItem : ∀ x, runF tb K.laws_eqItem L.laws_eqItem [] Try.f153 C.laws_eqItem x = C.laws_eqItem.fn x := fun x => by kernel_rfl

/-! ### laws.eqItemS: function 114 -/
noncomputable def F.laws_eqItemS.s4 : ((List DItem) × (List DItem) × Int × Unit) → Option (Lp ((List DItem) × (List DItem) × Int × Unit) Bool) := fun (x1, x2, x3, _) =>
  bif decide (x3 < (len x1)) then
    chk (inb x3 (List.length x1)) <|
    chk (inb x3 (List.length x2)) <|
    (F.laws_eqItem (List.getD x1 ((Int.toNat x3)) ((0, 0, 0, 0, (0, 0, 0, 0, ([] : List Int), ([] : List Int), ([] : List (List Int)), ()), ()))) (List.getD x2 ((Int.toNat x3)) ((0, 0, 0, 0, (0, 0, 0, 0, ([] : List Int), ([] : List Int), ([] : List (List Int)), ()), ())))).bind fun r4 =>
    bif !r4 then
      some (.ret false)
    else
      some (.again (x1, x2, w64 (x3 + 1), ()))
  else
    some (.exit (x1, x2, x3, ()))
noncomputable def F.laws_eqItemS (a0 : List DItem) (a1 : List DItem) : Option Bool :=
  bif (len a0) != (len a1) then
    some false
  else
  afterO (loopO F.laws_eqItemS.s4 (a0, a1, 0, ())) fun (x5, x6, x7, _) =>
  some true
noncomputable def C.laws_eqItemS : Con := ⟨[.r (.val (.sl false 96 y6)), .r (.val (.sl false 96 y6))], .one .bool, fun x => F.laws_eqItemS x.1 x.2.1⟩
def L.laws_eqItemS : Loops := lookL [(4, ⟨[.pat 0 (.val (.sl false 96 y6)), .pat 1 (.val (.sl false 96 y6)), .pat 5 (.val (.int .i64))], 0⟩)]
noncomputable def K.laws_eqItemS : Cons := lookK [(153, [], C.laws_eqItem)]
theorem run.laws_eqItemS : ∀ x, runF tb K.laws_eqItemS L.laws_eqItemS [] Try.f114 C.laws_eqItemS x = C.laws_eqItemS.fn x := fun x => by kernel_rfl

/-! ### laws.eqSpan: function 218 -/
noncomputable def F.laws_eqSpan (a0 : DSpan) (a1 : DSpan) : Option Bool :=
  bif a0.1 != a1.1 then
    some false
  else
  bif a0.2.1 != a1.2.1 then
    some false
  else
    some true
noncomputable def C.laws_eqSpan : Con := ⟨[.r (.val y0), .r (.val y0)], .one .bool, fun x => F.laws_eqSpan x.1 x.2.1⟩
def L.laws_eqSpan : Loops := fun _ => none
noncomputable def K.laws_eqSpan : Cons := lookK []
theorem run.laws_eqSpan : ∀ x, runF tb K.laws_eqSpan L.laws_eqSpan [] Try.f218 C.laws_eqSpan x = C.laws_eqSpan.fn x := fun x => by kernel_rfl

/-! ### laws.eqSpanS: function 82 -/
noncomputable def F.laws_eqSpanS.s4 : ((List DSpan) × (List DSpan) × Int × Unit) → Option (Lp ((List DSpan) × (List DSpan) × Int × Unit) Bool) := fun (x1, x2, x3, _) =>
  bif decide (x3 < (len x1)) then
    chk (inb x3 (List.length x1)) <|
    chk (inb x3 (List.length x2)) <|
    (F.laws_eqSpan (List.getD x1 ((Int.toNat x3)) ((0, 0, ()))) (List.getD x2 ((Int.toNat x3)) ((0, 0, ())))).bind fun r4 =>
    bif !r4 then
      some (.ret false)
    else
      some (.again (x1, x2, w64 (x3 + 1), ()))
  else
    some (.exit (x1, x2, x3, ()))
noncomputable def F.laws_eqSpanS (a0 : List DSpan) (a1 : List DSpan) : Option Bool :=
  bif (len a0) != (len a1) then
    some false
  else
  afterO (loopO F.laws_eqSpanS.s4 (a0, a1, 0, ())) fun (x5, x6, x7, _) =>
  some true
noncomputable def C.laws_eqSpanS : Con := ⟨[.r (.val (.sl false 175 y0)), .r (.val (.sl false 175 y0))], .one .bool, fun x => F.laws_eqSpanS x.1 x.2.1⟩
def L.laws_eqSpanS : Loops := lookL [(4, ⟨[.pat 0 (.val (.sl false 175 y0)), .pat 1 (.val (.sl false 175 y0)), .pat 5 (.val (.int .i64))], 0⟩)]
noncomputable def K.laws_eqSpanS : Cons := lookK [(218, [], C.laws_eqSpan)]
theorem run.laws_eqSpanS : ∀ x, runF tb K.laws_eqSpanS L.laws_eqSpanS [] Try.f82 C.laws_eqSpanS x = C.laws_eqSpanS.fn x := fun x => by kernel_rfl

/-! ### laws.eqAgent: function 30 -/
noncomputable def F.laws_eqAgent (a0 : DAgent) (a1 : DAgent) : Option Bool :=
  bif a0.1 != a1.1 then
    some false
  else
  bif a0.2.1 != a1.2.1 then
    some false
  else
  bif !(a0.2.2.1 == a1.2.2.1) then
    some false
  else
  bif a0.2.2.2.1 != a1.2.2.2.1 then
    some false
  else
  (F.laws_eqItemS a0.2.2.2.2.1 a1.2.2.2.2.1).bind fun r1 =>
  bif !r1 then
    some false
  else
  (F.laws_eqSpanS a0.2.2.2.2.2.1 a1.2.2.2.2.2.1).bind fun r2 =>
  bif !r2 then
    some false
  else
  bif a0.2.2.2.2.2.2.1 != a1.2.2.2.2.2.2.1 then
    some false
  else
    some true
noncomputable def C.laws_eqAgent : Con := ⟨[.r (.val y10), .r (.val y10)], .one .bool, fun x => F.laws_eqAgent x.1 x.2.1⟩
def L.laws_eqAgent : Loops := fun _ => none
noncomputable def K.laws_eqAgent : Cons := lookK [(82, [], C.laws_eqSpanS), (114, [], C.laws_eqItemS)]
theorem run.laws_eqAgent : ∀ x, runF tb K.laws_eqAgent L.laws_eqAgent [] Try.f30 C.laws_eqAgent x = C.laws_eqAgent.fn x := fun x => by kernel_rfl

/-! ### laws.markIntS: function 118 -/
noncomputable def F.laws_markIntS.s2 : (Int × Int × (List Int) × Unit) → Option (Lp (Int × Int × (List Int) × Unit) (Int × (List Int))) := fun (x1, x2, x3, _) =>
  bif decide (x2 < (len x3)) then
    chk (inb x2 (List.length x3)) <|
    some (.again (w64 (x1 + 1), w64 (x2 + 1), List.set x3 ((Int.toNat x2)) x1, ()))
  else
    some (.exit (x1, x2, x3, ()))
noncomputable def F.laws_markIntS (a0 : List Int) (a1 : Int) : Option (Int × (List Int)) :=
  afterO (loopO F.laws_markIntS.s2 (a1, 0, a0, ())) fun (x4, x5, x6, _) =>
  some (x4, x6)
noncomputable def C.laws_markIntS : Con := ⟨[.c (.sl true 3 (.int .i64)), .r (.val (.int .i64))], .one (.int .i64), fun x => F.laws_markIntS x.1 x.2.1⟩
def L.laws_markIntS : Loops := lookL [(2, ⟨[.pat 1 (.val (.int .i64)), .pat 5 (.val (.int .i64)), .root 0 false (.sl true 3 (.int .i64)) [0]], 0⟩)]
noncomputable def K.laws_markIntS : Cons := lookK []
theorem run.laws_markIntS : ∀ x, runF tb K.laws_markIntS L.laws_markIntS [0] Try.f118 C.laws_markIntS x = C.laws_markIntS.fn x := fun x => by kernel_rfl

/-! ### laws.markIntSS: function 119 -/
noncomputable def F.laws_markIntSS.s2 : (Int × Int × (List (List Int)) × Unit) → Option (Lp (Int × Int × (List (List Int)) × Unit) (Int × (List (List Int)))) := fun (x1, x2, x3, _) =>
  bif decide (x2 < (len x3)) then
    chk (inb x2 (List.length x3)) <|
    (F.laws_markIntS (List.getD x3 ((Int.toNat x2)) (([] : List Int))) x1).bind fun r4 =>
    some (.again (r4.1, w64 (x2 + 1), List.set x3 ((Int.toNat x2)) r4.2, ()))
  else
    some (.exit (x1, x2, x3, ()))
noncomputable def F.laws_markIntSS (a0 : List (List Int)) (a1 : Int) : Option (Int × (List (List Int))) :=
  afterO (loopO F.laws_markIntSS.s2 (a1, 0, a0, ())) fun (x5, x6, x7, _) =>
  some (x5, x7)
noncomputable def C.laws_markIntSS : Con := ⟨[.c (.sl true 27 (.sl true 3 (.int .i64))), .r (.val (.int .i64))], .one (.int .i64), fun x => F.laws_markIntSS x.1 x.2.1⟩
def L.laws_markIntSS : Loops := lookL [(2, ⟨[.pat 1 (.val (.int .i64)), .pat 5 (.val (.int .i64)), .root 0 false (.sl true 27 (.sl true 3 (.int .i64))) [0]], 0⟩)]
noncomputable def K.laws_markIntSS : Cons := lookK [(118, [], C.laws_markIntS)]
theorem run.laws_markIntSS : ∀ x, runF tb K.laws_markIntSS L.laws_markIntSS [0] Try.f119 C.laws_markIntSS x = C.laws_markIntSS.fn x := fun x => by kernel_rfl

/-! ### laws.markItemS: function 117 -/
noncomputable def F.laws_markItemS.s2 : (Int × Int × (List DItem) × Unit) → Option (Lp (Int × Int × (List DItem) × Unit) (Int × (List DItem))) := fun (x1, x2, x3, _) =>
  bif decide (x2 < (len x3)) then
    chk (inb x2 (List.length x3)) <|
    (some (List.set x3 ((Int.toNat x2)) ((x1, (List.getD x3 ((Int.toNat x2)) ((0, 0, 0, 0, (0, 0, 0, 0, ([] : List Int), ([] : List Int), ([] : List (List Int)), ()), ()))).2)))).bind fun r4 =>
    chk (inb x2 (List.length r4)) <|
    (some (List.set r4 ((Int.toNat x2)) (((List.getD r4 ((Int.toNat x2)) ((0, 0, 0, 0, (0, 0, 0, 0, ([] : List Int), ([] : List Int), ([] : List (List Int)), ()), ()))).1, w64 (x1 + 1), ((List.getD r4 ((Int.toNat x2)) ((0, 0, 0, 0, (0, 0, 0, 0, ([] : List Int), ([] : List Int), ([] : List (List Int)), ()), ()))).2).2)))).bind fun r5 =>
    chk (inb x2 (List.length r5)) <|
    (some (List.set r5 ((Int.toNat x2)) (((List.getD r5 ((Int.toNat x2)) ((0, 0, 0, 0, (0, 0, 0, 0, ([] : List Int), ([] : List Int), ([] : List (List Int)), ()), ()))).1, ((List.getD r5 ((Int.toNat x2)) ((0, 0, 0, 0, (0, 0, 0, 0, ([] : List Int), ([] : List Int), ([] : List (List Int)), ()), ()))).2).1, w64 ((w64 (x1 + 1)) + 1), (((List.getD r5 ((Int.toNat x2)) ((0, 0, 0, 0, (0, 0, 0, 0, ([] : List Int), ([] : List Int), ([] : List (List Int)), ()), ()))).2).2).2)))).bind fun r6 =>
    chk (inb x2 (List.length r6)) <|
    (some (List.set r6 ((Int.toNat x2)) (((List.getD r6 ((Int.toNat x2)) ((0, 0, 0, 0, (0, 0, 0, 0, ([] : List Int), ([] : List Int), ([] : List (List Int)), ()), ()))).1, ((List.getD r6 ((Int.toNat x2)) ((0, 0, 0, 0, (0, 0, 0, 0, ([] : List Int), ([] : List Int), ([] : List (List Int)), ()), ()))).2).1, (((List.getD r6 ((Int.toNat x2)) ((0, 0, 0, 0, (0, 0, 0, 0, ([] : List Int), ([] : List Int), ([] : List (List Int)), ()), ()))).2).2).1, w64 ((w64 ((w64 (x1 + 1)) + 1)) + 1), ((((List.getD r6 ((Int.toNat x2)) ((0, 0, 0, 0, (0, 0, 0, 0, ([] : List Int), ([] : List Int), ([] : List (List Int)), ()), ()))).2).2).2).2)))).bind fun r7 =>
    chk (inb x2 (List.length r7)) <|
    (some (List.set r7 ((Int.toNat x2)) (((List.getD r7 ((Int.toNat x2)) ((0, 0, 0, 0, (0, 0, 0, 0, ([] : List Int), ([] : List Int), ([] : List (List Int)), ()), ()))).1, ((List.getD r7 ((Int.toNat x2)) ((0, 0, 0, 0, (0, 0, 0, 0, ([] : List Int), ([] : List Int), ([] : List (List Int)), ()), ()))).2).1, (((List.getD r7 ((Int.toNat x2)) ((0, 0, 0, 0, (0, 0, 0, 0, ([] : List Int), ([] : List Int), ([] : List (List Int)), ()), ()))).2).2).1, ((((List.getD r7 ((Int.toNat x2)) ((0, 0, 0, 0, (0, 0, 0, 0, ([] : List Int), ([] : List Int), ([] : List (List Int)), ()), ()))).2).2).2).1, (w64 ((w64 ((w64 ((w64 (x1 + 1)) + 1)) + 1)) + 1), ((((((List.getD r7 ((Int.toNat x2)) ((0, 0, 0, 0, (0, 0, 0, 0, ([] : List Int), ([] : List Int), ([] : List (List Int)), ()), ()))).2).2).2).2).1).2), (((((List.getD r7 ((Int.toNat x2)) ((0, 0, 0, 0, (0, 0, 0, 0, ([] : List Int), ([] : List Int), ([] : List (List Int)), ()), ()))).2).2).2).2).2)))).bind fun r8 =>
    chk (inb x2 (List.length r8)) <|
    (some (List.set r8 ((Int.toNat x2)) (((List.getD r8 ((Int.toNat x2)) ((0, 0, 0, 0, (0, 0, 0, 0, ([] : List Int), ([] : List Int), ([] : List (List Int)), ()), ()))).1, ((List.getD r8 ((Int.toNat x2)) ((0, 0, 0, 0, (0, 0, 0, 0, ([] : List Int), ([] : List Int), ([] : List (List Int)), ()), ()))).2).1, (((List.getD r8 ((Int.toNat x2)) ((0, 0, 0, 0, (0, 0, 0, 0, ([] : List Int), ([] : List Int), ([] : List (List Int)), ()), ()))).2).2).1, ((((List.getD r8 ((Int.toNat x2)) ((0, 0, 0, 0, (0, 0, 0, 0, ([] : List Int), ([] : List Int), ([] : List (List Int)), ()), ()))).2).2).2).1, (((((((List.getD r8 ((Int.toNat x2)) ((0, 0, 0, 0, (0, 0, 0, 0, ([] : List Int), ([] : List Int), ([] : List (List Int)), ()), ()))).2).2).2).2).1).1, w64 ((w64 ((w64 ((w64 ((w64 (x1 + 1)) + 1)) + 1)) + 1)) + 1), (((((((List.getD r8 ((Int.toNat x2)) ((0, 0, 0, 0, (0, 0, 0, 0, ([] : List Int), ([] : List Int), ([] : List (List Int)), ()), ()))).2).2).2).2).1).2).2), (((((List.getD r8 ((Int.toNat x2)) ((0, 0, 0, 0, (0, 0, 0, 0, ([] : List Int), ([] : List Int), ([] : List (List Int)), ()), ()))).2).2).2).2).2)))).bind fun r9 =>
    chk (inb x2 (List.length r9)) <|
    (some (List.set r9 ((Int.toNat x2)) (((List.getD r9 ((Int.toNat x2)) ((0, 0, 0, 0, (0, 0, 0, 0, ([] : List Int), ([] : List Int), ([] : List (List Int)), ()), ()))).1, ((List.getD r9 ((Int.toNat x2)) ((0, 0, 0, 0, (0, 0, 0, 0, ([] : List Int), ([] : List Int), ([] : List (List Int)), ()), ()))).2).1, (((List.getD r9 ((Int.toNat x2)) ((0, 0, 0, 0, (0, 0, 0, 0, ([] : List Int), ([] : List Int), ([] : List (List Int)), ()), ()))).2).2).1, ((((List.getD r9 ((Int.toNat x2)) ((0, 0, 0, 0, (0, 0, 0, 0, ([] : List Int), ([] : List Int), ([] : List (List Int)), ()), ()))).2).2).2).1, (((((((List.getD r9 ((Int.toNat x2)) ((0, 0, 0, 0, (0, 0, 0, 0, ([] : List Int), ([] : List Int), ([] : List (List Int)), ()), ()))).2).2).2).2).1).1, (((((((List.getD r9 ((Int.toNat x2)) ((0, 0, 0, 0, (0, 0, 0, 0, ([] : List Int), ([] : List Int), ([] : List (List Int)), ()), ()))).2).2).2).2).1).2).1, w64 ((w64 ((w64 ((w64 ((w64 ((w64 (x1 + 1)) + 1)) + 1)) + 1)) + 1)) + 1), ((((((((List.getD r9 ((Int.toNat x2)) ((0, 0, 0, 0, (0, 0, 0, 0, ([] : List Int), ([] : List Int), ([] : List (List Int)), ()), ()))).2).2).2).2).1).2).2).2), (((((List.getD r9 ((Int.toNat x2)) ((0, 0, 0, 0, (0, 0, 0, 0, ([] : List Int), ([] : List Int), ([] : List (List Int)), ()), ()))).2).2).2).2).2)))).bind fun r10 =>
    chk (inb x2 (List.length r10)) <|
    (some (List.set r10 ((Int.toNat x2)) (((List.getD r10 ((Int.toNat x2)) ((0, 0, 0, 0, (0, 0, 0, 0, ([] : List Int), ([] : List Int), ([] : List (List Int)), ()), ()))).1, ((List.getD r10 ((Int.toNat x2)) ((0, 0, 0, 0, (0, 0, 0, 0, ([] : List Int), ([] : List Int), ([] : List (List Int)), ()), ()))).2).1, (((List.getD r10 ((Int.toNat x2)) ((0, 0, 0, 0, (0, 0, 0, 0, ([] : List Int), ([] : List Int), ([] : List (List Int)), ()), ()))).2).2).1, ((((List.getD r10 ((Int.toNat x2)) ((0, 0, 0, 0, (0, 0, 0, 0, ([] : List Int), ([] : List Int), ([] : List (List Int)), ()), ()))).2).2).2).1, (((((((List.getD r10 ((Int.toNat x2)) ((0, 0, 0, 0, (0, 0, 0, 0, ([] : List Int), ([] : List Int), ([] : List (List Int)), ()), ()))).2).2).2).2).1).1, (((((((List.getD r10 ((Int.toNat x2)) ((0, 0, 0, 0, (0, 0, 0, 0, ([] : List Int), ([] : List Int), ([] : List (List Int)), ()), ()))).2).2).2).2).1).2).1, ((((((((List.getD r10 ((Int.toNat x2)) ((0, 0, 0, 0, (0, 0, 0, 0, ([] : List Int), ([] : List Int), ([] : List (List Int)), ()), ()))).2).2).2).2).1).2).2).1, w64 ((w64 ((w64 ((w64 ((w64 ((w64 ((w64 (x1 + 1)) + 1)) + 1)) + 1)) + 1)) + 1)) + 1), (((((((((List.getD r10 ((Int.toNat x2)) ((0, 0, 0, 0, (0, 0, 0, 0, ([] : List Int), ([] : List Int), ([] : List (List Int)), ()), ()))).2).2).2).2).1).2).2).2).2), (((((List.getD r10 ((Int.toNat x2)) ((0, 0, 0, 0, (0, 0, 0, 0, ([] : List Int), ([] : List Int), ([] : List (List Int)), ()), ()))).2).2).2).2).2)))).bind fun r11 =>
    chk (inb x2 (List.length r11)) <|
    (F.laws_markIntS (((((((((((List.getD r11 ((Int.toNat x2)) ((0, 0, 0, 0, (0, 0, 0, 0, ([] : List Int), ([] : List Int), ([] : List (List Int)), ()), ()))).2).2).2).2).1).2).2).2).2).1) (w64 ((w64 ((w64 ((w64 ((w64 ((w64 ((w64 ((w64 (x1 + 1)) + 1)) + 1)) + 1)) + 1)) + 1)) + 1)) + 1))).bind fun r12 =>
    (some (List.set r11 ((Int.toNat x2)) (((List.getD r11 ((Int.toNat x2)) ((0, 0, 0, 0, (0, 0, 0, 0, ([] : List Int), ([] : List Int), ([] : List (List Int)), ()), ()))).1, ((List.getD r11 ((Int.toNat x2)) ((0, 0, 0, 0, (0, 0, 0, 0, ([] : List Int), ([] : List Int), ([] : List (List Int)), ()), ()))).2).1, (((List.getD r11 ((Int.toNat x2)) ((0, 0, 0, 0, (0, 0, 0, 0, ([] : List Int), ([] : List Int), ([] : List (List Int)), ()), ()))).2).2).1, ((((List.getD r11 ((Int.toNat x2)) ((0, 0, 0, 0, (0, 0, 0, 0, ([] : List Int), ([] : List Int), ([] : List (List Int)), ()), ()))).2).2).2).1, (((((((List.getD r11 ((Int.toNat x2)) ((0, 0, 0, 0, (0, 0, 0, 0, ([] : List Int), ([] : List Int), ([] : List (List Int)), ()), ()))).2).2).2).2).1).1, (((((((List.getD r11 ((Int.toNat x2)) ((0, 0, 0, 0, (0, 0, 0, 0, ([] : List Int), ([] : List Int), ([] : List (List Int)), ()), ()))).2).2).2).2).1).2).1, ((((((((List.getD r11 ((Int.toNat x2)) ((0, 0, 0, 0, (0, 0, 0, 0, ([] : List Int), ([] : List Int), ([] : List (List Int)), ()), ()))).2).2).2).2).1).2).2).1, (((((((((List.getD r11 ((Int.toNat x2)) ((0, 0, 0, 0, (0, 0, 0, 0, ([] : List Int), ([] : List Int), ([] : List (List Int)), ()), ()))).2).2).2).2).1).2).2).2).1, r12.2, ((((((((((List.getD r11 ((Int.toNat x2)) ((0, 0, 0, 0, (0, 0, 0, 0, ([] : List Int), ([] : List Int), ([] : List (List Int)), ()), ()))).2).2).2).2).1).2).2).2).2).2), (((((List.getD r11 ((Int.toNat x2)) ((0, 0, 0, 0, (0, 0, 0, 0, ([] : List Int), ([] : List Int), ([] : List (List Int)), ()), ()))).2).2).2).2).2)))).bind fun r13 =>
    chk (inb x2 (List.length r13)) <|
    (F.laws_markIntS ((((((((((((List.getD r13 ((Int.toNat x2)) ((0, 0, 0, 0, (0, 0, 0, 0, ([] : List Int), ([] : List Int), ([] : List (List Int)), ()), ()))).2).2).2).2).1).2).2).2).2).2).1) r12.1).bind fun r14 =>
    (some (List.set r13 ((Int.toNat x2)) (((List.getD r13 ((Int.toNat x2)) ((0, 0, 0, 0, (0, 0, 0, 0, ([] : List Int), ([] : List Int), ([] : List (List Int)), ()), ()))).1, ((List.getD r13 ((Int.toNat x2)) ((0, 0, 0, 0, (0, 0, 0, 0, ([] : List Int), ([] : List Int), ([] : List (List Int)), ()), ()))).2).1, (((List.getD r13 ((Int.toNat x2)) ((0, 0, 0, 0, (0, 0, 0, 0, ([] : List Int), ([] : List Int), ([] : List (List Int)), ()), ()))).2).2).1, ((((List.getD r13 ((Int.toNat x2)) ((0, 0, 0, 0, (0, 0, 0, 0, ([] : List Int), ([] : List Int), ([] : List (List Int)), ()), ()))).2).2).2).1, (((((((List.getD r13 ((Int.toNat x2)) ((0, 0, 0, 0, (0, 0, 0, 0, ([] : List Int), ([] : List Int), ([] : List (List Int)), ()), ()))).2).2).2).2).1).1, (((((((List.getD r13 ((Int.toNat x2)) ((0, 0, 0, 0, (0, 0, 0, 0, ([] : List Int), ([] : List Int), ([] : List (List Int)), ()), ()))).2).2).2).2).1).2).1, ((((((((List.getD r13 ((Int.toNat x2)) ((0, 0, 0, 0, (0, 0, 0, 0, ([] : List Int), ([] : List Int), ([] : List (List Int)), ()), ()))).2).2).2).2).1).2).2).1, (((((((((List.getD r13 ((Int.toNat x2)) ((0, 0, 0, 0, (0, 0, 0, 0, ([] : List Int), ([] : List Int), ([] : List (List Int)), ()), ()))).2).2).2).2).1).2).2).2).1, ((((((((((List.getD r13 ((Int.toNat x2)) ((0, 0, 0, 0, (0, 0, 0, 0, ([] : List Int), ([] : List Int), ([] : List (List Int)), ()), ()))).2).2).2).2).1).2).2).2).2).1, r14.2, (((((((((((List.getD r13 ((Int.toNat x2)) ((0, 0, 0, 0, (0, 0, 0, 0, ([] : List Int), ([] : List Int), ([] : List (List Int)), ()), ()))).2).2).2).2).1).2).2).2).2).2).2), (((((List.getD r13 ((Int.toNat x2)) ((0, 0, 0, 0, (0, 0, 0, 0, ([] : List Int), ([] : List Int), ([] : List (List Int)), ()), ()))).2).2).2).2).2)))).bind fun r15 =>
    chk (inb x2 (List.length r15)) <|
    (F.laws_markIntSS (((((((((((((List.getD r15 ((Int.toNat x2)) ((0, 0, 0, 0, (0, 0, 0, 0, ([] : List Int), ([] : List Int), ([] : List (List Int)), ()), ()))).2).2).2).2).1).2).2).2).2).2).2).1) r14.1).bind fun r16 =>
    (some (List.set r15 ((Int.toNat x2)) (((List.getD r15 ((Int.toNat x2)) ((0, 0, 0, 0, (0, 0, 0, 0, ([] : List Int), ([] : List Int), ([] : List (List Int)), ()), ()))).1, ((List.getD r15 ((Int.toNat x2)) ((0, 0, 0, 0, (0, 0, 0, 0, ([] : List Int), ([] : List Int), ([] : List (List Int)), ()), ()))).2).1, (((List.getD r15 ((Int.toNat x2)) ((0, 0, 0, 0, (0, 0, 0, 0, ([] : List Int), ([] : List Int), ([] : List (List Int)), ()), ()))).2).2).1, ((((List.getD r15 ((Int.toNat x2)) ((0, 0, 0, 0, (0, 0, 0, 0, ([] : List Int), ([] : List Int), ([] : List (List Int)), ()), ()))).2).2).2).1, (((((((List.getD r15 ((Int.toNat x2)) ((0, 0, 0, 0, (0, 0, 0, 0, ([] : List Int), ([] : List Int), ([] : List (List Int)), ()), ()))).2).2).2).2).1).1, (((((((List.getD r15 ((Int.toNat x2)) ((0, 0, 0, 0, (0, 0, 0, 0, ([] : List Int), ([] : List Int), ([] : List (List Int)), ()), ()))).2).2).2).2).1).2).1, ((((((((List.getD r15 ((Int.toNat x2)) ((0, 0, 0, 0, (0, 0, 0, 0, ([] : List Int), ([] : List Int), ([] : List (List Int)), ()), ()))).2).2).2).2).1).2).2).1, (((((((((List.getD r15 ((Int.toNat x2)) ((0, 0, 0, 0, (0, 0, 0, 0, ([] : List Int), ([] : List Int), ([] : List (List Int)), ()), ()))).2).2).2).2).1).2).2).2).1, ((((((((((List.getD r15 ((Int.toNat x2)) ((0, 0, 0, 0, (0, 0, 0, 0, ([] : List Int), ([] : List Int), ([] : List (List Int)), ()), ()))).2).2).2).2).1).2).2).2).2).1, (((((((((((List.getD r15 ((Int.toNat x2)) ((0, 0, 0, 0, (0, 0, 0, 0, ([] : List Int), ([] : List Int), ([] : List (List Int)), ()), ()))).2).2).2).2).1).2).2).2).2).2).1, r16.2, ((((((((((((List.getD r15 ((Int.toNat x2)) ((0, 0, 0, 0, (0, 0, 0, 0, ([] : List Int), ([] : List Int), ([] : List (List Int)), ()), ()))).2).2).2).2).1).2).2).2).2).2).2).2), (((((List.getD r15 ((Int.toNat x2)) ((0, 0, 0, 0, (0, 0, 0, 0, ([] : List Int), ([] : List Int), ([] : List (List Int)), ()), ()))).2).2).2).2).2)))).bind fun r17 =>
    some (.again (r16.1, w64 (x2 + 1), r17, ()))
  else
    some (.exit (x1, x2, x3, ()))
noncomputable def F.laws_markItemS (a0 : List DItem) (a1 : Int) : Option (Int × (List DItem)) :=
  afterO (loopO F.laws_markItemS.s2 (a1, 0, a0, ())) fun (x18, x19, x20, _) =>
  some (x18, x20)
noncomputable def C.laws_markItemS : Con := ⟨[.c (.sl true 96 y8), .r (.val (.int .i64))], .one (.int .i64), fun x => F.laws_markItemS x.1 x.2.1⟩
def L.laws_markItemS : Loops := lookL [(2, ⟨[.pat 1 (.val (.int .i64)), .pat 5 (.val (.int .i64)), .root 0 false (.sl true 96 y8) [0]], 0⟩)]
noncomputable def K.laws_markItemS : Cons := lookK [(118, [], C.laws_markIntS), (119, [], C.laws_markIntSS)]
theorem run.laws_markItemS : ∀ x, runF tb K.laws_markItemS L.laws_markItemS [0] Try.f117 C.laws_markItemS x = C.laws_markItemS.fn x := fun x => by kernel_rfl

/-! ### laws.markSpanS: function 83 -/
noncomputable def F.laws_markSpanS.s2 : (Int × Int × (List DSpan) × Unit) → Option (Lp (Int × Int × (List DSpan) × Unit) (Int × (List DSpan))) := fun (x1, x2, x3, _) =>
  bif decide (x2 < (len x3)) then
    chk (inb x2 (List.length x3)) <|
    chk (inb x2 (List.length (List.set x3 ((Int.toNat x2)) ((x1, (List.getD x3 ((Int.toNat x2)) ((0, 0, ()))).2))))) <|
    (some (List.set (List.set x3 ((Int.toNat x2)) ((x1, (List.getD x3 ((Int.toNat x2)) ((0, 0, ()))).2))) ((Int.toNat x2)) (((List.getD (List.set x3 ((Int.toNat x2)) ((x1, (List.getD x3 ((Int.toNat x2)) ((0, 0, ()))).2))) ((Int.toNat x2)) ((0, 0, ()))).1, w64 (x1 + 1), ((List.getD (List.set x3 ((Int.toNat x2)) ((x1, (List.getD x3 ((Int.toNat x2)) ((0, 0, ()))).2))) ((Int.toNat x2)) ((0, 0, ()))).2).2)))).bind fun r4 =>
    some (.again (w64 ((w64 (x1 + 1)) + 1), w64 (x2 + 1), r4, ()))
  else
    some (.exit (x1, x2, x3, ()))
noncomputable def F.laws_markSpanS (a0 : List DSpan) (a1 : Int) : Option (Int × (List DSpan)) :=
  afterO (loopO F.laws_markSpanS.s2 (a1, 0, a0, ())) fun (x5, x6, x7, _) =>
  some (x5, x7)
noncomputable def C.laws_markSpanS : Con := ⟨[.c (.sl true 175 y0), .r (.val (.int .i64))], .one (.int .i64), fun x => F.laws_markSpanS x.1 x.2.1⟩
def L.laws_markSpanS : Loops := lookL [(2, ⟨[.pat 1 (.val (.int .i64)), .pat 5 (.val (.int .i64)), .root 0 false (.sl true 175 y0) [0]], 0⟩)]
noncomputable def K.laws_markSpanS : Cons := lookK []
theorem run.laws_markSpanS : ∀ x, runF tb K.laws_markSpanS L.laws_markSpanS [0] Try.f83 C.laws_markSpanS x = C.laws_markSpanS.fn x := fun x => by kernel_rfl

/-! ### laws.markAgent: function 32 -/
noncomputable def F.laws_markAgent (a0 : DAgent) (a1 : Int) : Option (Int × DAgent) :=
  (F.laws_markItemS a0.2.2.2.2.1 a1).bind fun r1 =>
  (F.laws_markSpanS a0.2.2.2.2.2.1 r1.1).bind fun r2 =>
  some (r2.1, (a0.1, a0.2.1, a0.2.2.1, a0.2.2.2.1, r1.2, r2.2, a0.2.2.2.2.2.2))
noncomputable def C.laws_markAgent : Con := ⟨[.c y9, .r (.val (.int .i64))], .one (.int .i64), fun x => F.laws_markAgent x.1 x.2.1⟩
def L.laws_markAgent : Loops := fun _ => none
noncomputable def K.laws_markAgent : Cons := lookK [(83, [], C.laws_markSpanS), (117, [], C.laws_markItemS)]
theorem run.laws_markAgent : ∀ x, runF tb K.laws_markAgent L.laws_markAgent [2] Try.f32 C.laws_markAgent x = C.laws_markAgent.fn x := fun x => by kernel_rfl

/-! ### laws.markSketch: function 33 -/
noncomputable def F.laws_markSketch (a0 : DSketch) (a1 : Int) : Option (Int × DSketch) :=
  (F.laws_markIntS a0.2.2.2.2.1 a1).bind fun r1 =>
  (F.laws_markIntS a0.2.2.2.2.2.1 r1.1).bind fun r2 =>
  (F.laws_markIntSS a0.2.2.2.2.2.2.1 r2.1).bind fun r3 =>
  some (r3.1, (a0.1, a0.2.1, a0.2.2.1, a0.2.2.2.1, r1.2, r2.2, r3.2, a0.2.2.2.2.2.2.2))
noncomputable def C.laws_markSketch : Con := ⟨[.c y3, .r (.val (.int .i64))], .one (.int .i64), fun x => F.laws_markSketch x.1 x.2.1⟩
def L.laws_markSketch : Loops := fun _ => none
noncomputable def K.laws_markSketch : Cons := lookK [(118, [], C.laws_markIntS), (119, [], C.laws_markIntSS)]
theorem run.laws_markSketch : ∀ x, runF tb K.laws_markSketch L.laws_markSketch [2] Try.f33 C.laws_markSketch x = C.laws_markSketch.fn x := fun x => by kernel_rfl

/-! ### laws.heldIntS: function 235 -/
noncomputable def F.laws_heldIntS.s2 : ((List Int) × Int × Int × Unit) → Option (Lp ((List Int) × Int × Int × Unit) Int) := fun (x1, x2, x3, _) =>
  bif decide (x3 < (len x1)) then
    chk (inb x3 (List.length x1)) <|
    bif (List.getD x1 ((Int.toNat x3)) 0) != x2 then
      some (.ret (-1))
    else
      some (.again (x1, w64 (x2 + 1), w64 (x3 + 1), ()))
  else
    some (.exit (x1, x2, x3, ()))
noncomputable def F.laws_heldIntS (a0 : List Int) (a1 : Int) : Option Int :=
  afterO (loopO F.laws_heldIntS.s2 (a0, a1, 0, ())) fun (x4, x5, x6, _) =>
  some x5
noncomputable def C.laws_heldIntS : Con := ⟨[.r (.val (.sl false 3 (.int .i64))), .r (.val (.int .i64))], .one (.int .i64), fun x => F.laws_heldIntS x.1 x.2.1⟩
def L.laws_heldIntS : Loops := lookL [(2, ⟨[.pat 0 (.val (.sl false 3 (.int .i64))), .pat 1 (.val (.int .i64)), .pat 5 (.val (.int .i64))], 0⟩)]
noncomputable def K.laws_heldIntS : Cons := lookK []
theorem run.laws_heldIntS : ∀ x, runF tb K.laws_heldIntS L.laws_heldIntS [] Try.f235 C.laws_heldIntS x = C.laws_heldIntS.fn x := fun x => by kernel_rfl

/-! ### laws.heldIntSS: function 236 -/
noncomputable def F.laws_heldIntSS.s2 : ((List (List Int)) × Int × Int × Unit) → Option (Lp ((List (List Int)) × Int × Int × Unit) Int) := fun (x1, x2, x3, _) =>
  bif decide (x3 < (len x1)) then
    chk (inb x3 (List.length x1)) <|
    (F.laws_heldIntS (List.getD x1 ((Int.toNat x3)) (([] : List Int))) x2).bind fun r4 =>
    bif decide (r4 < 0) then
      some (.ret (-1))
    else
      some (.again (x1, r4, w64 (x3 + 1), ()))
  else
    some (.exit (x1, x2, x3, ()))
noncomputable def F.laws_heldIntSS (a0 : List (List Int)) (a1 : Int) : Option Int :=
  afterO (loopO F.laws_heldIntSS.s2 (a0, a1, 0, ())) fun (x5, x6, x7, _) =>
  some x6
noncomputable def C.laws_heldIntSS : Con := ⟨[.r (.val (.sl false 27 (.sl false 3 (.int .i64)))), .r (.val (.int .i64))], .one (.int .i64), fun x => F.laws_heldIntSS x.1 x.2.1⟩
def L.laws_heldIntSS : Loops := lookL [(2, ⟨[.pat 0 (.val (.sl false 27 (.sl false 3 (.int .i64)))), .pat 1 (.val (.int .i64)), .pat 5 (.val (.int .i64))], 0⟩)]
noncomputable def K.laws_heldIntSS : Cons := lookK [(235, [], C.laws_heldIntS)]
theorem run.laws_heldIntSS : ∀ x, runF tb K.laws_heldIntSS L.laws_heldIntSS [] Try.f236 C.laws_heldIntSS x = C.laws_heldIntSS.fn x := fun x => by kernel_rfl

/-! ### laws.heldItemS: function 120 -/
noncomputable def F.laws_heldItemS.s2 : ((List DItem) × Int × Int × Unit) → Option (Lp ((List DItem) × Int × Int × Unit) Int) := fun (x1, x2, x3, _) =>
  bif decide (x3 < (len x1)) then
    chk (inb x3 (List.length x1)) <|
    bif ((List.getD x1 ((Int.toNat x3)) ((0, 0, 0, 0, (0, 0, 0, 0, ([] : List Int), ([] : List Int), ([] : List (List Int)), ()), ()))).1) != x2 then
      some (.ret (-1))
    else
    chk (inb x3 (List.length x1)) <|
    bif (((List.getD x1 ((Int.toNat x3)) ((0, 0, 0, 0, (0, 0, 0, 0, ([] : List Int), ([] : List Int), ([] : List (List Int)), ()), ()))).2).1) != (w64 (x2 + 1)) then
      some (.ret (-1))
    else
    chk (inb x3 (List.length x1)) <|
    bif ((((List.getD x1 ((Int.toNat x3)) ((0, 0, 0, 0, (0, 0, 0, 0, ([] : List Int), ([] : List Int), ([] : List (List Int)), ()), ()))).2).2).1) != (w64 ((w64 (x2 + 1)) + 1)) then
      some (.ret (-1))
    else
    chk (inb x3 (List.length x1)) <|
    bif (((((List.getD x1 ((Int.toNat x3)) ((0, 0, 0, 0, (0, 0, 0, 0, ([] : List Int), ([] : List Int), ([] : List (List Int)), ()), ()))).2).2).2).1) != (w64 ((w64 ((w64 (x2 + 1)) + 1)) + 1)) then
      some (.ret (-1))
    else
    chk (inb x3 (List.length x1)) <|
    bif (((((((List.getD x1 ((Int.toNat x3)) ((0, 0, 0, 0, (0, 0, 0, 0, ([] : List Int), ([] : List Int), ([] : List (List Int)), ()), ()))).2).2).2).2).1).1) != (w64 ((w64 ((w64 ((w64 (x2 + 1)) + 1)) + 1)) + 1)) then
      some (.ret (-1))
    else
    chk (inb x3 (List.length x1)) <|
    bif ((((((((List.getD x1 ((Int.toNat x3)) ((0, 0, 0, 0, (0, 0, 0, 0, ([] : List Int), ([] : List Int), ([] : List (List Int)), ()), ()))).2).2).2).2).1).2).1) != (w64 ((w64 ((w64 ((w64 ((w64 (x2 + 1)) + 1)) + 1)) + 1)) + 1)) then
      some (.ret (-1))
    else
    chk (inb x3 (List.length x1)) <|
    bif (((((((((List.getD x1 ((Int.toNat x3)) ((0, 0, 0, 0, (0, 0, 0, 0, ([] : List Int), ([] : List Int), ([] : List (List Int)), ()), ()))).2).2).2).2).1).2).2).1) != (w64 ((w64 ((w64 ((w64 ((w64 ((w64 (x2 + 1)) + 1)) + 1)) + 1)) + 1)) + 1)) then
      some (.ret (-1))
    else
    chk (inb x3 (List.length x1)) <|
    bif ((((((((((List.getD x1 ((Int.toNat x3)) ((0, 0, 0, 0, (0, 0, 0, 0, ([] : List Int), ([] : List Int), ([] : List (List Int)), ()), ()))).2).2).2).2).1).2).2).2).1) != (w64 ((w64 ((w64 ((w64 ((w64 ((w64 ((w64 (x2 + 1)) + 1)) + 1)) + 1)) + 1)) + 1)) + 1)) then
      some (.ret (-1))
    else
    chk (inb x3 (List.length x1)) <|
    (F.laws_heldIntS (((((((((((List.getD x1 ((Int.toNat x3)) ((0, 0, 0, 0, (0, 0, 0, 0, ([] : List Int), ([] : List Int), ([] : List (List Int)), ()), ()))).2).2).2).2).1).2).2).2).2).1) (w64 ((w64 ((w64 ((w64 ((w64 ((w64 ((w64 ((w64 (x2 + 1)) + 1)) + 1)) + 1)) + 1)) + 1)) + 1)) + 1))).bind fun r4 =>
    bif decide (r4 < 0) then
      some (.ret (-1))
    else
    chk (inb x3 (List.length x1)) <|
    (F.laws_heldIntS ((((((((((((List.getD x1 ((Int.toNat x3)) ((0, 0, 0, 0, (0, 0, 0, 0, ([] : List Int), ([] : List Int), ([] : List (List Int)), ()), ()))).2).2).2).2).1).2).2).2).2).2).1) r4).bind fun r5 =>
    bif decide (r5 < 0) then
      some (.ret (-1))
    else
    chk (inb x3 (List.length x1)) <|
    (F.laws_heldIntSS (((((((((((((List.getD x1 ((Int.toNat x3)) ((0, 0, 0, 0, (0, 0, 0, 0, ([] : List Int), ([] : List Int), ([] : List (List Int)), ()), ()))).2).2).2).2).1).2).2).2).2).2).2).1) r5).bind fun r6 =>
    bif decide (r6 < 0) then
      some (.ret (-1))
    else
      some (.again (x1, r6, w64 (x3 + 1), ()))
  else
    some (.exit (x1, x2, x3, ()))
noncomputable def F.laws_heldItemS (a0 : List DItem) (a1 : Int) : Option Int :=
  afterO (loopO F.laws_heldItemS.s2 (a0, a1, 0, ())) fun (x7, x8, x9, _) =>
  some x8
noncomputable def C.laws_heldItemS : Con := ⟨[.r (.val (.sl false 96 y6)), .r (.val (.int .i64))], .one (.int .i64), fun x => F.laws_heldItemS x.1 x.2.1⟩
def L.laws_heldItemS : Loops := lookL [(2, ⟨[.pat 0 (.val (.sl false 96 y6)), .pat 1 (.val (.int .i64)), .pat 5 (.val (.int .i64))], 0⟩)]
noncomputable def K.laws_heldItemS : Cons := lookK [(235, [], C.laws_heldIntS), (236, [], C.laws_heldIntSS)]
theorem run.laws_heldItemS : ∀ x, runF tb K.laws_heldItemS L.laws_heldItemS [] Try.f120 C.laws_heldItemS x = C.laws_heldItemS.fn x := fun x => by kernel_rfl

/-! ### laws.heldSpanS: function 84 -/
noncomputable def F.laws_heldSpanS.s2 : ((List DSpan) × Int × Int × Unit) → Option (Lp ((List DSpan) × Int × Int × Unit) Int) := fun (x1, x2, x3, _) =>
  bif decide (x3 < (len x1)) then
    chk (inb x3 (List.length x1)) <|
    bif ((List.getD x1 ((Int.toNat x3)) ((0, 0, ()))).1) != x2 then
      some (.ret (-1))
    else
    chk (inb x3 (List.length x1)) <|
    bif (((List.getD x1 ((Int.toNat x3)) ((0, 0, ()))).2).1) != (w64 (x2 + 1)) then
      some (.ret (-1))
    else
      some (.again (x1, w64 ((w64 (x2 + 1)) + 1), w64 (x3 + 1), ()))
  else
    some (.exit (x1, x2, x3, ()))
noncomputable def F.laws_heldSpanS (a0 : List DSpan) (a1 : Int) : Option Int :=
  afterO (loopO F.laws_heldSpanS.s2 (a0, a1, 0, ())) fun (x4, x5, x6, _) =>
  some x5
noncomputable def C.laws_heldSpanS : Con := ⟨[.r (.val (.sl false 175 y0)), .r (.val (.int .i64))], .one (.int .i64), fun x => F.laws_heldSpanS x.1 x.2.1⟩
def L.laws_heldSpanS : Loops := lookL [(2, ⟨[.pat 0 (.val (.sl false 175 y0)), .pat 1 (.val (.int .i64)), .pat 5 (.val (.int .i64))], 0⟩)]
noncomputable def K.laws_heldSpanS : Cons := lookK []
theorem run.laws_heldSpanS : ∀ x, runF tb K.laws_heldSpanS L.laws_heldSpanS [] Try.f84 C.laws_heldSpanS x = C.laws_heldSpanS.fn x := fun x => by kernel_rfl

/-! ### laws.heldAgent: function 34 -/
noncomputable def F.laws_heldAgent (a0 : DAgent) (a1 : Int) : Option Int :=
  (F.laws_heldItemS a0.2.2.2.2.1 a1).bind fun r1 =>
  bif decide (r1 < 0) then
    some (-1)
  else
  (F.laws_heldSpanS a0.2.2.2.2.2.1 r1).bind fun r2 =>
  bif decide (r2 < 0) then
    some (-1)
  else
    some r2
noncomputable def C.laws_heldAgent : Con := ⟨[.r (.val y10), .r (.val (.int .i64))], .one (.int .i64), fun x => F.laws_heldAgent x.1 x.2.1⟩
def L.laws_heldAgent : Loops := fun _ => none
noncomputable def K.laws_heldAgent : Cons := lookK [(84, [], C.laws_heldSpanS), (120, [], C.laws_heldItemS)]
theorem run.laws_heldAgent : ∀ x, runF tb K.laws_heldAgent L.laws_heldAgent [] Try.f34 C.laws_heldAgent x = C.laws_heldAgent.fn x := fun x => by kernel_rfl

/-! ### laws.FnExactSeal: function 4 -/
noncomputable def F.laws_FnExactSeal (a0 : DAgent) (a1 : Int) (a2 : Int) (a3 : Int) (a4 : DSketch) : Option Bool :=
  (F.laws_szAgent a0 1048576).bind fun r1 =>
  bif decide (r1 < 0) then
    some true
  else
  (F.laws_szSketch a4 r1).bind fun r2 =>
  bif decide (r2 < 0) then
    some true
  else
  (F.laws_toAgent a0).bind fun r3 =>
  (F.laws_toSketch a4).bind fun r4 =>
  (F.spec_Seal r3 a1 a2 a3 r4).bind fun r5 =>
  (F.laws_toAgent a0).bind fun r6 =>
  (F.laws_toSketch a4).bind fun r7 =>
  (F.impl_Seal r6 a1 a2 a3 r7).bind fun r8 =>
  (F.laws_eqAgent r8.1 r5.1).bind fun r9 =>
  bif !r9 then
    some false
  else
  bif r8.2 != r5.2 then
    some false
  else
  (F.laws_toAgent a0).bind fun r10 =>
  (F.laws_eqAgent r6 r10).bind fun r11 =>
  bif !r11 then
    some false
  else
  (F.laws_toSketch a4).bind fun r12 =>
  (F.laws_eqSketch r7 r12).bind fun r13 =>
  bif !r13 then
    some false
  else
  (F.laws_markAgent r6 1).bind fun r14 =>
  (F.laws_markSketch r7 r14.1).bind fun r15 =>
  bif decide (r15.1 < 0) then
    some false
  else
  (F.laws_eqAgent r8.1 r5.1).bind fun r16 =>
  bif !r16 then
    some false
  else
  bif r8.2 != r5.2 then
    some false
  else
  (F.laws_markAgent r8.1 1).bind fun r17 =>
  (F.laws_heldAgent r17.2 1).bind fun r18 =>
  bif decide (r18 < 0) then
    some false
  else
  bif r18 != r17.1 then
    some false
  else
  (F.laws_toAgent a0).bind fun r19 =>
  (F.laws_toSketch a4).bind fun r20 =>
  (F.impl_Seal r19 a1 a2 a3 r20).bind fun r21 =>
  (F.laws_eqAgent r21.1 r5.1).bind fun r22 =>
  bif !r22 then
    some false
  else
  bif r21.2 != r5.2 then
    some false
  else
  (F.laws_heldAgent r17.2 1).bind fun r23 =>
  bif decide (r23 < 0) then
    some false
  else
  bif r23 != r17.1 then
    some false
  else
    some true
noncomputable def C.laws_FnExactSeal : Con := ⟨[.r (.val y7), .r (.val (.int .i64)), .r (.val (.int .i64)), .r (.val (.int .i64)), .r (.val y1)], .one .bool, fun x => F.laws_FnExactSeal x.1 x.2.1 x.2.2.1 x.2.2.2.1 x.2.2.2.2.1⟩
def L.laws_FnExactSeal : Loops := fun _ => none
noncomputable def K.laws_FnExactSeal : Cons := lookK [(24, [], C.laws_szAgent), (25, [], C.laws_szSketch), (26, [], C.spec_Seal), (27, [], C.laws_toAgent), (28, [], C.laws_toSketch), (29, [], C.impl_Seal), (30, [], C.laws_eqAgent), (31, [], C.laws_eqSketch), (32, [], C.laws_markAgent), (33, [], C.laws_markSketch), (34, [], C.laws_heldAgent)]
theorem run.laws_FnExactSeal : ∀ x, runF tb K.laws_FnExactSeal L.laws_FnExactSeal [] Try.f4 C.laws_FnExactSeal x = C.laws_FnExactSeal.fn x := fun x => by kernel_rfl

/-! ### laws.szConf: function 72 -/
noncomputable def F.laws_szConf (a0 : DConf) (a1 : Int) : Option Int :=
  (F.laws_szIntS a0.2.2.2.1 a1).bind fun r1 =>
  bif decide (r1 < 0) then
    some (-1)
  else
    some r1
noncomputable def C.laws_szConf : Con := ⟨[.r (.val y11), .r (.val (.int .i64))], .one (.int .i64), fun x => F.laws_szConf x.1 x.2.1⟩
def L.laws_szConf : Loops := fun _ => none
noncomputable def K.laws_szConf : Cons := lookK [(103, [], C.laws_szIntS)]
theorem run.laws_szConf : ∀ x, runF tb K.laws_szConf L.laws_szConf [] Try.f72 C.laws_szConf x = C.laws_szConf.fn x := fun x => by kernel_rfl

/-! ### laws.szSeat: function 40 -/
noncomputable def F.laws_szSeat (a0 : DSeat) (a1 : Int) : Option Int :=
  (F.laws_szSpanS a0.2.2.1 a1).bind fun r1 =>
  bif decide (r1 < 0) then
    some (-1)
  else
    some r1
noncomputable def C.laws_szSeat : Con := ⟨[.r (.val y12), .r (.val (.int .i64))], .one (.int .i64), fun x => F.laws_szSeat x.1 x.2.1⟩
def L.laws_szSeat : Loops := fun _ => none
noncomputable def K.laws_szSeat : Cons := lookK [(102, [], C.laws_szSpanS)]
theorem run.laws_szSeat : ∀ x, runF tb K.laws_szSeat L.laws_szSeat [] Try.f40 C.laws_szSeat x = C.laws_szSeat.fn x := fun x => by kernel_rfl

/-! ### laws.szSeatS: function 121 -/
noncomputable def F.laws_szSeatS.s5 : ((List DSeat) × Int × Int × Unit) → Option (Lp ((List DSeat) × Int × Int × Unit) Int) := fun (x1, x2, x3, _) =>
  bif decide (x3 < (len x1)) then
    chk (inb x3 (List.length x1)) <|
    (F.laws_szSeat (List.getD x1 ((Int.toNat x3)) ((0, 0, ([] : List DSpan), 0, 0, ()))) x2).bind fun r4 =>
    bif decide (r4 < 0) then
      some (.ret (-1))
    else
      some (.again (x1, r4, w64 (x3 + 1), ()))
  else
    some (.exit (x1, x2, x3, ()))
noncomputable def F.laws_szSeatS (a0 : List DSeat) (a1 : Int) : Option Int :=
  bif decide ((w64 (a1 - (len a0))) < 0) then
    some (-1)
  else
  afterO (loopO F.laws_szSeatS.s5 (a0, w64 (a1 - (len a0)), 0, ())) fun (x5, x6, x7, _) =>
  some x6
noncomputable def C.laws_szSeatS : Con := ⟨[.r (.val (.sl false 84 y12)), .r (.val (.int .i64))], .one (.int .i64), fun x => F.laws_szSeatS x.1 x.2.1⟩
def L.laws_szSeatS : Loops := lookL [(5, ⟨[.pat 0 (.val (.sl false 84 y12)), .pat 1 (.val (.int .i64)), .pat 5 (.val (.int .i64))], 0⟩)]
noncomputable def K.laws_szSeatS : Cons := lookK [(40, [], C.laws_szSeat)]
theorem run.laws_szSeatS : ∀ x, runF tb K.laws_szSeatS L.laws_szSeatS [] Try.f121 C.laws_szSeatS x = C.laws_szSeatS.fn x := fun x => by kernel_rfl

/-! ### laws.szRowS: function 243 -/
noncomputable def F.laws_szRowS.s5 : ((List DRow) × Int × Int × Unit) → Option (Lp ((List DRow) × Int × Int × Unit) Int) := fun (x1, x2, x3, _) =>
  bif decide (x3 < (len x1)) then
    chk (inb x3 (List.length x1)) <|
    (F.laws_szRow (List.getD x1 ((Int.toNat x3)) ((([] : List DEntry), ()))) x2).bind fun r4 =>
    bif decide (r4 < 0) then
      some (.ret (-1))
    else
      some (.again (x1, r4, w64 (x3 + 1), ()))
  else
    some (.exit (x1, x2, x3, ()))
noncomputable def F.laws_szRowS (a0 : List DRow) (a1 : Int) : Option Int :=
  bif decide ((w64 (a1 - (len a0))) < 0) then
    some (-1)
  else
  afterO (loopO F.laws_szRowS.s5 (a0, w64 (a1 - (len a0)), 0, ())) fun (x5, x6, x7, _) =>
  some x6
noncomputable def C.laws_szRowS : Con := ⟨[.r (.val (.sl false 24 (.cons (.sl false 240 y2) .nil))), .r (.val (.int .i64))], .one (.int .i64), fun x => F.laws_szRowS x.1 x.2.1⟩
def L.laws_szRowS : Loops := lookL [(5, ⟨[.pat 0 (.val (.sl false 24 (.cons (.sl false 240 y2) .nil))), .pat 1 (.val (.int .i64)), .pat 5 (.val (.int .i64))], 0⟩)]
noncomputable def K.laws_szRowS : Cons := lookK [(14, [], C.laws_szRow)]
theorem run.laws_szRowS : ∀ x, runF tb K.laws_szRowS L.laws_szRowS [] Try.f243 C.laws_szRowS x = C.laws_szRowS.fn x := fun x => by kernel_rfl

/-! ### laws.szRowSS: function 122 -/
noncomputable def F.laws_szRowSS.s5 : ((List (List DRow)) × Int × Int × Unit) → Option (Lp ((List (List DRow)) × Int × Int × Unit) Int) := fun (x1, x2, x3, _) =>
  bif decide (x3 < (len x1)) then
    chk (inb x3 (List.length x1)) <|
    (F.laws_szRowS (List.getD x1 ((Int.toNat x3)) (([] : List DRow))) x2).bind fun r4 =>
    bif decide (r4 < 0) then
      some (.ret (-1))
    else
      some (.again (x1, r4, w64 (x3 + 1), ()))
  else
    some (.exit (x1, x2, x3, ()))
noncomputable def F.laws_szRowSS (a0 : List (List DRow)) (a1 : Int) : Option Int :=
  bif decide ((w64 (a1 - (len a0))) < 0) then
    some (-1)
  else
  afterO (loopO F.laws_szRowSS.s5 (a0, w64 (a1 - (len a0)), 0, ())) fun (x5, x6, x7, _) =>
  some x6
noncomputable def C.laws_szRowSS : Con := ⟨[.r (.val (.sl false 254 (.sl false 24 (.cons (.sl false 240 y2) .nil)))), .r (.val (.int .i64))], .one (.int .i64), fun x => F.laws_szRowSS x.1 x.2.1⟩
def L.laws_szRowSS : Loops := lookL [(5, ⟨[.pat 0 (.val (.sl false 254 (.sl false 24 (.cons (.sl false 240 y2) .nil)))), .pat 1 (.val (.int .i64)), .pat 5 (.val (.int .i64))], 0⟩)]
noncomputable def K.laws_szRowSS : Cons := lookK [(243, [], C.laws_szRowS)]
theorem run.laws_szRowSS : ∀ x, runF tb K.laws_szRowSS L.laws_szRowSS [] Try.f122 C.laws_szRowSS x = C.laws_szRowSS.fn x := fun x => by kernel_rfl

/-! ### laws.szTurn: function 244 -/
noncomputable def F.laws_szTurn (a0 : DTurn) (a1 : Int) : Option Int :=
  (F.laws_szIntS a0.2.2.1 a1).bind fun r1 =>
  bif decide (r1 < 0) then
    some (-1)
  else
    some r1
noncomputable def C.laws_szTurn : Con := ⟨[.r (.val y13), .r (.val (.int .i64))], .one (.int .i64), fun x => F.laws_szTurn x.1 x.2.1⟩
def L.laws_szTurn : Loops := fun _ => none
noncomputable def K.laws_szTurn : Cons := lookK [(103, [], C.laws_szIntS)]
theorem run.laws_szTurn : ∀ x, runF tb K.laws_szTurn L.laws_szTurn [] Try.f244 C.laws_szTurn x = C.laws_szTurn.fn x := fun x => by kernel_rfl

/-! ### laws.szTurnS: function 123 -/
noncomputable def F.laws_szTurnS.s5 : ((List DTurn) × Int × Int × Unit) → Option (Lp ((List DTurn) × Int × Int × Unit) Int) := fun (x1, x2, x3, _) =>
  bif decide (x3 < (len x1)) then
    chk (inb x3 (List.length x1)) <|
    (F.laws_szTurn (List.getD x1 ((Int.toNat x3)) ((0, false, ([] : List Int), ()))) x2).bind fun r4 =>
    bif decide (r4 < 0) then
      some (.ret (-1))
    else
      some (.again (x1, r4, w64 (x3 + 1), ()))
  else
    some (.exit (x1, x2, x3, ()))
noncomputable def F.laws_szTurnS (a0 : List DTurn) (a1 : Int) : Option Int :=
  bif decide ((w64 (a1 - (len a0))) < 0) then
    some (-1)
  else
  afterO (loopO F.laws_szTurnS.s5 (a0, w64 (a1 - (len a0)), 0, ())) fun (x5, x6, x7, _) =>
  some x6
noncomputable def C.laws_szTurnS : Con := ⟨[.r (.val (.sl false 256 y13)), .r (.val (.int .i64))], .one (.int .i64), fun x => F.laws_szTurnS x.1 x.2.1⟩
def L.laws_szTurnS : Loops := lookL [(5, ⟨[.pat 0 (.val (.sl false 256 y13)), .pat 1 (.val (.int .i64)), .pat 5 (.val (.int .i64))], 0⟩)]
noncomputable def K.laws_szTurnS : Cons := lookK [(244, [], C.laws_szTurn)]
theorem run.laws_szTurnS : ∀ x, runF tb K.laws_szTurnS L.laws_szTurnS [] Try.f123 C.laws_szTurnS x = C.laws_szTurnS.fn x := fun x => by kernel_rfl

/-! ### laws.szOut: function 245 -/
noncomputable def F.laws_szOut (a0 : DOut) (a1 : Int) : Option Int :=
  (F.laws_szEntry a0.2.1 a1).bind fun r1 =>
  bif decide (r1 < 0) then
    some (-1)
  else
    some r1
noncomputable def C.laws_szOut : Con := ⟨[.r (.val y14), .r (.val (.int .i64))], .one (.int .i64), fun x => F.laws_szOut x.1 x.2.1⟩
def L.laws_szOut : Loops := fun _ => none
noncomputable def K.laws_szOut : Cons := lookK [(228, [], C.laws_szEntry)]
theorem run.laws_szOut : ∀ x, runF tb K.laws_szOut L.laws_szOut [] Try.f245 C.laws_szOut x = C.laws_szOut.fn x := fun x => by kernel_rfl

/-! ### laws.szOutS: function 124 -/
noncomputable def F.laws_szOutS.s5 : ((List DOut) × Int × Int × Unit) → Option (Lp ((List DOut) × Int × Int × Unit) Int) := fun (x1, x2, x3, _) =>
  bif decide (x3 < (len x1)) then
    chk (inb x3 (List.length x1)) <|
    (F.laws_szOut (List.getD x1 ((Int.toNat x3)) ((0, (0, 0, ([] : List DSpan), (0, 0, 0, 0, ([] : List Int), ([] : List Int), ([] : List (List Int)), ()), ()), ()))) x2).bind fun r4 =>
    bif decide (r4 < 0) then
      some (.ret (-1))
    else
      some (.again (x1, r4, w64 (x3 + 1), ()))
  else
    some (.exit (x1, x2, x3, ()))
noncomputable def F.laws_szOutS (a0 : List DOut) (a1 : Int) : Option Int :=
  bif decide ((w64 (a1 - (len a0))) < 0) then
    some (-1)
  else
  afterO (loopO F.laws_szOutS.s5 (a0, w64 (a1 - (len a0)), 0, ())) fun (x5, x6, x7, _) =>
  some x6
noncomputable def C.laws_szOutS : Con := ⟨[.r (.val (.sl false 259 y14)), .r (.val (.int .i64))], .one (.int .i64), fun x => F.laws_szOutS x.1 x.2.1⟩
def L.laws_szOutS : Loops := lookL [(5, ⟨[.pat 0 (.val (.sl false 259 y14)), .pat 1 (.val (.int .i64)), .pat 5 (.val (.int .i64))], 0⟩)]
noncomputable def K.laws_szOutS : Cons := lookK [(245, [], C.laws_szOut)]
theorem run.laws_szOutS : ∀ x, runF tb K.laws_szOutS L.laws_szOutS [] Try.f124 C.laws_szOutS x = C.laws_szOutS.fn x := fun x => by kernel_rfl

/-! ### laws.szHouse: function 35 -/
noncomputable def F.laws_szHouse (a0 : DHouse) (a1 : Int) : Option Int :=
  (F.laws_szConf a0.1 a1).bind fun r1 =>
  bif decide (r1 < 0) then
    some (-1)
  else
  (F.laws_szSeatS a0.2.2.2.1 r1).bind fun r2 =>
  bif decide (r2 < 0) then
    some (-1)
  else
  (F.laws_szRowSS a0.2.2.2.2.1 r2).bind fun r3 =>
  bif decide (r3 < 0) then
    some (-1)
  else
  (F.laws_szTurnS a0.2.2.2.2.2.1 r3).bind fun r4 =>
  bif decide (r4 < 0) then
    some (-1)
  else
  (F.laws_szEntryS a0.2.2.2.2.2.2.2.1 r4).bind fun r5 =>
  bif decide (r5 < 0) then
    some (-1)
  else
  (F.laws_szOutS a0.2.2.2.2.2.2.2.2.1 r5).bind fun r6 =>
  bif decide (r6 < 0) then
    some (-1)
  else
    some r6
noncomputable def C.laws_szHouse : Con := ⟨[.r (.val y15), .r (.val (.int .i64))], .one (.int .i64), fun x => F.laws_szHouse x.1 x.2.1⟩
def L.laws_szHouse : Loops := fun _ => none
noncomputable def K.laws_szHouse : Cons := lookK [(72, [], C.laws_szConf), (91, [], C.laws_szEntryS), (121, [], C.laws_szSeatS), (122, [], C.laws_szRowSS), (123, [], C.laws_szTurnS), (124, [], C.laws_szOutS)]
theorem run.laws_szHouse : ∀ x, runF tb K.laws_szHouse L.laws_szHouse [] Try.f35 C.laws_szHouse x = C.laws_szHouse.fn x := fun x => by kernel_rfl

/-! ### laws.toConf: function 74 -/
noncomputable def F.laws_toConf (a0 : DConf) : Option DConf :=
  (F.laws_toIntS a0.2.2.2.1).bind fun r1 =>
  some (a0.1, a0.2.1, a0.2.2.1, r1, a0.2.2.2.2.1, a0.2.2.2.2.2.1, a0.2.2.2.2.2.2.1, a0.2.2.2.2.2.2.2.1, ())
noncomputable def C.laws_toConf : Con := ⟨[.r (.val y11)], .one y16, fun x => F.laws_toConf x.1⟩
def L.laws_toConf : Loops := fun _ => none
noncomputable def K.laws_toConf : Cons := lookK [(110, [], C.laws_toIntS)]
theorem run.laws_toConf : ∀ x, runF tb K.laws_toConf L.laws_toConf [] Try.f74 C.laws_toConf x = C.laws_toConf.fn x := fun x => by kernel_rfl

/-! ### laws.toSeat: function 42 -/
noncomputable def F.laws_toSeat (a0 : DSeat) : Option DSeat :=
  (F.laws_toSpanS a0.2.2.1).bind fun r1 =>
  some (a0.1, a0.2.1, r1, a0.2.2.2.1, a0.2.2.2.2.1, ())
noncomputable def C.laws_toSeat : Con := ⟨[.r (.val y12)], .one y17, fun x => F.laws_toSeat x.1⟩
def L.laws_toSeat : Loops := fun _ => none
noncomputable def K.laws_toSeat : Cons := lookK [(109, [], C.laws_toSpanS)]
theorem run.laws_toSeat : ∀ x, runF tb K.laws_toSeat L.laws_toSeat [] Try.f42 C.laws_toSeat x = C.laws_toSeat.fn x := fun x => by kernel_rfl

/-! ### laws.toSeatS: function 125 -/
noncomputable def F.laws_toSeatS.s3 : ((List DSeat) × (List DSeat) × Int × Unit) → Option (Lp ((List DSeat) × (List DSeat) × Int × Unit) ((List DSeat))) := fun (x1, x2, x3, _) =>
  bif decide (x3 < (len x1)) then
    chk (inb x3 (List.length x1)) <|
    (F.laws_toSeat (List.getD x1 ((Int.toNat x3)) ((0, 0, ([] : List DSpan), 0, 0, ())))).bind fun r4 =>
    chk (inb x3 (List.length x2)) <|
    some (.again (x1, List.set x2 ((Int.toNat x3)) r4, w64 (x3 + 1), ()))
  else
    some (.exit (x1, x2, x3, ()))
noncomputable def F.laws_toSeatS (a0 : List DSeat) : Option ((List DSeat)) :=
  chk (mk 56 (len a0) (len a0)) <|
  afterO (loopO F.laws_toSeatS.s3 (a0, List.replicate (Int.toNat (len a0)) ((0, 0, ([] : List DSpan), 0, 0, ())), 0, ())) fun (x5, x6, x7, _) =>
  some x6
noncomputable def C.laws_toSeatS : Con := ⟨[.r (.val (.sl false 84 y12))], .one (.sl true 87 y17), fun x => F.laws_toSeatS x.1⟩
def L.laws_toSeatS : Loops := lookL [(3, ⟨[.pat 0 (.val (.sl false 84 y12)), .own 3 (.sl true 87 y17), .pat 4 (.val (.int .i64))], 0⟩)]
noncomputable def K.laws_toSeatS : Cons := lookK [(42, [], C.laws_toSeat)]
theorem run.laws_toSeatS : ∀ x, runF tb K.laws_toSeatS L.laws_toSeatS [] Try.f125 C.laws_toSeatS x = C.laws_toSeatS.fn x := fun x => by kernel_rfl

/-! ### laws.toRowS: function 246 -/
noncomputable def F.laws_toRowS.s3 : ((List DRow) × (List DRow) × Int × Unit) → Option (Lp ((List DRow) × (List DRow) × Int × Unit) ((List DRow))) := fun (x1, x2, x3, _) =>
  bif decide (x3 < (len x1)) then
    chk (inb x3 (List.length x1)) <|
    (F.laws_toRow (List.getD x1 ((Int.toNat x3)) ((([] : List DEntry), ())))).bind fun r4 =>
    chk (inb x3 (List.length x2)) <|
    some (.again (x1, List.set x2 ((Int.toNat x3)) r4, w64 (x3 + 1), ()))
  else
    some (.exit (x1, x2, x3, ()))
noncomputable def F.laws_toRowS (a0 : List DRow) : Option ((List DRow)) :=
  chk (mk 24 (len a0) (len a0)) <|
  afterO (loopO F.laws_toRowS.s3 (a0, List.replicate (Int.toNat (len a0)) ((([] : List DEntry), ())), 0, ())) fun (x5, x6, x7, _) =>
  some x6
noncomputable def C.laws_toRowS : Con := ⟨[.r (.val (.sl false 24 (.cons (.sl false 240 y2) .nil)))], .one (.sl true 35 (.cons (.sl true 32 y4) .nil)), fun x => F.laws_toRowS x.1⟩
def L.laws_toRowS : Loops := lookL [(3, ⟨[.pat 0 (.val (.sl false 24 (.cons (.sl false 240 y2) .nil))), .own 3 (.sl true 35 (.cons (.sl true 32 y4) .nil)), .pat 4 (.val (.int .i64))], 0⟩)]
noncomputable def K.laws_toRowS : Cons := lookK [(16, [], C.laws_toRow)]
theorem run.laws_toRowS : ∀ x, runF tb K.laws_toRowS L.laws_toRowS [] Try.f246 C.laws_toRowS x = C.laws_toRowS.fn x := fun x => by kernel_rfl

/-! ### laws.toRowSS: function 126 -/
noncomputable def F.laws_toRowSS.s3 : ((List (List DRow)) × (List (List DRow)) × Int × Unit) → Option (Lp ((List (List DRow)) × (List (List DRow)) × Int × Unit) ((List (List DRow)))) := fun (x1, x2, x3, _) =>
  bif decide (x3 < (len x1)) then
    chk (inb x3 (List.length x1)) <|
    (F.laws_toRowS (List.getD x1 ((Int.toNat x3)) (([] : List DRow)))).bind fun r4 =>
    chk (inb x3 (List.length x2)) <|
    some (.again (x1, List.set x2 ((Int.toNat x3)) r4, w64 (x3 + 1), ()))
  else
    some (.exit (x1, x2, x3, ()))
noncomputable def F.laws_toRowSS (a0 : List (List DRow)) : Option ((List (List DRow))) :=
  chk (mk 24 (len a0) (len a0)) <|
  afterO (loopO F.laws_toRowSS.s3 (a0, List.replicate (Int.toNat (len a0)) (([] : List DRow)), 0, ())) fun (x5, x6, x7, _) =>
  some x6
noncomputable def C.laws_toRowSS : Con := ⟨[.r (.val (.sl false 254 (.sl false 24 (.cons (.sl false 240 y2) .nil))))], .one (.sl true 159 (.sl true 35 (.cons (.sl true 32 y4) .nil))), fun x => F.laws_toRowSS x.1⟩
def L.laws_toRowSS : Loops := lookL [(3, ⟨[.pat 0 (.val (.sl false 254 (.sl false 24 (.cons (.sl false 240 y2) .nil)))), .own 3 (.sl true 159 (.sl true 35 (.cons (.sl true 32 y4) .nil))), .pat 4 (.val (.int .i64))], 0⟩)]
noncomputable def K.laws_toRowSS : Cons := lookK [(246, [], C.laws_toRowS)]
theorem run.laws_toRowSS : ∀ x, runF tb K.laws_toRowSS L.laws_toRowSS [] Try.f126 C.laws_toRowSS x = C.laws_toRowSS.fn x := fun x => by kernel_rfl

/-! ### laws.toTurn: function 247 -/
noncomputable def F.laws_toTurn (a0 : DTurn) : Option DTurn :=
  (F.laws_toIntS a0.2.2.1).bind fun r1 =>
  some (a0.1, a0.2.1, r1, ())
noncomputable def C.laws_toTurn : Con := ⟨[.r (.val y13)], .one y18, fun x => F.laws_toTurn x.1⟩
def L.laws_toTurn : Loops := fun _ => none
noncomputable def K.laws_toTurn : Cons := lookK [(110, [], C.laws_toIntS)]
theorem run.laws_toTurn : ∀ x, runF tb K.laws_toTurn L.laws_toTurn [] Try.f247 C.laws_toTurn x = C.laws_toTurn.fn x := fun x => by kernel_rfl

/-! ### laws.toTurnS: function 127 -/
noncomputable def F.laws_toTurnS.s3 : ((List DTurn) × (List DTurn) × Int × Unit) → Option (Lp ((List DTurn) × (List DTurn) × Int × Unit) ((List DTurn))) := fun (x1, x2, x3, _) =>
  bif decide (x3 < (len x1)) then
    chk (inb x3 (List.length x1)) <|
    (F.laws_toTurn (List.getD x1 ((Int.toNat x3)) ((0, false, ([] : List Int), ())))).bind fun r4 =>
    chk (inb x3 (List.length x2)) <|
    some (.again (x1, List.set x2 ((Int.toNat x3)) r4, w64 (x3 + 1), ()))
  else
    some (.exit (x1, x2, x3, ()))
noncomputable def F.laws_toTurnS (a0 : List DTurn) : Option ((List DTurn)) :=
  chk (mk 40 (len a0) (len a0)) <|
  afterO (loopO F.laws_toTurnS.s3 (a0, List.replicate (Int.toNat (len a0)) ((0, false, ([] : List Int), ())), 0, ())) fun (x5, x6, x7, _) =>
  some x6
noncomputable def C.laws_toTurnS : Con := ⟨[.r (.val (.sl false 256 y13))], .one (.sl true 192 y18), fun x => F.laws_toTurnS x.1⟩
def L.laws_toTurnS : Loops := lookL [(3, ⟨[.pat 0 (.val (.sl false 256 y13)), .own 3 (.sl true 192 y18), .pat 4 (.val (.int .i64))], 0⟩)]
noncomputable def K.laws_toTurnS : Cons := lookK [(247, [], C.laws_toTurn)]
theorem run.laws_toTurnS : ∀ x, runF tb K.laws_toTurnS L.laws_toTurnS [] Try.f127 C.laws_toTurnS x = C.laws_toTurnS.fn x := fun x => by kernel_rfl

/-! ### laws.toOut: function 248 -/
noncomputable def F.laws_toOut (a0 : DOut) : Option DOut :=
  (F.laws_toEntry a0.2.1).bind fun r1 =>
  some (a0.1, r1, ())
noncomputable def C.laws_toOut : Con := ⟨[.r (.val y14)], .one y19, fun x => F.laws_toOut x.1⟩
def L.laws_toOut : Loops := fun _ => none
noncomputable def K.laws_toOut : Cons := lookK [(232, [], C.laws_toEntry)]
theorem run.laws_toOut : ∀ x, runF tb K.laws_toOut L.laws_toOut [] Try.f248 C.laws_toOut x = C.laws_toOut.fn x := fun x => by kernel_rfl

/-! ### laws.toOutS: function 128 -/
noncomputable def F.laws_toOutS.s3 : ((List DOut) × (List DOut) × Int × Unit) → Option (Lp ((List DOut) × (List DOut) × Int × Unit) ((List DOut))) := fun (x1, x2, x3, _) =>
  bif decide (x3 < (len x1)) then
    chk (inb x3 (List.length x1)) <|
    (F.laws_toOut (List.getD x1 ((Int.toNat x3)) ((0, (0, 0, ([] : List DSpan), (0, 0, 0, 0, ([] : List Int), ([] : List Int), ([] : List (List Int)), ()), ()), ())))).bind fun r4 =>
    chk (inb x3 (List.length x2)) <|
    some (.again (x1, List.set x2 ((Int.toNat x3)) r4, w64 (x3 + 1), ()))
  else
    some (.exit (x1, x2, x3, ()))
noncomputable def F.laws_toOutS (a0 : List DOut) : Option ((List DOut)) :=
  chk (mk 152 (len a0) (len a0)) <|
  afterO (loopO F.laws_toOutS.s3 (a0, List.replicate (Int.toNat (len a0)) ((0, (0, 0, ([] : List DSpan), (0, 0, 0, 0, ([] : List Int), ([] : List Int), ([] : List (List Int)), ()), ()), ())), 0, ())) fun (x5, x6, x7, _) =>
  some x6
noncomputable def C.laws_toOutS : Con := ⟨[.r (.val (.sl false 259 y14))], .one (.sl true 194 y19), fun x => F.laws_toOutS x.1⟩
def L.laws_toOutS : Loops := lookL [(3, ⟨[.pat 0 (.val (.sl false 259 y14)), .own 3 (.sl true 194 y19), .pat 4 (.val (.int .i64))], 0⟩)]
noncomputable def K.laws_toOutS : Cons := lookK [(248, [], C.laws_toOut)]
theorem run.laws_toOutS : ∀ x, runF tb K.laws_toOutS L.laws_toOutS [] Try.f128 C.laws_toOutS x = C.laws_toOutS.fn x := fun x => by kernel_rfl

/-! ### laws.toHouse: function 37 -/
noncomputable def F.laws_toHouse (a0 : DHouse) : Option DHouse :=
  (F.laws_toConf a0.1).bind fun r1 =>
  (F.laws_toSeatS a0.2.2.2.1).bind fun r2 =>
  (F.laws_toRowSS a0.2.2.2.2.1).bind fun r3 =>
  (F.laws_toTurnS a0.2.2.2.2.2.1).bind fun r4 =>
  (F.laws_toEntryS a0.2.2.2.2.2.2.2.1).bind fun r5 =>
  (F.laws_toOutS a0.2.2.2.2.2.2.2.2.1).bind fun r6 =>
  some (r1, a0.2.1, a0.2.2.1, r2, r3, r4, a0.2.2.2.2.2.2.1, r5, r6, ())
noncomputable def C.laws_toHouse : Con := ⟨[.r (.val y15)], .one y20, fun x => F.laws_toHouse x.1⟩
def L.laws_toHouse : Loops := fun _ => none
noncomputable def K.laws_toHouse : Cons := lookK [(74, [], C.laws_toConf), (94, [], C.laws_toEntryS), (125, [], C.laws_toSeatS), (126, [], C.laws_toRowSS), (127, [], C.laws_toTurnS), (128, [], C.laws_toOutS)]
theorem run.laws_toHouse : ∀ x, runF tb K.laws_toHouse L.laws_toHouse [] Try.f37 C.laws_toHouse x = C.laws_toHouse.fn x := fun x => by kernel_rfl

/-! ### spec.Items: function 36 -/
noncomputable def F.spec_Items.s6 : (Int × Int × Int × DHouse × Unit) → Option (Lp (Int × Int × Int × DHouse × Unit) (Lp (Int × Int × DHouse × Unit) Int)) := fun (x4, x5, x6, x7, _) =>
  chk (inb x5 (List.length x7.2.2.2.2.1)) <|
  bif decide (x6 < (len (List.getD x7.2.2.2.2.1 ((Int.toNat x5)) (([] : List DRow))))) then
    chk (inb x5 (List.length x7.2.2.2.2.1)) <|
    chk (inb x6 (List.length (List.getD x7.2.2.2.2.1 ((Int.toNat x5)) (([] : List DRow))))) <|
    some (.again (w64 (x4 + (len ((List.getD (List.getD x7.2.2.2.2.1 ((Int.toNat x5)) (([] : List DRow))) ((Int.toNat x6)) ((([] : List DEntry), ()))).1))), x5, w64 (x6 + 1), x7, ()))
  else
    some (.exit (x4, x5, x6, x7, ()))
noncomputable def F.spec_Items.s3 : (Int × Int × DHouse × Unit) → Option (Lp (Int × Int × DHouse × Unit) Int) := fun (x1, x2, x3, _) =>
  bif decide (x2 < (len x3.2.2.2.2.1)) then
    afterO (loopO F.spec_Items.s6 (x1, x2, 0, x3, ())) fun (x8, x9, x10, x11, _) =>
    some (.again (x8, w64 (x9 + 1), x11, ()))
  else
    some (.exit (x1, x2, x3, ()))
noncomputable def F.spec_Items (a0 : DHouse) : Option Int :=
  afterO (loopO F.spec_Items.s3 (0, 0, a0, ())) fun (x12, x13, x14, _) =>
  some x12
noncomputable def C.spec_Items : Con := ⟨[.r (.val y23)], .one (.int .i64), fun x => F.spec_Items x.1⟩
def L.spec_Items : Loops := lookL [(6, ⟨[.pat 3 (.val (.int .i64)), .pat 4 (.val (.int .i64)), .pat 5 (.val (.int .i64)), .root 1 true y23 [1]], 2⟩), (3, ⟨[.pat 3 (.val (.int .i64)), .pat 4 (.val (.int .i64)), .root 1 true y23 [1]], 0⟩)]
noncomputable def K.spec_Items : Cons := lookK []
theorem run.spec_Items : ∀ x, runF tb K.spec_Items L.spec_Items [] Try.f36 C.spec_Items x = C.spec_Items.fn x := fun x => by kernel_rfl

/-! ### impl.rowEntries: function 129 -/
noncomputable def F.impl_rowEntries.s6 : ((List DEntry) × (List (List DRow)) × Int × Int × (List DRow) × Int × Int × Unit) → Option (Lp ((List DEntry) × (List (List DRow)) × Int × Int × (List DRow) × Int × Int × Unit) (Lp ((List DEntry) × (List (List DRow)) × Int × Int × Unit) ((List DEntry)))) := fun (x5, x6, x7, x8, x9, x10, x11, _) =>
  bif decide (x11 < x10) then
    chk (inb x11 (List.length x9)) <|
    chk (fits (List.length x5 + List.length ((List.getD x9 ((Int.toNat x11)) ((([] : List DEntry), ()))).1)) 144) <|
    some (.again (x5 ++ ((List.getD x9 ((Int.toNat x11)) ((([] : List DEntry), ()))).1), x6, x7, x8, x9, x10, w64 (x11 + 1), ()))
  else
    some (.exit (x5, x6, x7, x8, x9, x10, x11, ()))
noncomputable def F.impl_rowEntries.s3 : ((List DEntry) × (List (List DRow)) × Int × Int × Unit) → Option (Lp ((List DEntry) × (List (List DRow)) × Int × Int × Unit) ((List DEntry))) := fun (x1, x2, x3, x4, _) =>
  bif decide (x4 < x3) then
    chk (inb x4 (List.length x2)) <|
    afterO (loopO F.impl_rowEntries.s6 (x1, x2, x3, x4, List.getD x2 ((Int.toNat x4)) (([] : List DRow)), len (List.getD x2 ((Int.toNat x4)) (([] : List DRow))), 0, ())) fun (x12, x13, x14, x15, x16, x17, x18, _) =>
    some (.again (x12, x13, x14, w64 (x15 + 1), ()))
  else
    some (.exit (x1, x2, x3, x4, ()))
noncomputable def F.impl_rowEntries (a0 : DHouse) : Option ((List DEntry)) :=
  afterO (loopO F.impl_rowEntries.s3 (([] : List DEntry), a0.2.2.2.2.1, len a0.2.2.2.2.1, 0, ())) fun (x19, x20, x21, x22, _) =>
  some x19
noncomputable def C.impl_rowEntries : Con := ⟨[.r (.val y23)], .one (.sl false 32 y5), fun x => F.impl_rowEntries x.1⟩
def L.impl_rowEntries : Loops := lookL [(6, ⟨[.own 3 (.sl true 32 y5), .pat 9 (.val (.sl false 159 (.sl false 35 (.cons (.sl false 32 y5) .nil)))), .pat 10 (.val (.int .i64)), .pat 11 (.val (.int .i64)), .pat 15 (.val (.sl false 35 (.cons (.sl false 32 y5) .nil))), .pat 16 (.val (.int .i64)), .pat 17 (.val (.int .i64))], 2⟩), (3, ⟨[.own 3 (.sl true 32 y5), .pat 9 (.val (.sl false 159 (.sl false 35 (.cons (.sl false 32 y5) .nil)))), .pat 10 (.val (.int .i64)), .pat 11 (.val (.int .i64))], 0⟩)]
noncomputable def K.impl_rowEntries : Cons := lookK []
theorem run.impl_rowEntries : ∀ x, runF tb K.impl_rowEntries L.impl_rowEntries [] Try.f129 C.impl_rowEntries x = C.impl_rowEntries.fn x := fun x => by kernel_rfl

/-! ### impl.Items: function 38 -/
noncomputable def F.impl_Items (a0 : DHouse) : Option Int :=
  (F.impl_rowEntries a0).bind fun r1 =>
  some (len r1)
noncomputable def C.impl_Items : Con := ⟨[.r (.val y23)], .one (.int .i64), fun x => F.impl_Items x.1⟩
def L.impl_Items : Loops := fun _ => none
noncomputable def K.impl_Items : Cons := lookK [(129, [], C.impl_rowEntries)]
theorem run.impl_Items : ∀ x, runF tb K.impl_Items L.impl_Items [] Try.f38 C.impl_Items x = C.impl_Items.fn x := fun x => by kernel_rfl

/-! ### laws.eqConf: function 76 -/
noncomputable def F.laws_eqConf (a0 : DConf) (a1 : DConf) : Option Bool :=
  bif a0.1 != a1.1 then
    some false
  else
  bif a0.2.1 != a1.2.1 then
    some false
  else
  bif a0.2.2.1 != a1.2.2.1 then
    some false
  else
  (F.laws_eqIntS a0.2.2.2.1 a1.2.2.2.1).bind fun r1 =>
  bif !r1 then
    some false
  else
  bif a0.2.2.2.2.1 != a1.2.2.2.2.1 then
    some false
  else
  bif a0.2.2.2.2.2.1 != a1.2.2.2.2.2.1 then
    some false
  else
  bif a0.2.2.2.2.2.2.1 != a1.2.2.2.2.2.2.1 then
    some false
  else
  bif a0.2.2.2.2.2.2.2.1 != a1.2.2.2.2.2.2.2.1 then
    some false
  else
    some true
noncomputable def C.laws_eqConf : Con := ⟨[.r (.val y11), .r (.val y11)], .one .bool, fun x => F.laws_eqConf x.1 x.2.1⟩
def L.laws_eqConf : Loops := fun _ => none
noncomputable def K.laws_eqConf : Cons := lookK [(115, [], C.laws_eqIntS)]
theorem run.laws_eqConf : ∀ x, runF tb K.laws_eqConf L.laws_eqConf [] Try.f76 C.laws_eqConf x = C.laws_eqConf.fn x := fun x => by kernel_rfl

/-! ### laws.eqSeat: function 44 -/
noncomputable def F.laws_eqSeat (a0 : DSeat) (a1 : DSeat) : Option Bool :=
  bif a0.1 != a1.1 then
    some false
  else
  bif a0.2.1 != a1.2.1 then
    some false
  else
  (F.laws_eqSpanS a0.2.2.1 a1.2.2.1).bind fun r1 =>
  bif !r1 then
    some false
  else
  bif a0.2.2.2.1 != a1.2.2.2.1 then
    some false
  else
  bif a0.2.2.2.2.1 != a1.2.2.2.2.1 then
    some false
  else
    some true
noncomputable def C.laws_eqSeat : Con := ⟨[.r (.val y21), .r (.val y21)], .one .bool, fun x => F.laws_eqSeat x.1 x.2.1⟩
def L.laws_eqSeat : Loops := fun _ => none
noncomputable def K.laws_eqSeat : Cons := lookK [(82, [], C.laws_eqSpanS)]
theorem run.laws_eqSeat : ∀ x, runF tb K.laws_eqSeat L.laws_eqSeat [] Try.f44 C.laws_eqSeat x = C.laws_eqSeat.fn x := fun x => by kernel_rfl

/-! ### laws.eqSeatS: function 130 -/
noncomputable def F.laws_eqSeatS.s4 : ((List DSeat) × (List DSeat) × Int × Unit) → Option (Lp ((List DSeat) × (List DSeat) × Int × Unit) Bool) := fun (x1, x2, x3, _) =>
  bif decide (x3 < (len x1)) then
    chk (inb x3 (List.length x1)) <|
    chk (inb x3 (List.length x2)) <|
    (F.laws_eqSeat (List.getD x1 ((Int.toNat x3)) ((0, 0, ([] : List DSpan), 0, 0, ()))) (List.getD x2 ((Int.toNat x3)) ((0, 0, ([] : List DSpan), 0, 0, ())))).bind fun r4 =>
    bif !r4 then
      some (.ret false)
    else
      some (.again (x1, x2, w64 (x3 + 1), ()))
  else
    some (.exit (x1, x2, x3, ()))
noncomputable def F.laws_eqSeatS (a0 : List DSeat) (a1 : List DSeat) : Option Bool :=
  bif (len a0) != (len a1) then
    some false
  else
  afterO (loopO F.laws_eqSeatS.s4 (a0, a1, 0, ())) fun (x5, x6, x7, _) =>
  some true
noncomputable def C.laws_eqSeatS : Con := ⟨[.r (.val (.sl false 87 y21)), .r (.val (.sl false 87 y21))], .one .bool, fun x => F.laws_eqSeatS x.1 x.2.1⟩
def L.laws_eqSeatS : Loops := lookL [(4, ⟨[.pat 0 (.val (.sl false 87 y21)), .pat 1 (.val (.sl false 87 y21)), .pat 5 (.val (.int .i64))], 0⟩)]
noncomputable def K.laws_eqSeatS : Cons := lookK [(44, [], C.laws_eqSeat)]
theorem run.laws_eqSeatS : ∀ x, runF tb K.laws_eqSeatS L.laws_eqSeatS [] Try.f130 C.laws_eqSeatS x = C.laws_eqSeatS.fn x := fun x => by kernel_rfl

/-! ### laws.eqEntry: function 18 -/
noncomputable def F.laws_eqEntry (a0 : DEntry) (a1 : DEntry) : Option Bool :=
  bif a0.1 != a1.1 then
    some false
  else
  bif a0.2.1 != a1.2.1 then
    some false
  else
  (F.laws_eqSpanS a0.2.2.1 a1.2.2.1).bind fun r1 =>
  bif !r1 then
    some false
  else
  (F.laws_eqSketch a0.2.2.2.1 a1.2.2.2.1).bind fun r2 =>
  bif !r2 then
    some false
  else
    some true
noncomputable def C.laws_eqEntry : Con := ⟨[.r (.val y5), .r (.val y5)], .one .bool, fun x => F.laws_eqEntry x.1 x.2.1⟩
def L.laws_eqEntry : Loops := fun _ => none
noncomputable def K.laws_eqEntry : Cons := lookK [(31, [], C.laws_eqSketch), (82, [], C.laws_eqSpanS)]
theorem run.laws_eqEntry : ∀ x, runF tb K.laws_eqEntry L.laws_eqEntry [] Try.f18 C.laws_eqEntry x = C.laws_eqEntry.fn x := fun x => by kernel_rfl

/-! ### laws.eqEntryS: function 97 -/
noncomputable def F.laws_eqEntryS.s4 : ((List DEntry) × (List DEntry) × Int × Unit) → Option (Lp ((List DEntry) × (List DEntry) × Int × Unit) Bool) := fun (x1, x2, x3, _) =>
  bif decide (x3 < (len x1)) then
    chk (inb x3 (List.length x1)) <|
    chk (inb x3 (List.length x2)) <|
    (F.laws_eqEntry (List.getD x1 ((Int.toNat x3)) ((0, 0, ([] : List DSpan), (0, 0, 0, 0, ([] : List Int), ([] : List Int), ([] : List (List Int)), ()), ()))) (List.getD x2 ((Int.toNat x3)) ((0, 0, ([] : List DSpan), (0, 0, 0, 0, ([] : List Int), ([] : List Int), ([] : List (List Int)), ()), ())))).bind fun r4 =>
    bif !r4 then
      some (.ret false)
    else
      some (.again (x1, x2, w64 (x3 + 1), ()))
  else
    some (.exit (x1, x2, x3, ()))
noncomputable def F.laws_eqEntryS (a0 : List DEntry) (a1 : List DEntry) : Option Bool :=
  bif (len a0) != (len a1) then
    some false
  else
  afterO (loopO F.laws_eqEntryS.s4 (a0, a1, 0, ())) fun (x5, x6, x7, _) =>
  some true
noncomputable def C.laws_eqEntryS : Con := ⟨[.r (.val (.sl false 32 y5)), .r (.val (.sl false 32 y5))], .one .bool, fun x => F.laws_eqEntryS x.1 x.2.1⟩
def L.laws_eqEntryS : Loops := lookL [(4, ⟨[.pat 0 (.val (.sl false 32 y5)), .pat 1 (.val (.sl false 32 y5)), .pat 5 (.val (.int .i64))], 0⟩)]
noncomputable def K.laws_eqEntryS : Cons := lookK [(18, [], C.laws_eqEntry)]
theorem run.laws_eqEntryS : ∀ x, runF tb K.laws_eqEntryS L.laws_eqEntryS [] Try.f97 C.laws_eqEntryS x = C.laws_eqEntryS.fn x := fun x => by kernel_rfl

/-! ### laws.eqRow: function 19 -/
noncomputable def F.laws_eqRow (a0 : DRow) (a1 : DRow) : Option Bool :=
  (F.laws_eqEntryS a0.1 a1.1).bind fun r1 =>
  bif !r1 then
    some false
  else
    some true
noncomputable def C.laws_eqRow : Con := ⟨[.r (.val (.cons (.sl false 32 y5) .nil)), .r (.val (.cons (.sl false 32 y5) .nil))], .one .bool, fun x => F.laws_eqRow x.1 x.2.1⟩
def L.laws_eqRow : Loops := fun _ => none
noncomputable def K.laws_eqRow : Cons := lookK [(97, [], C.laws_eqEntryS)]
theorem run.laws_eqRow : ∀ x, runF tb K.laws_eqRow L.laws_eqRow [] Try.f19 C.laws_eqRow x = C.laws_eqRow.fn x := fun x => by kernel_rfl

/-! ### laws.eqRowS: function 249 -/
noncomputable def F.laws_eqRowS.s4 : ((List DRow) × (List DRow) × Int × Unit) → Option (Lp ((List DRow) × (List DRow) × Int × Unit) Bool) := fun (x1, x2, x3, _) =>
  bif decide (x3 < (len x1)) then
    chk (inb x3 (List.length x1)) <|
    chk (inb x3 (List.length x2)) <|
    (F.laws_eqRow (List.getD x1 ((Int.toNat x3)) ((([] : List DEntry), ()))) (List.getD x2 ((Int.toNat x3)) ((([] : List DEntry), ())))).bind fun r4 =>
    bif !r4 then
      some (.ret false)
    else
      some (.again (x1, x2, w64 (x3 + 1), ()))
  else
    some (.exit (x1, x2, x3, ()))
noncomputable def F.laws_eqRowS (a0 : List DRow) (a1 : List DRow) : Option Bool :=
  bif (len a0) != (len a1) then
    some false
  else
  afterO (loopO F.laws_eqRowS.s4 (a0, a1, 0, ())) fun (x5, x6, x7, _) =>
  some true
noncomputable def C.laws_eqRowS : Con := ⟨[.r (.val (.sl false 35 (.cons (.sl false 32 y5) .nil))), .r (.val (.sl false 35 (.cons (.sl false 32 y5) .nil)))], .one .bool, fun x => F.laws_eqRowS x.1 x.2.1⟩
def L.laws_eqRowS : Loops := lookL [(4, ⟨[.pat 0 (.val (.sl false 35 (.cons (.sl false 32 y5) .nil))), .pat 1 (.val (.sl false 35 (.cons (.sl false 32 y5) .nil))), .pat 5 (.val (.int .i64))], 0⟩)]
noncomputable def K.laws_eqRowS : Cons := lookK [(19, [], C.laws_eqRow)]
theorem run.laws_eqRowS : ∀ x, runF tb K.laws_eqRowS L.laws_eqRowS [] Try.f249 C.laws_eqRowS x = C.laws_eqRowS.fn x := fun x => by kernel_rfl

/-! ### laws.eqRowSS: function 131 -/
noncomputable def F.laws_eqRowSS.s4 : ((List (List DRow)) × (List (List DRow)) × Int × Unit) → Option (Lp ((List (List DRow)) × (List (List DRow)) × Int × Unit) Bool) := fun (x1, x2, x3, _) =>
  bif decide (x3 < (len x1)) then
    chk (inb x3 (List.length x1)) <|
    chk (inb x3 (List.length x2)) <|
    (F.laws_eqRowS (List.getD x1 ((Int.toNat x3)) (([] : List DRow))) (List.getD x2 ((Int.toNat x3)) (([] : List DRow)))).bind fun r4 =>
    bif !r4 then
      some (.ret false)
    else
      some (.again (x1, x2, w64 (x3 + 1), ()))
  else
    some (.exit (x1, x2, x3, ()))
noncomputable def F.laws_eqRowSS (a0 : List (List DRow)) (a1 : List (List DRow)) : Option Bool :=
  bif (len a0) != (len a1) then
    some false
  else
  afterO (loopO F.laws_eqRowSS.s4 (a0, a1, 0, ())) fun (x5, x6, x7, _) =>
  some true
noncomputable def C.laws_eqRowSS : Con := ⟨[.r (.val (.sl false 159 (.sl false 35 (.cons (.sl false 32 y5) .nil)))), .r (.val (.sl false 159 (.sl false 35 (.cons (.sl false 32 y5) .nil))))], .one .bool, fun x => F.laws_eqRowSS x.1 x.2.1⟩
def L.laws_eqRowSS : Loops := lookL [(4, ⟨[.pat 0 (.val (.sl false 159 (.sl false 35 (.cons (.sl false 32 y5) .nil)))), .pat 1 (.val (.sl false 159 (.sl false 35 (.cons (.sl false 32 y5) .nil)))), .pat 5 (.val (.int .i64))], 0⟩)]
noncomputable def K.laws_eqRowSS : Cons := lookK [(249, [], C.laws_eqRowS)]
theorem run.laws_eqRowSS : ∀ x, runF tb K.laws_eqRowSS L.laws_eqRowSS [] Try.f131 C.laws_eqRowSS x = C.laws_eqRowSS.fn x := fun x => by kernel_rfl

/-! ### laws.eqTurn: function 250 -/
noncomputable def F.laws_eqTurn (a0 : DTurn) (a1 : DTurn) : Option Bool :=
  bif a0.1 != a1.1 then
    some false
  else
  bif !(a0.2.1 == a1.2.1) then
    some false
  else
  (F.laws_eqIntS a0.2.2.1 a1.2.2.1).bind fun r1 =>
  bif !r1 then
    some false
  else
    some true
noncomputable def C.laws_eqTurn : Con := ⟨[.r (.val y13), .r (.val y13)], .one .bool, fun x => F.laws_eqTurn x.1 x.2.1⟩
def L.laws_eqTurn : Loops := fun _ => none
noncomputable def K.laws_eqTurn : Cons := lookK [(115, [], C.laws_eqIntS)]
theorem run.laws_eqTurn : ∀ x, runF tb K.laws_eqTurn L.laws_eqTurn [] Try.f250 C.laws_eqTurn x = C.laws_eqTurn.fn x := fun x => by kernel_rfl

/-! ### laws.eqTurnS: function 132 -/
noncomputable def F.laws_eqTurnS.s4 : ((List DTurn) × (List DTurn) × Int × Unit) → Option (Lp ((List DTurn) × (List DTurn) × Int × Unit) Bool) := fun (x1, x2, x3, _) =>
  bif decide (x3 < (len x1)) then
    chk (inb x3 (List.length x1)) <|
    chk (inb x3 (List.length x2)) <|
    (F.laws_eqTurn (List.getD x1 ((Int.toNat x3)) ((0, false, ([] : List Int), ()))) (List.getD x2 ((Int.toNat x3)) ((0, false, ([] : List Int), ())))).bind fun r4 =>
    bif !r4 then
      some (.ret false)
    else
      some (.again (x1, x2, w64 (x3 + 1), ()))
  else
    some (.exit (x1, x2, x3, ()))
noncomputable def F.laws_eqTurnS (a0 : List DTurn) (a1 : List DTurn) : Option Bool :=
  bif (len a0) != (len a1) then
    some false
  else
  afterO (loopO F.laws_eqTurnS.s4 (a0, a1, 0, ())) fun (x5, x6, x7, _) =>
  some true
noncomputable def C.laws_eqTurnS : Con := ⟨[.r (.val (.sl false 192 y13)), .r (.val (.sl false 192 y13))], .one .bool, fun x => F.laws_eqTurnS x.1 x.2.1⟩
def L.laws_eqTurnS : Loops := lookL [(4, ⟨[.pat 0 (.val (.sl false 192 y13)), .pat 1 (.val (.sl false 192 y13)), .pat 5 (.val (.int .i64))], 0⟩)]
noncomputable def K.laws_eqTurnS : Cons := lookK [(250, [], C.laws_eqTurn)]
theorem run.laws_eqTurnS : ∀ x, runF tb K.laws_eqTurnS L.laws_eqTurnS [] Try.f132 C.laws_eqTurnS x = C.laws_eqTurnS.fn x := fun x => by kernel_rfl

/-! ### laws.eqOut: function 251 -/
noncomputable def F.laws_eqOut (a0 : DOut) (a1 : DOut) : Option Bool :=
  bif a0.1 != a1.1 then
    some false
  else
  (F.laws_eqEntry a0.2.1 a1.2.1).bind fun r1 =>
  bif !r1 then
    some false
  else
    some true
noncomputable def C.laws_eqOut : Con := ⟨[.r (.val y22), .r (.val y22)], .one .bool, fun x => F.laws_eqOut x.1 x.2.1⟩
def L.laws_eqOut : Loops := fun _ => none
noncomputable def K.laws_eqOut : Cons := lookK [(18, [], C.laws_eqEntry)]
theorem run.laws_eqOut : ∀ x, runF tb K.laws_eqOut L.laws_eqOut [] Try.f251 C.laws_eqOut x = C.laws_eqOut.fn x := fun x => by kernel_rfl

/-! ### laws.eqOutS: function 133 -/
noncomputable def F.laws_eqOutS.s4 : ((List DOut) × (List DOut) × Int × Unit) → Option (Lp ((List DOut) × (List DOut) × Int × Unit) Bool) := fun (x1, x2, x3, _) =>
  bif decide (x3 < (len x1)) then
    chk (inb x3 (List.length x1)) <|
    chk (inb x3 (List.length x2)) <|
    (F.laws_eqOut (List.getD x1 ((Int.toNat x3)) ((0, (0, 0, ([] : List DSpan), (0, 0, 0, 0, ([] : List Int), ([] : List Int), ([] : List (List Int)), ()), ()), ()))) (List.getD x2 ((Int.toNat x3)) ((0, (0, 0, ([] : List DSpan), (0, 0, 0, 0, ([] : List Int), ([] : List Int), ([] : List (List Int)), ()), ()), ())))).bind fun r4 =>
    bif !r4 then
      some (.ret false)
    else
      some (.again (x1, x2, w64 (x3 + 1), ()))
  else
    some (.exit (x1, x2, x3, ()))
noncomputable def F.laws_eqOutS (a0 : List DOut) (a1 : List DOut) : Option Bool :=
  bif (len a0) != (len a1) then
    some false
  else
  afterO (loopO F.laws_eqOutS.s4 (a0, a1, 0, ())) fun (x5, x6, x7, _) =>
  some true
noncomputable def C.laws_eqOutS : Con := ⟨[.r (.val (.sl false 194 y22)), .r (.val (.sl false 194 y22))], .one .bool, fun x => F.laws_eqOutS x.1 x.2.1⟩
def L.laws_eqOutS : Loops := lookL [(4, ⟨[.pat 0 (.val (.sl false 194 y22)), .pat 1 (.val (.sl false 194 y22)), .pat 5 (.val (.int .i64))], 0⟩)]
noncomputable def K.laws_eqOutS : Cons := lookK [(251, [], C.laws_eqOut)]
theorem run.laws_eqOutS : ∀ x, runF tb K.laws_eqOutS L.laws_eqOutS [] Try.f133 C.laws_eqOutS x = C.laws_eqOutS.fn x := fun x => by kernel_rfl

/-! ### laws.eqHouse: function 39 -/
noncomputable def F.laws_eqHouse (a0 : DHouse) (a1 : DHouse) : Option Bool :=
  (F.laws_eqConf a0.1 a1.1).bind fun r1 =>
  bif !r1 then
    some false
  else
  bif a0.2.1 != a1.2.1 then
    some false
  else
  bif !(a0.2.2.1 == a1.2.2.1) then
    some false
  else
  (F.laws_eqSeatS a0.2.2.2.1 a1.2.2.2.1).bind fun r2 =>
  bif !r2 then
    some false
  else
  (F.laws_eqRowSS a0.2.2.2.2.1 a1.2.2.2.2.1).bind fun r3 =>
  bif !r3 then
    some false
  else
  (F.laws_eqTurnS a0.2.2.2.2.2.1 a1.2.2.2.2.2.1).bind fun r4 =>
  bif !r4 then
    some false
  else
  bif a0.2.2.2.2.2.2.1 != a1.2.2.2.2.2.2.1 then
    some false
  else
  (F.laws_eqEntryS a0.2.2.2.2.2.2.2.1 a1.2.2.2.2.2.2.2.1).bind fun r5 =>
  bif !r5 then
    some false
  else
  (F.laws_eqOutS a0.2.2.2.2.2.2.2.2.1 a1.2.2.2.2.2.2.2.2.1).bind fun r6 =>
  bif !r6 then
    some false
  else
    some true
noncomputable def C.laws_eqHouse : Con := ⟨[.r (.val y23), .r (.val y23)], .one .bool, fun x => F.laws_eqHouse x.1 x.2.1⟩
def L.laws_eqHouse : Loops := fun _ => none
noncomputable def K.laws_eqHouse : Cons := lookK [(76, [], C.laws_eqConf), (97, [], C.laws_eqEntryS), (130, [], C.laws_eqSeatS), (131, [], C.laws_eqRowSS), (132, [], C.laws_eqTurnS), (133, [], C.laws_eqOutS)]
theorem run.laws_eqHouse : ∀ x, runF tb K.laws_eqHouse L.laws_eqHouse [] Try.f39 C.laws_eqHouse x = C.laws_eqHouse.fn x := fun x => by kernel_rfl

/-! ### laws.FnExactItems: function 5 -/
noncomputable def F.laws_FnExactItems (a0 : DHouse) : Option Bool :=
  (F.laws_szHouse a0 1048576).bind fun r1 =>
  bif decide (r1 < 0) then
    some true
  else
  (F.laws_toHouse a0).bind fun r2 =>
  (F.spec_Items r2).bind fun r3 =>
  (F.laws_toHouse a0).bind fun r4 =>
  (F.impl_Items r4).bind fun r5 =>
  bif r5 != r3 then
    some false
  else
  (F.laws_toHouse a0).bind fun r6 =>
  (F.laws_eqHouse r4 r6).bind fun r7 =>
  bif !r7 then
    some false
  else
    some true
noncomputable def C.laws_FnExactItems : Con := ⟨[.r (.val y15)], .one .bool, fun x => F.laws_FnExactItems x.1⟩
def L.laws_FnExactItems : Loops := fun _ => none
noncomputable def K.laws_FnExactItems : Cons := lookK [(35, [], C.laws_szHouse), (36, [], C.spec_Items), (37, [], C.laws_toHouse), (38, [], C.impl_Items), (39, [], C.laws_eqHouse)]
theorem run.laws_FnExactItems : ∀ x, runF tb K.laws_FnExactItems L.laws_FnExactItems [] Try.f5 C.laws_FnExactItems x = C.laws_FnExactItems.fn x := fun x => by kernel_rfl

/-! ### spec.l9Copy: function 134 -/
noncomputable def F.spec_l9Copy (a0 : DSeat) : Option DSeat :=
  (F.spec_l5Copy a0.2.2.1).bind fun r1 =>
  some (a0.1, a0.2.1, r1, a0.2.2.2)
noncomputable def C.spec_l9Copy : Con := ⟨[.r (.val y21)], .one y17, fun x => F.spec_l9Copy x.1⟩
def L.spec_l9Copy : Loops := fun _ => none
noncomputable def K.spec_l9Copy : Cons := lookK [(238, [], C.spec_l5Copy)]
theorem run.spec_l9Copy : ∀ x, runF tb K.spec_l9Copy L.spec_l9Copy [] Try.f134 C.spec_l9Copy x = C.spec_l9Copy.fn x := fun x => by kernel_rfl

/-! ### spec.SetSize: function 252 -/
noncomputable def F.spec_SetSize.s5 : ((List DSpan) × Int × Int × Unit) → Option (Lp ((List DSpan) × Int × Int × Unit) Int) := fun (x2, x3, x4, _) =>
  bif decide (x4 < (len x2)) then
    chk (inb x4 (List.length x2)) <|
    chk (inb x4 (List.length x2)) <|
    some (.again (x2, w64 ((w64 ((w64 (x3 + (((List.getD x2 ((Int.toNat x4)) ((0, 0, ()))).2).1))) - ((List.getD x2 ((Int.toNat x4)) ((0, 0, ()))).1))) + 1), w64 (x4 + 1), ()))
  else
    some (.exit (x2, x3, x4, ()))
noncomputable def F.spec_SetSize (a0 : List DSpan) : Option Int :=
  (F.spec_SetOk a0).bind fun r1 =>
  bif !r1 then
    some 0
  else
  afterO (loopO F.spec_SetSize.s5 (a0, 0, 0, ())) fun (x5, x6, x7, _) =>
  some x6
noncomputable def C.spec_SetSize : Con := ⟨[.r (.val (.sl false 175 y0))], .one (.int .i64), fun x => F.spec_SetSize x.1⟩
def L.spec_SetSize : Loops := lookL [(5, ⟨[.pat 0 (.val (.sl false 175 y0)), .pat 3 (.val (.int .i64)), .pat 4 (.val (.int .i64))], 0⟩)]
noncomputable def K.spec_SetSize : Cons := lookK [(185, [], C.spec_SetOk)]
theorem run.spec_SetSize : ∀ x, runF tb K.spec_SetSize L.spec_SetSize [] Try.f252 C.spec_SetSize x = C.spec_SetSize.fn x := fun x => by kernel_rfl

/-! ### spec.SeatOk: function 135 -/
noncomputable def F.spec_SeatOk (a0 : DSeat) (a1 : Int) : Option Bool :=
  (F.spec_l1In a1 1 8).bind fun r1 =>
  bif r1 then
    (F.spec_l1In a0.1 0 1000).bind fun r2 =>
    bif r2 then
      (F.spec_l1In a0.2.1 0 60).bind fun r3 =>
      bif r3 then
        (F.spec_l8Below a0.2.2.1 a0.2.1).bind fun r4 =>
        bif r4 then
          (F.spec_SetSize a0.2.2.1).bind fun r5 =>
          (F.spec_l1In a0.2.2.2.1 0 r5).bind fun r6 =>
          bif r6 then
            bif decide (a0.2.1 ≤ (w64 (a0.2.2.2.1 + a1))) then
              (F.spec_l1In a0.2.2.2.2.1 0 1000000).bind fun r7 =>
              some r7
            else
              some false
          else
            some false
        else
          some false
      else
        some false
    else
      some false
  else
    some false
noncomputable def C.spec_SeatOk : Con := ⟨[.r (.val y21), .r (.val (.int .i64))], .one .bool, fun x => F.spec_SeatOk x.1 x.2.1⟩
def L.spec_SeatOk : Loops := fun _ => none
noncomputable def K.spec_SeatOk : Cons := lookK [(136, [], C.spec_l1In), (223, [], C.spec_l8Below), (252, [], C.spec_SetSize)]
theorem run.spec_SeatOk : ∀ x, runF tb K.spec_SeatOk L.spec_SeatOk [] Try.f135 C.spec_SeatOk x = C.spec_SeatOk.fn x := fun x => by kernel_rfl

/-! ### spec.SetHas: function 137 -/
noncomputable def F.spec_SetHas.s2 : ((List DSpan) × Int × Int × Unit) → Option (Lp ((List DSpan) × Int × Int × Unit) Bool) := fun (x1, x2, x3, _) =>
  bif decide (x3 < (len x1)) then
    chk (inb x3 (List.length x1)) <|
    chk (inb x3 (List.length x1)) <|
    (F.spec_l1In x2 ((List.getD x1 ((Int.toNat x3)) ((0, 0, ()))).1) (((List.getD x1 ((Int.toNat x3)) ((0, 0, ()))).2).1)).bind fun r4 =>
    bif r4 then
      some (.ret true)
    else
      some (.again (x1, x2, w64 (x3 + 1), ()))
  else
    some (.exit (x1, x2, x3, ()))
noncomputable def F.spec_SetHas (a0 : List DSpan) (a1 : Int) : Option Bool :=
  afterO (loopO F.spec_SetHas.s2 (a0, a1, 0, ())) fun (x5, x6, x7, _) =>
  some false
noncomputable def C.spec_SetHas : Con := ⟨[.r (.val (.sl false 175 y0)), .r (.val (.int .i64))], .one .bool, fun x => F.spec_SetHas x.1 x.2.1⟩
def L.spec_SetHas : Loops := lookL [(2, ⟨[.pat 0 (.val (.sl false 175 y0)), .pat 1 (.val (.int .i64)), .pat 5 (.val (.int .i64))], 0⟩)]
noncomputable def K.spec_SetHas : Cons := lookK [(136, [], C.spec_l1In)]
theorem run.spec_SetHas : ∀ x, runF tb K.spec_SetHas L.spec_SetHas [] Try.f137 C.spec_SetHas x = C.spec_SetHas.fn x := fun x => by kernel_rfl

/-! ### spec.l8One: function 139 -/
noncomputable def F.spec_l8One (a0 : Int) : Option DSpan :=
  some (a0, a0, ())
noncomputable def C.spec_l8One : Con := ⟨[.r (.val (.int .i64))], .one y0, fun x => F.spec_l8One x.1⟩
def L.spec_l8One : Loops := fun _ => none
noncomputable def K.spec_l8One : Cons := lookK []
theorem run.spec_l8One : ∀ x, runF tb K.spec_l8One L.spec_l8One [] Try.f139 C.spec_l8One x = C.spec_l8One.fn x := fun x => by kernel_rfl

/-! ### spec.l1Min: function 253 -/
noncomputable def F.spec_l1Min (a0 : Int) (a1 : Int) : Option Int :=
  bif decide (a0 < a1) then
    some a0
  else
    some a1
noncomputable def C.spec_l1Min : Con := ⟨[.r (.val (.int .i64)), .r (.val (.int .i64))], .one (.int .i64), fun x => F.spec_l1Min x.1 x.2.1⟩
def L.spec_l1Min : Loops := fun _ => none
noncomputable def K.spec_l1Min : Cons := lookK []
theorem run.spec_l1Min : ∀ x, runF tb K.spec_l1Min L.spec_l1Min [] Try.f253 C.spec_l1Min x = C.spec_l1Min.fn x := fun x => by kernel_rfl

/-! ### spec.l1Max: function 224 -/
noncomputable def F.spec_l1Max (a0 : Int) (a1 : Int) : Option Int :=
  bif decide (a0 > a1) then
    some a0
  else
    some a1
noncomputable def C.spec_l1Max : Con := ⟨[.r (.val (.int .i64)), .r (.val (.int .i64))], .one (.int .i64), fun x => F.spec_l1Max x.1 x.2.1⟩
def L.spec_l1Max : Loops := fun _ => none
noncomputable def K.spec_l1Max : Cons := lookK []
theorem run.spec_l1Max : ∀ x, runF tb K.spec_l1Max L.spec_l1Max [] Try.f224 C.spec_l1Max x = C.spec_l1Max.fn x := fun x => by kernel_rfl

/-! ### spec.l5Put: function 138 -/
noncomputable def F.spec_l5Put.s4 : ((List DSpan) × (List DSpan) × Bool × Int × DSpan × Unit) → Option (Lp ((List DSpan) × (List DSpan) × Bool × Int × DSpan × Unit) ((List DSpan))) := fun (x1, x2, x3, x4, x5, _) =>
  bif decide (x4 < (len x1)) then
    chk (inb x4 (List.length x1)) <|
    bif decide ((w64 ((((List.getD x1 ((Int.toNat x4)) ((0, 0, ()))).2).1) + 1)) < x5.1) then
      chk (inb x4 (List.length x1)) <|
      chk (fits (List.length x2 + List.length ([List.getD x1 ((Int.toNat x4)) ((0, 0, ()))])) 16) <|
      some (.again (x1, x2 ++ ([List.getD x1 ((Int.toNat x4)) ((0, 0, ()))]), x3, w64 (x4 + 1), x5, ()))
    else
    chk (inb x4 (List.length x1)) <|
    bif decide (((List.getD x1 ((Int.toNat x4)) ((0, 0, ()))).1) > (w64 (x5.2.1 + 1))) then
      bif !x3 then
        chk (fits (List.length x2 + List.length ([x5])) 16) <|
        chk (inb x4 (List.length x1)) <|
        chk (fits (List.length (x2 ++ ([x5])) + List.length ([List.getD x1 ((Int.toNat x4)) ((0, 0, ()))])) 16) <|
        some (.again (x1, (x2 ++ ([x5])) ++ ([List.getD x1 ((Int.toNat x4)) ((0, 0, ()))]), true, w64 (x4 + 1), x5, ()))
      else
      chk (inb x4 (List.length x1)) <|
      chk (fits (List.length x2 + List.length ([List.getD x1 ((Int.toNat x4)) ((0, 0, ()))])) 16) <|
      some (.again (x1, x2 ++ ([List.getD x1 ((Int.toNat x4)) ((0, 0, ()))]), x3, w64 (x4 + 1), x5, ()))
    else
    chk (inb x4 (List.length x1)) <|
    (F.spec_l1Min x5.1 ((List.getD x1 ((Int.toNat x4)) ((0, 0, ()))).1)).bind fun r6 =>
    chk (inb x4 (List.length x1)) <|
    (F.spec_l1Max x5.2.1 (((List.getD x1 ((Int.toNat x4)) ((0, 0, ()))).2).1)).bind fun r7 =>
    some (.again (x1, x2, x3, w64 (x4 + 1), (r6, r7, ()), ()))
  else
    some (.exit (x1, x2, x3, x4, x5, ()))
noncomputable def F.spec_l5Put (a0 : List DSpan) (a1 : DSpan) : Option ((List DSpan)) :=
  afterO (loopO F.spec_l5Put.s4 (a0, ([] : List DSpan), false, 0, a1, ())) fun (x8, x9, x10, x11, x12, _) =>
  bif !x10 then
    chk (fits (List.length x9 + List.length ([x12])) 16) <|
    some (x9 ++ ([x12]))
  else
    some x9
noncomputable def C.spec_l5Put : Con := ⟨[.r (.val (.sl false 175 y0)), .r (.val y0)], .one (.sl true 175 y0), fun x => F.spec_l5Put x.1 x.2.1⟩
def L.spec_l5Put : Loops := lookL [(4, ⟨[.pat 0 (.val (.sl false 175 y0)), .own 5 (.sl true 175 y0), .pat 6 (.val .bool), .pat 7 (.val (.int .i64)), .root 3 true y0 [3]], 0⟩)]
noncomputable def K.spec_l5Put : Cons := lookK [(224, [], C.spec_l1Max), (253, [], C.spec_l1Min)]
theorem run.spec_l5Put : ∀ x, runF tb K.spec_l5Put L.spec_l5Put [] Try.f138 C.spec_l5Put x = C.spec_l5Put.fn x := fun x => by kernel_rfl

/-! ### spec.SeatData: function 41 -/
noncomputable def F.spec_SeatData (a0 : DSeat) (a1 : Int) (a2 : Int) (a3 : Int) : Option (DSeat × Int) :=
  (F.spec_l9Copy a0).bind fun r1 =>
  (F.spec_SeatOk a0 a1).bind fun r2 =>
  bif !r2 then
    some (r1, 4)
  else
  (F.spec_l1In a3 1 60).bind fun r3 =>
  bif !r3 then
    some (r1, 4)
  else
  bif a2 != a0.1 then
    some (r1, 2)
  else
  (F.spec_SetHas a0.2.2.1 a3).bind fun r4 =>
  bif r4 then
    some (r1, 1)
  else
  bif decide (a3 > a0.2.1) then
    some (r1, 3)
  else
  (F.spec_l8One a3).bind fun r5 =>
  (F.spec_l5Put a0.2.2.1 r5).bind fun r6 =>
  some ((r1.1, r1.2.1, r6, r1.2.2.2), 0)
noncomputable def C.spec_SeatData : Con := ⟨[.r (.val y21), .r (.val (.int .i64)), .r (.val (.int .i64)), .r (.val (.int .i64))], .many [y17, (.int .i64)], fun x => F.spec_SeatData x.1 x.2.1 x.2.2.1 x.2.2.2.1⟩
def L.spec_SeatData : Loops := fun _ => none
noncomputable def K.spec_SeatData : Cons := lookK [(134, [], C.spec_l9Copy), (135, [], C.spec_SeatOk), (136, [], C.spec_l1In), (137, [], C.spec_SetHas), (138, [], C.spec_l5Put), (139, [], C.spec_l8One)]
theorem run.spec_SeatData : ∀ x, runF tb K.spec_SeatData L.spec_SeatData [] Try.f41 C.spec_SeatData x = C.spec_SeatData.fn x := fun x => by kernel_rfl

/-! ### impl.copySeat: function 140 -/
noncomputable def F.impl_copySeat (a0 : DSeat) : Option DSeat :=
  (F.impl_copySet a0.2.2.1).bind fun r1 =>
  some (a0.1, a0.2.1, r1, a0.2.2.2)
noncomputable def C.impl_copySeat : Con := ⟨[.r (.val y21)], .one y17, fun x => F.impl_copySeat x.1⟩
def L.impl_copySeat : Loops := fun _ => none
noncomputable def K.impl_copySeat : Cons := lookK [(241, [], C.impl_copySet)]
theorem run.impl_copySeat : ∀ x, runF tb K.impl_copySeat L.impl_copySeat [] Try.f140 C.impl_copySeat x = C.impl_copySeat.fn x := fun x => by kernel_rfl

/-! ### impl.SetSize: function 254 -/
noncomputable def F.impl_SetSize.s5 : (Int × (List DSpan) × Int × Int × Unit) → Option (Lp (Int × (List DSpan) × Int × Int × Unit) Int) := fun (x2, x3, x4, x5, _) =>
  bif decide (x5 < x4) then
    chk (inb x5 (List.length x3)) <|
    some (.again (w64 (x2 + (w64 ((w64 ((((List.getD x3 ((Int.toNat x5)) ((0, 0, ()))).2).1) - ((List.getD x3 ((Int.toNat x5)) ((0, 0, ()))).1))) + 1))), x3, x4, w64 (x5 + 1), ()))
  else
    some (.exit (x2, x3, x4, x5, ()))
noncomputable def F.impl_SetSize (a0 : List DSpan) : Option Int :=
  (F.impl_SetOk a0).bind fun r1 =>
  bif !r1 then
    some 0
  else
  afterO (loopO F.impl_SetSize.s5 (0, a0, len a0, 0, ())) fun (x6, x7, x8, x9, _) =>
  some x6
noncomputable def C.impl_SetSize : Con := ⟨[.r (.val (.sl false 175 y0))], .one (.int .i64), fun x => F.impl_SetSize x.1⟩
def L.impl_SetSize : Loops := lookL [(5, ⟨[.pat 3 (.val (.int .i64)), .pat 9 (.val (.sl false 175 y0)), .pat 10 (.val (.int .i64)), .pat 11 (.val (.int .i64))], 0⟩)]
noncomputable def K.impl_SetSize : Cons := lookK [(257, [], C.impl_SetOk)]
theorem run.impl_SetSize : ∀ x, runF tb K.impl_SetSize L.impl_SetSize [] Try.f254 C.impl_SetSize x = C.impl_SetSize.fn x := fun x => by kernel_rfl

/-! ### impl.SeatOk: function 141 -/
noncomputable def F.impl_SeatOk (a0 : DSeat) (a1 : Int) : Option Bool :=
  (F.impl_within a1 1 8).bind fun r1 =>
  bif r1 then
    (F.impl_within a0.1 0 1000).bind fun r2 =>
    bif r2 then
      (F.impl_within a0.2.1 0 60).bind fun r3 =>
      bif r3 then
        (F.impl_allIn a0.2.2.1 1 a0.2.1).bind fun r4 =>
        bif r4 then
          (F.impl_SetSize a0.2.2.1).bind fun r5 =>
          (F.impl_within a0.2.2.2.1 0 r5).bind fun r6 =>
          bif r6 then
            bif decide (a0.2.1 ≤ (w64 (a0.2.2.2.1 + a1))) then
              (F.impl_within a0.2.2.2.2.1 0 1000000).bind fun r7 =>
              some r7
            else
              some false
          else
            some false
        else
          some false
      else
        some false
    else
      some false
  else
    some false
noncomputable def C.impl_SeatOk : Con := ⟨[.r (.val y21), .r (.val (.int .i64))], .one .bool, fun x => F.impl_SeatOk x.1 x.2.1⟩
def L.impl_SeatOk : Loops := fun _ => none
noncomputable def K.impl_SeatOk : Cons := lookK [(142, [], C.impl_within), (221, [], C.impl_allIn), (254, [], C.impl_SetSize)]
theorem run.impl_SeatOk : ∀ x, runF tb K.impl_SeatOk L.impl_SeatOk [] Try.f141 C.impl_SeatOk x = C.impl_SeatOk.fn x := fun x => by kernel_rfl

/-! ### impl.SetHas$1: function 256 -/
noncomputable def F.impl_SetHas_1 (a0 : DSpan) (a1 : Int) : Option Bool :=
  (F.impl_within a1 a0.1 a0.2.1).bind fun r1 =>
  some r1
noncomputable def C.impl_SetHas_1 : Con := ⟨[.r (.val y0), .r (.sptr (.int .i64))], .one .bool, fun x => F.impl_SetHas_1 x.1 x.2.1⟩
def L.impl_SetHas_1 : Loops := fun _ => none
noncomputable def K.impl_SetHas_1 : Cons := lookK [(142, [], C.impl_within)]
theorem run.impl_SetHas_1 : ∀ x, runF tb K.impl_SetHas_1 L.impl_SetHas_1 [] Try.f256 C.impl_SetHas_1 x = C.impl_SetHas_1.fn x := fun x => by kernel_rfl

/-! ### slices.IndexFunc[[]impl.Span,impl.Span]: function 284 -/
noncomputable def F.slices_IndexFunc_Span__impl_SetHas_1.s2 : ((List DSpan) × (Int × Unit) × Int × Int × Unit) → Option (Lp ((List DSpan) × (Int × Unit) × Int × Int × Unit) Int) := fun (x1, x2, x3, x4, _) =>
  bif decide (x4 < x3) then
    chk (inb x4 (List.length x1)) <|
    (F.impl_SetHas_1 (List.getD x1 ((Int.toNat x4)) ((0, 0, ()))) x2.1).bind fun r5 =>
    bif r5 then
      some (.ret x4)
    else
      some (.again (x1, (x2.1, ()), x3, w64 (x4 + 1), ()))
  else
    some (.exit (x1, (x2.1, ()), x3, x4, ()))
noncomputable def F.slices_IndexFunc_Span__impl_SetHas_1 (a0 : List DSpan) (a1 : Int × Unit) : Option Int :=
  afterO (loopO F.slices_IndexFunc_Span__impl_SetHas_1.s2 (a0, (a1.1, ()), len a0, 0, ())) fun (x6, x7, x8, x9, _) =>
  some (-1)
noncomputable def C.slices_IndexFunc_Span__impl_SetHas_1 : Con := ⟨[.r (.val (.sl false 175 y0)), .r (.fn 256 (.cons (.sptr (.int .i64)) .nil))], .one (.int .i64), fun x => F.slices_IndexFunc_Span__impl_SetHas_1 x.1 x.2.1⟩
def L.slices_IndexFunc_Span__impl_SetHas_1 : Loops := lookL [(2, ⟨[.pat 0 (.val (.sl false 175 y0)), .pat 1 (.fn 256 (.cons (.sptr (.int .i64)) .nil)), .pat 7 (.val (.int .i64)), .pat 8 (.val (.int .i64))], 0⟩)]
noncomputable def K.slices_IndexFunc_Span__impl_SetHas_1 : Cons := lookK [(256, [], C.impl_SetHas_1)]
theorem run.slices_IndexFunc_Span__impl_SetHas_1 : ∀ x, runF tb K.slices_IndexFunc_Span__impl_SetHas_1 L.slices_IndexFunc_Span__impl_SetHas_1 [] Try.f284 C.slices_IndexFunc_Span__impl_SetHas_1 x = C.slices_IndexFunc_Span__impl_SetHas_1.fn x := fun x => by kernel_rfl

/-! ### slices.ContainsFunc[[]impl.Span,impl.Span]: function 255 -/
noncomputable def F.slices_ContainsFunc_Span__impl_SetHas_1 (a0 : List DSpan) (a1 : Int × Unit) : Option Bool :=
  (F.slices_IndexFunc_Span__impl_SetHas_1 a0 ((a1.1, ()))).bind fun r1 =>
  some (decide (r1 ≥ 0))
noncomputable def C.slices_ContainsFunc_Span__impl_SetHas_1 : Con := ⟨[.r (.val (.sl false 175 y0)), .r (.fn 256 (.cons (.sptr (.int .i64)) .nil))], .one .bool, fun x => F.slices_ContainsFunc_Span__impl_SetHas_1 x.1 x.2.1⟩
def L.slices_ContainsFunc_Span__impl_SetHas_1 : Loops := fun _ => none
noncomputable def K.slices_ContainsFunc_Span__impl_SetHas_1 : Cons := lookK [(284, [256], C.slices_IndexFunc_Span__impl_SetHas_1)]
theorem run.slices_ContainsFunc_Span__impl_SetHas_1 : ∀ x, runF tb K.slices_ContainsFunc_Span__impl_SetHas_1 L.slices_ContainsFunc_Span__impl_SetHas_1 [] Try.f255 C.slices_ContainsFunc_Span__impl_SetHas_1 x = C.slices_ContainsFunc_Span__impl_SetHas_1.fn x := fun x => by kernel_rfl

/-! ### impl.SetHas: function 143 -/
noncomputable def F.impl_SetHas (a0 : List DSpan) (a1 : Int) : Option Bool :=
  (F.slices_ContainsFunc_Span__impl_SetHas_1 a0 ((a1, ()))).bind fun r1 =>
  some r1
noncomputable def C.impl_SetHas : Con := ⟨[.r (.val (.sl false 175 y0)), .r (.val (.int .i64))], .one .bool, fun x => F.impl_SetHas x.1 x.2.1⟩
def L.impl_SetHas : Loops := fun _ => none
noncomputable def K.impl_SetHas : Cons := lookK [(255, [256], C.slices_ContainsFunc_Span__impl_SetHas_1)]
theorem run.impl_SetHas : ∀ x, runF tb K.impl_SetHas L.impl_SetHas [] Try.f143 C.impl_SetHas x = C.impl_SetHas.fn x := fun x => by kernel_rfl

/-! ### slices.SortFunc[[]impl.Span,impl.Span]: function 285: by its contract -/
noncomputable def F.slices_SortFunc_Span__impl_union_1 (a0 : List DSpan) (a1 : Unit) : Option (List DSpan) :=
  chk (decide (a0.length ≤ 4000000000000)) <|
  some (sortS a0)
noncomputable def C.slices_SortFunc_Span__impl_union_1 : Con := ⟨[.c (.sl true 175 y0), .r (.fn 286 .nil)], .many [], fun x => F.slices_SortFunc_Span__impl_union_1 x.1 x.2.1⟩
-- EXT slices_SortFunc_Span__impl_union_1 285 sort 175 286

/-! ### impl.union: function 258 -/
noncomputable def F.impl_union.s5 : ((List DSpan) × (List DSpan) × Int × Int × Unit) → Option (Lp ((List DSpan) × (List DSpan) × Int × Int × Unit) ((List DSpan))) := fun (x3, x4, x5, x6, _) =>
  bif decide (x6 < x5) then
    chk (inb x6 (List.length x4)) <|
    bif decide ((len x3) > 0) then
      chk (inb (w64 ((len x3) - 1)) (List.length x3)) <|
      bif decide (((List.getD x4 ((Int.toNat x6)) ((0, 0, ()))).1) ≤ (w64 ((((List.getD x3 ((Int.toNat (w64 ((len x3) - 1)))) ((0, 0, ()))).2).1) + 1))) then
        chk (inb (w64 ((len x3) - 1)) (List.length x3)) <|
        chk (inb (w64 ((len x3) - 1)) (List.length x3)) <|
        (some (List.set x3 ((Int.toNat (w64 ((len x3) - 1)))) (((List.getD x3 ((Int.toNat (w64 ((len x3) - 1)))) ((0, 0, ()))).1, mxI (((List.getD x3 ((Int.toNat (w64 ((len x3) - 1)))) ((0, 0, ()))).2).1) (((List.getD x4 ((Int.toNat x6)) ((0, 0, ()))).2).1), ((List.getD x3 ((Int.toNat (w64 ((len x3) - 1)))) ((0, 0, ()))).2).2)))).bind fun r7 =>
        some (.again (r7, x4, x5, w64 (x6 + 1), ()))
      else
      chk (fits (List.length x3 + List.length ([List.getD x4 ((Int.toNat x6)) ((0, 0, ()))])) 16) <|
      some (.again (x3 ++ ([List.getD x4 ((Int.toNat x6)) ((0, 0, ()))]), x4, x5, w64 (x6 + 1), ()))
    else
    chk (fits (List.length x3 + List.length ([List.getD x4 ((Int.toNat x6)) ((0, 0, ()))])) 16) <|
    some (.again (x3 ++ ([List.getD x4 ((Int.toNat x6)) ((0, 0, ()))]), x4, x5, w64 (x6 + 1), ()))
  else
    some (.exit (x3, x4, x5, x6, ()))
noncomputable def F.impl_union (a0 : List DSpan) : Option ((List DSpan)) :=
  (F.impl_copySet a0).bind fun r1 =>
  (F.slices_SortFunc_Span__impl_union_1 r1 (())).bind fun r2 =>
  afterO (loopO F.impl_union.s5 (([] : List DSpan), r2, len r2, 0, ())) fun (x8, x9, x10, x11, _) =>
  some x8
noncomputable def C.impl_union : Con := ⟨[.r (.val (.sl false 175 y0))], .one (.sl true 175 y0), fun x => F.impl_union x.1⟩
def L.impl_union : Loops := lookL [(5, ⟨[.own 4 (.sl true 175 y0), .own 12 (.sl true 175 y0), .pat 13 (.val (.int .i64)), .pat 14 (.val (.int .i64))], 0⟩)]
noncomputable def K.impl_union : Cons := lookK [(241, [], C.impl_copySet), (285, [286], C.slices_SortFunc_Span__impl_union_1)]
theorem run.impl_union : ∀ x, runF tb K.impl_union L.impl_union [] Try.f258 C.impl_union x = C.impl_union.fn x := fun x => by kernel_rfl

/-! ### impl.SetAdd: function 144 -/
noncomputable def F.impl_SetAdd (a0 : List DSpan) (a1 : Int) : Option ((List DSpan) × Bool) :=
  (F.impl_SetOk a0).bind fun r1 =>
  bif !r1 then
    (F.impl_copySet a0).bind fun r2 =>
    some (r2, false)
  else
  (F.impl_within a1 0 9999).bind fun r3 =>
  bif !r3 then
    (F.impl_copySet a0).bind fun r4 =>
    some (r4, false)
  else
  (F.impl_SetHas a0 a1).bind fun r5 =>
  bif r5 then
    (F.impl_copySet a0).bind fun r6 =>
    some (r6, false)
  else
  (F.impl_copySet a0).bind fun r7 =>
  chk (fits (List.length r7 + List.length ([(a1, a1, ())])) 16) <|
  (F.impl_union (r7 ++ ([(a1, a1, ())]))).bind fun r8 =>
  some (r8, true)
noncomputable def C.impl_SetAdd : Con := ⟨[.r (.val (.sl false 175 y0)), .r (.val (.int .i64))], .many [(.sl true 175 y0), .bool], fun x => F.impl_SetAdd x.1 x.2.1⟩
def L.impl_SetAdd : Loops := fun _ => none
noncomputable def K.impl_SetAdd : Cons := lookK [(142, [], C.impl_within), (143, [], C.impl_SetHas), (241, [], C.impl_copySet), (257, [], C.impl_SetOk), (258, [], C.impl_union)]
theorem run.impl_SetAdd : ∀ x, runF tb K.impl_SetAdd L.impl_SetAdd [] Try.f144 C.impl_SetAdd x = C.impl_SetAdd.fn x := fun x => by kernel_rfl

/-! ### impl.SeatData: function 43 -/
noncomputable def F.impl_SeatData (a0 : DSeat) (a1 : Int) (a2 : Int) (a3 : Int) : Option (DSeat × Int) :=
  (F.impl_copySeat a0).bind fun r1 =>
  (F.impl_SeatOk a0 a1).bind fun r2 =>
  bif !r2 then
    some (r1, 4)
  else
  (F.impl_within a3 1 60).bind fun r3 =>
  bif !r3 then
    some (r1, 4)
  else
  bif a2 != a0.1 then
    some (r1, 2)
  else
  (F.impl_SetHas a0.2.2.1 a3).bind fun r4 =>
  bif r4 then
    some (r1, 1)
  else
  bif decide (a3 > a0.2.1) then
    some (r1, 3)
  else
  (F.impl_SetAdd a0.2.2.1 a3).bind fun r5 =>
  some ((r1.1, r1.2.1, r5.1, r1.2.2.2), 0)
noncomputable def C.impl_SeatData : Con := ⟨[.r (.val y21), .r (.val (.int .i64)), .r (.val (.int .i64)), .r (.val (.int .i64))], .many [y17, (.int .i64)], fun x => F.impl_SeatData x.1 x.2.1 x.2.2.1 x.2.2.2.1⟩
def L.impl_SeatData : Loops := fun _ => none
noncomputable def K.impl_SeatData : Cons := lookK [(140, [], C.impl_copySeat), (141, [], C.impl_SeatOk), (142, [], C.impl_within), (143, [], C.impl_SetHas), (144, [], C.impl_SetAdd)]
theorem run.impl_SeatData : ∀ x, runF tb K.impl_SeatData L.impl_SeatData [] Try.f43 C.impl_SeatData x = C.impl_SeatData.fn x := fun x => by kernel_rfl

/-! ### laws.markSeat: function 45 -/
noncomputable def F.laws_markSeat (a0 : DSeat) (a1 : Int) : Option (Int × DSeat) :=
  (F.laws_markSpanS a0.2.2.1 a1).bind fun r1 =>
  some (r1.1, (a0.1, a0.2.1, r1.2, a0.2.2.2))
noncomputable def C.laws_markSeat : Con := ⟨[.c y17, .r (.val (.int .i64))], .one (.int .i64), fun x => F.laws_markSeat x.1 x.2.1⟩
def L.laws_markSeat : Loops := fun _ => none
noncomputable def K.laws_markSeat : Cons := lookK [(83, [], C.laws_markSpanS)]
theorem run.laws_markSeat : ∀ x, runF tb K.laws_markSeat L.laws_markSeat [2] Try.f45 C.laws_markSeat x = C.laws_markSeat.fn x := fun x => by kernel_rfl

/-! ### laws.heldSeat: function 46 -/
noncomputable def F.laws_heldSeat (a0 : DSeat) (a1 : Int) : Option Int :=
  (F.laws_heldSpanS a0.2.2.1 a1).bind fun r1 =>
  bif decide (r1 < 0) then
    some (-1)
  else
    some r1
noncomputable def C.laws_heldSeat : Con := ⟨[.r (.val y21), .r (.val (.int .i64))], .one (.int .i64), fun x => F.laws_heldSeat x.1 x.2.1⟩
def L.laws_heldSeat : Loops := fun _ => none
noncomputable def K.laws_heldSeat : Cons := lookK [(84, [], C.laws_heldSpanS)]
theorem run.laws_heldSeat : ∀ x, runF tb K.laws_heldSeat L.laws_heldSeat [] Try.f46 C.laws_heldSeat x = C.laws_heldSeat.fn x := fun x => by kernel_rfl

/-! ### laws.FnExactSeatData: function 6 -/
noncomputable def F.laws_FnExactSeatData (a0 : DSeat) (a1 : Int) (a2 : Int) (a3 : Int) : Option Bool :=
  (F.laws_szSeat a0 1048576).bind fun r1 =>
  bif decide (r1 < 0) then
    some true
  else
  (F.laws_toSeat a0).bind fun r2 =>
  (F.spec_SeatData r2 a1 a2 a3).bind fun r3 =>
  (F.laws_toSeat a0).bind fun r4 =>
  (F.impl_SeatData r4 a1 a2 a3).bind fun r5 =>
  (F.laws_eqSeat r5.1 r3.1).bind fun r6 =>
  bif !r6 then
    some false
  else
  bif r5.2 != r3.2 then
    some false
  else
  (F.laws_toSeat a0).bind fun r7 =>
  (F.laws_eqSeat r4 r7).bind fun r8 =>
  bif !r8 then
    some false
  else
  (F.laws_markSeat r4 1).bind fun r9 =>
  bif decide (r9.1 < 0) then
    some false
  else
  (F.laws_eqSeat r5.1 r3.1).bind fun r10 =>
  bif !r10 then
    some false
  else
  bif r5.2 != r3.2 then
    some false
  else
  (F.laws_markSeat r5.1 1).bind fun r11 =>
  (F.laws_heldSeat r11.2 1).bind fun r12 =>
  bif decide (r12 < 0) then
    some false
  else
  bif r12 != r11.1 then
    some false
  else
  (F.laws_toSeat a0).bind fun r13 =>
  (F.impl_SeatData r13 a1 a2 a3).bind fun r14 =>
  (F.laws_eqSeat r14.1 r3.1).bind fun r15 =>
  bif !r15 then
    some false
  else
  bif r14.2 != r3.2 then
    some false
  else
  (F.laws_heldSeat r11.2 1).bind fun r16 =>
  bif decide (r16 < 0) then
    some false
  else
  bif r16 != r11.1 then
    some false
  else
    some true
noncomputable def C.laws_FnExactSeatData : Con := ⟨[.r (.val y12), .r (.val (.int .i64)), .r (.val (.int .i64)), .r (.val (.int .i64))], .one .bool, fun x => F.laws_FnExactSeatData x.1 x.2.1 x.2.2.1 x.2.2.2.1⟩
def L.laws_FnExactSeatData : Loops := fun _ => none
noncomputable def K.laws_FnExactSeatData : Cons := lookK [(40, [], C.laws_szSeat), (41, [], C.spec_SeatData), (42, [], C.laws_toSeat), (43, [], C.impl_SeatData), (44, [], C.laws_eqSeat), (45, [], C.laws_markSeat), (46, [], C.laws_heldSeat)]
theorem run.laws_FnExactSeatData : ∀ x, runF tb K.laws_FnExactSeatData L.laws_FnExactSeatData [] Try.f6 C.laws_FnExactSeatData x = C.laws_FnExactSeatData.fn x := fun x => by kernel_rfl

/-! ### laws.toByteS: function 48 -/
noncomputable def F.laws_toByteS.s3 : ((List Int) × (List Int) × Int × Unit) → Option (Lp ((List Int) × (List Int) × Int × Unit) ((List Int))) := fun (x1, x2, x3, _) =>
  bif decide (x3 < (len x1)) then
    chk (inb x3 (List.length x1)) <|
    chk (inb x3 (List.length x2)) <|
    some (.again (x1, List.set x2 ((Int.toNat x3)) (List.getD x1 ((Int.toNat x3)) 0), w64 (x3 + 1), ()))
  else
    some (.exit (x1, x2, x3, ()))
noncomputable def F.laws_toByteS (a0 : List Int) : Option ((List Int)) :=
  chk (mk 1 (len a0) (len a0)) <|
  afterO (loopO F.laws_toByteS.s3 (a0, List.replicate (Int.toNat (len a0)) 0, 0, ())) fun (x4, x5, x6, _) =>
  some x5
noncomputable def C.laws_toByteS : Con := ⟨[.r (.val (.sl false 5 (.int .u8)))], .one (.sl true 5 (.int .u8)), fun x => F.laws_toByteS x.1⟩
def L.laws_toByteS : Loops := lookL [(3, ⟨[.pat 0 (.val (.sl false 5 (.int .u8))), .own 3 (.sl true 5 (.int .u8)), .pat 4 (.val (.int .i64))], 0⟩)]
noncomputable def K.laws_toByteS : Cons := lookK []
theorem run.laws_toByteS : ∀ x, runF tb K.laws_toByteS L.laws_toByteS [] Try.f48 C.laws_toByteS x = C.laws_toByteS.fn x := fun x => by kernel_rfl

/-! ### spec.Crc: function 259 -/
noncomputable def F.spec_Crc.s7 : ((List Int) × Int × Int × Int × Unit) → Option (Lp ((List Int) × Int × Int × Int × Unit) (Lp ((List Int) × Int × Int × Unit) Int)) := fun (x4, x5, x6, x7, _) =>
  bif decide (x7 < 8) then
    bif (Int.tmod x5 2) == 1 then
      some (.again (x4, ibits .xor .i64 (w64 (Int.tdiv x5 2)) 3988292384, x6, w64 (x7 + 1), ()))
    else
      some (.again (x4, w64 (Int.tdiv x5 2), x6, w64 (x7 + 1), ()))
  else
    some (.exit (x4, x5, x6, x7, ()))
noncomputable def F.spec_Crc.s3 : ((List Int) × Int × Int × Unit) → Option (Lp ((List Int) × Int × Int × Unit) Int) := fun (x1, x2, x3, _) =>
  bif decide (x3 < (len x1)) then
    chk (inb x3 (List.length x1)) <|
    afterO (loopO F.spec_Crc.s7 (x1, ibits .xor .i64 x2 (w64 (List.getD x1 ((Int.toNat x3)) 0)), x3, 0, ())) fun (x8, x9, x10, x11, _) =>
    some (.again (x8, x9, w64 (x10 + 1), ()))
  else
    some (.exit (x1, x2, x3, ()))
noncomputable def F.spec_Crc (a0 : List Int) : Option Int :=
  afterO (loopO F.spec_Crc.s3 (a0, 4294967295, 0, ())) fun (x12, x13, x14, _) =>
  some (ibits .xor .i64 x13 4294967295)
noncomputable def C.spec_Crc : Con := ⟨[.r (.val (.sl false 5 (.int .u8)))], .one (.int .i64), fun x => F.spec_Crc x.1⟩
def L.spec_Crc : Loops := lookL [(7, ⟨[.pat 0 (.val (.sl false 5 (.int .u8))), .pat 3 (.val (.int .i64)), .pat 4 (.val (.int .i64)), .pat 5 (.val (.int .i64))], 2⟩), (3, ⟨[.pat 0 (.val (.sl false 5 (.int .u8))), .pat 3 (.val (.int .i64)), .pat 4 (.val (.int .i64))], 0⟩)]
noncomputable def K.spec_Crc : Cons := lookK []
theorem run.spec_Crc : ∀ x, runF tb K.spec_Crc L.spec_Crc [] Try.f259 C.spec_Crc x = C.spec_Crc.fn x := fun x => by kernel_rfl

/-! ### spec.l7Sum: function 145 -/
noncomputable def F.spec_l7Sum (a0 : List Int) : Option ((List Int)) :=
  (F.spec_Crc a0).bind fun r1 =>
  some ([IntKind.wrap .u8 (w64 (Int.tdiv r1 16777216)), IntKind.wrap .u8 (Int.tmod (w64 (Int.tdiv r1 65536)) 256), IntKind.wrap .u8 (Int.tmod (w64 (Int.tdiv r1 256)) 256), IntKind.wrap .u8 (Int.tmod r1 256)])
noncomputable def C.spec_l7Sum : Con := ⟨[.r (.val (.sl false 5 (.int .u8)))], .one (.sl true 5 (.int .u8)), fun x => F.spec_l7Sum x.1⟩
def L.spec_l7Sum : Loops := fun _ => none
noncomputable def K.spec_l7Sum : Cons := lookK [(259, [], C.spec_Crc)]
theorem run.spec_l7Sum : ∀ x, runF tb K.spec_l7Sum L.spec_l7Sum [] Try.f145 C.spec_l7Sum x = C.spec_l7Sum.fn x := fun x => by kernel_rfl

/-! ### spec.GetNum: function 260 -/
noncomputable def F.spec_GetNum.s3 : ((List Int) × Int × Int × Int × Unit) → Option (Lp ((List Int) × Int × Int × Int × Unit) (Int × Int × Bool)) := fun (x1, x2, x3, x4, _) =>
  bif decide (x4 < 5) then
    bif decide (x2 < 0) then
      some (.ret (0, 0, false))
    else
    bif decide (x2 ≥ (w64 ((len x1) - x4))) then
      some (.ret (0, 0, false))
    else
    chk (inb (w64 (x2 + x4)) (List.length x1)) <|
    nchk (decide ((w64 (7 * x4)) < 0)) <|
    bif decide ((w64 (List.getD x1 ((Int.toNat (w64 (x2 + x4)))) 0)) < 128) then
      bif decide (x4 > 0) then
        bif (w64 (List.getD x1 ((Int.toNat (w64 (x2 + x4)))) 0)) == 0 then
          some (.ret (0, 0, false))
        else
        bif decide ((ibits .or .i64 x3 (w64 ((Int.tmod (w64 (List.getD x1 ((Int.toNat (w64 (x2 + x4)))) 0)) 128) * 2 ^ (min (Int.toNat (w64 (7 * x4))) 64)))) > 2147483647) then
          some (.ret (0, 0, false))
        else
          some (.ret (ibits .or .i64 x3 (w64 ((Int.tmod (w64 (List.getD x1 ((Int.toNat (w64 (x2 + x4)))) 0)) 128) * 2 ^ (min (Int.toNat (w64 (7 * x4))) 64))), w64 ((w64 (x2 + x4)) + 1), true))
      else
      bif decide ((ibits .or .i64 x3 (w64 ((Int.tmod (w64 (List.getD x1 ((Int.toNat (w64 (x2 + x4)))) 0)) 128) * 2 ^ (min (Int.toNat (w64 (7 * x4))) 64)))) > 2147483647) then
        some (.ret (0, 0, false))
      else
        some (.ret (ibits .or .i64 x3 (w64 ((Int.tmod (w64 (List.getD x1 ((Int.toNat (w64 (x2 + x4)))) 0)) 128) * 2 ^ (min (Int.toNat (w64 (7 * x4))) 64))), w64 ((w64 (x2 + x4)) + 1), true))
    else
      some (.again (x1, x2, ibits .or .i64 x3 (w64 ((Int.tmod (w64 (List.getD x1 ((Int.toNat (w64 (x2 + x4)))) 0)) 128) * 2 ^ (min (Int.toNat (w64 (7 * x4))) 64))), w64 (x4 + 1), ()))
  else
    some (.exit (x1, x2, x3, x4, ()))
noncomputable def F.spec_GetNum (a0 : List Int) (a1 : Int) : Option (Int × Int × Bool) :=
  afterO (loopO F.spec_GetNum.s3 (a0, a1, 0, 0, ())) fun (x5, x6, x7, x8, _) =>
  some (0, 0, false)
noncomputable def C.spec_GetNum : Con := ⟨[.r (.val (.sl false 5 (.int .u8))), .r (.val (.int .i64))], .many [(.int .i64), (.int .i64), .bool], fun x => F.spec_GetNum x.1 x.2.1⟩
def L.spec_GetNum : Loops := lookL [(3, ⟨[.pat 0 (.val (.sl false 5 (.int .u8))), .pat 1 (.val (.int .i64)), .pat 7 (.val (.int .i64)), .pat 8 (.val (.int .i64))], 0⟩)]
noncomputable def K.spec_GetNum : Cons := lookK []
theorem run.spec_GetNum : ∀ x, runF tb K.spec_GetNum L.spec_GetNum [] Try.f260 C.spec_GetNum x = C.spec_GetNum.fn x := fun x => by kernel_rfl

/-! ### spec.l7Get: function 146 -/
noncomputable def F.spec_l7Get.s3 : ((List Int) × Int × Int × (List Int) × Int × Unit) → Option (Lp ((List Int) × Int × Int × (List Int) × Int × Unit) ((List Int) × Int × Bool)) := fun (x1, x2, x3, x4, x5, _) =>
  bif decide (x5 < x3) then
    (F.spec_GetNum x1 x2).bind fun r6 =>
    bif !r6.2.2 then
      some (.ret (([] : List Int), 0, false))
    else
    chk (fits (List.length x4 + List.length ([r6.1])) 8) <|
    some (.again (x1, r6.2.1, x3, x4 ++ ([r6.1]), w64 (x5 + 1), ()))
  else
    some (.exit (x1, x2, x3, x4, x5, ()))
noncomputable def F.spec_l7Get (a0 : List Int) (a1 : Int) (a2 : Int) : Option ((List Int) × Int × Bool) :=
  afterO (loopO F.spec_l7Get.s3 (a0, a1, a2, ([] : List Int), 0, ())) fun (x7, x8, x9, x10, x11, _) =>
  some (x10, x8, true)
noncomputable def C.spec_l7Get : Con := ⟨[.r (.val (.sl false 5 (.int .u8))), .r (.val (.int .i64)), .r (.val (.int .i64))], .many [(.sl true 3 (.int .i64)), (.int .i64), .bool], fun x => F.spec_l7Get x.1 x.2.1 x.2.2.1⟩
def L.spec_l7Get : Loops := lookL [(3, ⟨[.pat 0 (.val (.sl false 5 (.int .u8))), .pat 1 (.val (.int .i64)), .pat 2 (.val (.int .i64)), .own 9 (.sl true 3 (.int .i64)), .pat 10 (.val (.int .i64))], 0⟩)]
noncomputable def K.spec_l7Get : Cons := lookK [(260, [], C.spec_GetNum)]
theorem run.spec_l7Get : ∀ x, runF tb K.spec_l7Get L.spec_l7Get [] Try.f146 C.spec_l7Get x = C.spec_l7Get.fn x := fun x => by kernel_rfl

/-! ### spec.SketchOf: function 69 -/
noncomputable def F.spec_SketchOf (a0 : List Int) : Option (DSketch × Bool) :=
  (F.spec_l7Get a0 0 28).bind fun r1 =>
  bif !r1.2.2 then
    some ((0, 0, 0, 0, ([] : List Int), ([] : List Int), ([] : List (List Int)), ()), false)
  else
  bif r1.2.1 != (len a0) then
    some ((0, 0, 0, 0, ([] : List Int), ([] : List Int), ([] : List (List Int)), ()), false)
  else
  chk (inb 0 (List.length r1.1)) <|
  chk (inb 1 (List.length r1.1)) <|
  chk (inb 2 (List.length r1.1)) <|
  chk (inb 3 (List.length r1.1)) <|
  chk (cutOk 4 (w64 (4 + 8)) (List.length r1.1)) <|
  chk (fits (List.length (([] : List Int)) + List.length (List.take ((Int.toNat (w64 (4 + 8))) - 4) (List.drop 4 r1.1))) 8) <|
  chk (cutOk (w64 (4 + 8)) (w64 ((w64 (4 + 8)) + 8)) (List.length r1.1)) <|
  chk (fits (List.length (([] : List Int)) + List.length (List.take ((Int.toNat (w64 ((w64 (4 + 8)) + 8))) - (Int.toNat (w64 (4 + 8)))) (List.drop ((Int.toNat (w64 (4 + 8)))) r1.1))) 8) <|
  chk (cutOk (w64 ((w64 (4 + 8)) + 8)) (w64 ((w64 ((w64 (4 + 8)) + 8)) + 4)) (List.length r1.1)) <|
  chk (fits (List.length (([] : List Int)) + List.length (List.take ((Int.toNat (w64 ((w64 ((w64 (4 + 8)) + 8)) + 4))) - (Int.toNat (w64 ((w64 (4 + 8)) + 8)))) (List.drop ((Int.toNat (w64 ((w64 (4 + 8)) + 8)))) r1.1))) 8) <|
  chk (cutOk (w64 ((w64 ((w64 (4 + 8)) + 8)) + 4)) (len r1.1) (List.length r1.1)) <|
  chk (fits (List.length (([] : List Int)) + List.length (List.take ((Int.toNat (len r1.1)) - (Int.toNat (w64 ((w64 ((w64 (4 + 8)) + 8)) + 4)))) (List.drop ((Int.toNat (w64 ((w64 ((w64 (4 + 8)) + 8)) + 4)))) r1.1))) 8) <|
  (F.spec_SketchOk ((List.getD r1.1 0 0, List.getD r1.1 1 0, List.getD r1.1 2 0, List.getD r1.1 3 0, (([] : List Int)) ++ (List.take ((Int.toNat (w64 (4 + 8))) - 4) (List.drop 4 r1.1)), (([] : List Int)) ++ (List.take ((Int.toNat (w64 ((w64 (4 + 8)) + 8))) - (Int.toNat (w64 (4 + 8)))) (List.drop ((Int.toNat (w64 (4 + 8)))) r1.1)), [(([] : List Int)) ++ (List.take ((Int.toNat (w64 ((w64 ((w64 (4 + 8)) + 8)) + 4))) - (Int.toNat (w64 ((w64 (4 + 8)) + 8)))) (List.drop ((Int.toNat (w64 ((w64 (4 + 8)) + 8)))) r1.1)), (([] : List Int)) ++ (List.take ((Int.toNat (len r1.1)) - (Int.toNat (w64 ((w64 ((w64 (4 + 8)) + 8)) + 4)))) (List.drop ((Int.toNat (w64 ((w64 ((w64 (4 + 8)) + 8)) + 4)))) r1.1))], ()))).bind fun r2 =>
  bif !r2 then
    some ((0, 0, 0, 0, ([] : List Int), ([] : List Int), ([] : List (List Int)), ()), false)
  else
    some ((List.getD r1.1 0 0, List.getD r1.1 1 0, List.getD r1.1 2 0, List.getD r1.1 3 0, (([] : List Int)) ++ (List.take ((Int.toNat (w64 (4 + 8))) - 4) (List.drop 4 r1.1)), (([] : List Int)) ++ (List.take ((Int.toNat (w64 ((w64 (4 + 8)) + 8))) - (Int.toNat (w64 (4 + 8)))) (List.drop ((Int.toNat (w64 (4 + 8)))) r1.1)), [(([] : List Int)) ++ (List.take ((Int.toNat (w64 ((w64 ((w64 (4 + 8)) + 8)) + 4))) - (Int.toNat (w64 ((w64 (4 + 8)) + 8)))) (List.drop ((Int.toNat (w64 ((w64 (4 + 8)) + 8)))) r1.1)), (([] : List Int)) ++ (List.take ((Int.toNat (len r1.1)) - (Int.toNat (w64 ((w64 ((w64 (4 + 8)) + 8)) + 4)))) (List.drop ((Int.toNat (w64 ((w64 ((w64 (4 + 8)) + 8)) + 4)))) r1.1))], ()), true)
noncomputable def C.spec_SketchOf : Con := ⟨[.r (.val (.sl false 5 (.int .u8)))], .many [y3, .bool], fun x => F.spec_SketchOf x.1⟩
def L.spec_SketchOf : Loops := fun _ => none
noncomputable def K.spec_SketchOf : Cons := lookK [(70, [], C.spec_SketchOk), (146, [], C.spec_l7Get)]
theorem run.spec_SketchOf : ∀ x, runF tb K.spec_SketchOf L.spec_SketchOf [] Try.f69 C.spec_SketchOf x = C.spec_SketchOf.fn x := fun x => by kernel_rfl

/-! ### spec.l7Zero: function 187 -/
noncomputable def F.spec_l7Zero (a0 : DItem) : Option Bool :=
  bif a0.1 == 0 then
    bif a0.2.1 == 0 then
      bif a0.2.2.1 == 0 then
        bif a0.2.2.2.1 == 0 then
          bif a0.2.2.2.2.1.1 == 0 then
            bif a0.2.2.2.2.1.2.1 == 0 then
              bif a0.2.2.2.2.1.2.2.1 == 0 then
                bif a0.2.2.2.2.1.2.2.2.1 == 0 then
                  bif (len a0.2.2.2.2.1.2.2.2.2.1) == 0 then
                    bif (len a0.2.2.2.2.1.2.2.2.2.2.1) == 0 then
                      some ((len a0.2.2.2.2.1.2.2.2.2.2.2.1) == 0)
                    else
                      some false
                  else
                    some false
                else
                  some false
              else
                some false
            else
              some false
          else
            some false
        else
          some false
      else
        some false
    else
      some false
  else
    some false
noncomputable def C.spec_l7Zero : Con := ⟨[.r (.val y6)], .one .bool, fun x => F.spec_l7Zero x.1⟩
def L.spec_l7Zero : Loops := fun _ => none
noncomputable def K.spec_l7Zero : Cons := lookK []
theorem run.spec_l7Zero : ∀ x, runF tb K.spec_l7Zero L.spec_l7Zero [] Try.f187 C.spec_l7Zero x = C.spec_l7Zero.fn x := fun x => by kernel_rfl

/-! ### spec.FrameOk: function 62 -/
noncomputable def F.spec_FrameOk.s4 : (Int × DFrame × Unit) → Option (Lp (Int × DFrame × Unit) Bool) := fun (x6, x7, _) =>
  bif decide (x6 < (len x7.2.2.2.2.1)) then
    chk (inb x6 (List.length x7.2.2.2.2.1)) <|
    bif decide (((List.getD x7.2.2.2.2.1 ((Int.toNat x6)) ((0, 0, ()))).1) < 1) then
      some (.ret false)
    else
    chk (inb x6 (List.length x7.2.2.2.2.1)) <|
    bif decide ((((List.getD x7.2.2.2.2.1 ((Int.toNat x6)) ((0, 0, ()))).2).1) > 60) then
      some (.ret false)
    else
      some (.again (w64 (x6 + 1), x7, ()))
  else
    some (.exit (x6, x7, ()))
noncomputable def F.spec_FrameOk (a0 : DFrame) : Option Bool :=
  (F.spec_l1In a0.1 0 3).bind fun r1 =>
  bif !r1 then
    some false
  else
  (F.spec_l6Agent a0.2.1).bind fun r2 =>
  bif !r2 then
    some false
  else
  (F.spec_l1In a0.2.2.1 0 1000).bind fun r3 =>
  bif !r3 then
    some false
  else
  (F.spec_l1In a0.2.2.2.1 0 60).bind fun r4 =>
  bif !r4 then
    some false
  else
  (F.spec_SetOk a0.2.2.2.2.1).bind fun r5 =>
  bif !r5 then
    some false
  else
  afterO (loopO F.spec_FrameOk.s4 (0, a0, ())) fun (x8, x9, _) =>
  bif x9.1 == 1 then
    (F.spec_ItemOk x9.2.2.2.2.2.1).bind fun r10 =>
    some r10
  else
  (F.spec_l7Zero x9.2.2.2.2.2.1).bind fun r11 =>
  some r11
noncomputable def C.spec_FrameOk : Con := ⟨[.r (.val y24)], .one .bool, fun x => F.spec_FrameOk x.1⟩
def L.spec_FrameOk : Loops := lookL [(4, ⟨[.pat 3 (.val (.int .i64)), .root 1 true y24 [1]], 0⟩)]
noncomputable def K.spec_FrameOk : Cons := lookK [(136, [], C.spec_l1In), (184, [], C.spec_l6Agent), (185, [], C.spec_SetOk), (186, [], C.spec_ItemOk), (187, [], C.spec_l7Zero)]
theorem run.spec_FrameOk : ∀ x, runF tb K.spec_FrameOk L.spec_FrameOk [] Try.f62 C.spec_FrameOk x = C.spec_FrameOk.fn x := fun x => by kernel_rfl

/-! ### spec.PutNum: function 291 -/
noncomputable def F.spec_PutNum.s4 : (Int × (List Int) × Unit) → Option (Lp (Int × (List Int) × Unit) ((List Int))) := fun (x2, x3, _) =>
  bif decide (x2 > 127) then
    chk (fits (List.length x3 + List.length ([IntKind.wrap .u8 (w64 ((Int.tmod x2 128) + 128))])) 1) <|
    some (.again (w64 (Int.tdiv x2 128), x3 ++ ([IntKind.wrap .u8 (w64 ((Int.tmod x2 128) + 128))]), ()))
  else
    some (.exit (x2, x3, ()))
noncomputable def F.spec_PutNum (a0 : Int) : Option ((List Int)) :=
  (F.spec_l1In a0 0 2147483647).bind fun r1 =>
  bif !r1 then
    some ([] : List Int)
  else
  afterO (loopO F.spec_PutNum.s4 (a0, ([] : List Int), ())) fun (x4, x5, _) =>
  chk (fits (List.length x5 + List.length ([IntKind.wrap .u8 x4])) 1) <|
  some (x5 ++ ([IntKind.wrap .u8 x4]))
noncomputable def C.spec_PutNum : Con := ⟨[.r (.val (.int .i64))], .one (.sl true 5 (.int .u8)), fun x => F.spec_PutNum x.1⟩
def L.spec_PutNum : Loops := lookL [(4, ⟨[.pat 0 (.val (.int .i64)), .own 3 (.sl true 5 (.int .u8))], 0⟩)]
noncomputable def K.spec_PutNum : Cons := lookK [(136, [], C.spec_l1In)]
theorem run.spec_PutNum : ∀ x, runF tb K.spec_PutNum L.spec_PutNum [] Try.f291 C.spec_PutNum x = C.spec_PutNum.fn x := fun x => by kernel_rfl

/-! ### spec.l7Put: function 273 -/
noncomputable def F.spec_l7Put.s3 : ((List Int) × (List Int) × Int × Unit) → Option (Lp ((List Int) × (List Int) × Int × Unit) ((List Int))) := fun (x1, x2, x3, _) =>
  bif decide (x3 < (len x1)) then
    chk (inb x3 (List.length x1)) <|
    (F.spec_PutNum (List.getD x1 ((Int.toNat x3)) 0)).bind fun r4 =>
    chk (fits (List.length x2 + List.length r4) 1) <|
    some (.again (x1, x2 ++ r4, w64 (x3 + 1), ()))
  else
    some (.exit (x1, x2, x3, ()))
noncomputable def F.spec_l7Put (a0 : List Int) : Option ((List Int)) :=
  afterO (loopO F.spec_l7Put.s3 (a0, ([] : List Int), 0, ())) fun (x5, x6, x7, _) =>
  some x6
noncomputable def C.spec_l7Put : Con := ⟨[.r (.val (.sl false 3 (.int .i64)))], .one (.sl true 5 (.int .u8)), fun x => F.spec_l7Put x.1⟩
def L.spec_l7Put : Loops := lookL [(3, ⟨[.pat 0 (.val (.sl false 3 (.int .i64))), .own 3 (.sl true 5 (.int .u8)), .pat 4 (.val (.int .i64))], 0⟩)]
noncomputable def K.spec_l7Put : Cons := lookK [(291, [], C.spec_PutNum)]
theorem run.spec_l7Put : ∀ x, runF tb K.spec_l7Put L.spec_l7Put [] Try.f273 C.spec_l7Put x = C.spec_l7Put.fn x := fun x => by kernel_rfl

/-! ### spec.l7Nums: function 274 -/
noncomputable def F.spec_l7Nums.s5 : ((List Int) × Int × DSketch × Unit) → Option (Lp ((List Int) × Int × DSketch × Unit) ((List Int))) := fun (x1, x2, x3, _) =>
  bif decide (x2 < (len x3.2.2.2.2.2.2.1)) then
    chk (inb x2 (List.length x3.2.2.2.2.2.2.1)) <|
    chk (fits (List.length x1 + List.length (List.getD x3.2.2.2.2.2.2.1 ((Int.toNat x2)) (([] : List Int)))) 8) <|
    some (.again (x1 ++ (List.getD x3.2.2.2.2.2.2.1 ((Int.toNat x2)) (([] : List Int))), w64 (x2 + 1), x3, ()))
  else
    some (.exit (x1, x2, x3, ()))
noncomputable def F.spec_l7Nums (a0 : DSketch) : Option ((List Int)) :=
  chk (fits (List.length ([a0.1, a0.2.1, a0.2.2.1, a0.2.2.2.1]) + List.length a0.2.2.2.2.1) 8) <|
  chk (fits (List.length (([a0.1, a0.2.1, a0.2.2.1, a0.2.2.2.1]) ++ a0.2.2.2.2.1) + List.length a0.2.2.2.2.2.1) 8) <|
  afterO (loopO F.spec_l7Nums.s5 ((([a0.1, a0.2.1, a0.2.2.1, a0.2.2.2.1]) ++ a0.2.2.2.2.1) ++ a0.2.2.2.2.2.1, 0, a0, ())) fun (x4, x5, x6, _) =>
  some x4
noncomputable def C.spec_l7Nums : Con := ⟨[.r (.val y1)], .one (.sl true 3 (.int .i64)), fun x => F.spec_l7Nums x.1⟩
def L.spec_l7Nums : Loops := lookL [(5, ⟨[.own 3 (.sl true 3 (.int .i64)), .pat 4 (.val (.int .i64)), .root 1 true y1 [1]], 0⟩)]
noncomputable def K.spec_l7Nums : Cons := lookK []
theorem run.spec_l7Nums : ∀ x, runF tb K.spec_l7Nums L.spec_l7Nums [] Try.f274 C.spec_l7Nums x = C.spec_l7Nums.fn x := fun x => by kernel_rfl

/-! ### spec.SketchBytes: function 195 -/
noncomputable def F.spec_SketchBytes (a0 : DSketch) : Option ((List Int)) :=
  (F.spec_SketchOk a0).bind fun r1 =>
  bif !r1 then
    some ([] : List Int)
  else
  (F.spec_l7Nums a0).bind fun r2 =>
  (F.spec_l7Put r2).bind fun r3 =>
  some r3
noncomputable def C.spec_SketchBytes : Con := ⟨[.r (.val y1)], .one (.sl true 5 (.int .u8)), fun x => F.spec_SketchBytes x.1⟩
def L.spec_SketchBytes : Loops := fun _ => none
noncomputable def K.spec_SketchBytes : Cons := lookK [(70, [], C.spec_SketchOk), (273, [], C.spec_l7Put), (274, [], C.spec_l7Nums)]
theorem run.spec_SketchBytes : ∀ x, runF tb K.spec_SketchBytes L.spec_SketchBytes [] Try.f195 C.spec_SketchBytes x = C.spec_SketchBytes.fn x := fun x => by kernel_rfl

/-! ### spec.l7Body: function 261 -/
noncomputable def F.spec_l7Body.s3 : ((List Int) × Int × DFrame × Unit) → Option (Lp ((List Int) × Int × DFrame × Unit) ((List Int))) := fun (x2, x3, x4, _) =>
  bif decide (x3 < (len x4.2.2.2.2.1)) then
    chk (inb x3 (List.length x4.2.2.2.2.1)) <|
    chk (inb x3 (List.length x4.2.2.2.2.1)) <|
    (F.spec_l7Put ([(List.getD x4.2.2.2.2.1 ((Int.toNat x3)) ((0, 0, ()))).1, ((List.getD x4.2.2.2.2.1 ((Int.toNat x3)) ((0, 0, ()))).2).1])).bind fun r5 =>
    chk (fits (List.length x2 + List.length r5) 1) <|
    some (.again (x2 ++ r5, w64 (x3 + 1), x4, ()))
  else
    some (.exit (x2, x3, x4, ()))
noncomputable def F.spec_l7Body (a0 : DFrame) : Option ((List Int)) :=
  (F.spec_l7Put ([a0.1, a0.2.1, a0.2.2.1, a0.2.2.2.1, len a0.2.2.2.2.1])).bind fun r1 =>
  chk (fits (List.length ([87, 82]) + List.length r1) 1) <|
  afterO (loopO F.spec_l7Body.s3 (([87, 82]) ++ r1, 0, a0, ())) fun (x6, x7, x8, _) =>
  bif x8.1 == 1 then
    (F.spec_l7Put ([x8.2.2.2.2.2.1.1, x8.2.2.2.2.2.1.2.1, x8.2.2.2.2.2.1.2.2.1, x8.2.2.2.2.2.1.2.2.2.1])).bind fun r9 =>
    chk (fits (List.length x6 + List.length r9) 1) <|
    (F.spec_SketchBytes x8.2.2.2.2.2.1.2.2.2.2.1).bind fun r10 =>
    chk (fits (List.length (x6 ++ r9) + List.length r10) 1) <|
    some ((x6 ++ r9) ++ r10)
  else
    some x6
noncomputable def C.spec_l7Body : Con := ⟨[.r (.val y24)], .one (.sl true 5 (.int .u8)), fun x => F.spec_l7Body x.1⟩
def L.spec_l7Body : Loops := lookL [(3, ⟨[.own 3 (.sl true 5 (.int .u8)), .pat 4 (.val (.int .i64)), .root 1 true y24 [1]], 0⟩)]
noncomputable def K.spec_l7Body : Cons := lookK [(195, [], C.spec_SketchBytes), (273, [], C.spec_l7Put)]
theorem run.spec_l7Body : ∀ x, runF tb K.spec_l7Body L.spec_l7Body [] Try.f261 C.spec_l7Body x = C.spec_l7Body.fn x := fun x => by kernel_rfl

/-! ### spec.FrameBytes: function 147 -/
noncomputable def F.spec_FrameBytes (a0 : DFrame) : Option ((List Int)) :=
  (F.spec_FrameOk a0).bind fun r1 =>
  bif !r1 then
    some ([] : List Int)
  else
  (F.spec_l7Body a0).bind fun r2 =>
  (F.spec_l7Sum r2).bind fun r3 =>
  chk (fits (List.length r2 + List.length r3) 1) <|
  some (r2 ++ r3)
noncomputable def C.spec_FrameBytes : Con := ⟨[.r (.val y24)], .one (.sl true 5 (.int .u8)), fun x => F.spec_FrameBytes x.1⟩
def L.spec_FrameBytes : Loops := fun _ => none
noncomputable def K.spec_FrameBytes : Cons := lookK [(62, [], C.spec_FrameOk), (145, [], C.spec_l7Sum), (261, [], C.spec_l7Body)]
theorem run.spec_FrameBytes : ∀ x, runF tb K.spec_FrameBytes L.spec_FrameBytes [] Try.f147 C.spec_FrameBytes x = C.spec_FrameBytes.fn x := fun x => by kernel_rfl

/-! ### spec.FrameOf: function 47 -/
noncomputable def F.spec_FrameOf.s12 : ((List Int) × (List Int) × (List Int) × Int × Int × DFrame × DFrame × Unit) → Option (Lp ((List Int) × (List Int) × (List Int) × Int × Int × DFrame × DFrame × Unit) (DFrame × Bool)) := fun (x4, x5, x6, x7, x8, x9, x10, _) =>
  bif decide ((w64 (x8 + 1)) < (len x6)) then
    chk (inb x8 (List.length x6)) <|
    chk (inb (w64 (x8 + 1)) (List.length x6)) <|
    chk (fits (List.length x10.2.2.2.2.1 + List.length ([(List.getD x6 ((Int.toNat x8)) 0, List.getD x6 ((Int.toNat (w64 (x8 + 1)))) 0, ())])) 16) <|
    some (.again (x4, x5, x6, x7, w64 (x8 + 2), x9, (x10.1, x10.2.1, x10.2.2.1, x10.2.2.2.1, x10.2.2.2.2.1 ++ ([(List.getD x6 ((Int.toNat x8)) 0, List.getD x6 ((Int.toNat (w64 (x8 + 1)))) 0, ())]), x10.2.2.2.2.2), ()))
  else
    some (.exit (x4, x5, x6, x7, x8, x9, x10, ()))
noncomputable def F.spec_FrameOf (a0 : List Int) : Option (DFrame × Bool) :=
  bif decide ((len a0) < 6) then
    some ((0, 0, 0, 0, ([] : List DSpan), (0, 0, 0, 0, (0, 0, 0, 0, ([] : List Int), ([] : List Int), ([] : List (List Int)), ()), ()), ()), false)
  else
  chk (cutOk 0 (w64 ((len a0) - 4)) (List.length a0)) <|
  (F.spec_l7Sum (List.take ((Int.toNat (w64 ((len a0) - 4))) - 0) (List.drop 0 a0))).bind fun r1 =>
  chk (cutOk (w64 ((len a0) - 4)) (len a0) (List.length a0)) <|
  bif !(ByteArray.toList (toBytes r1) == ByteArray.toList (toBytes (List.take ((Int.toNat (len a0)) - (Int.toNat (w64 ((len a0) - 4)))) (List.drop (Int.toNat (w64 ((len a0) - 4))) a0)))) then
    some ((0, 0, 0, 0, ([] : List DSpan), (0, 0, 0, 0, (0, 0, 0, 0, ([] : List Int), ([] : List Int), ([] : List (List Int)), ()), ()), ()), false)
  else
  chk (cutOk 0 (w64 ((len a0) - 4)) (List.length a0)) <|
  (F.spec_l7Get (List.take ((Int.toNat (w64 ((len a0) - 4))) - 0) (List.drop 0 a0)) 2 5).bind fun r2 =>
  bif !r2.2.2 then
    some ((0, 0, 0, 0, ([] : List DSpan), (0, 0, 0, 0, (0, 0, 0, 0, ([] : List Int), ([] : List Int), ([] : List (List Int)), ()), ()), ()), false)
  else
  chk (inb 4 (List.length r2.1)) <|
  bif decide ((List.getD r2.1 4 0) > 100) then
    some ((0, 0, 0, 0, ([] : List DSpan), (0, 0, 0, 0, (0, 0, 0, 0, ([] : List Int), ([] : List Int), ([] : List (List Int)), ()), ()), ()), false)
  else
  chk (inb 0 (List.length r2.1)) <|
  chk (inb 1 (List.length r2.1)) <|
  chk (inb 2 (List.length r2.1)) <|
  chk (inb 3 (List.length r2.1)) <|
  chk (inb 4 (List.length r2.1)) <|
  (F.spec_l7Get (List.take ((Int.toNat (w64 ((len a0) - 4))) - 0) (List.drop 0 a0)) r2.2.1 (w64 (2 * (List.getD r2.1 4 0)))).bind fun r3 =>
  bif !r3.2.2 then
    some ((0, 0, 0, 0, ([] : List DSpan), (0, 0, 0, 0, (0, 0, 0, 0, ([] : List Int), ([] : List Int), ([] : List (List Int)), ()), ()), ()), false)
  else
  afterO (loopO F.spec_FrameOf.s12 (a0, List.take ((Int.toNat (w64 ((len a0) - 4))) - 0) (List.drop 0 a0), r3.1, r3.2.1, 0, (0, 0, 0, 0, ([] : List DSpan), (0, 0, 0, 0, (0, 0, 0, 0, ([] : List Int), ([] : List Int), ([] : List (List Int)), ()), ()), ()), (List.getD r2.1 0 0, List.getD r2.1 1 0, List.getD r2.1 2 0, List.getD r2.1 3 0, ([] : List DSpan), (0, 0, 0, 0, (0, 0, 0, 0, ([] : List Int), ([] : List Int), ([] : List (List Int)), ()), ()), ()), ())) fun (x11, x12, x13, x14, x15, x16, x17, _) =>
  bif x17.1 == 1 then
    (F.spec_l7Get x12 x14 4).bind fun r18 =>
    bif !r18.2.2 then
      some ((0, 0, 0, 0, ([] : List DSpan), (0, 0, 0, 0, (0, 0, 0, 0, ([] : List Int), ([] : List Int), ([] : List (List Int)), ()), ()), ()), false)
    else
    chk (cutOk r18.2.1 (len x12) (List.length x12)) <|
    (F.spec_SketchOf (List.take ((Int.toNat (len x12)) - (Int.toNat r18.2.1)) (List.drop (Int.toNat r18.2.1) x12))).bind fun r19 =>
    bif !r19.2 then
      some ((0, 0, 0, 0, ([] : List DSpan), (0, 0, 0, 0, (0, 0, 0, 0, ([] : List Int), ([] : List Int), ([] : List (List Int)), ()), ()), ()), false)
    else
    chk (inb 0 (List.length r18.1)) <|
    chk (inb 1 (List.length r18.1)) <|
    chk (inb 2 (List.length r18.1)) <|
    chk (inb 3 (List.length r18.1)) <|
    (F.spec_FrameOk ((x17.1, x17.2.1, x17.2.2.1, x17.2.2.2.1, x17.2.2.2.2.1, (List.getD r18.1 0 0, List.getD r18.1 1 0, List.getD r18.1 2 0, List.getD r18.1 3 0, r19.1, ()), x17.2.2.2.2.2.2))).bind fun r20 =>
    bif !r20 then
      some ((0, 0, 0, 0, ([] : List DSpan), (0, 0, 0, 0, (0, 0, 0, 0, ([] : List Int), ([] : List Int), ([] : List (List Int)), ()), ()), ()), false)
    else
    (F.spec_FrameBytes ((x17.1, x17.2.1, x17.2.2.1, x17.2.2.2.1, x17.2.2.2.2.1, (List.getD r18.1 0 0, List.getD r18.1 1 0, List.getD r18.1 2 0, List.getD r18.1 3 0, r19.1, ()), x17.2.2.2.2.2.2))).bind fun r21 =>
    bif !(ByteArray.toList (toBytes r21) == ByteArray.toList (toBytes x11)) then
      some ((0, 0, 0, 0, ([] : List DSpan), (0, 0, 0, 0, (0, 0, 0, 0, ([] : List Int), ([] : List Int), ([] : List (List Int)), ()), ()), ()), false)
    else
      some ((x17.1, x17.2.1, x17.2.2.1, x17.2.2.2.1, x17.2.2.2.2.1, (List.getD r18.1 0 0, List.getD r18.1 1 0, List.getD r18.1 2 0, List.getD r18.1 3 0, r19.1, ()), x17.2.2.2.2.2.2), true)
  else
  (F.spec_FrameOk x17).bind fun r22 =>
  bif !r22 then
    some ((0, 0, 0, 0, ([] : List DSpan), (0, 0, 0, 0, (0, 0, 0, 0, ([] : List Int), ([] : List Int), ([] : List (List Int)), ()), ()), ()), false)
  else
  (F.spec_FrameBytes x17).bind fun r23 =>
  bif !(ByteArray.toList (toBytes r23) == ByteArray.toList (toBytes x11)) then
    some ((0, 0, 0, 0, ([] : List DSpan), (0, 0, 0, 0, (0, 0, 0, 0, ([] : List Int), ([] : List Int), ([] : List (List Int)), ()), ()), ()), false)
  else
    some (x17, true)
noncomputable def C.spec_FrameOf : Con := ⟨[.r (.val (.sl false 5 (.int .u8)))], .many [y25, .bool], fun x => F.spec_FrameOf x.1⟩
def L.spec_FrameOf : Loops := lookL [(12, ⟨[.pat 0 (.val (.sl false 5 (.int .u8))), .pat 4 (.val (.sl false 5 (.int .u8))), .own 9 (.sl true 3 (.int .i64)), .pat 10 (.val (.int .i64)), .pat 11 (.val (.int .i64)), .root 2 true y25 [2], .root 8 true y25 [8]], 0⟩)]
noncomputable def K.spec_FrameOf : Cons := lookK [(62, [], C.spec_FrameOk), (69, [], C.spec_SketchOf), (145, [], C.spec_l7Sum), (146, [], C.spec_l7Get), (147, [], C.spec_FrameBytes)]
theorem run.spec_FrameOf : ∀ x, runF tb K.spec_FrameOf L.spec_FrameOf [] Try.f47 C.spec_FrameOf x = C.spec_FrameOf.fn x := fun x => by kernel_rfl

/-! ### impl.PutNum: function 270 -/
noncomputable def F.impl_PutNum.s4 : (Int × (List Int) × Unit) → Option (Lp (Int × (List Int) × Unit) ((List Int))) := fun (x2, x3, _) =>
  bif decide (x2 ≥ 128) then
    chk (fits (List.length x3 + List.length ([IntKind.wrap .u8 (w64 ((Int.tmod x2 128) + 128))])) 1) <|
    some (.again (w64 (Int.tdiv x2 128), x3 ++ ([IntKind.wrap .u8 (w64 ((Int.tmod x2 128) + 128))]), ()))
  else
    some (.exit (x2, x3, ()))
noncomputable def F.impl_PutNum (a0 : Int) : Option ((List Int)) :=
  (F.impl_within a0 0 2147483647).bind fun r1 =>
  bif !r1 then
    some ([] : List Int)
  else
  afterO (loopO F.impl_PutNum.s4 (a0, ([] : List Int), ())) fun (x4, x5, _) =>
  chk (fits (List.length x5 + List.length ([IntKind.wrap .u8 x4])) 1) <|
  some (x5 ++ ([IntKind.wrap .u8 x4]))
noncomputable def C.impl_PutNum : Con := ⟨[.r (.val (.int .i64))], .one (.sl true 5 (.int .u8)), fun x => F.impl_PutNum x.1⟩
def L.impl_PutNum : Loops := lookL [(4, ⟨[.pat 0 (.val (.int .i64)), .own 3 (.sl true 5 (.int .u8))], 0⟩)]
noncomputable def K.impl_PutNum : Cons := lookK [(142, [], C.impl_within)]
theorem run.impl_PutNum : ∀ x, runF tb K.impl_PutNum L.impl_PutNum [] Try.f270 C.impl_PutNum x = C.impl_PutNum.fn x := fun x => by kernel_rfl

/-! ### impl.GetNum: function 262 -/
noncomputable def F.impl_GetNum.s5 : ((List Int) × Int × Int × Int × Unit) → Option (Lp ((List Int) × Int × Int × Int × Unit) (Int × Int × Bool)) := fun (x2, x3, x4, x5, _) =>
  bif decide (x5 < 5) then
    bif decide ((w64 (x3 + x5)) < (len x2)) then
      chk (inb (w64 (x3 + x5)) (List.length x2)) <|
      nchk (decide ((w64 (7 * x5)) < 0)) <|
      bif decide ((w64 (List.getD x2 ((Int.toNat (w64 (x3 + x5)))) 0)) < 128) then
        (F.impl_PutNum (w64 (x4 + (w64 ((Int.tmod (w64 (List.getD x2 ((Int.toNat (w64 (x3 + x5)))) 0)) 128) * 2 ^ (min (Int.toNat (w64 (7 * x5))) 64)))))).bind fun r6 =>
        bif (len r6) != (w64 (x5 + 1)) then
          some (.ret (0, 0, false))
        else
          some (.ret (w64 (x4 + (w64 ((Int.tmod (w64 (List.getD x2 ((Int.toNat (w64 (x3 + x5)))) 0)) 128) * 2 ^ (min (Int.toNat (w64 (7 * x5))) 64)))), w64 ((w64 (x3 + x5)) + 1), true))
      else
        some (.again (x2, x3, w64 (x4 + (w64 ((Int.tmod (w64 (List.getD x2 ((Int.toNat (w64 (x3 + x5)))) 0)) 128) * 2 ^ (min (Int.toNat (w64 (7 * x5))) 64)))), w64 (x5 + 1), ()))
    else
      some (.exit (x2, x3, x4, x5, ()))
  else
    some (.exit (x2, x3, x4, x5, ()))
noncomputable def F.impl_GetNum (a0 : List Int) (a1 : Int) : Option (Int × Int × Bool) :=
  (F.impl_within a1 0 (w64 ((len a0) - 1))).bind fun r1 =>
  bif !r1 then
    some (0, 0, false)
  else
  afterO (loopO F.impl_GetNum.s5 (a0, a1, 0, 0, ())) fun (x7, x8, x9, x10, _) =>
  some (0, 0, false)
noncomputable def C.impl_GetNum : Con := ⟨[.r (.val (.sl false 5 (.int .u8))), .r (.val (.int .i64))], .many [(.int .i64), (.int .i64), .bool], fun x => F.impl_GetNum x.1 x.2.1⟩
def L.impl_GetNum : Loops := lookL [(5, ⟨[.pat 0 (.val (.sl false 5 (.int .u8))), .pat 1 (.val (.int .i64)), .pat 7 (.val (.int .i64)), .pat 8 (.val (.int .i64))], 0⟩)]
noncomputable def K.impl_GetNum : Cons := lookK [(142, [], C.impl_within), (270, [], C.impl_PutNum)]
theorem run.impl_GetNum : ∀ x, runF tb K.impl_GetNum L.impl_GetNum [] Try.f262 C.impl_GetNum x = C.impl_GetNum.fn x := fun x => by kernel_rfl

/-! ### (*impl.reader).num: function 148 -/
noncomputable def F.impl_reader_num (a0 : DReader) : Option (Int × DReader) :=
  (F.impl_GetNum a0.1 a0.2.1).bind fun r1 =>
  bif a0.2.2.1 then
    some (0, (a0.1, a0.2.1, true, a0.2.2.2))
  else
  bif !r1.2.2 then
    some (0, (a0.1, a0.2.1, true, a0.2.2.2))
  else
    some (r1.1, (a0.1, r1.2.1, a0.2.2))
noncomputable def C.impl_reader_num : Con := ⟨[.p y26 y26], .one (.int .i64), fun x => F.impl_reader_num x.1⟩
def L.impl_reader_num : Loops := fun _ => none
noncomputable def K.impl_reader_num : Cons := lookK [(262, [], C.impl_GetNum)]
theorem run.impl_reader_num : ∀ x, runF tb K.impl_reader_num L.impl_reader_num [0] Try.f148 C.impl_reader_num x = C.impl_reader_num.fn x := fun x => by kernel_rfl

/-! ### (*impl.reader).spans: function 149 -/
noncomputable def F.impl_reader_spans.s4 : ((List DSpan) × Int × Int × DReader × Unit) → Option (Lp ((List DSpan) × Int × Int × DReader × Unit) ((List DSpan) × DReader)) := fun (x2, x3, x4, x5, _) =>
  bif decide (x4 < x3) then
    bif !x5.2.2.1 then
      (F.impl_reader_num x5).bind fun r6 =>
      (F.impl_reader_num r6.2).bind fun r7 =>
      chk (fits (List.length x2 + List.length ([(r6.1, r7.1, ())])) 16) <|
      some (.again (x2 ++ ([(r6.1, r7.1, ())]), x3, w64 (x4 + 1), r7.2, ()))
    else
      some (.exit (x2, x3, x4, x5, ()))
  else
    some (.exit (x2, x3, x4, x5, ()))
noncomputable def F.impl_reader_spans (a0 : DReader) : Option ((List DSpan) × DReader) :=
  (F.impl_reader_num a0).bind fun r1 =>
  afterO (loopO F.impl_reader_spans.s4 (([] : List DSpan), r1.1, 0, r1.2, ())) fun (x8, x9, x10, x11, _) =>
  some (x8, x11)
noncomputable def C.impl_reader_spans : Con := ⟨[.p y26 y26], .one (.sl true 175 y0), fun x => F.impl_reader_spans x.1⟩
def L.impl_reader_spans : Loops := lookL [(4, ⟨[.own 3 (.sl true 175 y0), .pat 4 (.val (.int .i64)), .pat 5 (.val (.int .i64)), .root 0 true y26 [0]], 0⟩)]
noncomputable def K.impl_reader_spans : Cons := lookK [(148, [], C.impl_reader_num)]
theorem run.impl_reader_spans : ∀ x, runF tb K.impl_reader_spans L.impl_reader_spans [0] Try.f149 C.impl_reader_spans x = C.impl_reader_spans.fn x := fun x => by kernel_rfl

/-! ### (*impl.reader).nums: function 263 -/
noncomputable def F.impl_reader_nums.s3 : (Int × (List Int) × Int × DReader × Unit) → Option (Lp (Int × (List Int) × Int × DReader × Unit) ((List Int) × DReader)) := fun (x1, x2, x3, x4, _) =>
  bif decide (x3 < x1) then
    bif !x4.2.2.1 then
      (F.impl_reader_num x4).bind fun r5 =>
      chk (fits (List.length x2 + List.length ([r5.1])) 8) <|
      some (.again (x1, x2 ++ ([r5.1]), w64 (x3 + 1), r5.2, ()))
    else
      some (.exit (x1, x2, x3, x4, ()))
  else
    some (.exit (x1, x2, x3, x4, ()))
noncomputable def F.impl_reader_nums (a0 : DReader) (a1 : Int) : Option ((List Int) × DReader) :=
  afterO (loopO F.impl_reader_nums.s3 (a1, ([] : List Int), 0, a0, ())) fun (x6, x7, x8, x9, _) =>
  some (x7, x9)
noncomputable def C.impl_reader_nums : Con := ⟨[.p y26 y26, .r (.val (.int .i64))], .one (.sl true 3 (.int .i64)), fun x => F.impl_reader_nums x.1 x.2.1⟩
def L.impl_reader_nums : Loops := lookL [(3, ⟨[.pat 1 (.val (.int .i64)), .own 5 (.sl true 3 (.int .i64)), .pat 6 (.val (.int .i64)), .root 0 true y26 [0]], 0⟩)]
noncomputable def K.impl_reader_nums : Cons := lookK [(148, [], C.impl_reader_num)]
theorem run.impl_reader_nums : ∀ x, runF tb K.impl_reader_nums L.impl_reader_nums [0] Try.f263 C.impl_reader_nums x = C.impl_reader_nums.fn x := fun x => by kernel_rfl

/-! ### (*impl.reader).sketch: function 150 -/
noncomputable def F.impl_reader_sketch (a0 : DReader) : Option (DSketch × DReader) :=
  (F.impl_reader_num a0).bind fun r1 =>
  (F.impl_reader_num r1.2).bind fun r2 =>
  (F.impl_reader_num r2.2).bind fun r3 =>
  (F.impl_reader_num r3.2).bind fun r4 =>
  (F.impl_reader_nums r4.2 8).bind fun r5 =>
  (F.impl_reader_nums r5.2 8).bind fun r6 =>
  (F.impl_reader_nums r6.2 4).bind fun r7 =>
  (F.impl_reader_nums r7.2 4).bind fun r8 =>
  some ((r1.1, r2.1, r3.1, r4.1, r5.1, r6.1, [r7.1, r8.1], ()), r8.2)
noncomputable def C.impl_reader_sketch : Con := ⟨[.p y26 y26], .one y3, fun x => F.impl_reader_sketch x.1⟩
def L.impl_reader_sketch : Loops := fun _ => none
noncomputable def K.impl_reader_sketch : Cons := lookK [(148, [], C.impl_reader_num), (263, [], C.impl_reader_nums)]
theorem run.impl_reader_sketch : ∀ x, runF tb K.impl_reader_sketch L.impl_reader_sketch [0] Try.f150 C.impl_reader_sketch x = C.impl_reader_sketch.fn x := fun x => by kernel_rfl

/-! ### slices.Equal[[]int,int]: function 225 -/
noncomputable def F.slices_Equal_int.s4 : ((List Int) × (List Int) × Int × Int × Unit) → Option (Lp ((List Int) × (List Int) × Int × Int × Unit) Bool) := fun (x1, x2, x3, x4, _) =>
  bif decide (x4 < x3) then
    chk (inb x4 (List.length x1)) <|
    chk (inb x4 (List.length x2)) <|
    bif (List.getD x1 ((Int.toNat x4)) 0) != (List.getD x2 ((Int.toNat x4)) 0) then
      some (.ret false)
    else
      some (.again (x1, x2, x3, w64 (x4 + 1), ()))
  else
    some (.exit (x1, x2, x3, x4, ()))
noncomputable def F.slices_Equal_int (a0 : List Int) (a1 : List Int) : Option Bool :=
  bif (len a0) != (len a1) then
    some false
  else
  afterO (loopO F.slices_Equal_int.s4 (a0, a1, len a0, 0, ())) fun (x5, x6, x7, x8, _) =>
  some true
noncomputable def C.slices_Equal_int : Con := ⟨[.r (.val (.sl false 3 (.int .i64))), .r (.val (.sl false 3 (.int .i64)))], .one .bool, fun x => F.slices_Equal_int x.1 x.2.1⟩
def L.slices_Equal_int : Loops := lookL [(4, ⟨[.pat 0 (.val (.sl false 3 (.int .i64))), .pat 1 (.val (.sl false 3 (.int .i64))), .pat 12 (.val (.int .i64)), .pat 13 (.val (.int .i64))], 0⟩)]
noncomputable def K.slices_Equal_int : Cons := lookK []
theorem run.slices_Equal_int : ∀ x, runF tb K.slices_Equal_int L.slices_Equal_int [] Try.f225 C.slices_Equal_int x = C.slices_Equal_int.fn x := fun x => by kernel_rfl

/-! ### slices.EqualFunc[[][]int,[][]int,[]int,[]int]: function 226 -/
noncomputable def F.slices_EqualFunc_SSint__slices_Equal_int.s4 : ((List (List Int)) × Unit × (List (List Int)) × Int × Int × Unit) → Option (Lp ((List (List Int)) × Unit × (List (List Int)) × Int × Int × Unit) Bool) := fun (x1, x2, x3, x4, x5, _) =>
  bif decide (x5 < x4) then
    chk (inb x5 (List.length x3)) <|
    chk (inb x5 (List.length x1)) <|
    (F.slices_Equal_int (List.getD x3 ((Int.toNat x5)) (([] : List Int))) (List.getD x1 ((Int.toNat x5)) (([] : List Int)))).bind fun r6 =>
    bif !r6 then
      some (.ret false)
    else
      some (.again (x1, (), x3, x4, w64 (x5 + 1), ()))
  else
    some (.exit (x1, (), x3, x4, x5, ()))
noncomputable def F.slices_EqualFunc_SSint__slices_Equal_int (a0 : List (List Int)) (a1 : List (List Int)) (a2 : Unit) : Option Bool :=
  bif (len a0) != (len a1) then
    some false
  else
  afterO (loopO F.slices_EqualFunc_SSint__slices_Equal_int.s4 (a1, (), a0, len a0, 0, ())) fun (x7, x8, x9, x10, x11, _) =>
  some true
noncomputable def C.slices_EqualFunc_SSint__slices_Equal_int : Con := ⟨[.r (.val (.sl false 27 (.sl false 3 (.int .i64)))), .r (.val (.sl false 27 (.sl false 3 (.int .i64)))), .r (.fn 225 .nil)], .one .bool, fun x => F.slices_EqualFunc_SSint__slices_Equal_int x.1 x.2.1 x.2.2.1⟩
def L.slices_EqualFunc_SSint__slices_Equal_int : Loops := lookL [(4, ⟨[.pat 1 (.val (.sl false 27 (.sl false 3 (.int .i64)))), .pat 2 (.fn 225 .nil), .pat 15 (.val (.sl false 27 (.sl false 3 (.int .i64)))), .pat 16 (.val (.int .i64)), .pat 17 (.val (.int .i64))], 0⟩)]
noncomputable def K.slices_EqualFunc_SSint__slices_Equal_int : Cons := lookK [(225, [], C.slices_Equal_int)]
theorem run.slices_EqualFunc_SSint__slices_Equal_int : ∀ x, runF tb K.slices_EqualFunc_SSint__slices_Equal_int L.slices_EqualFunc_SSint__slices_Equal_int [] Try.f226 C.slices_EqualFunc_SSint__slices_Equal_int x = C.slices_EqualFunc_SSint__slices_Equal_int.fn x := fun x => by kernel_rfl

/-! ### impl.SketchSame: function 89 -/
noncomputable def F.impl_SketchSame (a0 : DSketch) (a1 : DSketch) : Option Bool :=
  bif a0.1 == a1.1 then
    bif a0.2.1 == a1.2.1 then
      bif a0.2.2.1 == a1.2.2.1 then
        bif a0.2.2.2.1 == a1.2.2.2.1 then
          (F.slices_Equal_int a0.2.2.2.2.1 a1.2.2.2.2.1).bind fun r1 =>
          bif r1 then
            (F.slices_Equal_int a0.2.2.2.2.2.1 a1.2.2.2.2.2.1).bind fun r2 =>
            bif r2 then
              (F.slices_EqualFunc_SSint__slices_Equal_int a0.2.2.2.2.2.2.1 a1.2.2.2.2.2.2.1 (())).bind fun r3 =>
              some r3
            else
              some false
          else
            some false
        else
          some false
      else
        some false
    else
      some false
  else
    some false
noncomputable def C.impl_SketchSame : Con := ⟨[.r (.val y1), .r (.val y1)], .one .bool, fun x => F.impl_SketchSame x.1 x.2.1⟩
def L.impl_SketchSame : Loops := fun _ => none
noncomputable def K.impl_SketchSame : Cons := lookK [(225, [], C.slices_Equal_int), (226, [225], C.slices_EqualFunc_SSint__slices_Equal_int)]
theorem run.impl_SketchSame : ∀ x, runF tb K.impl_SketchSame L.impl_SketchSame [] Try.f89 C.impl_SketchSame x = C.impl_SketchSame.fn x := fun x => by kernel_rfl

/-! ### impl.itemSame: function 264 -/
noncomputable def F.impl_itemSame (a0 : DItem) (a1 : DItem) : Option Bool :=
  bif a0.1 == a1.1 then
    bif a0.2.1 == a1.2.1 then
      bif a0.2.2.1 == a1.2.2.1 then
        bif a0.2.2.2.1 == a1.2.2.2.1 then
          (F.impl_SketchSame a0.2.2.2.2.1 a1.2.2.2.2.1).bind fun r1 =>
          some r1
        else
          some false
      else
        some false
    else
      some false
  else
    some false
noncomputable def C.impl_itemSame : Con := ⟨[.r (.val y6), .r (.val y6)], .one .bool, fun x => F.impl_itemSame x.1 x.2.1⟩
def L.impl_itemSame : Loops := fun _ => none
noncomputable def K.impl_itemSame : Cons := lookK [(89, [], C.impl_SketchSame)]
theorem run.impl_itemSame : ∀ x, runF tb K.impl_itemSame L.impl_itemSame [] Try.f264 C.impl_itemSame x = C.impl_itemSame.fn x := fun x => by kernel_rfl

/-! ### impl.FrameOk: function 151 -/
noncomputable def F.impl_FrameOk (a0 : DFrame) : Option Bool :=
  (F.impl_within a0.1 0 3).bind fun r1 =>
  bif !r1 then
    some false
  else
  (F.impl_within a0.2.1 0 2).bind fun r2 =>
  bif !r2 then
    some false
  else
  (F.impl_within a0.2.2.1 0 1000).bind fun r3 =>
  bif !r3 then
    some false
  else
  (F.impl_within a0.2.2.2.1 0 60).bind fun r4 =>
  bif !r4 then
    some false
  else
  (F.impl_allIn a0.2.2.2.2.1 1 60).bind fun r5 =>
  bif !r5 then
    some false
  else
  bif a0.1 == 1 then
    (F.impl_ItemOk a0.2.2.2.2.2.1).bind fun r6 =>
    some r6
  else
  (F.impl_itemSame a0.2.2.2.2.2.1 ((0, 0, 0, 0, (0, 0, 0, 0, ([] : List Int), ([] : List Int), ([] : List (List Int)), ()), ()))).bind fun r7 =>
  some r7
noncomputable def C.impl_FrameOk : Con := ⟨[.r (.val y24)], .one .bool, fun x => F.impl_FrameOk x.1⟩
def L.impl_FrameOk : Loops := fun _ => none
noncomputable def K.impl_FrameOk : Cons := lookK [(142, [], C.impl_within), (221, [], C.impl_allIn), (227, [], C.impl_ItemOk), (264, [], C.impl_itemSame)]
theorem run.impl_FrameOk : ∀ x, runF tb K.impl_FrameOk L.impl_FrameOk [] Try.f151 C.impl_FrameOk x = C.impl_FrameOk.fn x := fun x => by kernel_rfl

/-! ### impl.putNums: function 181 -/
noncomputable def F.impl_putNums.s3 : ((List Int) × (List Int) × Int × Int × Unit) → Option (Lp ((List Int) × (List Int) × Int × Int × Unit) ((List Int))) := fun (x1, x2, x3, x4, _) =>
  bif decide (x4 < x3) then
    chk (inb x4 (List.length x2)) <|
    (F.impl_PutNum (List.getD x2 ((Int.toNat x4)) 0)).bind fun r5 =>
    chk (fits (List.length x1 + List.length r5) 1) <|
    some (.again (x1 ++ r5, x2, x3, w64 (x4 + 1), ()))
  else
    some (.exit (x1, x2, x3, x4, ()))
noncomputable def F.impl_putNums (a0 : List Int) : Option ((List Int)) :=
  afterO (loopO F.impl_putNums.s3 (([] : List Int), a0, len a0, 0, ())) fun (x6, x7, x8, x9, _) =>
  some x6
noncomputable def C.impl_putNums : Con := ⟨[.r (.val (.sl false 3 (.int .i64)))], .one (.sl true 5 (.int .u8)), fun x => F.impl_putNums x.1⟩
def L.impl_putNums : Loops := lookL [(3, ⟨[.own 3 (.sl true 5 (.int .u8)), .pat 6 (.val (.sl false 3 (.int .i64))), .pat 7 (.val (.int .i64)), .pat 8 (.val (.int .i64))], 0⟩)]
noncomputable def K.impl_putNums : Cons := lookK [(270, [], C.impl_PutNum)]
theorem run.impl_putNums : ∀ x, runF tb K.impl_putNums L.impl_putNums [] Try.f181 C.impl_putNums x = C.impl_putNums.fn x := fun x => by kernel_rfl

/-! ### impl.putSpans: function 182 -/
noncomputable def F.impl_putSpans.s3 : ((List Int) × (List DSpan) × Int × Int × Unit) → Option (Lp ((List Int) × (List DSpan) × Int × Int × Unit) ((List Int))) := fun (x2, x3, x4, x5, _) =>
  bif decide (x5 < x4) then
    chk (inb x5 (List.length x3)) <|
    (F.impl_putNums ([(List.getD x3 ((Int.toNat x5)) ((0, 0, ()))).1, ((List.getD x3 ((Int.toNat x5)) ((0, 0, ()))).2).1])).bind fun r6 =>
    chk (fits (List.length x2 + List.length r6) 1) <|
    some (.again (x2 ++ r6, x3, x4, w64 (x5 + 1), ()))
  else
    some (.exit (x2, x3, x4, x5, ()))
noncomputable def F.impl_putSpans (a0 : List DSpan) : Option ((List Int)) :=
  (F.impl_PutNum (len a0)).bind fun r1 =>
  afterO (loopO F.impl_putSpans.s3 (r1, a0, len a0, 0, ())) fun (x7, x8, x9, x10, _) =>
  some x7
noncomputable def C.impl_putSpans : Con := ⟨[.r (.val (.sl false 175 y0))], .one (.sl true 5 (.int .u8)), fun x => F.impl_putSpans x.1⟩
def L.impl_putSpans : Loops := lookL [(3, ⟨[.own 3 (.sl true 5 (.int .u8)), .pat 9 (.val (.sl false 175 y0)), .pat 10 (.val (.int .i64)), .pat 11 (.val (.int .i64))], 0⟩)]
noncomputable def K.impl_putSpans : Cons := lookK [(181, [], C.impl_putNums), (270, [], C.impl_PutNum)]
theorem run.impl_putSpans : ∀ x, runF tb K.impl_putSpans L.impl_putSpans [] Try.f182 C.impl_putSpans x = C.impl_putSpans.fn x := fun x => by kernel_rfl

/-! ### impl.SketchBytes: function 67 -/
noncomputable def F.impl_SketchBytes (a0 : DSketch) : Option ((List Int)) :=
  (F.impl_SketchOk a0).bind fun r1 =>
  bif !r1 then
    some ([] : List Int)
  else
  (F.impl_counts a0).bind fun r2 =>
  chk (fits (List.length ([a0.1, a0.2.1, a0.2.2.1, a0.2.2.2.1]) + List.length r2) 8) <|
  (F.impl_putNums (([a0.1, a0.2.1, a0.2.2.1, a0.2.2.2.1]) ++ r2)).bind fun r3 =>
  some r3
noncomputable def C.impl_SketchBytes : Con := ⟨[.r (.val y1)], .one (.sl true 5 (.int .u8)), fun x => F.impl_SketchBytes x.1⟩
def L.impl_SketchBytes : Loops := fun _ => none
noncomputable def K.impl_SketchBytes : Cons := lookK [(181, [], C.impl_putNums), (193, [], C.impl_SketchOk), (194, [], C.impl_counts)]
theorem run.impl_SketchBytes : ∀ x, runF tb K.impl_SketchBytes L.impl_SketchBytes [] Try.f67 C.impl_SketchBytes x = C.impl_SketchBytes.fn x := fun x => by kernel_rfl

/-! ### impl.Crc: function 183 -/
noncomputable def F.impl_Crc.s7 : (Int × Int × (List Int) × Int × Int × Unit) → Option (Lp (Int × Int × (List Int) × Int × Int × Unit) (Lp (Int × (List Int) × Int × Int × Unit) Int)) := fun (x5, x6, x7, x8, x9, _) =>
  bif decide (x6 < 8) then
    bif (ibits .and .i64 x5 1) == 1 then
      some (.again (ibits .xor .i64 (Int.fdiv x5 (2 ^ (min 1 64))) 3988292384, w64 (x6 + 1), x7, x8, x9, ()))
    else
      some (.again (Int.fdiv x5 (2 ^ (min 1 64)), w64 (x6 + 1), x7, x8, x9, ()))
  else
    some (.exit (x5, x6, x7, x8, x9, ()))
noncomputable def F.impl_Crc.s3 : (Int × (List Int) × Int × Int × Unit) → Option (Lp (Int × (List Int) × Int × Int × Unit) Int) := fun (x1, x2, x3, x4, _) =>
  bif decide (x4 < x3) then
    chk (inb x4 (List.length x2)) <|
    afterO (loopO F.impl_Crc.s7 (ibits .xor .i64 x1 (w64 (List.getD x2 ((Int.toNat x4)) 0)), 0, x2, x3, x4, ())) fun (x10, x11, x12, x13, x14, _) =>
    some (.again (x10, x12, x13, w64 (x14 + 1), ()))
  else
    some (.exit (x1, x2, x3, x4, ()))
noncomputable def F.impl_Crc (a0 : List Int) : Option Int :=
  afterO (loopO F.impl_Crc.s3 (4294967295, a0, len a0, 0, ())) fun (x15, x16, x17, x18, _) =>
  some (ibits .xor .i64 x15 4294967295)
noncomputable def C.impl_Crc : Con := ⟨[.r (.val (.sl false 5 (.int .u8)))], .one (.int .i64), fun x => F.impl_Crc x.1⟩
def L.impl_Crc : Loops := lookL [(7, ⟨[.pat 3 (.val (.int .i64)), .pat 6 (.val (.int .i64)), .pat 8 (.val (.sl false 5 (.int .u8))), .pat 9 (.val (.int .i64)), .pat 10 (.val (.int .i64))], 2⟩), (3, ⟨[.pat 3 (.val (.int .i64)), .pat 8 (.val (.sl false 5 (.int .u8))), .pat 9 (.val (.int .i64)), .pat 10 (.val (.int .i64))], 0⟩)]
noncomputable def K.impl_Crc : Cons := lookK []
theorem run.impl_Crc : ∀ x, runF tb K.impl_Crc L.impl_Crc [] Try.f183 C.impl_Crc x = C.impl_Crc.fn x := fun x => by kernel_rfl

/-! ### impl.FrameBytes: function 61 -/
noncomputable def F.impl_FrameBytes (a0 : DFrame) : Option ((List Int)) :=
  (F.impl_FrameOk a0).bind fun r1 =>
  bif !r1 then
    some ([] : List Int)
  else
  (F.impl_putNums ([a0.1, a0.2.1, a0.2.2.1, a0.2.2.2.1])).bind fun r2 =>
  chk (fits (List.length ([87, 82]) + List.length r2) 1) <|
  (F.impl_putSpans a0.2.2.2.2.1).bind fun r3 =>
  chk (fits (List.length (([87, 82]) ++ r2) + List.length r3) 1) <|
  bif a0.1 == 1 then
    (F.impl_putNums ([a0.2.2.2.2.2.1.1, a0.2.2.2.2.2.1.2.1, a0.2.2.2.2.2.1.2.2.1, a0.2.2.2.2.2.1.2.2.2.1])).bind fun r4 =>
    chk (fits (List.length ((([87, 82]) ++ r2) ++ r3) + List.length r4) 1) <|
    (F.impl_SketchBytes a0.2.2.2.2.2.1.2.2.2.2.1).bind fun r5 =>
    chk (fits (List.length (((([87, 82]) ++ r2) ++ r3) ++ r4) + List.length r5) 1) <|
    (F.impl_Crc ((((([87, 82]) ++ r2) ++ r3) ++ r4) ++ r5)).bind fun r6 =>
    chk (fits (List.length ((((([87, 82]) ++ r2) ++ r3) ++ r4) ++ r5) + List.length ([IntKind.wrap .u8 (Int.fdiv r6 (2 ^ (min 24 64))), IntKind.wrap .u8 (Int.fdiv r6 (2 ^ (min 16 64))), IntKind.wrap .u8 (Int.fdiv r6 (2 ^ (min 8 64))), IntKind.wrap .u8 r6])) 1) <|
    some (((((([87, 82]) ++ r2) ++ r3) ++ r4) ++ r5) ++ ([IntKind.wrap .u8 (Int.fdiv r6 (2 ^ (min 24 64))), IntKind.wrap .u8 (Int.fdiv r6 (2 ^ (min 16 64))), IntKind.wrap .u8 (Int.fdiv r6 (2 ^ (min 8 64))), IntKind.wrap .u8 r6]))
  else
  (F.impl_Crc ((([87, 82]) ++ r2) ++ r3)).bind fun r7 =>
  chk (fits (List.length ((([87, 82]) ++ r2) ++ r3) + List.length ([IntKind.wrap .u8 (Int.fdiv r7 (2 ^ (min 24 64))), IntKind.wrap .u8 (Int.fdiv r7 (2 ^ (min 16 64))), IntKind.wrap .u8 (Int.fdiv r7 (2 ^ (min 8 64))), IntKind.wrap .u8 r7])) 1) <|
  some (((([87, 82]) ++ r2) ++ r3) ++ ([IntKind.wrap .u8 (Int.fdiv r7 (2 ^ (min 24 64))), IntKind.wrap .u8 (Int.fdiv r7 (2 ^ (min 16 64))), IntKind.wrap .u8 (Int.fdiv r7 (2 ^ (min 8 64))), IntKind.wrap .u8 r7]))
noncomputable def C.impl_FrameBytes : Con := ⟨[.r (.val y24)], .one (.sl true 5 (.int .u8)), fun x => F.impl_FrameBytes x.1⟩
def L.impl_FrameBytes : Loops := fun _ => none
noncomputable def K.impl_FrameBytes : Cons := lookK [(67, [], C.impl_SketchBytes), (151, [], C.impl_FrameOk), (181, [], C.impl_putNums), (182, [], C.impl_putSpans), (183, [], C.impl_Crc)]
theorem run.impl_FrameBytes : ∀ x, runF tb K.impl_FrameBytes L.impl_FrameBytes [] Try.f61 C.impl_FrameBytes x = C.impl_FrameBytes.fn x := fun x => by kernel_rfl

/-! ### bytes.Equal: function 152 -/
noncomputable def F.bytes_Equal (a0 : List Int) (a1 : List Int) : Option Bool :=
  some (ByteArray.toList (toBytes a0) == ByteArray.toList (toBytes a1))
noncomputable def C.bytes_Equal : Con := ⟨[.r (.val (.sl false 5 (.int .u8))), .r (.val (.sl false 5 (.int .u8)))], .one .bool, fun x => F.bytes_Equal x.1 x.2.1⟩
def L.bytes_Equal : Loops := fun _ => none
noncomputable def K.bytes_Equal : Cons := lookK []
theorem run.bytes_Equal : ∀ x, runF tb K.bytes_Equal L.bytes_Equal [] Try.f152 C.bytes_Equal x = C.bytes_Equal.fn x := fun x => by kernel_rfl

/-! ### impl.FrameOf: function 49 -/
noncomputable def F.impl_FrameOf (a0 : List Int) : Option (DFrame × Bool) :=
  (F.impl_reader_num ((a0, 2, false, ()))).bind fun r1 =>
  (F.impl_reader_num r1.2).bind fun r2 =>
  (F.impl_reader_num r2.2).bind fun r3 =>
  (F.impl_reader_num r3.2).bind fun r4 =>
  (F.impl_reader_spans r4.2).bind fun r5 =>
  bif r1.1 == 1 then
    (F.impl_reader_num r5.2).bind fun r6 =>
    (F.impl_reader_num r6.2).bind fun r7 =>
    (F.impl_reader_num r7.2).bind fun r8 =>
    (F.impl_reader_num r8.2).bind fun r9 =>
    (F.impl_reader_sketch r9.2).bind fun r10 =>
    bif r10.2.2.2.1 then
      some ((0, 0, 0, 0, ([] : List DSpan), (0, 0, 0, 0, (0, 0, 0, 0, ([] : List Int), ([] : List Int), ([] : List (List Int)), ()), ()), ()), false)
    else
    (F.impl_FrameOk ((r1.1, r2.1, r3.1, r4.1, r5.1, (r6.1, r7.1, r8.1, r9.1, r10.1, ()), ()))).bind fun r11 =>
    bif !r11 then
      some ((0, 0, 0, 0, ([] : List DSpan), (0, 0, 0, 0, (0, 0, 0, 0, ([] : List Int), ([] : List Int), ([] : List (List Int)), ()), ()), ()), false)
    else
    (F.impl_FrameBytes ((r1.1, r2.1, r3.1, r4.1, r5.1, (r6.1, r7.1, r8.1, r9.1, r10.1, ()), ()))).bind fun r12 =>
    (F.bytes_Equal r12 a0).bind fun r13 =>
    bif !r13 then
      some ((0, 0, 0, 0, ([] : List DSpan), (0, 0, 0, 0, (0, 0, 0, 0, ([] : List Int), ([] : List Int), ([] : List (List Int)), ()), ()), ()), false)
    else
      some ((r1.1, r2.1, r3.1, r4.1, r5.1, (r6.1, r7.1, r8.1, r9.1, r10.1, ()), ()), true)
  else
  bif r5.2.2.2.1 then
    some ((0, 0, 0, 0, ([] : List DSpan), (0, 0, 0, 0, (0, 0, 0, 0, ([] : List Int), ([] : List Int), ([] : List (List Int)), ()), ()), ()), false)
  else
  (F.impl_FrameOk ((r1.1, r2.1, r3.1, r4.1, r5.1, (0, 0, 0, 0, (0, 0, 0, 0, ([] : List Int), ([] : List Int), ([] : List (List Int)), ()), ()), ()))).bind fun r14 =>
  bif !r14 then
    some ((0, 0, 0, 0, ([] : List DSpan), (0, 0, 0, 0, (0, 0, 0, 0, ([] : List Int), ([] : List Int), ([] : List (List Int)), ()), ()), ()), false)
  else
  (F.impl_FrameBytes ((r1.1, r2.1, r3.1, r4.1, r5.1, (0, 0, 0, 0, (0, 0, 0, 0, ([] : List Int), ([] : List Int), ([] : List (List Int)), ()), ()), ()))).bind fun r15 =>
  (F.bytes_Equal r15 a0).bind fun r16 =>
  bif !r16 then
    some ((0, 0, 0, 0, ([] : List DSpan), (0, 0, 0, 0, (0, 0, 0, 0, ([] : List Int), ([] : List Int), ([] : List (List Int)), ()), ()), ()), false)
  else
    some ((r1.1, r2.1, r3.1, r4.1, r5.1, (0, 0, 0, 0, (0, 0, 0, 0, ([] : List Int), ([] : List Int), ([] : List (List Int)), ()), ()), ()), true)
noncomputable def C.impl_FrameOf : Con := ⟨[.r (.val (.sl false 5 (.int .u8)))], .many [y25, .bool], fun x => F.impl_FrameOf x.1⟩
def L.impl_FrameOf : Loops := fun _ => none
noncomputable def K.impl_FrameOf : Cons := lookK [(61, [], C.impl_FrameBytes), (148, [], C.impl_reader_num), (149, [], C.impl_reader_spans), (150, [], C.impl_reader_sketch), (151, [], C.impl_FrameOk), (152, [], C.bytes_Equal)]
theorem run.impl_FrameOf : ∀ x, runF tb K.impl_FrameOf L.impl_FrameOf [] Try.f49 C.impl_FrameOf x = C.impl_FrameOf.fn x := fun x => by kernel_rfl

/-! ### laws.eqFrame: function 50 -/
noncomputable def F.laws_eqFrame (a0 : DFrame) (a1 : DFrame) : Option Bool :=
  bif a0.1 != a1.1 then
    some false
  else
  bif a0.2.1 != a1.2.1 then
    some false
  else
  bif a0.2.2.1 != a1.2.2.1 then
    some false
  else
  bif a0.2.2.2.1 != a1.2.2.2.1 then
    some false
  else
  (F.laws_eqSpanS a0.2.2.2.2.1 a1.2.2.2.2.1).bind fun r1 =>
  bif !r1 then
    some false
  else
  (F.laws_eqItem a0.2.2.2.2.2.1 a1.2.2.2.2.2.1).bind fun r2 =>
  bif !r2 then
    some false
  else
    some true
noncomputable def C.laws_eqFrame : Con := ⟨[.r (.val y24), .r (.val y24)], .one .bool, fun x => F.laws_eqFrame x.1 x.2.1⟩
def L.laws_eqFrame : Loops := fun _ => none
noncomputable def K.laws_eqFrame : Cons := lookK [(82, [], C.laws_eqSpanS), (153, [], C.laws_eqItem)]
theorem run.laws_eqFrame : ∀ x, runF tb K.laws_eqFrame L.laws_eqFrame [] Try.f50 C.laws_eqFrame x = C.laws_eqFrame.fn x := fun x => by kernel_rfl

/-! ### laws.eqByteS: function 51 -/
noncomputable def F.laws_eqByteS.s4 : ((List Int) × (List Int) × Int × Unit) → Option (Lp ((List Int) × (List Int) × Int × Unit) Bool) := fun (x1, x2, x3, _) =>
  bif decide (x3 < (len x1)) then
    chk (inb x3 (List.length x1)) <|
    chk (inb x3 (List.length x2)) <|
    bif (List.getD x1 ((Int.toNat x3)) 0) != (List.getD x2 ((Int.toNat x3)) 0) then
      some (.ret false)
    else
      some (.again (x1, x2, w64 (x3 + 1), ()))
  else
    some (.exit (x1, x2, x3, ()))
noncomputable def F.laws_eqByteS (a0 : List Int) (a1 : List Int) : Option Bool :=
  bif (len a0) != (len a1) then
    some false
  else
  afterO (loopO F.laws_eqByteS.s4 (a0, a1, 0, ())) fun (x4, x5, x6, _) =>
  some true
noncomputable def C.laws_eqByteS : Con := ⟨[.r (.val (.sl false 5 (.int .u8))), .r (.val (.sl false 5 (.int .u8)))], .one .bool, fun x => F.laws_eqByteS x.1 x.2.1⟩
def L.laws_eqByteS : Loops := lookL [(4, ⟨[.pat 0 (.val (.sl false 5 (.int .u8))), .pat 1 (.val (.sl false 5 (.int .u8))), .pat 5 (.val (.int .i64))], 0⟩)]
noncomputable def K.laws_eqByteS : Cons := lookK []
theorem run.laws_eqByteS : ∀ x, runF tb K.laws_eqByteS L.laws_eqByteS [] Try.f51 C.laws_eqByteS x = C.laws_eqByteS.fn x := fun x => by kernel_rfl

/-! ### laws.markByteS: function 52 -/
noncomputable def F.laws_markByteS.s2 : (Int × Int × (List Int) × Unit) → Option (Lp (Int × Int × (List Int) × Unit) (Int × (List Int))) := fun (x1, x2, x3, _) =>
  bif decide (x2 < (len x3)) then
    chk (inb x2 (List.length x3)) <|
    some (.again (w64 (x1 + 1), w64 (x2 + 1), List.set x3 ((Int.toNat x2)) (IntKind.wrap .u8 x1), ()))
  else
    some (.exit (x1, x2, x3, ()))
noncomputable def F.laws_markByteS (a0 : List Int) (a1 : Int) : Option (Int × (List Int)) :=
  afterO (loopO F.laws_markByteS.s2 (a1, 0, a0, ())) fun (x4, x5, x6, _) =>
  some (x4, x6)
noncomputable def C.laws_markByteS : Con := ⟨[.c (.sl true 5 (.int .u8)), .r (.val (.int .i64))], .one (.int .i64), fun x => F.laws_markByteS x.1 x.2.1⟩
def L.laws_markByteS : Loops := lookL [(2, ⟨[.pat 1 (.val (.int .i64)), .pat 5 (.val (.int .i64)), .root 0 false (.sl true 5 (.int .u8)) [0]], 0⟩)]
noncomputable def K.laws_markByteS : Cons := lookK []
theorem run.laws_markByteS : ∀ x, runF tb K.laws_markByteS L.laws_markByteS [0] Try.f52 C.laws_markByteS x = C.laws_markByteS.fn x := fun x => by kernel_rfl

/-! ### laws.markItem: function 154 -/
noncomputable def F.laws_markItem (a0 : DItem) (a1 : Int) : Option (Int × DItem) :=
  (F.laws_markSketch a0.2.2.2.2.1 a1).bind fun r1 =>
  some (r1.1, (a0.1, a0.2.1, a0.2.2.1, a0.2.2.2.1, r1.2, a0.2.2.2.2.2))
noncomputable def C.laws_markItem : Con := ⟨[.c y8, .r (.val (.int .i64))], .one (.int .i64), fun x => F.laws_markItem x.1 x.2.1⟩
def L.laws_markItem : Loops := fun _ => none
noncomputable def K.laws_markItem : Cons := lookK [(33, [], C.laws_markSketch)]
theorem run.laws_markItem : ∀ x, runF tb K.laws_markItem L.laws_markItem [2] Try.f154 C.laws_markItem x = C.laws_markItem.fn x := fun x => by kernel_rfl

/-! ### laws.markFrame: function 53 -/
noncomputable def F.laws_markFrame (a0 : DFrame) (a1 : Int) : Option (Int × DFrame) :=
  (F.laws_markSpanS a0.2.2.2.2.1 a1).bind fun r1 =>
  (F.laws_markItem a0.2.2.2.2.2.1 r1.1).bind fun r2 =>
  some (r2.1, (a0.1, a0.2.1, a0.2.2.1, a0.2.2.2.1, r1.2, r2.2, a0.2.2.2.2.2.2))
noncomputable def C.laws_markFrame : Con := ⟨[.c y25, .r (.val (.int .i64))], .one (.int .i64), fun x => F.laws_markFrame x.1 x.2.1⟩
def L.laws_markFrame : Loops := fun _ => none
noncomputable def K.laws_markFrame : Cons := lookK [(83, [], C.laws_markSpanS), (154, [], C.laws_markItem)]
theorem run.laws_markFrame : ∀ x, runF tb K.laws_markFrame L.laws_markFrame [2] Try.f53 C.laws_markFrame x = C.laws_markFrame.fn x := fun x => by kernel_rfl

/-! ### laws.heldSketch: function 99 -/
noncomputable def F.laws_heldSketch (a0 : DSketch) (a1 : Int) : Option Int :=
  (F.laws_heldIntS a0.2.2.2.2.1 a1).bind fun r1 =>
  bif decide (r1 < 0) then
    some (-1)
  else
  (F.laws_heldIntS a0.2.2.2.2.2.1 r1).bind fun r2 =>
  bif decide (r2 < 0) then
    some (-1)
  else
  (F.laws_heldIntSS a0.2.2.2.2.2.2.1 r2).bind fun r3 =>
  bif decide (r3 < 0) then
    some (-1)
  else
    some r3
noncomputable def C.laws_heldSketch : Con := ⟨[.r (.val y1), .r (.val (.int .i64))], .one (.int .i64), fun x => F.laws_heldSketch x.1 x.2.1⟩
def L.laws_heldSketch : Loops := fun _ => none
noncomputable def K.laws_heldSketch : Cons := lookK [(235, [], C.laws_heldIntS), (236, [], C.laws_heldIntSS)]
theorem run.laws_heldSketch : ∀ x, runF tb K.laws_heldSketch L.laws_heldSketch [] Try.f99 C.laws_heldSketch x = C.laws_heldSketch.fn x := fun x => by kernel_rfl

/-! ### laws.heldItem: function 155 -/
noncomputable def F.laws_heldItem (a0 : DItem) (a1 : Int) : Option Int :=
  (F.laws_heldSketch a0.2.2.2.2.1 a1).bind fun r1 =>
  bif decide (r1 < 0) then
    some (-1)
  else
    some r1
noncomputable def C.laws_heldItem : Con := ⟨[.r (.val y6), .r (.val (.int .i64))], .one (.int .i64), fun x => F.laws_heldItem x.1 x.2.1⟩
def L.laws_heldItem : Loops := fun _ => none
noncomputable def K.laws_heldItem : Cons := lookK [(99, [], C.laws_heldSketch)]
theorem run.laws_heldItem : ∀ x, runF tb K.laws_heldItem L.laws_heldItem [] Try.f155 C.laws_heldItem x = C.laws_heldItem.fn x := fun x => by kernel_rfl

/-! ### laws.heldFrame: function 54 -/
noncomputable def F.laws_heldFrame (a0 : DFrame) (a1 : Int) : Option Int :=
  (F.laws_heldSpanS a0.2.2.2.2.1 a1).bind fun r1 =>
  bif decide (r1 < 0) then
    some (-1)
  else
  (F.laws_heldItem a0.2.2.2.2.2.1 r1).bind fun r2 =>
  bif decide (r2 < 0) then
    some (-1)
  else
    some r2
noncomputable def C.laws_heldFrame : Con := ⟨[.r (.val y24), .r (.val (.int .i64))], .one (.int .i64), fun x => F.laws_heldFrame x.1 x.2.1⟩
def L.laws_heldFrame : Loops := fun _ => none
noncomputable def K.laws_heldFrame : Cons := lookK [(84, [], C.laws_heldSpanS), (155, [], C.laws_heldItem)]
theorem run.laws_heldFrame : ∀ x, runF tb K.laws_heldFrame L.laws_heldFrame [] Try.f54 C.laws_heldFrame x = C.laws_heldFrame.fn x := fun x => by kernel_rfl

/-! ### laws.FnExactFrameOf: function 7 -/
noncomputable def F.laws_FnExactFrameOf (a0 : List Int) : Option Bool :=
  bif decide ((len a0) > 1048576) then
    some true
  else
  (F.laws_toByteS a0).bind fun r1 =>
  (F.spec_FrameOf r1).bind fun r2 =>
  (F.laws_toByteS a0).bind fun r3 =>
  (F.impl_FrameOf r3).bind fun r4 =>
  (F.laws_eqFrame r4.1 r2.1).bind fun r5 =>
  bif !r5 then
    some false
  else
  bif !(r4.2 == r2.2) then
    some false
  else
  (F.laws_toByteS a0).bind fun r6 =>
  (F.laws_eqByteS r3 r6).bind fun r7 =>
  bif !r7 then
    some false
  else
  (F.laws_markByteS r3 1).bind fun r8 =>
  bif decide (r8.1 < 0) then
    some false
  else
  (F.laws_eqFrame r4.1 r2.1).bind fun r9 =>
  bif !r9 then
    some false
  else
  bif !(r4.2 == r2.2) then
    some false
  else
  (F.laws_markFrame r4.1 1).bind fun r10 =>
  (F.laws_heldFrame r10.2 1).bind fun r11 =>
  bif decide (r11 < 0) then
    some false
  else
  bif r11 != r10.1 then
    some false
  else
  (F.laws_toByteS a0).bind fun r12 =>
  (F.impl_FrameOf r12).bind fun r13 =>
  (F.laws_eqFrame r13.1 r2.1).bind fun r14 =>
  bif !r14 then
    some false
  else
  bif !(r13.2 == r2.2) then
    some false
  else
  (F.laws_heldFrame r10.2 1).bind fun r15 =>
  bif decide (r15 < 0) then
    some false
  else
  bif r15 != r10.1 then
    some false
  else
    some true
noncomputable def C.laws_FnExactFrameOf : Con := ⟨[.r (.val (.sl false 5 (.int .u8)))], .one .bool, fun x => F.laws_FnExactFrameOf x.1⟩
def L.laws_FnExactFrameOf : Loops := fun _ => none
noncomputable def K.laws_FnExactFrameOf : Cons := lookK [(47, [], C.spec_FrameOf), (48, [], C.laws_toByteS), (49, [], C.impl_FrameOf), (50, [], C.laws_eqFrame), (51, [], C.laws_eqByteS), (52, [], C.laws_markByteS), (53, [], C.laws_markFrame), (54, [], C.laws_heldFrame)]
theorem run.laws_FnExactFrameOf : ∀ x, runF tb K.laws_FnExactFrameOf L.laws_FnExactFrameOf [] Try.f7 C.laws_FnExactFrameOf x = C.laws_FnExactFrameOf.fn x := fun x => by kernel_rfl

/-! ### spec.Waiting: function 156 -/
noncomputable def F.spec_Waiting.s5 : ((List Int) × Int × DAgent × Unit) → Option (Lp ((List Int) × Int × DAgent × Unit) ((List Int))) := fun (x2, x3, x4, _) =>
  bif decide (x3 ≤ (len x4.2.2.2.2.1)) then
    bif decide (x3 ≤ x4.2.2.2.1) then
      (F.spec_SetHas x4.2.2.2.2.2.1 x3).bind fun r5 =>
      bif !r5 then
        chk (fits (List.length x2 + List.length ([x3])) 8) <|
        some (.again (x2 ++ ([x3]), w64 (x3 + 1), x4, ()))
      else
        some (.again (x2, w64 (x3 + 1), x4, ()))
    else
      some (.exit (x2, x3, x4, ()))
  else
    some (.exit (x2, x3, x4, ()))
noncomputable def F.spec_Waiting (a0 : DAgent) : Option ((List Int)) :=
  (F.spec_AgentOk a0).bind fun r1 =>
  bif !r1 then
    some ([] : List Int)
  else
  bif !a0.2.2.1 then
    some ([] : List Int)
  else
  afterO (loopO F.spec_Waiting.s5 (([] : List Int), 1, a0, ())) fun (x6, x7, x8, _) =>
  some x6
noncomputable def C.spec_Waiting : Con := ⟨[.r (.val y10)], .one (.sl true 3 (.int .i64)), fun x => F.spec_Waiting x.1⟩
def L.spec_Waiting : Loops := lookL [(5, ⟨[.own 3 (.sl true 3 (.int .i64)), .pat 4 (.val (.int .i64)), .root 1 true y10 [1]], 0⟩)]
noncomputable def K.spec_Waiting : Cons := lookK [(105, [], C.spec_AgentOk), (137, [], C.spec_SetHas)]
theorem run.spec_Waiting : ∀ x, runF tb K.spec_Waiting L.spec_Waiting [] Try.f156 C.spec_Waiting x = C.spec_Waiting.fn x := fun x => by kernel_rfl

/-! ### spec.AgentSend: function 55 -/
noncomputable def F.spec_AgentSend.s9 : ((List Int) × Int × Int × DAgent × DAgent × DFrame × DAgent × Unit) → Option (Lp ((List Int) × Int × Int × DAgent × DAgent × DFrame × DAgent × Unit) (DAgent × DFrame)) := fun (x4, x5, x6, x7, x8, x9, x10, _) =>
  bif decide (x6 ≥ 0) then
    chk (inb x6 (List.length x4)) <|
    bif decide ((List.getD x4 ((Int.toNat x6)) 0) > x7.2.2.2.2.2.2.1) then
      chk (inb x6 (List.length x4)) <|
      some (.again (x4, List.getD x4 ((Int.toNat x6)) 0, w64 (x6 - 1), x7, x8, x9, x10, ()))
    else
      some (.again (x4, x5, w64 (x6 - 1), x7, x8, x9, x10, ()))
  else
    some (.exit (x4, x5, x6, x7, x8, x9, x10, ()))
noncomputable def F.spec_AgentSend (a0 : DAgent) : Option (DAgent × DFrame) :=
  (F.spec_l8Copy a0).bind fun r1 =>
  (F.spec_AgentOk a0).bind fun r2 =>
  bif !r2 then
    some (r1, (0, 0, 0, 0, ([] : List DSpan), (0, 0, 0, 0, (0, 0, 0, 0, ([] : List Int), ([] : List Int), ([] : List (List Int)), ()), ()), ()))
  else
  (F.spec_Waiting a0).bind fun r3 =>
  bif (len r3) == 0 then
    some (r1, (0, a0.1, a0.2.1, 0, ([] : List DSpan), (0, 0, 0, 0, (0, 0, 0, 0, ([] : List Int), ([] : List Int), ([] : List (List Int)), ()), ()), ()))
  else
  chk (inb 0 (List.length r3)) <|
  afterO (loopO F.spec_AgentSend.s9 (r3, List.getD r3 0 0, w64 ((len r3) - 1), a0, (0, 0, false, 0, ([] : List DItem), ([] : List DSpan), 0, ()), (0, 0, 0, 0, ([] : List DSpan), (0, 0, 0, 0, (0, 0, 0, 0, ([] : List Int), ([] : List Int), ([] : List (List Int)), ()), ()), ()), r1, ())) fun (x11, x12, x13, x14, x15, x16, x17, _) =>
  chk (inb (w64 (x12 - 1)) (List.length x14.2.2.2.2.1)) <|
  (F.spec_l6Item (List.getD x14.2.2.2.2.1 ((Int.toNat (w64 (x12 - 1)))) ((0, 0, 0, 0, (0, 0, 0, 0, ([] : List Int), ([] : List Int), ([] : List (List Int)), ()), ())))).bind fun r18 =>
  some ((x17.1, x17.2.1, x17.2.2.1, x17.2.2.2.1, x17.2.2.2.2.1, x17.2.2.2.2.2.1, x12, x17.2.2.2.2.2.2.2), (1, x14.1, x14.2.1, 0, ([] : List DSpan), r18, ()))
noncomputable def C.spec_AgentSend : Con := ⟨[.r (.val y10)], .many [y9, y25], fun x => F.spec_AgentSend x.1⟩
def L.spec_AgentSend : Loops := lookL [(9, ⟨[.own 5 (.sl true 3 (.int .i64)), .pat 6 (.val (.int .i64)), .pat 7 (.val (.int .i64)), .root 1 true y10 [1], .root 2 true y9 [2], .root 3 true y25 [3], .root 4 true y9 [4]], 0⟩)]
noncomputable def K.spec_AgentSend : Cons := lookK [(105, [], C.spec_AgentOk), (106, [], C.spec_l8Copy), (156, [], C.spec_Waiting), (157, [], C.spec_l6Item)]
theorem run.spec_AgentSend : ∀ x, runF tb K.spec_AgentSend L.spec_AgentSend [] Try.f55 C.spec_AgentSend x = C.spec_AgentSend.fn x := fun x => by kernel_rfl

/-! ### impl.Waiting: function 158 -/
noncomputable def F.impl_Waiting.s5 : ((List Int) × Int × DAgent × Unit) → Option (Lp ((List Int) × Int × DAgent × Unit) ((List Int))) := fun (x2, x3, x4, _) =>
  bif decide (x3 ≤ (mnI (len x4.2.2.2.2.1) x4.2.2.2.1)) then
    (F.impl_SetHas x4.2.2.2.2.2.1 x3).bind fun r5 =>
    bif !r5 then
      chk (fits (List.length x2 + List.length ([x3])) 8) <|
      some (.again (x2 ++ ([x3]), w64 (x3 + 1), x4, ()))
    else
      some (.again (x2, w64 (x3 + 1), x4, ()))
  else
    some (.exit (x2, x3, x4, ()))
noncomputable def F.impl_Waiting (a0 : DAgent) : Option ((List Int)) :=
  (F.impl_AgentOk a0).bind fun r1 =>
  bif !r1 then
    some ([] : List Int)
  else
  bif !a0.2.2.1 then
    some ([] : List Int)
  else
  afterO (loopO F.impl_Waiting.s5 (([] : List Int), 1, a0, ())) fun (x6, x7, x8, _) =>
  some x6
noncomputable def C.impl_Waiting : Con := ⟨[.r (.val y10)], .one (.sl true 3 (.int .i64)), fun x => F.impl_Waiting x.1⟩
def L.impl_Waiting : Loops := lookL [(5, ⟨[.own 3 (.sl true 3 (.int .i64)), .pat 4 (.val (.int .i64)), .root 1 true y10 [1]], 0⟩)]
noncomputable def K.impl_Waiting : Cons := lookK [(90, [], C.impl_AgentOk), (143, [], C.impl_SetHas)]
theorem run.impl_Waiting : ∀ x, runF tb K.impl_Waiting L.impl_Waiting [] Try.f158 C.impl_Waiting x = C.impl_Waiting.fn x := fun x => by kernel_rfl

/-! ### impl.AgentSend: function 56 -/
noncomputable def F.impl_AgentSend.s9 : (Int × (List Int) × Int × Int × DAgent × DAgent × DFrame × DAgent × Unit) → Option (Lp (Int × (List Int) × Int × Int × DAgent × DAgent × DFrame × DAgent × Unit) (DAgent × DFrame)) := fun (x4, x5, x6, x7, x8, x9, x10, x11, _) =>
  bif decide (x7 < x6) then
    chk (inb x7 (List.length x5)) <|
    bif decide ((List.getD x5 ((Int.toNat x7)) 0) > x8.2.2.2.2.2.2.1) then
      some (.exit (List.getD x5 ((Int.toNat x7)) 0, x5, x6, x7, x8, x9, x10, x11, ()))
    else
      some (.again (x4, x5, x6, w64 (x7 + 1), x8, x9, x10, x11, ()))
  else
    some (.exit (x4, x5, x6, x7, x8, x9, x10, x11, ()))
noncomputable def F.impl_AgentSend (a0 : DAgent) : Option (DAgent × DFrame) :=
  (F.impl_copyAgent a0).bind fun r1 =>
  (F.impl_AgentOk a0).bind fun r2 =>
  bif !r2 then
    some (r1, (0, 0, 0, 0, ([] : List DSpan), (0, 0, 0, 0, (0, 0, 0, 0, ([] : List Int), ([] : List Int), ([] : List (List Int)), ()), ()), ()))
  else
  (F.impl_Waiting a0).bind fun r3 =>
  bif (len r3) == 0 then
    some (r1, (0, a0.1, a0.2.1, 0, ([] : List DSpan), (0, 0, 0, 0, (0, 0, 0, 0, ([] : List Int), ([] : List Int), ([] : List (List Int)), ()), ()), ()))
  else
  chk (inb 0 (List.length r3)) <|
  afterO (loopO F.impl_AgentSend.s9 (List.getD r3 0 0, r3, len r3, 0, a0, (0, 0, false, 0, ([] : List DItem), ([] : List DSpan), 0, ()), (0, 0, 0, 0, ([] : List DSpan), (0, 0, 0, 0, (0, 0, 0, 0, ([] : List Int), ([] : List Int), ([] : List (List Int)), ()), ()), ()), r1, ())) fun (x12, x13, x14, x15, x16, x17, x18, x19, _) =>
  chk (inb (w64 (x12 - 1)) (List.length x16.2.2.2.2.1)) <|
  (F.impl_copyItem (List.getD x16.2.2.2.2.1 ((Int.toNat (w64 (x12 - 1)))) ((0, 0, 0, 0, (0, 0, 0, 0, ([] : List Int), ([] : List Int), ([] : List (List Int)), ()), ())))).bind fun r20 =>
  some ((x19.1, x19.2.1, x19.2.2.1, x19.2.2.2.1, x19.2.2.2.2.1, x19.2.2.2.2.2.1, x12, x19.2.2.2.2.2.2.2), (1, x16.1, x16.2.1, 0, ([] : List DSpan), r20, ()))
noncomputable def C.impl_AgentSend : Con := ⟨[.r (.val y10)], .many [y9, y25], fun x => F.impl_AgentSend x.1⟩
def L.impl_AgentSend : Loops := lookL [(9, ⟨[.pat 6 (.val (.int .i64)), .own 30 (.sl true 3 (.int .i64)), .pat 31 (.val (.int .i64)), .pat 32 (.val (.int .i64)), .root 1 true y10 [1], .root 2 true y9 [2], .root 3 true y25 [3], .root 4 true y9 [4]], 0⟩)]
noncomputable def K.impl_AgentSend : Cons := lookK [(90, [], C.impl_AgentOk), (112, [], C.impl_copyAgent), (158, [], C.impl_Waiting), (159, [], C.impl_copyItem)]
theorem run.impl_AgentSend : ∀ x, runF tb K.impl_AgentSend L.impl_AgentSend [] Try.f56 C.impl_AgentSend x = C.impl_AgentSend.fn x := fun x => by kernel_rfl

/-! ### laws.FnExactAgentSend: function 8 -/
noncomputable def F.laws_FnExactAgentSend (a0 : DAgent) : Option Bool :=
  (F.laws_szAgent a0 1048576).bind fun r1 =>
  bif decide (r1 < 0) then
    some true
  else
  (F.laws_toAgent a0).bind fun r2 =>
  (F.spec_AgentSend r2).bind fun r3 =>
  (F.laws_toAgent a0).bind fun r4 =>
  (F.impl_AgentSend r4).bind fun r5 =>
  (F.laws_eqAgent r5.1 r3.1).bind fun r6 =>
  bif !r6 then
    some false
  else
  (F.laws_eqFrame r5.2 r3.2).bind fun r7 =>
  bif !r7 then
    some false
  else
  (F.laws_toAgent a0).bind fun r8 =>
  (F.laws_eqAgent r4 r8).bind fun r9 =>
  bif !r9 then
    some false
  else
  (F.laws_markAgent r4 1).bind fun r10 =>
  bif decide (r10.1 < 0) then
    some false
  else
  (F.laws_eqAgent r5.1 r3.1).bind fun r11 =>
  bif !r11 then
    some false
  else
  (F.laws_eqFrame r5.2 r3.2).bind fun r12 =>
  bif !r12 then
    some false
  else
  (F.laws_markAgent r5.1 1).bind fun r13 =>
  (F.laws_markFrame r5.2 r13.1).bind fun r14 =>
  (F.laws_heldAgent r13.2 1).bind fun r15 =>
  bif decide (r15 < 0) then
    some false
  else
  (F.laws_heldFrame r14.2 r15).bind fun r16 =>
  bif decide (r16 < 0) then
    some false
  else
  bif r16 != r14.1 then
    some false
  else
  (F.laws_toAgent a0).bind fun r17 =>
  (F.impl_AgentSend r17).bind fun r18 =>
  (F.laws_eqAgent r18.1 r3.1).bind fun r19 =>
  bif !r19 then
    some false
  else
  (F.laws_eqFrame r18.2 r3.2).bind fun r20 =>
  bif !r20 then
    some false
  else
  (F.laws_heldAgent r13.2 1).bind fun r21 =>
  bif decide (r21 < 0) then
    some false
  else
  (F.laws_heldFrame r14.2 r21).bind fun r22 =>
  bif decide (r22 < 0) then
    some false
  else
  bif r22 != r14.1 then
    some false
  else
    some true
noncomputable def C.laws_FnExactAgentSend : Con := ⟨[.r (.val y7)], .one .bool, fun x => F.laws_FnExactAgentSend x.1⟩
def L.laws_FnExactAgentSend : Loops := fun _ => none
noncomputable def K.laws_FnExactAgentSend : Cons := lookK [(24, [], C.laws_szAgent), (27, [], C.laws_toAgent), (30, [], C.laws_eqAgent), (32, [], C.laws_markAgent), (34, [], C.laws_heldAgent), (50, [], C.laws_eqFrame), (53, [], C.laws_markFrame), (54, [], C.laws_heldFrame), (55, [], C.spec_AgentSend), (56, [], C.impl_AgentSend)]
theorem run.laws_FnExactAgentSend : ∀ x, runF tb K.laws_FnExactAgentSend L.laws_FnExactAgentSend [] Try.f8 C.laws_FnExactAgentSend x = C.laws_FnExactAgentSend.fn x := fun x => by kernel_rfl

/-! ### spec.l1Same: function 164 -/
noncomputable def F.spec_l1Same.s4 : ((List Int) × (List Int) × Int × Unit) → Option (Lp ((List Int) × (List Int) × Int × Unit) Bool) := fun (x1, x2, x3, _) =>
  bif decide (x3 < (len x1)) then
    chk (inb x3 (List.length x1)) <|
    chk (inb x3 (List.length x2)) <|
    bif (List.getD x1 ((Int.toNat x3)) 0) != (List.getD x2 ((Int.toNat x3)) 0) then
      some (.ret false)
    else
      some (.again (x1, x2, w64 (x3 + 1), ()))
  else
    some (.exit (x1, x2, x3, ()))
noncomputable def F.spec_l1Same (a0 : List Int) (a1 : List Int) : Option Bool :=
  bif (len a0) != (len a1) then
    some false
  else
  afterO (loopO F.spec_l1Same.s4 (a0, a1, 0, ())) fun (x4, x5, x6, _) =>
  some true
noncomputable def C.spec_l1Same : Con := ⟨[.r (.val (.sl false 3 (.int .i64))), .r (.val (.sl false 3 (.int .i64)))], .one .bool, fun x => F.spec_l1Same x.1 x.2.1⟩
def L.spec_l1Same : Loops := lookL [(4, ⟨[.pat 0 (.val (.sl false 3 (.int .i64))), .pat 1 (.val (.sl false 3 (.int .i64))), .pat 5 (.val (.int .i64))], 0⟩)]
noncomputable def K.spec_l1Same : Cons := lookK []
theorem run.spec_l1Same : ∀ x, runF tb K.spec_l1Same L.spec_l1Same [] Try.f164 C.spec_l1Same x = C.spec_l1Same.fn x := fun x => by kernel_rfl

/-! ### spec.l12Confs: function 160 -/
noncomputable def F.spec_l12Confs (a0 : DConf) (a1 : DConf) : Option Bool :=
  bif a0.1 == a1.1 then
    bif a0.2.1 == a1.2.1 then
      bif a0.2.2.1 == a1.2.2.1 then
        (F.spec_l1Same a0.2.2.2.1 a1.2.2.2.1).bind fun r1 =>
        bif r1 then
          bif a0.2.2.2.2.1 == a1.2.2.2.2.1 then
            bif a0.2.2.2.2.2.1 == a1.2.2.2.2.2.1 then
              bif a0.2.2.2.2.2.2.1 == a1.2.2.2.2.2.2.1 then
                some (a0.2.2.2.2.2.2.2.1 == a1.2.2.2.2.2.2.2.1)
              else
                some false
            else
              some false
          else
            some false
        else
          some false
      else
        some false
    else
      some false
  else
    some false
noncomputable def C.spec_l12Confs : Con := ⟨[.r (.val y11), .r (.val y11)], .one .bool, fun x => F.spec_l12Confs x.1 x.2.1⟩
def L.spec_l12Confs : Loops := fun _ => none
noncomputable def K.spec_l12Confs : Cons := lookK [(164, [], C.spec_l1Same)]
theorem run.spec_l12Confs : ∀ x, runF tb K.spec_l12Confs L.spec_l12Confs [] Try.f160 C.spec_l12Confs x = C.spec_l12Confs.fn x := fun x => by kernel_rfl

/-! ### spec.l5Same: function 188 -/
noncomputable def F.spec_l5Same.s4 : ((List DSpan) × (List DSpan) × Int × Unit) → Option (Lp ((List DSpan) × (List DSpan) × Int × Unit) Bool) := fun (x1, x2, x3, _) =>
  bif decide (x3 < (len x1)) then
    chk (inb x3 (List.length x1)) <|
    chk (inb x3 (List.length x2)) <|
    bif !(Ty.eqX (.cons (.int .i64) (.cons (.int .i64) .nil)) (List.getD x1 ((Int.toNat x3)) ((0, 0, ()))) (List.getD x2 ((Int.toNat x3)) ((0, 0, ())))) then
      some (.ret false)
    else
      some (.again (x1, x2, w64 (x3 + 1), ()))
  else
    some (.exit (x1, x2, x3, ()))
noncomputable def F.spec_l5Same (a0 : List DSpan) (a1 : List DSpan) : Option Bool :=
  bif (len a0) != (len a1) then
    some false
  else
  afterO (loopO F.spec_l5Same.s4 (a0, a1, 0, ())) fun (x4, x5, x6, _) =>
  some true
noncomputable def C.spec_l5Same : Con := ⟨[.r (.val (.sl false 175 y0)), .r (.val (.sl false 175 y0))], .one .bool, fun x => F.spec_l5Same x.1 x.2.1⟩
def L.spec_l5Same : Loops := lookL [(4, ⟨[.pat 0 (.val (.sl false 175 y0)), .pat 1 (.val (.sl false 175 y0)), .pat 5 (.val (.int .i64))], 0⟩)]
noncomputable def K.spec_l5Same : Cons := lookK []
theorem run.spec_l5Same : ∀ x, runF tb K.spec_l5Same L.spec_l5Same [] Try.f188 C.spec_l5Same x = C.spec_l5Same.fn x := fun x => by kernel_rfl

/-! ### spec.SketchSame: function 71 -/
noncomputable def F.spec_SketchSame.s4 : (Int × DSketch × DSketch × Unit) → Option (Lp (Int × DSketch × DSketch × Unit) Bool) := fun (x3, x4, x5, _) =>
  bif decide (x3 < (len x4.2.2.2.2.2.2.1)) then
    chk (inb x3 (List.length x4.2.2.2.2.2.2.1)) <|
    chk (inb x3 (List.length x5.2.2.2.2.2.2.1)) <|
    (F.spec_l1Same (List.getD x4.2.2.2.2.2.2.1 ((Int.toNat x3)) (([] : List Int))) (List.getD x5.2.2.2.2.2.2.1 ((Int.toNat x3)) (([] : List Int)))).bind fun r6 =>
    bif !r6 then
      some (.ret false)
    else
      some (.again (w64 (x3 + 1), x4, x5, ()))
  else
    some (.exit (x3, x4, x5, ()))
noncomputable def F.spec_SketchSame (a0 : DSketch) (a1 : DSketch) : Option Bool :=
  bif a0.1 != a1.1 then
    some false
  else
  bif a0.2.1 != a1.2.1 then
    some false
  else
  bif a0.2.2.1 != a1.2.2.1 then
    some false
  else
  bif a0.2.2.2.1 != a1.2.2.2.1 then
    some false
  else
  (F.spec_l1Same a0.2.2.2.2.1 a1.2.2.2.2.1).bind fun r1 =>
  bif !r1 then
    some false
  else
  (F.spec_l1Same a0.2.2.2.2.2.1 a1.2.2.2.2.2.1).bind fun r2 =>
  bif !r2 then
    some false
  else
  bif (len a0.2.2.2.2.2.2.1) != (len a1.2.2.2.2.2.2.1) then
    some false
  else
  afterO (loopO F.spec_SketchSame.s4 (0, a0, a1, ())) fun (x7, x8, x9, _) =>
  some true
noncomputable def C.spec_SketchSame : Con := ⟨[.r (.val y1), .r (.val y1)], .one .bool, fun x => F.spec_SketchSame x.1 x.2.1⟩
def L.spec_SketchSame : Loops := lookL [(4, ⟨[.pat 5 (.val (.int .i64)), .root 2 true y1 [2], .root 3 true y1 [3]], 0⟩)]
noncomputable def K.spec_SketchSame : Cons := lookK [(164, [], C.spec_l1Same)]
theorem run.spec_SketchSame : ∀ x, runF tb K.spec_SketchSame L.spec_SketchSame [] Try.f71 C.spec_SketchSame x = C.spec_SketchSame.fn x := fun x => by kernel_rfl

/-! ### spec.EntrySame: function 165 -/
noncomputable def F.spec_EntrySame (a0 : DEntry) (a1 : DEntry) : Option Bool :=
  bif a0.1 == a1.1 then
    bif a0.2.1 == a1.2.1 then
      (F.spec_l5Same a0.2.2.1 a1.2.2.1).bind fun r1 =>
      bif r1 then
        (F.spec_SketchSame a0.2.2.2.1 a1.2.2.2.1).bind fun r2 =>
        some r2
      else
        some false
    else
      some false
  else
    some false
noncomputable def C.spec_EntrySame : Con := ⟨[.r (.val y5), .r (.val y5)], .one .bool, fun x => F.spec_EntrySame x.1 x.2.1⟩
def L.spec_EntrySame : Loops := fun _ => none
noncomputable def K.spec_EntrySame : Cons := lookK [(71, [], C.spec_SketchSame), (188, [], C.spec_l5Same)]
theorem run.spec_EntrySame : ∀ x, runF tb K.spec_EntrySame L.spec_EntrySame [] Try.f165 C.spec_EntrySame x = C.spec_EntrySame.fn x := fun x => by kernel_rfl

/-! ### spec.l10Entries: function 162 -/
noncomputable def F.spec_l10Entries.s4 : ((List DEntry) × (List DEntry) × Int × Unit) → Option (Lp ((List DEntry) × (List DEntry) × Int × Unit) Bool) := fun (x1, x2, x3, _) =>
  bif decide (x3 < (len x1)) then
    chk (inb x3 (List.length x1)) <|
    chk (inb x3 (List.length x2)) <|
    (F.spec_EntrySame (List.getD x1 ((Int.toNat x3)) ((0, 0, ([] : List DSpan), (0, 0, 0, 0, ([] : List Int), ([] : List Int), ([] : List (List Int)), ()), ()))) (List.getD x2 ((Int.toNat x3)) ((0, 0, ([] : List DSpan), (0, 0, 0, 0, ([] : List Int), ([] : List Int), ([] : List (List Int)), ()), ())))).bind fun r4 =>
    bif !r4 then
      some (.ret false)
    else
      some (.again (x1, x2, w64 (x3 + 1), ()))
  else
    some (.exit (x1, x2, x3, ()))
noncomputable def F.spec_l10Entries (a0 : List DEntry) (a1 : List DEntry) : Option Bool :=
  bif (len a0) != (len a1) then
    some false
  else
  afterO (loopO F.spec_l10Entries.s4 (a0, a1, 0, ())) fun (x5, x6, x7, _) =>
  some true
noncomputable def C.spec_l10Entries : Con := ⟨[.r (.val (.sl false 32 y5)), .r (.val (.sl false 32 y5))], .one .bool, fun x => F.spec_l10Entries x.1 x.2.1⟩
def L.spec_l10Entries : Loops := lookL [(4, ⟨[.pat 0 (.val (.sl false 32 y5)), .pat 1 (.val (.sl false 32 y5)), .pat 5 (.val (.int .i64))], 0⟩)]
noncomputable def K.spec_l10Entries : Cons := lookK [(165, [], C.spec_EntrySame)]
theorem run.spec_l10Entries : ∀ x, runF tb K.spec_l10Entries L.spec_l10Entries [] Try.f162 C.spec_l10Entries x = C.spec_l10Entries.fn x := fun x => by kernel_rfl

/-! ### spec.RowSame: function 265 -/
noncomputable def F.spec_RowSame (a0 : DRow) (a1 : DRow) : Option Bool :=
  (F.spec_l10Entries a0.1 a1.1).bind fun r1 =>
  some r1
noncomputable def C.spec_RowSame : Con := ⟨[.r (.val (.cons (.sl false 32 y5) .nil)), .r (.val (.cons (.sl false 32 y5) .nil))], .one .bool, fun x => F.spec_RowSame x.1 x.2.1⟩
def L.spec_RowSame : Loops := fun _ => none
noncomputable def K.spec_RowSame : Cons := lookK [(162, [], C.spec_l10Entries)]
theorem run.spec_RowSame : ∀ x, runF tb K.spec_RowSame L.spec_RowSame [] Try.f265 C.spec_RowSame x = C.spec_RowSame.fn x := fun x => by kernel_rfl

/-! ### spec.l12Rows: function 161 -/
noncomputable def F.spec_l12Rows.s9 : ((List (List DRow)) × (List (List DRow)) × Int × Int × Unit) → Option (Lp ((List (List DRow)) × (List (List DRow)) × Int × Int × Unit) (Lp ((List (List DRow)) × (List (List DRow)) × Int × Unit) Bool)) := fun (x4, x5, x6, x7, _) =>
  chk (inb x6 (List.length x4)) <|
  bif decide (x7 < (len (List.getD x4 ((Int.toNat x6)) (([] : List DRow))))) then
    chk (inb x6 (List.length x4)) <|
    chk (inb x7 (List.length (List.getD x4 ((Int.toNat x6)) (([] : List DRow))))) <|
    chk (inb x6 (List.length x5)) <|
    chk (inb x7 (List.length (List.getD x5 ((Int.toNat x6)) (([] : List DRow))))) <|
    (F.spec_RowSame (List.getD (List.getD x4 ((Int.toNat x6)) (([] : List DRow))) ((Int.toNat x7)) ((([] : List DEntry), ()))) (List.getD (List.getD x5 ((Int.toNat x6)) (([] : List DRow))) ((Int.toNat x7)) ((([] : List DEntry), ())))).bind fun r8 =>
    bif !r8 then
      some (.ret (.ret false))
    else
      some (.again (x4, x5, x6, w64 (x7 + 1), ()))
  else
    some (.exit (x4, x5, x6, x7, ()))
noncomputable def F.spec_l12Rows.s4 : ((List (List DRow)) × (List (List DRow)) × Int × Unit) → Option (Lp ((List (List DRow)) × (List (List DRow)) × Int × Unit) Bool) := fun (x1, x2, x3, _) =>
  bif decide (x3 < (len x1)) then
    chk (inb x3 (List.length x1)) <|
    chk (inb x3 (List.length x2)) <|
    bif (len (List.getD x1 ((Int.toNat x3)) (([] : List DRow)))) != (len (List.getD x2 ((Int.toNat x3)) (([] : List DRow)))) then
      some (.ret false)
    else
    afterO (loopO F.spec_l12Rows.s9 (x1, x2, x3, 0, ())) fun (x9, x10, x11, x12, _) =>
    some (.again (x9, x10, w64 (x11 + 1), ()))
  else
    some (.exit (x1, x2, x3, ()))
noncomputable def F.spec_l12Rows (a0 : List (List DRow)) (a1 : List (List DRow)) : Option Bool :=
  bif (len a0) != (len a1) then
    some false
  else
  afterO (loopO F.spec_l12Rows.s4 (a0, a1, 0, ())) fun (x13, x14, x15, _) =>
  some true
noncomputable def C.spec_l12Rows : Con := ⟨[.r (.val (.sl false 159 (.sl false 35 (.cons (.sl false 32 y5) .nil)))), .r (.val (.sl false 159 (.sl false 35 (.cons (.sl false 32 y5) .nil))))], .one .bool, fun x => F.spec_l12Rows x.1 x.2.1⟩
def L.spec_l12Rows : Loops := lookL [(9, ⟨[.pat 0 (.val (.sl false 159 (.sl false 35 (.cons (.sl false 32 y5) .nil)))), .pat 1 (.val (.sl false 159 (.sl false 35 (.cons (.sl false 32 y5) .nil)))), .pat 5 (.val (.int .i64)), .pat 6 (.val (.int .i64))], 2⟩), (4, ⟨[.pat 0 (.val (.sl false 159 (.sl false 35 (.cons (.sl false 32 y5) .nil)))), .pat 1 (.val (.sl false 159 (.sl false 35 (.cons (.sl false 32 y5) .nil)))), .pat 5 (.val (.int .i64))], 0⟩)]
noncomputable def K.spec_l12Rows : Cons := lookK [(265, [], C.spec_RowSame)]
theorem run.spec_l12Rows : ∀ x, runF tb K.spec_l12Rows L.spec_l12Rows [] Try.f161 C.spec_l12Rows x = C.spec_l12Rows.fn x := fun x => by kernel_rfl

/-! ### spec.l12Seat: function 163 -/
noncomputable def F.spec_l12Seat (a0 : DSeat) (a1 : DSeat) : Option Bool :=
  bif a0.1 == a1.1 then
    bif a0.2.1 == a1.2.1 then
      (F.spec_l5Same a0.2.2.1 a1.2.2.1).bind fun r1 =>
      bif r1 then
        bif a0.2.2.2.1 == a1.2.2.2.1 then
          some (a0.2.2.2.2.1 == a1.2.2.2.2.1)
        else
          some false
      else
        some false
    else
      some false
  else
    some false
noncomputable def C.spec_l12Seat : Con := ⟨[.r (.val y21), .r (.val y21)], .one .bool, fun x => F.spec_l12Seat x.1 x.2.1⟩
def L.spec_l12Seat : Loops := fun _ => none
noncomputable def K.spec_l12Seat : Cons := lookK [(188, [], C.spec_l5Same)]
theorem run.spec_l12Seat : ∀ x, runF tb K.spec_l12Seat L.spec_l12Seat [] Try.f163 C.spec_l12Seat x = C.spec_l12Seat.fn x := fun x => by kernel_rfl

/-! ### spec.HouseSame: function 57 -/
noncomputable def F.spec_HouseSame.s4 : (Int × DHouse × DHouse × Unit) → Option (Lp (Int × DHouse × DHouse × Unit) Bool) := fun (x4, x5, x6, _) =>
  bif decide (x4 < (len x5.2.2.2.1)) then
    chk (inb x4 (List.length x5.2.2.2.1)) <|
    chk (inb x4 (List.length x6.2.2.2.1)) <|
    (F.spec_l12Seat (List.getD x5.2.2.2.1 ((Int.toNat x4)) ((0, 0, ([] : List DSpan), 0, 0, ()))) (List.getD x6.2.2.2.1 ((Int.toNat x4)) ((0, 0, ([] : List DSpan), 0, 0, ())))).bind fun r7 =>
    bif !r7 then
      some (.ret false)
    else
      some (.again (w64 (x4 + 1), x5, x6, ()))
  else
    some (.exit (x4, x5, x6, ()))
noncomputable def F.spec_HouseSame.s9 : (Int × DHouse × DHouse × Unit) → Option (Lp (Int × DHouse × DHouse × Unit) Bool) := fun (x11, x12, x13, _) =>
  bif decide (x11 < (len x12.2.2.2.2.2.1)) then
    chk (inb x11 (List.length x12.2.2.2.2.2.1)) <|
    chk (inb x11 (List.length x13.2.2.2.2.2.1)) <|
    bif ((List.getD x12.2.2.2.2.2.1 ((Int.toNat x11)) ((0, false, ([] : List Int), ()))).1) != ((List.getD x13.2.2.2.2.2.1 ((Int.toNat x11)) ((0, false, ([] : List Int), ()))).1) then
      some (.ret false)
    else
    chk (inb x11 (List.length x12.2.2.2.2.2.1)) <|
    chk (inb x11 (List.length x13.2.2.2.2.2.1)) <|
    bif !((((List.getD x12.2.2.2.2.2.1 ((Int.toNat x11)) ((0, false, ([] : List Int), ()))).2).1) == (((List.getD x13.2.2.2.2.2.1 ((Int.toNat x11)) ((0, false, ([] : List Int), ()))).2).1)) then
      some (.ret false)
    else
    chk (inb x11 (List.length x12.2.2.2.2.2.1)) <|
    chk (inb x11 (List.length x13.2.2.2.2.2.1)) <|
    (F.spec_l1Same ((((List.getD x12.2.2.2.2.2.1 ((Int.toNat x11)) ((0, false, ([] : List Int), ()))).2).2).1) ((((List.getD x13.2.2.2.2.2.1 ((Int.toNat x11)) ((0, false, ([] : List Int), ()))).2).2).1)).bind fun r14 =>
    bif !r14 then
      some (.ret false)
    else
      some (.again (w64 (x11 + 1), x12, x13, ()))
  else
    some (.exit (x11, x12, x13, ()))
noncomputable def F.spec_HouseSame.s14 : (Int × DHouse × DHouse × Unit) → Option (Lp (Int × DHouse × DHouse × Unit) Bool) := fun (x18, x19, x20, _) =>
  bif decide (x18 < (len x19.2.2.2.2.2.2.2.2.1)) then
    chk (inb x18 (List.length x19.2.2.2.2.2.2.2.2.1)) <|
    chk (inb x18 (List.length x20.2.2.2.2.2.2.2.2.1)) <|
    bif ((List.getD x19.2.2.2.2.2.2.2.2.1 ((Int.toNat x18)) ((0, (0, 0, ([] : List DSpan), (0, 0, 0, 0, ([] : List Int), ([] : List Int), ([] : List (List Int)), ()), ()), ()))).1) != ((List.getD x20.2.2.2.2.2.2.2.2.1 ((Int.toNat x18)) ((0, (0, 0, ([] : List DSpan), (0, 0, 0, 0, ([] : List Int), ([] : List Int), ([] : List (List Int)), ()), ()), ()))).1) then
      some (.ret false)
    else
    chk (inb x18 (List.length x19.2.2.2.2.2.2.2.2.1)) <|
    chk (inb x18 (List.length x20.2.2.2.2.2.2.2.2.1)) <|
    (F.spec_EntrySame (((List.getD x19.2.2.2.2.2.2.2.2.1 ((Int.toNat x18)) ((0, (0, 0, ([] : List DSpan), (0, 0, 0, 0, ([] : List Int), ([] : List Int), ([] : List (List Int)), ()), ()), ()))).2).1) (((List.getD x20.2.2.2.2.2.2.2.2.1 ((Int.toNat x18)) ((0, (0, 0, ([] : List DSpan), (0, 0, 0, 0, ([] : List Int), ([] : List Int), ([] : List (List Int)), ()), ()), ()))).2).1)).bind fun r21 =>
    bif !r21 then
      some (.ret false)
    else
      some (.again (w64 (x18 + 1), x19, x20, ()))
  else
    some (.exit (x18, x19, x20, ()))
noncomputable def F.spec_HouseSame (a0 : DHouse) (a1 : DHouse) : Option Bool :=
  (F.spec_l12Confs a0.1 a1.1).bind fun r1 =>
  bif !r1 then
    some false
  else
  bif a0.2.1 != a1.2.1 then
    some false
  else
  bif !(a0.2.2.1 == a1.2.2.1) then
    some false
  else
  bif a0.2.2.2.2.2.2.1 != a1.2.2.2.2.2.2.1 then
    some false
  else
  bif (len a0.2.2.2.1) != (len a1.2.2.2.1) then
    some false
  else
  bif (len a0.2.2.2.2.2.1) != (len a1.2.2.2.2.2.1) then
    some false
  else
  bif (len a0.2.2.2.2.2.2.2.2.1) != (len a1.2.2.2.2.2.2.2.2.1) then
    some false
  else
  (F.spec_l12Rows a0.2.2.2.2.1 a1.2.2.2.2.1).bind fun r2 =>
  bif !r2 then
    some false
  else
  (F.spec_l10Entries a0.2.2.2.2.2.2.2.1 a1.2.2.2.2.2.2.2.1).bind fun r3 =>
  bif !r3 then
    some false
  else
  afterO (loopO F.spec_HouseSame.s4 (0, a0, a1, ())) fun (x8, x9, x10, _) =>
  afterO (loopO F.spec_HouseSame.s9 (0, x9, x10, ())) fun (x15, x16, x17, _) =>
  afterO (loopO F.spec_HouseSame.s14 (0, x16, x17, ())) fun (x22, x23, x24, _) =>
  some true
noncomputable def C.spec_HouseSame : Con := ⟨[.r (.val y23), .r (.val y23)], .one .bool, fun x => F.spec_HouseSame x.1 x.2.1⟩
def L.spec_HouseSame : Loops := lookL [(4, ⟨[.pat 5 (.val (.int .i64)), .root 2 true y23 [2], .root 3 true y23 [3]], 0⟩), (9, ⟨[.pat 6 (.val (.int .i64)), .root 2 true y23 [2], .root 3 true y23 [3]], 2⟩), (14, ⟨[.pat 7 (.val (.int .i64)), .root 2 true y23 [2], .root 3 true y23 [3]], 4⟩)]
noncomputable def K.spec_HouseSame : Cons := lookK [(160, [], C.spec_l12Confs), (161, [], C.spec_l12Rows), (162, [], C.spec_l10Entries), (163, [], C.spec_l12Seat), (164, [], C.spec_l1Same), (165, [], C.spec_EntrySame)]
theorem run.spec_HouseSame : ∀ x, runF tb K.spec_HouseSame L.spec_HouseSame [] Try.f57 C.spec_HouseSame x = C.spec_HouseSame.fn x := fun x => by kernel_rfl
end Go.Proofs.Ytadaiilmjchnmaa.Vm
