import Derived.Test.YtdnknkfnfnlajaaGreatV1
import Derived.Test.YtdnknkfnfnlajaaGreatProg
import Derived.Test.YtdnknkfnfnlajaaGreatVS0
import Derived.KernelRfl
namespace Go.Proofs.YtdnknkfnfnlajaaGreat.Vm
open Go Go.RowKit
set_option maxRecDepth 100000
set_option linter.unusedVariables false
def lookL (l : List (Nat × Loop)) : Loops := fun n => lookN l n
def eqNs : List Nat → List Nat → Bool
  | [], [] => true
  | a :: l, b :: m => Nat.beq a b && eqNs l m
  | _, _ => false
def lookK : List (FuncId × List Nat × Con) → Cons
  | [], _, _ => none
  | (f, ks, c) :: l, g, xs => bif Nat.beq f g && eqNs ks xs then some c else lookK l g xs
abbrev DConf : Type := Int × Int × Int × (List Int) × Int × Int × Int × Int × Unit
abbrev DSpan : Type := Int × Int × Unit
abbrev DSeat : Type := Int × Int × (List DSpan) × Int × Int × Unit
abbrev DSketch : Type := Int × Int × Int × Int × (List Int) × (List Int) × (List (List Int)) × Unit
abbrev DEntry : Type := Int × Int × (List DSpan) × DSketch × Unit
abbrev DRow : Type := (List DEntry) × Unit
abbrev DTurn : Type := Int × Bool × (List Int) × Unit
abbrev DOut : Type := Int × DEntry × Unit
abbrev DHouse : Type := DConf × Int × Bool × (List DSeat) × (List (List DRow)) × (List DTurn) × Int × (List DEntry) × (List DOut) × Unit
abbrev DItem : Type := Int × Int × Int × Int × DSketch × Unit
abbrev DFrame : Type := Int × Int × Int × Int × (List DSpan) × DItem × Unit
abbrev y0 : Ty := .cons (.int .i64) (.cons (.int .i64) (.cons (.int .i64) (.cons (.sl false 3 (.int .i64)) (.cons (.int .i64) (.cons (.int .i64) (.cons (.int .i64) (.cons (.int .i64) .nil)))))))
abbrev y1 : Ty := .cons (.int .i64) (.cons (.int .i64) .nil)
abbrev y2 : Ty := .cons (.int .i64) (.cons (.int .i64) (.cons (.sl false 217 y1) (.cons (.int .i64) (.cons (.int .i64) .nil))))
abbrev y3 : Ty := .cons (.int .i64) (.cons (.int .i64) (.cons (.int .i64) (.cons (.int .i64) (.cons (.sl false 3 (.int .i64)) (.cons (.sl false 3 (.int .i64)) (.cons (.sl false 26 (.sl false 3 (.int .i64))) .nil))))))
abbrev y4 : Ty := .cons (.int .i64) (.cons (.int .i64) (.cons (.sl false 217 y1) (.cons y3 .nil)))
abbrev y5 : Ty := .cons (.int .i64) (.cons .bool (.cons (.sl false 3 (.int .i64)) .nil))
abbrev y6 : Ty := .cons (.int .i64) (.cons y4 .nil)
abbrev y7 : Ty := .cons y0 (.cons (.int .i64) (.cons .bool (.cons (.sl false 224 y2) (.cons (.sl false 226 (.sl false 285 (.cons (.sl false 40 y4) .nil))) (.cons (.sl false 228 y5) (.cons (.int .i64) (.cons (.sl false 40 y4) (.cons (.sl false 231 y6) .nil))))))))
abbrev y8 : Ty := .cons (.int .i64) (.cons (.int .i64) (.cons (.int .i64) (.cons (.int .i64) (.cons y3 .nil))))
abbrev y9 : Ty := .cons (.int .i64) (.cons (.int .i64) (.cons (.int .i64) (.cons (.int .i64) (.cons (.sl false 217 y1) (.cons y8 .nil)))))
abbrev y10 : Ty := .cons (.int .i64) (.cons (.int .i64) (.cons (.int .i64) (.cons (.sl true 3 (.int .i64)) (.cons (.int .i64) (.cons (.int .i64) (.cons (.int .i64) (.cons (.int .i64) .nil)))))))
abbrev y11 : Ty := .cons (.int .i64) (.cons (.int .i64) (.cons (.sl true 150 y1) (.cons (.int .i64) (.cons (.int .i64) .nil))))
abbrev y12 : Ty := .cons (.int .i64) (.cons (.int .i64) (.cons (.int .i64) (.cons (.int .i64) (.cons (.sl true 3 (.int .i64)) (.cons (.sl true 3 (.int .i64)) (.cons (.sl true 26 (.sl true 3 (.int .i64))) .nil))))))
abbrev y13 : Ty := .cons (.int .i64) (.cons (.int .i64) (.cons (.sl true 150 y1) (.cons y12 .nil)))
abbrev y14 : Ty := .cons (.int .i64) (.cons .bool (.cons (.sl true 3 (.int .i64)) .nil))
abbrev y15 : Ty := .cons (.int .i64) (.cons y13 .nil)
abbrev y16 : Ty := .cons y10 (.cons (.int .i64) (.cons .bool (.cons (.sl true 139 y11) (.cons (.sl true 159 (.sl true 105 (.cons (.sl true 31 y13) .nil))) (.cons (.sl true 175 y14) (.cons (.int .i64) (.cons (.sl true 31 y13) (.cons (.sl true 137 y15) .nil))))))))
abbrev y17 : Ty := .cons (.int .i64) (.cons (.int .i64) (.cons (.int .i64) (.cons (.int .i64) (.cons y12 .nil))))
abbrev y18 : Ty := .cons (.int .i64) (.cons (.int .i64) (.cons (.int .i64) (.cons (.int .i64) (.cons (.sl true 150 y1) (.cons y17 .nil)))))
abbrev y19 : Ty := .cons (.int .i64) (.cons (.int .i64) (.cons (.sl false 150 y1) (.cons (.int .i64) (.cons (.int .i64) .nil))))
abbrev y20 : Ty := .cons (.int .i64) (.cons (.int .i64) (.cons (.sl false 150 y1) (.cons y3 .nil)))
abbrev y21 : Ty := .cons (.int .i64) (.cons y20 .nil)
abbrev y22 : Ty := .cons y0 (.cons (.int .i64) (.cons .bool (.cons (.sl false 139 y19) (.cons (.sl false 159 (.sl false 105 (.cons (.sl false 31 y20) .nil))) (.cons (.sl false 175 y5) (.cons (.int .i64) (.cons (.sl false 31 y20) (.cons (.sl false 137 y21) .nil))))))))
abbrev y23 : Ty := .cons (.int .i64) (.cons (.int .i64) (.cons (.int .i64) (.cons (.int .i64) (.cons (.sl false 150 y1) (.cons y8 .nil)))))
abbrev y24 : Ty := .cons (.sl false 5 (.int .u8)) (.cons (.int .i64) (.cons (.int .i64) .nil))
abbrev y25 : Ty := .cons (.sl false 5 (.int .u8)) (.cons (.int .i64) (.cons .bool .nil))
def tb : List (TypeId × TRow) := [
  (2, ⟨(.int .i64), 8, []⟩),
  (3, ⟨(.int .i64), 8, []⟩),
  (4, ⟨.bool, 1, []⟩),
  (5, ⟨(.int .u8), 1, []⟩),
  (6, ⟨(.int .u8), 1, []⟩),
  (9, ⟨.str, 16, []⟩),
  (10, ⟨.str, 16, []⟩),
  (11, ⟨.str, 16, []⟩),
  (12, ⟨(.int .u64), 8, []⟩),
  (21, ⟨(.int .i32), 4, []⟩),
  (22, ⟨(.sl false 5 (.int .u8)), 24, []⟩),
  (24, ⟨(.sl false 31 y20), 24, []⟩),
  (25, ⟨(.sl false 150 y1), 24, []⟩),
  (26, ⟨(.sl false 3 (.int .i64)), 24, []⟩),
  (27, ⟨(.sl false 26 (.sl false 3 (.int .i64))), 24, []⟩),
  (28, ⟨y3, 104, [3, 3, 3, 3, 26, 26, 27]⟩),
  (29, ⟨y3, 104, [3, 3, 3, 3, 26, 26, 27]⟩),
  (30, ⟨y20, 144, [3, 3, 25, 29]⟩),
  (31, ⟨y20, 144, [3, 3, 25, 29]⟩),
  (36, ⟨(.sl false 40 y4), 24, []⟩),
  (37, ⟨(.sl false 217 y1), 24, []⟩),
  (38, ⟨y3, 104, [3, 3, 3, 3, 26, 26, 27]⟩),
  (39, ⟨y4, 144, [3, 3, 37, 38]⟩),
  (40, ⟨y4, 144, [3, 3, 37, 38]⟩),
  (50, ⟨y0, 80, [3, 3, 3, 26, 3, 3, 3, 3]⟩),
  (51, ⟨y0, 80, [3, 3, 3, 26, 3, 3, 3, 3]⟩),
  (52, ⟨(.sl false 224 y2), 24, []⟩),
  (53, ⟨(.sl false 226 (.sl false 285 (.cons (.sl false 40 y4) .nil))), 24, []⟩),
  (54, ⟨(.sl false 228 y5), 24, []⟩),
  (55, ⟨(.sl false 231 y6), 24, []⟩),
  (56, ⟨y7, 224, [51, 3, 4, 52, 53, 54, 3, 36, 55]⟩),
  (57, ⟨y7, 224, [51, 3, 4, 52, 53, 54, 3, 36, 55]⟩),
  (60, ⟨y0, 80, [3, 3, 3, 26, 3, 3, 3, 3]⟩),
  (61, ⟨(.sl false 139 y19), 24, []⟩),
  (62, ⟨(.sl false 159 (.sl false 105 (.cons (.sl false 31 y20) .nil))), 24, []⟩),
  (63, ⟨(.sl false 175 y5), 24, []⟩),
  (64, ⟨(.sl false 137 y21), 24, []⟩),
  (65, ⟨y22, 224, [60, 3, 4, 61, 62, 63, 3, 24, 64]⟩),
  (66, ⟨y22, 224, [60, 3, 4, 61, 62, 63, 3, 24, 64]⟩),
  (75, ⟨y8, 136, [3, 3, 3, 3, 29]⟩),
  (76, ⟨y8, 136, [3, 3, 3, 3, 29]⟩),
  (77, ⟨y23, 192, [3, 3, 3, 3, 25, 76]⟩),
  (78, ⟨y23, 192, [3, 3, 3, 3, 25, 76]⟩),
  (84, ⟨y8, 136, [3, 3, 3, 3, 38]⟩),
  (85, ⟨y8, 136, [3, 3, 3, 3, 38]⟩),
  (86, ⟨y9, 192, [3, 3, 3, 3, 37, 85]⟩),
  (87, ⟨y9, 192, [3, 3, 3, 3, 37, 85]⟩),
  (104, ⟨(.cons (.sl false 31 y20) .nil), 24, [24]⟩),
  (105, ⟨(.cons (.sl false 31 y20) .nil), 24, [24]⟩),
  (136, ⟨y21, 152, [3, 31]⟩),
  (137, ⟨y21, 152, [3, 31]⟩),
  (138, ⟨y19, 56, [3, 3, 25, 3, 3]⟩),
  (139, ⟨y19, 56, [3, 3, 25, 3, 3]⟩),
  (149, ⟨y1, 16, [3, 3]⟩),
  (150, ⟨y1, 16, [3, 3]⟩),
  (159, ⟨(.sl false 105 (.cons (.sl false 31 y20) .nil)), 24, []⟩),
  (174, ⟨y5, 40, [3, 4, 26]⟩),
  (175, ⟨y5, 40, [3, 4, 26]⟩),
  (197, ⟨y24, 40, [22, 3, 3]⟩),
  (198, ⟨y24, 40, [22, 3, 3]⟩),
  (217, ⟨y1, 16, [3, 3]⟩),
  (223, ⟨y2, 56, [3, 3, 37, 3, 3]⟩),
  (224, ⟨y2, 56, [3, 3, 37, 3, 3]⟩),
  (226, ⟨(.sl false 285 (.cons (.sl false 40 y4) .nil)), 24, []⟩),
  (228, ⟨y5, 40, [3, 4, 26]⟩),
  (230, ⟨y6, 152, [3, 40]⟩),
  (231, ⟨y6, 152, [3, 40]⟩),
  (268, ⟨y25, 40, [22, 3, 4]⟩),
  (269, ⟨y25, 40, [22, 3, 4]⟩),
  (277, ⟨(.int .u64), 8, []⟩),
  (284, ⟨(.cons (.sl false 40 y4) .nil), 24, [36]⟩),
  (285, ⟨(.cons (.sl false 40 y4) .nil), 24, [36]⟩),
  (302, ⟨(.int .i64), 8, []⟩),
  (310, ⟨(.int .u32), 4, []⟩),
  (312, ⟨(.int .u64), 8, []⟩),
  (315, ⟨(.int .u64), 8, []⟩),
  (329, ⟨(.int .u8), 1, []⟩),
  (330, ⟨(.int .u8), 1, []⟩),
  (333, ⟨(.int .i32), 4, []⟩),
  (334, ⟨(.int .i32), 4, []⟩)]

/-! ### laws.szIntS: function 191 -/
noncomputable def F.laws_szIntS (a0 : List Int) (a1 : Int) : Option Int :=
  bif decide ((w64 (a1 - (len a0))) < 0) then
    some (-1)
  else
    some (w64 (a1 - (len a0)))
noncomputable def C.laws_szIntS : Con := ⟨[.r (.val (.sl false 3 (.int .i64))), .r (.val (.int .i64))], .one (.int .i64), fun x => F.laws_szIntS x.1 x.2.1⟩
def L.laws_szIntS : Loops := fun _ => none
noncomputable def K.laws_szIntS : Cons := lookK []
theorem run.laws_szIntS : ∀ x, runF tb K.laws_szIntS L.laws_szIntS [] Tryz.f191 C.laws_szIntS x = C.laws_szIntS.fn x := fun x => by kernel_rfl

/-! ### laws.szConf: function 87 -/
noncomputable def F.laws_szConf (a0 : DConf) (a1 : Int) : Option Int :=
  (F.laws_szIntS a0.2.2.2.1 a1).bind fun r1 =>
  bif decide (r1 < 0) then
    some (-1)
  else
    some r1
noncomputable def C.laws_szConf : Con := ⟨[.r (.val y0), .r (.val (.int .i64))], .one (.int .i64), fun x => F.laws_szConf x.1 x.2.1⟩
def L.laws_szConf : Loops := fun _ => none
noncomputable def K.laws_szConf : Cons := lookK [(191, [], C.laws_szIntS)]
theorem run.laws_szConf : ∀ x, runF tb K.laws_szConf L.laws_szConf [] Tryz.f87 C.laws_szConf x = C.laws_szConf.fn x := fun x => by kernel_rfl

/-! ### laws.szSpanS: function 76 -/
noncomputable def F.laws_szSpanS (a0 : List DSpan) (a1 : Int) : Option Int :=
  bif decide ((w64 (a1 - (len a0))) < 0) then
    some (-1)
  else
    some (w64 (a1 - (len a0)))
noncomputable def C.laws_szSpanS : Con := ⟨[.r (.val (.sl false 217 y1)), .r (.val (.int .i64))], .one (.int .i64), fun x => F.laws_szSpanS x.1 x.2.1⟩
def L.laws_szSpanS : Loops := fun _ => none
noncomputable def K.laws_szSpanS : Cons := lookK []
theorem run.laws_szSpanS : ∀ x, runF tb K.laws_szSpanS L.laws_szSpanS [] Tryz.f76 C.laws_szSpanS x = C.laws_szSpanS.fn x := fun x => by kernel_rfl

/-! ### laws.szSeat: function 198 -/
noncomputable def F.laws_szSeat (a0 : DSeat) (a1 : Int) : Option Int :=
  (F.laws_szSpanS a0.2.2.1 a1).bind fun r1 =>
  bif decide (r1 < 0) then
    some (-1)
  else
    some r1
noncomputable def C.laws_szSeat : Con := ⟨[.r (.val y2), .r (.val (.int .i64))], .one (.int .i64), fun x => F.laws_szSeat x.1 x.2.1⟩
def L.laws_szSeat : Loops := fun _ => none
noncomputable def K.laws_szSeat : Cons := lookK [(76, [], C.laws_szSpanS)]
theorem run.laws_szSeat : ∀ x, runF tb K.laws_szSeat L.laws_szSeat [] Tryz.f198 C.laws_szSeat x = C.laws_szSeat.fn x := fun x => by kernel_rfl

/-! ### laws.szSeatS: function 88 -/
noncomputable def F.laws_szSeatS.s5 : ((List DSeat) × Int × Int × Unit) → Option (Lp ((List DSeat) × Int × Int × Unit) Int) := fun (x1, x2, x3, _) =>
  bif decide (x3 < (len x1)) then
    chk (inb x3 (List.length x1)) <|
    (F.laws_szSeat (List.getD x1 ((Int.toNat x3)) ((0, 0, [], 0, 0, ()))) x2).bind fun r4 =>
    bif decide (r4 < 0) then
      some (.ret (-1))
    else
      some (.again (x1, r4, w64 (x3 + 1), ()))
  else
    some (.exit (x1, x2, x3, ()))
noncomputable def F.laws_szSeatS (a0 : List DSeat) (a1 : Int) : Option Int :=
  bif decide ((w64 (a1 - (len a0))) < 0) then
    some (-1)
  else
  afterO (loopO F.laws_szSeatS.s5 (a0, w64 (a1 - (len a0)), 0, ())) fun (x5, x6, x7, _) =>
  some x6
noncomputable def C.laws_szSeatS : Con := ⟨[.r (.val (.sl false 224 y2)), .r (.val (.int .i64))], .one (.int .i64), fun x => F.laws_szSeatS x.1 x.2.1⟩
def L.laws_szSeatS : Loops := lookL [(5, ⟨[.pat 0 (.val (.sl false 224 y2)), .pat 1 (.val (.int .i64)), .pat 5 (.val (.int .i64))], 0⟩)]
noncomputable def K.laws_szSeatS : Cons := lookK [(198, [], C.laws_szSeat)]
theorem run.laws_szSeatS : ∀ x, runF tb K.laws_szSeatS L.laws_szSeatS [] Tryz.f88 C.laws_szSeatS x = C.laws_szSeatS.fn x := fun x => by kernel_rfl

/-! ### laws.szIntSS: function 192 -/
noncomputable def F.laws_szIntSS.s5 : ((List (List Int)) × Int × Int × Unit) → Option (Lp ((List (List Int)) × Int × Int × Unit) Int) := fun (x1, x2, x3, _) =>
  bif decide (x3 < (len x1)) then
    chk (inb x3 (List.length x1)) <|
    (F.laws_szIntS (List.getD x1 ((Int.toNat x3)) ([])) x2).bind fun r4 =>
    bif decide (r4 < 0) then
      some (.ret (-1))
    else
      some (.again (x1, r4, w64 (x3 + 1), ()))
  else
    some (.exit (x1, x2, x3, ()))
noncomputable def F.laws_szIntSS (a0 : List (List Int)) (a1 : Int) : Option Int :=
  bif decide ((w64 (a1 - (len a0))) < 0) then
    some (-1)
  else
  afterO (loopO F.laws_szIntSS.s5 (a0, w64 (a1 - (len a0)), 0, ())) fun (x5, x6, x7, _) =>
  some x6
noncomputable def C.laws_szIntSS : Con := ⟨[.r (.val (.sl false 26 (.sl false 3 (.int .i64)))), .r (.val (.int .i64))], .one (.int .i64), fun x => F.laws_szIntSS x.1 x.2.1⟩
def L.laws_szIntSS : Loops := lookL [(5, ⟨[.pat 0 (.val (.sl false 26 (.sl false 3 (.int .i64)))), .pat 1 (.val (.int .i64)), .pat 5 (.val (.int .i64))], 0⟩)]
noncomputable def K.laws_szIntSS : Cons := lookK [(191, [], C.laws_szIntS)]
theorem run.laws_szIntSS : ∀ x, runF tb K.laws_szIntSS L.laws_szIntSS [] Tryz.f192 C.laws_szIntSS x = C.laws_szIntSS.fn x := fun x => by kernel_rfl

/-! ### laws.szSketch: function 77 -/
noncomputable def F.laws_szSketch (a0 : DSketch) (a1 : Int) : Option Int :=
  (F.laws_szIntS a0.2.2.2.2.1 a1).bind fun r1 =>
  bif decide (r1 < 0) then
    some (-1)
  else
  (F.laws_szIntS a0.2.2.2.2.2.1 r1).bind fun r2 =>
  bif decide (r2 < 0) then
    some (-1)
  else
  (F.laws_szIntSS a0.2.2.2.2.2.2.1 r2).bind fun r3 =>
  bif decide (r3 < 0) then
    some (-1)
  else
    some r3
noncomputable def C.laws_szSketch : Con := ⟨[.r (.val y3), .r (.val (.int .i64))], .one (.int .i64), fun x => F.laws_szSketch x.1 x.2.1⟩
def L.laws_szSketch : Loops := fun _ => none
noncomputable def K.laws_szSketch : Cons := lookK [(191, [], C.laws_szIntS), (192, [], C.laws_szIntSS)]
theorem run.laws_szSketch : ∀ x, runF tb K.laws_szSketch L.laws_szSketch [] Tryz.f77 C.laws_szSketch x = C.laws_szSketch.fn x := fun x => by kernel_rfl

/-! ### laws.szEntry: function 17 -/
noncomputable def F.laws_szEntry (a0 : DEntry) (a1 : Int) : Option Int :=
  (F.laws_szSpanS a0.2.2.1 a1).bind fun r1 =>
  bif decide (r1 < 0) then
    some (-1)
  else
  (F.laws_szSketch a0.2.2.2.1 r1).bind fun r2 =>
  bif decide (r2 < 0) then
    some (-1)
  else
    some r2
noncomputable def C.laws_szEntry : Con := ⟨[.r (.val y4), .r (.val (.int .i64))], .one (.int .i64), fun x => F.laws_szEntry x.1 x.2.1⟩
def L.laws_szEntry : Loops := fun _ => none
noncomputable def K.laws_szEntry : Cons := lookK [(76, [], C.laws_szSpanS), (77, [], C.laws_szSketch)]
theorem run.laws_szEntry : ∀ x, runF tb K.laws_szEntry L.laws_szEntry [] Tryz.f17 C.laws_szEntry x = C.laws_szEntry.fn x := fun x => by kernel_rfl

/-! ### laws.szEntryS: function 16 -/
noncomputable def F.laws_szEntryS.s5 : ((List DEntry) × Int × Int × Unit) → Option (Lp ((List DEntry) × Int × Int × Unit) Int) := fun (x1, x2, x3, _) =>
  bif decide (x3 < (len x1)) then
    chk (inb x3 (List.length x1)) <|
    (F.laws_szEntry (List.getD x1 ((Int.toNat x3)) ((0, 0, [], (0, 0, 0, 0, [], [], [], ()), ()))) x2).bind fun r4 =>
    bif decide (r4 < 0) then
      some (.ret (-1))
    else
      some (.again (x1, r4, w64 (x3 + 1), ()))
  else
    some (.exit (x1, x2, x3, ()))
noncomputable def F.laws_szEntryS (a0 : List DEntry) (a1 : Int) : Option Int :=
  bif decide ((w64 (a1 - (len a0))) < 0) then
    some (-1)
  else
  afterO (loopO F.laws_szEntryS.s5 (a0, w64 (a1 - (len a0)), 0, ())) fun (x5, x6, x7, _) =>
  some x6
noncomputable def C.laws_szEntryS : Con := ⟨[.r (.val (.sl false 40 y4)), .r (.val (.int .i64))], .one (.int .i64), fun x => F.laws_szEntryS x.1 x.2.1⟩
def L.laws_szEntryS : Loops := lookL [(5, ⟨[.pat 0 (.val (.sl false 40 y4)), .pat 1 (.val (.int .i64)), .pat 5 (.val (.int .i64))], 0⟩)]
noncomputable def K.laws_szEntryS : Cons := lookK [(17, [], C.laws_szEntry)]
theorem run.laws_szEntryS : ∀ x, runF tb K.laws_szEntryS L.laws_szEntryS [] Tryz.f16 C.laws_szEntryS x = C.laws_szEntryS.fn x := fun x => by kernel_rfl

/-! ### laws.szRow: function 283 -/
noncomputable def F.laws_szRow (a0 : DRow) (a1 : Int) : Option Int :=
  (F.laws_szEntryS a0.1 a1).bind fun r1 =>
  bif decide (r1 < 0) then
    some (-1)
  else
    some r1
noncomputable def C.laws_szRow : Con := ⟨[.r (.val (.cons (.sl false 40 y4) .nil)), .r (.val (.int .i64))], .one (.int .i64), fun x => F.laws_szRow x.1 x.2.1⟩
def L.laws_szRow : Loops := fun _ => none
noncomputable def K.laws_szRow : Cons := lookK [(16, [], C.laws_szEntryS)]
theorem run.laws_szRow : ∀ x, runF tb K.laws_szRow L.laws_szRow [] Tryz.f283 C.laws_szRow x = C.laws_szRow.fn x := fun x => by kernel_rfl

/-! ### laws.szRowS: function 199 -/
noncomputable def F.laws_szRowS.s5 : ((List DRow) × Int × Int × Unit) → Option (Lp ((List DRow) × Int × Int × Unit) Int) := fun (x1, x2, x3, _) =>
  bif decide (x3 < (len x1)) then
    chk (inb x3 (List.length x1)) <|
    (F.laws_szRow (List.getD x1 ((Int.toNat x3)) (([], ()))) x2).bind fun r4 =>
    bif decide (r4 < 0) then
      some (.ret (-1))
    else
      some (.again (x1, r4, w64 (x3 + 1), ()))
  else
    some (.exit (x1, x2, x3, ()))
noncomputable def F.laws_szRowS (a0 : List DRow) (a1 : Int) : Option Int :=
  bif decide ((w64 (a1 - (len a0))) < 0) then
    some (-1)
  else
  afterO (loopO F.laws_szRowS.s5 (a0, w64 (a1 - (len a0)), 0, ())) fun (x5, x6, x7, _) =>
  some x6
noncomputable def C.laws_szRowS : Con := ⟨[.r (.val (.sl false 285 (.cons (.sl false 40 y4) .nil))), .r (.val (.int .i64))], .one (.int .i64), fun x => F.laws_szRowS x.1 x.2.1⟩
def L.laws_szRowS : Loops := lookL [(5, ⟨[.pat 0 (.val (.sl false 285 (.cons (.sl false 40 y4) .nil))), .pat 1 (.val (.int .i64)), .pat 5 (.val (.int .i64))], 0⟩)]
noncomputable def K.laws_szRowS : Cons := lookK [(283, [], C.laws_szRow)]
theorem run.laws_szRowS : ∀ x, runF tb K.laws_szRowS L.laws_szRowS [] Tryz.f199 C.laws_szRowS x = C.laws_szRowS.fn x := fun x => by kernel_rfl

/-! ### laws.szRowSS: function 89 -/
noncomputable def F.laws_szRowSS.s5 : ((List (List DRow)) × Int × Int × Unit) → Option (Lp ((List (List DRow)) × Int × Int × Unit) Int) := fun (x1, x2, x3, _) =>
  bif decide (x3 < (len x1)) then
    chk (inb x3 (List.length x1)) <|
    (F.laws_szRowS (List.getD x1 ((Int.toNat x3)) ([])) x2).bind fun r4 =>
    bif decide (r4 < 0) then
      some (.ret (-1))
    else
      some (.again (x1, r4, w64 (x3 + 1), ()))
  else
    some (.exit (x1, x2, x3, ()))
noncomputable def F.laws_szRowSS (a0 : List (List DRow)) (a1 : Int) : Option Int :=
  bif decide ((w64 (a1 - (len a0))) < 0) then
    some (-1)
  else
  afterO (loopO F.laws_szRowSS.s5 (a0, w64 (a1 - (len a0)), 0, ())) fun (x5, x6, x7, _) =>
  some x6
noncomputable def C.laws_szRowSS : Con := ⟨[.r (.val (.sl false 226 (.sl false 285 (.cons (.sl false 40 y4) .nil)))), .r (.val (.int .i64))], .one (.int .i64), fun x => F.laws_szRowSS x.1 x.2.1⟩
def L.laws_szRowSS : Loops := lookL [(5, ⟨[.pat 0 (.val (.sl false 226 (.sl false 285 (.cons (.sl false 40 y4) .nil)))), .pat 1 (.val (.int .i64)), .pat 5 (.val (.int .i64))], 0⟩)]
noncomputable def K.laws_szRowSS : Cons := lookK [(199, [], C.laws_szRowS)]
theorem run.laws_szRowSS : ∀ x, runF tb K.laws_szRowSS L.laws_szRowSS [] Tryz.f89 C.laws_szRowSS x = C.laws_szRowSS.fn x := fun x => by kernel_rfl

/-! ### laws.szTurn: function 200 -/
noncomputable def F.laws_szTurn (a0 : DTurn) (a1 : Int) : Option Int :=
  (F.laws_szIntS a0.2.2.1 a1).bind fun r1 =>
  bif decide (r1 < 0) then
    some (-1)
  else
    some r1
noncomputable def C.laws_szTurn : Con := ⟨[.r (.val y5), .r (.val (.int .i64))], .one (.int .i64), fun x => F.laws_szTurn x.1 x.2.1⟩
def L.laws_szTurn : Loops := fun _ => none
noncomputable def K.laws_szTurn : Cons := lookK [(191, [], C.laws_szIntS)]
theorem run.laws_szTurn : ∀ x, runF tb K.laws_szTurn L.laws_szTurn [] Tryz.f200 C.laws_szTurn x = C.laws_szTurn.fn x := fun x => by kernel_rfl

/-! ### laws.szTurnS: function 90 -/
noncomputable def F.laws_szTurnS.s5 : ((List DTurn) × Int × Int × Unit) → Option (Lp ((List DTurn) × Int × Int × Unit) Int) := fun (x1, x2, x3, _) =>
  bif decide (x3 < (len x1)) then
    chk (inb x3 (List.length x1)) <|
    (F.laws_szTurn (List.getD x1 ((Int.toNat x3)) ((0, false, [], ()))) x2).bind fun r4 =>
    bif decide (r4 < 0) then
      some (.ret (-1))
    else
      some (.again (x1, r4, w64 (x3 + 1), ()))
  else
    some (.exit (x1, x2, x3, ()))
noncomputable def F.laws_szTurnS (a0 : List DTurn) (a1 : Int) : Option Int :=
  bif decide ((w64 (a1 - (len a0))) < 0) then
    some (-1)
  else
  afterO (loopO F.laws_szTurnS.s5 (a0, w64 (a1 - (len a0)), 0, ())) fun (x5, x6, x7, _) =>
  some x6
noncomputable def C.laws_szTurnS : Con := ⟨[.r (.val (.sl false 228 y5)), .r (.val (.int .i64))], .one (.int .i64), fun x => F.laws_szTurnS x.1 x.2.1⟩
def L.laws_szTurnS : Loops := lookL [(5, ⟨[.pat 0 (.val (.sl false 228 y5)), .pat 1 (.val (.int .i64)), .pat 5 (.val (.int .i64))], 0⟩)]
noncomputable def K.laws_szTurnS : Cons := lookK [(200, [], C.laws_szTurn)]
theorem run.laws_szTurnS : ∀ x, runF tb K.laws_szTurnS L.laws_szTurnS [] Tryz.f90 C.laws_szTurnS x = C.laws_szTurnS.fn x := fun x => by kernel_rfl

/-! ### laws.szOut: function 201 -/
noncomputable def F.laws_szOut (a0 : DOut) (a1 : Int) : Option Int :=
  (F.laws_szEntry a0.2.1 a1).bind fun r1 =>
  bif decide (r1 < 0) then
    some (-1)
  else
    some r1
noncomputable def C.laws_szOut : Con := ⟨[.r (.val y6), .r (.val (.int .i64))], .one (.int .i64), fun x => F.laws_szOut x.1 x.2.1⟩
def L.laws_szOut : Loops := fun _ => none
noncomputable def K.laws_szOut : Cons := lookK [(17, [], C.laws_szEntry)]
theorem run.laws_szOut : ∀ x, runF tb K.laws_szOut L.laws_szOut [] Tryz.f201 C.laws_szOut x = C.laws_szOut.fn x := fun x => by kernel_rfl

/-! ### laws.szOutS: function 91 -/
noncomputable def F.laws_szOutS.s5 : ((List DOut) × Int × Int × Unit) → Option (Lp ((List DOut) × Int × Int × Unit) Int) := fun (x1, x2, x3, _) =>
  bif decide (x3 < (len x1)) then
    chk (inb x3 (List.length x1)) <|
    (F.laws_szOut (List.getD x1 ((Int.toNat x3)) ((0, (0, 0, [], (0, 0, 0, 0, [], [], [], ()), ()), ()))) x2).bind fun r4 =>
    bif decide (r4 < 0) then
      some (.ret (-1))
    else
      some (.again (x1, r4, w64 (x3 + 1), ()))
  else
    some (.exit (x1, x2, x3, ()))
noncomputable def F.laws_szOutS (a0 : List DOut) (a1 : Int) : Option Int :=
  bif decide ((w64 (a1 - (len a0))) < 0) then
    some (-1)
  else
  afterO (loopO F.laws_szOutS.s5 (a0, w64 (a1 - (len a0)), 0, ())) fun (x5, x6, x7, _) =>
  some x6
noncomputable def C.laws_szOutS : Con := ⟨[.r (.val (.sl false 231 y6)), .r (.val (.int .i64))], .one (.int .i64), fun x => F.laws_szOutS x.1 x.2.1⟩
def L.laws_szOutS : Loops := lookL [(5, ⟨[.pat 0 (.val (.sl false 231 y6)), .pat 1 (.val (.int .i64)), .pat 5 (.val (.int .i64))], 0⟩)]
noncomputable def K.laws_szOutS : Cons := lookK [(201, [], C.laws_szOut)]
theorem run.laws_szOutS : ∀ x, runF tb K.laws_szOutS L.laws_szOutS [] Tryz.f91 C.laws_szOutS x = C.laws_szOutS.fn x := fun x => by kernel_rfl

/-! ### laws.szHouse: function 25 -/
noncomputable def F.laws_szHouse (a0 : DHouse) (a1 : Int) : Option Int :=
  (F.laws_szConf a0.1 a1).bind fun r1 =>
  bif decide (r1 < 0) then
    some (-1)
  else
  (F.laws_szSeatS a0.2.2.2.1 r1).bind fun r2 =>
  bif decide (r2 < 0) then
    some (-1)
  else
  (F.laws_szRowSS a0.2.2.2.2.1 r2).bind fun r3 =>
  bif decide (r3 < 0) then
    some (-1)
  else
  (F.laws_szTurnS a0.2.2.2.2.2.1 r3).bind fun r4 =>
  bif decide (r4 < 0) then
    some (-1)
  else
  (F.laws_szEntryS a0.2.2.2.2.2.2.2.1 r4).bind fun r5 =>
  bif decide (r5 < 0) then
    some (-1)
  else
  (F.laws_szOutS a0.2.2.2.2.2.2.2.2.1 r5).bind fun r6 =>
  bif decide (r6 < 0) then
    some (-1)
  else
    some r6
noncomputable def C.laws_szHouse : Con := ⟨[.r (.val y7), .r (.val (.int .i64))], .one (.int .i64), fun x => F.laws_szHouse x.1 x.2.1⟩
def L.laws_szHouse : Loops := fun _ => none
noncomputable def K.laws_szHouse : Cons := lookK [(16, [], C.laws_szEntryS), (87, [], C.laws_szConf), (88, [], C.laws_szSeatS), (89, [], C.laws_szRowSS), (90, [], C.laws_szTurnS), (91, [], C.laws_szOutS)]
theorem run.laws_szHouse : ∀ x, runF tb K.laws_szHouse L.laws_szHouse [] Tryz.f25 C.laws_szHouse x = C.laws_szHouse.fn x := fun x => by kernel_rfl

/-! ### laws.szItem: function 147 -/
noncomputable def F.laws_szItem (a0 : DItem) (a1 : Int) : Option Int :=
  (F.laws_szSketch a0.2.2.2.2.1 a1).bind fun r1 =>
  bif decide (r1 < 0) then
    some (-1)
  else
    some r1
noncomputable def C.laws_szItem : Con := ⟨[.r (.val y8), .r (.val (.int .i64))], .one (.int .i64), fun x => F.laws_szItem x.1 x.2.1⟩
def L.laws_szItem : Loops := fun _ => none
noncomputable def K.laws_szItem : Cons := lookK [(77, [], C.laws_szSketch)]
theorem run.laws_szItem : ∀ x, runF tb K.laws_szItem L.laws_szItem [] Tryz.f147 C.laws_szItem x = C.laws_szItem.fn x := fun x => by kernel_rfl

/-! ### laws.szFrame: function 44 -/
noncomputable def F.laws_szFrame (a0 : DFrame) (a1 : Int) : Option Int :=
  (F.laws_szSpanS a0.2.2.2.2.1 a1).bind fun r1 =>
  bif decide (r1 < 0) then
    some (-1)
  else
  (F.laws_szItem a0.2.2.2.2.2.1 r1).bind fun r2 =>
  bif decide (r2 < 0) then
    some (-1)
  else
    some r2
noncomputable def C.laws_szFrame : Con := ⟨[.r (.val y9), .r (.val (.int .i64))], .one (.int .i64), fun x => F.laws_szFrame x.1 x.2.1⟩
def L.laws_szFrame : Loops := fun _ => none
noncomputable def K.laws_szFrame : Cons := lookK [(76, [], C.laws_szSpanS), (147, [], C.laws_szItem)]
theorem run.laws_szFrame : ∀ x, runF tb K.laws_szFrame L.laws_szFrame [] Tryz.f44 C.laws_szFrame x = C.laws_szFrame.fn x := fun x => by kernel_rfl

/-! ### laws.toIntS: function 194 -/
noncomputable def F.laws_toIntS.s3 : ((List Int) × (List Int) × Int × Unit) → Option (Lp ((List Int) × (List Int) × Int × Unit) ((List Int))) := fun (x1, x2, x3, _) =>
  bif decide (x3 < (len x1)) then
    chk (inb x3 (List.length x1)) <|
    chk (inb x3 (List.length x2)) <|
    some (.again (x1, List.set x2 ((Int.toNat x3)) (List.getD x1 ((Int.toNat x3)) 0), w64 (x3 + 1), ()))
  else
    some (.exit (x1, x2, x3, ()))
noncomputable def F.laws_toIntS (a0 : List Int) : Option ((List Int)) :=
  chk (mk 8 (len a0) (len a0)) <|
  afterO (loopO F.laws_toIntS.s3 (a0, List.replicate (Int.toNat (len a0)) 0, 0, ())) fun (x4, x5, x6, _) =>
  some x5
noncomputable def C.laws_toIntS : Con := ⟨[.r (.val (.sl false 3 (.int .i64)))], .one (.sl true 3 (.int .i64)), fun x => F.laws_toIntS x.1⟩
def L.laws_toIntS : Loops := lookL [(3, ⟨[.pat 0 (.val (.sl false 3 (.int .i64))), .own 3 (.sl true 3 (.int .i64)), .pat 4 (.val (.int .i64))], 0⟩)]
noncomputable def K.laws_toIntS : Cons := lookK []
theorem run.laws_toIntS : ∀ x, runF tb K.laws_toIntS L.laws_toIntS [] Tryz.f194 C.laws_toIntS x = C.laws_toIntS.fn x := fun x => by kernel_rfl

/-! ### laws.toConf: function 101 -/
noncomputable def F.laws_toConf (a0 : DConf) : Option DConf :=
  (F.laws_toIntS a0.2.2.2.1).bind fun r1 =>
  some (a0.1, a0.2.1, a0.2.2.1, r1, a0.2.2.2.2.1, a0.2.2.2.2.2.1, a0.2.2.2.2.2.2.1, a0.2.2.2.2.2.2.2.1, ())
noncomputable def C.laws_toConf : Con := ⟨[.r (.val y0)], .one y10, fun x => F.laws_toConf x.1⟩
def L.laws_toConf : Loops := fun _ => none
noncomputable def K.laws_toConf : Cons := lookK [(194, [], C.laws_toIntS)]
theorem run.laws_toConf : ∀ x, runF tb K.laws_toConf L.laws_toConf [] Tryz.f101 C.laws_toConf x = C.laws_toConf.fn x := fun x => by kernel_rfl

/-! ### laws.toSpan: function 193 -/
noncomputable def F.laws_toSpan (a0 : DSpan) : Option DSpan :=
  some (a0.1, a0.2.1, ())
noncomputable def C.laws_toSpan : Con := ⟨[.r (.val y1)], .one y1, fun x => F.laws_toSpan x.1⟩
def L.laws_toSpan : Loops := fun _ => none
noncomputable def K.laws_toSpan : Cons := lookK []
theorem run.laws_toSpan : ∀ x, runF tb K.laws_toSpan L.laws_toSpan [] Tryz.f193 C.laws_toSpan x = C.laws_toSpan.fn x := fun x => by kernel_rfl

/-! ### laws.toSpanS: function 78 -/
noncomputable def F.laws_toSpanS.s3 : ((List DSpan) × (List DSpan) × Int × Unit) → Option (Lp ((List DSpan) × (List DSpan) × Int × Unit) ((List DSpan))) := fun (x1, x2, x3, _) =>
  bif decide (x3 < (len x1)) then
    chk (inb x3 (List.length x1)) <|
    (F.laws_toSpan (List.getD x1 ((Int.toNat x3)) ((0, 0, ())))).bind fun r4 =>
    chk (inb x3 (List.length x2)) <|
    some (.again (x1, List.set x2 ((Int.toNat x3)) r4, w64 (x3 + 1), ()))
  else
    some (.exit (x1, x2, x3, ()))
noncomputable def F.laws_toSpanS (a0 : List DSpan) : Option ((List DSpan)) :=
  chk (mk 16 (len a0) (len a0)) <|
  afterO (loopO F.laws_toSpanS.s3 (a0, List.replicate (Int.toNat (len a0)) ((0, 0, ())), 0, ())) fun (x5, x6, x7, _) =>
  some x6
noncomputable def C.laws_toSpanS : Con := ⟨[.r (.val (.sl false 217 y1))], .one (.sl true 150 y1), fun x => F.laws_toSpanS x.1⟩
def L.laws_toSpanS : Loops := lookL [(3, ⟨[.pat 0 (.val (.sl false 217 y1)), .own 3 (.sl true 150 y1), .pat 4 (.val (.int .i64))], 0⟩)]
noncomputable def K.laws_toSpanS : Cons := lookK [(193, [], C.laws_toSpan)]
theorem run.laws_toSpanS : ∀ x, runF tb K.laws_toSpanS L.laws_toSpanS [] Tryz.f78 C.laws_toSpanS x = C.laws_toSpanS.fn x := fun x => by kernel_rfl

/-! ### laws.toSeat: function 211 -/
noncomputable def F.laws_toSeat (a0 : DSeat) : Option DSeat :=
  (F.laws_toSpanS a0.2.2.1).bind fun r1 =>
  some (a0.1, a0.2.1, r1, a0.2.2.2.1, a0.2.2.2.2.1, ())
noncomputable def C.laws_toSeat : Con := ⟨[.r (.val y2)], .one y11, fun x => F.laws_toSeat x.1⟩
def L.laws_toSeat : Loops := fun _ => none
noncomputable def K.laws_toSeat : Cons := lookK [(78, [], C.laws_toSpanS)]
theorem run.laws_toSeat : ∀ x, runF tb K.laws_toSeat L.laws_toSeat [] Tryz.f211 C.laws_toSeat x = C.laws_toSeat.fn x := fun x => by kernel_rfl

/-! ### laws.toSeatS: function 102 -/
noncomputable def F.laws_toSeatS.s3 : ((List DSeat) × (List DSeat) × Int × Unit) → Option (Lp ((List DSeat) × (List DSeat) × Int × Unit) ((List DSeat))) := fun (x1, x2, x3, _) =>
  bif decide (x3 < (len x1)) then
    chk (inb x3 (List.length x1)) <|
    (F.laws_toSeat (List.getD x1 ((Int.toNat x3)) ((0, 0, [], 0, 0, ())))).bind fun r4 =>
    chk (inb x3 (List.length x2)) <|
    some (.again (x1, List.set x2 ((Int.toNat x3)) r4, w64 (x3 + 1), ()))
  else
    some (.exit (x1, x2, x3, ()))
noncomputable def F.laws_toSeatS (a0 : List DSeat) : Option ((List DSeat)) :=
  chk (mk 56 (len a0) (len a0)) <|
  afterO (loopO F.laws_toSeatS.s3 (a0, List.replicate (Int.toNat (len a0)) ((0, 0, ([] : List DSpan), 0, 0, ())), 0, ())) fun (x5, x6, x7, _) =>
  some x6
noncomputable def C.laws_toSeatS : Con := ⟨[.r (.val (.sl false 224 y2))], .one (.sl true 139 y11), fun x => F.laws_toSeatS x.1⟩
def L.laws_toSeatS : Loops := lookL [(3, ⟨[.pat 0 (.val (.sl false 224 y2)), .own 3 (.sl true 139 y11), .pat 4 (.val (.int .i64))], 0⟩)]
noncomputable def K.laws_toSeatS : Cons := lookK [(211, [], C.laws_toSeat)]
theorem run.laws_toSeatS : ∀ x, runF tb K.laws_toSeatS L.laws_toSeatS [] Tryz.f102 C.laws_toSeatS x = C.laws_toSeatS.fn x := fun x => by kernel_rfl

/-! ### laws.toIntSS: function 195 -/
noncomputable def F.laws_toIntSS.s3 : ((List (List Int)) × (List (List Int)) × Int × Unit) → Option (Lp ((List (List Int)) × (List (List Int)) × Int × Unit) ((List (List Int)))) := fun (x1, x2, x3, _) =>
  bif decide (x3 < (len x1)) then
    chk (inb x3 (List.length x1)) <|
    (F.laws_toIntS (List.getD x1 ((Int.toNat x3)) ([]))).bind fun r4 =>
    chk (inb x3 (List.length x2)) <|
    some (.again (x1, List.set x2 ((Int.toNat x3)) r4, w64 (x3 + 1), ()))
  else
    some (.exit (x1, x2, x3, ()))
noncomputable def F.laws_toIntSS (a0 : List (List Int)) : Option ((List (List Int))) :=
  chk (mk 24 (len a0) (len a0)) <|
  afterO (loopO F.laws_toIntSS.s3 (a0, List.replicate (Int.toNat (len a0)) (([] : List Int)), 0, ())) fun (x5, x6, x7, _) =>
  some x6
noncomputable def C.laws_toIntSS : Con := ⟨[.r (.val (.sl false 26 (.sl false 3 (.int .i64))))], .one (.sl true 26 (.sl true 3 (.int .i64))), fun x => F.laws_toIntSS x.1⟩
def L.laws_toIntSS : Loops := lookL [(3, ⟨[.pat 0 (.val (.sl false 26 (.sl false 3 (.int .i64)))), .own 3 (.sl true 26 (.sl true 3 (.int .i64))), .pat 4 (.val (.int .i64))], 0⟩)]
noncomputable def K.laws_toIntSS : Cons := lookK [(194, [], C.laws_toIntS)]
theorem run.laws_toIntSS : ∀ x, runF tb K.laws_toIntSS L.laws_toIntSS [] Tryz.f195 C.laws_toIntSS x = C.laws_toIntSS.fn x := fun x => by kernel_rfl

/-! ### laws.toSketch: function 79 -/
noncomputable def F.laws_toSketch (a0 : DSketch) : Option DSketch :=
  (F.laws_toIntS a0.2.2.2.2.1).bind fun r1 =>
  (F.laws_toIntS a0.2.2.2.2.2.1).bind fun r2 =>
  (F.laws_toIntSS a0.2.2.2.2.2.2.1).bind fun r3 =>
  some (a0.1, a0.2.1, a0.2.2.1, a0.2.2.2.1, r1, r2, r3, ())
noncomputable def C.laws_toSketch : Con := ⟨[.r (.val y3)], .one y12, fun x => F.laws_toSketch x.1⟩
def L.laws_toSketch : Loops := fun _ => none
noncomputable def K.laws_toSketch : Cons := lookK [(194, [], C.laws_toIntS), (195, [], C.laws_toIntSS)]
theorem run.laws_toSketch : ∀ x, runF tb K.laws_toSketch L.laws_toSketch [] Tryz.f79 C.laws_toSketch x = C.laws_toSketch.fn x := fun x => by kernel_rfl

/-! ### laws.toEntry: function 19 -/
noncomputable def F.laws_toEntry (a0 : DEntry) : Option DEntry :=
  (F.laws_toSpanS a0.2.2.1).bind fun r1 =>
  (F.laws_toSketch a0.2.2.2.1).bind fun r2 =>
  some (a0.1, a0.2.1, r1, r2, ())
noncomputable def C.laws_toEntry : Con := ⟨[.r (.val y4)], .one y13, fun x => F.laws_toEntry x.1⟩
def L.laws_toEntry : Loops := fun _ => none
noncomputable def K.laws_toEntry : Cons := lookK [(78, [], C.laws_toSpanS), (79, [], C.laws_toSketch)]
theorem run.laws_toEntry : ∀ x, runF tb K.laws_toEntry L.laws_toEntry [] Tryz.f19 C.laws_toEntry x = C.laws_toEntry.fn x := fun x => by kernel_rfl

/-! ### laws.toEntryS: function 18 -/
noncomputable def F.laws_toEntryS.s3 : ((List DEntry) × (List DEntry) × Int × Unit) → Option (Lp ((List DEntry) × (List DEntry) × Int × Unit) ((List DEntry))) := fun (x1, x2, x3, _) =>
  bif decide (x3 < (len x1)) then
    chk (inb x3 (List.length x1)) <|
    (F.laws_toEntry (List.getD x1 ((Int.toNat x3)) ((0, 0, [], (0, 0, 0, 0, [], [], [], ()), ())))).bind fun r4 =>
    chk (inb x3 (List.length x2)) <|
    some (.again (x1, List.set x2 ((Int.toNat x3)) r4, w64 (x3 + 1), ()))
  else
    some (.exit (x1, x2, x3, ()))
noncomputable def F.laws_toEntryS (a0 : List DEntry) : Option ((List DEntry)) :=
  chk (mk 144 (len a0) (len a0)) <|
  afterO (loopO F.laws_toEntryS.s3 (a0, List.replicate (Int.toNat (len a0)) ((0, 0, ([] : List DSpan), (0, 0, 0, 0, ([] : List Int), ([] : List Int), ([] : List (List Int)), ()), ())), 0, ())) fun (x5, x6, x7, _) =>
  some x6
noncomputable def C.laws_toEntryS : Con := ⟨[.r (.val (.sl false 40 y4))], .one (.sl true 31 y13), fun x => F.laws_toEntryS x.1⟩
def L.laws_toEntryS : Loops := lookL [(3, ⟨[.pat 0 (.val (.sl false 40 y4)), .own 3 (.sl true 31 y13), .pat 4 (.val (.int .i64))], 0⟩)]
noncomputable def K.laws_toEntryS : Cons := lookK [(19, [], C.laws_toEntry)]
theorem run.laws_toEntryS : ∀ x, runF tb K.laws_toEntryS L.laws_toEntryS [] Tryz.f18 C.laws_toEntryS x = C.laws_toEntryS.fn x := fun x => by kernel_rfl

/-! ### laws.toRow: function 286 -/
noncomputable def F.laws_toRow (a0 : DRow) : Option DRow :=
  (F.laws_toEntryS a0.1).bind fun r1 =>
  some (r1, ())
noncomputable def C.laws_toRow : Con := ⟨[.r (.val (.cons (.sl false 40 y4) .nil))], .one (.cons (.sl true 31 y13) .nil), fun x => F.laws_toRow x.1⟩
def L.laws_toRow : Loops := fun _ => none
noncomputable def K.laws_toRow : Cons := lookK [(18, [], C.laws_toEntryS)]
theorem run.laws_toRow : ∀ x, runF tb K.laws_toRow L.laws_toRow [] Tryz.f286 C.laws_toRow x = C.laws_toRow.fn x := fun x => by kernel_rfl

/-! ### laws.toRowS: function 212 -/
noncomputable def F.laws_toRowS.s3 : ((List DRow) × (List DRow) × Int × Unit) → Option (Lp ((List DRow) × (List DRow) × Int × Unit) ((List DRow))) := fun (x1, x2, x3, _) =>
  bif decide (x3 < (len x1)) then
    chk (inb x3 (List.length x1)) <|
    (F.laws_toRow (List.getD x1 ((Int.toNat x3)) (([], ())))).bind fun r4 =>
    chk (inb x3 (List.length x2)) <|
    some (.again (x1, List.set x2 ((Int.toNat x3)) r4, w64 (x3 + 1), ()))
  else
    some (.exit (x1, x2, x3, ()))
noncomputable def F.laws_toRowS (a0 : List DRow) : Option ((List DRow)) :=
  chk (mk 24 (len a0) (len a0)) <|
  afterO (loopO F.laws_toRowS.s3 (a0, List.replicate (Int.toNat (len a0)) ((([] : List DEntry), ())), 0, ())) fun (x5, x6, x7, _) =>
  some x6
noncomputable def C.laws_toRowS : Con := ⟨[.r (.val (.sl false 285 (.cons (.sl false 40 y4) .nil)))], .one (.sl true 105 (.cons (.sl true 31 y13) .nil)), fun x => F.laws_toRowS x.1⟩
def L.laws_toRowS : Loops := lookL [(3, ⟨[.pat 0 (.val (.sl false 285 (.cons (.sl false 40 y4) .nil))), .own 3 (.sl true 105 (.cons (.sl true 31 y13) .nil)), .pat 4 (.val (.int .i64))], 0⟩)]
noncomputable def K.laws_toRowS : Cons := lookK [(286, [], C.laws_toRow)]
theorem run.laws_toRowS : ∀ x, runF tb K.laws_toRowS L.laws_toRowS [] Tryz.f212 C.laws_toRowS x = C.laws_toRowS.fn x := fun x => by kernel_rfl

/-! ### laws.toRowSS: function 103 -/
noncomputable def F.laws_toRowSS.s3 : ((List (List DRow)) × (List (List DRow)) × Int × Unit) → Option (Lp ((List (List DRow)) × (List (List DRow)) × Int × Unit) ((List (List DRow)))) := fun (x1, x2, x3, _) =>
  bif decide (x3 < (len x1)) then
    chk (inb x3 (List.length x1)) <|
    (F.laws_toRowS (List.getD x1 ((Int.toNat x3)) ([]))).bind fun r4 =>
    chk (inb x3 (List.length x2)) <|
    some (.again (x1, List.set x2 ((Int.toNat x3)) r4, w64 (x3 + 1), ()))
  else
    some (.exit (x1, x2, x3, ()))
noncomputable def F.laws_toRowSS (a0 : List (List DRow)) : Option ((List (List DRow))) :=
  chk (mk 24 (len a0) (len a0)) <|
  afterO (loopO F.laws_toRowSS.s3 (a0, List.replicate (Int.toNat (len a0)) (([] : List DRow)), 0, ())) fun (x5, x6, x7, _) =>
  some x6
noncomputable def C.laws_toRowSS : Con := ⟨[.r (.val (.sl false 226 (.sl false 285 (.cons (.sl false 40 y4) .nil))))], .one (.sl true 159 (.sl true 105 (.cons (.sl true 31 y13) .nil))), fun x => F.laws_toRowSS x.1⟩
def L.laws_toRowSS : Loops := lookL [(3, ⟨[.pat 0 (.val (.sl false 226 (.sl false 285 (.cons (.sl false 40 y4) .nil)))), .own 3 (.sl true 159 (.sl true 105 (.cons (.sl true 31 y13) .nil))), .pat 4 (.val (.int .i64))], 0⟩)]
noncomputable def K.laws_toRowSS : Cons := lookK [(212, [], C.laws_toRowS)]
theorem run.laws_toRowSS : ∀ x, runF tb K.laws_toRowSS L.laws_toRowSS [] Tryz.f103 C.laws_toRowSS x = C.laws_toRowSS.fn x := fun x => by kernel_rfl

/-! ### laws.toTurn: function 213 -/
noncomputable def F.laws_toTurn (a0 : DTurn) : Option DTurn :=
  (F.laws_toIntS a0.2.2.1).bind fun r1 =>
  some (a0.1, a0.2.1, r1, ())
noncomputable def C.laws_toTurn : Con := ⟨[.r (.val y5)], .one y14, fun x => F.laws_toTurn x.1⟩
def L.laws_toTurn : Loops := fun _ => none
noncomputable def K.laws_toTurn : Cons := lookK [(194, [], C.laws_toIntS)]
theorem run.laws_toTurn : ∀ x, runF tb K.laws_toTurn L.laws_toTurn [] Tryz.f213 C.laws_toTurn x = C.laws_toTurn.fn x := fun x => by kernel_rfl

/-! ### laws.toTurnS: function 104 -/
noncomputable def F.laws_toTurnS.s3 : ((List DTurn) × (List DTurn) × Int × Unit) → Option (Lp ((List DTurn) × (List DTurn) × Int × Unit) ((List DTurn))) := fun (x1, x2, x3, _) =>
  bif decide (x3 < (len x1)) then
    chk (inb x3 (List.length x1)) <|
    (F.laws_toTurn (List.getD x1 ((Int.toNat x3)) ((0, false, [], ())))).bind fun r4 =>
    chk (inb x3 (List.length x2)) <|
    some (.again (x1, List.set x2 ((Int.toNat x3)) r4, w64 (x3 + 1), ()))
  else
    some (.exit (x1, x2, x3, ()))
noncomputable def F.laws_toTurnS (a0 : List DTurn) : Option ((List DTurn)) :=
  chk (mk 40 (len a0) (len a0)) <|
  afterO (loopO F.laws_toTurnS.s3 (a0, List.replicate (Int.toNat (len a0)) ((0, false, ([] : List Int), ())), 0, ())) fun (x5, x6, x7, _) =>
  some x6
noncomputable def C.laws_toTurnS : Con := ⟨[.r (.val (.sl false 228 y5))], .one (.sl true 175 y14), fun x => F.laws_toTurnS x.1⟩
def L.laws_toTurnS : Loops := lookL [(3, ⟨[.pat 0 (.val (.sl false 228 y5)), .own 3 (.sl true 175 y14), .pat 4 (.val (.int .i64))], 0⟩)]
noncomputable def K.laws_toTurnS : Cons := lookK [(213, [], C.laws_toTurn)]
theorem run.laws_toTurnS : ∀ x, runF tb K.laws_toTurnS L.laws_toTurnS [] Tryz.f104 C.laws_toTurnS x = C.laws_toTurnS.fn x := fun x => by kernel_rfl

/-! ### laws.toOut: function 214 -/
noncomputable def F.laws_toOut (a0 : DOut) : Option DOut :=
  (F.laws_toEntry a0.2.1).bind fun r1 =>
  some (a0.1, r1, ())
noncomputable def C.laws_toOut : Con := ⟨[.r (.val y6)], .one y15, fun x => F.laws_toOut x.1⟩
def L.laws_toOut : Loops := fun _ => none
noncomputable def K.laws_toOut : Cons := lookK [(19, [], C.laws_toEntry)]
theorem run.laws_toOut : ∀ x, runF tb K.laws_toOut L.laws_toOut [] Tryz.f214 C.laws_toOut x = C.laws_toOut.fn x := fun x => by kernel_rfl

/-! ### laws.toOutS: function 105 -/
noncomputable def F.laws_toOutS.s3 : ((List DOut) × (List DOut) × Int × Unit) → Option (Lp ((List DOut) × (List DOut) × Int × Unit) ((List DOut))) := fun (x1, x2, x3, _) =>
  bif decide (x3 < (len x1)) then
    chk (inb x3 (List.length x1)) <|
    (F.laws_toOut (List.getD x1 ((Int.toNat x3)) ((0, (0, 0, [], (0, 0, 0, 0, [], [], [], ()), ()), ())))).bind fun r4 =>
    chk (inb x3 (List.length x2)) <|
    some (.again (x1, List.set x2 ((Int.toNat x3)) r4, w64 (x3 + 1), ()))
  else
    some (.exit (x1, x2, x3, ()))
noncomputable def F.laws_toOutS (a0 : List DOut) : Option ((List DOut)) :=
  chk (mk 152 (len a0) (len a0)) <|
  afterO (loopO F.laws_toOutS.s3 (a0, List.replicate (Int.toNat (len a0)) ((0, (0, 0, ([] : List DSpan), (0, 0, 0, 0, ([] : List Int), ([] : List Int), ([] : List (List Int)), ()), ()), ())), 0, ())) fun (x5, x6, x7, _) =>
  some x6
noncomputable def C.laws_toOutS : Con := ⟨[.r (.val (.sl false 231 y6))], .one (.sl true 137 y15), fun x => F.laws_toOutS x.1⟩
def L.laws_toOutS : Loops := lookL [(3, ⟨[.pat 0 (.val (.sl false 231 y6)), .own 3 (.sl true 137 y15), .pat 4 (.val (.int .i64))], 0⟩)]
noncomputable def K.laws_toOutS : Cons := lookK [(214, [], C.laws_toOut)]
theorem run.laws_toOutS : ∀ x, runF tb K.laws_toOutS L.laws_toOutS [] Tryz.f105 C.laws_toOutS x = C.laws_toOutS.fn x := fun x => by kernel_rfl

/-! ### laws.toHouse: function 27 -/
noncomputable def F.laws_toHouse (a0 : DHouse) : Option DHouse :=
  (F.laws_toConf a0.1).bind fun r1 =>
  (F.laws_toSeatS a0.2.2.2.1).bind fun r2 =>
  (F.laws_toRowSS a0.2.2.2.2.1).bind fun r3 =>
  (F.laws_toTurnS a0.2.2.2.2.2.1).bind fun r4 =>
  (F.laws_toEntryS a0.2.2.2.2.2.2.2.1).bind fun r5 =>
  (F.laws_toOutS a0.2.2.2.2.2.2.2.2.1).bind fun r6 =>
  some (r1, a0.2.1, a0.2.2.1, r2, r3, r4, a0.2.2.2.2.2.2.1, r5, r6, ())
noncomputable def C.laws_toHouse : Con := ⟨[.r (.val y7)], .one y16, fun x => F.laws_toHouse x.1⟩
def L.laws_toHouse : Loops := fun _ => none
noncomputable def K.laws_toHouse : Cons := lookK [(18, [], C.laws_toEntryS), (101, [], C.laws_toConf), (102, [], C.laws_toSeatS), (103, [], C.laws_toRowSS), (104, [], C.laws_toTurnS), (105, [], C.laws_toOutS)]
theorem run.laws_toHouse : ∀ x, runF tb K.laws_toHouse L.laws_toHouse [] Tryz.f27 C.laws_toHouse x = C.laws_toHouse.fn x := fun x => by kernel_rfl

/-! ### laws.toItem: function 154 -/
noncomputable def F.laws_toItem (a0 : DItem) : Option DItem :=
  (F.laws_toSketch a0.2.2.2.2.1).bind fun r1 =>
  some (a0.1, a0.2.1, a0.2.2.1, a0.2.2.2.1, r1, ())
noncomputable def C.laws_toItem : Con := ⟨[.r (.val y8)], .one y17, fun x => F.laws_toItem x.1⟩
def L.laws_toItem : Loops := fun _ => none
noncomputable def K.laws_toItem : Cons := lookK [(79, [], C.laws_toSketch)]
theorem run.laws_toItem : ∀ x, runF tb K.laws_toItem L.laws_toItem [] Tryz.f154 C.laws_toItem x = C.laws_toItem.fn x := fun x => by kernel_rfl

/-! ### laws.toFrame: function 46 -/
noncomputable def F.laws_toFrame (a0 : DFrame) : Option DFrame :=
  (F.laws_toSpanS a0.2.2.2.2.1).bind fun r1 =>
  (F.laws_toItem a0.2.2.2.2.2.1).bind fun r2 =>
  some (a0.1, a0.2.1, a0.2.2.1, a0.2.2.2.1, r1, r2, ())
noncomputable def C.laws_toFrame : Con := ⟨[.r (.val y9)], .one y18, fun x => F.laws_toFrame x.1⟩
def L.laws_toFrame : Loops := fun _ => none
noncomputable def K.laws_toFrame : Cons := lookK [(78, [], C.laws_toSpanS), (154, [], C.laws_toItem)]
theorem run.laws_toFrame : ∀ x, runF tb K.laws_toFrame L.laws_toFrame [] Tryz.f46 C.laws_toFrame x = C.laws_toFrame.fn x := fun x => by kernel_rfl

/-! ### spec.l12Conf: function 234 -/
noncomputable def F.spec_l12Conf (a0 : DConf) : Option DConf :=
  chk (fits (List.length (([] : List Int)) + List.length a0.2.2.2.1) 8) <|
  some (a0.1, a0.2.1, a0.2.2.1, (([] : List Int)) ++ a0.2.2.2.1, a0.2.2.2.2)
noncomputable def C.spec_l12Conf : Con := ⟨[.r (.val y0)], .one y10, fun x => F.spec_l12Conf x.1⟩
def L.spec_l12Conf : Loops := fun _ => none
noncomputable def K.spec_l12Conf : Cons := lookK []
theorem run.spec_l12Conf : ∀ x, runF tb K.spec_l12Conf L.spec_l12Conf [] Tryz.f234 C.spec_l12Conf x = C.spec_l12Conf.fn x := fun x => by kernel_rfl

/-! ### spec.l5Copy: function 189 -/
noncomputable def F.spec_l5Copy (a0 : List DSpan) : Option ((List DSpan)) :=
  chk (fits (List.length (([] : List DSpan)) + List.length a0) 16) <|
  some ((([] : List DSpan)) ++ a0)
noncomputable def C.spec_l5Copy : Con := ⟨[.r (.val (.sl false 150 y1))], .one (.sl true 150 y1), fun x => F.spec_l5Copy x.1⟩
def L.spec_l5Copy : Loops := fun _ => none
noncomputable def K.spec_l5Copy : Cons := lookK []
theorem run.spec_l5Copy : ∀ x, runF tb K.spec_l5Copy L.spec_l5Copy [] Tryz.f189 C.spec_l5Copy x = C.spec_l5Copy.fn x := fun x => by kernel_rfl

/-! ### spec.l9Copy: function 235 -/
noncomputable def F.spec_l9Copy (a0 : DSeat) : Option DSeat :=
  (F.spec_l5Copy a0.2.2.1).bind fun r1 =>
  some (a0.1, a0.2.1, r1, a0.2.2.2)
noncomputable def C.spec_l9Copy : Con := ⟨[.r (.val y19)], .one y11, fun x => F.spec_l9Copy x.1⟩
def L.spec_l9Copy : Loops := fun _ => none
noncomputable def K.spec_l9Copy : Cons := lookK [(189, [], C.spec_l5Copy)]
theorem run.spec_l9Copy : ∀ x, runF tb K.spec_l9Copy L.spec_l9Copy [] Tryz.f235 C.spec_l9Copy x = C.spec_l9Copy.fn x := fun x => by kernel_rfl

/-! ### spec.l3Copy: function 190 -/
noncomputable def F.spec_l3Copy.s6 : (Int × DSketch × DSketch × DSketch × Unit) → Option (Lp (Int × DSketch × DSketch × DSketch × Unit) DSketch) := fun (x1, x2, x3, x4, _) =>
  bif decide (x1 < (len x2.2.2.2.2.2.2.1)) then
    chk (inb x1 (List.length x2.2.2.2.2.2.2.1)) <|
    chk (fits (List.length (([] : List Int)) + List.length (List.getD x2.2.2.2.2.2.2.1 ((Int.toNat x1)) ([]))) 8) <|
    chk (fits (List.length x4.2.2.2.2.2.2.1 + List.length ([(([] : List Int)) ++ (List.getD x2.2.2.2.2.2.2.1 ((Int.toNat x1)) ([]))])) 24) <|
    some (.again (w64 (x1 + 1), x2, x3, (x4.1, x4.2.1, x4.2.2.1, x4.2.2.2.1, x4.2.2.2.2.1, x4.2.2.2.2.2.1, x4.2.2.2.2.2.2.1 ++ ([(([] : List Int)) ++ (List.getD x2.2.2.2.2.2.2.1 ((Int.toNat x1)) ([]))]), x4.2.2.2.2.2.2.2), ()))
  else
    some (.exit (x1, x2, x3, x4, ()))
noncomputable def F.spec_l3Copy (a0 : DSketch) : Option DSketch :=
  chk (fits (List.length (([] : List Int)) + List.length a0.2.2.2.2.1) 8) <|
  chk (fits (List.length (([] : List Int)) + List.length a0.2.2.2.2.2.1) 8) <|
  afterO (loopO F.spec_l3Copy.s6 (0, a0, (0, 0, 0, 0, ([] : List Int), ([] : List Int), ([] : List (List Int)), ()), (a0.1, a0.2.1, a0.2.2.1, a0.2.2.2.1, (([] : List Int)) ++ a0.2.2.2.2.1, (([] : List Int)) ++ a0.2.2.2.2.2.1, ([] : List (List Int)), a0.2.2.2.2.2.2.2), ())) fun (x5, x6, x7, x8, _) =>
  some x8
noncomputable def C.spec_l3Copy : Con := ⟨[.r (.val y3)], .one y12, fun x => F.spec_l3Copy x.1⟩
def L.spec_l3Copy : Loops := lookL [(6, ⟨[.pat 4 (.val (.int .i64)), .root 1 true y3 [1], .root 2 true y12 [2], .root 3 true y12 [3]], 0⟩)]
noncomputable def K.spec_l3Copy : Cons := lookK []
theorem run.spec_l3Copy : ∀ x, runF tb K.spec_l3Copy L.spec_l3Copy [] Tryz.f190 C.spec_l3Copy x = C.spec_l3Copy.fn x := fun x => by kernel_rfl

/-! ### spec.l6Copy: function 75 -/
noncomputable def F.spec_l6Copy (a0 : DEntry) : Option DEntry :=
  (F.spec_l5Copy a0.2.2.1).bind fun r1 =>
  (F.spec_l3Copy a0.2.2.2.1).bind fun r2 =>
  some (a0.1, a0.2.1, r1, r2, ())
noncomputable def C.spec_l6Copy : Con := ⟨[.r (.val y20)], .one y13, fun x => F.spec_l6Copy x.1⟩
def L.spec_l6Copy : Loops := fun _ => none
noncomputable def K.spec_l6Copy : Cons := lookK [(189, [], C.spec_l5Copy), (190, [], C.spec_l3Copy)]
theorem run.spec_l6Copy : ∀ x, runF tb K.spec_l6Copy L.spec_l6Copy [] Tryz.f75 C.spec_l6Copy x = C.spec_l6Copy.fn x := fun x => by kernel_rfl

/-! ### spec.l10Copy: function 236 -/
noncomputable def F.spec_l10Copy.s3 : (Int × DRow × DRow × DRow × Unit) → Option (Lp (Int × DRow × DRow × DRow × Unit) DRow) := fun (x1, x2, x3, x4, _) =>
  bif decide (x1 < (len x2.1)) then
    chk (inb x1 (List.length x2.1)) <|
    (F.spec_l6Copy (List.getD x2.1 ((Int.toNat x1)) ((0, 0, [], (0, 0, 0, 0, [], [], [], ()), ())))).bind fun r5 =>
    chk (fits (List.length x4.1 + List.length ([r5])) 144) <|
    some (.again (w64 (x1 + 1), x2, x3, (x4.1 ++ ([r5]), x4.2), ()))
  else
    some (.exit (x1, x2, x3, x4, ()))
noncomputable def F.spec_l10Copy (a0 : DRow) : Option DRow :=
  afterO (loopO F.spec_l10Copy.s3 (0, a0, (([] : List DEntry), ()), (([] : List DEntry), ()), ())) fun (x6, x7, x8, x9, _) =>
  some x9
noncomputable def C.spec_l10Copy : Con := ⟨[.r (.val (.cons (.sl false 31 y20) .nil))], .one (.cons (.sl true 31 y13) .nil), fun x => F.spec_l10Copy x.1⟩
def L.spec_l10Copy : Loops := lookL [(3, ⟨[.pat 4 (.val (.int .i64)), .root 1 true (.cons (.sl false 31 y20) .nil) [1], .root 2 true (.cons (.sl true 31 y13) .nil) [2], .root 3 true (.cons (.sl true 31 y13) .nil) [3]], 0⟩)]
noncomputable def K.spec_l10Copy : Cons := lookK [(75, [], C.spec_l6Copy)]
theorem run.spec_l10Copy : ∀ x, runF tb K.spec_l10Copy L.spec_l10Copy [] Tryz.f236 C.spec_l10Copy x = C.spec_l10Copy.fn x := fun x => by kernel_rfl

/-! ### spec.l11Copy: function 237 -/
noncomputable def F.spec_l11Copy (a0 : DTurn) : Option DTurn :=
  chk (fits (List.length (([] : List Int)) + List.length a0.2.2.1) 8) <|
  some (a0.1, a0.2.1, (([] : List Int)) ++ a0.2.2.1, ())
noncomputable def C.spec_l11Copy : Con := ⟨[.r (.val y5)], .one y14, fun x => F.spec_l11Copy x.1⟩
def L.spec_l11Copy : Loops := fun _ => none
noncomputable def K.spec_l11Copy : Cons := lookK []
theorem run.spec_l11Copy : ∀ x, runF tb K.spec_l11Copy L.spec_l11Copy [] Tryz.f237 C.spec_l11Copy x = C.spec_l11Copy.fn x := fun x => by kernel_rfl

/-! ### spec.l12Copy: function 136 -/
noncomputable def F.spec_l12Copy.s3 : (Int × DHouse × DHouse × DHouse × Unit) → Option (Lp (Int × DHouse × DHouse × DHouse × Unit) DHouse) := fun (x2, x3, x4, x5, _) =>
  bif decide (x2 < (len x3.2.2.2.1)) then
    chk (inb x2 (List.length x3.2.2.2.1)) <|
    (F.spec_l9Copy (List.getD x3.2.2.2.1 ((Int.toNat x2)) ((0, 0, [], 0, 0, ())))).bind fun r6 =>
    chk (fits (List.length x5.2.2.2.1 + List.length ([r6])) 56) <|
    some (.again (w64 (x2 + 1), x3, x4, (x5.1, x5.2.1, x5.2.2.1, x5.2.2.2.1 ++ ([r6]), x5.2.2.2.2), ()))
  else
    some (.exit (x2, x3, x4, x5, ()))
noncomputable def F.spec_l12Copy.s11 : (Int × (List DRow) × Int × DHouse × DHouse × DHouse × Unit) → Option (Lp (Int × (List DRow) × Int × DHouse × DHouse × DHouse × Unit) (Lp (Int × DHouse × DHouse × DHouse × Unit) DHouse)) := fun (x15, x16, x17, x18, x19, x20, _) =>
  chk (inb x15 (List.length x18.2.2.2.2.1)) <|
  bif decide (x17 < (len (List.getD x18.2.2.2.2.1 ((Int.toNat x15)) ([])))) then
    chk (inb x15 (List.length x18.2.2.2.2.1)) <|
    chk (inb x17 (List.length (List.getD x18.2.2.2.2.1 ((Int.toNat x15)) ([])))) <|
    (F.spec_l10Copy (List.getD (List.getD x18.2.2.2.2.1 ((Int.toNat x15)) ([])) ((Int.toNat x17)) (([], ())))).bind fun r21 =>
    chk (fits (List.length x16 + List.length ([r21])) 24) <|
    some (.again (x15, x16 ++ ([r21]), w64 (x17 + 1), x18, x19, x20, ()))
  else
    some (.exit (x15, x16, x17, x18, x19, x20, ()))
noncomputable def F.spec_l12Copy.s7 : (Int × DHouse × DHouse × DHouse × Unit) → Option (Lp (Int × DHouse × DHouse × DHouse × Unit) DHouse) := fun (x11, x12, x13, x14, _) =>
  bif decide (x11 < (len x12.2.2.2.2.1)) then
    afterO (loopO F.spec_l12Copy.s11 (x11, ([] : List DRow), 0, x12, x13, x14, ())) fun (x22, x23, x24, x25, x26, x27, _) =>
    chk (fits (List.length x27.2.2.2.2.1 + List.length ([x23])) 24) <|
    some (.again (w64 (x22 + 1), x25, x26, (x27.1, x27.2.1, x27.2.2.1, x27.2.2.2.1, x27.2.2.2.2.1 ++ ([x23]), x27.2.2.2.2.2), ()))
  else
    some (.exit (x11, x12, x13, x14, ()))
noncomputable def F.spec_l12Copy.s16 : (Int × DHouse × DHouse × DHouse × Unit) → Option (Lp (Int × DHouse × DHouse × DHouse × Unit) DHouse) := fun (x32, x33, x34, x35, _) =>
  bif decide (x32 < (len x33.2.2.2.2.2.1)) then
    chk (inb x32 (List.length x33.2.2.2.2.2.1)) <|
    (F.spec_l11Copy (List.getD x33.2.2.2.2.2.1 ((Int.toNat x32)) ((0, false, [], ())))).bind fun r36 =>
    chk (fits (List.length x35.2.2.2.2.2.1 + List.length ([r36])) 40) <|
    some (.again (w64 (x32 + 1), x33, x34, (x35.1, x35.2.1, x35.2.2.1, x35.2.2.2.1, x35.2.2.2.2.1, x35.2.2.2.2.2.1 ++ ([r36]), x35.2.2.2.2.2.2), ()))
  else
    some (.exit (x32, x33, x34, x35, ()))
noncomputable def F.spec_l12Copy.s20 : (Int × DHouse × DHouse × DHouse × Unit) → Option (Lp (Int × DHouse × DHouse × DHouse × Unit) DHouse) := fun (x41, x42, x43, x44, _) =>
  bif decide (x41 < (len x42.2.2.2.2.2.2.2.1)) then
    chk (inb x41 (List.length x42.2.2.2.2.2.2.2.1)) <|
    (F.spec_l6Copy (List.getD x42.2.2.2.2.2.2.2.1 ((Int.toNat x41)) ((0, 0, [], (0, 0, 0, 0, [], [], [], ()), ())))).bind fun r45 =>
    chk (fits (List.length x44.2.2.2.2.2.2.2.1 + List.length ([r45])) 144) <|
    some (.again (w64 (x41 + 1), x42, x43, (x44.1, x44.2.1, x44.2.2.1, x44.2.2.2.1, x44.2.2.2.2.1, x44.2.2.2.2.2.1, x44.2.2.2.2.2.2.1, x44.2.2.2.2.2.2.2.1 ++ ([r45]), x44.2.2.2.2.2.2.2.2), ()))
  else
    some (.exit (x41, x42, x43, x44, ()))
noncomputable def F.spec_l12Copy.s24 : (Int × DHouse × DHouse × DHouse × Unit) → Option (Lp (Int × DHouse × DHouse × DHouse × Unit) DHouse) := fun (x50, x51, x52, x53, _) =>
  bif decide (x50 < (len x51.2.2.2.2.2.2.2.2.1)) then
    chk (inb x50 (List.length x51.2.2.2.2.2.2.2.2.1)) <|
    chk (inb x50 (List.length x51.2.2.2.2.2.2.2.2.1)) <|
    (F.spec_l6Copy (((List.getD x51.2.2.2.2.2.2.2.2.1 ((Int.toNat x50)) ((0, (0, 0, [], (0, 0, 0, 0, [], [], [], ()), ()), ()))).2).1)).bind fun r54 =>
    chk (fits (List.length x53.2.2.2.2.2.2.2.2.1 + List.length ([((List.getD x51.2.2.2.2.2.2.2.2.1 ((Int.toNat x50)) ((0, (0, 0, [], (0, 0, 0, 0, [], [], [], ()), ()), ()))).1, r54, ())])) 152) <|
    some (.again (w64 (x50 + 1), x51, x52, (x53.1, x53.2.1, x53.2.2.1, x53.2.2.2.1, x53.2.2.2.2.1, x53.2.2.2.2.2.1, x53.2.2.2.2.2.2.1, x53.2.2.2.2.2.2.2.1, x53.2.2.2.2.2.2.2.2.1 ++ ([((List.getD x51.2.2.2.2.2.2.2.2.1 ((Int.toNat x50)) ((0, (0, 0, [], (0, 0, 0, 0, [], [], [], ()), ()), ()))).1, r54, ())]), x53.2.2.2.2.2.2.2.2.2), ()))
  else
    some (.exit (x50, x51, x52, x53, ()))
noncomputable def F.spec_l12Copy (a0 : DHouse) : Option DHouse :=
  (F.spec_l12Conf a0.1).bind fun r1 =>
  afterO (loopO F.spec_l12Copy.s3 (0, a0, ((0, 0, 0, ([] : List Int), 0, 0, 0, 0, ()), 0, false, ([] : List DSeat), ([] : List (List DRow)), ([] : List DTurn), 0, ([] : List DEntry), ([] : List DOut), ()), (r1, a0.2.1, a0.2.2.1, ([] : List DSeat), ([] : List (List DRow)), ([] : List DTurn), a0.2.2.2.2.2.2.1, ([] : List DEntry), ([] : List DOut), ()), ())) fun (x7, x8, x9, x10, _) =>
  afterO (loopO F.spec_l12Copy.s7 (0, x8, x9, x10, ())) fun (x28, x29, x30, x31, _) =>
  afterO (loopO F.spec_l12Copy.s16 (0, x29, x30, x31, ())) fun (x37, x38, x39, x40, _) =>
  afterO (loopO F.spec_l12Copy.s20 (0, x38, x39, x40, ())) fun (x46, x47, x48, x49, _) =>
  afterO (loopO F.spec_l12Copy.s24 (0, x47, x48, x49, ())) fun (x55, x56, x57, x58, _) =>
  some x58
noncomputable def C.spec_l12Copy : Con := ⟨[.r (.val y22)], .one y16, fun x => F.spec_l12Copy x.1⟩
def L.spec_l12Copy : Loops := lookL [(3, ⟨[.pat 4 (.val (.int .i64)), .root 1 true y22 [1], .root 2 true y16 [2], .root 3 true y16 [3]], 0⟩), (11, ⟨[.pat 5 (.val (.int .i64)), .own 6 (.sl true 105 (.cons (.sl true 31 y13) .nil)), .pat 7 (.val (.int .i64)), .root 1 true y22 [1], .root 2 true y16 [2], .root 3 true y16 [3]], 4⟩), (7, ⟨[.pat 5 (.val (.int .i64)), .root 1 true y22 [1], .root 2 true y16 [2], .root 3 true y16 [3]], 2⟩), (16, ⟨[.pat 8 (.val (.int .i64)), .root 1 true y22 [1], .root 2 true y16 [2], .root 3 true y16 [3]], 6⟩), (20, ⟨[.pat 9 (.val (.int .i64)), .root 1 true y22 [1], .root 2 true y16 [2], .root 3 true y16 [3]], 8⟩), (24, ⟨[.pat 10 (.val (.int .i64)), .root 1 true y22 [1], .root 2 true y16 [2], .root 3 true y16 [3]], 10⟩)]
noncomputable def K.spec_l12Copy : Cons := lookK [(75, [], C.spec_l6Copy), (234, [], C.spec_l12Conf), (235, [], C.spec_l9Copy), (236, [], C.spec_l10Copy), (237, [], C.spec_l11Copy)]
theorem run.spec_l12Copy : ∀ x, runF tb K.spec_l12Copy L.spec_l12Copy [] Tryz.f136 C.spec_l12Copy x = C.spec_l12Copy.fn x := fun x => by kernel_rfl

/-! ### spec.l1In: function 121 -/
noncomputable def F.spec_l1In (a0 : Int) (a1 : Int) (a2 : Int) : Option Bool :=
  bif decide (a0 ≥ a1) then
    some (decide (a0 ≤ a2))
  else
    some false
noncomputable def C.spec_l1In : Con := ⟨[.r (.val (.int .i64)), .r (.val (.int .i64)), .r (.val (.int .i64))], .one .bool, fun x => F.spec_l1In x.1 x.2.1 x.2.2.1⟩
def L.spec_l1In : Loops := fun _ => none
noncomputable def K.spec_l1In : Cons := lookK []
theorem run.spec_l1In : ∀ x, runF tb K.spec_l1In L.spec_l1In [] Tryz.f121 C.spec_l1In x = C.spec_l1In.fn x := fun x => by kernel_rfl

/-! ### spec.l11Nums: function 202 -/
noncomputable def F.spec_l11Nums.s4 : ((List Int) × Int × Int × Int × Unit) → Option (Lp ((List Int) × Int × Int × Int × Unit) Bool) := fun (x1, x2, x3, x4, _) =>
  bif decide (x4 < (len x1)) then
    chk (inb x4 (List.length x1)) <|
    (F.spec_l1In (List.getD x1 ((Int.toNat x4)) 0) x2 x3).bind fun r5 =>
    bif !r5 then
      some (.ret false)
    else
      some (.again (x1, x2, x3, w64 (x4 + 1), ()))
  else
    some (.exit (x1, x2, x3, x4, ()))
noncomputable def F.spec_l11Nums (a0 : List Int) (a1 : Int) (a2 : Int) : Option Bool :=
  bif (len a0) != 3 then
    some false
  else
  afterO (loopO F.spec_l11Nums.s4 (a0, a1, a2, 0, ())) fun (x6, x7, x8, x9, _) =>
  some true
noncomputable def C.spec_l11Nums : Con := ⟨[.r (.val (.sl false 3 (.int .i64))), .r (.val (.int .i64)), .r (.val (.int .i64))], .one .bool, fun x => F.spec_l11Nums x.1 x.2.1 x.2.2.1⟩
def L.spec_l11Nums : Loops := lookL [(4, ⟨[.pat 0 (.val (.sl false 3 (.int .i64))), .pat 1 (.val (.int .i64)), .pat 2 (.val (.int .i64)), .pat 7 (.val (.int .i64))], 0⟩)]
noncomputable def K.spec_l11Nums : Cons := lookK [(121, [], C.spec_l1In)]
theorem run.spec_l11Nums : ∀ x, runF tb K.spec_l11Nums L.spec_l11Nums [] Tryz.f202 C.spec_l11Nums x = C.spec_l11Nums.fn x := fun x => by kernel_rfl

/-! ### spec.ConfOk: function 92 -/
noncomputable def F.spec_ConfOk (a0 : DConf) : Option Bool :=
  (F.spec_l1In a0.1 1 8).bind fun r1 =>
  bif r1 then
    (F.spec_l1In a0.2.1 1 60).bind fun r2 =>
    bif r2 then
      (F.spec_l1In a0.2.2.1 1 10).bind fun r3 =>
      bif r3 then
        (F.spec_l11Nums a0.2.2.2.1 1 4).bind fun r4 =>
        bif r4 then
          (F.spec_l1In a0.2.2.2.2.1 1 100).bind fun r5 =>
          bif r5 then
            (F.spec_l1In a0.2.2.2.2.2.1 1 20).bind fun r6 =>
            bif r6 then
              (F.spec_l1In a0.2.2.2.2.2.2.1 0 20).bind fun r7 =>
              bif r7 then
                (F.spec_l1In a0.2.2.2.2.2.2.2.1 1 50).bind fun r8 =>
                some r8
              else
                some false
            else
              some false
          else
            some false
        else
          some false
      else
        some false
    else
      some false
  else
    some false
noncomputable def C.spec_ConfOk : Con := ⟨[.r (.val y0)], .one .bool, fun x => F.spec_ConfOk x.1⟩
def L.spec_ConfOk : Loops := fun _ => none
noncomputable def K.spec_ConfOk : Cons := lookK [(121, [], C.spec_l1In), (202, [], C.spec_l11Nums)]
theorem run.spec_ConfOk : ∀ x, runF tb K.spec_ConfOk L.spec_ConfOk [] Tryz.f92 C.spec_ConfOk x = C.spec_ConfOk.fn x := fun x => by kernel_rfl

/-! ### spec.SetOk: function 186 -/
noncomputable def F.spec_SetOk.s2 : ((List DSpan) × Int × Unit) → Option (Lp ((List DSpan) × Int × Unit) Bool) := fun (x1, x2, _) =>
  bif decide (x2 < (len x1)) then
    chk (inb x2 (List.length x1)) <|
    (F.spec_l1In ((List.getD x1 ((Int.toNat x2)) ((0, 0, ()))).1) 0 9999).bind fun r3 =>
    bif !r3 then
      some (.ret false)
    else
    chk (inb x2 (List.length x1)) <|
    chk (inb x2 (List.length x1)) <|
    (F.spec_l1In (((List.getD x1 ((Int.toNat x2)) ((0, 0, ()))).2).1) ((List.getD x1 ((Int.toNat x2)) ((0, 0, ()))).1) 9999).bind fun r4 =>
    bif !r4 then
      some (.ret false)
    else
    bif decide (x2 > 0) then
      chk (inb x2 (List.length x1)) <|
      chk (inb (w64 (x2 - 1)) (List.length x1)) <|
      bif decide (((List.getD x1 ((Int.toNat x2)) ((0, 0, ()))).1) ≤ (w64 ((((List.getD x1 ((Int.toNat (w64 (x2 - 1)))) ((0, 0, ()))).2).1) + 1))) then
        some (.ret false)
      else
        some (.again (x1, w64 (x2 + 1), ()))
    else
      some (.again (x1, w64 (x2 + 1), ()))
  else
    some (.exit (x1, x2, ()))
noncomputable def F.spec_SetOk (a0 : List DSpan) : Option Bool :=
  afterO (loopO F.spec_SetOk.s2 (a0, 0, ())) fun (x5, x6, _) =>
  some true
noncomputable def C.spec_SetOk : Con := ⟨[.r (.val (.sl false 150 y1))], .one .bool, fun x => F.spec_SetOk x.1⟩
def L.spec_SetOk : Loops := lookL [(2, ⟨[.pat 0 (.val (.sl false 150 y1)), .pat 3 (.val (.int .i64))], 0⟩)]
noncomputable def K.spec_SetOk : Cons := lookK [(121, [], C.spec_l1In)]
theorem run.spec_SetOk : ∀ x, runF tb K.spec_SetOk L.spec_SetOk [] Tryz.f186 C.spec_SetOk x = C.spec_SetOk.fn x := fun x => by kernel_rfl

/-! ### spec.l8Below: function 284 -/
noncomputable def F.spec_l8Below.s4 : ((List DSpan) × Int × Int × Unit) → Option (Lp ((List DSpan) × Int × Int × Unit) Bool) := fun (x2, x3, x4, _) =>
  bif decide (x4 < (len x2)) then
    chk (inb x4 (List.length x2)) <|
    bif decide (((List.getD x2 ((Int.toNat x4)) ((0, 0, ()))).1) < 1) then
      some (.ret false)
    else
    chk (inb x4 (List.length x2)) <|
    bif decide ((((List.getD x2 ((Int.toNat x4)) ((0, 0, ()))).2).1) > x3) then
      some (.ret false)
    else
      some (.again (x2, x3, w64 (x4 + 1), ()))
  else
    some (.exit (x2, x3, x4, ()))
noncomputable def F.spec_l8Below (a0 : List DSpan) (a1 : Int) : Option Bool :=
  (F.spec_SetOk a0).bind fun r1 =>
  bif !r1 then
    some false
  else
  afterO (loopO F.spec_l8Below.s4 (a0, a1, 0, ())) fun (x5, x6, x7, _) =>
  some true
noncomputable def C.spec_l8Below : Con := ⟨[.r (.val (.sl false 150 y1)), .r (.val (.int .i64))], .one .bool, fun x => F.spec_l8Below x.1 x.2.1⟩
def L.spec_l8Below : Loops := lookL [(4, ⟨[.pat 0 (.val (.sl false 150 y1)), .pat 1 (.val (.int .i64)), .pat 5 (.val (.int .i64))], 0⟩)]
noncomputable def K.spec_l8Below : Cons := lookK [(186, [], C.spec_SetOk)]
theorem run.spec_l8Below : ∀ x, runF tb K.spec_l8Below L.spec_l8Below [] Tryz.f284 C.spec_l8Below x = C.spec_l8Below.fn x := fun x => by kernel_rfl

/-! ### spec.SetSize: function 205 -/
noncomputable def F.spec_SetSize.s5 : ((List DSpan) × Int × Int × Unit) → Option (Lp ((List DSpan) × Int × Int × Unit) Int) := fun (x2, x3, x4, _) =>
  bif decide (x4 < (len x2)) then
    chk (inb x4 (List.length x2)) <|
    chk (inb x4 (List.length x2)) <|
    some (.again (x2, w64 ((w64 ((w64 (x3 + (((List.getD x2 ((Int.toNat x4)) ((0, 0, ()))).2).1))) - ((List.getD x2 ((Int.toNat x4)) ((0, 0, ()))).1))) + 1), w64 (x4 + 1), ()))
  else
    some (.exit (x2, x3, x4, ()))
noncomputable def F.spec_SetSize (a0 : List DSpan) : Option Int :=
  (F.spec_SetOk a0).bind fun r1 =>
  bif !r1 then
    some 0
  else
  afterO (loopO F.spec_SetSize.s5 (a0, 0, 0, ())) fun (x5, x6, x7, _) =>
  some x6
noncomputable def C.spec_SetSize : Con := ⟨[.r (.val (.sl false 150 y1))], .one (.int .i64), fun x => F.spec_SetSize x.1⟩
def L.spec_SetSize : Loops := lookL [(5, ⟨[.pat 0 (.val (.sl false 150 y1)), .pat 3 (.val (.int .i64)), .pat 4 (.val (.int .i64))], 0⟩)]
noncomputable def K.spec_SetSize : Cons := lookK [(186, [], C.spec_SetOk)]
theorem run.spec_SetSize : ∀ x, runF tb K.spec_SetSize L.spec_SetSize [] Tryz.f205 C.spec_SetSize x = C.spec_SetSize.fn x := fun x => by kernel_rfl

/-! ### spec.SeatOk: function 203 -/
noncomputable def F.spec_SeatOk (a0 : DSeat) (a1 : Int) : Option Bool :=
  (F.spec_l1In a1 1 8).bind fun r1 =>
  bif r1 then
    (F.spec_l1In a0.1 0 1000).bind fun r2 =>
    bif r2 then
      (F.spec_l1In a0.2.1 0 60).bind fun r3 =>
      bif r3 then
        (F.spec_l8Below a0.2.2.1 a0.2.1).bind fun r4 =>
        bif r4 then
          (F.spec_SetSize a0.2.2.1).bind fun r5 =>
          (F.spec_l1In a0.2.2.2.1 0 r5).bind fun r6 =>
          bif r6 then
            bif decide (a0.2.1 ≤ (w64 (a0.2.2.2.1 + a1))) then
              (F.spec_l1In a0.2.2.2.2.1 0 1000000).bind fun r7 =>
              some r7
            else
              some false
          else
            some false
        else
          some false
      else
        some false
    else
      some false
  else
    some false
noncomputable def C.spec_SeatOk : Con := ⟨[.r (.val y19), .r (.val (.int .i64))], .one .bool, fun x => F.spec_SeatOk x.1 x.2.1⟩
def L.spec_SeatOk : Loops := fun _ => none
noncomputable def K.spec_SeatOk : Cons := lookK [(121, [], C.spec_l1In), (205, [], C.spec_SetSize), (284, [], C.spec_l8Below)]
theorem run.spec_SeatOk : ∀ x, runF tb K.spec_SeatOk L.spec_SeatOk [] Tryz.f203 C.spec_SeatOk x = C.spec_SeatOk.fn x := fun x => by kernel_rfl

/-! ### spec.l6Place: function 185 -/
noncomputable def F.spec_l6Place (a0 : Int) (a1 : Int) : Option Bool :=
  (F.spec_l1In a0 0 4).bind fun r1 =>
  bif r1 then
    (F.spec_l1In a1 0 20).bind fun r2 =>
    some r2
  else
    some false
noncomputable def C.spec_l6Place : Con := ⟨[.r (.val (.int .i64)), .r (.val (.int .i64))], .one .bool, fun x => F.spec_l6Place x.1 x.2.1⟩
def L.spec_l6Place : Loops := fun _ => none
noncomputable def K.spec_l6Place : Cons := lookK [(121, [], C.spec_l1In)]
theorem run.spec_l6Place : ∀ x, runF tb K.spec_l6Place L.spec_l6Place [] Tryz.f185 C.spec_l6Place x = C.spec_l6Place.fn x := fun x => by kernel_rfl

/-! ### spec.l3List: function 281 -/
noncomputable def F.spec_l3List.s4 : ((List Int) × Int × Int × Bool × Int × Unit) → Option (Lp ((List Int) × Int × Int × Bool × Int × Unit) Bool) := fun (x1, x2, x3, x4, x5, _) =>
  bif decide (x5 < x2) then
    chk (inb x5 (List.length x1)) <|
    (F.spec_l1In (List.getD x1 ((Int.toNat x5)) 0) 0 x3).bind fun r6 =>
    bif !r6 then
      some (.ret false)
    else
    bif x4 then
      chk (inb x5 (List.length x1)) <|
      bif (List.getD x1 ((Int.toNat x5)) 0) != 0 then
        some (.ret false)
      else
        some (.again (x1, x2, x3, x4, w64 (x5 + 1), ()))
    else
      some (.again (x1, x2, x3, x4, w64 (x5 + 1), ()))
  else
    some (.exit (x1, x2, x3, x4, x5, ()))
noncomputable def F.spec_l3List (a0 : List Int) (a1 : Int) (a2 : Int) (a3 : Bool) : Option Bool :=
  bif (len a0) != a1 then
    some false
  else
  afterO (loopO F.spec_l3List.s4 (a0, a1, a2, a3, 0, ())) fun (x7, x8, x9, x10, x11, _) =>
  some true
noncomputable def C.spec_l3List : Con := ⟨[.r (.val (.sl false 3 (.int .i64))), .r (.val (.int .i64)), .r (.val (.int .i64)), .r (.val .bool)], .one .bool, fun x => F.spec_l3List x.1 x.2.1 x.2.2.1 x.2.2.2.1⟩
def L.spec_l3List : Loops := lookL [(4, ⟨[.pat 0 (.val (.sl false 3 (.int .i64))), .pat 1 (.val (.int .i64)), .pat 2 (.val (.int .i64)), .pat 3 (.val .bool), .pat 9 (.val (.int .i64))], 0⟩)]
noncomputable def K.spec_l3List : Cons := lookK [(121, [], C.spec_l1In)]
theorem run.spec_l3List : ∀ x, runF tb K.spec_l3List L.spec_l3List [] Tryz.f281 C.spec_l3List x = C.spec_l3List.fn x := fun x => by kernel_rfl

/-! ### spec.SketchOk: function 187 -/
noncomputable def F.spec_SketchOk (a0 : DSketch) : Option Bool :=
  (F.spec_l1In a0.1 0 1000000000).bind fun r1 =>
  bif !r1 then
    some false
  else
  (F.spec_l1In a0.2.1 0 1000000000).bind fun r2 =>
  bif !r2 then
    some false
  else
  (F.spec_l1In a0.2.2.1 0 1000000).bind fun r3 =>
  bif !r3 then
    some false
  else
  (F.spec_l1In a0.2.2.2.1 0 1000000).bind fun r4 =>
  bif !r4 then
    some false
  else
  bif decide (a0.2.2.1 > a0.2.2.2.1) then
    some false
  else
  bif (len a0.2.2.2.2.2.2.1) != 2 then
    some false
  else
  bif a0.1 == 0 then
    bif a0.2.1 != 0 then
      some false
    else
    bif a0.2.2.2.1 != 0 then
      some false
    else
    (F.spec_l3List a0.2.2.2.2.1 8 1000000000 (a0.1 == 0)).bind fun r5 =>
    bif r5 then
      (F.spec_l3List a0.2.2.2.2.2.1 8 17 (a0.1 == 0)).bind fun r6 =>
      bif r6 then
        chk (inb 0 (List.length a0.2.2.2.2.2.2.1)) <|
        (F.spec_l3List (List.getD a0.2.2.2.2.2.2.1 0 ([])) 4 1000000000 (a0.1 == 0)).bind fun r7 =>
        bif r7 then
          chk (inb 1 (List.length a0.2.2.2.2.2.2.1)) <|
          (F.spec_l3List (List.getD a0.2.2.2.2.2.2.1 1 ([])) 4 1000000000 (a0.1 == 0)).bind fun r8 =>
          some r8
        else
          some false
      else
        some false
    else
      some false
  else
  (F.spec_l3List a0.2.2.2.2.1 8 1000000000 (a0.1 == 0)).bind fun r9 =>
  bif r9 then
    (F.spec_l3List a0.2.2.2.2.2.1 8 17 (a0.1 == 0)).bind fun r10 =>
    bif r10 then
      chk (inb 0 (List.length a0.2.2.2.2.2.2.1)) <|
      (F.spec_l3List (List.getD a0.2.2.2.2.2.2.1 0 ([])) 4 1000000000 (a0.1 == 0)).bind fun r11 =>
      bif r11 then
        chk (inb 1 (List.length a0.2.2.2.2.2.2.1)) <|
        (F.spec_l3List (List.getD a0.2.2.2.2.2.2.1 1 ([])) 4 1000000000 (a0.1 == 0)).bind fun r12 =>
        some r12
      else
        some false
    else
      some false
  else
    some false
noncomputable def C.spec_SketchOk : Con := ⟨[.r (.val y3)], .one .bool, fun x => F.spec_SketchOk x.1⟩
def L.spec_SketchOk : Loops := fun _ => none
noncomputable def K.spec_SketchOk : Cons := lookK [(121, [], C.spec_l1In), (281, [], C.spec_l3List)]
theorem run.spec_SketchOk : ∀ x, runF tb K.spec_SketchOk L.spec_SketchOk [] Tryz.f187 C.spec_SketchOk x = C.spec_SketchOk.fn x := fun x => by kernel_rfl

/-! ### spec.EntryOk: function 73 -/
noncomputable def F.spec_EntryOk (a0 : DEntry) : Option Bool :=
  (F.spec_l6Place a0.1 a0.2.1).bind fun r1 =>
  bif r1 then
    bif decide ((len a0.2.2.1) > 0) then
      (F.spec_SetOk a0.2.2.1).bind fun r2 =>
      bif r2 then
        (F.spec_SketchOk a0.2.2.2.1).bind fun r3 =>
        some r3
      else
        some false
    else
      some false
  else
    some false
noncomputable def C.spec_EntryOk : Con := ⟨[.r (.val y20)], .one .bool, fun x => F.spec_EntryOk x.1⟩
def L.spec_EntryOk : Loops := fun _ => none
noncomputable def K.spec_EntryOk : Cons := lookK [(185, [], C.spec_l6Place), (186, [], C.spec_SetOk), (187, [], C.spec_SketchOk)]
theorem run.spec_EntryOk : ∀ x, runF tb K.spec_EntryOk L.spec_EntryOk [] Tryz.f73 C.spec_EntryOk x = C.spec_EntryOk.fn x := fun x => by kernel_rfl

/-! ### spec.SetApart: function 96 -/
noncomputable def F.spec_SetApart.s7 : ((List DSpan) × (List DSpan) × Int × Int × Unit) → Option (Lp ((List DSpan) × (List DSpan) × Int × Int × Unit) (Lp ((List DSpan) × (List DSpan) × Int × Unit) Bool)) := fun (x6, x7, x8, x9, _) =>
  bif decide (x9 < (len x7)) then
    chk (inb x8 (List.length x6)) <|
    chk (inb x9 (List.length x7)) <|
    bif decide (((List.getD x6 ((Int.toNat x8)) ((0, 0, ()))).1) ≤ (((List.getD x7 ((Int.toNat x9)) ((0, 0, ()))).2).1)) then
      chk (inb x9 (List.length x7)) <|
      chk (inb x8 (List.length x6)) <|
      bif decide (((List.getD x7 ((Int.toNat x9)) ((0, 0, ()))).1) ≤ (((List.getD x6 ((Int.toNat x8)) ((0, 0, ()))).2).1)) then
        some (.ret (.ret false))
      else
        some (.again (x6, x7, x8, w64 (x9 + 1), ()))
    else
      some (.again (x6, x7, x8, w64 (x9 + 1), ()))
  else
    some (.exit (x6, x7, x8, x9, ()))
noncomputable def F.spec_SetApart.s4 : ((List DSpan) × (List DSpan) × Int × Unit) → Option (Lp ((List DSpan) × (List DSpan) × Int × Unit) Bool) := fun (x3, x4, x5, _) =>
  bif decide (x5 < (len x3)) then
    afterO (loopO F.spec_SetApart.s7 (x3, x4, x5, 0, ())) fun (x10, x11, x12, x13, _) =>
    some (.again (x10, x11, w64 (x12 + 1), ()))
  else
    some (.exit (x3, x4, x5, ()))
noncomputable def F.spec_SetApart (a0 : List DSpan) (a1 : List DSpan) : Option Bool :=
  (F.spec_SetOk a0).bind fun r1 =>
  bif !r1 then
    some false
  else
  (F.spec_SetOk a1).bind fun r2 =>
  bif !r2 then
    some false
  else
  afterO (loopO F.spec_SetApart.s4 (a0, a1, 0, ())) fun (x14, x15, x16, _) =>
  some true
noncomputable def C.spec_SetApart : Con := ⟨[.r (.val (.sl false 150 y1)), .r (.val (.sl false 150 y1))], .one .bool, fun x => F.spec_SetApart x.1 x.2.1⟩
def L.spec_SetApart : Loops := lookL [(7, ⟨[.pat 0 (.val (.sl false 150 y1)), .pat 1 (.val (.sl false 150 y1)), .pat 5 (.val (.int .i64)), .pat 6 (.val (.int .i64))], 2⟩), (4, ⟨[.pat 0 (.val (.sl false 150 y1)), .pat 1 (.val (.sl false 150 y1)), .pat 5 (.val (.int .i64))], 0⟩)]
noncomputable def K.spec_SetApart : Cons := lookK [(186, [], C.spec_SetOk)]
theorem run.spec_SetApart : ∀ x, runF tb K.spec_SetApart L.spec_SetApart [] Tryz.f96 C.spec_SetApart x = C.spec_SetApart.fn x := fun x => by kernel_rfl

/-! ### spec.RowOk: function 168 -/
noncomputable def F.spec_RowOk.s9 : (Int × Int × DRow × Unit) → Option (Lp (Int × Int × DRow × Unit) (Lp (Int × DRow × Unit) Bool)) := fun (x4, x5, x6, _) =>
  bif decide (x5 < x4) then
    chk (inb x4 (List.length x6.1)) <|
    chk (inb x5 (List.length x6.1)) <|
    (F.spec_SetApart ((((List.getD x6.1 ((Int.toNat x4)) ((0, 0, [], (0, 0, 0, 0, [], [], [], ()), ()))).2).2).1) ((((List.getD x6.1 ((Int.toNat x5)) ((0, 0, [], (0, 0, 0, 0, [], [], [], ()), ()))).2).2).1)).bind fun r7 =>
    bif !r7 then
      some (.ret (.ret false))
    else
      some (.again (x4, w64 (x5 + 1), x6, ()))
  else
    some (.exit (x4, x5, x6, ()))
noncomputable def F.spec_RowOk.s4 : (Int × DRow × Unit) → Option (Lp (Int × DRow × Unit) Bool) := fun (x1, x2, _) =>
  bif decide (x1 < (len x2.1)) then
    chk (inb x1 (List.length x2.1)) <|
    (F.spec_EntryOk (List.getD x2.1 ((Int.toNat x1)) ((0, 0, [], (0, 0, 0, 0, [], [], [], ()), ())))).bind fun r3 =>
    bif !r3 then
      some (.ret false)
    else
    afterO (loopO F.spec_RowOk.s9 (x1, 0, x2, ())) fun (x8, x9, x10, _) =>
    some (.again (w64 (x8 + 1), x10, ()))
  else
    some (.exit (x1, x2, ()))
noncomputable def F.spec_RowOk (a0 : DRow) : Option Bool :=
  bif decide ((len a0.1) > 24) then
    some false
  else
  afterO (loopO F.spec_RowOk.s4 (0, a0, ())) fun (x11, x12, _) =>
  some true
noncomputable def C.spec_RowOk : Con := ⟨[.r (.val (.cons (.sl false 31 y20) .nil))], .one .bool, fun x => F.spec_RowOk x.1⟩
def L.spec_RowOk : Loops := lookL [(9, ⟨[.pat 3 (.val (.int .i64)), .pat 4 (.val (.int .i64)), .root 1 true (.cons (.sl false 31 y20) .nil) [1]], 2⟩), (4, ⟨[.pat 3 (.val (.int .i64)), .root 1 true (.cons (.sl false 31 y20) .nil) [1]], 0⟩)]
noncomputable def K.spec_RowOk : Cons := lookK [(73, [], C.spec_EntryOk), (96, [], C.spec_SetApart)]
theorem run.spec_RowOk : ∀ x, runF tb K.spec_RowOk L.spec_RowOk [] Tryz.f168 C.spec_RowOk x = C.spec_RowOk.fn x := fun x => by kernel_rfl

/-! ### spec.l1Min: function 210 -/
noncomputable def F.spec_l1Min (a0 : Int) (a1 : Int) : Option Int :=
  bif decide (a0 < a1) then
    some a0
  else
    some a1
noncomputable def C.spec_l1Min : Con := ⟨[.r (.val (.int .i64)), .r (.val (.int .i64))], .one (.int .i64), fun x => F.spec_l1Min x.1 x.2.1⟩
def L.spec_l1Min : Loops := fun _ => none
noncomputable def K.spec_l1Min : Cons := lookK []
theorem run.spec_l1Min : ∀ x, runF tb K.spec_l1Min L.spec_l1Min [] Tryz.f210 C.spec_l1Min x = C.spec_l1Min.fn x := fun x => by kernel_rfl

/-! ### spec.l1Max: function 209 -/
noncomputable def F.spec_l1Max (a0 : Int) (a1 : Int) : Option Int :=
  bif decide (a0 > a1) then
    some a0
  else
    some a1
noncomputable def C.spec_l1Max : Con := ⟨[.r (.val (.int .i64)), .r (.val (.int .i64))], .one (.int .i64), fun x => F.spec_l1Max x.1 x.2.1⟩
def L.spec_l1Max : Loops := fun _ => none
noncomputable def K.spec_l1Max : Cons := lookK []
theorem run.spec_l1Max : ∀ x, runF tb K.spec_l1Max L.spec_l1Max [] Tryz.f209 C.spec_l1Max x = C.spec_l1Max.fn x := fun x => by kernel_rfl

/-! ### spec.l5Put: function 208 -/
noncomputable def F.spec_l5Put.s4 : ((List DSpan) × (List DSpan) × Bool × Int × DSpan × Unit) → Option (Lp ((List DSpan) × (List DSpan) × Bool × Int × DSpan × Unit) ((List DSpan))) := fun (x1, x2, x3, x4, x5, _) =>
  bif decide (x4 < (len x1)) then
    chk (inb x4 (List.length x1)) <|
    bif decide ((w64 ((((List.getD x1 ((Int.toNat x4)) ((0, 0, ()))).2).1) + 1)) < x5.1) then
      chk (inb x4 (List.length x1)) <|
      chk (fits (List.length x2 + List.length ([List.getD x1 ((Int.toNat x4)) ((0, 0, ()))])) 16) <|
      some (.again (x1, x2 ++ ([List.getD x1 ((Int.toNat x4)) ((0, 0, ()))]), x3, w64 (x4 + 1), x5, ()))
    else
    chk (inb x4 (List.length x1)) <|
    bif decide (((List.getD x1 ((Int.toNat x4)) ((0, 0, ()))).1) > (w64 (x5.2.1 + 1))) then
      bif !x3 then
        chk (fits (List.length x2 + List.length ([x5])) 16) <|
        chk (inb x4 (List.length x1)) <|
        chk (fits (List.length (x2 ++ ([x5])) + List.length ([List.getD x1 ((Int.toNat x4)) ((0, 0, ()))])) 16) <|
        some (.again (x1, (x2 ++ ([x5])) ++ ([List.getD x1 ((Int.toNat x4)) ((0, 0, ()))]), true, w64 (x4 + 1), x5, ()))
      else
      chk (inb x4 (List.length x1)) <|
      chk (fits (List.length x2 + List.length ([List.getD x1 ((Int.toNat x4)) ((0, 0, ()))])) 16) <|
      some (.again (x1, x2 ++ ([List.getD x1 ((Int.toNat x4)) ((0, 0, ()))]), x3, w64 (x4 + 1), x5, ()))
    else
    chk (inb x4 (List.length x1)) <|
    (F.spec_l1Min x5.1 ((List.getD x1 ((Int.toNat x4)) ((0, 0, ()))).1)).bind fun r6 =>
    chk (inb x4 (List.length x1)) <|
    (F.spec_l1Max x5.2.1 (((List.getD x1 ((Int.toNat x4)) ((0, 0, ()))).2).1)).bind fun r7 =>
    some (.again (x1, x2, x3, w64 (x4 + 1), (r6, r7, ()), ()))
  else
    some (.exit (x1, x2, x3, x4, x5, ()))
noncomputable def F.spec_l5Put (a0 : List DSpan) (a1 : DSpan) : Option ((List DSpan)) :=
  afterO (loopO F.spec_l5Put.s4 (a0, ([] : List DSpan), false, 0, a1, ())) fun (x8, x9, x10, x11, x12, _) =>
  bif !x10 then
    chk (fits (List.length x9 + List.length ([x12])) 16) <|
    some (x9 ++ ([x12]))
  else
    some x9
noncomputable def C.spec_l5Put : Con := ⟨[.r (.val (.sl false 150 y1)), .r (.val y1)], .one (.sl true 150 y1), fun x => F.spec_l5Put x.1 x.2.1⟩
def L.spec_l5Put : Loops := lookL [(4, ⟨[.pat 0 (.val (.sl false 150 y1)), .own 5 (.sl true 150 y1), .pat 6 (.val .bool), .pat 7 (.val (.int .i64)), .root 3 true y1 [3]], 0⟩)]
noncomputable def K.spec_l5Put : Cons := lookK [(209, [], C.spec_l1Max), (210, [], C.spec_l1Min)]
theorem run.spec_l5Put : ∀ x, runF tb K.spec_l5Put L.spec_l5Put [] Tryz.f208 C.spec_l5Put x = C.spec_l5Put.fn x := fun x => by kernel_rfl

/-! ### spec.l5Join: function 97 -/
noncomputable def F.spec_l5Join.s3 : ((List DSpan) × (List DSpan) × Int × Unit) → Option (Lp ((List DSpan) × (List DSpan) × Int × Unit) ((List DSpan))) := fun (x2, x3, x4, _) =>
  bif decide (x4 < (len x2)) then
    chk (inb x4 (List.length x2)) <|
    (F.spec_l5Put x3 (List.getD x2 ((Int.toNat x4)) ((0, 0, ())))).bind fun r5 =>
    some (.again (x2, r5, w64 (x4 + 1), ()))
  else
    some (.exit (x2, x3, x4, ()))
noncomputable def F.spec_l5Join (a0 : List DSpan) (a1 : List DSpan) : Option ((List DSpan)) :=
  (F.spec_l5Copy a0).bind fun r1 =>
  afterO (loopO F.spec_l5Join.s3 (a1, r1, 0, ())) fun (x6, x7, x8, _) =>
  some x7
noncomputable def C.spec_l5Join : Con := ⟨[.r (.val (.sl false 150 y1)), .r (.val (.sl false 150 y1))], .one (.sl true 150 y1), fun x => F.spec_l5Join x.1 x.2.1⟩
def L.spec_l5Join : Loops := lookL [(3, ⟨[.pat 1 (.val (.sl false 150 y1)), .own 5 (.sl true 150 y1), .pat 6 (.val (.int .i64))], 0⟩)]
noncomputable def K.spec_l5Join : Cons := lookK [(189, [], C.spec_l5Copy), (208, [], C.spec_l5Put)]
theorem run.spec_l5Join : ∀ x, runF tb K.spec_l5Join L.spec_l5Join [] Tryz.f97 C.spec_l5Join x = C.spec_l5Join.fn x := fun x => by kernel_rfl

/-! ### spec.RowIds: function 204 -/
noncomputable def F.spec_RowIds.s5 : ((List DSpan) × Int × DRow × Unit) → Option (Lp ((List DSpan) × Int × DRow × Unit) ((List DSpan))) := fun (x2, x3, x4, _) =>
  bif decide (x3 < (len x4.1)) then
    chk (inb x3 (List.length x4.1)) <|
    (F.spec_l5Join x2 ((((List.getD x4.1 ((Int.toNat x3)) ((0, 0, [], (0, 0, 0, 0, [], [], [], ()), ()))).2).2).1)).bind fun r5 =>
    some (.again (r5, w64 (x3 + 1), x4, ()))
  else
    some (.exit (x2, x3, x4, ()))
noncomputable def F.spec_RowIds (a0 : DRow) : Option ((List DSpan)) :=
  (F.spec_RowOk a0).bind fun r1 =>
  bif !r1 then
    some ([] : List DSpan)
  else
  afterO (loopO F.spec_RowIds.s5 (([] : List DSpan), 0, a0, ())) fun (x6, x7, x8, _) =>
  some x6
noncomputable def C.spec_RowIds : Con := ⟨[.r (.val (.cons (.sl false 31 y20) .nil))], .one (.sl true 150 y1), fun x => F.spec_RowIds x.1⟩
def L.spec_RowIds : Loops := lookL [(5, ⟨[.own 3 (.sl true 150 y1), .pat 4 (.val (.int .i64)), .root 1 true (.cons (.sl false 31 y20) .nil) [1]], 0⟩)]
noncomputable def K.spec_RowIds : Cons := lookK [(97, [], C.spec_l5Join), (168, [], C.spec_RowOk)]
theorem run.spec_RowIds : ∀ x, runF tb K.spec_RowIds L.spec_RowIds [] Tryz.f204 C.spec_RowIds x = C.spec_RowIds.fn x := fun x => by kernel_rfl

/-! ### spec.l12Of: function 100 -/
noncomputable def F.spec_l12Of.s3 : ((List DSpan) × Int × Int × Int × Unit) → Option (Lp ((List DSpan) × Int × Int × Int × Unit) Int) := fun (x1, x2, x3, x4, _) =>
  bif decide (x4 < (len x1)) then
    chk (inb x4 (List.length x1)) <|
    (F.spec_l1Max ((List.getD x1 ((Int.toNat x4)) ((0, 0, ()))).1) (w64 ((w64 (100 * x2)) + 1))).bind fun r5 =>
    chk (inb x4 (List.length x1)) <|
    (F.spec_l1Min (((List.getD x1 ((Int.toNat x4)) ((0, 0, ()))).2).1) (w64 ((w64 (100 * x2)) + 60))).bind fun r6 =>
    (F.spec_l1Max (w64 ((w64 (r6 - r5)) + 1)) 0).bind fun r7 =>
    some (.again (x1, x2, w64 (x3 + r7), w64 (x4 + 1), ()))
  else
    some (.exit (x1, x2, x3, x4, ()))
noncomputable def F.spec_l12Of (a0 : List DSpan) (a1 : Int) : Option Int :=
  afterO (loopO F.spec_l12Of.s3 (a0, a1, 0, 0, ())) fun (x8, x9, x10, x11, _) =>
  some x10
noncomputable def C.spec_l12Of : Con := ⟨[.r (.val (.sl false 150 y1)), .r (.val (.int .i64))], .one (.int .i64), fun x => F.spec_l12Of x.1 x.2.1⟩
def L.spec_l12Of : Loops := lookL [(3, ⟨[.pat 0 (.val (.sl false 150 y1)), .pat 1 (.val (.int .i64)), .pat 5 (.val (.int .i64)), .pat 6 (.val (.int .i64))], 0⟩)]
noncomputable def K.spec_l12Of : Cons := lookK [(209, [], C.spec_l1Max), (210, [], C.spec_l1Min)]
theorem run.spec_l12Of : ∀ x, runF tb K.spec_l12Of L.spec_l12Of [] Tryz.f100 C.spec_l12Of x = C.spec_l12Of.fn x := fun x => by kernel_rfl

/-! ### spec.l6Agent: function 130 -/
noncomputable def F.spec_l6Agent (a0 : Int) : Option Bool :=
  (F.spec_l1In a0 0 2).bind fun r1 =>
  some r1
noncomputable def C.spec_l6Agent : Con := ⟨[.r (.val (.int .i64))], .one .bool, fun x => F.spec_l6Agent x.1⟩
def L.spec_l6Agent : Loops := fun _ => none
noncomputable def K.spec_l6Agent : Cons := lookK [(121, [], C.spec_l1In)]
theorem run.spec_l6Agent : ∀ x, runF tb K.spec_l6Agent L.spec_l6Agent [] Tryz.f130 C.spec_l6Agent x = C.spec_l6Agent.fn x := fun x => by kernel_rfl

/-! ### spec.TurnOk: function 206 -/
noncomputable def F.spec_TurnOk (a0 : DTurn) : Option Bool :=
  (F.spec_l6Agent a0.1).bind fun r1 =>
  bif r1 then
    (F.spec_l11Nums a0.2.2.1 0 1000).bind fun r2 =>
    some r2
  else
    some false
noncomputable def C.spec_TurnOk : Con := ⟨[.r (.val y5)], .one .bool, fun x => F.spec_TurnOk x.1⟩
def L.spec_TurnOk : Loops := fun _ => none
noncomputable def K.spec_TurnOk : Cons := lookK [(130, [], C.spec_l6Agent), (202, [], C.spec_l11Nums)]
theorem run.spec_TurnOk : ∀ x, runF tb K.spec_TurnOk L.spec_TurnOk [] Tryz.f206 C.spec_TurnOk x = C.spec_TurnOk.fn x := fun x => by kernel_rfl

/-! ### spec.l12Parts: function 93 -/
noncomputable def F.spec_l12Parts.s9 : (Int × Int × DHouse × Unit) → Option (Lp (Int × Int × DHouse × Unit) (Lp (Int × DHouse × Unit) Bool)) := fun (x6, x7, x8, _) =>
  bif decide (x7 < 2) then
    chk (inb x6 (List.length x8.2.2.2.2.1)) <|
    chk (inb x7 (List.length (List.getD x8.2.2.2.2.1 ((Int.toNat x6)) ([])))) <|
    (F.spec_RowIds (List.getD (List.getD x8.2.2.2.2.1 ((Int.toNat x6)) ([])) ((Int.toNat x7)) (([], ())))).bind fun r9 =>
    chk (inb x6 (List.length x8.2.2.2.2.1)) <|
    chk (inb x7 (List.length (List.getD x8.2.2.2.2.1 ((Int.toNat x6)) ([])))) <|
    (F.spec_RowOk (List.getD (List.getD x8.2.2.2.2.1 ((Int.toNat x6)) ([])) ((Int.toNat x7)) (([], ())))).bind fun r10 =>
    bif !r10 then
      some (.ret (.ret false))
    else
    (F.spec_l12Of r9 x6).bind fun r11 =>
    (F.spec_SetSize r9).bind fun r12 =>
    bif r11 != r12 then
      some (.ret (.ret false))
    else
      some (.again (x6, w64 (x7 + 1), x8, ()))
  else
    some (.exit (x6, x7, x8, ()))
noncomputable def F.spec_l12Parts.s4 : (Int × DHouse × Unit) → Option (Lp (Int × DHouse × Unit) Bool) := fun (x3, x4, _) =>
  bif decide (x3 < 3) then
    chk (inb x3 (List.length x4.2.2.2.1)) <|
    (F.spec_SeatOk (List.getD x4.2.2.2.1 ((Int.toNat x3)) ((0, 0, [], 0, 0, ()))) x4.1.1).bind fun r5 =>
    bif !r5 then
      some (.ret false)
    else
    chk (inb x3 (List.length x4.2.2.2.2.1)) <|
    bif (len (List.getD x4.2.2.2.2.1 ((Int.toNat x3)) ([]))) != 2 then
      some (.ret false)
    else
    afterO (loopO F.spec_l12Parts.s9 (x3, 0, x4, ())) fun (x13, x14, x15, _) =>
    some (.again (w64 (x13 + 1), x15, ()))
  else
    some (.exit (x3, x4, ()))
noncomputable def F.spec_l12Parts.s15 : (Int × DHouse × Unit) → Option (Lp (Int × DHouse × Unit) Bool) := fun (x18, x19, _) =>
  bif decide (x18 < 2) then
    chk (inb x18 (List.length x19.2.2.2.2.2.1)) <|
    (F.spec_TurnOk (List.getD x19.2.2.2.2.2.1 ((Int.toNat x18)) ((0, false, [], ())))).bind fun r20 =>
    bif !r20 then
      some (.ret false)
    else
      some (.again (w64 (x18 + 1), x19, ()))
  else
    some (.exit (x18, x19, ()))
noncomputable def F.spec_l12Parts (a0 : DHouse) : Option Bool :=
  bif (len a0.2.2.2.1) != 3 then
    some false
  else
  bif (len a0.2.2.2.2.1) != 3 then
    some false
  else
  bif (len a0.2.2.2.2.2.1) != 2 then
    some false
  else
  (F.spec_l1In a0.2.2.2.2.2.2.1 0 1000).bind fun r1 =>
  bif !r1 then
    some false
  else
  (F.spec_l1In a0.2.1 0 100000).bind fun r2 =>
  bif !r2 then
    some false
  else
  afterO (loopO F.spec_l12Parts.s4 (0, a0, ())) fun (x16, x17, _) =>
  afterO (loopO F.spec_l12Parts.s15 (0, x17, ())) fun (x21, x22, _) =>
  some true
noncomputable def C.spec_l12Parts : Con := ⟨[.r (.val y22)], .one .bool, fun x => F.spec_l12Parts x.1⟩
def L.spec_l12Parts : Loops := lookL [(9, ⟨[.pat 3 (.val (.int .i64)), .pat 4 (.val (.int .i64)), .root 1 true y22 [1]], 2⟩), (4, ⟨[.pat 3 (.val (.int .i64)), .root 1 true y22 [1]], 0⟩), (15, ⟨[.pat 6 (.val (.int .i64)), .root 1 true y22 [1]], 4⟩)]
noncomputable def K.spec_l12Parts : Cons := lookK [(100, [], C.spec_l12Of), (121, [], C.spec_l1In), (168, [], C.spec_RowOk), (203, [], C.spec_SeatOk), (204, [], C.spec_RowIds), (205, [], C.spec_SetSize), (206, [], C.spec_TurnOk)]
theorem run.spec_l12Parts : ∀ x, runF tb K.spec_l12Parts L.spec_l12Parts [] Tryz.f93 C.spec_l12Parts x = C.spec_l12Parts.fn x := fun x => by kernel_rfl

/-! ### spec.l1Bit: function 285 -/
noncomputable def F.spec_l1Bit (a0 : Bool) : Option Int :=
  bif a0 then
    some 1
  else
    some 0
noncomputable def C.spec_l1Bit : Con := ⟨[.r (.val .bool)], .one (.int .i64), fun x => F.spec_l1Bit x.1⟩
def L.spec_l1Bit : Loops := fun _ => none
noncomputable def K.spec_l1Bit : Cons := lookK []
theorem run.spec_l1Bit : ∀ x, runF tb K.spec_l1Bit L.spec_l1Bit [] Tryz.f285 C.spec_l1Bit x = C.spec_l1Bit.fn x := fun x => by kernel_rfl

/-! ### spec.l12Gen: function 207 -/
noncomputable def F.spec_l12Gen.s3 : ((List DOut) × Int × Int × Int × Int × Unit) → Option (Lp ((List DOut) × Int × Int × Int × Int × Unit) Int) := fun (x1, x2, x3, x4, x5, _) =>
  bif decide (x5 < (len x1)) then
    chk (inb x5 (List.length x1)) <|
    bif ((((List.getD x1 ((Int.toNat x5)) ((0, (0, 0, [], (0, 0, 0, 0, [], [], [], ()), ()), ()))).2).1).1) == x2 then
      chk (inb x5 (List.length x1)) <|
      (F.spec_l1Bit ((((((List.getD x1 ((Int.toNat x5)) ((0, (0, 0, [], (0, 0, 0, 0, [], [], [], ()), ()), ()))).2).1).2).1) == x3)).bind fun r6 =>
      some (.again (x1, x2, x3, w64 (x4 + r6), w64 (x5 + 1), ()))
    else
    (F.spec_l1Bit false).bind fun r7 =>
    some (.again (x1, x2, x3, w64 (x4 + r7), w64 (x5 + 1), ()))
  else
    some (.exit (x1, x2, x3, x4, x5, ()))
noncomputable def F.spec_l12Gen (a0 : List DOut) (a1 : Int) (a2 : Int) : Option Int :=
  afterO (loopO F.spec_l12Gen.s3 (a0, a1, a2, 0, 0, ())) fun (x8, x9, x10, x11, x12, _) =>
  some x11
noncomputable def C.spec_l12Gen : Con := ⟨[.r (.val (.sl false 137 y21)), .r (.val (.int .i64)), .r (.val (.int .i64))], .one (.int .i64), fun x => F.spec_l12Gen x.1 x.2.1 x.2.2.1⟩
def L.spec_l12Gen : Loops := lookL [(3, ⟨[.pat 0 (.val (.sl false 137 y21)), .pat 1 (.val (.int .i64)), .pat 2 (.val (.int .i64)), .pat 7 (.val (.int .i64)), .pat 8 (.val (.int .i64))], 0⟩)]
noncomputable def K.spec_l12Gen : Cons := lookK [(285, [], C.spec_l1Bit)]
theorem run.spec_l12Gen : ∀ x, runF tb K.spec_l12Gen L.spec_l12Gen [] Tryz.f207 C.spec_l12Gen x = C.spec_l12Gen.fn x := fun x => by kernel_rfl

/-! ### spec.l12Root: function 94 -/
noncomputable def F.spec_l12Root.s2 : (Int × DHouse × Unit) → Option (Lp (Int × DHouse × Unit) Bool) := fun (x1, x2, _) =>
  bif decide (x1 < (len x2.2.2.2.2.2.2.2.1)) then
    chk (inb x1 (List.length x2.2.2.2.2.2.2.2.1)) <|
    (F.spec_EntryOk (List.getD x2.2.2.2.2.2.2.2.1 ((Int.toNat x1)) ((0, 0, [], (0, 0, 0, 0, [], [], [], ()), ())))).bind fun r3 =>
    bif !r3 then
      some (.ret false)
    else
    bif decide (x1 > 0) then
      chk (inb (w64 (x1 - 1)) (List.length x2.2.2.2.2.2.2.2.1)) <|
      bif decide (((List.getD x2.2.2.2.2.2.2.2.1 ((Int.toNat x1)) ((0, 0, [], (0, 0, 0, 0, [], [], [], ()), ()))).1) < ((List.getD x2.2.2.2.2.2.2.2.1 ((Int.toNat (w64 (x1 - 1)))) ((0, 0, [], (0, 0, 0, 0, [], [], [], ()), ()))).1)) then
        some (.ret false)
      else
      chk (inb (w64 (x1 - 1)) (List.length x2.2.2.2.2.2.2.2.1)) <|
      bif ((List.getD x2.2.2.2.2.2.2.2.1 ((Int.toNat x1)) ((0, 0, [], (0, 0, 0, 0, [], [], [], ()), ()))).1) == ((List.getD x2.2.2.2.2.2.2.2.1 ((Int.toNat (w64 (x1 - 1)))) ((0, 0, [], (0, 0, 0, 0, [], [], [], ()), ()))).1) then
        chk (inb (w64 (x1 - 1)) (List.length x2.2.2.2.2.2.2.2.1)) <|
        bif decide ((((List.getD x2.2.2.2.2.2.2.2.1 ((Int.toNat x1)) ((0, 0, [], (0, 0, 0, 0, [], [], [], ()), ()))).2).1) ≤ (((List.getD x2.2.2.2.2.2.2.2.1 ((Int.toNat (w64 (x1 - 1)))) ((0, 0, [], (0, 0, 0, 0, [], [], [], ()), ()))).2).1)) then
          some (.ret false)
        else
          some (.again (w64 (x1 + 1), x2, ()))
      else
        some (.again (w64 (x1 + 1), x2, ()))
    else
      some (.again (w64 (x1 + 1), x2, ()))
  else
    some (.exit (x1, x2, ()))
noncomputable def F.spec_l12Root.s10 : (Int × DHouse × Unit) → Option (Lp (Int × DHouse × Unit) Bool) := fun (x6, x7, _) =>
  bif decide (x6 < (len x7.2.2.2.2.2.2.2.2.1)) then
    chk (inb x6 (List.length x7.2.2.2.2.2.2.2.2.1)) <|
    (F.spec_EntryOk (((List.getD x7.2.2.2.2.2.2.2.2.1 ((Int.toNat x6)) ((0, (0, 0, [], (0, 0, 0, 0, [], [], [], ()), ()), ()))).2).1)).bind fun r8 =>
    bif !r8 then
      some (.ret false)
    else
    chk (inb x6 (List.length x7.2.2.2.2.2.2.2.2.1)) <|
    chk (cutOk 0 x6 (List.length x7.2.2.2.2.2.2.2.2.1)) <|
    chk (inb x6 (List.length x7.2.2.2.2.2.2.2.2.1)) <|
    chk (inb x6 (List.length x7.2.2.2.2.2.2.2.2.1)) <|
    (F.spec_l12Gen (List.take ((Int.toNat x6) - 0) (List.drop 0 x7.2.2.2.2.2.2.2.2.1)) ((((List.getD x7.2.2.2.2.2.2.2.2.1 ((Int.toNat x6)) ((0, (0, 0, [], (0, 0, 0, 0, [], [], [], ()), ()), ()))).2).1).1) (((((List.getD x7.2.2.2.2.2.2.2.2.1 ((Int.toNat x6)) ((0, (0, 0, [], (0, 0, 0, 0, [], [], [], ()), ()), ()))).2).1).2).1)).bind fun r9 =>
    bif ((List.getD x7.2.2.2.2.2.2.2.2.1 ((Int.toNat x6)) ((0, (0, 0, [], (0, 0, 0, 0, [], [], [], ()), ()), ()))).1) != r9 then
      some (.ret false)
    else
      some (.again (w64 (x6 + 1), x7, ()))
  else
    some (.exit (x6, x7, ()))
noncomputable def F.spec_l12Root (a0 : DHouse) : Option Bool :=
  afterO (loopO F.spec_l12Root.s2 (0, a0, ())) fun (x4, x5, _) =>
  afterO (loopO F.spec_l12Root.s10 (0, x5, ())) fun (x10, x11, _) =>
  some true
noncomputable def C.spec_l12Root : Con := ⟨[.r (.val y22)], .one .bool, fun x => F.spec_l12Root x.1⟩
def L.spec_l12Root : Loops := lookL [(2, ⟨[.pat 3 (.val (.int .i64)), .root 1 true y22 [1]], 0⟩), (10, ⟨[.pat 5 (.val (.int .i64)), .root 1 true y22 [1]], 2⟩)]
noncomputable def K.spec_l12Root : Cons := lookK [(73, [], C.spec_EntryOk), (207, [], C.spec_l12Gen)]
theorem run.spec_l12Root : ∀ x, runF tb K.spec_l12Root L.spec_l12Root [] Tryz.f94 C.spec_l12Root x = C.spec_l12Root.fn x := fun x => by kernel_rfl

/-! ### spec.l12All: function 95 -/
noncomputable def F.spec_l12All.s6 : ((List DEntry) × Int × Int × DHouse × Unit) → Option (Lp ((List DEntry) × Int × Int × DHouse × Unit) (Lp ((List DEntry) × Int × DHouse × Unit) ((List DEntry)))) := fun (x4, x5, x6, x7, _) =>
  chk (inb x5 (List.length x7.2.2.2.2.1)) <|
  bif decide (x6 < (len (List.getD x7.2.2.2.2.1 ((Int.toNat x5)) ([])))) then
    chk (inb x5 (List.length x7.2.2.2.2.1)) <|
    chk (inb x6 (List.length (List.getD x7.2.2.2.2.1 ((Int.toNat x5)) ([])))) <|
    chk (fits (List.length x4 + List.length ((List.getD (List.getD x7.2.2.2.2.1 ((Int.toNat x5)) ([])) ((Int.toNat x6)) (([], ()))).1)) 144) <|
    some (.again (x4 ++ ((List.getD (List.getD x7.2.2.2.2.1 ((Int.toNat x5)) ([])) ((Int.toNat x6)) (([], ()))).1), x5, w64 (x6 + 1), x7, ()))
  else
    some (.exit (x4, x5, x6, x7, ()))
noncomputable def F.spec_l12All.s3 : ((List DEntry) × Int × DHouse × Unit) → Option (Lp ((List DEntry) × Int × DHouse × Unit) ((List DEntry))) := fun (x1, x2, x3, _) =>
  bif decide (x2 < (len x3.2.2.2.2.1)) then
    afterO (loopO F.spec_l12All.s6 (x1, x2, 0, x3, ())) fun (x8, x9, x10, x11, _) =>
    some (.again (x8, w64 (x9 + 1), x11, ()))
  else
    some (.exit (x1, x2, x3, ()))
noncomputable def F.spec_l12All.s11 : ((List DEntry) × Int × DHouse × Unit) → Option (Lp ((List DEntry) × Int × DHouse × Unit) ((List DEntry))) := fun (x15, x16, x17, _) =>
  bif decide (x16 < (len x17.2.2.2.2.2.2.2.2.1)) then
    chk (inb x16 (List.length x17.2.2.2.2.2.2.2.2.1)) <|
    chk (fits (List.length x15 + List.length ([((List.getD x17.2.2.2.2.2.2.2.2.1 ((Int.toNat x16)) ((0, (0, 0, [], (0, 0, 0, 0, [], [], [], ()), ()), ()))).2).1])) 144) <|
    some (.again (x15 ++ ([((List.getD x17.2.2.2.2.2.2.2.2.1 ((Int.toNat x16)) ((0, (0, 0, [], (0, 0, 0, 0, [], [], [], ()), ()), ()))).2).1]), w64 (x16 + 1), x17, ()))
  else
    some (.exit (x15, x16, x17, ()))
noncomputable def F.spec_l12All (a0 : DHouse) : Option ((List DEntry)) :=
  afterO (loopO F.spec_l12All.s3 (([] : List DEntry), 0, a0, ())) fun (x12, x13, x14, _) =>
  chk (fits (List.length x12 + List.length x14.2.2.2.2.2.2.2.1) 144) <|
  afterO (loopO F.spec_l12All.s11 (x12 ++ x14.2.2.2.2.2.2.2.1, 0, x14, ())) fun (x18, x19, x20, _) =>
  some x18
noncomputable def C.spec_l12All : Con := ⟨[.r (.val y22)], .one (.sl false 31 y20), fun x => F.spec_l12All x.1⟩
def L.spec_l12All : Loops := lookL [(6, ⟨[.own 3 (.sl true 31 y20), .pat 4 (.val (.int .i64)), .pat 5 (.val (.int .i64)), .root 1 true y22 [1]], 2⟩), (3, ⟨[.own 3 (.sl true 31 y20), .pat 4 (.val (.int .i64)), .root 1 true y22 [1]], 0⟩), (11, ⟨[.own 3 (.sl true 31 y20), .pat 6 (.val (.int .i64)), .root 1 true y22 [1]], 4⟩)]
noncomputable def K.spec_l12All : Cons := lookK []
theorem run.spec_l12All : ∀ x, runF tb K.spec_l12All L.spec_l12All [] Tryz.f95 C.spec_l12All x = C.spec_l12All.fn x := fun x => by kernel_rfl

/-! ### spec.l12Taken: function 99 -/
noncomputable def F.spec_l12Taken.s6 : ((List DSpan) × Int × Int × DHouse × Unit) → Option (Lp ((List DSpan) × Int × Int × DHouse × Unit) (Lp ((List DSpan) × Int × DHouse × Unit) ((List DSpan)))) := fun (x4, x5, x6, x7, _) =>
  chk (inb x5 (List.length x7.2.2.2.1)) <|
  bif decide (x6 < (len ((((List.getD x7.2.2.2.1 ((Int.toNat x5)) ((0, 0, [], 0, 0, ()))).2).2).1))) then
    chk (inb x5 (List.length x7.2.2.2.1)) <|
    chk (inb x6 (List.length ((((List.getD x7.2.2.2.1 ((Int.toNat x5)) ((0, 0, [], 0, 0, ()))).2).2).1))) <|
    (F.spec_l5Put x4 ((w64 ((w64 (100 * x5)) + ((List.getD ((((List.getD x7.2.2.2.1 ((Int.toNat x5)) ((0, 0, [], 0, 0, ()))).2).2).1) ((Int.toNat x6)) ((0, 0, ()))).1)), w64 ((w64 (100 * x5)) + (((List.getD ((((List.getD x7.2.2.2.1 ((Int.toNat x5)) ((0, 0, [], 0, 0, ()))).2).2).1) ((Int.toNat x6)) ((0, 0, ()))).2).1)), ()))).bind fun r8 =>
    some (.again (r8, x5, w64 (x6 + 1), x7, ()))
  else
    some (.exit (x4, x5, x6, x7, ()))
noncomputable def F.spec_l12Taken.s3 : ((List DSpan) × Int × DHouse × Unit) → Option (Lp ((List DSpan) × Int × DHouse × Unit) ((List DSpan))) := fun (x1, x2, x3, _) =>
  bif decide (x2 < (len x3.2.2.2.1)) then
    afterO (loopO F.spec_l12Taken.s6 (x1, x2, 0, x3, ())) fun (x9, x10, x11, x12, _) =>
    some (.again (x9, w64 (x10 + 1), x12, ()))
  else
    some (.exit (x1, x2, x3, ()))
noncomputable def F.spec_l12Taken (a0 : DHouse) : Option ((List DSpan)) :=
  afterO (loopO F.spec_l12Taken.s3 (([] : List DSpan), 0, a0, ())) fun (x13, x14, x15, _) =>
  some x13
noncomputable def C.spec_l12Taken : Con := ⟨[.r (.val y22)], .one (.sl true 150 y1), fun x => F.spec_l12Taken x.1⟩
def L.spec_l12Taken : Loops := lookL [(6, ⟨[.own 3 (.sl true 150 y1), .pat 4 (.val (.int .i64)), .pat 5 (.val (.int .i64)), .root 1 true y22 [1]], 2⟩), (3, ⟨[.own 3 (.sl true 150 y1), .pat 4 (.val (.int .i64)), .root 1 true y22 [1]], 0⟩)]
noncomputable def K.spec_l12Taken : Cons := lookK [(208, [], C.spec_l5Put)]
theorem run.spec_l12Taken : ∀ x, runF tb K.spec_l12Taken L.spec_l12Taken [] Tryz.f99 C.spec_l12Taken x = C.spec_l12Taken.fn x := fun x => by kernel_rfl

/-! ### spec.l5Same: function 98 -/
noncomputable def F.spec_l5Same.s4 : ((List DSpan) × (List DSpan) × Int × Unit) → Option (Lp ((List DSpan) × (List DSpan) × Int × Unit) Bool) := fun (x1, x2, x3, _) =>
  bif decide (x3 < (len x1)) then
    chk (inb x3 (List.length x1)) <|
    chk (inb x3 (List.length x2)) <|
    bif !(Ty.eqX (.cons (.int .i64) (.cons (.int .i64) .nil)) (List.getD x1 ((Int.toNat x3)) ((0, 0, ()))) (List.getD x2 ((Int.toNat x3)) ((0, 0, ())))) then
      some (.ret false)
    else
      some (.again (x1, x2, w64 (x3 + 1), ()))
  else
    some (.exit (x1, x2, x3, ()))
noncomputable def F.spec_l5Same (a0 : List DSpan) (a1 : List DSpan) : Option Bool :=
  bif (len a0) != (len a1) then
    some false
  else
  afterO (loopO F.spec_l5Same.s4 (a0, a1, 0, ())) fun (x4, x5, x6, _) =>
  some true
noncomputable def C.spec_l5Same : Con := ⟨[.r (.val (.sl false 150 y1)), .r (.val (.sl false 150 y1))], .one .bool, fun x => F.spec_l5Same x.1 x.2.1⟩
def L.spec_l5Same : Loops := lookL [(4, ⟨[.pat 0 (.val (.sl false 150 y1)), .pat 1 (.val (.sl false 150 y1)), .pat 5 (.val (.int .i64))], 0⟩)]
noncomputable def K.spec_l5Same : Cons := lookK []
theorem run.spec_l5Same : ∀ x, runF tb K.spec_l5Same L.spec_l5Same [] Tryz.f98 C.spec_l5Same x = C.spec_l5Same.fn x := fun x => by kernel_rfl

/-! ### spec.HouseOk: function 26 -/
noncomputable def F.spec_HouseOk.s6 : ((List DSpan) × (List DEntry) × Int × DHouse × Unit) → Option (Lp ((List DSpan) × (List DEntry) × Int × DHouse × Unit) Bool) := fun (x5, x6, x7, x8, _) =>
  bif decide (x7 < (len x6)) then
    chk (inb x7 (List.length x6)) <|
    (F.spec_SetApart x5 ((((List.getD x6 ((Int.toNat x7)) ((0, 0, [], (0, 0, 0, 0, [], [], [], ()), ()))).2).2).1)).bind fun r9 =>
    bif !r9 then
      some (.ret false)
    else
    chk (inb x7 (List.length x6)) <|
    (F.spec_l5Join x5 ((((List.getD x6 ((Int.toNat x7)) ((0, 0, [], (0, 0, 0, 0, [], [], [], ()), ()))).2).2).1)).bind fun r10 =>
    some (.again (r10, x6, w64 (x7 + 1), x8, ()))
  else
    some (.exit (x5, x6, x7, x8, ()))
noncomputable def F.spec_HouseOk.s18 : (Int × Int × Int × DHouse × Unit) → Option (Lp (Int × Int × Int × DHouse × Unit) (Lp (Int × DHouse × Unit) Bool)) := fun (x19, x20, x21, x22, _) =>
  bif decide (x21 < (len x22.2.2.2.2.2.2.2.1)) then
    chk (inb x21 (List.length x22.2.2.2.2.2.2.2.1)) <|
    (F.spec_l12Of ((((List.getD x22.2.2.2.2.2.2.2.1 ((Int.toNat x21)) ((0, 0, [], (0, 0, 0, 0, [], [], [], ()), ()))).2).2).1) x19).bind fun r23 =>
    some (.again (x19, w64 (x20 + r23), w64 (x21 + 1), x22, ()))
  else
    some (.exit (x19, x20, x21, x22, ()))
noncomputable def F.spec_HouseOk.s22 : (Int × Int × Int × DHouse × Unit) → Option (Lp (Int × Int × Int × DHouse × Unit) (Lp (Int × DHouse × Unit) Bool)) := fun (x28, x29, x30, x31, _) =>
  bif decide (x30 < (len x31.2.2.2.2.2.2.2.2.1)) then
    chk (inb x30 (List.length x31.2.2.2.2.2.2.2.2.1)) <|
    (F.spec_l12Of ((((((List.getD x31.2.2.2.2.2.2.2.2.1 ((Int.toNat x30)) ((0, (0, 0, [], (0, 0, 0, 0, [], [], [], ()), ()), ()))).2).1).2).2).1) x28).bind fun r32 =>
    some (.again (x28, w64 (x29 + r32), w64 (x30 + 1), x31, ()))
  else
    some (.exit (x28, x29, x30, x31, ()))
noncomputable def F.spec_HouseOk.s14 : (Int × DHouse × Unit) → Option (Lp (Int × DHouse × Unit) Bool) := fun (x17, x18, _) =>
  bif decide (x17 < 3) then
    afterO (loopO F.spec_HouseOk.s18 (x17, 0, 0, x18, ())) fun (x24, x25, x26, x27, _) =>
    afterO (loopO F.spec_HouseOk.s22 (x24, x25, 0, x27, ())) fun (x33, x34, x35, x36, _) =>
    chk (inb x33 (List.length x36.2.2.2.1)) <|
    bif x34 != (((((List.getD x36.2.2.2.1 ((Int.toNat x33)) ((0, 0, [], 0, 0, ()))).2).2).2).1) then
      some (.ret false)
    else
      some (.again (w64 (x33 + 1), x36, ()))
  else
    some (.exit (x17, x18, ()))
noncomputable def F.spec_HouseOk (a0 : DHouse) : Option Bool :=
  (F.spec_ConfOk a0.1).bind fun r1 =>
  bif !r1 then
    some false
  else
  (F.spec_l12Parts a0).bind fun r2 =>
  bif !r2 then
    some false
  else
  (F.spec_l12Root a0).bind fun r3 =>
  bif !r3 then
    some false
  else
  (F.spec_l12All a0).bind fun r4 =>
  afterO (loopO F.spec_HouseOk.s6 (([] : List DSpan), r4, 0, a0, ())) fun (x11, x12, x13, x14, _) =>
  (F.spec_l12Taken x14).bind fun r15 =>
  (F.spec_l5Same x11 r15).bind fun r16 =>
  bif !r16 then
    some false
  else
  afterO (loopO F.spec_HouseOk.s14 (0, x14, ())) fun (x37, x38, _) =>
  some true
noncomputable def C.spec_HouseOk : Con := ⟨[.r (.val y22)], .one .bool, fun x => F.spec_HouseOk x.1⟩
def L.spec_HouseOk : Loops := lookL [(6, ⟨[.own 3 (.sl true 150 y1), .pat 4 (.val (.sl false 31 y20)), .pat 5 (.val (.int .i64)), .root 1 true y22 [1]], 0⟩), (18, ⟨[.pat 6 (.val (.int .i64)), .pat 7 (.val (.int .i64)), .pat 8 (.val (.int .i64)), .root 1 true y22 [1]], 4⟩), (22, ⟨[.pat 6 (.val (.int .i64)), .pat 7 (.val (.int .i64)), .pat 9 (.val (.int .i64)), .root 1 true y22 [1]], 6⟩), (14, ⟨[.pat 6 (.val (.int .i64)), .root 1 true y22 [1]], 2⟩)]
noncomputable def K.spec_HouseOk : Cons := lookK [(92, [], C.spec_ConfOk), (93, [], C.spec_l12Parts), (94, [], C.spec_l12Root), (95, [], C.spec_l12All), (96, [], C.spec_SetApart), (97, [], C.spec_l5Join), (98, [], C.spec_l5Same), (99, [], C.spec_l12Taken), (100, [], C.spec_l12Of)]
theorem run.spec_HouseOk : ∀ x, runF tb K.spec_HouseOk L.spec_HouseOk [] Tryz.f26 C.spec_HouseOk x = C.spec_HouseOk.fn x := fun x => by kernel_rfl

/-! ### spec.ItemOk: function 249 -/
noncomputable def F.spec_ItemOk (a0 : DItem) : Option Bool :=
  (F.spec_l1In a0.1 1 60).bind fun r1 =>
  bif r1 then
    (F.spec_l1In a0.2.1 0 1).bind fun r2 =>
    bif r2 then
      (F.spec_l6Place a0.2.2.1 a0.2.2.2.1).bind fun r3 =>
      bif r3 then
        (F.spec_SketchOk a0.2.2.2.2.1).bind fun r4 =>
        some r4
      else
        some false
    else
      some false
  else
    some false
noncomputable def C.spec_ItemOk : Con := ⟨[.r (.val y8)], .one .bool, fun x => F.spec_ItemOk x.1⟩
def L.spec_ItemOk : Loops := fun _ => none
noncomputable def K.spec_ItemOk : Cons := lookK [(121, [], C.spec_l1In), (185, [], C.spec_l6Place), (187, [], C.spec_SketchOk)]
theorem run.spec_ItemOk : ∀ x, runF tb K.spec_ItemOk L.spec_ItemOk [] Tryz.f249 C.spec_ItemOk x = C.spec_ItemOk.fn x := fun x => by kernel_rfl

/-! ### spec.l7Zero: function 250 -/
noncomputable def F.spec_l7Zero (a0 : DItem) : Option Bool :=
  bif a0.1 == 0 then
    bif a0.2.1 == 0 then
      bif a0.2.2.1 == 0 then
        bif a0.2.2.2.1 == 0 then
          bif a0.2.2.2.2.1.1 == 0 then
            bif a0.2.2.2.2.1.2.1 == 0 then
              bif a0.2.2.2.2.1.2.2.1 == 0 then
                bif a0.2.2.2.2.1.2.2.2.1 == 0 then
                  bif (len a0.2.2.2.2.1.2.2.2.2.1) == 0 then
                    bif (len a0.2.2.2.2.1.2.2.2.2.2.1) == 0 then
                      some ((len a0.2.2.2.2.1.2.2.2.2.2.2.1) == 0)
                    else
                      some false
                  else
                    some false
                else
                  some false
              else
                some false
            else
              some false
          else
            some false
        else
          some false
      else
        some false
    else
      some false
  else
    some false
noncomputable def C.spec_l7Zero : Con := ⟨[.r (.val y8)], .one .bool, fun x => F.spec_l7Zero x.1⟩
def L.spec_l7Zero : Loops := fun _ => none
noncomputable def K.spec_l7Zero : Cons := lookK []
theorem run.spec_l7Zero : ∀ x, runF tb K.spec_l7Zero L.spec_l7Zero [] Tryz.f250 C.spec_l7Zero x = C.spec_l7Zero.fn x := fun x => by kernel_rfl

/-! ### spec.FrameOk: function 148 -/
noncomputable def F.spec_FrameOk.s4 : (Int × DFrame × Unit) → Option (Lp (Int × DFrame × Unit) Bool) := fun (x6, x7, _) =>
  bif decide (x6 < (len x7.2.2.2.2.1)) then
    chk (inb x6 (List.length x7.2.2.2.2.1)) <|
    bif decide (((List.getD x7.2.2.2.2.1 ((Int.toNat x6)) ((0, 0, ()))).1) < 1) then
      some (.ret false)
    else
    chk (inb x6 (List.length x7.2.2.2.2.1)) <|
    bif decide ((((List.getD x7.2.2.2.2.1 ((Int.toNat x6)) ((0, 0, ()))).2).1) > 60) then
      some (.ret false)
    else
      some (.again (w64 (x6 + 1), x7, ()))
  else
    some (.exit (x6, x7, ()))
noncomputable def F.spec_FrameOk (a0 : DFrame) : Option Bool :=
  (F.spec_l1In a0.1 0 3).bind fun r1 =>
  bif !r1 then
    some false
  else
  (F.spec_l6Agent a0.2.1).bind fun r2 =>
  bif !r2 then
    some false
  else
  (F.spec_l1In a0.2.2.1 0 1000).bind fun r3 =>
  bif !r3 then
    some false
  else
  (F.spec_l1In a0.2.2.2.1 0 60).bind fun r4 =>
  bif !r4 then
    some false
  else
  (F.spec_SetOk a0.2.2.2.2.1).bind fun r5 =>
  bif !r5 then
    some false
  else
  afterO (loopO F.spec_FrameOk.s4 (0, a0, ())) fun (x8, x9, _) =>
  bif x9.1 == 1 then
    (F.spec_ItemOk x9.2.2.2.2.2.1).bind fun r10 =>
    some r10
  else
  (F.spec_l7Zero x9.2.2.2.2.2.1).bind fun r11 =>
  some r11
noncomputable def C.spec_FrameOk : Con := ⟨[.r (.val y23)], .one .bool, fun x => F.spec_FrameOk x.1⟩
def L.spec_FrameOk : Loops := lookL [(4, ⟨[.pat 3 (.val (.int .i64)), .root 1 true y23 [1]], 0⟩)]
noncomputable def K.spec_FrameOk : Cons := lookK [(121, [], C.spec_l1In), (130, [], C.spec_l6Agent), (186, [], C.spec_SetOk), (249, [], C.spec_ItemOk), (250, [], C.spec_l7Zero)]
theorem run.spec_FrameOk : ∀ x, runF tb K.spec_FrameOk L.spec_FrameOk [] Tryz.f148 C.spec_FrameOk x = C.spec_FrameOk.fn x := fun x => by kernel_rfl

/-! ### spec.SeatGrant: function 149 -/
noncomputable def F.spec_SeatGrant (a0 : DSeat) (a1 : Int) : Option DSeat :=
  (F.spec_l9Copy a0).bind fun r1 =>
  (F.spec_SeatOk a0 a1).bind fun r2 =>
  bif r2 then
    (F.spec_l1Min 60 (w64 (a0.2.2.2.1 + a1))).bind fun r3 =>
    some (r1.1, r3, r1.2.2)
  else
    some r1
noncomputable def C.spec_SeatGrant : Con := ⟨[.r (.val y19), .r (.val (.int .i64))], .one y11, fun x => F.spec_SeatGrant x.1 x.2.1⟩
def L.spec_SeatGrant : Loops := fun _ => none
noncomputable def K.spec_SeatGrant : Cons := lookK [(203, [], C.spec_SeatOk), (210, [], C.spec_l1Min), (235, [], C.spec_l9Copy)]
theorem run.spec_SeatGrant : ∀ x, runF tb K.spec_SeatGrant L.spec_SeatGrant [] Tryz.f149 C.spec_SeatGrant x = C.spec_SeatGrant.fn x := fun x => by kernel_rfl

/-! ### spec.l13Answer: function 131 -/
noncomputable def F.spec_l13Answer (a0 : DHouse) (a1 : Int) : Option DFrame :=
  chk (inb a1 (List.length a0.2.2.2.1)) <|
  (F.spec_l5Copy ((((List.getD a0.2.2.2.1 ((Int.toNat a1)) ((0, 0, [], 0, 0, ()))).2).2).1)).bind fun r1 =>
  some (2, a1, (List.getD a0.2.2.2.1 ((Int.toNat a1)) ((0, 0, [], 0, 0, ()))).1, ((List.getD a0.2.2.2.1 ((Int.toNat a1)) ((0, 0, [], 0, 0, ()))).2).1, r1, (0, 0, 0, 0, (0, 0, 0, 0, ([] : List Int), ([] : List Int), ([] : List (List Int)), ()), ()), ())
noncomputable def C.spec_l13Answer : Con := ⟨[.r (.val y22), .r (.val (.int .i64))], .one y18, fun x => F.spec_l13Answer x.1 x.2.1⟩
def L.spec_l13Answer : Loops := fun _ => none
noncomputable def K.spec_l13Answer : Cons := lookK [(189, [], C.spec_l5Copy)]
theorem run.spec_l13Answer : ∀ x, runF tb K.spec_l13Answer L.spec_l13Answer [] Tryz.f131 C.spec_l13Answer x = C.spec_l13Answer.fn x := fun x => by kernel_rfl

/-! ### spec.SetHas: function 251 -/
noncomputable def F.spec_SetHas.s2 : ((List DSpan) × Int × Int × Unit) → Option (Lp ((List DSpan) × Int × Int × Unit) Bool) := fun (x1, x2, x3, _) =>
  bif decide (x3 < (len x1)) then
    chk (inb x3 (List.length x1)) <|
    chk (inb x3 (List.length x1)) <|
    (F.spec_l1In x2 ((List.getD x1 ((Int.toNat x3)) ((0, 0, ()))).1) (((List.getD x1 ((Int.toNat x3)) ((0, 0, ()))).2).1)).bind fun r4 =>
    bif r4 then
      some (.ret true)
    else
      some (.again (x1, x2, w64 (x3 + 1), ()))
  else
    some (.exit (x1, x2, x3, ()))
noncomputable def F.spec_SetHas (a0 : List DSpan) (a1 : Int) : Option Bool :=
  afterO (loopO F.spec_SetHas.s2 (a0, a1, 0, ())) fun (x5, x6, x7, _) =>
  some false
noncomputable def C.spec_SetHas : Con := ⟨[.r (.val (.sl false 150 y1)), .r (.val (.int .i64))], .one .bool, fun x => F.spec_SetHas x.1 x.2.1⟩
def L.spec_SetHas : Loops := lookL [(2, ⟨[.pat 0 (.val (.sl false 150 y1)), .pat 1 (.val (.int .i64)), .pat 5 (.val (.int .i64))], 0⟩)]
noncomputable def K.spec_SetHas : Cons := lookK [(121, [], C.spec_l1In)]
theorem run.spec_SetHas : ∀ x, runF tb K.spec_SetHas L.spec_SetHas [] Tryz.f251 C.spec_SetHas x = C.spec_SetHas.fn x := fun x => by kernel_rfl

/-! ### spec.l8One: function 252 -/
noncomputable def F.spec_l8One (a0 : Int) : Option DSpan :=
  some (a0, a0, ())
noncomputable def C.spec_l8One : Con := ⟨[.r (.val (.int .i64))], .one y1, fun x => F.spec_l8One x.1⟩
def L.spec_l8One : Loops := fun _ => none
noncomputable def K.spec_l8One : Cons := lookK []
theorem run.spec_l8One : ∀ x, runF tb K.spec_l8One L.spec_l8One [] Tryz.f252 C.spec_l8One x = C.spec_l8One.fn x := fun x => by kernel_rfl

/-! ### spec.SeatData: function 150 -/
noncomputable def F.spec_SeatData (a0 : DSeat) (a1 : Int) (a2 : Int) (a3 : Int) : Option (DSeat × Int) :=
  (F.spec_l9Copy a0).bind fun r1 =>
  (F.spec_SeatOk a0 a1).bind fun r2 =>
  bif !r2 then
    some (r1, 4)
  else
  (F.spec_l1In a3 1 60).bind fun r3 =>
  bif !r3 then
    some (r1, 4)
  else
  bif a2 != a0.1 then
    some (r1, 2)
  else
  (F.spec_SetHas a0.2.2.1 a3).bind fun r4 =>
  bif r4 then
    some (r1, 1)
  else
  bif decide (a3 > a0.2.1) then
    some (r1, 3)
  else
  (F.spec_l8One a3).bind fun r5 =>
  (F.spec_l5Put a0.2.2.1 r5).bind fun r6 =>
  some ((r1.1, r1.2.1, r6, r1.2.2.2), 0)
noncomputable def C.spec_SeatData : Con := ⟨[.r (.val y19), .r (.val (.int .i64)), .r (.val (.int .i64)), .r (.val (.int .i64))], .many [y11, (.int .i64)], fun x => F.spec_SeatData x.1 x.2.1 x.2.2.1 x.2.2.2.1⟩
def L.spec_SeatData : Loops := fun _ => none
noncomputable def K.spec_SeatData : Cons := lookK [(121, [], C.spec_l1In), (203, [], C.spec_SeatOk), (208, [], C.spec_l5Put), (235, [], C.spec_l9Copy), (251, [], C.spec_SetHas), (252, [], C.spec_l8One)]
theorem run.spec_SeatData : ∀ x, runF tb K.spec_SeatData L.spec_SeatData [] Tryz.f150 C.spec_SeatData x = C.spec_SeatData.fn x := fun x => by kernel_rfl

/-! ### spec.IdOf: function 253 -/
noncomputable def F.spec_IdOf (a0 : Int) (a1 : Int) : Option Int :=
  (F.spec_l6Agent a0).bind fun r1 =>
  bif !r1 then
    some (-1)
  else
  (F.spec_l1In a1 1 60).bind fun r2 =>
  bif !r2 then
    some (-1)
  else
    some (w64 ((w64 (100 * a0)) + a1))
noncomputable def C.spec_IdOf : Con := ⟨[.r (.val (.int .i64)), .r (.val (.int .i64))], .one (.int .i64), fun x => F.spec_IdOf x.1 x.2.1⟩
def L.spec_IdOf : Loops := fun _ => none
noncomputable def K.spec_IdOf : Cons := lookK [(121, [], C.spec_l1In), (130, [], C.spec_l6Agent)]
theorem run.spec_IdOf : ∀ x, runF tb K.spec_IdOf L.spec_IdOf [] Tryz.f253 C.spec_IdOf x = C.spec_IdOf.fn x := fun x => by kernel_rfl

/-! ### spec.EntryOf: function 151 -/
noncomputable def F.spec_EntryOf (a0 : Int) (a1 : DItem) : Option (DEntry × Bool) :=
  (F.spec_IdOf a0 a1.1).bind fun r1 =>
  (F.spec_ItemOk a1).bind fun r2 =>
  bif !r2 then
    some ((0, 0, ([] : List DSpan), (0, 0, 0, 0, ([] : List Int), ([] : List Int), ([] : List (List Int)), ()), ()), false)
  else
  bif decide (r1 < 0) then
    some ((0, 0, ([] : List DSpan), (0, 0, 0, 0, ([] : List Int), ([] : List Int), ([] : List (List Int)), ()), ()), false)
  else
  (F.spec_l3Copy a1.2.2.2.2.1).bind fun r3 =>
  some ((a1.2.2.1, a1.2.2.2.1, [(r1, r1, ())], r3, ()), true)
noncomputable def C.spec_EntryOf : Con := ⟨[.r (.val (.int .i64)), .r (.val y8)], .many [y13, .bool], fun x => F.spec_EntryOf x.1 x.2.1⟩
def L.spec_EntryOf : Loops := fun _ => none
noncomputable def K.spec_EntryOf : Cons := lookK [(190, [], C.spec_l3Copy), (249, [], C.spec_ItemOk), (253, [], C.spec_IdOf)]
theorem run.spec_EntryOf : ∀ x, runF tb K.spec_EntryOf L.spec_EntryOf [] Tryz.f151 C.spec_EntryOf x = C.spec_EntryOf.fn x := fun x => by kernel_rfl

/-! ### spec.Items: function 153 -/
noncomputable def F.spec_Items.s6 : (Int × Int × Int × DHouse × Unit) → Option (Lp (Int × Int × Int × DHouse × Unit) (Lp (Int × Int × DHouse × Unit) Int)) := fun (x4, x5, x6, x7, _) =>
  chk (inb x5 (List.length x7.2.2.2.2.1)) <|
  bif decide (x6 < (len (List.getD x7.2.2.2.2.1 ((Int.toNat x5)) ([])))) then
    chk (inb x5 (List.length x7.2.2.2.2.1)) <|
    chk (inb x6 (List.length (List.getD x7.2.2.2.2.1 ((Int.toNat x5)) ([])))) <|
    some (.again (w64 (x4 + (len ((List.getD (List.getD x7.2.2.2.2.1 ((Int.toNat x5)) ([])) ((Int.toNat x6)) (([], ()))).1))), x5, w64 (x6 + 1), x7, ()))
  else
    some (.exit (x4, x5, x6, x7, ()))
noncomputable def F.spec_Items.s3 : (Int × Int × DHouse × Unit) → Option (Lp (Int × Int × DHouse × Unit) Int) := fun (x1, x2, x3, _) =>
  bif decide (x2 < (len x3.2.2.2.2.1)) then
    afterO (loopO F.spec_Items.s6 (x1, x2, 0, x3, ())) fun (x8, x9, x10, x11, _) =>
    some (.again (x8, w64 (x9 + 1), x11, ()))
  else
    some (.exit (x1, x2, x3, ()))
noncomputable def F.spec_Items (a0 : DHouse) : Option Int :=
  afterO (loopO F.spec_Items.s3 (0, 0, a0, ())) fun (x12, x13, x14, _) =>
  some x12
noncomputable def C.spec_Items : Con := ⟨[.r (.val y22)], .one (.int .i64), fun x => F.spec_Items x.1⟩
def L.spec_Items : Loops := lookL [(6, ⟨[.pat 3 (.val (.int .i64)), .pat 4 (.val (.int .i64)), .pat 5 (.val (.int .i64)), .root 1 true y22 [1]], 2⟩), (3, ⟨[.pat 3 (.val (.int .i64)), .pat 4 (.val (.int .i64)), .root 1 true y22 [1]], 0⟩)]
noncomputable def K.spec_Items : Cons := lookK []
theorem run.spec_Items : ∀ x, runF tb K.spec_Items L.spec_Items [] Tryz.f153 C.spec_Items x = C.spec_Items.fn x := fun x => by kernel_rfl

/-! ### spec.l10Apart: function 254 -/
noncomputable def F.spec_l10Apart.s2 : ((List DSpan) × Int × DRow × Unit) → Option (Lp ((List DSpan) × Int × DRow × Unit) Bool) := fun (x1, x2, x3, _) =>
  bif decide (x2 < (len x3.1)) then
    chk (inb x2 (List.length x3.1)) <|
    (F.spec_SetApart ((((List.getD x3.1 ((Int.toNat x2)) ((0, 0, [], (0, 0, 0, 0, [], [], [], ()), ()))).2).2).1) x1).bind fun r4 =>
    bif !r4 then
      some (.ret false)
    else
      some (.again (x1, w64 (x2 + 1), x3, ()))
  else
    some (.exit (x1, x2, x3, ()))
noncomputable def F.spec_l10Apart (a0 : DRow) (a1 : List DSpan) : Option Bool :=
  afterO (loopO F.spec_l10Apart.s2 (a1, 0, a0, ())) fun (x5, x6, x7, _) =>
  some true
noncomputable def C.spec_l10Apart : Con := ⟨[.r (.val (.cons (.sl false 31 y20) .nil)), .r (.val (.sl false 150 y1))], .one .bool, fun x => F.spec_l10Apart x.1 x.2.1⟩
def L.spec_l10Apart : Loops := lookL [(2, ⟨[.pat 1 (.val (.sl false 150 y1)), .pat 5 (.val (.int .i64)), .root 2 true (.cons (.sl false 31 y20) .nil) [2]], 0⟩)]
noncomputable def K.spec_l10Apart : Cons := lookK [(96, [], C.spec_SetApart)]
theorem run.spec_l10Apart : ∀ x, runF tb K.spec_l10Apart L.spec_l10Apart [] Tryz.f254 C.spec_l10Apart x = C.spec_l10Apart.fn x := fun x => by kernel_rfl

/-! ### spec.l2Clip: function 326 -/
noncomputable def F.spec_l2Clip (a0 : Int) (a1 : Int) : Option Int :=
  (F.spec_l1Min a0 a1).bind fun r1 =>
  (F.spec_l1Max 0 r1).bind fun r2 =>
  some r2
noncomputable def C.spec_l2Clip : Con := ⟨[.r (.val (.int .i64)), .r (.val (.int .i64))], .one (.int .i64), fun x => F.spec_l2Clip x.1 x.2.1⟩
def L.spec_l2Clip : Loops := fun _ => none
noncomputable def K.spec_l2Clip : Cons := lookK [(209, [], C.spec_l1Max), (210, [], C.spec_l1Min)]
theorem run.spec_l2Clip : ∀ x, runF tb K.spec_l2Clip L.spec_l2Clip [] Tryz.f326 C.spec_l2Clip x = C.spec_l2Clip.fn x := fun x => by kernel_rfl

/-! ### spec.Add: function 307 -/
noncomputable def F.spec_Add (a0 : Int) (a1 : Int) : Option Int :=
  (F.spec_l2Clip a0 1000000000).bind fun r1 =>
  (F.spec_l2Clip a1 1000000000).bind fun r2 =>
  (F.spec_l1Min (w64 (r1 + r2)) 1000000000).bind fun r3 =>
  some r3
noncomputable def C.spec_Add : Con := ⟨[.r (.val (.int .i64)), .r (.val (.int .i64))], .one (.int .i64), fun x => F.spec_Add x.1 x.2.1⟩
def L.spec_Add : Loops := fun _ => none
noncomputable def K.spec_Add : Cons := lookK [(210, [], C.spec_l1Min), (326, [], C.spec_l2Clip)]
theorem run.spec_Add : ∀ x, runF tb K.spec_Add L.spec_Add [] Tryz.f307 C.spec_Add x = C.spec_Add.fn x := fun x => by kernel_rfl

/-! ### spec.l3Sum: function 308 -/
noncomputable def F.spec_l3Sum.s3 : ((List Int) × (List Int) × (List Int) × Int × Unit) → Option (Lp ((List Int) × (List Int) × (List Int) × Int × Unit) ((List Int))) := fun (x1, x2, x3, x4, _) =>
  bif decide (x4 < (len x1)) then
    chk (inb x4 (List.length x1)) <|
    chk (inb x4 (List.length x2)) <|
    (F.spec_Add (List.getD x1 ((Int.toNat x4)) 0) (List.getD x2 ((Int.toNat x4)) 0)).bind fun r5 =>
    chk (fits (List.length x3 + List.length ([r5])) 8) <|
    some (.again (x1, x2, x3 ++ ([r5]), w64 (x4 + 1), ()))
  else
    some (.exit (x1, x2, x3, x4, ()))
noncomputable def F.spec_l3Sum (a0 : List Int) (a1 : List Int) : Option ((List Int)) :=
  afterO (loopO F.spec_l3Sum.s3 (a0, a1, ([] : List Int), 0, ())) fun (x6, x7, x8, x9, _) =>
  some x8
noncomputable def C.spec_l3Sum : Con := ⟨[.r (.val (.sl false 3 (.int .i64))), .r (.val (.sl false 3 (.int .i64)))], .one (.sl true 3 (.int .i64)), fun x => F.spec_l3Sum x.1 x.2.1⟩
def L.spec_l3Sum : Loops := lookL [(3, ⟨[.pat 0 (.val (.sl false 3 (.int .i64))), .pat 1 (.val (.sl false 3 (.int .i64))), .own 5 (.sl true 3 (.int .i64)), .pat 6 (.val (.int .i64))], 0⟩)]
noncomputable def K.spec_l3Sum : Cons := lookK [(307, [], C.spec_Add)]
theorem run.spec_l3Sum : ∀ x, runF tb K.spec_l3Sum L.spec_l3Sum [] Tryz.f308 C.spec_l3Sum x = C.spec_l3Sum.fn x := fun x => by kernel_rfl

/-! ### spec.l3Merge: function 282 -/
noncomputable def F.spec_l3Merge.s7 : (Int × DSketch × DSketch × DSketch × DSketch × Unit) → Option (Lp (Int × DSketch × DSketch × DSketch × DSketch × Unit) DSketch) := fun (x8, x9, x10, x11, x12, _) =>
  bif decide (x8 < 8) then
    chk (inb x8 (List.length x9.2.2.2.2.2.1)) <|
    chk (inb x8 (List.length x10.2.2.2.2.2.1)) <|
    (F.spec_l1Max (List.getD x9.2.2.2.2.2.1 ((Int.toNat x8)) 0) (List.getD x10.2.2.2.2.2.1 ((Int.toNat x8)) 0)).bind fun r13 =>
    chk (fits (List.length x12.2.2.2.2.2.1 + List.length ([r13])) 8) <|
    some (.again (w64 (x8 + 1), x9, x10, x11, (x12.1, x12.2.1, x12.2.2.1, x12.2.2.2.1, x12.2.2.2.2.1, x12.2.2.2.2.2.1 ++ ([r13]), x12.2.2.2.2.2.2), ()))
  else
    some (.exit (x8, x9, x10, x11, x12, ()))
noncomputable def F.spec_l3Merge (a0 : DSketch) (a1 : DSketch) : Option DSketch :=
  (F.spec_Add a0.1 a1.1).bind fun r1 =>
  (F.spec_Add a0.2.1 a1.2.1).bind fun r2 =>
  (F.spec_l1Min a0.2.2.1 a1.2.2.1).bind fun r3 =>
  (F.spec_l1Max a0.2.2.2.1 a1.2.2.2.1).bind fun r4 =>
  (F.spec_l3Sum a0.2.2.2.2.1 a1.2.2.2.2.1).bind fun r5 =>
  chk (inb 0 (List.length a0.2.2.2.2.2.2.1)) <|
  chk (inb 0 (List.length a1.2.2.2.2.2.2.1)) <|
  (F.spec_l3Sum (List.getD a0.2.2.2.2.2.2.1 0 ([])) (List.getD a1.2.2.2.2.2.2.1 0 ([]))).bind fun r6 =>
  chk (inb 1 (List.length a0.2.2.2.2.2.2.1)) <|
  chk (inb 1 (List.length a1.2.2.2.2.2.2.1)) <|
  (F.spec_l3Sum (List.getD a0.2.2.2.2.2.2.1 1 ([])) (List.getD a1.2.2.2.2.2.2.1 1 ([]))).bind fun r7 =>
  bif a0.1 == 0 then
    bif a1.1 == 0 then
      afterO (loopO F.spec_l3Merge.s7 (0, a0, a1, (0, 0, 0, 0, ([] : List Int), ([] : List Int), ([] : List (List Int)), ()), (r1, r2, a0.2.2.1, r4, r5, ([] : List Int), [r6, r7], ()), ())) fun (x14, x15, x16, x17, x18, _) =>
      some x18
    else
    afterO (loopO F.spec_l3Merge.s7 (0, a0, a1, (0, 0, 0, 0, ([] : List Int), ([] : List Int), ([] : List (List Int)), ()), (r1, r2, a1.2.2.1, r4, r5, ([] : List Int), [r6, r7], ()), ())) fun (x25, x26, x27, x28, x29, _) =>
    some x29
  else
  bif a1.1 == 0 then
    afterO (loopO F.spec_l3Merge.s7 (0, a0, a1, (0, 0, 0, 0, ([] : List Int), ([] : List Int), ([] : List (List Int)), ()), (r1, r2, a0.2.2.1, r4, r5, ([] : List Int), [r6, r7], ()), ())) fun (x36, x37, x38, x39, x40, _) =>
    some x40
  else
  afterO (loopO F.spec_l3Merge.s7 (0, a0, a1, (0, 0, 0, 0, ([] : List Int), ([] : List Int), ([] : List (List Int)), ()), (r1, r2, r3, r4, r5, ([] : List Int), [r6, r7], ()), ())) fun (x47, x48, x49, x50, x51, _) =>
  some x51
noncomputable def C.spec_l3Merge : Con := ⟨[.r (.val y3), .r (.val y3)], .one y12, fun x => F.spec_l3Merge x.1 x.2.1⟩
def L.spec_l3Merge : Loops := lookL [(7, ⟨[.pat 6 (.val (.int .i64)), .root 2 true y3 [2], .root 3 true y3 [3], .root 4 true y12 [4], .root 5 true y12 [5]], 0⟩)]
noncomputable def K.spec_l3Merge : Cons := lookK [(209, [], C.spec_l1Max), (210, [], C.spec_l1Min), (307, [], C.spec_Add), (308, [], C.spec_l3Sum)]
theorem run.spec_l3Merge : ∀ x, runF tb K.spec_l3Merge L.spec_l3Merge [] Tryz.f282 C.spec_l3Merge x = C.spec_l3Merge.fn x := fun x => by kernel_rfl

/-! ### spec.l6Add: function 188 -/
noncomputable def F.spec_l6Add (a0 : DEntry) (a1 : DEntry) : Option DEntry :=
  (F.spec_l5Join a0.2.2.1 a1.2.2.1).bind fun r1 =>
  (F.spec_l3Merge a0.2.2.2.1 a1.2.2.2.1).bind fun r2 =>
  some (a0.1, a0.2.1, r1, r2, ())
noncomputable def C.spec_l6Add : Con := ⟨[.r (.val y20), .r (.val y20)], .one y13, fun x => F.spec_l6Add x.1 x.2.1⟩
def L.spec_l6Add : Loops := fun _ => none
noncomputable def K.spec_l6Add : Cons := lookK [(97, [], C.spec_l5Join), (282, [], C.spec_l3Merge)]
theorem run.spec_l6Add : ∀ x, runF tb K.spec_l6Add L.spec_l6Add [] Tryz.f188 C.spec_l6Add x = C.spec_l6Add.fn x := fun x => by kernel_rfl

/-! ### spec.RowPush: function 152 -/
noncomputable def F.spec_RowPush.s5 : (Bool × Int × DRow × DEntry × DRow × DRow × Unit) → Option (Lp (Bool × Int × DRow × DEntry × DRow × DRow × Unit) (DRow × Bool)) := fun (x5, x6, x7, x8, x9, x10, _) =>
  bif decide (x6 < (len x10.1)) then
    bif x5 then
      chk (inb x6 (List.length x10.1)) <|
      bif ((List.getD x10.1 ((Int.toNat x6)) ((0, 0, [], (0, 0, 0, 0, [], [], [], ()), ()))).1) == x8.1 then
        chk (inb x6 (List.length x10.1)) <|
        bif (((List.getD x10.1 ((Int.toNat x6)) ((0, 0, [], (0, 0, 0, 0, [], [], [], ()), ()))).2).1) == x8.2.1 then
          chk (inb x6 (List.length x10.1)) <|
          (F.spec_l6Add (List.getD x10.1 ((Int.toNat x6)) ((0, 0, [], (0, 0, 0, 0, [], [], [], ()), ()))) x8).bind fun r11 =>
          chk (inb x6 (List.length x10.1)) <|
          some (.ret ((List.set x10.1 ((Int.toNat x6)) r11, x10.2), true))
        else
          some (.again (x5, w64 (x6 + 1), x7, x8, x9, x10, ()))
      else
        some (.again (x5, w64 (x6 + 1), x7, x8, x9, x10, ()))
    else
      some (.exit (x5, x6, x7, x8, x9, x10, ()))
  else
    some (.exit (x5, x6, x7, x8, x9, x10, ()))
noncomputable def F.spec_RowPush (a0 : DRow) (a1 : DEntry) (a2 : Bool) : Option (DRow × Bool) :=
  (F.spec_l10Copy a0).bind fun r1 =>
  (F.spec_RowOk a0).bind fun r2 =>
  bif !r2 then
    some (r1, false)
  else
  (F.spec_EntryOk a1).bind fun r3 =>
  bif !r3 then
    some (r1, false)
  else
  (F.spec_l10Apart a0 a1.2.2.1).bind fun r4 =>
  bif !r4 then
    some (r1, false)
  else
  afterO (loopO F.spec_RowPush.s5 (a2, 0, a0, a1, (([] : List DEntry), ()), r1, ())) fun (x12, x13, x14, x15, x16, x17, _) =>
  bif (len x14.1) == 24 then
    some (x17, false)
  else
  (F.spec_l6Copy x15).bind fun r18 =>
  chk (fits (List.length x17.1 + List.length ([r18])) 144) <|
  some ((x17.1 ++ ([r18]), x17.2), true)
noncomputable def C.spec_RowPush : Con := ⟨[.r (.val (.cons (.sl false 31 y20) .nil)), .r (.val y20), .r (.val .bool)], .many [(.cons (.sl true 31 y13) .nil), .bool], fun x => F.spec_RowPush x.1 x.2.1 x.2.2.1⟩
def L.spec_RowPush : Loops := lookL [(5, ⟨[.pat 2 (.val .bool), .pat 9 (.val (.int .i64)), .root 3 true (.cons (.sl false 31 y20) .nil) [3], .root 4 true y20 [4], .root 6 true (.cons (.sl true 31 y13) .nil) [6], .root 8 true (.cons (.sl true 31 y13) .nil) [8]], 0⟩)]
noncomputable def K.spec_RowPush : Cons := lookK [(73, [], C.spec_EntryOk), (75, [], C.spec_l6Copy), (168, [], C.spec_RowOk), (188, [], C.spec_l6Add), (236, [], C.spec_l10Copy), (254, [], C.spec_l10Apart)]
theorem run.spec_RowPush : ∀ x, runF tb K.spec_RowPush L.spec_RowPush [] Tryz.f152 C.spec_RowPush x = C.spec_RowPush.fn x := fun x => by kernel_rfl

/-! ### spec.Ingress: function 45 -/
noncomputable def F.spec_Ingress (a0 : DHouse) (a1 : DFrame) : Option (DHouse × DFrame × Int) :=
  (F.spec_l12Copy a0).bind fun r1 =>
  (F.spec_HouseOk a0).bind fun r2 =>
  bif !r2 then
    some (r1, (0, 0, 0, 0, ([] : List DSpan), (0, 0, 0, 0, (0, 0, 0, 0, ([] : List Int), ([] : List Int), ([] : List (List Int)), ()), ()), ()), 6)
  else
  (F.spec_FrameOk a1).bind fun r3 =>
  bif !r3 then
    some (r1, (0, 0, 0, 0, ([] : List DSpan), (0, 0, 0, 0, (0, 0, 0, 0, ([] : List Int), ([] : List Int), ([] : List (List Int)), ()), ()), ()), 6)
  else
  bif a1.1 != 0 then
    bif a1.1 != 1 then
      some (r1, (0, 0, 0, 0, ([] : List DSpan), (0, 0, 0, 0, (0, 0, 0, 0, ([] : List Int), ([] : List Int), ([] : List (List Int)), ()), ()), ()), 6)
    else
    chk (inb a1.2.1 (List.length r1.2.2.2.1)) <|
    (some (List.set r1.2.2.2.1 ((Int.toNat a1.2.1)) (((List.getD r1.2.2.2.1 ((Int.toNat a1.2.1)) ((0, 0, [], 0, 0, ()))).1, ((List.getD r1.2.2.2.1 ((Int.toNat a1.2.1)) ((0, 0, [], 0, 0, ()))).2).1, (((List.getD r1.2.2.2.1 ((Int.toNat a1.2.1)) ((0, 0, [], 0, 0, ()))).2).2).1, ((((List.getD r1.2.2.2.1 ((Int.toNat a1.2.1)) ((0, 0, [], 0, 0, ()))).2).2).2).1, r1.2.1, (((((List.getD r1.2.2.2.1 ((Int.toNat a1.2.1)) ((0, 0, [], 0, 0, ()))).2).2).2).2).2)))).bind fun r4 =>
    bif a1.1 == 0 then
      bif !r1.2.2.1 then
        chk (inb a1.2.1 (List.length r4)) <|
        (F.spec_SeatGrant (List.getD r4 ((Int.toNat a1.2.1)) ((0, 0, [], 0, 0, ()))) r1.1.1).bind fun r5 =>
        chk (inb a1.2.1 (List.length r4)) <|
        (F.spec_l13Answer ((r1.1, r1.2.1, r1.2.2.1, List.set r4 ((Int.toNat a1.2.1)) r5, r1.2.2.2.2)) a1.2.1).bind fun r6 =>
        some ((r1.1, r1.2.1, r1.2.2.1, List.set r4 ((Int.toNat a1.2.1)) r5, r1.2.2.2.2), r6, 2)
      else
      (F.spec_l13Answer ((r1.1, r1.2.1, r1.2.2.1, r4, r1.2.2.2.2)) a1.2.1).bind fun r7 =>
      some ((r1.1, r1.2.1, r1.2.2.1, r4, r1.2.2.2.2), r7, 2)
    else
    chk (inb a1.2.1 (List.length r4)) <|
    (F.spec_SeatData (List.getD r4 ((Int.toNat a1.2.1)) ((0, 0, [], 0, 0, ()))) r1.1.1 a1.2.2.1 a1.2.2.2.2.2.1.1).bind fun r8 =>
    bif r8.2 == 2 then
      (F.spec_l13Answer ((r1.1, r1.2.1, r1.2.2.1, r4, r1.2.2.2.2)) a1.2.1).bind fun r9 =>
      some ((r1.1, r1.2.1, r1.2.2.1, r4, r1.2.2.2.2), r9, 3)
    else
    bif r8.2 == 1 then
      (F.spec_l13Answer ((r1.1, r1.2.1, r1.2.2.1, r4, r1.2.2.2.2)) a1.2.1).bind fun r10 =>
      some ((r1.1, r1.2.1, r1.2.2.1, r4, r1.2.2.2.2), r10, 1)
    else
    bif r8.2 == 3 then
      (F.spec_l13Answer ((r1.1, r1.2.1, r1.2.2.1, r4, r1.2.2.2.2)) a1.2.1).bind fun r11 =>
      some ((r1.1, r1.2.1, r1.2.2.1, r4, r1.2.2.2.2), r11, 4)
    else
    bif r8.2 == 0 then
      bif r1.2.2.1 then
        (F.spec_l13Answer ((r1.1, r1.2.1, r1.2.2.1, r4, r1.2.2.2.2)) a1.2.1).bind fun r12 =>
        some ((r1.1, r1.2.1, r1.2.2.1, r4, r1.2.2.2.2), r12, 5)
      else
      (F.spec_EntryOf a1.2.1 a1.2.2.2.2.2.1).bind fun r13 =>
      chk (inb a1.2.1 (List.length r1.2.2.2.2.1)) <|
      chk (inb a1.2.2.2.2.2.1.2.1 (List.length (List.getD r1.2.2.2.2.1 ((Int.toNat a1.2.1)) ([])))) <|
      (F.spec_Items ((r1.1, r1.2.1, r1.2.2.1, r4, r1.2.2.2.2))).bind fun r14 =>
      (F.spec_RowPush (List.getD (List.getD r1.2.2.2.2.1 ((Int.toNat a1.2.1)) ([])) ((Int.toNat a1.2.2.2.2.2.1.2.1)) (([], ()))) r13.1 (decide (r14 ≥ r1.1.2.2.2.2.1))).bind fun r15 =>
      chk (inb a1.2.1 (List.length r1.2.2.2.2.1)) <|
      chk (inb a1.2.2.2.2.2.1.2.1 (List.length (List.getD r1.2.2.2.2.1 ((Int.toNat a1.2.1)) ([])))) <|
      (some (List.set r1.2.2.2.2.1 ((Int.toNat a1.2.1)) (List.set (List.getD r1.2.2.2.2.1 ((Int.toNat a1.2.1)) ([])) ((Int.toNat a1.2.2.2.2.2.1.2.1)) r15.1))).bind fun r16 =>
      chk (inb a1.2.1 (List.length r4)) <|
      (F.spec_l13Answer ((r1.1, r1.2.1, r1.2.2.1, List.set r4 ((Int.toNat a1.2.1)) r8.1, r16, r1.2.2.2.2.2)) a1.2.1).bind fun r17 =>
      some ((r1.1, r1.2.1, r1.2.2.1, List.set r4 ((Int.toNat a1.2.1)) r8.1, r16, r1.2.2.2.2.2), r17, 0)
    else
    (F.spec_l13Answer ((r1.1, r1.2.1, r1.2.2.1, r4, r1.2.2.2.2)) a1.2.1).bind fun r18 =>
    some ((r1.1, r1.2.1, r1.2.2.1, r4, r1.2.2.2.2), r18, 0)
  else
  chk (inb a1.2.1 (List.length r1.2.2.2.1)) <|
  (some (List.set r1.2.2.2.1 ((Int.toNat a1.2.1)) (((List.getD r1.2.2.2.1 ((Int.toNat a1.2.1)) ((0, 0, [], 0, 0, ()))).1, ((List.getD r1.2.2.2.1 ((Int.toNat a1.2.1)) ((0, 0, [], 0, 0, ()))).2).1, (((List.getD r1.2.2.2.1 ((Int.toNat a1.2.1)) ((0, 0, [], 0, 0, ()))).2).2).1, ((((List.getD r1.2.2.2.1 ((Int.toNat a1.2.1)) ((0, 0, [], 0, 0, ()))).2).2).2).1, r1.2.1, (((((List.getD r1.2.2.2.1 ((Int.toNat a1.2.1)) ((0, 0, [], 0, 0, ()))).2).2).2).2).2)))).bind fun r19 =>
  bif a1.1 == 0 then
    bif !r1.2.2.1 then
      chk (inb a1.2.1 (List.length r19)) <|
      (F.spec_SeatGrant (List.getD r19 ((Int.toNat a1.2.1)) ((0, 0, [], 0, 0, ()))) r1.1.1).bind fun r20 =>
      chk (inb a1.2.1 (List.length r19)) <|
      (F.spec_l13Answer ((r1.1, r1.2.1, r1.2.2.1, List.set r19 ((Int.toNat a1.2.1)) r20, r1.2.2.2.2)) a1.2.1).bind fun r21 =>
      some ((r1.1, r1.2.1, r1.2.2.1, List.set r19 ((Int.toNat a1.2.1)) r20, r1.2.2.2.2), r21, 2)
    else
    (F.spec_l13Answer ((r1.1, r1.2.1, r1.2.2.1, r19, r1.2.2.2.2)) a1.2.1).bind fun r22 =>
    some ((r1.1, r1.2.1, r1.2.2.1, r19, r1.2.2.2.2), r22, 2)
  else
  chk (inb a1.2.1 (List.length r19)) <|
  (F.spec_SeatData (List.getD r19 ((Int.toNat a1.2.1)) ((0, 0, [], 0, 0, ()))) r1.1.1 a1.2.2.1 a1.2.2.2.2.2.1.1).bind fun r23 =>
  bif r23.2 == 2 then
    (F.spec_l13Answer ((r1.1, r1.2.1, r1.2.2.1, r19, r1.2.2.2.2)) a1.2.1).bind fun r24 =>
    some ((r1.1, r1.2.1, r1.2.2.1, r19, r1.2.2.2.2), r24, 3)
  else
  bif r23.2 == 1 then
    (F.spec_l13Answer ((r1.1, r1.2.1, r1.2.2.1, r19, r1.2.2.2.2)) a1.2.1).bind fun r25 =>
    some ((r1.1, r1.2.1, r1.2.2.1, r19, r1.2.2.2.2), r25, 1)
  else
  bif r23.2 == 3 then
    (F.spec_l13Answer ((r1.1, r1.2.1, r1.2.2.1, r19, r1.2.2.2.2)) a1.2.1).bind fun r26 =>
    some ((r1.1, r1.2.1, r1.2.2.1, r19, r1.2.2.2.2), r26, 4)
  else
  bif r23.2 == 0 then
    bif r1.2.2.1 then
      (F.spec_l13Answer ((r1.1, r1.2.1, r1.2.2.1, r19, r1.2.2.2.2)) a1.2.1).bind fun r27 =>
      some ((r1.1, r1.2.1, r1.2.2.1, r19, r1.2.2.2.2), r27, 5)
    else
    (F.spec_EntryOf a1.2.1 a1.2.2.2.2.2.1).bind fun r28 =>
    chk (inb a1.2.1 (List.length r1.2.2.2.2.1)) <|
    chk (inb a1.2.2.2.2.2.1.2.1 (List.length (List.getD r1.2.2.2.2.1 ((Int.toNat a1.2.1)) ([])))) <|
    (F.spec_Items ((r1.1, r1.2.1, r1.2.2.1, r19, r1.2.2.2.2))).bind fun r29 =>
    (F.spec_RowPush (List.getD (List.getD r1.2.2.2.2.1 ((Int.toNat a1.2.1)) ([])) ((Int.toNat a1.2.2.2.2.2.1.2.1)) (([], ()))) r28.1 (decide (r29 ≥ r1.1.2.2.2.2.1))).bind fun r30 =>
    chk (inb a1.2.1 (List.length r1.2.2.2.2.1)) <|
    chk (inb a1.2.2.2.2.2.1.2.1 (List.length (List.getD r1.2.2.2.2.1 ((Int.toNat a1.2.1)) ([])))) <|
    (some (List.set r1.2.2.2.2.1 ((Int.toNat a1.2.1)) (List.set (List.getD r1.2.2.2.2.1 ((Int.toNat a1.2.1)) ([])) ((Int.toNat a1.2.2.2.2.2.1.2.1)) r30.1))).bind fun r31 =>
    chk (inb a1.2.1 (List.length r19)) <|
    (F.spec_l13Answer ((r1.1, r1.2.1, r1.2.2.1, List.set r19 ((Int.toNat a1.2.1)) r23.1, r31, r1.2.2.2.2.2)) a1.2.1).bind fun r32 =>
    some ((r1.1, r1.2.1, r1.2.2.1, List.set r19 ((Int.toNat a1.2.1)) r23.1, r31, r1.2.2.2.2.2), r32, 0)
  else
  (F.spec_l13Answer ((r1.1, r1.2.1, r1.2.2.1, r19, r1.2.2.2.2)) a1.2.1).bind fun r33 =>
  some ((r1.1, r1.2.1, r1.2.2.1, r19, r1.2.2.2.2), r33, 0)
noncomputable def C.spec_Ingress : Con := ⟨[.r (.val y22), .r (.val y23)], .many [y16, y18, (.int .i64)], fun x => F.spec_Ingress x.1 x.2.1⟩
def L.spec_Ingress : Loops := fun _ => none
noncomputable def K.spec_Ingress : Cons := lookK [(26, [], C.spec_HouseOk), (131, [], C.spec_l13Answer), (136, [], C.spec_l12Copy), (148, [], C.spec_FrameOk), (149, [], C.spec_SeatGrant), (150, [], C.spec_SeatData), (151, [], C.spec_EntryOf), (152, [], C.spec_RowPush), (153, [], C.spec_Items)]
theorem run.spec_Ingress : ∀ x, runF tb K.spec_Ingress L.spec_Ingress [] Tryz.f45 C.spec_Ingress x = C.spec_Ingress.fn x := fun x => by kernel_rfl

/-! ### impl.within: function 123 -/
noncomputable def F.impl_within (a0 : Int) (a1 : Int) (a2 : Int) : Option Bool :=
  bif decide (a0 ≥ a1) then
    some (decide (a0 ≤ a2))
  else
    some false
noncomputable def C.impl_within : Con := ⟨[.r (.val (.int .i64)), .r (.val (.int .i64)), .r (.val (.int .i64))], .one .bool, fun x => F.impl_within x.1 x.2.1 x.2.2.1⟩
def L.impl_within : Loops := fun _ => none
noncomputable def K.impl_within : Cons := lookK []
theorem run.impl_within : ∀ x, runF tb K.impl_within L.impl_within [] Tryz.f123 C.impl_within x = C.impl_within.fn x := fun x => by kernel_rfl

/-! ### impl.allWithin: function 245 -/
noncomputable def F.impl_allWithin.s2 : ((List Int) × Int × Int × Int × (List Int) × Int × Int × Unit) → Option (Lp ((List Int) × Int × Int × Int × (List Int) × Int × Int × Unit) Bool) := fun (x1, x2, x3, x4, x5, x6, x7, _) =>
  bif decide (x7 < x6) then
    chk (inb x7 (List.length x5)) <|
    (F.impl_within (List.getD x5 ((Int.toNat x7)) 0) x3 x4).bind fun r8 =>
    bif !r8 then
      some (.ret false)
    else
      some (.again (x1, x2, x3, x4, x5, x6, w64 (x7 + 1), ()))
  else
    some (.exit (x1, x2, x3, x4, x5, x6, x7, ()))
noncomputable def F.impl_allWithin (a0 : List Int) (a1 : Int) (a2 : Int) (a3 : Int) : Option Bool :=
  afterO (loopO F.impl_allWithin.s2 (a0, a1, a2, a3, a0, len a0, 0, ())) fun (x9, x10, x11, x12, x13, x14, x15, _) =>
  some ((len x9) == x10)
noncomputable def C.impl_allWithin : Con := ⟨[.r (.val (.sl false 3 (.int .i64))), .r (.val (.int .i64)), .r (.val (.int .i64)), .r (.val (.int .i64))], .one .bool, fun x => F.impl_allWithin x.1 x.2.1 x.2.2.1 x.2.2.2.1⟩
def L.impl_allWithin : Loops := lookL [(2, ⟨[.pat 0 (.val (.sl false 3 (.int .i64))), .pat 1 (.val (.int .i64)), .pat 2 (.val (.int .i64)), .pat 3 (.val (.int .i64)), .pat 11 (.val (.sl false 3 (.int .i64))), .pat 12 (.val (.int .i64)), .pat 13 (.val (.int .i64))], 0⟩)]
noncomputable def K.impl_allWithin : Cons := lookK [(123, [], C.impl_within)]
theorem run.impl_allWithin : ∀ x, runF tb K.impl_allWithin L.impl_allWithin [] Tryz.f245 C.impl_allWithin x = C.impl_allWithin.fn x := fun x => by kernel_rfl

/-! ### impl.ConfOk: function 215 -/
noncomputable def F.impl_ConfOk (a0 : DConf) : Option Bool :=
  (F.impl_within a0.1 1 8).bind fun r1 =>
  bif r1 then
    (F.impl_within a0.2.1 1 60).bind fun r2 =>
    bif r2 then
      (F.impl_within a0.2.2.1 1 10).bind fun r3 =>
      bif r3 then
        (F.impl_allWithin a0.2.2.2.1 3 1 4).bind fun r4 =>
        bif r4 then
          (F.impl_within a0.2.2.2.2.1 1 100).bind fun r5 =>
          bif r5 then
            (F.impl_within a0.2.2.2.2.2.1 1 20).bind fun r6 =>
            bif r6 then
              (F.impl_within a0.2.2.2.2.2.2.1 0 20).bind fun r7 =>
              bif r7 then
                (F.impl_within a0.2.2.2.2.2.2.2.1 1 50).bind fun r8 =>
                some r8
              else
                some false
            else
              some false
          else
            some false
        else
          some false
      else
        some false
    else
      some false
  else
    some false
noncomputable def C.impl_ConfOk : Con := ⟨[.r (.val y0)], .one .bool, fun x => F.impl_ConfOk x.1⟩
def L.impl_ConfOk : Loops := fun _ => none
noncomputable def K.impl_ConfOk : Cons := lookK [(123, [], C.impl_within), (245, [], C.impl_allWithin)]
theorem run.impl_ConfOk : ∀ x, runF tb K.impl_ConfOk L.impl_ConfOk [] Tryz.f215 C.impl_ConfOk x = C.impl_ConfOk.fn x := fun x => by kernel_rfl

/-! ### impl.SetOk: function 176 -/
noncomputable def F.impl_SetOk.s2 : ((List DSpan) × (List DSpan) × Int × Int × Unit) → Option (Lp ((List DSpan) × (List DSpan) × Int × Int × Unit) Bool) := fun (x1, x2, x3, x4, _) =>
  bif decide (x4 < x3) then
    chk (inb x4 (List.length x2)) <|
    (F.impl_within ((List.getD x2 ((Int.toNat x4)) ((0, 0, ()))).1) 0 9999).bind fun r5 =>
    bif !r5 then
      some (.ret false)
    else
    (F.impl_within (((List.getD x2 ((Int.toNat x4)) ((0, 0, ()))).2).1) ((List.getD x2 ((Int.toNat x4)) ((0, 0, ()))).1) 9999).bind fun r6 =>
    bif !r6 then
      some (.ret false)
    else
    bif decide (x4 > 0) then
      chk (inb (w64 (x4 - 1)) (List.length x1)) <|
      bif decide (((List.getD x2 ((Int.toNat x4)) ((0, 0, ()))).1) ≤ (w64 ((((List.getD x1 ((Int.toNat (w64 (x4 - 1)))) ((0, 0, ()))).2).1) + 1))) then
        some (.ret false)
      else
        some (.again (x1, x2, x3, w64 (x4 + 1), ()))
    else
      some (.again (x1, x2, x3, w64 (x4 + 1), ()))
  else
    some (.exit (x1, x2, x3, x4, ()))
noncomputable def F.impl_SetOk (a0 : List DSpan) : Option Bool :=
  afterO (loopO F.impl_SetOk.s2 (a0, a0, len a0, 0, ())) fun (x7, x8, x9, x10, _) =>
  some true
noncomputable def C.impl_SetOk : Con := ⟨[.r (.val (.sl false 150 y1))], .one .bool, fun x => F.impl_SetOk x.1⟩
def L.impl_SetOk : Loops := lookL [(2, ⟨[.pat 0 (.val (.sl false 150 y1)), .pat 5 (.val (.sl false 150 y1)), .pat 6 (.val (.int .i64)), .pat 7 (.val (.int .i64))], 0⟩)]
noncomputable def K.impl_SetOk : Cons := lookK [(123, [], C.impl_within)]
theorem run.impl_SetOk : ∀ x, runF tb K.impl_SetOk L.impl_SetOk [] Tryz.f176 C.impl_SetOk x = C.impl_SetOk.fn x := fun x => by kernel_rfl

/-! ### impl.allIn: function 218 -/
noncomputable def F.impl_allIn (a0 : List DSpan) (a1 : Int) (a2 : Int) : Option Bool :=
  (F.impl_SetOk a0).bind fun r1 =>
  bif r1 then
    bif (len a0) == 0 then
      some true
    else
    chk (inb 0 (List.length a0)) <|
    bif decide (((List.getD a0 0 ((0, 0, ()))).1) ≥ a1) then
      chk (inb (w64 ((len a0) - 1)) (List.length a0)) <|
      some (decide ((((List.getD a0 ((Int.toNat (w64 ((len a0) - 1)))) ((0, 0, ()))).2).1) ≤ a2))
    else
      some false
  else
    some false
noncomputable def C.impl_allIn : Con := ⟨[.r (.val (.sl false 150 y1)), .r (.val (.int .i64)), .r (.val (.int .i64))], .one .bool, fun x => F.impl_allIn x.1 x.2.1 x.2.2.1⟩
def L.impl_allIn : Loops := fun _ => none
noncomputable def K.impl_allIn : Cons := lookK [(176, [], C.impl_SetOk)]
theorem run.impl_allIn : ∀ x, runF tb K.impl_allIn L.impl_allIn [] Tryz.f218 C.impl_allIn x = C.impl_allIn.fn x := fun x => by kernel_rfl

/-! ### impl.SetSize: function 163 -/
noncomputable def F.impl_SetSize.s5 : (Int × (List DSpan) × Int × Int × Unit) → Option (Lp (Int × (List DSpan) × Int × Int × Unit) Int) := fun (x2, x3, x4, x5, _) =>
  bif decide (x5 < x4) then
    chk (inb x5 (List.length x3)) <|
    some (.again (w64 (x2 + (w64 ((w64 ((((List.getD x3 ((Int.toNat x5)) ((0, 0, ()))).2).1) - ((List.getD x3 ((Int.toNat x5)) ((0, 0, ()))).1))) + 1))), x3, x4, w64 (x5 + 1), ()))
  else
    some (.exit (x2, x3, x4, x5, ()))
noncomputable def F.impl_SetSize (a0 : List DSpan) : Option Int :=
  (F.impl_SetOk a0).bind fun r1 =>
  bif !r1 then
    some 0
  else
  afterO (loopO F.impl_SetSize.s5 (0, a0, len a0, 0, ())) fun (x6, x7, x8, x9, _) =>
  some x6
noncomputable def C.impl_SetSize : Con := ⟨[.r (.val (.sl false 150 y1))], .one (.int .i64), fun x => F.impl_SetSize x.1⟩
def L.impl_SetSize : Loops := lookL [(5, ⟨[.pat 3 (.val (.int .i64)), .pat 9 (.val (.sl false 150 y1)), .pat 10 (.val (.int .i64)), .pat 11 (.val (.int .i64))], 0⟩)]
noncomputable def K.impl_SetSize : Cons := lookK [(176, [], C.impl_SetOk)]
theorem run.impl_SetSize : ∀ x, runF tb K.impl_SetSize L.impl_SetSize [] Tryz.f163 C.impl_SetSize x = C.impl_SetSize.fn x := fun x => by kernel_rfl

/-! ### impl.SeatOk: function 216 -/
noncomputable def F.impl_SeatOk (a0 : DSeat) (a1 : Int) : Option Bool :=
  (F.impl_within a1 1 8).bind fun r1 =>
  bif r1 then
    (F.impl_within a0.1 0 1000).bind fun r2 =>
    bif r2 then
      (F.impl_within a0.2.1 0 60).bind fun r3 =>
      bif r3 then
        (F.impl_allIn a0.2.2.1 1 a0.2.1).bind fun r4 =>
        bif r4 then
          (F.impl_SetSize a0.2.2.1).bind fun r5 =>
          (F.impl_within a0.2.2.2.1 0 r5).bind fun r6 =>
          bif r6 then
            bif decide (a0.2.1 ≤ (w64 (a0.2.2.2.1 + a1))) then
              (F.impl_within a0.2.2.2.2.1 0 1000000).bind fun r7 =>
              some r7
            else
              some false
          else
            some false
        else
          some false
      else
        some false
    else
      some false
  else
    some false
noncomputable def C.impl_SeatOk : Con := ⟨[.r (.val y19), .r (.val (.int .i64))], .one .bool, fun x => F.impl_SeatOk x.1 x.2.1⟩
def L.impl_SeatOk : Loops := fun _ => none
noncomputable def K.impl_SeatOk : Cons := lookK [(123, [], C.impl_within), (163, [], C.impl_SetSize), (218, [], C.impl_allIn)]
theorem run.impl_SeatOk : ∀ x, runF tb K.impl_SeatOk L.impl_SeatOk [] Tryz.f216 C.impl_SeatOk x = C.impl_SeatOk.fn x := fun x => by kernel_rfl

/-! ### impl.copyInts: function 280 -/
noncomputable def F.impl_copyInts (a0 : List Int) : Option ((List Int)) :=
  chk (fits (List.length a0) 8) <|
  some a0
noncomputable def C.impl_copyInts : Con := ⟨[.r (.val (.sl false 3 (.int .i64)))], .one (.sl true 3 (.int .i64)), fun x => F.impl_copyInts x.1⟩
def L.impl_copyInts : Loops := fun _ => none
noncomputable def K.impl_copyInts : Cons := lookK []
theorem run.impl_copyInts : ∀ x, runF tb K.impl_copyInts L.impl_copyInts [] Tryz.f280 C.impl_copyInts x = C.impl_copyInts.fn x := fun x => by kernel_rfl

/-! ### impl.counts: function 231 -/
noncomputable def F.impl_counts.s3 : ((List Int) × (List (List Int)) × Int × Int × Unit) → Option (Lp ((List Int) × (List (List Int)) × Int × Int × Unit) ((List Int))) := fun (x2, x3, x4, x5, _) =>
  bif decide (x5 < x4) then
    chk (inb x5 (List.length x3)) <|
    chk (fits (List.length x2 + List.length (List.getD x3 ((Int.toNat x5)) ([]))) 8) <|
    some (.again (x2 ++ (List.getD x3 ((Int.toNat x5)) ([])), x3, x4, w64 (x5 + 1), ()))
  else
    some (.exit (x2, x3, x4, x5, ()))
noncomputable def F.impl_counts (a0 : DSketch) : Option ((List Int)) :=
  (F.impl_copyInts a0.2.2.2.2.1).bind fun r1 =>
  chk (fits (List.length r1 + List.length a0.2.2.2.2.2.1) 8) <|
  afterO (loopO F.impl_counts.s3 (r1 ++ a0.2.2.2.2.2.1, a0.2.2.2.2.2.2.1, len a0.2.2.2.2.2.2.1, 0, ())) fun (x6, x7, x8, x9, _) =>
  some x6
noncomputable def C.impl_counts : Con := ⟨[.r (.val y3)], .one (.sl true 3 (.int .i64)), fun x => F.impl_counts x.1⟩
def L.impl_counts : Loops := lookL [(3, ⟨[.own 3 (.sl true 3 (.int .i64)), .pat 13 (.val (.sl false 26 (.sl false 3 (.int .i64)))), .pat 14 (.val (.int .i64)), .pat 15 (.val (.int .i64))], 0⟩)]
noncomputable def K.impl_counts : Cons := lookK [(280, [], C.impl_copyInts)]
theorem run.impl_counts : ∀ x, runF tb K.impl_counts L.impl_counts [] Tryz.f231 C.impl_counts x = C.impl_counts.fn x := fun x => by kernel_rfl

/-! ### impl.SketchOk: function 177 -/
noncomputable def F.impl_SketchOk.s5 : (Int × (List Int) × Int × Int × DSketch × Unit) → Option (Lp (Int × (List Int) × Int × Int × DSketch × Unit) Bool) := fun (x2, x3, x4, x5, x6, _) =>
  bif decide (x5 < x4) then
    chk (inb x5 (List.length x3)) <|
    (F.impl_within (List.getD x3 ((Int.toNat x5)) 0) 0 1000000000).bind fun r7 =>
    bif !r7 then
      some (.ret false)
    else
      some (.again (w64 (x2 + (List.getD x3 ((Int.toNat x5)) 0)), x3, x4, w64 (x5 + 1), x6, ()))
  else
    some (.exit (x2, x3, x4, x5, x6, ()))
noncomputable def F.impl_SketchOk.s12 : (Int × (List Int) × Int × Int × DSketch × Unit) → Option (Lp (Int × (List Int) × Int × Int × DSketch × Unit) Bool) := fun (x13, x14, x15, x16, x17, _) =>
  bif decide (x16 < x15) then
    chk (inb x16 (List.length x14)) <|
    bif decide ((List.getD x14 ((Int.toNat x16)) 0) > 17) then
      some (.ret false)
    else
      some (.again (x13, x14, x15, w64 (x16 + 1), x17, ()))
  else
    some (.exit (x13, x14, x15, x16, x17, ()))
noncomputable def F.impl_SketchOk (a0 : DSketch) : Option Bool :=
  bif (len a0.2.2.2.2.1) != 8 then
    some false
  else
  bif (len a0.2.2.2.2.2.1) != 8 then
    some false
  else
  bif (len a0.2.2.2.2.2.2.1) != 2 then
    some false
  else
  chk (inb 0 (List.length a0.2.2.2.2.2.2.1)) <|
  bif (len (List.getD a0.2.2.2.2.2.2.1 0 ([]))) != 4 then
    some false
  else
  chk (inb 1 (List.length a0.2.2.2.2.2.2.1)) <|
  bif (len (List.getD a0.2.2.2.2.2.2.1 1 ([]))) != 4 then
    some false
  else
  (F.impl_counts a0).bind fun r1 =>
  chk (fits (List.length r1 + List.length ([a0.1, a0.2.1, a0.2.2.1, a0.2.2.2.1])) 8) <|
  afterO (loopO F.impl_SketchOk.s5 (0, r1 ++ ([a0.1, a0.2.1, a0.2.2.1, a0.2.2.2.1]), len (r1 ++ ([a0.1, a0.2.1, a0.2.2.1, a0.2.2.2.1])), 0, a0, ())) fun (x8, x9, x10, x11, x12, _) =>
  afterO (loopO F.impl_SketchOk.s12 (x8, x12.2.2.2.2.2.1, len x12.2.2.2.2.2.1, 0, x12, ())) fun (x18, x19, x20, x21, x22, _) =>
  bif x22.1 == 0 then
    some (x18 == 0)
  else
  bif decide (x22.2.2.1 ≤ x22.2.2.2.1) then
    some (decide (x22.2.2.2.1 ≤ 1000000))
  else
    some false
noncomputable def C.impl_SketchOk : Con := ⟨[.r (.val y3)], .one .bool, fun x => F.impl_SketchOk x.1⟩
def L.impl_SketchOk : Loops := lookL [(5, ⟨[.pat 3 (.val (.int .i64)), .own 51 (.sl true 3 (.int .i64)), .pat 52 (.val (.int .i64)), .pat 53 (.val (.int .i64)), .root 1 true y3 [1]], 0⟩), (12, ⟨[.pat 3 (.val (.int .i64)), .pat 65 (.val (.sl false 3 (.int .i64))), .pat 66 (.val (.int .i64)), .pat 67 (.val (.int .i64)), .root 1 true y3 [1]], 2⟩)]
noncomputable def K.impl_SketchOk : Cons := lookK [(123, [], C.impl_within), (231, [], C.impl_counts)]
theorem run.impl_SketchOk : ∀ x, runF tb K.impl_SketchOk L.impl_SketchOk [] Tryz.f177 C.impl_SketchOk x = C.impl_SketchOk.fn x := fun x => by kernel_rfl

/-! ### impl.EntryOk: function 62 -/
noncomputable def F.impl_EntryOk (a0 : DEntry) : Option Bool :=
  (F.impl_within a0.1 0 4).bind fun r1 =>
  bif r1 then
    (F.impl_within a0.2.1 0 20).bind fun r2 =>
    bif r2 then
      (F.impl_SetOk a0.2.2.1).bind fun r3 =>
      bif r3 then
        bif decide ((len a0.2.2.1) > 0) then
          (F.impl_SketchOk a0.2.2.2.1).bind fun r4 =>
          some r4
        else
          some false
      else
        some false
    else
      some false
  else
    some false
noncomputable def C.impl_EntryOk : Con := ⟨[.r (.val y20)], .one .bool, fun x => F.impl_EntryOk x.1⟩
def L.impl_EntryOk : Loops := fun _ => none
noncomputable def K.impl_EntryOk : Cons := lookK [(123, [], C.impl_within), (176, [], C.impl_SetOk), (177, [], C.impl_SketchOk)]
theorem run.impl_EntryOk : ∀ x, runF tb K.impl_EntryOk L.impl_EntryOk [] Tryz.f62 C.impl_EntryOk x = C.impl_EntryOk.fn x := fun x => by kernel_rfl

/-! ### impl.SetApart: function 179 -/
noncomputable def F.impl_SetApart.s7 : ((List DSpan) × (List DSpan) × Int × Int × (List DSpan) × Int × Int × DSpan × Unit) → Option (Lp ((List DSpan) × (List DSpan) × Int × Int × (List DSpan) × Int × Int × DSpan × Unit) (Lp ((List DSpan) × (List DSpan) × Int × Int × Unit) Bool)) := fun (x7, x8, x9, x10, x11, x12, x13, x14, _) =>
  bif decide (x13 < x12) then
    chk (inb x13 (List.length x11)) <|
    bif decide (x14.1 ≤ (((List.getD x11 ((Int.toNat x13)) ((0, 0, ()))).2).1)) then
      bif decide (((List.getD x11 ((Int.toNat x13)) ((0, 0, ()))).1) ≤ x14.2.1) then
        some (.ret (.ret false))
      else
        some (.again (x7, x8, x9, x10, x11, x12, w64 (x13 + 1), x14, ()))
    else
      some (.again (x7, x8, x9, x10, x11, x12, w64 (x13 + 1), x14, ()))
  else
    some (.exit (x7, x8, x9, x10, x11, x12, x13, x14, ()))
noncomputable def F.impl_SetApart.s4 : ((List DSpan) × (List DSpan) × Int × Int × Unit) → Option (Lp ((List DSpan) × (List DSpan) × Int × Int × Unit) Bool) := fun (x3, x4, x5, x6, _) =>
  bif decide (x6 < x5) then
    chk (inb x6 (List.length x4)) <|
    afterO (loopO F.impl_SetApart.s7 (x3, x4, x5, x6, x3, len x3, 0, List.getD x4 ((Int.toNat x6)) ((0, 0, ())), ())) fun (x15, x16, x17, x18, x19, x20, x21, x22, _) =>
    some (.again (x15, x16, x17, w64 (x18 + 1), ()))
  else
    some (.exit (x3, x4, x5, x6, ()))
noncomputable def F.impl_SetApart (a0 : List DSpan) (a1 : List DSpan) : Option Bool :=
  (F.impl_SetOk a0).bind fun r1 =>
  bif !r1 then
    some false
  else
  (F.impl_SetOk a1).bind fun r2 =>
  bif !r2 then
    some false
  else
  afterO (loopO F.impl_SetApart.s4 (a1, a0, len a0, 0, ())) fun (x23, x24, x25, x26, _) =>
  some true
noncomputable def C.impl_SetApart : Con := ⟨[.r (.val (.sl false 150 y1)), .r (.val (.sl false 150 y1))], .one .bool, fun x => F.impl_SetApart x.1 x.2.1⟩
def L.impl_SetApart : Loops := lookL [(7, ⟨[.pat 1 (.val (.sl false 150 y1)), .pat 17 (.val (.sl false 150 y1)), .pat 18 (.val (.int .i64)), .pat 19 (.val (.int .i64)), .pat 23 (.val (.sl false 150 y1)), .pat 24 (.val (.int .i64)), .pat 25 (.val (.int .i64)), .root 6 true y1 [6]], 2⟩), (4, ⟨[.pat 1 (.val (.sl false 150 y1)), .pat 17 (.val (.sl false 150 y1)), .pat 18 (.val (.int .i64)), .pat 19 (.val (.int .i64))], 0⟩)]
noncomputable def K.impl_SetApart : Cons := lookK [(176, [], C.impl_SetOk)]
theorem run.impl_SetApart : ∀ x, runF tb K.impl_SetApart L.impl_SetApart [] Tryz.f179 C.impl_SetApart x = C.impl_SetApart.fn x := fun x => by kernel_rfl

/-! ### impl.apart: function 107 -/
noncomputable def F.impl_apart.s7 : ((List DEntry) × (List DEntry) × Int × Int × (List DEntry) × Int × Int × DEntry × Unit) → Option (Lp ((List DEntry) × (List DEntry) × Int × Int × (List DEntry) × Int × Int × DEntry × Unit) (Lp ((List DEntry) × (List DEntry) × Int × Int × Unit) Bool)) := fun (x6, x7, x8, x9, x10, x11, x12, x13, _) =>
  bif decide (x12 < x11) then
    chk (inb x12 (List.length x10)) <|
    (F.impl_SetApart x13.2.2.1 ((((List.getD x10 ((Int.toNat x12)) ((0, 0, [], (0, 0, 0, 0, [], [], [], ()), ()))).2).2).1)).bind fun r14 =>
    bif !r14 then
      some (.ret (.ret false))
    else
      some (.again (x6, x7, x8, x9, x10, x11, w64 (x12 + 1), x13, ()))
  else
    some (.exit (x6, x7, x8, x9, x10, x11, x12, x13, ()))
noncomputable def F.impl_apart.s2 : ((List DEntry) × (List DEntry) × Int × Int × Unit) → Option (Lp ((List DEntry) × (List DEntry) × Int × Int × Unit) Bool) := fun (x1, x2, x3, x4, _) =>
  bif decide (x4 < x3) then
    chk (inb x4 (List.length x2)) <|
    (F.impl_EntryOk (List.getD x2 ((Int.toNat x4)) ((0, 0, [], (0, 0, 0, 0, [], [], [], ()), ())))).bind fun r5 =>
    bif !r5 then
      some (.ret false)
    else
    chk (cutOk 0 x4 (List.length x1)) <|
    afterO (loopO F.impl_apart.s7 (x1, x2, x3, x4, List.take ((Int.toNat x4) - 0) (List.drop 0 x1), len (List.take ((Int.toNat x4) - 0) (List.drop 0 x1)), 0, List.getD x2 ((Int.toNat x4)) ((0, 0, [], (0, 0, 0, 0, [], [], [], ()), ())), ())) fun (x15, x16, x17, x18, x19, x20, x21, x22, _) =>
    some (.again (x15, x16, x17, w64 (x18 + 1), ()))
  else
    some (.exit (x1, x2, x3, x4, ()))
noncomputable def F.impl_apart (a0 : List DEntry) : Option Bool :=
  afterO (loopO F.impl_apart.s2 (a0, a0, len a0, 0, ())) fun (x23, x24, x25, x26, _) =>
  some true
noncomputable def C.impl_apart : Con := ⟨[.r (.val (.sl false 31 y20))], .one .bool, fun x => F.impl_apart x.1⟩
def L.impl_apart : Loops := lookL [(7, ⟨[.pat 0 (.val (.sl false 31 y20)), .pat 7 (.val (.sl false 31 y20)), .pat 8 (.val (.int .i64)), .pat 9 (.val (.int .i64)), .pat 19 (.val (.sl false 31 y20)), .pat 20 (.val (.int .i64)), .pat 21 (.val (.int .i64)), .root 4 true y20 [4]], 2⟩), (2, ⟨[.pat 0 (.val (.sl false 31 y20)), .pat 7 (.val (.sl false 31 y20)), .pat 8 (.val (.int .i64)), .pat 9 (.val (.int .i64))], 0⟩)]
noncomputable def K.impl_apart : Cons := lookK [(62, [], C.impl_EntryOk), (179, [], C.impl_SetApart)]
theorem run.impl_apart : ∀ x, runF tb K.impl_apart L.impl_apart [] Tryz.f107 C.impl_apart x = C.impl_apart.fn x := fun x => by kernel_rfl

/-! ### impl.RowOk: function 217 -/
noncomputable def F.impl_RowOk (a0 : DRow) : Option Bool :=
  bif decide ((len a0.1) ≤ 24) then
    (F.impl_apart a0.1).bind fun r1 =>
    some r1
  else
    some false
noncomputable def C.impl_RowOk : Con := ⟨[.r (.val (.cons (.sl false 31 y20) .nil))], .one .bool, fun x => F.impl_RowOk x.1⟩
def L.impl_RowOk : Loops := fun _ => none
noncomputable def K.impl_RowOk : Cons := lookK [(107, [], C.impl_apart)]
theorem run.impl_RowOk : ∀ x, runF tb K.impl_RowOk L.impl_RowOk [] Tryz.f217 C.impl_RowOk x = C.impl_RowOk.fn x := fun x => by kernel_rfl

/-! ### impl.copySet: function 132 -/
noncomputable def F.impl_copySet (a0 : List DSpan) : Option ((List DSpan)) :=
  chk (fits (List.length a0) 16) <|
  some a0
noncomputable def C.impl_copySet : Con := ⟨[.r (.val (.sl false 150 y1))], .one (.sl true 150 y1), fun x => F.impl_copySet x.1⟩
def L.impl_copySet : Loops := fun _ => none
noncomputable def K.impl_copySet : Cons := lookK []
theorem run.impl_copySet : ∀ x, runF tb K.impl_copySet L.impl_copySet [] Tryz.f132 C.impl_copySet x = C.impl_copySet.fn x := fun x => by kernel_rfl

/-! ### slices.SortFunc[[]impl.Span,impl.Span]: function 223: by its contract -/
noncomputable def F.slices_SortFunc_Span__impl_union_1 (a0 : List DSpan) (a1 : Unit) : Option (List DSpan) :=
  chk (decide (a0.length ≤ 4000000000000)) <|
  some (sortS a0)
noncomputable def C.slices_SortFunc_Span__impl_union_1 : Con := ⟨[.c (.sl true 150 y1), .r (.fn 224 .nil)], .many [], fun x => F.slices_SortFunc_Span__impl_union_1 x.1 x.2.1⟩
-- EXT slices_SortFunc_Span__impl_union_1 223 sort 150 224

/-! ### impl.union: function 114 -/
noncomputable def F.impl_union.s5 : ((List DSpan) × (List DSpan) × Int × Int × Unit) → Option (Lp ((List DSpan) × (List DSpan) × Int × Int × Unit) ((List DSpan))) := fun (x3, x4, x5, x6, _) =>
  bif decide (x6 < x5) then
    chk (inb x6 (List.length x4)) <|
    bif decide ((len x3) > 0) then
      chk (inb (w64 ((len x3) - 1)) (List.length x3)) <|
      bif decide (((List.getD x4 ((Int.toNat x6)) ((0, 0, ()))).1) ≤ (w64 ((((List.getD x3 ((Int.toNat (w64 ((len x3) - 1)))) ((0, 0, ()))).2).1) + 1))) then
        chk (inb (w64 ((len x3) - 1)) (List.length x3)) <|
        chk (inb (w64 ((len x3) - 1)) (List.length x3)) <|
        (some (List.set x3 ((Int.toNat (w64 ((len x3) - 1)))) (((List.getD x3 ((Int.toNat (w64 ((len x3) - 1)))) ((0, 0, ()))).1, mxI (((List.getD x3 ((Int.toNat (w64 ((len x3) - 1)))) ((0, 0, ()))).2).1) (((List.getD x4 ((Int.toNat x6)) ((0, 0, ()))).2).1), ((List.getD x3 ((Int.toNat (w64 ((len x3) - 1)))) ((0, 0, ()))).2).2)))).bind fun r7 =>
        some (.again (r7, x4, x5, w64 (x6 + 1), ()))
      else
      chk (fits (List.length x3 + List.length ([List.getD x4 ((Int.toNat x6)) ((0, 0, ()))])) 16) <|
      some (.again (x3 ++ ([List.getD x4 ((Int.toNat x6)) ((0, 0, ()))]), x4, x5, w64 (x6 + 1), ()))
    else
    chk (fits (List.length x3 + List.length ([List.getD x4 ((Int.toNat x6)) ((0, 0, ()))])) 16) <|
    some (.again (x3 ++ ([List.getD x4 ((Int.toNat x6)) ((0, 0, ()))]), x4, x5, w64 (x6 + 1), ()))
  else
    some (.exit (x3, x4, x5, x6, ()))
noncomputable def F.impl_union (a0 : List DSpan) : Option ((List DSpan)) :=
  (F.impl_copySet a0).bind fun r1 =>
  (F.slices_SortFunc_Span__impl_union_1 r1 (())).bind fun r2 =>
  afterO (loopO F.impl_union.s5 (([] : List DSpan), r2, len r2, 0, ())) fun (x8, x9, x10, x11, _) =>
  some x8
noncomputable def C.impl_union : Con := ⟨[.r (.val (.sl false 150 y1))], .one (.sl true 150 y1), fun x => F.impl_union x.1⟩
def L.impl_union : Loops := lookL [(5, ⟨[.own 4 (.sl true 150 y1), .own 12 (.sl true 150 y1), .pat 13 (.val (.int .i64)), .pat 14 (.val (.int .i64))], 0⟩)]
noncomputable def K.impl_union : Cons := lookK [(132, [], C.impl_copySet), (223, [224], C.slices_SortFunc_Span__impl_union_1)]
theorem run.impl_union : ∀ x, runF tb K.impl_union L.impl_union [] Tryz.f114 C.impl_union x = C.impl_union.fn x := fun x => by kernel_rfl

/-! ### impl.idsOf: function 110 -/
noncomputable def F.impl_idsOf.s3 : ((List DSpan) × (List DEntry) × Int × Int × Unit) → Option (Lp ((List DSpan) × (List DEntry) × Int × Int × Unit) ((List DSpan))) := fun (x1, x2, x3, x4, _) =>
  bif decide (x4 < x3) then
    chk (inb x4 (List.length x2)) <|
    chk (fits (List.length x1 + List.length ((((List.getD x2 ((Int.toNat x4)) ((0, 0, [], (0, 0, 0, 0, [], [], [], ()), ()))).2).2).1)) 16) <|
    some (.again (x1 ++ ((((List.getD x2 ((Int.toNat x4)) ((0, 0, [], (0, 0, 0, 0, [], [], [], ()), ()))).2).2).1), x2, x3, w64 (x4 + 1), ()))
  else
    some (.exit (x1, x2, x3, x4, ()))
noncomputable def F.impl_idsOf (a0 : List DEntry) : Option ((List DSpan)) :=
  afterO (loopO F.impl_idsOf.s3 (([] : List DSpan), a0, len a0, 0, ())) fun (x5, x6, x7, x8, _) =>
  (F.impl_union x5).bind fun r9 =>
  some r9
noncomputable def C.impl_idsOf : Con := ⟨[.r (.val (.sl false 31 y20))], .one (.sl true 150 y1), fun x => F.impl_idsOf x.1⟩
def L.impl_idsOf : Loops := lookL [(3, ⟨[.own 3 (.sl true 150 y1), .pat 6 (.val (.sl false 31 y20)), .pat 7 (.val (.int .i64)), .pat 8 (.val (.int .i64))], 0⟩)]
noncomputable def K.impl_idsOf : Cons := lookK [(114, [], C.impl_union)]
theorem run.impl_idsOf : ∀ x, runF tb K.impl_idsOf L.impl_idsOf [] Tryz.f110 C.impl_idsOf x = C.impl_idsOf.fn x := fun x => by kernel_rfl

/-! ### impl.RowIds: function 219 -/
noncomputable def F.impl_RowIds (a0 : DRow) : Option ((List DSpan)) :=
  (F.impl_RowOk a0).bind fun r1 =>
  bif !r1 then
    some ([] : List DSpan)
  else
  (F.impl_idsOf a0.1).bind fun r2 =>
  some r2
noncomputable def C.impl_RowIds : Con := ⟨[.r (.val (.cons (.sl false 31 y20) .nil))], .one (.sl true 150 y1), fun x => F.impl_RowIds x.1⟩
def L.impl_RowIds : Loops := fun _ => none
noncomputable def K.impl_RowIds : Cons := lookK [(110, [], C.impl_idsOf), (217, [], C.impl_RowOk)]
theorem run.impl_RowIds : ∀ x, runF tb K.impl_RowIds L.impl_RowIds [] Tryz.f219 C.impl_RowIds x = C.impl_RowIds.fn x := fun x => by kernel_rfl

/-! ### impl.IdOf: function 112 -/
noncomputable def F.impl_IdOf (a0 : Int) (a1 : Int) : Option Int :=
  (F.impl_within a0 0 2).bind fun r1 =>
  bif !r1 then
    some (-1)
  else
  (F.impl_within a1 1 60).bind fun r2 =>
  bif !r2 then
    some (-1)
  else
    some (w64 ((w64 (100 * a0)) + a1))
noncomputable def C.impl_IdOf : Con := ⟨[.r (.val (.int .i64)), .r (.val (.int .i64))], .one (.int .i64), fun x => F.impl_IdOf x.1 x.2.1⟩
def L.impl_IdOf : Loops := fun _ => none
noncomputable def K.impl_IdOf : Cons := lookK [(123, [], C.impl_within)]
theorem run.impl_IdOf : ∀ x, runF tb K.impl_IdOf L.impl_IdOf [] Tryz.f112 C.impl_IdOf x = C.impl_IdOf.fn x := fun x => by kernel_rfl

/-! ### impl.TurnOk: function 220 -/
noncomputable def F.impl_TurnOk (a0 : DTurn) : Option Bool :=
  (F.impl_within a0.1 0 2).bind fun r1 =>
  bif r1 then
    (F.impl_allWithin a0.2.2.1 3 0 1000).bind fun r2 =>
    some r2
  else
    some false
noncomputable def C.impl_TurnOk : Con := ⟨[.r (.val y5)], .one .bool, fun x => F.impl_TurnOk x.1⟩
def L.impl_TurnOk : Loops := fun _ => none
noncomputable def K.impl_TurnOk : Cons := lookK [(123, [], C.impl_within), (245, [], C.impl_allWithin)]
theorem run.impl_TurnOk : ∀ x, runF tb K.impl_TurnOk L.impl_TurnOk [] Tryz.f220 C.impl_TurnOk x = C.impl_TurnOk.fn x := fun x => by kernel_rfl

/-! ### impl.ahead: function 69 -/
noncomputable def F.impl_ahead (a0 : DEntry) (a1 : DEntry) : Option Bool :=
  bif decide (a0.1 < a1.1) then
    some true
  else
  bif a0.1 == a1.1 then
    some (decide (a0.2.1 < a1.2.1))
  else
    some false
noncomputable def C.impl_ahead : Con := ⟨[.r (.val y20), .r (.val y20)], .one .bool, fun x => F.impl_ahead x.1 x.2.1⟩
def L.impl_ahead : Loops := fun _ => none
noncomputable def K.impl_ahead : Cons := lookK []
theorem run.impl_ahead : ∀ x, runF tb K.impl_ahead L.impl_ahead [] Tryz.f69 C.impl_ahead x = C.impl_ahead.fn x := fun x => by kernel_rfl

/-! ### impl.partsOk: function 106 -/
noncomputable def F.impl_partsOk.s9 : (Int × (List DSeat) × Int × Int × (List DRow) × Int × Int × DHouse × Unit) → Option (Lp (Int × (List DSeat) × Int × Int × (List DRow) × Int × Int × DHouse × Unit) (Lp ((List DSeat) × Int × Int × DHouse × Unit) Bool)) := fun (x9, x10, x11, x12, x13, x14, x15, x16, _) =>
  bif decide (x15 < x14) then
    chk (inb x15 (List.length x13)) <|
    (F.impl_RowOk (List.getD x13 ((Int.toNat x15)) (([], ())))).bind fun r17 =>
    bif !r17 then
      some (.ret (.ret false))
    else
    (F.impl_RowIds (List.getD x13 ((Int.toNat x15)) (([], ())))).bind fun r18 =>
    (F.impl_IdOf x9 1).bind fun r19 =>
    (F.impl_IdOf x9 60).bind fun r20 =>
    (F.impl_allIn r18 r19 r20).bind fun r21 =>
    bif !r21 then
      some (.ret (.ret false))
    else
      some (.again (x9, x10, x11, x12, x13, x14, w64 (x15 + 1), x16, ()))
  else
    some (.exit (x9, x10, x11, x12, x13, x14, x15, x16, ()))
noncomputable def F.impl_partsOk.s4 : ((List DSeat) × Int × Int × DHouse × Unit) → Option (Lp ((List DSeat) × Int × Int × DHouse × Unit) Bool) := fun (x4, x5, x6, x7, _) =>
  bif decide (x6 < x5) then
    chk (inb x6 (List.length x4)) <|
    (F.impl_SeatOk (List.getD x4 ((Int.toNat x6)) ((0, 0, [], 0, 0, ()))) x7.1.1).bind fun r8 =>
    bif !r8 then
      some (.ret false)
    else
    chk (inb x6 (List.length x7.2.2.2.2.1)) <|
    bif (len (List.getD x7.2.2.2.2.1 ((Int.toNat x6)) ([]))) != 2 then
      some (.ret false)
    else
    chk (inb x6 (List.length x7.2.2.2.2.1)) <|
    afterO (loopO F.impl_partsOk.s9 (x6, x4, x5, x6, List.getD x7.2.2.2.2.1 ((Int.toNat x6)) ([]), len (List.getD x7.2.2.2.2.1 ((Int.toNat x6)) ([])), 0, x7, ())) fun (x22, x23, x24, x25, x26, x27, x28, x29, _) =>
    some (.again (x23, x24, w64 (x25 + 1), x29, ()))
  else
    some (.exit (x4, x5, x6, x7, ()))
noncomputable def F.impl_partsOk.s16 : ((List DTurn) × Int × Int × DHouse × Unit) → Option (Lp ((List DTurn) × Int × Int × DHouse × Unit) Bool) := fun (x34, x35, x36, x37, _) =>
  bif decide (x36 < x35) then
    chk (inb x36 (List.length x34)) <|
    (F.impl_TurnOk (List.getD x34 ((Int.toNat x36)) ((0, false, [], ())))).bind fun r38 =>
    bif !r38 then
      some (.ret false)
    else
      some (.again (x34, x35, w64 (x36 + 1), x37, ()))
  else
    some (.exit (x34, x35, x36, x37, ()))
noncomputable def F.impl_partsOk.s22 : ((List DEntry) × Int × Int × DHouse × Unit) → Option (Lp ((List DEntry) × Int × Int × DHouse × Unit) Bool) := fun (x43, x44, x45, x46, _) =>
  bif decide (x45 < x44) then
    chk (inb x45 (List.length x43)) <|
    bif decide (x45 > 0) then
      chk (inb (w64 (x45 - 1)) (List.length x46.2.2.2.2.2.2.2.1)) <|
      (F.impl_ahead (List.getD x46.2.2.2.2.2.2.2.1 ((Int.toNat (w64 (x45 - 1)))) ((0, 0, [], (0, 0, 0, 0, [], [], [], ()), ()))) (List.getD x43 ((Int.toNat x45)) ((0, 0, [], (0, 0, 0, 0, [], [], [], ()), ())))).bind fun r47 =>
      bif !r47 then
        some (.ret false)
      else
        some (.again (x43, x44, w64 (x45 + 1), x46, ()))
    else
      some (.again (x43, x44, w64 (x45 + 1), x46, ()))
  else
    some (.exit (x43, x44, x45, x46, ()))
noncomputable def F.impl_partsOk (a0 : DHouse) : Option Bool :=
  (F.impl_ConfOk a0.1).bind fun r1 =>
  bif !r1 then
    some false
  else
  (F.impl_within a0.2.1 0 100000).bind fun r2 =>
  bif !r2 then
    some false
  else
  bif (len a0.2.2.2.1) != 3 then
    some false
  else
  bif (len a0.2.2.2.2.1) != 3 then
    some false
  else
  bif (len a0.2.2.2.2.2.1) != 2 then
    some false
  else
  (F.impl_within a0.2.2.2.2.2.2.1 0 1000).bind fun r3 =>
  bif !r3 then
    some false
  else
  afterO (loopO F.impl_partsOk.s4 (a0.2.2.2.1, len a0.2.2.2.1, 0, a0, ())) fun (x30, x31, x32, x33, _) =>
  afterO (loopO F.impl_partsOk.s16 (x33.2.2.2.2.2.1, len x33.2.2.2.2.2.1, 0, x33, ())) fun (x39, x40, x41, x42, _) =>
  afterO (loopO F.impl_partsOk.s22 (x42.2.2.2.2.2.2.2.1, len x42.2.2.2.2.2.2.2.1, 0, x42, ())) fun (x48, x49, x50, x51, _) =>
  some true
noncomputable def C.impl_partsOk : Con := ⟨[.r (.val y22)], .one .bool, fun x => F.impl_partsOk x.1⟩
def L.impl_partsOk : Loops := lookL [(9, ⟨[.pat 3 (.val (.int .i64)), .pat 46 (.val (.sl false 139 y19)), .pat 47 (.val (.int .i64)), .pat 48 (.val (.int .i64)), .pat 72 (.val (.sl false 105 (.cons (.sl false 31 y20) .nil))), .pat 73 (.val (.int .i64)), .pat 74 (.val (.int .i64)), .root 1 true y22 [1]], 2⟩), (4, ⟨[.pat 46 (.val (.sl false 139 y19)), .pat 47 (.val (.int .i64)), .pat 48 (.val (.int .i64)), .root 1 true y22 [1]], 0⟩), (16, ⟨[.pat 94 (.val (.sl false 175 y5)), .pat 95 (.val (.int .i64)), .pat 96 (.val (.int .i64)), .root 1 true y22 [1]], 4⟩), (22, ⟨[.pat 105 (.val (.sl false 31 y20)), .pat 106 (.val (.int .i64)), .pat 107 (.val (.int .i64)), .root 1 true y22 [1]], 6⟩)]
noncomputable def K.impl_partsOk : Cons := lookK [(69, [], C.impl_ahead), (112, [], C.impl_IdOf), (123, [], C.impl_within), (215, [], C.impl_ConfOk), (216, [], C.impl_SeatOk), (217, [], C.impl_RowOk), (218, [], C.impl_allIn), (219, [], C.impl_RowIds), (220, [], C.impl_TurnOk)]
theorem run.impl_partsOk : ∀ x, runF tb K.impl_partsOk L.impl_partsOk [] Tryz.f106 C.impl_partsOk x = C.impl_partsOk.fn x := fun x => by kernel_rfl

/-! ### impl.rowEntries: function 108 -/
noncomputable def F.impl_rowEntries.s6 : ((List DEntry) × (List (List DRow)) × Int × Int × (List DRow) × Int × Int × Unit) → Option (Lp ((List DEntry) × (List (List DRow)) × Int × Int × (List DRow) × Int × Int × Unit) (Lp ((List DEntry) × (List (List DRow)) × Int × Int × Unit) ((List DEntry)))) := fun (x5, x6, x7, x8, x9, x10, x11, _) =>
  bif decide (x11 < x10) then
    chk (inb x11 (List.length x9)) <|
    chk (fits (List.length x5 + List.length ((List.getD x9 ((Int.toNat x11)) (([], ()))).1)) 144) <|
    some (.again (x5 ++ ((List.getD x9 ((Int.toNat x11)) (([], ()))).1), x6, x7, x8, x9, x10, w64 (x11 + 1), ()))
  else
    some (.exit (x5, x6, x7, x8, x9, x10, x11, ()))
noncomputable def F.impl_rowEntries.s3 : ((List DEntry) × (List (List DRow)) × Int × Int × Unit) → Option (Lp ((List DEntry) × (List (List DRow)) × Int × Int × Unit) ((List DEntry))) := fun (x1, x2, x3, x4, _) =>
  bif decide (x4 < x3) then
    chk (inb x4 (List.length x2)) <|
    afterO (loopO F.impl_rowEntries.s6 (x1, x2, x3, x4, List.getD x2 ((Int.toNat x4)) ([]), len (List.getD x2 ((Int.toNat x4)) ([])), 0, ())) fun (x12, x13, x14, x15, x16, x17, x18, _) =>
    some (.again (x12, x13, x14, w64 (x15 + 1), ()))
  else
    some (.exit (x1, x2, x3, x4, ()))
noncomputable def F.impl_rowEntries (a0 : DHouse) : Option ((List DEntry)) :=
  afterO (loopO F.impl_rowEntries.s3 (([] : List DEntry), a0.2.2.2.2.1, len a0.2.2.2.2.1, 0, ())) fun (x19, x20, x21, x22, _) =>
  some x19
noncomputable def C.impl_rowEntries : Con := ⟨[.r (.val y22)], .one (.sl true 31 y20), fun x => F.impl_rowEntries x.1⟩
def L.impl_rowEntries : Loops := lookL [(6, ⟨[.own 3 (.sl true 31 y20), .pat 9 (.val (.sl false 159 (.sl false 105 (.cons (.sl false 31 y20) .nil)))), .pat 10 (.val (.int .i64)), .pat 11 (.val (.int .i64)), .pat 15 (.val (.sl false 105 (.cons (.sl false 31 y20) .nil))), .pat 16 (.val (.int .i64)), .pat 17 (.val (.int .i64))], 2⟩), (3, ⟨[.own 3 (.sl true 31 y20), .pat 9 (.val (.sl false 159 (.sl false 105 (.cons (.sl false 31 y20) .nil)))), .pat 10 (.val (.int .i64)), .pat 11 (.val (.int .i64))], 0⟩)]
noncomputable def K.impl_rowEntries : Cons := lookK []
theorem run.impl_rowEntries : ∀ x, runF tb K.impl_rowEntries L.impl_rowEntries [] Tryz.f108 C.impl_rowEntries x = C.impl_rowEntries.fn x := fun x => by kernel_rfl

/-! ### impl.added: function 109 -/
noncomputable def F.impl_added.s3 : ((List DEntry) × (List DOut) × Int × Int × Unit) → Option (Lp ((List DEntry) × (List DOut) × Int × Int × Unit) ((List DEntry))) := fun (x1, x2, x3, x4, _) =>
  bif decide (x4 < x3) then
    chk (inb x4 (List.length x2)) <|
    chk (fits (List.length x1 + List.length ([((List.getD x2 ((Int.toNat x4)) ((0, (0, 0, [], (0, 0, 0, 0, [], [], [], ()), ()), ()))).2).1])) 144) <|
    some (.again (x1 ++ ([((List.getD x2 ((Int.toNat x4)) ((0, (0, 0, [], (0, 0, 0, 0, [], [], [], ()), ()), ()))).2).1]), x2, x3, w64 (x4 + 1), ()))
  else
    some (.exit (x1, x2, x3, x4, ()))
noncomputable def F.impl_added (a0 : DHouse) : Option ((List DEntry)) :=
  chk (fits (List.length a0.2.2.2.2.2.2.2.1) 144) <|
  afterO (loopO F.impl_added.s3 (a0.2.2.2.2.2.2.2.1, a0.2.2.2.2.2.2.2.2.1, len a0.2.2.2.2.2.2.2.2.1, 0, ())) fun (x5, x6, x7, x8, _) =>
  some x5
noncomputable def C.impl_added : Con := ⟨[.r (.val y22)], .one (.sl true 31 y20), fun x => F.impl_added x.1⟩
def L.impl_added : Loops := lookL [(3, ⟨[.own 3 (.sl true 31 y20), .pat 10 (.val (.sl false 137 y21)), .pat 11 (.val (.int .i64)), .pat 12 (.val (.int .i64))], 0⟩)]
noncomputable def K.impl_added : Cons := lookK []
theorem run.impl_added : ∀ x, runF tb K.impl_added L.impl_added [] Tryz.f109 C.impl_added x = C.impl_added.fn x := fun x => by kernel_rfl

/-! ### impl.SetHas$1: function 222 -/
noncomputable def F.impl_SetHas_1 (a0 : DSpan) (a1 : Int) : Option Bool :=
  (F.impl_within a1 a0.1 a0.2.1).bind fun r1 =>
  some r1
noncomputable def C.impl_SetHas_1 : Con := ⟨[.r (.val y1), .r (.sptr (.int .i64))], .one .bool, fun x => F.impl_SetHas_1 x.1 x.2.1⟩
def L.impl_SetHas_1 : Loops := fun _ => none
noncomputable def K.impl_SetHas_1 : Cons := lookK [(123, [], C.impl_within)]
theorem run.impl_SetHas_1 : ∀ x, runF tb K.impl_SetHas_1 L.impl_SetHas_1 [] Tryz.f222 C.impl_SetHas_1 x = C.impl_SetHas_1.fn x := fun x => by kernel_rfl

/-! ### slices.IndexFunc[[]impl.Span,impl.Span]: function 287 -/
noncomputable def F.slices_IndexFunc_Span__impl_SetHas_1.s2 : ((List DSpan) × (Int × Unit) × Int × Int × Unit) → Option (Lp ((List DSpan) × (Int × Unit) × Int × Int × Unit) Int) := fun (x1, x2, x3, x4, _) =>
  bif decide (x4 < x3) then
    chk (inb x4 (List.length x1)) <|
    (F.impl_SetHas_1 (List.getD x1 ((Int.toNat x4)) ((0, 0, ()))) x2.1).bind fun r5 =>
    bif r5 then
      some (.ret x4)
    else
      some (.again (x1, (x2.1, ()), x3, w64 (x4 + 1), ()))
  else
    some (.exit (x1, (x2.1, ()), x3, x4, ()))
noncomputable def F.slices_IndexFunc_Span__impl_SetHas_1 (a0 : List DSpan) (a1 : Int × Unit) : Option Int :=
  afterO (loopO F.slices_IndexFunc_Span__impl_SetHas_1.s2 (a0, (a1.1, ()), len a0, 0, ())) fun (x6, x7, x8, x9, _) =>
  some (-1)
noncomputable def C.slices_IndexFunc_Span__impl_SetHas_1 : Con := ⟨[.r (.val (.sl false 150 y1)), .r (.fn 222 (.cons (.sptr (.int .i64)) .nil))], .one (.int .i64), fun x => F.slices_IndexFunc_Span__impl_SetHas_1 x.1 x.2.1⟩
def L.slices_IndexFunc_Span__impl_SetHas_1 : Loops := lookL [(2, ⟨[.pat 0 (.val (.sl false 150 y1)), .pat 1 (.fn 222 (.cons (.sptr (.int .i64)) .nil)), .pat 7 (.val (.int .i64)), .pat 8 (.val (.int .i64))], 0⟩)]
noncomputable def K.slices_IndexFunc_Span__impl_SetHas_1 : Cons := lookK [(222, [], C.impl_SetHas_1)]
theorem run.slices_IndexFunc_Span__impl_SetHas_1 : ∀ x, runF tb K.slices_IndexFunc_Span__impl_SetHas_1 L.slices_IndexFunc_Span__impl_SetHas_1 [] Tryz.f287 C.slices_IndexFunc_Span__impl_SetHas_1 x = C.slices_IndexFunc_Span__impl_SetHas_1.fn x := fun x => by kernel_rfl

/-! ### slices.ContainsFunc[[]impl.Span,impl.Span]: function 221 -/
noncomputable def F.slices_ContainsFunc_Span__impl_SetHas_1 (a0 : List DSpan) (a1 : Int × Unit) : Option Bool :=
  (F.slices_IndexFunc_Span__impl_SetHas_1 a0 ((a1.1, ()))).bind fun r1 =>
  some (decide (r1 ≥ 0))
noncomputable def C.slices_ContainsFunc_Span__impl_SetHas_1 : Con := ⟨[.r (.val (.sl false 150 y1)), .r (.fn 222 (.cons (.sptr (.int .i64)) .nil))], .one .bool, fun x => F.slices_ContainsFunc_Span__impl_SetHas_1 x.1 x.2.1⟩
def L.slices_ContainsFunc_Span__impl_SetHas_1 : Loops := fun _ => none
noncomputable def K.slices_ContainsFunc_Span__impl_SetHas_1 : Cons := lookK [(287, [222], C.slices_IndexFunc_Span__impl_SetHas_1)]
theorem run.slices_ContainsFunc_Span__impl_SetHas_1 : ∀ x, runF tb K.slices_ContainsFunc_Span__impl_SetHas_1 L.slices_ContainsFunc_Span__impl_SetHas_1 [] Tryz.f221 C.slices_ContainsFunc_Span__impl_SetHas_1 x = C.slices_ContainsFunc_Span__impl_SetHas_1.fn x := fun x => by kernel_rfl

/-! ### impl.SetHas: function 111 -/
noncomputable def F.impl_SetHas (a0 : List DSpan) (a1 : Int) : Option Bool :=
  (F.slices_ContainsFunc_Span__impl_SetHas_1 a0 ((a1, ()))).bind fun r1 =>
  some r1
noncomputable def C.impl_SetHas : Con := ⟨[.r (.val (.sl false 150 y1)), .r (.val (.int .i64))], .one .bool, fun x => F.impl_SetHas x.1 x.2.1⟩
def L.impl_SetHas : Loops := fun _ => none
noncomputable def K.impl_SetHas : Cons := lookK [(221, [222], C.slices_ContainsFunc_Span__impl_SetHas_1)]
theorem run.impl_SetHas : ∀ x, runF tb K.impl_SetHas L.impl_SetHas [] Tryz.f111 C.impl_SetHas x = C.impl_SetHas.fn x := fun x => by kernel_rfl

/-! ### slices.Equal[[]impl.Span,impl.Span]: function 113 -/
noncomputable def F.slices_Equal_Span.s4 : ((List DSpan) × (List DSpan) × Int × Int × Unit) → Option (Lp ((List DSpan) × (List DSpan) × Int × Int × Unit) Bool) := fun (x1, x2, x3, x4, _) =>
  bif decide (x4 < x3) then
    chk (inb x4 (List.length x1)) <|
    chk (inb x4 (List.length x2)) <|
    bif !(Ty.eqX (.cons (.int .i64) (.cons (.int .i64) .nil)) (List.getD x1 ((Int.toNat x4)) ((0, 0, ()))) (List.getD x2 ((Int.toNat x4)) ((0, 0, ())))) then
      some (.ret false)
    else
      some (.again (x1, x2, x3, w64 (x4 + 1), ()))
  else
    some (.exit (x1, x2, x3, x4, ()))
noncomputable def F.slices_Equal_Span (a0 : List DSpan) (a1 : List DSpan) : Option Bool :=
  bif (len a0) != (len a1) then
    some false
  else
  afterO (loopO F.slices_Equal_Span.s4 (a0, a1, len a0, 0, ())) fun (x5, x6, x7, x8, _) =>
  some true
noncomputable def C.slices_Equal_Span : Con := ⟨[.r (.val (.sl false 150 y1)), .r (.val (.sl false 150 y1))], .one .bool, fun x => F.slices_Equal_Span x.1 x.2.1⟩
def L.slices_Equal_Span : Loops := lookL [(4, ⟨[.pat 0 (.val (.sl false 150 y1)), .pat 1 (.val (.sl false 150 y1)), .pat 12 (.val (.int .i64)), .pat 13 (.val (.int .i64))], 0⟩)]
noncomputable def K.slices_Equal_Span : Cons := lookK []
theorem run.slices_Equal_Span : ∀ x, runF tb K.slices_Equal_Span L.slices_Equal_Span [] Tryz.f113 C.slices_Equal_Span x = C.slices_Equal_Span.fn x := fun x => by kernel_rfl

/-! ### impl.told: function 115 -/
noncomputable def F.impl_told.s3 : (Int × Int × Int × (List DOut) × Int × Int × Unit) → Option (Lp (Int × Int × Int × (List DOut) × Int × Int × Unit) Int) := fun (x1, x2, x3, x4, x5, x6, _) =>
  bif decide (x6 < x5) then
    chk (inb x6 (List.length x4)) <|
    bif ((((List.getD x4 ((Int.toNat x6)) ((0, (0, 0, [], (0, 0, 0, 0, [], [], [], ()), ()), ()))).2).1).1) == x1 then
      bif (((((List.getD x4 ((Int.toNat x6)) ((0, (0, 0, [], (0, 0, 0, 0, [], [], [], ()), ()), ()))).2).1).2).1) == x2 then
        some (.again (x1, x2, w64 (x3 + 1), x4, x5, w64 (x6 + 1), ()))
      else
        some (.again (x1, x2, x3, x4, x5, w64 (x6 + 1), ()))
    else
      some (.again (x1, x2, x3, x4, x5, w64 (x6 + 1), ()))
  else
    some (.exit (x1, x2, x3, x4, x5, x6, ()))
noncomputable def F.impl_told (a0 : List DOut) (a1 : Int) (a2 : Int) : Option Int :=
  afterO (loopO F.impl_told.s3 (a1, a2, 0, a0, len a0, 0, ())) fun (x7, x8, x9, x10, x11, x12, _) =>
  some x9
noncomputable def C.impl_told : Con := ⟨[.r (.val (.sl false 137 y21)), .r (.val (.int .i64)), .r (.val (.int .i64))], .one (.int .i64), fun x => F.impl_told x.1 x.2.1 x.2.2.1⟩
def L.impl_told : Loops := lookL [(3, ⟨[.pat 1 (.val (.int .i64)), .pat 2 (.val (.int .i64)), .pat 7 (.val (.int .i64)), .pat 10 (.val (.sl false 137 y21)), .pat 11 (.val (.int .i64)), .pat 12 (.val (.int .i64))], 0⟩)]
noncomputable def K.impl_told : Cons := lookK []
theorem run.impl_told : ∀ x, runF tb K.impl_told L.impl_told [] Tryz.f115 C.impl_told x = C.impl_told.fn x := fun x => by kernel_rfl

/-! ### impl.HouseOk: function 28 -/
noncomputable def F.impl_HouseOk.s10 : ((List DSpan) × (List DSpan) × Int × Int × Int × (List DSeat) × Int × Int × DHouse × DSeat × Unit) → Option (Lp ((List DSpan) × (List DSpan) × Int × Int × Int × (List DSeat) × Int × Int × DHouse × DSeat × Unit) (Lp ((List DSpan) × (List DSpan) × (List DSeat) × Int × Int × DHouse × Unit) Bool)) := fun (x13, x14, x15, x16, x17, x18, x19, x20, x21, x22, _) =>
  bif decide (x17 ≤ 60) then
    (F.impl_IdOf x15 x17).bind fun r23 =>
    (F.impl_SetHas x14 r23).bind fun r24 =>
    bif r24 then
      some (.again (x13, x14, x15, w64 (x16 + 1), w64 (x17 + 1), x18, x19, x20, x21, x22, ()))
    else
      some (.again (x13, x14, x15, x16, w64 (x17 + 1), x18, x19, x20, x21, x22, ()))
  else
    some (.exit (x13, x14, x15, x16, x17, x18, x19, x20, x21, x22, ()))
noncomputable def F.impl_HouseOk.s17 : ((List DSpan) × (List DSpan) × Int × (List DSeat) × Int × Int × (List DSpan) × Int × Int × DHouse × Unit) → Option (Lp ((List DSpan) × (List DSpan) × Int × (List DSeat) × Int × Int × (List DSpan) × Int × Int × DHouse × Unit) (Lp ((List DSpan) × (List DSpan) × (List DSeat) × Int × Int × DHouse × Unit) Bool)) := fun (x35, x36, x37, x38, x39, x40, x41, x42, x43, x44, _) =>
  bif decide (x43 < x42) then
    chk (inb x43 (List.length x41)) <|
    (F.impl_IdOf x37 ((List.getD x41 ((Int.toNat x43)) ((0, 0, ()))).1)).bind fun r45 =>
    (F.impl_IdOf x37 (((List.getD x41 ((Int.toNat x43)) ((0, 0, ()))).2).1)).bind fun r46 =>
    chk (fits (List.length x35 + List.length ([(r45, r46, ())])) 16) <|
    some (.again (x35 ++ ([(r45, r46, ())]), x36, x37, x38, x39, x40, x41, x42, w64 (x43 + 1), x44, ()))
  else
    some (.exit (x35, x36, x37, x38, x39, x40, x41, x42, x43, x44, ()))
noncomputable def F.impl_HouseOk.s6 : ((List DSpan) × (List DSpan) × (List DSeat) × Int × Int × DHouse × Unit) → Option (Lp ((List DSpan) × (List DSpan) × (List DSeat) × Int × Int × DHouse × Unit) Bool) := fun (x7, x8, x9, x10, x11, x12, _) =>
  bif decide (x11 < x10) then
    chk (inb x11 (List.length x9)) <|
    afterO (loopO F.impl_HouseOk.s10 (x7, x8, x11, 0, 1, x9, x10, x11, x12, List.getD x9 ((Int.toNat x11)) ((0, 0, [], 0, 0, ())), ())) fun (x25, x26, x27, x28, x29, x30, x31, x32, x33, x34, _) =>
    bif x28 != x34.2.2.2.1 then
      some (.ret false)
    else
    afterO (loopO F.impl_HouseOk.s17 (x25, x26, x27, x30, x31, x32, x34.2.2.1, len x34.2.2.1, 0, x33, ())) fun (x47, x48, x49, x50, x51, x52, x53, x54, x55, x56, _) =>
    some (.again (x47, x48, x50, x51, w64 (x52 + 1), x56, ()))
  else
    some (.exit (x7, x8, x9, x10, x11, x12, ()))
noncomputable def F.impl_HouseOk.s25 : ((List DOut) × Int × Int × DHouse × Unit) → Option (Lp ((List DOut) × Int × Int × DHouse × Unit) Bool) := fun (x68, x69, x70, x71, _) =>
  bif decide (x70 < x69) then
    chk (inb x70 (List.length x68)) <|
    chk (cutOk 0 x70 (List.length x71.2.2.2.2.2.2.2.2.1)) <|
    (F.impl_told (List.take ((Int.toNat x70) - 0) (List.drop 0 x71.2.2.2.2.2.2.2.2.1)) ((((List.getD x68 ((Int.toNat x70)) ((0, (0, 0, [], (0, 0, 0, 0, [], [], [], ()), ()), ()))).2).1).1) (((((List.getD x68 ((Int.toNat x70)) ((0, (0, 0, [], (0, 0, 0, 0, [], [], [], ()), ()), ()))).2).1).2).1)).bind fun r72 =>
    bif ((List.getD x68 ((Int.toNat x70)) ((0, (0, 0, [], (0, 0, 0, 0, [], [], [], ()), ()), ()))).1) != r72 then
      some (.ret false)
    else
      some (.again (x68, x69, w64 (x70 + 1), x71, ()))
  else
    some (.exit (x68, x69, x70, x71, ()))
noncomputable def F.impl_HouseOk (a0 : DHouse) : Option Bool :=
  (F.impl_partsOk a0).bind fun r1 =>
  bif !r1 then
    some false
  else
  (F.impl_rowEntries a0).bind fun r2 =>
  (F.impl_added a0).bind fun r3 =>
  chk (fits (List.length r2 + List.length r3) 144) <|
  (F.impl_apart (r2 ++ r3)).bind fun r4 =>
  bif !r4 then
    some false
  else
  (F.impl_added a0).bind fun r5 =>
  (F.impl_idsOf r5).bind fun r6 =>
  afterO (loopO F.impl_HouseOk.s6 (([] : List DSpan), r6, a0.2.2.2.1, len a0.2.2.2.1, 0, a0, ())) fun (x57, x58, x59, x60, x61, x62, _) =>
  (F.impl_union x57).bind fun r63 =>
  (F.impl_rowEntries x62).bind fun r64 =>
  (F.impl_added x62).bind fun r65 =>
  chk (fits (List.length r64 + List.length r65) 144) <|
  (F.impl_idsOf (r64 ++ r65)).bind fun r66 =>
  (F.slices_Equal_Span r63 r66).bind fun r67 =>
  bif !r67 then
    some false
  else
  afterO (loopO F.impl_HouseOk.s25 (x62.2.2.2.2.2.2.2.2.1, len x62.2.2.2.2.2.2.2.2.1, 0, x62, ())) fun (x73, x74, x75, x76, _) =>
  some true
noncomputable def C.impl_HouseOk : Con := ⟨[.r (.val y22)], .one .bool, fun x => F.impl_HouseOk x.1⟩
def L.impl_HouseOk : Loops := lookL [(10, ⟨[.own 3 (.sl true 150 y1), .own 4 (.sl true 150 y1), .pat 5 (.val (.int .i64)), .pat 7 (.val (.int .i64)), .pat 8 (.val (.int .i64)), .pat 29 (.val (.sl false 139 y19)), .pat 30 (.val (.int .i64)), .pat 31 (.val (.int .i64)), .root 1 true y22 [1], .root 6 true y19 [6]], 2⟩), (17, ⟨[.own 3 (.sl true 150 y1), .own 4 (.sl true 150 y1), .pat 5 (.val (.int .i64)), .pat 29 (.val (.sl false 139 y19)), .pat 30 (.val (.int .i64)), .pat 31 (.val (.int .i64)), .pat 52 (.val (.sl false 150 y1)), .pat 53 (.val (.int .i64)), .pat 54 (.val (.int .i64)), .root 1 true y22 [1]], 4⟩), (6, ⟨[.own 3 (.sl true 150 y1), .own 4 (.sl true 150 y1), .pat 29 (.val (.sl false 139 y19)), .pat 30 (.val (.int .i64)), .pat 31 (.val (.int .i64)), .root 1 true y22 [1]], 0⟩), (25, ⟨[.pat 83 (.val (.sl false 137 y21)), .pat 84 (.val (.int .i64)), .pat 85 (.val (.int .i64)), .root 1 true y22 [1]], 6⟩)]
noncomputable def K.impl_HouseOk : Cons := lookK [(106, [], C.impl_partsOk), (107, [], C.impl_apart), (108, [], C.impl_rowEntries), (109, [], C.impl_added), (110, [], C.impl_idsOf), (111, [], C.impl_SetHas), (112, [], C.impl_IdOf), (113, [], C.slices_Equal_Span), (114, [], C.impl_union), (115, [], C.impl_told)]
theorem run.impl_HouseOk : ∀ x, runF tb K.impl_HouseOk L.impl_HouseOk [] Tryz.f28 C.impl_HouseOk x = C.impl_HouseOk.fn x := fun x => by kernel_rfl

/-! ### impl.copyConf: function 240 -/
noncomputable def F.impl_copyConf (a0 : DConf) : Option DConf :=
  (F.impl_copyInts a0.2.2.2.1).bind fun r1 =>
  some (a0.1, a0.2.1, a0.2.2.1, r1, a0.2.2.2.2)
noncomputable def C.impl_copyConf : Con := ⟨[.r (.val y0)], .one y10, fun x => F.impl_copyConf x.1⟩
def L.impl_copyConf : Loops := fun _ => none
noncomputable def K.impl_copyConf : Cons := lookK [(280, [], C.impl_copyInts)]
theorem run.impl_copyConf : ∀ x, runF tb K.impl_copyConf L.impl_copyConf [] Tryz.f240 C.impl_copyConf x = C.impl_copyConf.fn x := fun x => by kernel_rfl

/-! ### impl.copySketch: function 184 -/
noncomputable def F.impl_copySketch.s6 : ((List (List Int)) × Int × Int × DSketch × DSketch × Unit) → Option (Lp ((List (List Int)) × Int × Int × DSketch × DSketch × Unit) DSketch) := fun (x3, x4, x5, x6, x7, _) =>
  bif decide (x5 < x4) then
    chk (inb x5 (List.length x3)) <|
    (F.impl_copyInts (List.getD x3 ((Int.toNat x5)) ([]))).bind fun r8 =>
    chk (fits (List.length x7.2.2.2.2.2.2.1 + List.length ([r8])) 24) <|
    some (.again (x3, x4, w64 (x5 + 1), x6, (x7.1, x7.2.1, x7.2.2.1, x7.2.2.2.1, x7.2.2.2.2.1, x7.2.2.2.2.2.1, x7.2.2.2.2.2.2.1 ++ ([r8]), x7.2.2.2.2.2.2.2), ()))
  else
    some (.exit (x3, x4, x5, x6, x7, ()))
noncomputable def F.impl_copySketch (a0 : DSketch) : Option DSketch :=
  (F.impl_copyInts a0.2.2.2.2.1).bind fun r1 =>
  (F.impl_copyInts a0.2.2.2.2.2.1).bind fun r2 =>
  afterO (loopO F.impl_copySketch.s6 (a0.2.2.2.2.2.2.1, len a0.2.2.2.2.2.2.1, 0, (0, 0, 0, 0, ([] : List Int), ([] : List Int), ([] : List (List Int)), ()), (a0.1, a0.2.1, a0.2.2.1, a0.2.2.2.1, r1, r2, ([] : List (List Int)), a0.2.2.2.2.2.2.2), ())) fun (x9, x10, x11, x12, x13, _) =>
  some x13
noncomputable def C.impl_copySketch : Con := ⟨[.r (.val y3)], .one y12, fun x => F.impl_copySketch x.1⟩
def L.impl_copySketch : Loops := lookL [(6, ⟨[.pat 17 (.val (.sl false 26 (.sl false 3 (.int .i64)))), .pat 18 (.val (.int .i64)), .pat 19 (.val (.int .i64)), .root 2 true y12 [2], .root 3 true y12 [3]], 0⟩)]
noncomputable def K.impl_copySketch : Cons := lookK [(280, [], C.impl_copyInts)]
theorem run.impl_copySketch : ∀ x, runF tb K.impl_copySketch L.impl_copySketch [] Tryz.f184 C.impl_copySketch x = C.impl_copySketch.fn x := fun x => by kernel_rfl

/-! ### impl.copyEntry: function 71 -/
noncomputable def F.impl_copyEntry (a0 : DEntry) : Option DEntry :=
  (F.impl_copySet a0.2.2.1).bind fun r1 =>
  (F.impl_copySketch a0.2.2.2.1).bind fun r2 =>
  some (a0.1, a0.2.1, r1, r2, a0.2.2.2.2)
noncomputable def C.impl_copyEntry : Con := ⟨[.r (.val y20)], .one y13, fun x => F.impl_copyEntry x.1⟩
def L.impl_copyEntry : Loops := fun _ => none
noncomputable def K.impl_copyEntry : Cons := lookK [(132, [], C.impl_copySet), (184, [], C.impl_copySketch)]
theorem run.impl_copyEntry : ∀ x, runF tb K.impl_copyEntry L.impl_copyEntry [] Tryz.f71 C.impl_copyEntry x = C.impl_copyEntry.fn x := fun x => by kernel_rfl

/-! ### impl.copyEntries: function 61 -/
noncomputable def F.impl_copyEntries.s3 : ((List DEntry) × (List DEntry) × Int × Int × Unit) → Option (Lp ((List DEntry) × (List DEntry) × Int × Int × Unit) ((List DEntry))) := fun (x1, x2, x3, x4, _) =>
  bif decide (x4 < x3) then
    chk (inb x4 (List.length x2)) <|
    (F.impl_copyEntry (List.getD x2 ((Int.toNat x4)) ((0, 0, [], (0, 0, 0, 0, [], [], [], ()), ())))).bind fun r5 =>
    chk (fits (List.length x1 + List.length ([r5])) 144) <|
    some (.again (x1 ++ ([r5]), x2, x3, w64 (x4 + 1), ()))
  else
    some (.exit (x1, x2, x3, x4, ()))
noncomputable def F.impl_copyEntries (a0 : List DEntry) : Option ((List DEntry)) :=
  afterO (loopO F.impl_copyEntries.s3 (([] : List DEntry), a0, len a0, 0, ())) fun (x6, x7, x8, x9, _) =>
  some x6
noncomputable def C.impl_copyEntries : Con := ⟨[.r (.val (.sl false 31 y20))], .one (.sl true 31 y13), fun x => F.impl_copyEntries x.1⟩
def L.impl_copyEntries : Loops := lookL [(3, ⟨[.own 3 (.sl true 31 y13), .pat 6 (.val (.sl false 31 y20)), .pat 7 (.val (.int .i64)), .pat 8 (.val (.int .i64))], 0⟩)]
noncomputable def K.impl_copyEntries : Cons := lookK [(71, [], C.impl_copyEntry)]
theorem run.impl_copyEntries : ∀ x, runF tb K.impl_copyEntries L.impl_copyEntries [] Tryz.f61 C.impl_copyEntries x = C.impl_copyEntries.fn x := fun x => by kernel_rfl

/-! ### impl.copyOuts: function 241 -/
noncomputable def F.impl_copyOuts.s3 : ((List DOut) × (List DOut) × Int × Int × Unit) → Option (Lp ((List DOut) × (List DOut) × Int × Int × Unit) ((List DOut))) := fun (x1, x2, x3, x4, _) =>
  bif decide (x4 < x3) then
    chk (inb x4 (List.length x2)) <|
    (F.impl_copyEntry (((List.getD x2 ((Int.toNat x4)) ((0, (0, 0, [], (0, 0, 0, 0, [], [], [], ()), ()), ()))).2).1)).bind fun r5 =>
    chk (fits (List.length x1 + List.length ([((List.getD x2 ((Int.toNat x4)) ((0, (0, 0, [], (0, 0, 0, 0, [], [], [], ()), ()), ()))).1, r5, ())])) 152) <|
    some (.again (x1 ++ ([((List.getD x2 ((Int.toNat x4)) ((0, (0, 0, [], (0, 0, 0, 0, [], [], [], ()), ()), ()))).1, r5, ())]), x2, x3, w64 (x4 + 1), ()))
  else
    some (.exit (x1, x2, x3, x4, ()))
noncomputable def F.impl_copyOuts (a0 : List DOut) : Option ((List DOut)) :=
  afterO (loopO F.impl_copyOuts.s3 (([] : List DOut), a0, len a0, 0, ())) fun (x6, x7, x8, x9, _) =>
  some x6
noncomputable def C.impl_copyOuts : Con := ⟨[.r (.val (.sl false 137 y21))], .one (.sl true 137 y15), fun x => F.impl_copyOuts x.1⟩
def L.impl_copyOuts : Loops := lookL [(3, ⟨[.own 3 (.sl true 137 y15), .pat 6 (.val (.sl false 137 y21)), .pat 7 (.val (.int .i64)), .pat 8 (.val (.int .i64))], 0⟩)]
noncomputable def K.impl_copyOuts : Cons := lookK [(71, [], C.impl_copyEntry)]
theorem run.impl_copyOuts : ∀ x, runF tb K.impl_copyOuts L.impl_copyOuts [] Tryz.f241 C.impl_copyOuts x = C.impl_copyOuts.fn x := fun x => by kernel_rfl

/-! ### impl.copySeat: function 242 -/
noncomputable def F.impl_copySeat (a0 : DSeat) : Option DSeat :=
  (F.impl_copySet a0.2.2.1).bind fun r1 =>
  some (a0.1, a0.2.1, r1, a0.2.2.2)
noncomputable def C.impl_copySeat : Con := ⟨[.r (.val y19)], .one y11, fun x => F.impl_copySeat x.1⟩
def L.impl_copySeat : Loops := fun _ => none
noncomputable def K.impl_copySeat : Cons := lookK [(132, [], C.impl_copySet)]
theorem run.impl_copySeat : ∀ x, runF tb K.impl_copySeat L.impl_copySeat [] Tryz.f242 C.impl_copySeat x = C.impl_copySeat.fn x := fun x => by kernel_rfl

/-! ### impl.copyRow: function 243 -/
noncomputable def F.impl_copyRow (a0 : DRow) : Option DRow :=
  (F.impl_copyEntries a0.1).bind fun r1 =>
  some (r1, ())
noncomputable def C.impl_copyRow : Con := ⟨[.r (.val (.cons (.sl false 31 y20) .nil))], .one (.cons (.sl true 31 y13) .nil), fun x => F.impl_copyRow x.1⟩
def L.impl_copyRow : Loops := fun _ => none
noncomputable def K.impl_copyRow : Cons := lookK [(61, [], C.impl_copyEntries)]
theorem run.impl_copyRow : ∀ x, runF tb K.impl_copyRow L.impl_copyRow [] Tryz.f243 C.impl_copyRow x = C.impl_copyRow.fn x := fun x => by kernel_rfl

/-! ### impl.copyTurn: function 244 -/
noncomputable def F.impl_copyTurn (a0 : DTurn) : Option DTurn :=
  (F.impl_copyInts a0.2.2.1).bind fun r1 =>
  some (a0.1, a0.2.1, r1, a0.2.2.2)
noncomputable def C.impl_copyTurn : Con := ⟨[.r (.val y5)], .one y14, fun x => F.impl_copyTurn x.1⟩
def L.impl_copyTurn : Loops := fun _ => none
noncomputable def K.impl_copyTurn : Cons := lookK [(280, [], C.impl_copyInts)]
theorem run.impl_copyTurn : ∀ x, runF tb K.impl_copyTurn L.impl_copyTurn [] Tryz.f244 C.impl_copyTurn x = C.impl_copyTurn.fn x := fun x => by kernel_rfl

/-! ### impl.copyHouse: function 138 -/
noncomputable def F.impl_copyHouse.s3 : ((List DSeat) × Int × Int × DHouse × DHouse × DHouse × Unit) → Option (Lp ((List DSeat) × Int × Int × DHouse × DHouse × DHouse × Unit) DHouse) := fun (x4, x5, x6, x7, x8, x9, _) =>
  bif decide (x6 < x5) then
    chk (inb x6 (List.length x4)) <|
    (F.impl_copySeat (List.getD x4 ((Int.toNat x6)) ((0, 0, [], 0, 0, ())))).bind fun r10 =>
    chk (fits (List.length x9.2.2.2.1 + List.length ([r10])) 56) <|
    some (.again (x4, x5, w64 (x6 + 1), x7, x8, (x9.1, x9.2.1, x9.2.2.1, x9.2.2.2.1 ++ ([r10]), x9.2.2.2.2), ()))
  else
    some (.exit (x4, x5, x6, x7, x8, x9, ()))
noncomputable def F.impl_copyHouse.s12 : ((List DRow) × (List (List DRow)) × Int × Int × (List DRow) × Int × Int × DHouse × DHouse × DHouse × Unit) → Option (Lp ((List DRow) × (List (List DRow)) × Int × Int × (List DRow) × Int × Int × DHouse × DHouse × DHouse × Unit) (Lp ((List (List DRow)) × Int × Int × DHouse × DHouse × DHouse × Unit) DHouse)) := fun (x23, x24, x25, x26, x27, x28, x29, x30, x31, x32, _) =>
  bif decide (x29 < x28) then
    chk (inb x29 (List.length x27)) <|
    (F.impl_copyRow (List.getD x27 ((Int.toNat x29)) (([], ())))).bind fun r33 =>
    chk (fits (List.length x23 + List.length ([r33])) 24) <|
    some (.again (x23 ++ ([r33]), x24, x25, x26, x27, x28, w64 (x29 + 1), x30, x31, x32, ()))
  else
    some (.exit (x23, x24, x25, x26, x27, x28, x29, x30, x31, x32, ()))
noncomputable def F.impl_copyHouse.s8 : ((List (List DRow)) × Int × Int × DHouse × DHouse × DHouse × Unit) → Option (Lp ((List (List DRow)) × Int × Int × DHouse × DHouse × DHouse × Unit) DHouse) := fun (x17, x18, x19, x20, x21, x22, _) =>
  bif decide (x19 < x18) then
    chk (inb x19 (List.length x17)) <|
    afterO (loopO F.impl_copyHouse.s12 (([] : List DRow), x17, x18, x19, List.getD x17 ((Int.toNat x19)) ([]), len (List.getD x17 ((Int.toNat x19)) ([])), 0, x20, x21, x22, ())) fun (x34, x35, x36, x37, x38, x39, x40, x41, x42, x43, _) =>
    chk (fits (List.length x43.2.2.2.2.1 + List.length ([x34])) 24) <|
    some (.again (x35, x36, w64 (x37 + 1), x41, x42, (x43.1, x43.2.1, x43.2.2.1, x43.2.2.2.1, x43.2.2.2.2.1 ++ ([x34]), x43.2.2.2.2.2), ()))
  else
    some (.exit (x17, x18, x19, x20, x21, x22, ()))
noncomputable def F.impl_copyHouse.s19 : ((List DTurn) × Int × Int × DHouse × DHouse × Unit) → Option (Lp ((List DTurn) × Int × Int × DHouse × DHouse × Unit) DHouse) := fun (x50, x51, x52, x53, x54, _) =>
  bif decide (x52 < x51) then
    chk (inb x52 (List.length x50)) <|
    (F.impl_copyTurn (List.getD x50 ((Int.toNat x52)) ((0, false, [], ())))).bind fun r55 =>
    chk (fits (List.length x54.2.2.2.2.2.1 + List.length ([r55])) 40) <|
    some (.again (x50, x51, w64 (x52 + 1), x53, (x54.1, x54.2.1, x54.2.2.1, x54.2.2.2.1, x54.2.2.2.2.1, x54.2.2.2.2.2.1 ++ ([r55]), x54.2.2.2.2.2.2), ()))
  else
    some (.exit (x50, x51, x52, x53, x54, ()))
noncomputable def F.impl_copyHouse (a0 : DHouse) : Option DHouse :=
  (F.impl_copyConf a0.1).bind fun r1 =>
  (F.impl_copyEntries a0.2.2.2.2.2.2.2.1).bind fun r2 =>
  (F.impl_copyOuts a0.2.2.2.2.2.2.2.2.1).bind fun r3 =>
  afterO (loopO F.impl_copyHouse.s3 (a0.2.2.2.1, len a0.2.2.2.1, 0, a0, ((0, 0, 0, ([] : List Int), 0, 0, 0, 0, ()), 0, false, ([] : List DSeat), ([] : List (List DRow)), ([] : List DTurn), 0, ([] : List DEntry), ([] : List DOut), ()), (r1, a0.2.1, a0.2.2.1, ([] : List DSeat), ([] : List (List DRow)), ([] : List DTurn), a0.2.2.2.2.2.2.1, r2, r3, ()), ())) fun (x11, x12, x13, x14, x15, x16, _) =>
  afterO (loopO F.impl_copyHouse.s8 (x14.2.2.2.2.1, len x14.2.2.2.2.1, 0, x14, x15, x16, ())) fun (x44, x45, x46, x47, x48, x49, _) =>
  afterO (loopO F.impl_copyHouse.s19 (x47.2.2.2.2.2.1, len x47.2.2.2.2.2.1, 0, x48, x49, ())) fun (x56, x57, x58, x59, x60, _) =>
  some x60
noncomputable def C.impl_copyHouse : Con := ⟨[.r (.val y22)], .one y16, fun x => F.impl_copyHouse x.1⟩
def L.impl_copyHouse : Loops := lookL [(3, ⟨[.pat 30 (.val (.sl false 139 y19)), .pat 31 (.val (.int .i64)), .pat 32 (.val (.int .i64)), .root 1 true y22 [1], .root 2 true y16 [2], .root 3 true y16 [3]], 0⟩), (12, ⟨[.own 8 (.sl true 105 (.cons (.sl true 31 y13) .nil)), .pat 45 (.val (.sl false 159 (.sl false 105 (.cons (.sl false 31 y20) .nil)))), .pat 46 (.val (.int .i64)), .pat 47 (.val (.int .i64)), .pat 51 (.val (.sl false 105 (.cons (.sl false 31 y20) .nil))), .pat 52 (.val (.int .i64)), .pat 53 (.val (.int .i64)), .root 1 true y22 [1], .root 2 true y16 [2], .root 3 true y16 [3]], 4⟩), (8, ⟨[.pat 45 (.val (.sl false 159 (.sl false 105 (.cons (.sl false 31 y20) .nil)))), .pat 46 (.val (.int .i64)), .pat 47 (.val (.int .i64)), .root 1 true y22 [1], .root 2 true y16 [2], .root 3 true y16 [3]], 2⟩), (19, ⟨[.pat 71 (.val (.sl false 175 y5)), .pat 72 (.val (.int .i64)), .pat 73 (.val (.int .i64)), .root 2 true y16 [2], .root 3 true y16 [3]], 6⟩)]
noncomputable def K.impl_copyHouse : Cons := lookK [(61, [], C.impl_copyEntries), (240, [], C.impl_copyConf), (241, [], C.impl_copyOuts), (242, [], C.impl_copySeat), (243, [], C.impl_copyRow), (244, [], C.impl_copyTurn)]
theorem run.impl_copyHouse : ∀ x, runF tb K.impl_copyHouse L.impl_copyHouse [] Tryz.f138 C.impl_copyHouse x = C.impl_copyHouse.fn x := fun x => by kernel_rfl

/-! ### impl.ItemOk: function 255 -/
noncomputable def F.impl_ItemOk (a0 : DItem) : Option Bool :=
  (F.impl_within a0.1 1 60).bind fun r1 =>
  bif r1 then
    (F.impl_within a0.2.1 0 1).bind fun r2 =>
    bif r2 then
      (F.impl_within a0.2.2.1 0 4).bind fun r3 =>
      bif r3 then
        (F.impl_within a0.2.2.2.1 0 20).bind fun r4 =>
        bif r4 then
          (F.impl_SketchOk a0.2.2.2.2.1).bind fun r5 =>
          some r5
        else
          some false
      else
        some false
    else
      some false
  else
    some false
noncomputable def C.impl_ItemOk : Con := ⟨[.r (.val y8)], .one .bool, fun x => F.impl_ItemOk x.1⟩
def L.impl_ItemOk : Loops := fun _ => none
noncomputable def K.impl_ItemOk : Cons := lookK [(123, [], C.impl_within), (177, [], C.impl_SketchOk)]
theorem run.impl_ItemOk : ∀ x, runF tb K.impl_ItemOk L.impl_ItemOk [] Tryz.f255 C.impl_ItemOk x = C.impl_ItemOk.fn x := fun x => by kernel_rfl

/-! ### slices.Equal[[]int,int]: function 319 -/
noncomputable def F.slices_Equal_int.s4 : ((List Int) × (List Int) × Int × Int × Unit) → Option (Lp ((List Int) × (List Int) × Int × Int × Unit) Bool) := fun (x1, x2, x3, x4, _) =>
  bif decide (x4 < x3) then
    chk (inb x4 (List.length x1)) <|
    chk (inb x4 (List.length x2)) <|
    bif (List.getD x1 ((Int.toNat x4)) 0) != (List.getD x2 ((Int.toNat x4)) 0) then
      some (.ret false)
    else
      some (.again (x1, x2, x3, w64 (x4 + 1), ()))
  else
    some (.exit (x1, x2, x3, x4, ()))
noncomputable def F.slices_Equal_int (a0 : List Int) (a1 : List Int) : Option Bool :=
  bif (len a0) != (len a1) then
    some false
  else
  afterO (loopO F.slices_Equal_int.s4 (a0, a1, len a0, 0, ())) fun (x5, x6, x7, x8, _) =>
  some true
noncomputable def C.slices_Equal_int : Con := ⟨[.r (.val (.sl false 3 (.int .i64))), .r (.val (.sl false 3 (.int .i64)))], .one .bool, fun x => F.slices_Equal_int x.1 x.2.1⟩
def L.slices_Equal_int : Loops := lookL [(4, ⟨[.pat 0 (.val (.sl false 3 (.int .i64))), .pat 1 (.val (.sl false 3 (.int .i64))), .pat 12 (.val (.int .i64)), .pat 13 (.val (.int .i64))], 0⟩)]
noncomputable def K.slices_Equal_int : Cons := lookK []
theorem run.slices_Equal_int : ∀ x, runF tb K.slices_Equal_int L.slices_Equal_int [] Tryz.f319 C.slices_Equal_int x = C.slices_Equal_int.fn x := fun x => by kernel_rfl

/-! ### slices.EqualFunc[[][]int,[][]int,[]int,[]int]: function 320 -/
noncomputable def F.slices_EqualFunc_SSint__slices_Equal_int.s4 : ((List (List Int)) × Unit × (List (List Int)) × Int × Int × Unit) → Option (Lp ((List (List Int)) × Unit × (List (List Int)) × Int × Int × Unit) Bool) := fun (x1, x2, x3, x4, x5, _) =>
  bif decide (x5 < x4) then
    chk (inb x5 (List.length x3)) <|
    chk (inb x5 (List.length x1)) <|
    (F.slices_Equal_int (List.getD x3 ((Int.toNat x5)) ([])) (List.getD x1 ((Int.toNat x5)) ([]))).bind fun r6 =>
    bif !r6 then
      some (.ret false)
    else
      some (.again (x1, (), x3, x4, w64 (x5 + 1), ()))
  else
    some (.exit (x1, (), x3, x4, x5, ()))
noncomputable def F.slices_EqualFunc_SSint__slices_Equal_int (a0 : List (List Int)) (a1 : List (List Int)) (a2 : Unit) : Option Bool :=
  bif (len a0) != (len a1) then
    some false
  else
  afterO (loopO F.slices_EqualFunc_SSint__slices_Equal_int.s4 (a1, (), a0, len a0, 0, ())) fun (x7, x8, x9, x10, x11, _) =>
  some true
noncomputable def C.slices_EqualFunc_SSint__slices_Equal_int : Con := ⟨[.r (.val (.sl false 26 (.sl false 3 (.int .i64)))), .r (.val (.sl false 26 (.sl false 3 (.int .i64)))), .r (.fn 319 .nil)], .one .bool, fun x => F.slices_EqualFunc_SSint__slices_Equal_int x.1 x.2.1 x.2.2.1⟩
def L.slices_EqualFunc_SSint__slices_Equal_int : Loops := lookL [(4, ⟨[.pat 1 (.val (.sl false 26 (.sl false 3 (.int .i64)))), .pat 2 (.fn 319 .nil), .pat 15 (.val (.sl false 26 (.sl false 3 (.int .i64)))), .pat 16 (.val (.int .i64)), .pat 17 (.val (.int .i64))], 0⟩)]
noncomputable def K.slices_EqualFunc_SSint__slices_Equal_int : Cons := lookK [(319, [], C.slices_Equal_int)]
theorem run.slices_EqualFunc_SSint__slices_Equal_int : ∀ x, runF tb K.slices_EqualFunc_SSint__slices_Equal_int L.slices_EqualFunc_SSint__slices_Equal_int [] Tryz.f320 C.slices_EqualFunc_SSint__slices_Equal_int x = C.slices_EqualFunc_SSint__slices_Equal_int.fn x := fun x => by kernel_rfl

/-! ### impl.SketchSame: function 295 -/
noncomputable def F.impl_SketchSame (a0 : DSketch) (a1 : DSketch) : Option Bool :=
  bif a0.1 == a1.1 then
    bif a0.2.1 == a1.2.1 then
      bif a0.2.2.1 == a1.2.2.1 then
        bif a0.2.2.2.1 == a1.2.2.2.1 then
          (F.slices_Equal_int a0.2.2.2.2.1 a1.2.2.2.2.1).bind fun r1 =>
          bif r1 then
            (F.slices_Equal_int a0.2.2.2.2.2.1 a1.2.2.2.2.2.1).bind fun r2 =>
            bif r2 then
              (F.slices_EqualFunc_SSint__slices_Equal_int a0.2.2.2.2.2.2.1 a1.2.2.2.2.2.2.1 (())).bind fun r3 =>
              some r3
            else
              some false
          else
            some false
        else
          some false
      else
        some false
    else
      some false
  else
    some false
noncomputable def C.impl_SketchSame : Con := ⟨[.r (.val y3), .r (.val y3)], .one .bool, fun x => F.impl_SketchSame x.1 x.2.1⟩
def L.impl_SketchSame : Loops := fun _ => none
noncomputable def K.impl_SketchSame : Cons := lookK [(319, [], C.slices_Equal_int), (320, [319], C.slices_EqualFunc_SSint__slices_Equal_int)]
theorem run.impl_SketchSame : ∀ x, runF tb K.impl_SketchSame L.impl_SketchSame [] Tryz.f295 C.impl_SketchSame x = C.impl_SketchSame.fn x := fun x => by kernel_rfl

/-! ### impl.itemSame: function 256 -/
noncomputable def F.impl_itemSame (a0 : DItem) (a1 : DItem) : Option Bool :=
  bif a0.1 == a1.1 then
    bif a0.2.1 == a1.2.1 then
      bif a0.2.2.1 == a1.2.2.1 then
        bif a0.2.2.2.1 == a1.2.2.2.1 then
          (F.impl_SketchSame a0.2.2.2.2.1 a1.2.2.2.2.1).bind fun r1 =>
          some r1
        else
          some false
      else
        some false
    else
      some false
  else
    some false
noncomputable def C.impl_itemSame : Con := ⟨[.r (.val y8), .r (.val y8)], .one .bool, fun x => F.impl_itemSame x.1 x.2.1⟩
def L.impl_itemSame : Loops := fun _ => none
noncomputable def K.impl_itemSame : Cons := lookK [(295, [], C.impl_SketchSame)]
theorem run.impl_itemSame : ∀ x, runF tb K.impl_itemSame L.impl_itemSame [] Tryz.f256 C.impl_itemSame x = C.impl_itemSame.fn x := fun x => by kernel_rfl

/-! ### impl.FrameOk: function 155 -/
noncomputable def F.impl_FrameOk (a0 : DFrame) : Option Bool :=
  (F.impl_within a0.1 0 3).bind fun r1 =>
  bif !r1 then
    some false
  else
  (F.impl_within a0.2.1 0 2).bind fun r2 =>
  bif !r2 then
    some false
  else
  (F.impl_within a0.2.2.1 0 1000).bind fun r3 =>
  bif !r3 then
    some false
  else
  (F.impl_within a0.2.2.2.1 0 60).bind fun r4 =>
  bif !r4 then
    some false
  else
  (F.impl_allIn a0.2.2.2.2.1 1 60).bind fun r5 =>
  bif !r5 then
    some false
  else
  bif a0.1 == 1 then
    (F.impl_ItemOk a0.2.2.2.2.2.1).bind fun r6 =>
    some r6
  else
  (F.impl_itemSame a0.2.2.2.2.2.1 ((0, 0, 0, 0, (0, 0, 0, 0, ([] : List Int), ([] : List Int), ([] : List (List Int)), ()), ()))).bind fun r7 =>
  some r7
noncomputable def C.impl_FrameOk : Con := ⟨[.r (.val y23)], .one .bool, fun x => F.impl_FrameOk x.1⟩
def L.impl_FrameOk : Loops := fun _ => none
noncomputable def K.impl_FrameOk : Cons := lookK [(123, [], C.impl_within), (218, [], C.impl_allIn), (255, [], C.impl_ItemOk), (256, [], C.impl_itemSame)]
theorem run.impl_FrameOk : ∀ x, runF tb K.impl_FrameOk L.impl_FrameOk [] Tryz.f155 C.impl_FrameOk x = C.impl_FrameOk.fn x := fun x => by kernel_rfl

/-! ### impl.SeatGrant: function 156 -/
noncomputable def F.impl_SeatGrant (a0 : DSeat) (a1 : Int) : Option DSeat :=
  (F.impl_copySeat a0).bind fun r1 =>
  (F.impl_SeatOk a0 a1).bind fun r2 =>
  bif r2 then
    some (r1.1, mnI 60 (w64 (a0.2.2.2.1 + a1)), r1.2.2)
  else
    some r1
noncomputable def C.impl_SeatGrant : Con := ⟨[.r (.val y19), .r (.val (.int .i64))], .one y11, fun x => F.impl_SeatGrant x.1 x.2.1⟩
def L.impl_SeatGrant : Loops := fun _ => none
noncomputable def K.impl_SeatGrant : Cons := lookK [(216, [], C.impl_SeatOk), (242, [], C.impl_copySeat)]
theorem run.impl_SeatGrant : ∀ x, runF tb K.impl_SeatGrant L.impl_SeatGrant [] Tryz.f156 C.impl_SeatGrant x = C.impl_SeatGrant.fn x := fun x => by kernel_rfl

/-! ### impl.Answer: function 37 -/
noncomputable def F.impl_Answer (a0 : DHouse) (a1 : Int) : Option DFrame :=
  (F.impl_HouseOk a0).bind fun r1 =>
  bif !r1 then
    some (0, 0, 0, 0, ([] : List DSpan), (0, 0, 0, 0, (0, 0, 0, 0, ([] : List Int), ([] : List Int), ([] : List (List Int)), ()), ()), ())
  else
  (F.impl_within a1 0 2).bind fun r2 =>
  bif !r2 then
    some (0, 0, 0, 0, ([] : List DSpan), (0, 0, 0, 0, (0, 0, 0, 0, ([] : List Int), ([] : List Int), ([] : List (List Int)), ()), ()), ())
  else
  chk (inb a1 (List.length a0.2.2.2.1)) <|
  (F.impl_copySet ((((List.getD a0.2.2.2.1 ((Int.toNat a1)) ((0, 0, [], 0, 0, ()))).2).2).1)).bind fun r3 =>
  some (2, a1, (List.getD a0.2.2.2.1 ((Int.toNat a1)) ((0, 0, [], 0, 0, ()))).1, ((List.getD a0.2.2.2.1 ((Int.toNat a1)) ((0, 0, [], 0, 0, ()))).2).1, r3, (0, 0, 0, 0, (0, 0, 0, 0, ([] : List Int), ([] : List Int), ([] : List (List Int)), ()), ()), ())
noncomputable def C.impl_Answer : Con := ⟨[.r (.val y22), .r (.val (.int .i64))], .one y18, fun x => F.impl_Answer x.1 x.2.1⟩
def L.impl_Answer : Loops := fun _ => none
noncomputable def K.impl_Answer : Cons := lookK [(28, [], C.impl_HouseOk), (123, [], C.impl_within), (132, [], C.impl_copySet)]
theorem run.impl_Answer : ∀ x, runF tb K.impl_Answer L.impl_Answer [] Tryz.f37 C.impl_Answer x = C.impl_Answer.fn x := fun x => by kernel_rfl

/-! ### impl.SetAdd: function 257 -/
noncomputable def F.impl_SetAdd (a0 : List DSpan) (a1 : Int) : Option ((List DSpan) × Bool) :=
  (F.impl_SetOk a0).bind fun r1 =>
  bif !r1 then
    (F.impl_copySet a0).bind fun r2 =>
    some (r2, false)
  else
  (F.impl_within a1 0 9999).bind fun r3 =>
  bif !r3 then
    (F.impl_copySet a0).bind fun r4 =>
    some (r4, false)
  else
  (F.impl_SetHas a0 a1).bind fun r5 =>
  bif r5 then
    (F.impl_copySet a0).bind fun r6 =>
    some (r6, false)
  else
  (F.impl_copySet a0).bind fun r7 =>
  chk (fits (List.length r7 + List.length ([(a1, a1, ())])) 16) <|
  (F.impl_union (r7 ++ ([(a1, a1, ())]))).bind fun r8 =>
  some (r8, true)
noncomputable def C.impl_SetAdd : Con := ⟨[.r (.val (.sl false 150 y1)), .r (.val (.int .i64))], .many [(.sl true 150 y1), .bool], fun x => F.impl_SetAdd x.1 x.2.1⟩
def L.impl_SetAdd : Loops := fun _ => none
noncomputable def K.impl_SetAdd : Cons := lookK [(111, [], C.impl_SetHas), (114, [], C.impl_union), (123, [], C.impl_within), (132, [], C.impl_copySet), (176, [], C.impl_SetOk)]
theorem run.impl_SetAdd : ∀ x, runF tb K.impl_SetAdd L.impl_SetAdd [] Tryz.f257 C.impl_SetAdd x = C.impl_SetAdd.fn x := fun x => by kernel_rfl

/-! ### impl.SeatData: function 157 -/
noncomputable def F.impl_SeatData (a0 : DSeat) (a1 : Int) (a2 : Int) (a3 : Int) : Option (DSeat × Int) :=
  (F.impl_copySeat a0).bind fun r1 =>
  (F.impl_SeatOk a0 a1).bind fun r2 =>
  bif !r2 then
    some (r1, 4)
  else
  (F.impl_within a3 1 60).bind fun r3 =>
  bif !r3 then
    some (r1, 4)
  else
  bif a2 != a0.1 then
    some (r1, 2)
  else
  (F.impl_SetHas a0.2.2.1 a3).bind fun r4 =>
  bif r4 then
    some (r1, 1)
  else
  bif decide (a3 > a0.2.1) then
    some (r1, 3)
  else
  (F.impl_SetAdd a0.2.2.1 a3).bind fun r5 =>
  some ((r1.1, r1.2.1, r5.1, r1.2.2.2), 0)
noncomputable def C.impl_SeatData : Con := ⟨[.r (.val y19), .r (.val (.int .i64)), .r (.val (.int .i64)), .r (.val (.int .i64))], .many [y11, (.int .i64)], fun x => F.impl_SeatData x.1 x.2.1 x.2.2.1 x.2.2.2.1⟩
def L.impl_SeatData : Loops := fun _ => none
noncomputable def K.impl_SeatData : Cons := lookK [(111, [], C.impl_SetHas), (123, [], C.impl_within), (216, [], C.impl_SeatOk), (242, [], C.impl_copySeat), (257, [], C.impl_SetAdd)]
theorem run.impl_SeatData : ∀ x, runF tb K.impl_SeatData L.impl_SeatData [] Tryz.f157 C.impl_SeatData x = C.impl_SeatData.fn x := fun x => by kernel_rfl

/-! ### impl.EntryOf: function 158 -/
noncomputable def F.impl_EntryOf (a0 : Int) (a1 : DItem) : Option (DEntry × Bool) :=
  (F.impl_IdOf a0 a1.1).bind fun r1 =>
  (F.impl_ItemOk a1).bind fun r2 =>
  bif !r2 then
    some ((0, 0, ([] : List DSpan), (0, 0, 0, 0, ([] : List Int), ([] : List Int), ([] : List (List Int)), ()), ()), false)
  else
  bif decide (r1 < 0) then
    some ((0, 0, ([] : List DSpan), (0, 0, 0, 0, ([] : List Int), ([] : List Int), ([] : List (List Int)), ()), ()), false)
  else
  (F.impl_copySketch a1.2.2.2.2.1).bind fun r3 =>
  some ((a1.2.2.1, a1.2.2.2.1, [(r1, r1, ())], r3, ()), true)
noncomputable def C.impl_EntryOf : Con := ⟨[.r (.val (.int .i64)), .r (.val y8)], .many [y13, .bool], fun x => F.impl_EntryOf x.1 x.2.1⟩
def L.impl_EntryOf : Loops := fun _ => none
noncomputable def K.impl_EntryOf : Cons := lookK [(112, [], C.impl_IdOf), (184, [], C.impl_copySketch), (255, [], C.impl_ItemOk)]
theorem run.impl_EntryOf : ∀ x, runF tb K.impl_EntryOf L.impl_EntryOf [] Tryz.f158 C.impl_EntryOf x = C.impl_EntryOf.fn x := fun x => by kernel_rfl

/-! ### impl.Items: function 139 -/
noncomputable def F.impl_Items (a0 : DHouse) : Option Int :=
  (F.impl_rowEntries a0).bind fun r1 =>
  some (len r1)
noncomputable def C.impl_Items : Con := ⟨[.r (.val y22)], .one (.int .i64), fun x => F.impl_Items x.1⟩
def L.impl_Items : Loops := fun _ => none
noncomputable def K.impl_Items : Cons := lookK [(108, [], C.impl_rowEntries)]
theorem run.impl_Items : ∀ x, runF tb K.impl_Items L.impl_Items [] Tryz.f139 C.impl_Items x = C.impl_Items.fn x := fun x => by kernel_rfl

/-! ### impl.placeOf$1: function 178 -/
noncomputable def F.impl_placeOf_1 (a0 : DEntry) (a1 : Int) (a2 : Int) : Option Bool :=
  bif a0.1 == a1 then
    some (a0.2.1 == a2)
  else
    some false
noncomputable def C.impl_placeOf_1 : Con := ⟨[.r (.val y20), .r (.sptr (.int .i64)), .r (.sptr (.int .i64))], .one .bool, fun x => F.impl_placeOf_1 x.1 x.2.1 x.2.2.1⟩
def L.impl_placeOf_1 : Loops := fun _ => none
noncomputable def K.impl_placeOf_1 : Cons := lookK []
theorem run.impl_placeOf_1 : ∀ x, runF tb K.impl_placeOf_1 L.impl_placeOf_1 [] Tryz.f178 C.impl_placeOf_1 x = C.impl_placeOf_1.fn x := fun x => by kernel_rfl

/-! ### slices.IndexFunc[[]impl.Entry,impl.Entry]: function 67 -/
noncomputable def F.slices_IndexFunc_Entry__impl_placeOf_1.s2 : ((List DEntry) × (Int × Int × Unit) × Int × Int × Unit) → Option (Lp ((List DEntry) × (Int × Int × Unit) × Int × Int × Unit) Int) := fun (x1, x2, x3, x4, _) =>
  bif decide (x4 < x3) then
    chk (inb x4 (List.length x1)) <|
    (F.impl_placeOf_1 (List.getD x1 ((Int.toNat x4)) ((0, 0, [], (0, 0, 0, 0, [], [], [], ()), ()))) x2.1 x2.2.1).bind fun r5 =>
    bif r5 then
      some (.ret x4)
    else
      some (.again (x1, (x2.1, x2.2.1, ()), x3, w64 (x4 + 1), ()))
  else
    some (.exit (x1, (x2.1, x2.2.1, ()), x3, x4, ()))
noncomputable def F.slices_IndexFunc_Entry__impl_placeOf_1 (a0 : List DEntry) (a1 : Int × Int × Unit) : Option Int :=
  afterO (loopO F.slices_IndexFunc_Entry__impl_placeOf_1.s2 (a0, (a1.1, a1.2.1, ()), len a0, 0, ())) fun (x6, x7, x8, x9, _) =>
  some (-1)
noncomputable def C.slices_IndexFunc_Entry__impl_placeOf_1 : Con := ⟨[.r (.val (.sl false 31 y20)), .r (.fn 178 (.cons (.sptr (.int .i64)) (.cons (.sptr (.int .i64)) .nil)))], .one (.int .i64), fun x => F.slices_IndexFunc_Entry__impl_placeOf_1 x.1 x.2.1⟩
def L.slices_IndexFunc_Entry__impl_placeOf_1 : Loops := lookL [(2, ⟨[.pat 0 (.val (.sl false 31 y20)), .pat 1 (.fn 178 (.cons (.sptr (.int .i64)) (.cons (.sptr (.int .i64)) .nil))), .pat 7 (.val (.int .i64)), .pat 8 (.val (.int .i64))], 0⟩)]
noncomputable def K.slices_IndexFunc_Entry__impl_placeOf_1 : Cons := lookK [(178, [], C.impl_placeOf_1)]
theorem run.slices_IndexFunc_Entry__impl_placeOf_1 : ∀ x, runF tb K.slices_IndexFunc_Entry__impl_placeOf_1 L.slices_IndexFunc_Entry__impl_placeOf_1 [] Tryz.f67 C.slices_IndexFunc_Entry__impl_placeOf_1 x = C.slices_IndexFunc_Entry__impl_placeOf_1.fn x := fun x => by kernel_rfl

/-! ### impl.placeOf: function 65 -/
noncomputable def F.impl_placeOf (a0 : List DEntry) (a1 : Int) (a2 : Int) : Option Int :=
  (F.slices_IndexFunc_Entry__impl_placeOf_1 a0 ((a1, a2, ()))).bind fun r1 =>
  some r1
noncomputable def C.impl_placeOf : Con := ⟨[.r (.val (.sl false 31 y20)), .r (.val (.int .i64)), .r (.val (.int .i64))], .one (.int .i64), fun x => F.impl_placeOf x.1 x.2.1 x.2.2.1⟩
def L.impl_placeOf : Loops := fun _ => none
noncomputable def K.impl_placeOf : Cons := lookK [(67, [178], C.slices_IndexFunc_Entry__impl_placeOf_1)]
theorem run.impl_placeOf : ∀ x, runF tb K.impl_placeOf L.impl_placeOf [] Tryz.f65 C.impl_placeOf x = C.impl_placeOf.fn x := fun x => by kernel_rfl

/-! ### impl.SetJoin: function 180 -/
noncomputable def F.impl_SetJoin (a0 : List DSpan) (a1 : List DSpan) : Option ((List DSpan) × Bool) :=
  (F.impl_SetOk a0).bind fun r1 =>
  bif !r1 then
    some (([] : List DSpan), false)
  else
  (F.impl_SetOk a1).bind fun r2 =>
  bif !r2 then
    some (([] : List DSpan), false)
  else
  (F.impl_copySet a0).bind fun r3 =>
  chk (fits (List.length r3 + List.length a1) 16) <|
  (F.impl_union (r3 ++ a1)).bind fun r4 =>
  some (r4, true)
noncomputable def C.impl_SetJoin : Con := ⟨[.r (.val (.sl false 150 y1)), .r (.val (.sl false 150 y1))], .many [(.sl true 150 y1), .bool], fun x => F.impl_SetJoin x.1 x.2.1⟩
def L.impl_SetJoin : Loops := fun _ => none
noncomputable def K.impl_SetJoin : Cons := lookK [(114, [], C.impl_union), (132, [], C.impl_copySet), (176, [], C.impl_SetOk)]
theorem run.impl_SetJoin : ∀ x, runF tb K.impl_SetJoin L.impl_SetJoin [] Tryz.f180 C.impl_SetJoin x = C.impl_SetJoin.fn x := fun x => by kernel_rfl

/-! ### impl.limited: function 305 -/
noncomputable def F.impl_limited (a0 : Int) (a1 : Int) (a2 : Int) : Option Int :=
  some (mnI (mxI a0 a1) a2)
noncomputable def C.impl_limited : Con := ⟨[.r (.val (.int .i64)), .r (.val (.int .i64)), .r (.val (.int .i64))], .one (.int .i64), fun x => F.impl_limited x.1 x.2.1 x.2.2.1⟩
def L.impl_limited : Loops := fun _ => none
noncomputable def K.impl_limited : Cons := lookK []
theorem run.impl_limited : ∀ x, runF tb K.impl_limited L.impl_limited [] Tryz.f305 C.impl_limited x = C.impl_limited.fn x := fun x => by kernel_rfl

/-! ### impl.Add: function 278 -/
noncomputable def F.impl_Add (a0 : Int) (a1 : Int) : Option Int :=
  (F.impl_limited a0 0 1000000000).bind fun r1 =>
  (F.impl_limited a1 0 1000000000).bind fun r2 =>
  some (mnI (w64 (r1 + r2)) 1000000000)
noncomputable def C.impl_Add : Con := ⟨[.r (.val (.int .i64)), .r (.val (.int .i64))], .one (.int .i64), fun x => F.impl_Add x.1 x.2.1⟩
def L.impl_Add : Loops := fun _ => none
noncomputable def K.impl_Add : Cons := lookK [(305, [], C.impl_limited)]
theorem run.impl_Add : ∀ x, runF tb K.impl_Add L.impl_Add [] Tryz.f278 C.impl_Add x = C.impl_Add.fn x := fun x => by kernel_rfl

/-! ### impl.Merge: function 181 -/
noncomputable def F.impl_Merge.s10 : ((List Int) × Int × Int × DSketch × DSketch × DSketch × Unit) → Option (Lp ((List Int) × Int × Int × DSketch × DSketch × DSketch × Unit) (DSketch × Bool)) := fun (x6, x7, x8, x9, x10, x11, _) =>
  bif decide (x8 < x7) then
    chk (inb x8 (List.length x6)) <|
    chk (inb x8 (List.length x11.2.2.2.2.1)) <|
    (F.impl_Add (List.getD x11.2.2.2.2.1 ((Int.toNat x8)) 0) (List.getD x6 ((Int.toNat x8)) 0)).bind fun r12 =>
    chk (inb x8 (List.length x11.2.2.2.2.1)) <|
    some (.again (x6, x7, w64 (x8 + 1), x9, x10, (x11.1, x11.2.1, x11.2.2.1, x11.2.2.2.1, List.set x11.2.2.2.2.1 ((Int.toNat x8)) r12, x11.2.2.2.2.2), ()))
  else
    some (.exit (x6, x7, x8, x9, x10, x11, ()))
noncomputable def F.impl_Merge.s15 : ((List Int) × Int × Int × DSketch × DSketch × DSketch × Unit) → Option (Lp ((List Int) × Int × Int × DSketch × DSketch × DSketch × Unit) (DSketch × Bool)) := fun (x19, x20, x21, x22, x23, x24, _) =>
  bif decide (x21 < x20) then
    chk (inb x21 (List.length x19)) <|
    chk (inb x21 (List.length x24.2.2.2.2.2.1)) <|
    chk (inb x21 (List.length x24.2.2.2.2.2.1)) <|
    (some (List.set x24.2.2.2.2.2.1 ((Int.toNat x21)) (mxI (List.getD x24.2.2.2.2.2.1 ((Int.toNat x21)) 0) (List.getD x19 ((Int.toNat x21)) 0)))).bind fun r25 =>
    some (.again (x19, x20, w64 (x21 + 1), x22, x23, (x24.1, x24.2.1, x24.2.2.1, x24.2.2.2.1, x24.2.2.2.2.1, r25, x24.2.2.2.2.2.2), ()))
  else
    some (.exit (x19, x20, x21, x22, x23, x24, ()))
noncomputable def F.impl_Merge.s23 : (Int × (List (List Int)) × Int × Int × (List Int) × Int × Int × DSketch × DSketch × Unit) → Option (Lp (Int × (List (List Int)) × Int × Int × (List Int) × Int × Int × DSketch × DSketch × Unit) (Lp ((List (List Int)) × Int × Int × DSketch × DSketch × Unit) (DSketch × Bool))) := fun (x37, x38, x39, x40, x41, x42, x43, x44, x45, _) =>
  bif decide (x43 < x42) then
    chk (inb x43 (List.length x41)) <|
    chk (inb x37 (List.length x45.2.2.2.2.2.2.1)) <|
    chk (inb x37 (List.length x45.2.2.2.2.2.2.1)) <|
    chk (inb x43 (List.length (List.getD x45.2.2.2.2.2.2.1 ((Int.toNat x37)) ([])))) <|
    (F.impl_Add (List.getD (List.getD x45.2.2.2.2.2.2.1 ((Int.toNat x37)) ([])) ((Int.toNat x43)) 0) (List.getD x41 ((Int.toNat x43)) 0)).bind fun r46 =>
    chk (inb x43 (List.length (List.getD x45.2.2.2.2.2.2.1 ((Int.toNat x37)) ([])))) <|
    (some (List.set x45.2.2.2.2.2.2.1 ((Int.toNat x37)) (List.set (List.getD x45.2.2.2.2.2.2.1 ((Int.toNat x37)) ([])) ((Int.toNat x43)) r46))).bind fun r47 =>
    some (.again (x37, x38, x39, x40, x41, x42, w64 (x43 + 1), x44, (x45.1, x45.2.1, x45.2.2.1, x45.2.2.2.1, x45.2.2.2.2.1, x45.2.2.2.2.2.1, r47, x45.2.2.2.2.2.2.2), ()))
  else
    some (.exit (x37, x38, x39, x40, x41, x42, x43, x44, x45, ()))
noncomputable def F.impl_Merge.s20 : ((List (List Int)) × Int × Int × DSketch × DSketch × Unit) → Option (Lp ((List (List Int)) × Int × Int × DSketch × DSketch × Unit) (DSketch × Bool)) := fun (x32, x33, x34, x35, x36, _) =>
  bif decide (x34 < x33) then
    chk (inb x34 (List.length x32)) <|
    afterO (loopO F.impl_Merge.s23 (x34, x32, x33, x34, List.getD x32 ((Int.toNat x34)) ([]), len (List.getD x32 ((Int.toNat x34)) ([])), 0, x35, x36, ())) fun (x48, x49, x50, x51, x52, x53, x54, x55, x56, _) =>
    some (.again (x49, x50, w64 (x51 + 1), x55, x56, ()))
  else
    some (.exit (x32, x33, x34, x35, x36, ()))
noncomputable def F.impl_Merge (a0 : DSketch) (a1 : DSketch) : Option (DSketch × Bool) :=
  (F.impl_SketchOk a0).bind fun r1 =>
  bif !r1 then
    some ((0, 0, 0, 0, ([] : List Int), ([] : List Int), ([] : List (List Int)), ()), false)
  else
  (F.impl_SketchOk a1).bind fun r2 =>
  bif !r2 then
    some ((0, 0, 0, 0, ([] : List Int), ([] : List Int), ([] : List (List Int)), ()), false)
  else
  (F.impl_copySketch a0).bind fun r3 =>
  bif a0.1 == 0 then
    (F.impl_Add a0.1 a1.1).bind fun r4 =>
    (F.impl_Add a0.2.1 a1.2.1).bind fun r5 =>
    afterO (loopO F.impl_Merge.s10 (a1.2.2.2.2.1, len a1.2.2.2.2.1, 0, a1, (0, 0, 0, 0, ([] : List Int), ([] : List Int), ([] : List (List Int)), ()), (r4, r5, a1.2.2.1, mxI a0.2.2.2.1 a1.2.2.2.1, r3.2.2.2.2), ())) fun (x13, x14, x15, x16, x17, x18, _) =>
    afterO (loopO F.impl_Merge.s15 (x16.2.2.2.2.2.1, len x16.2.2.2.2.2.1, 0, x16, x17, x18, ())) fun (x26, x27, x28, x29, x30, x31, _) =>
    afterO (loopO F.impl_Merge.s20 (x29.2.2.2.2.2.2.1, len x29.2.2.2.2.2.2.1, 0, x30, x31, ())) fun (x57, x58, x59, x60, x61, _) =>
    some (x61, true)
  else
  bif decide (a1.1 > 0) then
    bif decide (a1.2.2.1 < a0.2.2.1) then
      (F.impl_Add a0.1 a1.1).bind fun r62 =>
      (F.impl_Add a0.2.1 a1.2.1).bind fun r63 =>
      afterO (loopO F.impl_Merge.s10 (a1.2.2.2.2.1, len a1.2.2.2.2.1, 0, a1, (0, 0, 0, 0, ([] : List Int), ([] : List Int), ([] : List (List Int)), ()), (r62, r63, a1.2.2.1, mxI a0.2.2.2.1 a1.2.2.2.1, r3.2.2.2.2), ())) fun (x71, x72, x73, x74, x75, x76, _) =>
      afterO (loopO F.impl_Merge.s15 (x74.2.2.2.2.2.1, len x74.2.2.2.2.2.1, 0, x74, x75, x76, ())) fun (x84, x85, x86, x87, x88, x89, _) =>
      afterO (loopO F.impl_Merge.s20 (x87.2.2.2.2.2.2.1, len x87.2.2.2.2.2.2.1, 0, x88, x89, ())) fun (x115, x116, x117, x118, x119, _) =>
      some (x119, true)
    else
    (F.impl_Add a0.1 a1.1).bind fun r120 =>
    (F.impl_Add a0.2.1 a1.2.1).bind fun r121 =>
    afterO (loopO F.impl_Merge.s10 (a1.2.2.2.2.1, len a1.2.2.2.2.1, 0, a1, (0, 0, 0, 0, ([] : List Int), ([] : List Int), ([] : List (List Int)), ()), (r120, r121, r3.2.2.1, mxI a0.2.2.2.1 a1.2.2.2.1, r3.2.2.2.2), ())) fun (x129, x130, x131, x132, x133, x134, _) =>
    afterO (loopO F.impl_Merge.s15 (x132.2.2.2.2.2.1, len x132.2.2.2.2.2.1, 0, x132, x133, x134, ())) fun (x142, x143, x144, x145, x146, x147, _) =>
    afterO (loopO F.impl_Merge.s20 (x145.2.2.2.2.2.2.1, len x145.2.2.2.2.2.2.1, 0, x146, x147, ())) fun (x173, x174, x175, x176, x177, _) =>
    some (x177, true)
  else
  (F.impl_Add a0.1 a1.1).bind fun r178 =>
  (F.impl_Add a0.2.1 a1.2.1).bind fun r179 =>
  afterO (loopO F.impl_Merge.s10 (a1.2.2.2.2.1, len a1.2.2.2.2.1, 0, a1, (0, 0, 0, 0, ([] : List Int), ([] : List Int), ([] : List (List Int)), ()), (r178, r179, r3.2.2.1, mxI a0.2.2.2.1 a1.2.2.2.1, r3.2.2.2.2), ())) fun (x187, x188, x189, x190, x191, x192, _) =>
  afterO (loopO F.impl_Merge.s15 (x190.2.2.2.2.2.1, len x190.2.2.2.2.2.1, 0, x190, x191, x192, ())) fun (x200, x201, x202, x203, x204, x205, _) =>
  afterO (loopO F.impl_Merge.s20 (x203.2.2.2.2.2.2.1, len x203.2.2.2.2.2.2.1, 0, x204, x205, ())) fun (x231, x232, x233, x234, x235, _) =>
  some (x235, true)
noncomputable def C.impl_Merge : Con := ⟨[.r (.val y3), .r (.val y3)], .many [y12, .bool], fun x => F.impl_Merge x.1 x.2.1⟩
def L.impl_Merge : Loops := lookL [(10, ⟨[.pat 63 (.val (.sl false 3 (.int .i64))), .pat 64 (.val (.int .i64)), .pat 65 (.val (.int .i64)), .root 3 true y3 [3], .root 4 true y12 [4], .root 6 true y12 [6]], 0⟩), (15, ⟨[.pat 83 (.val (.sl false 3 (.int .i64))), .pat 84 (.val (.int .i64)), .pat 85 (.val (.int .i64)), .root 3 true y3 [3], .root 4 true y12 [4], .root 6 true y12 [6]], 2⟩), (23, ⟨[.pat 11 (.val (.int .i64)), .pat 103 (.val (.sl false 26 (.sl false 3 (.int .i64)))), .pat 104 (.val (.int .i64)), .pat 105 (.val (.int .i64)), .pat 110 (.val (.sl false 3 (.int .i64))), .pat 111 (.val (.int .i64)), .pat 112 (.val (.int .i64)), .root 4 true y12 [4], .root 6 true y12 [6]], 6⟩), (20, ⟨[.pat 103 (.val (.sl false 26 (.sl false 3 (.int .i64)))), .pat 104 (.val (.int .i64)), .pat 105 (.val (.int .i64)), .root 4 true y12 [4], .root 6 true y12 [6]], 4⟩)]
noncomputable def K.impl_Merge : Cons := lookK [(177, [], C.impl_SketchOk), (184, [], C.impl_copySketch), (278, [], C.impl_Add)]
theorem run.impl_Merge : ∀ x, runF tb K.impl_Merge L.impl_Merge [] Tryz.f181 C.impl_Merge x = C.impl_Merge.fn x := fun x => by kernel_rfl

/-! ### impl.EntryAdd: function 66 -/
noncomputable def F.impl_EntryAdd (a0 : DEntry) (a1 : DEntry) : Option (DEntry × Bool) :=
  (F.impl_EntryOk a0).bind fun r1 =>
  bif !r1 then
    some ((0, 0, ([] : List DSpan), (0, 0, 0, 0, ([] : List Int), ([] : List Int), ([] : List (List Int)), ()), ()), false)
  else
  (F.impl_EntryOk a1).bind fun r2 =>
  bif !r2 then
    some ((0, 0, ([] : List DSpan), (0, 0, 0, 0, ([] : List Int), ([] : List Int), ([] : List (List Int)), ()), ()), false)
  else
  bif a0.1 != a1.1 then
    some ((0, 0, ([] : List DSpan), (0, 0, 0, 0, ([] : List Int), ([] : List Int), ([] : List (List Int)), ()), ()), false)
  else
  bif a0.2.1 != a1.2.1 then
    some ((0, 0, ([] : List DSpan), (0, 0, 0, 0, ([] : List Int), ([] : List Int), ([] : List (List Int)), ()), ()), false)
  else
  (F.impl_SetApart a0.2.2.1 a1.2.2.1).bind fun r3 =>
  bif !r3 then
    some ((0, 0, ([] : List DSpan), (0, 0, 0, 0, ([] : List Int), ([] : List Int), ([] : List (List Int)), ()), ()), false)
  else
  (F.impl_SetJoin a0.2.2.1 a1.2.2.1).bind fun r4 =>
  (F.impl_Merge a0.2.2.2.1 a1.2.2.2.1).bind fun r5 =>
  some ((a0.1, a0.2.1, r4.1, r5.1, ()), true)
noncomputable def C.impl_EntryAdd : Con := ⟨[.r (.val y20), .r (.val y20)], .many [y13, .bool], fun x => F.impl_EntryAdd x.1 x.2.1⟩
def L.impl_EntryAdd : Loops := fun _ => none
noncomputable def K.impl_EntryAdd : Cons := lookK [(62, [], C.impl_EntryOk), (179, [], C.impl_SetApart), (180, [], C.impl_SetJoin), (181, [], C.impl_Merge)]
theorem run.impl_EntryAdd : ∀ x, runF tb K.impl_EntryAdd L.impl_EntryAdd [] Tryz.f66 C.impl_EntryAdd x = C.impl_EntryAdd.fn x := fun x => by kernel_rfl

/-! ### impl.RowPush: function 159 -/
noncomputable def F.impl_RowPush (a0 : DRow) (a1 : DEntry) (a2 : Bool) : Option (DRow × Bool) :=
  (F.impl_RowOk a0).bind fun r1 =>
  bif !r1 then
    (F.impl_copyRow a0).bind fun r2 =>
    some (r2, false)
  else
  (F.impl_EntryOk a1).bind fun r3 =>
  bif !r3 then
    (F.impl_copyRow a0).bind fun r4 =>
    some (r4, false)
  else
  (F.impl_copyRow a0).bind fun r5 =>
  (F.impl_placeOf a0.1 a1.1 a1.2.1).bind fun r6 =>
  bif a2 then
    bif decide (r6 ≥ 0) then
      chk (inb r6 (List.length a0.1)) <|
      (F.impl_EntryAdd (List.getD a0.1 ((Int.toNat r6)) ((0, 0, [], (0, 0, 0, 0, [], [], [], ()), ()))) a1).bind fun r7 =>
      bif !r7.2 then
        some (r5, false)
      else
      chk (inb r6 (List.length r5.1)) <|
      (F.impl_RowOk ((List.set r5.1 ((Int.toNat r6)) r7.1, r5.2))).bind fun r8 =>
      bif !r8 then
        (F.impl_copyRow a0).bind fun r9 =>
        some (r9, false)
      else
        some ((List.set r5.1 ((Int.toNat r6)) r7.1, r5.2), true)
    else
    (F.impl_copyEntry a1).bind fun r10 =>
    chk (fits (List.length r5.1 + List.length ([r10])) 144) <|
    (F.impl_RowOk ((r5.1 ++ ([r10]), r5.2))).bind fun r11 =>
    bif !r11 then
      (F.impl_copyRow a0).bind fun r12 =>
      some (r12, false)
    else
      some ((r5.1 ++ ([r10]), r5.2), true)
  else
  (F.impl_copyEntry a1).bind fun r13 =>
  chk (fits (List.length r5.1 + List.length ([r13])) 144) <|
  (F.impl_RowOk ((r5.1 ++ ([r13]), r5.2))).bind fun r14 =>
  bif !r14 then
    (F.impl_copyRow a0).bind fun r15 =>
    some (r15, false)
  else
    some ((r5.1 ++ ([r13]), r5.2), true)
noncomputable def C.impl_RowPush : Con := ⟨[.r (.val (.cons (.sl false 31 y20) .nil)), .r (.val y20), .r (.val .bool)], .many [(.cons (.sl true 31 y13) .nil), .bool], fun x => F.impl_RowPush x.1 x.2.1 x.2.2.1⟩
def L.impl_RowPush : Loops := fun _ => none
noncomputable def K.impl_RowPush : Cons := lookK [(62, [], C.impl_EntryOk), (65, [], C.impl_placeOf), (66, [], C.impl_EntryAdd), (71, [], C.impl_copyEntry), (217, [], C.impl_RowOk), (243, [], C.impl_copyRow)]
theorem run.impl_RowPush : ∀ x, runF tb K.impl_RowPush L.impl_RowPush [] Tryz.f159 C.impl_RowPush x = C.impl_RowPush.fn x := fun x => by kernel_rfl

/-! ### impl.Ingress: function 47 -/
noncomputable def F.impl_Ingress (a0 : DHouse) (a1 : DFrame) : Option (DHouse × DFrame × Int) :=
  (F.impl_HouseOk a0).bind fun r1 =>
  bif !r1 then
    (F.impl_copyHouse a0).bind fun r2 =>
    some (r2, (0, 0, 0, 0, ([] : List DSpan), (0, 0, 0, 0, (0, 0, 0, 0, ([] : List Int), ([] : List Int), ([] : List (List Int)), ()), ()), ()), 6)
  else
  (F.impl_FrameOk a1).bind fun r3 =>
  bif !r3 then
    (F.impl_copyHouse a0).bind fun r4 =>
    some (r4, (0, 0, 0, 0, ([] : List DSpan), (0, 0, 0, 0, (0, 0, 0, 0, ([] : List Int), ([] : List Int), ([] : List (List Int)), ()), ()), ()), 6)
  else
  bif a1.1 != 0 then
    bif a1.1 != 1 then
      (F.impl_copyHouse a0).bind fun r5 =>
      some (r5, (0, 0, 0, 0, ([] : List DSpan), (0, 0, 0, 0, (0, 0, 0, 0, ([] : List Int), ([] : List Int), ([] : List (List Int)), ()), ()), ()), 6)
    else
    (F.impl_copyHouse a0).bind fun r6 =>
    chk (inb a1.2.1 (List.length r6.2.2.2.1)) <|
    (some (List.set r6.2.2.2.1 ((Int.toNat a1.2.1)) (((List.getD r6.2.2.2.1 ((Int.toNat a1.2.1)) ((0, 0, [], 0, 0, ()))).1, ((List.getD r6.2.2.2.1 ((Int.toNat a1.2.1)) ((0, 0, [], 0, 0, ()))).2).1, (((List.getD r6.2.2.2.1 ((Int.toNat a1.2.1)) ((0, 0, [], 0, 0, ()))).2).2).1, ((((List.getD r6.2.2.2.1 ((Int.toNat a1.2.1)) ((0, 0, [], 0, 0, ()))).2).2).2).1, a0.2.1, (((((List.getD r6.2.2.2.1 ((Int.toNat a1.2.1)) ((0, 0, [], 0, 0, ()))).2).2).2).2).2)))).bind fun r7 =>
    bif a1.1 == 0 then
      bif !a0.2.2.1 then
        (F.impl_SeatGrant (List.getD r7 ((Int.toNat a1.2.1)) ((0, 0, [], 0, 0, ()))) a0.1.1).bind fun r8 =>
        (F.impl_Answer ((r6.1, r6.2.1, r6.2.2.1, List.set r7 ((Int.toNat a1.2.1)) r8, r6.2.2.2.2)) a1.2.1).bind fun r9 =>
        some ((r6.1, r6.2.1, r6.2.2.1, List.set r7 ((Int.toNat a1.2.1)) r8, r6.2.2.2.2), r9, 2)
      else
      (F.impl_Answer ((r6.1, r6.2.1, r6.2.2.1, r7, r6.2.2.2.2)) a1.2.1).bind fun r10 =>
      some ((r6.1, r6.2.1, r6.2.2.1, r7, r6.2.2.2.2), r10, 2)
    else
    (F.impl_SeatData (List.getD r7 ((Int.toNat a1.2.1)) ((0, 0, [], 0, 0, ()))) a0.1.1 a1.2.2.1 a1.2.2.2.2.2.1.1).bind fun r11 =>
    bif r11.2 == 2 then
      (F.impl_Answer ((r6.1, r6.2.1, r6.2.2.1, r7, r6.2.2.2.2)) a1.2.1).bind fun r12 =>
      some ((r6.1, r6.2.1, r6.2.2.1, r7, r6.2.2.2.2), r12, 3)
    else
    bif r11.2 == 1 then
      (F.impl_Answer ((r6.1, r6.2.1, r6.2.2.1, r7, r6.2.2.2.2)) a1.2.1).bind fun r13 =>
      some ((r6.1, r6.2.1, r6.2.2.1, r7, r6.2.2.2.2), r13, 1)
    else
    bif r11.2 == 3 then
      (F.impl_Answer ((r6.1, r6.2.1, r6.2.2.1, r7, r6.2.2.2.2)) a1.2.1).bind fun r14 =>
      some ((r6.1, r6.2.1, r6.2.2.1, r7, r6.2.2.2.2), r14, 4)
    else
    bif a0.2.2.1 then
      (F.impl_Answer ((r6.1, r6.2.1, r6.2.2.1, r7, r6.2.2.2.2)) a1.2.1).bind fun r15 =>
      some ((r6.1, r6.2.1, r6.2.2.1, r7, r6.2.2.2.2), r15, 5)
    else
    (F.impl_EntryOf a1.2.1 a1.2.2.2.2.2.1).bind fun r16 =>
    chk (inb a1.2.1 (List.length r6.2.2.2.2.1)) <|
    chk (inb a1.2.2.2.2.2.1.2.1 (List.length (List.getD r6.2.2.2.2.1 ((Int.toNat a1.2.1)) ([])))) <|
    (F.impl_Items a0).bind fun r17 =>
    (F.impl_RowPush (List.getD (List.getD r6.2.2.2.2.1 ((Int.toNat a1.2.1)) ([])) ((Int.toNat a1.2.2.2.2.2.1.2.1)) (([], ()))) r16.1 (decide (r17 ≥ a0.1.2.2.2.2.1))).bind fun r18 =>
    (some (List.set r6.2.2.2.2.1 ((Int.toNat a1.2.1)) (List.set (List.getD r6.2.2.2.2.1 ((Int.toNat a1.2.1)) ([])) ((Int.toNat a1.2.2.2.2.2.1.2.1)) r18.1))).bind fun r19 =>
    (F.impl_Answer ((r6.1, r6.2.1, r6.2.2.1, List.set r7 ((Int.toNat a1.2.1)) r11.1, r19, r6.2.2.2.2.2)) a1.2.1).bind fun r20 =>
    some ((r6.1, r6.2.1, r6.2.2.1, List.set r7 ((Int.toNat a1.2.1)) r11.1, r19, r6.2.2.2.2.2), r20, 0)
  else
  (F.impl_copyHouse a0).bind fun r21 =>
  chk (inb a1.2.1 (List.length r21.2.2.2.1)) <|
  (some (List.set r21.2.2.2.1 ((Int.toNat a1.2.1)) (((List.getD r21.2.2.2.1 ((Int.toNat a1.2.1)) ((0, 0, [], 0, 0, ()))).1, ((List.getD r21.2.2.2.1 ((Int.toNat a1.2.1)) ((0, 0, [], 0, 0, ()))).2).1, (((List.getD r21.2.2.2.1 ((Int.toNat a1.2.1)) ((0, 0, [], 0, 0, ()))).2).2).1, ((((List.getD r21.2.2.2.1 ((Int.toNat a1.2.1)) ((0, 0, [], 0, 0, ()))).2).2).2).1, a0.2.1, (((((List.getD r21.2.2.2.1 ((Int.toNat a1.2.1)) ((0, 0, [], 0, 0, ()))).2).2).2).2).2)))).bind fun r22 =>
  bif a1.1 == 0 then
    bif !a0.2.2.1 then
      (F.impl_SeatGrant (List.getD r22 ((Int.toNat a1.2.1)) ((0, 0, [], 0, 0, ()))) a0.1.1).bind fun r23 =>
      (F.impl_Answer ((r21.1, r21.2.1, r21.2.2.1, List.set r22 ((Int.toNat a1.2.1)) r23, r21.2.2.2.2)) a1.2.1).bind fun r24 =>
      some ((r21.1, r21.2.1, r21.2.2.1, List.set r22 ((Int.toNat a1.2.1)) r23, r21.2.2.2.2), r24, 2)
    else
    (F.impl_Answer ((r21.1, r21.2.1, r21.2.2.1, r22, r21.2.2.2.2)) a1.2.1).bind fun r25 =>
    some ((r21.1, r21.2.1, r21.2.2.1, r22, r21.2.2.2.2), r25, 2)
  else
  (F.impl_SeatData (List.getD r22 ((Int.toNat a1.2.1)) ((0, 0, [], 0, 0, ()))) a0.1.1 a1.2.2.1 a1.2.2.2.2.2.1.1).bind fun r26 =>
  bif r26.2 == 2 then
    (F.impl_Answer ((r21.1, r21.2.1, r21.2.2.1, r22, r21.2.2.2.2)) a1.2.1).bind fun r27 =>
    some ((r21.1, r21.2.1, r21.2.2.1, r22, r21.2.2.2.2), r27, 3)
  else
  bif r26.2 == 1 then
    (F.impl_Answer ((r21.1, r21.2.1, r21.2.2.1, r22, r21.2.2.2.2)) a1.2.1).bind fun r28 =>
    some ((r21.1, r21.2.1, r21.2.2.1, r22, r21.2.2.2.2), r28, 1)
  else
  bif r26.2 == 3 then
    (F.impl_Answer ((r21.1, r21.2.1, r21.2.2.1, r22, r21.2.2.2.2)) a1.2.1).bind fun r29 =>
    some ((r21.1, r21.2.1, r21.2.2.1, r22, r21.2.2.2.2), r29, 4)
  else
  bif a0.2.2.1 then
    (F.impl_Answer ((r21.1, r21.2.1, r21.2.2.1, r22, r21.2.2.2.2)) a1.2.1).bind fun r30 =>
    some ((r21.1, r21.2.1, r21.2.2.1, r22, r21.2.2.2.2), r30, 5)
  else
  (F.impl_EntryOf a1.2.1 a1.2.2.2.2.2.1).bind fun r31 =>
  chk (inb a1.2.1 (List.length r21.2.2.2.2.1)) <|
  chk (inb a1.2.2.2.2.2.1.2.1 (List.length (List.getD r21.2.2.2.2.1 ((Int.toNat a1.2.1)) ([])))) <|
  (F.impl_Items a0).bind fun r32 =>
  (F.impl_RowPush (List.getD (List.getD r21.2.2.2.2.1 ((Int.toNat a1.2.1)) ([])) ((Int.toNat a1.2.2.2.2.2.1.2.1)) (([], ()))) r31.1 (decide (r32 ≥ a0.1.2.2.2.2.1))).bind fun r33 =>
  (some (List.set r21.2.2.2.2.1 ((Int.toNat a1.2.1)) (List.set (List.getD r21.2.2.2.2.1 ((Int.toNat a1.2.1)) ([])) ((Int.toNat a1.2.2.2.2.2.1.2.1)) r33.1))).bind fun r34 =>
  (F.impl_Answer ((r21.1, r21.2.1, r21.2.2.1, List.set r22 ((Int.toNat a1.2.1)) r26.1, r34, r21.2.2.2.2.2)) a1.2.1).bind fun r35 =>
  some ((r21.1, r21.2.1, r21.2.2.1, List.set r22 ((Int.toNat a1.2.1)) r26.1, r34, r21.2.2.2.2.2), r35, 0)
noncomputable def C.impl_Ingress : Con := ⟨[.r (.val y22), .r (.val y23)], .many [y16, y18, (.int .i64)], fun x => F.impl_Ingress x.1 x.2.1⟩
def L.impl_Ingress : Loops := fun _ => none
noncomputable def K.impl_Ingress : Cons := lookK [(28, [], C.impl_HouseOk), (37, [], C.impl_Answer), (138, [], C.impl_copyHouse), (139, [], C.impl_Items), (155, [], C.impl_FrameOk), (156, [], C.impl_SeatGrant), (157, [], C.impl_SeatData), (158, [], C.impl_EntryOf), (159, [], C.impl_RowPush)]
theorem run.impl_Ingress : ∀ x, runF tb K.impl_Ingress L.impl_Ingress [] Tryz.f47 C.impl_Ingress x = C.impl_Ingress.fn x := fun x => by kernel_rfl

/-! ### laws.eqIntS: function 32 -/
noncomputable def F.laws_eqIntS.s4 : ((List Int) × (List Int) × Int × Unit) → Option (Lp ((List Int) × (List Int) × Int × Unit) Bool) := fun (x1, x2, x3, _) =>
  bif decide (x3 < (len x1)) then
    chk (inb x3 (List.length x1)) <|
    chk (inb x3 (List.length x2)) <|
    bif (List.getD x1 ((Int.toNat x3)) 0) != (List.getD x2 ((Int.toNat x3)) 0) then
      some (.ret false)
    else
      some (.again (x1, x2, w64 (x3 + 1), ()))
  else
    some (.exit (x1, x2, x3, ()))
noncomputable def F.laws_eqIntS (a0 : List Int) (a1 : List Int) : Option Bool :=
  bif (len a0) != (len a1) then
    some false
  else
  afterO (loopO F.laws_eqIntS.s4 (a0, a1, 0, ())) fun (x4, x5, x6, _) =>
  some true
noncomputable def C.laws_eqIntS : Con := ⟨[.r (.val (.sl false 3 (.int .i64))), .r (.val (.sl false 3 (.int .i64)))], .one .bool, fun x => F.laws_eqIntS x.1 x.2.1⟩
def L.laws_eqIntS : Loops := lookL [(4, ⟨[.pat 0 (.val (.sl false 3 (.int .i64))), .pat 1 (.val (.sl false 3 (.int .i64))), .pat 5 (.val (.int .i64))], 0⟩)]
noncomputable def K.laws_eqIntS : Cons := lookK []
theorem run.laws_eqIntS : ∀ x, runF tb K.laws_eqIntS L.laws_eqIntS [] Tryz.f32 C.laws_eqIntS x = C.laws_eqIntS.fn x := fun x => by kernel_rfl

/-! ### laws.eqConf: function 116 -/
noncomputable def F.laws_eqConf (a0 : DConf) (a1 : DConf) : Option Bool :=
  bif a0.1 != a1.1 then
    some false
  else
  bif a0.2.1 != a1.2.1 then
    some false
  else
  bif a0.2.2.1 != a1.2.2.1 then
    some false
  else
  (F.laws_eqIntS a0.2.2.2.1 a1.2.2.2.1).bind fun r1 =>
  bif !r1 then
    some false
  else
  bif a0.2.2.2.2.1 != a1.2.2.2.2.1 then
    some false
  else
  bif a0.2.2.2.2.2.1 != a1.2.2.2.2.2.1 then
    some false
  else
  bif a0.2.2.2.2.2.2.1 != a1.2.2.2.2.2.2.1 then
    some false
  else
  bif a0.2.2.2.2.2.2.2.1 != a1.2.2.2.2.2.2.2.1 then
    some false
  else
    some true
noncomputable def C.laws_eqConf : Con := ⟨[.r (.val y0), .r (.val y0)], .one .bool, fun x => F.laws_eqConf x.1 x.2.1⟩
def L.laws_eqConf : Loops := fun _ => none
noncomputable def K.laws_eqConf : Cons := lookK [(32, [], C.laws_eqIntS)]
theorem run.laws_eqConf : ∀ x, runF tb K.laws_eqConf L.laws_eqConf [] Tryz.f116 C.laws_eqConf x = C.laws_eqConf.fn x := fun x => by kernel_rfl

/-! ### laws.eqSpan: function 196 -/
noncomputable def F.laws_eqSpan (a0 : DSpan) (a1 : DSpan) : Option Bool :=
  bif a0.1 != a1.1 then
    some false
  else
  bif a0.2.1 != a1.2.1 then
    some false
  else
    some true
noncomputable def C.laws_eqSpan : Con := ⟨[.r (.val y1), .r (.val y1)], .one .bool, fun x => F.laws_eqSpan x.1 x.2.1⟩
def L.laws_eqSpan : Loops := fun _ => none
noncomputable def K.laws_eqSpan : Cons := lookK []
theorem run.laws_eqSpan : ∀ x, runF tb K.laws_eqSpan L.laws_eqSpan [] Tryz.f196 C.laws_eqSpan x = C.laws_eqSpan.fn x := fun x => by kernel_rfl

/-! ### laws.eqSpanS: function 80 -/
noncomputable def F.laws_eqSpanS.s4 : ((List DSpan) × (List DSpan) × Int × Unit) → Option (Lp ((List DSpan) × (List DSpan) × Int × Unit) Bool) := fun (x1, x2, x3, _) =>
  bif decide (x3 < (len x1)) then
    chk (inb x3 (List.length x1)) <|
    chk (inb x3 (List.length x2)) <|
    (F.laws_eqSpan (List.getD x1 ((Int.toNat x3)) ((0, 0, ()))) (List.getD x2 ((Int.toNat x3)) ((0, 0, ())))).bind fun r4 =>
    bif !r4 then
      some (.ret false)
    else
      some (.again (x1, x2, w64 (x3 + 1), ()))
  else
    some (.exit (x1, x2, x3, ()))
noncomputable def F.laws_eqSpanS (a0 : List DSpan) (a1 : List DSpan) : Option Bool :=
  bif (len a0) != (len a1) then
    some false
  else
  afterO (loopO F.laws_eqSpanS.s4 (a0, a1, 0, ())) fun (x5, x6, x7, _) =>
  some true
noncomputable def C.laws_eqSpanS : Con := ⟨[.r (.val (.sl false 150 y1)), .r (.val (.sl false 150 y1))], .one .bool, fun x => F.laws_eqSpanS x.1 x.2.1⟩
def L.laws_eqSpanS : Loops := lookL [(4, ⟨[.pat 0 (.val (.sl false 150 y1)), .pat 1 (.val (.sl false 150 y1)), .pat 5 (.val (.int .i64))], 0⟩)]
noncomputable def K.laws_eqSpanS : Cons := lookK [(196, [], C.laws_eqSpan)]
theorem run.laws_eqSpanS : ∀ x, runF tb K.laws_eqSpanS L.laws_eqSpanS [] Tryz.f80 C.laws_eqSpanS x = C.laws_eqSpanS.fn x := fun x => by kernel_rfl

/-! ### laws.eqSeat: function 226 -/
noncomputable def F.laws_eqSeat (a0 : DSeat) (a1 : DSeat) : Option Bool :=
  bif a0.1 != a1.1 then
    some false
  else
  bif a0.2.1 != a1.2.1 then
    some false
  else
  (F.laws_eqSpanS a0.2.2.1 a1.2.2.1).bind fun r1 =>
  bif !r1 then
    some false
  else
  bif a0.2.2.2.1 != a1.2.2.2.1 then
    some false
  else
  bif a0.2.2.2.2.1 != a1.2.2.2.2.1 then
    some false
  else
    some true
noncomputable def C.laws_eqSeat : Con := ⟨[.r (.val y19), .r (.val y19)], .one .bool, fun x => F.laws_eqSeat x.1 x.2.1⟩
def L.laws_eqSeat : Loops := fun _ => none
noncomputable def K.laws_eqSeat : Cons := lookK [(80, [], C.laws_eqSpanS)]
theorem run.laws_eqSeat : ∀ x, runF tb K.laws_eqSeat L.laws_eqSeat [] Tryz.f226 C.laws_eqSeat x = C.laws_eqSeat.fn x := fun x => by kernel_rfl

/-! ### laws.eqSeatS: function 117 -/
noncomputable def F.laws_eqSeatS.s4 : ((List DSeat) × (List DSeat) × Int × Unit) → Option (Lp ((List DSeat) × (List DSeat) × Int × Unit) Bool) := fun (x1, x2, x3, _) =>
  bif decide (x3 < (len x1)) then
    chk (inb x3 (List.length x1)) <|
    chk (inb x3 (List.length x2)) <|
    (F.laws_eqSeat (List.getD x1 ((Int.toNat x3)) ((0, 0, [], 0, 0, ()))) (List.getD x2 ((Int.toNat x3)) ((0, 0, [], 0, 0, ())))).bind fun r4 =>
    bif !r4 then
      some (.ret false)
    else
      some (.again (x1, x2, w64 (x3 + 1), ()))
  else
    some (.exit (x1, x2, x3, ()))
noncomputable def F.laws_eqSeatS (a0 : List DSeat) (a1 : List DSeat) : Option Bool :=
  bif (len a0) != (len a1) then
    some false
  else
  afterO (loopO F.laws_eqSeatS.s4 (a0, a1, 0, ())) fun (x5, x6, x7, _) =>
  some true
noncomputable def C.laws_eqSeatS : Con := ⟨[.r (.val (.sl false 139 y19)), .r (.val (.sl false 139 y19))], .one .bool, fun x => F.laws_eqSeatS x.1 x.2.1⟩
def L.laws_eqSeatS : Loops := lookL [(4, ⟨[.pat 0 (.val (.sl false 139 y19)), .pat 1 (.val (.sl false 139 y19)), .pat 5 (.val (.int .i64))], 0⟩)]
noncomputable def K.laws_eqSeatS : Cons := lookK [(226, [], C.laws_eqSeat)]
theorem run.laws_eqSeatS : ∀ x, runF tb K.laws_eqSeatS L.laws_eqSeatS [] Tryz.f117 C.laws_eqSeatS x = C.laws_eqSeatS.fn x := fun x => by kernel_rfl

/-! ### laws.eqIntSS: function 197 -/
noncomputable def F.laws_eqIntSS.s4 : ((List (List Int)) × (List (List Int)) × Int × Unit) → Option (Lp ((List (List Int)) × (List (List Int)) × Int × Unit) Bool) := fun (x1, x2, x3, _) =>
  bif decide (x3 < (len x1)) then
    chk (inb x3 (List.length x1)) <|
    chk (inb x3 (List.length x2)) <|
    (F.laws_eqIntS (List.getD x1 ((Int.toNat x3)) ([])) (List.getD x2 ((Int.toNat x3)) ([]))).bind fun r4 =>
    bif !r4 then
      some (.ret false)
    else
      some (.again (x1, x2, w64 (x3 + 1), ()))
  else
    some (.exit (x1, x2, x3, ()))
noncomputable def F.laws_eqIntSS (a0 : List (List Int)) (a1 : List (List Int)) : Option Bool :=
  bif (len a0) != (len a1) then
    some false
  else
  afterO (loopO F.laws_eqIntSS.s4 (a0, a1, 0, ())) fun (x5, x6, x7, _) =>
  some true
noncomputable def C.laws_eqIntSS : Con := ⟨[.r (.val (.sl false 26 (.sl false 3 (.int .i64)))), .r (.val (.sl false 26 (.sl false 3 (.int .i64))))], .one .bool, fun x => F.laws_eqIntSS x.1 x.2.1⟩
def L.laws_eqIntSS : Loops := lookL [(4, ⟨[.pat 0 (.val (.sl false 26 (.sl false 3 (.int .i64)))), .pat 1 (.val (.sl false 26 (.sl false 3 (.int .i64)))), .pat 5 (.val (.int .i64))], 0⟩)]
noncomputable def K.laws_eqIntSS : Cons := lookK [(32, [], C.laws_eqIntS)]
theorem run.laws_eqIntSS : ∀ x, runF tb K.laws_eqIntSS L.laws_eqIntSS [] Tryz.f197 C.laws_eqIntSS x = C.laws_eqIntSS.fn x := fun x => by kernel_rfl

/-! ### laws.eqSketch: function 81 -/
noncomputable def F.laws_eqSketch (a0 : DSketch) (a1 : DSketch) : Option Bool :=
  bif a0.1 != a1.1 then
    some false
  else
  bif a0.2.1 != a1.2.1 then
    some false
  else
  bif a0.2.2.1 != a1.2.2.1 then
    some false
  else
  bif a0.2.2.2.1 != a1.2.2.2.1 then
    some false
  else
  (F.laws_eqIntS a0.2.2.2.2.1 a1.2.2.2.2.1).bind fun r1 =>
  bif !r1 then
    some false
  else
  (F.laws_eqIntS a0.2.2.2.2.2.1 a1.2.2.2.2.2.1).bind fun r2 =>
  bif !r2 then
    some false
  else
  (F.laws_eqIntSS a0.2.2.2.2.2.2.1 a1.2.2.2.2.2.2.1).bind fun r3 =>
  bif !r3 then
    some false
  else
    some true
noncomputable def C.laws_eqSketch : Con := ⟨[.r (.val y3), .r (.val y3)], .one .bool, fun x => F.laws_eqSketch x.1 x.2.1⟩
def L.laws_eqSketch : Loops := fun _ => none
noncomputable def K.laws_eqSketch : Cons := lookK [(32, [], C.laws_eqIntS), (197, [], C.laws_eqIntSS)]
theorem run.laws_eqSketch : ∀ x, runF tb K.laws_eqSketch L.laws_eqSketch [] Tryz.f81 C.laws_eqSketch x = C.laws_eqSketch.fn x := fun x => by kernel_rfl

/-! ### laws.eqEntry: function 21 -/
noncomputable def F.laws_eqEntry (a0 : DEntry) (a1 : DEntry) : Option Bool :=
  bif a0.1 != a1.1 then
    some false
  else
  bif a0.2.1 != a1.2.1 then
    some false
  else
  (F.laws_eqSpanS a0.2.2.1 a1.2.2.1).bind fun r1 =>
  bif !r1 then
    some false
  else
  (F.laws_eqSketch a0.2.2.2.1 a1.2.2.2.1).bind fun r2 =>
  bif !r2 then
    some false
  else
    some true
noncomputable def C.laws_eqEntry : Con := ⟨[.r (.val y20), .r (.val y20)], .one .bool, fun x => F.laws_eqEntry x.1 x.2.1⟩
def L.laws_eqEntry : Loops := fun _ => none
noncomputable def K.laws_eqEntry : Cons := lookK [(80, [], C.laws_eqSpanS), (81, [], C.laws_eqSketch)]
theorem run.laws_eqEntry : ∀ x, runF tb K.laws_eqEntry L.laws_eqEntry [] Tryz.f21 C.laws_eqEntry x = C.laws_eqEntry.fn x := fun x => by kernel_rfl

/-! ### laws.eqEntryS: function 20 -/
noncomputable def F.laws_eqEntryS.s4 : ((List DEntry) × (List DEntry) × Int × Unit) → Option (Lp ((List DEntry) × (List DEntry) × Int × Unit) Bool) := fun (x1, x2, x3, _) =>
  bif decide (x3 < (len x1)) then
    chk (inb x3 (List.length x1)) <|
    chk (inb x3 (List.length x2)) <|
    (F.laws_eqEntry (List.getD x1 ((Int.toNat x3)) ((0, 0, [], (0, 0, 0, 0, [], [], [], ()), ()))) (List.getD x2 ((Int.toNat x3)) ((0, 0, [], (0, 0, 0, 0, [], [], [], ()), ())))).bind fun r4 =>
    bif !r4 then
      some (.ret false)
    else
      some (.again (x1, x2, w64 (x3 + 1), ()))
  else
    some (.exit (x1, x2, x3, ()))
noncomputable def F.laws_eqEntryS (a0 : List DEntry) (a1 : List DEntry) : Option Bool :=
  bif (len a0) != (len a1) then
    some false
  else
  afterO (loopO F.laws_eqEntryS.s4 (a0, a1, 0, ())) fun (x5, x6, x7, _) =>
  some true
noncomputable def C.laws_eqEntryS : Con := ⟨[.r (.val (.sl false 31 y20)), .r (.val (.sl false 31 y20))], .one .bool, fun x => F.laws_eqEntryS x.1 x.2.1⟩
def L.laws_eqEntryS : Loops := lookL [(4, ⟨[.pat 0 (.val (.sl false 31 y20)), .pat 1 (.val (.sl false 31 y20)), .pat 5 (.val (.int .i64))], 0⟩)]
noncomputable def K.laws_eqEntryS : Cons := lookK [(21, [], C.laws_eqEntry)]
theorem run.laws_eqEntryS : ∀ x, runF tb K.laws_eqEntryS L.laws_eqEntryS [] Tryz.f20 C.laws_eqEntryS x = C.laws_eqEntryS.fn x := fun x => by kernel_rfl

/-! ### laws.eqRow: function 291 -/
noncomputable def F.laws_eqRow (a0 : DRow) (a1 : DRow) : Option Bool :=
  (F.laws_eqEntryS a0.1 a1.1).bind fun r1 =>
  bif !r1 then
    some false
  else
    some true
noncomputable def C.laws_eqRow : Con := ⟨[.r (.val (.cons (.sl false 31 y20) .nil)), .r (.val (.cons (.sl false 31 y20) .nil))], .one .bool, fun x => F.laws_eqRow x.1 x.2.1⟩
def L.laws_eqRow : Loops := fun _ => none
noncomputable def K.laws_eqRow : Cons := lookK [(20, [], C.laws_eqEntryS)]
theorem run.laws_eqRow : ∀ x, runF tb K.laws_eqRow L.laws_eqRow [] Tryz.f291 C.laws_eqRow x = C.laws_eqRow.fn x := fun x => by kernel_rfl

/-! ### laws.eqRowS: function 227 -/
noncomputable def F.laws_eqRowS.s4 : ((List DRow) × (List DRow) × Int × Unit) → Option (Lp ((List DRow) × (List DRow) × Int × Unit) Bool) := fun (x1, x2, x3, _) =>
  bif decide (x3 < (len x1)) then
    chk (inb x3 (List.length x1)) <|
    chk (inb x3 (List.length x2)) <|
    (F.laws_eqRow (List.getD x1 ((Int.toNat x3)) (([], ()))) (List.getD x2 ((Int.toNat x3)) (([], ())))).bind fun r4 =>
    bif !r4 then
      some (.ret false)
    else
      some (.again (x1, x2, w64 (x3 + 1), ()))
  else
    some (.exit (x1, x2, x3, ()))
noncomputable def F.laws_eqRowS (a0 : List DRow) (a1 : List DRow) : Option Bool :=
  bif (len a0) != (len a1) then
    some false
  else
  afterO (loopO F.laws_eqRowS.s4 (a0, a1, 0, ())) fun (x5, x6, x7, _) =>
  some true
noncomputable def C.laws_eqRowS : Con := ⟨[.r (.val (.sl false 105 (.cons (.sl false 31 y20) .nil))), .r (.val (.sl false 105 (.cons (.sl false 31 y20) .nil)))], .one .bool, fun x => F.laws_eqRowS x.1 x.2.1⟩
def L.laws_eqRowS : Loops := lookL [(4, ⟨[.pat 0 (.val (.sl false 105 (.cons (.sl false 31 y20) .nil))), .pat 1 (.val (.sl false 105 (.cons (.sl false 31 y20) .nil))), .pat 5 (.val (.int .i64))], 0⟩)]
noncomputable def K.laws_eqRowS : Cons := lookK [(291, [], C.laws_eqRow)]
theorem run.laws_eqRowS : ∀ x, runF tb K.laws_eqRowS L.laws_eqRowS [] Tryz.f227 C.laws_eqRowS x = C.laws_eqRowS.fn x := fun x => by kernel_rfl

/-! ### laws.eqRowSS: function 118 -/
noncomputable def F.laws_eqRowSS.s4 : ((List (List DRow)) × (List (List DRow)) × Int × Unit) → Option (Lp ((List (List DRow)) × (List (List DRow)) × Int × Unit) Bool) := fun (x1, x2, x3, _) =>
  bif decide (x3 < (len x1)) then
    chk (inb x3 (List.length x1)) <|
    chk (inb x3 (List.length x2)) <|
    (F.laws_eqRowS (List.getD x1 ((Int.toNat x3)) ([])) (List.getD x2 ((Int.toNat x3)) ([]))).bind fun r4 =>
    bif !r4 then
      some (.ret false)
    else
      some (.again (x1, x2, w64 (x3 + 1), ()))
  else
    some (.exit (x1, x2, x3, ()))
noncomputable def F.laws_eqRowSS (a0 : List (List DRow)) (a1 : List (List DRow)) : Option Bool :=
  bif (len a0) != (len a1) then
    some false
  else
  afterO (loopO F.laws_eqRowSS.s4 (a0, a1, 0, ())) fun (x5, x6, x7, _) =>
  some true
noncomputable def C.laws_eqRowSS : Con := ⟨[.r (.val (.sl false 159 (.sl false 105 (.cons (.sl false 31 y20) .nil)))), .r (.val (.sl false 159 (.sl false 105 (.cons (.sl false 31 y20) .nil))))], .one .bool, fun x => F.laws_eqRowSS x.1 x.2.1⟩
def L.laws_eqRowSS : Loops := lookL [(4, ⟨[.pat 0 (.val (.sl false 159 (.sl false 105 (.cons (.sl false 31 y20) .nil)))), .pat 1 (.val (.sl false 159 (.sl false 105 (.cons (.sl false 31 y20) .nil)))), .pat 5 (.val (.int .i64))], 0⟩)]
noncomputable def K.laws_eqRowSS : Cons := lookK [(227, [], C.laws_eqRowS)]
theorem run.laws_eqRowSS : ∀ x, runF tb K.laws_eqRowSS L.laws_eqRowSS [] Tryz.f118 C.laws_eqRowSS x = C.laws_eqRowSS.fn x := fun x => by kernel_rfl

/-! ### laws.eqTurn: function 228 -/
noncomputable def F.laws_eqTurn (a0 : DTurn) (a1 : DTurn) : Option Bool :=
  bif a0.1 != a1.1 then
    some false
  else
  bif !(a0.2.1 == a1.2.1) then
    some false
  else
  (F.laws_eqIntS a0.2.2.1 a1.2.2.1).bind fun r1 =>
  bif !r1 then
    some false
  else
    some true
noncomputable def C.laws_eqTurn : Con := ⟨[.r (.val y5), .r (.val y5)], .one .bool, fun x => F.laws_eqTurn x.1 x.2.1⟩
def L.laws_eqTurn : Loops := fun _ => none
noncomputable def K.laws_eqTurn : Cons := lookK [(32, [], C.laws_eqIntS)]
theorem run.laws_eqTurn : ∀ x, runF tb K.laws_eqTurn L.laws_eqTurn [] Tryz.f228 C.laws_eqTurn x = C.laws_eqTurn.fn x := fun x => by kernel_rfl

/-! ### laws.eqTurnS: function 119 -/
noncomputable def F.laws_eqTurnS.s4 : ((List DTurn) × (List DTurn) × Int × Unit) → Option (Lp ((List DTurn) × (List DTurn) × Int × Unit) Bool) := fun (x1, x2, x3, _) =>
  bif decide (x3 < (len x1)) then
    chk (inb x3 (List.length x1)) <|
    chk (inb x3 (List.length x2)) <|
    (F.laws_eqTurn (List.getD x1 ((Int.toNat x3)) ((0, false, [], ()))) (List.getD x2 ((Int.toNat x3)) ((0, false, [], ())))).bind fun r4 =>
    bif !r4 then
      some (.ret false)
    else
      some (.again (x1, x2, w64 (x3 + 1), ()))
  else
    some (.exit (x1, x2, x3, ()))
noncomputable def F.laws_eqTurnS (a0 : List DTurn) (a1 : List DTurn) : Option Bool :=
  bif (len a0) != (len a1) then
    some false
  else
  afterO (loopO F.laws_eqTurnS.s4 (a0, a1, 0, ())) fun (x5, x6, x7, _) =>
  some true
noncomputable def C.laws_eqTurnS : Con := ⟨[.r (.val (.sl false 175 y5)), .r (.val (.sl false 175 y5))], .one .bool, fun x => F.laws_eqTurnS x.1 x.2.1⟩
def L.laws_eqTurnS : Loops := lookL [(4, ⟨[.pat 0 (.val (.sl false 175 y5)), .pat 1 (.val (.sl false 175 y5)), .pat 5 (.val (.int .i64))], 0⟩)]
noncomputable def K.laws_eqTurnS : Cons := lookK [(228, [], C.laws_eqTurn)]
theorem run.laws_eqTurnS : ∀ x, runF tb K.laws_eqTurnS L.laws_eqTurnS [] Tryz.f119 C.laws_eqTurnS x = C.laws_eqTurnS.fn x := fun x => by kernel_rfl

/-! ### laws.eqOut: function 229 -/
noncomputable def F.laws_eqOut (a0 : DOut) (a1 : DOut) : Option Bool :=
  bif a0.1 != a1.1 then
    some false
  else
  (F.laws_eqEntry a0.2.1 a1.2.1).bind fun r1 =>
  bif !r1 then
    some false
  else
    some true
noncomputable def C.laws_eqOut : Con := ⟨[.r (.val y21), .r (.val y21)], .one .bool, fun x => F.laws_eqOut x.1 x.2.1⟩
def L.laws_eqOut : Loops := fun _ => none
noncomputable def K.laws_eqOut : Cons := lookK [(21, [], C.laws_eqEntry)]
theorem run.laws_eqOut : ∀ x, runF tb K.laws_eqOut L.laws_eqOut [] Tryz.f229 C.laws_eqOut x = C.laws_eqOut.fn x := fun x => by kernel_rfl

/-! ### laws.eqOutS: function 120 -/
noncomputable def F.laws_eqOutS.s4 : ((List DOut) × (List DOut) × Int × Unit) → Option (Lp ((List DOut) × (List DOut) × Int × Unit) Bool) := fun (x1, x2, x3, _) =>
  bif decide (x3 < (len x1)) then
    chk (inb x3 (List.length x1)) <|
    chk (inb x3 (List.length x2)) <|
    (F.laws_eqOut (List.getD x1 ((Int.toNat x3)) ((0, (0, 0, [], (0, 0, 0, 0, [], [], [], ()), ()), ()))) (List.getD x2 ((Int.toNat x3)) ((0, (0, 0, [], (0, 0, 0, 0, [], [], [], ()), ()), ())))).bind fun r4 =>
    bif !r4 then
      some (.ret false)
    else
      some (.again (x1, x2, w64 (x3 + 1), ()))
  else
    some (.exit (x1, x2, x3, ()))
noncomputable def F.laws_eqOutS (a0 : List DOut) (a1 : List DOut) : Option Bool :=
  bif (len a0) != (len a1) then
    some false
  else
  afterO (loopO F.laws_eqOutS.s4 (a0, a1, 0, ())) fun (x5, x6, x7, _) =>
  some true
noncomputable def C.laws_eqOutS : Con := ⟨[.r (.val (.sl false 137 y21)), .r (.val (.sl false 137 y21))], .one .bool, fun x => F.laws_eqOutS x.1 x.2.1⟩
def L.laws_eqOutS : Loops := lookL [(4, ⟨[.pat 0 (.val (.sl false 137 y21)), .pat 1 (.val (.sl false 137 y21)), .pat 5 (.val (.int .i64))], 0⟩)]
noncomputable def K.laws_eqOutS : Cons := lookK [(229, [], C.laws_eqOut)]
theorem run.laws_eqOutS : ∀ x, runF tb K.laws_eqOutS L.laws_eqOutS [] Tryz.f120 C.laws_eqOutS x = C.laws_eqOutS.fn x := fun x => by kernel_rfl

/-! ### laws.eqHouse: function 29 -/
noncomputable def F.laws_eqHouse (a0 : DHouse) (a1 : DHouse) : Option Bool :=
  (F.laws_eqConf a0.1 a1.1).bind fun r1 =>
  bif !r1 then
    some false
  else
  bif a0.2.1 != a1.2.1 then
    some false
  else
  bif !(a0.2.2.1 == a1.2.2.1) then
    some false
  else
  (F.laws_eqSeatS a0.2.2.2.1 a1.2.2.2.1).bind fun r2 =>
  bif !r2 then
    some false
  else
  (F.laws_eqRowSS a0.2.2.2.2.1 a1.2.2.2.2.1).bind fun r3 =>
  bif !r3 then
    some false
  else
  (F.laws_eqTurnS a0.2.2.2.2.2.1 a1.2.2.2.2.2.1).bind fun r4 =>
  bif !r4 then
    some false
  else
  bif a0.2.2.2.2.2.2.1 != a1.2.2.2.2.2.2.1 then
    some false
  else
  (F.laws_eqEntryS a0.2.2.2.2.2.2.2.1 a1.2.2.2.2.2.2.2.1).bind fun r5 =>
  bif !r5 then
    some false
  else
  (F.laws_eqOutS a0.2.2.2.2.2.2.2.2.1 a1.2.2.2.2.2.2.2.2.1).bind fun r6 =>
  bif !r6 then
    some false
  else
    some true
noncomputable def C.laws_eqHouse : Con := ⟨[.r (.val y22), .r (.val y22)], .one .bool, fun x => F.laws_eqHouse x.1 x.2.1⟩
def L.laws_eqHouse : Loops := fun _ => none
noncomputable def K.laws_eqHouse : Cons := lookK [(20, [], C.laws_eqEntryS), (116, [], C.laws_eqConf), (117, [], C.laws_eqSeatS), (118, [], C.laws_eqRowSS), (119, [], C.laws_eqTurnS), (120, [], C.laws_eqOutS)]
theorem run.laws_eqHouse : ∀ x, runF tb K.laws_eqHouse L.laws_eqHouse [] Tryz.f29 C.laws_eqHouse x = C.laws_eqHouse.fn x := fun x => by kernel_rfl

/-! ### laws.eqItem: function 133 -/
noncomputable def F.laws_eqItem (a0 : DItem) (a1 : DItem) : Option Bool :=
  bif a0.1 != a1.1 then
    some false
  else
  bif a0.2.1 != a1.2.1 then
    some false
  else
  bif a0.2.2.1 != a1.2.2.1 then
    some false
  else
  bif a0.2.2.2.1 != a1.2.2.2.1 then
    some false
  else
  (F.laws_eqSketch a0.2.2.2.2.1 a1.2.2.2.2.1).bind fun r1 =>
  bif !r1 then
    some false
  else
    some true
noncomputable def C.laws_eqItem : Con := ⟨[.r (.val y8), .r (.val y8)], .one .bool, fun x => F.laws_eqItem x.1 x.2.1⟩
def L.laws_eqItem : Loops := fun _ => none
noncomputable def K.laws_eqItem : Cons := lookK [(81, [], C.laws_eqSketch)]
theorem run.laws_eqItem : ∀ x, runF tb K.laws_eqItem L.laws_eqItem [] Tryz.f133 C.laws_eqItem x = C.laws_eqItem.fn x := fun x => by kernel_rfl

/-! ### laws.eqFrame: function 38 -/
noncomputable def F.laws_eqFrame (a0 : DFrame) (a1 : DFrame) : Option Bool :=
  bif a0.1 != a1.1 then
    some false
  else
  bif a0.2.1 != a1.2.1 then
    some false
  else
  bif a0.2.2.1 != a1.2.2.1 then
    some false
  else
  bif a0.2.2.2.1 != a1.2.2.2.1 then
    some false
  else
  (F.laws_eqSpanS a0.2.2.2.2.1 a1.2.2.2.2.1).bind fun r1 =>
  bif !r1 then
    some false
  else
  (F.laws_eqItem a0.2.2.2.2.2.1 a1.2.2.2.2.2.1).bind fun r2 =>
  bif !r2 then
    some false
  else
    some true
noncomputable def C.laws_eqFrame : Con := ⟨[.r (.val y23), .r (.val y23)], .one .bool, fun x => F.laws_eqFrame x.1 x.2.1⟩
def L.laws_eqFrame : Loops := fun _ => none
noncomputable def K.laws_eqFrame : Cons := lookK [(80, [], C.laws_eqSpanS), (133, [], C.laws_eqItem)]
theorem run.laws_eqFrame : ∀ x, runF tb K.laws_eqFrame L.laws_eqFrame [] Tryz.f38 C.laws_eqFrame x = C.laws_eqFrame.fn x := fun x => by kernel_rfl

/-! ### laws.markIntS: function 34 -/
noncomputable def F.laws_markIntS.s2 : (Int × Int × (List Int) × Unit) → Option (Lp (Int × Int × (List Int) × Unit) (Int × (List Int))) := fun (x1, x2, x3, _) =>
  bif decide (x2 < (len x3)) then
    chk (inb x2 (List.length x3)) <|
    some (.again (w64 (x1 + 1), w64 (x2 + 1), List.set x3 ((Int.toNat x2)) x1, ()))
  else
    some (.exit (x1, x2, x3, ()))
noncomputable def F.laws_markIntS (a0 : List Int) (a1 : Int) : Option (Int × (List Int)) :=
  afterO (loopO F.laws_markIntS.s2 (a1, 0, a0, ())) fun (x4, x5, x6, _) =>
  some (x4, x6)
noncomputable def C.laws_markIntS : Con := ⟨[.c (.sl true 3 (.int .i64)), .r (.val (.int .i64))], .one (.int .i64), fun x => F.laws_markIntS x.1 x.2.1⟩
def L.laws_markIntS : Loops := lookL [(2, ⟨[.pat 1 (.val (.int .i64)), .pat 5 (.val (.int .i64)), .root 0 false (.sl true 3 (.int .i64)) [0]], 0⟩)]
noncomputable def K.laws_markIntS : Cons := lookK []
theorem run.laws_markIntS : ∀ x, runF tb K.laws_markIntS L.laws_markIntS [0] Tryz.f34 C.laws_markIntS x = C.laws_markIntS.fn x := fun x => by kernel_rfl

/-! ### laws.markConf: function 125 -/
noncomputable def F.laws_markConf (a0 : DConf) (a1 : Int) : Option (Int × DConf) :=
  (F.laws_markIntS a0.2.2.2.1 a1).bind fun r1 =>
  some (r1.1, (a0.1, a0.2.1, a0.2.2.1, r1.2, a0.2.2.2.2))
noncomputable def C.laws_markConf : Con := ⟨[.c y10, .r (.val (.int .i64))], .one (.int .i64), fun x => F.laws_markConf x.1 x.2.1⟩
def L.laws_markConf : Loops := fun _ => none
noncomputable def K.laws_markConf : Cons := lookK [(34, [], C.laws_markIntS)]
theorem run.laws_markConf : ∀ x, runF tb K.laws_markConf L.laws_markConf [2] Tryz.f125 C.laws_markConf x = C.laws_markConf.fn x := fun x => by kernel_rfl

/-! ### laws.markSpanS: function 82 -/
noncomputable def F.laws_markSpanS.s2 : (Int × Int × (List DSpan) × Unit) → Option (Lp (Int × Int × (List DSpan) × Unit) (Int × (List DSpan))) := fun (x1, x2, x3, _) =>
  bif decide (x2 < (len x3)) then
    chk (inb x2 (List.length x3)) <|
    chk (inb x2 (List.length (List.set x3 ((Int.toNat x2)) ((x1, (List.getD x3 ((Int.toNat x2)) ((0, 0, ()))).2))))) <|
    (some (List.set (List.set x3 ((Int.toNat x2)) ((x1, (List.getD x3 ((Int.toNat x2)) ((0, 0, ()))).2))) ((Int.toNat x2)) (((List.getD (List.set x3 ((Int.toNat x2)) ((x1, (List.getD x3 ((Int.toNat x2)) ((0, 0, ()))).2))) ((Int.toNat x2)) ((0, 0, ()))).1, w64 (x1 + 1), ((List.getD (List.set x3 ((Int.toNat x2)) ((x1, (List.getD x3 ((Int.toNat x2)) ((0, 0, ()))).2))) ((Int.toNat x2)) ((0, 0, ()))).2).2)))).bind fun r4 =>
    some (.again (w64 ((w64 (x1 + 1)) + 1), w64 (x2 + 1), r4, ()))
  else
    some (.exit (x1, x2, x3, ()))
noncomputable def F.laws_markSpanS (a0 : List DSpan) (a1 : Int) : Option (Int × (List DSpan)) :=
  afterO (loopO F.laws_markSpanS.s2 (a1, 0, a0, ())) fun (x5, x6, x7, _) =>
  some (x5, x7)
noncomputable def C.laws_markSpanS : Con := ⟨[.c (.sl true 150 y1), .r (.val (.int .i64))], .one (.int .i64), fun x => F.laws_markSpanS x.1 x.2.1⟩
def L.laws_markSpanS : Loops := lookL [(2, ⟨[.pat 1 (.val (.int .i64)), .pat 5 (.val (.int .i64)), .root 0 false (.sl true 150 y1) [0]], 0⟩)]
noncomputable def K.laws_markSpanS : Cons := lookK []
theorem run.laws_markSpanS : ∀ x, runF tb K.laws_markSpanS L.laws_markSpanS [0] Tryz.f82 C.laws_markSpanS x = C.laws_markSpanS.fn x := fun x => by kernel_rfl

/-! ### laws.markSeatS: function 126 -/
noncomputable def F.laws_markSeatS.s2 : (Int × Int × (List DSeat) × Unit) → Option (Lp (Int × Int × (List DSeat) × Unit) (Int × (List DSeat))) := fun (x1, x2, x3, _) =>
  bif decide (x2 < (len x3)) then
    chk (inb x2 (List.length x3)) <|
    chk (inb x2 (List.length (List.set x3 ((Int.toNat x2)) ((x1, (List.getD x3 ((Int.toNat x2)) ((0, 0, [], 0, 0, ()))).2))))) <|
    (some (List.set (List.set x3 ((Int.toNat x2)) ((x1, (List.getD x3 ((Int.toNat x2)) ((0, 0, [], 0, 0, ()))).2))) ((Int.toNat x2)) (((List.getD (List.set x3 ((Int.toNat x2)) ((x1, (List.getD x3 ((Int.toNat x2)) ((0, 0, [], 0, 0, ()))).2))) ((Int.toNat x2)) ((0, 0, [], 0, 0, ()))).1, w64 (x1 + 1), ((List.getD (List.set x3 ((Int.toNat x2)) ((x1, (List.getD x3 ((Int.toNat x2)) ((0, 0, [], 0, 0, ()))).2))) ((Int.toNat x2)) ((0, 0, [], 0, 0, ()))).2).2)))).bind fun r4 =>
    chk (inb x2 (List.length r4)) <|
    (F.laws_markSpanS ((((List.getD r4 ((Int.toNat x2)) ((0, 0, [], 0, 0, ()))).2).2).1) (w64 ((w64 (x1 + 1)) + 1))).bind fun r5 =>
    (some (List.set r4 ((Int.toNat x2)) (((List.getD r4 ((Int.toNat x2)) ((0, 0, [], 0, 0, ()))).1, ((List.getD r4 ((Int.toNat x2)) ((0, 0, [], 0, 0, ()))).2).1, r5.2, (((List.getD r4 ((Int.toNat x2)) ((0, 0, [], 0, 0, ()))).2).2).2)))).bind fun r6 =>
    chk (inb x2 (List.length r6)) <|
    (some (List.set r6 ((Int.toNat x2)) (((List.getD r6 ((Int.toNat x2)) ((0, 0, [], 0, 0, ()))).1, ((List.getD r6 ((Int.toNat x2)) ((0, 0, [], 0, 0, ()))).2).1, (((List.getD r6 ((Int.toNat x2)) ((0, 0, [], 0, 0, ()))).2).2).1, r5.1, ((((List.getD r6 ((Int.toNat x2)) ((0, 0, [], 0, 0, ()))).2).2).2).2)))).bind fun r7 =>
    chk (inb x2 (List.length r7)) <|
    (some (List.set r7 ((Int.toNat x2)) (((List.getD r7 ((Int.toNat x2)) ((0, 0, [], 0, 0, ()))).1, ((List.getD r7 ((Int.toNat x2)) ((0, 0, [], 0, 0, ()))).2).1, (((List.getD r7 ((Int.toNat x2)) ((0, 0, [], 0, 0, ()))).2).2).1, ((((List.getD r7 ((Int.toNat x2)) ((0, 0, [], 0, 0, ()))).2).2).2).1, w64 (r5.1 + 1), (((((List.getD r7 ((Int.toNat x2)) ((0, 0, [], 0, 0, ()))).2).2).2).2).2)))).bind fun r8 =>
    some (.again (w64 ((w64 (r5.1 + 1)) + 1), w64 (x2 + 1), r8, ()))
  else
    some (.exit (x1, x2, x3, ()))
noncomputable def F.laws_markSeatS (a0 : List DSeat) (a1 : Int) : Option (Int × (List DSeat)) :=
  afterO (loopO F.laws_markSeatS.s2 (a1, 0, a0, ())) fun (x9, x10, x11, _) =>
  some (x9, x11)
noncomputable def C.laws_markSeatS : Con := ⟨[.c (.sl true 139 y11), .r (.val (.int .i64))], .one (.int .i64), fun x => F.laws_markSeatS x.1 x.2.1⟩
def L.laws_markSeatS : Loops := lookL [(2, ⟨[.pat 1 (.val (.int .i64)), .pat 5 (.val (.int .i64)), .root 0 false (.sl true 139 y11) [0]], 0⟩)]
noncomputable def K.laws_markSeatS : Cons := lookK [(82, [], C.laws_markSpanS)]
theorem run.laws_markSeatS : ∀ x, runF tb K.laws_markSeatS L.laws_markSeatS [0] Tryz.f126 C.laws_markSeatS x = C.laws_markSeatS.fn x := fun x => by kernel_rfl

/-! ### laws.markIntSS: function 83 -/
noncomputable def F.laws_markIntSS.s2 : (Int × Int × (List (List Int)) × Unit) → Option (Lp (Int × Int × (List (List Int)) × Unit) (Int × (List (List Int)))) := fun (x1, x2, x3, _) =>
  bif decide (x2 < (len x3)) then
    chk (inb x2 (List.length x3)) <|
    (F.laws_markIntS (List.getD x3 ((Int.toNat x2)) ([])) x1).bind fun r4 =>
    some (.again (r4.1, w64 (x2 + 1), List.set x3 ((Int.toNat x2)) r4.2, ()))
  else
    some (.exit (x1, x2, x3, ()))
noncomputable def F.laws_markIntSS (a0 : List (List Int)) (a1 : Int) : Option (Int × (List (List Int))) :=
  afterO (loopO F.laws_markIntSS.s2 (a1, 0, a0, ())) fun (x5, x6, x7, _) =>
  some (x5, x7)
noncomputable def C.laws_markIntSS : Con := ⟨[.c (.sl true 26 (.sl true 3 (.int .i64))), .r (.val (.int .i64))], .one (.int .i64), fun x => F.laws_markIntSS x.1 x.2.1⟩
def L.laws_markIntSS : Loops := lookL [(2, ⟨[.pat 1 (.val (.int .i64)), .pat 5 (.val (.int .i64)), .root 0 false (.sl true 26 (.sl true 3 (.int .i64))) [0]], 0⟩)]
noncomputable def K.laws_markIntSS : Cons := lookK [(34, [], C.laws_markIntS)]
theorem run.laws_markIntSS : ∀ x, runF tb K.laws_markIntSS L.laws_markIntSS [0] Tryz.f83 C.laws_markIntSS x = C.laws_markIntSS.fn x := fun x => by kernel_rfl
end Go.Proofs.YtdnknkfnfnlajaaGreat.Vm
