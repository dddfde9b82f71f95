import Derived.Test.YtabjfkongckhaaaV1
import Derived.Test.YtabjfkongckhaaaProg
import Derived.KernelRfl
namespace Go.Proofs.Ytabjfkongckhaaa.Vm
open Go Go.RowKit
set_option maxRecDepth 100000
set_option linter.unusedVariables false
def lookL (l : List (Nat × Loop)) : Loops := fun n => lookN l n
def eqNs : List Nat → List Nat → Bool
  | [], [] => true
  | a :: l, b :: m => Nat.beq a b && eqNs l m
  | _, _ => false
def lookK : List (FuncId × List Nat × Con) → Cons
  | [], _, _ => none
  | (f, ks, c) :: l, g, xs => bif Nat.beq f g && eqNs ks xs then some c else lookK l g xs
abbrev DTurn : Type := Int × Bool × (List Int) × Unit
abbrev DL1Cur : Type := (List Int) × Int × Int × Unit
abbrev DSpan : Type := Int × Int × Unit
abbrev DSeat : Type := Int × Int × (List DSpan) × Int × Int × Unit
abbrev DSketch : Type := Int × Int × Int × Int × (List Int) × (List Int) × (List (List Int)) × Unit
abbrev DItem : Type := Int × Int × Int × Int × DSketch × Unit
abbrev DAgent : Type := Int × Int × Bool × Int × (List DItem) × (List DSpan) × Int × Unit
abbrev DFrame : Type := Int × Int × Int × Int × (List DSpan) × DItem × Unit
abbrev DConf : Type := Int × Int × Int × (List Int) × Int × Int × Int × Int × Unit
abbrev y0 : Ty := .cons (.int .i64) (.cons .bool (.cons (.sl true 3 (.int .i64)) .nil))
abbrev y1 : Ty := .cons (.int .i64) (.cons .bool (.cons (.sl false 3 (.int .i64)) .nil))
abbrev y2 : Ty := .cons (.sl false 5 (.int .u8)) (.cons (.int .i64) (.cons (.int .i64) .nil))
abbrev y3 : Ty := .cons (.int .i64) (.cons (.int .i64) .nil)
abbrev y4 : Ty := .cons (.int .i64) (.cons (.int .i64) (.cons (.sl false 124 y3) (.cons (.int .i64) (.cons (.int .i64) .nil))))
abbrev y5 : Ty := .cons (.int .i64) (.cons (.int .i64) (.cons (.sl true 112 y3) (.cons (.int .i64) (.cons (.int .i64) .nil))))
abbrev y6 : Ty := .cons (.int .i64) (.cons (.int .i64) (.cons (.sl false 112 y3) (.cons (.int .i64) (.cons (.int .i64) .nil))))
abbrev y7 : Ty := .cons (.int .i64) (.cons (.int .i64) (.cons (.int .i64) (.cons (.int .i64) (.cons (.sl false 3 (.int .i64)) (.cons (.sl false 3 (.int .i64)) (.cons (.sl false 27 (.sl false 3 (.int .i64))) .nil))))))
abbrev y8 : Ty := .cons (.int .i64) (.cons (.int .i64) (.cons (.int .i64) (.cons (.int .i64) (.cons y7 .nil))))
abbrev y9 : Ty := .cons (.int .i64) (.cons (.int .i64) (.cons .bool (.cons (.int .i64) (.cons (.sl false 64 y8) (.cons (.sl false 112 y3) (.cons (.int .i64) .nil))))))
abbrev y10 : Ty := .cons (.int .i64) (.cons (.int .i64) (.cons (.int .i64) (.cons (.int .i64) (.cons (.sl true 3 (.int .i64)) (.cons (.sl true 3 (.int .i64)) (.cons (.sl true 27 (.sl true 3 (.int .i64))) .nil))))))
abbrev y11 : Ty := .cons (.int .i64) (.cons (.int .i64) (.cons (.int .i64) (.cons (.int .i64) (.cons y10 .nil))))
abbrev y12 : Ty := .cons (.int .i64) (.cons (.int .i64) (.cons .bool (.cons (.int .i64) (.cons (.sl true 64 y11) (.cons (.sl true 112 y3) (.cons (.int .i64) .nil))))))
abbrev y13 : Ty := .cons (.int .i64) (.cons (.int .i64) (.cons (.int .i64) (.cons (.int .i64) (.cons (.sl true 112 y3) (.cons y11 .nil)))))
abbrev y14 : Ty := .cons (.int .i64) (.cons (.int .i64) (.cons (.int .i64) (.cons (.int .i64) (.cons (.sl false 112 y3) (.cons y8 .nil)))))
abbrev y15 : Ty := .cons (.int .i64) (.cons (.int .i64) (.cons (.int .i64) (.cons (.sl false 3 (.int .i64)) (.cons (.int .i64) (.cons (.int .i64) (.cons (.int .i64) (.cons (.int .i64) .nil)))))))
abbrev y16 : Ty := .cons (.int .i64) (.cons (.int .i64) (.cons (.int .i64) (.cons (.sl true 3 (.int .i64)) (.cons (.int .i64) (.cons (.int .i64) (.cons (.int .i64) (.cons (.int .i64) .nil)))))))
def tb : List (TypeId × TRow) := [
  (2, ⟨(.int .i64), 8, []⟩),
  (3, ⟨(.int .i64), 8, []⟩),
  (4, ⟨.bool, 1, []⟩),
  (5, ⟨(.int .u8), 1, []⟩),
  (6, ⟨(.int .u8), 1, []⟩),
  (9, ⟨.str, 16, []⟩),
  (10, ⟨.str, 16, []⟩),
  (11, ⟨.str, 16, []⟩),
  (12, ⟨(.int .u64), 8, []⟩),
  (21, ⟨(.int .i32), 4, []⟩),
  (27, ⟨(.sl false 3 (.int .i64)), 24, []⟩),
  (28, ⟨y1, 40, [3, 4, 27]⟩),
  (29, ⟨y1, 40, [3, 4, 27]⟩),
  (34, ⟨(.sl false 5 (.int .u8)), 24, []⟩),
  (38, ⟨y1, 40, [3, 4, 27]⟩),
  (43, ⟨(.sl false 124 y3), 24, []⟩),
  (44, ⟨y4, 56, [3, 3, 43, 3, 3]⟩),
  (45, ⟨y4, 56, [3, 3, 43, 3, 3]⟩),
  (48, ⟨(.sl false 112 y3), 24, []⟩),
  (49, ⟨y6, 56, [3, 3, 48, 3, 3]⟩),
  (50, ⟨y6, 56, [3, 3, 48, 3, 3]⟩),
  (54, ⟨(.sl false 64 y8), 24, []⟩),
  (55, ⟨y9, 88, [3, 3, 4, 3, 54, 48, 3]⟩),
  (56, ⟨y9, 88, [3, 3, 4, 3, 54, 48, 3]⟩),
  (60, ⟨(.sl false 27 (.sl false 3 (.int .i64))), 24, []⟩),
  (61, ⟨y7, 104, [3, 3, 3, 3, 27, 27, 60]⟩),
  (62, ⟨y7, 104, [3, 3, 3, 3, 27, 27, 60]⟩),
  (63, ⟨y8, 136, [3, 3, 3, 3, 62]⟩),
  (64, ⟨y8, 136, [3, 3, 3, 3, 62]⟩),
  (65, ⟨y14, 192, [3, 3, 3, 3, 48, 64]⟩),
  (66, ⟨y14, 192, [3, 3, 3, 3, 48, 64]⟩),
  (74, ⟨y15, 80, [3, 3, 3, 27, 3, 3, 3, 3]⟩),
  (75, ⟨y15, 80, [3, 3, 3, 27, 3, 3, 3, 3]⟩),
  (78, ⟨y15, 80, [3, 3, 3, 27, 3, 3, 3, 3]⟩),
  (92, ⟨(.sl false 9 .str), 24, []⟩),
  (111, ⟨y3, 16, [3, 3]⟩),
  (112, ⟨y3, 16, [3, 3]⟩),
  (121, ⟨y2, 40, [34, 3, 3]⟩),
  (122, ⟨y2, 40, [34, 3, 3]⟩),
  (124, ⟨y3, 16, [3, 3]⟩),
  (146, ⟨(.int .u64), 8, []⟩),
  (160, ⟨(.int .u32), 4, []⟩),
  (161, ⟨(.int .u8), 1, []⟩),
  (162, ⟨(.int .u8), 1, []⟩),
  (165, ⟨(.int .i32), 4, []⟩),
  (166, ⟨(.int .i32), 4, []⟩)]

/-! ### spec.l1In: function 64 -/
noncomputable def F.spec_l1In (a0 : Int) (a1 : Int) (a2 : Int) : Option Bool :=
  bif decide (a0 ≥ a1) then
    some (decide (a0 ≤ a2))
  else
    some false
noncomputable def C.spec_l1In : Con := ⟨[.r (.val (.int .i64)), .r (.val (.int .i64)), .r (.val (.int .i64))], .one .bool, fun x => F.spec_l1In x.1 x.2.1 x.2.2.1⟩
def L.spec_l1In : Loops := fun _ => none
noncomputable def K.spec_l1In : Cons := lookK []
theorem run.spec_l1In : ∀ x, runF tb K.spec_l1In L.spec_l1In [] Try.f64 C.spec_l1In x = C.spec_l1In.fn x := fun x => by kernel_rfl

/-! ### spec.InText: function 15 -/
noncomputable def F.spec_InText (a0 : Int) : Option ByteArray :=
  (F.spec_l1In a0 0 (w64 ((len ([(ByteArray.mk #[110, 101, 119]), (ByteArray.mk #[116, 119, 105, 99, 101]), (ByteArray.mk #[104, 101, 108, 108, 111]), (ByteArray.mk #[101, 112, 111, 99, 104]), (ByteArray.mk #[99, 114, 101, 100, 105, 116]), (ByteArray.mk #[99, 108, 111, 115, 101, 100]), (ByteArray.mk #[98, 97, 100])])) - 1))).bind fun r1 =>
  bif !r1 then
    some (ByteArray.mk #[])
  else
  chk (inb a0 (List.length ([(ByteArray.mk #[110, 101, 119]), (ByteArray.mk #[116, 119, 105, 99, 101]), (ByteArray.mk #[104, 101, 108, 108, 111]), (ByteArray.mk #[101, 112, 111, 99, 104]), (ByteArray.mk #[99, 114, 101, 100, 105, 116]), (ByteArray.mk #[99, 108, 111, 115, 101, 100]), (ByteArray.mk #[98, 97, 100])]))) <|
  some (List.getD ([(ByteArray.mk #[110, 101, 119]), (ByteArray.mk #[116, 119, 105, 99, 101]), (ByteArray.mk #[104, 101, 108, 108, 111]), (ByteArray.mk #[101, 112, 111, 99, 104]), (ByteArray.mk #[99, 114, 101, 100, 105, 116]), (ByteArray.mk #[99, 108, 111, 115, 101, 100]), (ByteArray.mk #[98, 97, 100])]) ((Int.toNat a0)) ByteArray.empty)
noncomputable def C.spec_InText : Con := ⟨[.r (.val (.int .i64))], .one .str, fun x => F.spec_InText x.1⟩
def L.spec_InText : Loops := fun _ => none
noncomputable def K.spec_InText : Cons := lookK [(64, [], C.spec_l1In)]
theorem run.spec_InText : ∀ x, runF tb K.spec_InText L.spec_InText [] Try.f15 C.spec_InText x = C.spec_InText.fn x := fun x => by kernel_rfl

/-! ### impl.within: function 65 -/
noncomputable def F.impl_within (a0 : Int) (a1 : Int) (a2 : Int) : Option Bool :=
  bif decide (a0 ≥ a1) then
    some (decide (a0 ≤ a2))
  else
    some false
noncomputable def C.impl_within : Con := ⟨[.r (.val (.int .i64)), .r (.val (.int .i64)), .r (.val (.int .i64))], .one .bool, fun x => F.impl_within x.1 x.2.1 x.2.2.1⟩
def L.impl_within : Loops := fun _ => none
noncomputable def K.impl_within : Cons := lookK []
theorem run.impl_within : ∀ x, runF tb K.impl_within L.impl_within [] Try.f65 C.impl_within x = C.impl_within.fn x := fun x => by kernel_rfl

/-! ### impl.InText: function 16 -/
noncomputable def F.impl_InText (a0 : Int) : Option ByteArray :=
  (F.impl_within a0 0 6).bind fun r1 =>
  bif !r1 then
    some (ByteArray.mk #[])
  else
  chk (inb a0 (List.length ([(ByteArray.mk #[110, 101, 119]), (ByteArray.mk #[116, 119, 105, 99, 101]), (ByteArray.mk #[104, 101, 108, 108, 111]), (ByteArray.mk #[101, 112, 111, 99, 104]), (ByteArray.mk #[99, 114, 101, 100, 105, 116]), (ByteArray.mk #[99, 108, 111, 115, 101, 100]), (ByteArray.mk #[98, 97, 100])]))) <|
  some (List.getD ([(ByteArray.mk #[110, 101, 119]), (ByteArray.mk #[116, 119, 105, 99, 101]), (ByteArray.mk #[104, 101, 108, 108, 111]), (ByteArray.mk #[101, 112, 111, 99, 104]), (ByteArray.mk #[99, 114, 101, 100, 105, 116]), (ByteArray.mk #[99, 108, 111, 115, 101, 100]), (ByteArray.mk #[98, 97, 100])]) ((Int.toNat a0)) ByteArray.empty)
noncomputable def C.impl_InText : Con := ⟨[.r (.val (.int .i64))], .one .str, fun x => F.impl_InText x.1⟩
def L.impl_InText : Loops := fun _ => none
noncomputable def K.impl_InText : Cons := lookK [(65, [], C.impl_within)]
theorem run.impl_InText : ∀ x, runF tb K.impl_InText L.impl_InText [] Try.f16 C.impl_InText x = C.impl_InText.fn x := fun x => by kernel_rfl

/-! ### laws.FnExactInText: function 3 -/
noncomputable def F.laws_FnExactInText (a0 : Int) : Option Bool :=
  (F.spec_InText a0).bind fun r1 =>
  (F.impl_InText a0).bind fun r2 =>
  bif !(ByteArray.toList r2 == ByteArray.toList r1) then
    some false
  else
    some true
noncomputable def C.laws_FnExactInText : Con := ⟨[.r (.val (.int .i64))], .one .bool, fun x => F.laws_FnExactInText x.1⟩
def L.laws_FnExactInText : Loops := fun _ => none
noncomputable def K.laws_FnExactInText : Cons := lookK [(15, [], C.spec_InText), (16, [], C.impl_InText)]
theorem run.laws_FnExactInText : ∀ x, runF tb K.laws_FnExactInText L.laws_FnExactInText [] Try.f3 C.laws_FnExactInText x = C.laws_FnExactInText.fn x := fun x => by kernel_rfl

/-! ### spec.PickClass: function 17 -/
noncomputable def F.spec_PickClass (a0 : Bool) (a1 : Bool) (a2 : Int) (a3 : Int) : Option (Int × Int) :=
  (F.spec_l1In a2 0 1000).bind fun r1 =>
  bif !r1 then
    some (-1, 0)
  else
  (F.spec_l1In a3 1 10).bind fun r2 =>
  bif !r2 then
    some (-1, 0)
  else
  bif !a0 then
    bif !a1 then
      some (-1, 0)
    else
    bif !a1 then
      some (0, 0)
    else
    bif !a0 then
      some (1, 0)
    else
    bif decide ((w64 (a2 + 1)) ≥ a3) then
      some (1, 0)
    else
      some (0, w64 (a2 + 1))
  else
  bif !a1 then
    some (0, 0)
  else
  bif !a0 then
    some (1, 0)
  else
  bif decide ((w64 (a2 + 1)) ≥ a3) then
    some (1, 0)
  else
    some (0, w64 (a2 + 1))
noncomputable def C.spec_PickClass : Con := ⟨[.r (.val .bool), .r (.val .bool), .r (.val (.int .i64)), .r (.val (.int .i64))], .many [(.int .i64), (.int .i64)], fun x => F.spec_PickClass x.1 x.2.1 x.2.2.1 x.2.2.2.1⟩
def L.spec_PickClass : Loops := fun _ => none
noncomputable def K.spec_PickClass : Cons := lookK [(64, [], C.spec_l1In)]
theorem run.spec_PickClass : ∀ x, runF tb K.spec_PickClass L.spec_PickClass [] Try.f17 C.spec_PickClass x = C.spec_PickClass.fn x := fun x => by kernel_rfl

/-! ### impl.PickClass: function 18 -/
noncomputable def F.impl_PickClass (a0 : Bool) (a1 : Bool) (a2 : Int) (a3 : Int) : Option (Int × Int) :=
  (F.impl_within a2 0 1000).bind fun r1 =>
  bif !r1 then
    some (-1, 0)
  else
  (F.impl_within a3 1 10).bind fun r2 =>
  bif !r2 then
    some (-1, 0)
  else
  bif !a0 then
    bif !a1 then
      some (-1, 0)
    else
    bif !a1 then
      some (0, 0)
    else
    bif !a0 then
      some (1, 0)
    else
    bif decide ((w64 (a2 + 1)) ≥ a3) then
      some (1, 0)
    else
      some (0, w64 (a2 + 1))
  else
  bif !a1 then
    some (0, 0)
  else
  bif !a0 then
    some (1, 0)
  else
  bif decide ((w64 (a2 + 1)) ≥ a3) then
    some (1, 0)
  else
    some (0, w64 (a2 + 1))
noncomputable def C.impl_PickClass : Con := ⟨[.r (.val .bool), .r (.val .bool), .r (.val (.int .i64)), .r (.val (.int .i64))], .many [(.int .i64), (.int .i64)], fun x => F.impl_PickClass x.1 x.2.1 x.2.2.1 x.2.2.2.1⟩
def L.impl_PickClass : Loops := fun _ => none
noncomputable def K.impl_PickClass : Cons := lookK [(65, [], C.impl_within)]
theorem run.impl_PickClass : ∀ x, runF tb K.impl_PickClass L.impl_PickClass [] Try.f18 C.impl_PickClass x = C.impl_PickClass.fn x := fun x => by kernel_rfl

/-! ### laws.FnExactPickClass: function 4 -/
noncomputable def F.laws_FnExactPickClass (a0 : Bool) (a1 : Bool) (a2 : Int) (a3 : Int) : Option Bool :=
  (F.spec_PickClass a0 a1 a2 a3).bind fun r1 =>
  (F.impl_PickClass a0 a1 a2 a3).bind fun r2 =>
  bif r2.1 != r1.1 then
    some false
  else
  bif r2.2 != r1.2 then
    some false
  else
    some true
noncomputable def C.laws_FnExactPickClass : Con := ⟨[.r (.val .bool), .r (.val .bool), .r (.val (.int .i64)), .r (.val (.int .i64))], .one .bool, fun x => F.laws_FnExactPickClass x.1 x.2.1 x.2.2.1 x.2.2.2.1⟩
def L.laws_FnExactPickClass : Loops := fun _ => none
noncomputable def K.laws_FnExactPickClass : Cons := lookK [(17, [], C.spec_PickClass), (18, [], C.impl_PickClass)]
theorem run.laws_FnExactPickClass : ∀ x, runF tb K.laws_FnExactPickClass L.laws_FnExactPickClass [] Try.f4 C.laws_FnExactPickClass x = C.laws_FnExactPickClass.fn x := fun x => by kernel_rfl

/-! ### spec.TurnNew: function 19 -/
noncomputable def F.spec_TurnNew : Option DTurn :=
  chk (mk 8 3 3) <|
  some (0, true, List.replicate 3 0, ())
noncomputable def C.spec_TurnNew : Con := ⟨[], .one y0, fun x => F.spec_TurnNew⟩
def L.spec_TurnNew : Loops := fun _ => none
noncomputable def K.spec_TurnNew : Cons := lookK []
theorem run.spec_TurnNew : ∀ x, runF tb K.spec_TurnNew L.spec_TurnNew [] Try.f19 C.spec_TurnNew x = C.spec_TurnNew.fn x := fun x => by kernel_rfl

/-! ### impl.TurnNew: function 20 -/
noncomputable def F.impl_TurnNew : Option DTurn :=
  chk (mk 8 3 3) <|
  some (0, true, List.replicate 3 0, ())
noncomputable def C.impl_TurnNew : Con := ⟨[], .one y0, fun x => F.impl_TurnNew⟩
def L.impl_TurnNew : Loops := fun _ => none
noncomputable def K.impl_TurnNew : Cons := lookK []
theorem run.impl_TurnNew : ∀ x, runF tb K.impl_TurnNew L.impl_TurnNew [] Try.f20 C.impl_TurnNew x = C.impl_TurnNew.fn x := fun x => by kernel_rfl

/-! ### laws.eqIntS: function 58 -/
noncomputable def F.laws_eqIntS.s4 : ((List Int) × (List Int) × Int × Unit) → Option (Lp ((List Int) × (List Int) × Int × Unit) Bool) := fun (x1, x2, x3, _) =>
  bif decide (x3 < (len x1)) then
    chk (inb x3 (List.length x1)) <|
    chk (inb x3 (List.length x2)) <|
    bif (List.getD x1 ((Int.toNat x3)) 0) != (List.getD x2 ((Int.toNat x3)) 0) then
      some (.ret false)
    else
      some (.again (x1, x2, w64 (x3 + 1), ()))
  else
    some (.exit (x1, x2, x3, ()))
noncomputable def F.laws_eqIntS (a0 : List Int) (a1 : List Int) : Option Bool :=
  bif (len a0) != (len a1) then
    some false
  else
  afterO (loopO F.laws_eqIntS.s4 (a0, a1, 0, ())) fun (x4, x5, x6, _) =>
  some true
noncomputable def C.laws_eqIntS : Con := ⟨[.r (.val (.sl false 3 (.int .i64))), .r (.val (.sl false 3 (.int .i64)))], .one .bool, fun x => F.laws_eqIntS x.1 x.2.1⟩
def L.laws_eqIntS : Loops := lookL [(4, ⟨[.pat 0 (.val (.sl false 3 (.int .i64))), .pat 1 (.val (.sl false 3 (.int .i64))), .pat 5 (.val (.int .i64))], 0⟩)]
noncomputable def K.laws_eqIntS : Cons := lookK []
theorem run.laws_eqIntS : ∀ x, runF tb K.laws_eqIntS L.laws_eqIntS [] Try.f58 C.laws_eqIntS x = C.laws_eqIntS.fn x := fun x => by kernel_rfl

/-! ### laws.eqTurn: function 21 -/
noncomputable def F.laws_eqTurn (a0 : DTurn) (a1 : DTurn) : Option Bool :=
  bif a0.1 != a1.1 then
    some false
  else
  bif !(a0.2.1 == a1.2.1) then
    some false
  else
  (F.laws_eqIntS a0.2.2.1 a1.2.2.1).bind fun r1 =>
  bif !r1 then
    some false
  else
    some true
noncomputable def C.laws_eqTurn : Con := ⟨[.r (.val y1), .r (.val y1)], .one .bool, fun x => F.laws_eqTurn x.1 x.2.1⟩
def L.laws_eqTurn : Loops := fun _ => none
noncomputable def K.laws_eqTurn : Cons := lookK [(58, [], C.laws_eqIntS)]
theorem run.laws_eqTurn : ∀ x, runF tb K.laws_eqTurn L.laws_eqTurn [] Try.f21 C.laws_eqTurn x = C.laws_eqTurn.fn x := fun x => by kernel_rfl

/-! ### laws.markIntS: function 59 -/
noncomputable def F.laws_markIntS.s2 : (Int × Int × (List Int) × Unit) → Option (Lp (Int × Int × (List Int) × Unit) (Int × (List Int))) := fun (x1, x2, x3, _) =>
  bif decide (x2 < (len x3)) then
    chk (inb x2 (List.length x3)) <|
    some (.again (w64 (x1 + 1), w64 (x2 + 1), List.set x3 ((Int.toNat x2)) x1, ()))
  else
    some (.exit (x1, x2, x3, ()))
noncomputable def F.laws_markIntS (a0 : List Int) (a1 : Int) : Option (Int × (List Int)) :=
  afterO (loopO F.laws_markIntS.s2 (a1, 0, a0, ())) fun (x4, x5, x6, _) =>
  some (x4, x6)
noncomputable def C.laws_markIntS : Con := ⟨[.c (.sl true 3 (.int .i64)), .r (.val (.int .i64))], .one (.int .i64), fun x => F.laws_markIntS x.1 x.2.1⟩
def L.laws_markIntS : Loops := lookL [(2, ⟨[.pat 1 (.val (.int .i64)), .pat 5 (.val (.int .i64)), .root 0 false (.sl true 3 (.int .i64)) [0]], 0⟩)]
noncomputable def K.laws_markIntS : Cons := lookK []
theorem run.laws_markIntS : ∀ x, runF tb K.laws_markIntS L.laws_markIntS [0] Try.f59 C.laws_markIntS x = C.laws_markIntS.fn x := fun x => by kernel_rfl

/-! ### laws.markTurn: function 22 -/
noncomputable def F.laws_markTurn (a0 : DTurn) (a1 : Int) : Option (Int × DTurn) :=
  (F.laws_markIntS a0.2.2.1 a1).bind fun r1 =>
  some (r1.1, (a0.1, a0.2.1, r1.2, a0.2.2.2))
noncomputable def C.laws_markTurn : Con := ⟨[.c y0, .r (.val (.int .i64))], .one (.int .i64), fun x => F.laws_markTurn x.1 x.2.1⟩
def L.laws_markTurn : Loops := fun _ => none
noncomputable def K.laws_markTurn : Cons := lookK [(59, [], C.laws_markIntS)]
theorem run.laws_markTurn : ∀ x, runF tb K.laws_markTurn L.laws_markTurn [2] Try.f22 C.laws_markTurn x = C.laws_markTurn.fn x := fun x => by kernel_rfl

/-! ### laws.heldIntS: function 66 -/
noncomputable def F.laws_heldIntS.s2 : ((List Int) × Int × Int × Unit) → Option (Lp ((List Int) × Int × Int × Unit) Int) := fun (x1, x2, x3, _) =>
  bif decide (x3 < (len x1)) then
    chk (inb x3 (List.length x1)) <|
    bif (List.getD x1 ((Int.toNat x3)) 0) != x2 then
      some (.ret (-1))
    else
      some (.again (x1, w64 (x2 + 1), w64 (x3 + 1), ()))
  else
    some (.exit (x1, x2, x3, ()))
noncomputable def F.laws_heldIntS (a0 : List Int) (a1 : Int) : Option Int :=
  afterO (loopO F.laws_heldIntS.s2 (a0, a1, 0, ())) fun (x4, x5, x6, _) =>
  some x5
noncomputable def C.laws_heldIntS : Con := ⟨[.r (.val (.sl false 3 (.int .i64))), .r (.val (.int .i64))], .one (.int .i64), fun x => F.laws_heldIntS x.1 x.2.1⟩
def L.laws_heldIntS : Loops := lookL [(2, ⟨[.pat 0 (.val (.sl false 3 (.int .i64))), .pat 1 (.val (.int .i64)), .pat 5 (.val (.int .i64))], 0⟩)]
noncomputable def K.laws_heldIntS : Cons := lookK []
theorem run.laws_heldIntS : ∀ x, runF tb K.laws_heldIntS L.laws_heldIntS [] Try.f66 C.laws_heldIntS x = C.laws_heldIntS.fn x := fun x => by kernel_rfl

/-! ### laws.heldTurn: function 23 -/
noncomputable def F.laws_heldTurn (a0 : DTurn) (a1 : Int) : Option Int :=
  (F.laws_heldIntS a0.2.2.1 a1).bind fun r1 =>
  bif decide (r1 < 0) then
    some (-1)
  else
    some r1
noncomputable def C.laws_heldTurn : Con := ⟨[.r (.val y1), .r (.val (.int .i64))], .one (.int .i64), fun x => F.laws_heldTurn x.1 x.2.1⟩
def L.laws_heldTurn : Loops := fun _ => none
noncomputable def K.laws_heldTurn : Cons := lookK [(66, [], C.laws_heldIntS)]
theorem run.laws_heldTurn : ∀ x, runF tb K.laws_heldTurn L.laws_heldTurn [] Try.f23 C.laws_heldTurn x = C.laws_heldTurn.fn x := fun x => by kernel_rfl

/-! ### laws.FnExactTurnNew: function 5 -/
noncomputable def F.laws_FnExactTurnNew : Option Bool :=
  (F.spec_TurnNew).bind fun r1 =>
  (F.impl_TurnNew).bind fun r2 =>
  (F.laws_eqTurn r2 r1).bind fun r3 =>
  bif !r3 then
    some false
  else
  (F.laws_markTurn r2 1).bind fun r4 =>
  (F.laws_heldTurn r4.2 1).bind fun r5 =>
  bif decide (r5 < 0) then
    some false
  else
  bif r5 != r4.1 then
    some false
  else
  (F.impl_TurnNew).bind fun r6 =>
  (F.laws_eqTurn r6 r1).bind fun r7 =>
  bif !r7 then
    some false
  else
  (F.laws_heldTurn r4.2 1).bind fun r8 =>
  bif decide (r8 < 0) then
    some false
  else
  bif r8 != r4.1 then
    some false
  else
    some true
noncomputable def C.laws_FnExactTurnNew : Con := ⟨[], .one .bool, fun x => F.laws_FnExactTurnNew⟩
def L.laws_FnExactTurnNew : Loops := fun _ => none
noncomputable def K.laws_FnExactTurnNew : Cons := lookK [(19, [], C.spec_TurnNew), (20, [], C.impl_TurnNew), (21, [], C.laws_eqTurn), (22, [], C.laws_markTurn), (23, [], C.laws_heldTurn)]
theorem run.laws_FnExactTurnNew : ∀ x, runF tb K.laws_FnExactTurnNew L.laws_FnExactTurnNew [] Try.f5 C.laws_FnExactTurnNew x = C.laws_FnExactTurnNew.fn x := fun x => by kernel_rfl

/-! ### laws.big: function 24 -/
noncomputable def F.laws_big (a0 : List Int) : Option Bool :=
  some (decide ((len a0) > 1048576))
noncomputable def C.laws_big : Con := ⟨[.r (.val (.sl false 5 (.int .u8)))], .one .bool, fun x => F.laws_big x.1⟩
def L.laws_big : Loops := fun _ => none
noncomputable def K.laws_big : Cons := lookK []
theorem run.laws_big : ∀ x, runF tb K.laws_big L.laws_big [] Try.f24 C.laws_big x = C.laws_big.fn x := fun x => by kernel_rfl

/-! ### spec.l1New: function 67 -/
noncomputable def F.spec_l1New.s3 : ((List Int) × Int × Int × Unit) → Option (Lp ((List Int) × Int × Int × Unit) DL1Cur) := fun (x1, x2, x3, _) =>
  bif decide (x3 < (len x1)) then
    bif decide (x3 < 4000) then
      chk (inb x3 (List.length x1)) <|
      some (.again (x1, ibits .and .i64 (w64 ((w64 ((w64 (x2 * 131)) + (w64 (List.getD x1 ((Int.toNat x3)) 0)))) + 7)) 1073741823, w64 (x3 + 1), ()))
    else
      some (.exit (x1, x2, x3, ()))
  else
    some (.exit (x1, x2, x3, ()))
noncomputable def F.spec_l1New (a0 : List Int) : Option DL1Cur :=
  afterO (loopO F.spec_l1New.s3 (a0, w64 (26583 + (len a0)), 0, ())) fun (x4, x5, x6, _) =>
  some (x4, 0, x5, ())
noncomputable def C.spec_l1New : Con := ⟨[.r (.val (.sl false 5 (.int .u8)))], .ptr y2, fun x => F.spec_l1New x.1⟩
def L.spec_l1New : Loops := lookL [(3, ⟨[.pat 0 (.val (.sl false 5 (.int .u8))), .pat 3 (.val (.int .i64)), .pat 4 (.val (.int .i64))], 0⟩)]
noncomputable def K.spec_l1New : Cons := lookK []
theorem run.spec_l1New : ∀ x, runF tb K.spec_l1New L.spec_l1New [] Try.f67 C.spec_l1New x = C.spec_l1New.fn x := fun x => by kernel_rfl

/-! ### spec.l1Byte: function 123 -/
noncomputable def F.spec_l1Byte (a0 : DL1Cur) : Option (Int × DL1Cur) :=
  bif decide (a0.2.1 < (len a0.1)) then
    chk (inb a0.2.1 (List.length a0.1)) <|
    some (ibits .and .i64 (w64 ((ibits .and .i64 (ibits .xor .i64 (Int.fdiv (w64 ((w64 (a0.2.2.1 * 6364136223846793005)) + 1442695040888963407)) (2 ^ (min 33 64))) (Int.fdiv (w64 ((w64 (a0.2.2.1 * 6364136223846793005)) + 1442695040888963407)) (2 ^ (min 45 64)))) 255) + (w64 (List.getD a0.1 ((Int.toNat a0.2.1)) 0)))) 255, (a0.1, w64 (a0.2.1 + 1), w64 ((w64 (a0.2.2.1 * 6364136223846793005)) + 1442695040888963407), a0.2.2.2))
  else
    some (ibits .and .i64 (ibits .xor .i64 (Int.fdiv (w64 ((w64 (a0.2.2.1 * 6364136223846793005)) + 1442695040888963407)) (2 ^ (min 33 64))) (Int.fdiv (w64 ((w64 (a0.2.2.1 * 6364136223846793005)) + 1442695040888963407)) (2 ^ (min 45 64)))) 255, (a0.1, a0.2.1, w64 ((w64 (a0.2.2.1 * 6364136223846793005)) + 1442695040888963407), a0.2.2.2))
noncomputable def C.spec_l1Byte : Con := ⟨[.p y2 y2], .one (.int .i64), fun x => F.spec_l1Byte x.1⟩
def L.spec_l1Byte : Loops := fun _ => none
noncomputable def K.spec_l1Byte : Cons := lookK []
theorem run.spec_l1Byte : ∀ x, runF tb K.spec_l1Byte L.spec_l1Byte [0] Try.f123 C.spec_l1Byte x = C.spec_l1Byte.fn x := fun x => by kernel_rfl

/-! ### spec.l1Below: function 96 -/
noncomputable def F.spec_l1Below (a0 : DL1Cur) (a1 : Int) : Option (Int × DL1Cur) :=
  bif decide (a1 ≤ 0) then
    some (0, a0)
  else
  bif decide (a1 ≤ 256) then
    (F.spec_l1Byte a0).bind fun r1 =>
    nchk (a1 == 0) <|
    some (Int.tmod r1.1 a1, r1.2)
  else
  (F.spec_l1Byte a0).bind fun r2 =>
  (F.spec_l1Byte r2.2).bind fun r3 =>
  (F.spec_l1Byte r3.2).bind fun r4 =>
  (F.spec_l1Byte r4.2).bind fun r5 =>
  nchk (a1 == 0) <|
  some (Int.tmod (w64 ((w64 ((w64 ((w64 (r2.1 * 16777216)) + (w64 (r3.1 * 65536)))) + (w64 (r4.1 * 256)))) + r5.1)) a1, r5.2)
noncomputable def C.spec_l1Below : Con := ⟨[.p y2 y2, .r (.val (.int .i64))], .one (.int .i64), fun x => F.spec_l1Below x.1 x.2.1⟩
def L.spec_l1Below : Loops := fun _ => none
noncomputable def K.spec_l1Below : Cons := lookK [(123, [], C.spec_l1Byte)]
theorem run.spec_l1Below : ∀ x, runF tb K.spec_l1Below L.spec_l1Below [0] Try.f96 C.spec_l1Below x = C.spec_l1Below.fn x := fun x => by kernel_rfl

/-! ### spec.l1Once: function 68 -/
noncomputable def F.spec_l1Once (a0 : DL1Cur) (a1 : Int) : Option (Bool × DL1Cur) :=
  (F.spec_l1Below a0 a1).bind fun r1 =>
  some (r1.1 == 0, r1.2)
noncomputable def C.spec_l1Once : Con := ⟨[.p y2 y2, .r (.val (.int .i64))], .one .bool, fun x => F.spec_l1Once x.1 x.2.1⟩
def L.spec_l1Once : Loops := fun _ => none
noncomputable def K.spec_l1Once : Cons := lookK [(96, [], C.spec_l1Below)]
theorem run.spec_l1Once : ∀ x, runF tb K.spec_l1Once L.spec_l1Once [0] Try.f68 C.spec_l1Once x = C.spec_l1Once.fn x := fun x => by kernel_rfl

/-! ### spec.l1PickInt: function 69 -/
noncomputable def F.spec_l1PickInt (a0 : DL1Cur) (a1 : List Int) : Option (Int × DL1Cur) :=
  (F.spec_l1Below a0 (len a1)).bind fun r1 =>
  chk (inb r1.1 (List.length a1)) <|
  some (List.getD a1 ((Int.toNat r1.1)) 0, r1.2)
noncomputable def C.spec_l1PickInt : Con := ⟨[.p y2 y2, .r (.val (.sl false 3 (.int .i64)))], .one (.int .i64), fun x => F.spec_l1PickInt x.1 x.2.1⟩
def L.spec_l1PickInt : Loops := fun _ => none
noncomputable def K.spec_l1PickInt : Cons := lookK [(96, [], C.spec_l1Below)]
theorem run.spec_l1PickInt : ∀ x, runF tb K.spec_l1PickInt L.spec_l1PickInt [0] Try.f69 C.spec_l1PickInt x = C.spec_l1PickInt.fn x := fun x => by kernel_rfl

/-! ### spec.DrawPickClass: function 25 -/
noncomputable def F.spec_DrawPickClass (a0 : List Int) : Option (Bool × Bool × Int × Int) :=
  (F.spec_l1New a0).bind fun r1 =>
  (F.spec_l1Once r1 3).bind fun r2 =>
  (F.spec_l1Once r2.2 3).bind fun r3 =>
  (F.spec_l1PickInt r3.2 ([0, 1, 2, 3, 9, 1000, 1001, -1])).bind fun r4 =>
  (F.spec_l1PickInt r4.2 ([1, 2, 3, 4, 10, 0, 11])).bind fun r5 =>
  some (!r2.1, !r3.1, r4.1, r5.1)
noncomputable def C.spec_DrawPickClass : Con := ⟨[.r (.val (.sl false 5 (.int .u8)))], .many [.bool, .bool, (.int .i64), (.int .i64)], fun x => F.spec_DrawPickClass x.1⟩
def L.spec_DrawPickClass : Loops := fun _ => none
noncomputable def K.spec_DrawPickClass : Cons := lookK [(67, [], C.spec_l1New), (68, [], C.spec_l1Once), (69, [], C.spec_l1PickInt)]
theorem run.spec_DrawPickClass : ∀ x, runF tb K.spec_DrawPickClass L.spec_DrawPickClass [] Try.f25 C.spec_DrawPickClass x = C.spec_DrawPickClass.fn x := fun x => by kernel_rfl

/-! ### laws.FnClasses: function 6 -/
noncomputable def F.laws_FnClasses.s13 : (Bool × Bool × Int × Int × Int × Int × Int × Unit) → Option (Lp (Bool × Bool × Int × Int × Int × Int × Int × Unit) Bool) := fun (x5, x6, x7, x8, x9, x10, x11, _) =>
  bif decide (x11 < x7) then
    (F.impl_PickClass true true x9 x7).bind fun r12 =>
    bif r12.1 == 1 then
      some (.again (x5, x6, x7, x8, r12.2, w64 (x10 + 1), w64 (x11 + 1), ()))
    else
      some (.again (x5, x6, x7, x8, r12.2, x10, w64 (x11 + 1), ()))
  else
    some (.exit (x5, x6, x7, x8, x9, x10, x11, ()))
noncomputable def F.laws_FnClasses (a0 : List Int) : Option Bool :=
  (F.laws_big a0).bind fun r1 =>
  bif r1 then
    some true
  else
  (F.spec_DrawPickClass a0).bind fun r2 =>
  (F.impl_PickClass r2.1 r2.2.1 r2.2.2.1 r2.2.2.2).bind fun r3 =>
  (F.spec_PickClass r2.1 r2.2.1 r2.2.2.1 r2.2.2.2).bind fun r4 =>
  bif r3.1 != r4.1 then
    some false
  else
  bif r3.2 != r4.2 then
    some false
  else
  bif decide (r2.2.2.2 < 1) then
    bif r3.1 == (-1) then
      some (r3.2 == 0)
    else
      some false
  else
  bif decide (r2.2.2.2 > 10) then
    bif r3.1 == (-1) then
      some (r3.2 == 0)
    else
      some false
  else
  afterO (loopO F.laws_FnClasses.s13 (r2.1, r2.2.1, r2.2.2.2, r3.1, 0, 0, 0, ())) fun (x13, x14, x15, x16, x17, x18, x19, _) =>
  bif x18 == 1 then
    bif x17 == 0 then
      bif x16 != 0 then
        bif x16 != 1 then
          some true
        else
          some x14
      else
      bif x13 then
        bif x16 != 1 then
          some true
        else
          some x14
      else
        some false
    else
      some false
  else
    some false
noncomputable def C.laws_FnClasses : Con := ⟨[.r (.val (.sl false 5 (.int .u8)))], .one .bool, fun x => F.laws_FnClasses x.1⟩
def L.laws_FnClasses : Loops := lookL [(13, ⟨[.pat 3 (.val .bool), .pat 4 (.val .bool), .pat 6 (.val (.int .i64)), .pat 7 (.val (.int .i64)), .pat 11 (.val (.int .i64)), .pat 12 (.val (.int .i64)), .pat 13 (.val (.int .i64))], 0⟩)]
noncomputable def K.laws_FnClasses : Cons := lookK [(17, [], C.spec_PickClass), (18, [], C.impl_PickClass), (24, [], C.laws_big), (25, [], C.spec_DrawPickClass)]
theorem run.laws_FnClasses : ∀ x, runF tb K.laws_FnClasses L.laws_FnClasses [] Try.f6 C.laws_FnClasses x = C.laws_FnClasses.fn x := fun x => by kernel_rfl

/-! ### laws.szIntS: function 70 -/
noncomputable def F.laws_szIntS (a0 : List Int) (a1 : Int) : Option Int :=
  bif decide ((w64 (a1 - (len a0))) < 0) then
    some (-1)
  else
    some (w64 (a1 - (len a0)))
noncomputable def C.laws_szIntS : Con := ⟨[.r (.val (.sl false 3 (.int .i64))), .r (.val (.int .i64))], .one (.int .i64), fun x => F.laws_szIntS x.1 x.2.1⟩
def L.laws_szIntS : Loops := fun _ => none
noncomputable def K.laws_szIntS : Cons := lookK []
theorem run.laws_szIntS : ∀ x, runF tb K.laws_szIntS L.laws_szIntS [] Try.f70 C.laws_szIntS x = C.laws_szIntS.fn x := fun x => by kernel_rfl

/-! ### laws.szTurn: function 26 -/
noncomputable def F.laws_szTurn (a0 : DTurn) (a1 : Int) : Option Int :=
  (F.laws_szIntS a0.2.2.1 a1).bind fun r1 =>
  bif decide (r1 < 0) then
    some (-1)
  else
    some r1
noncomputable def C.laws_szTurn : Con := ⟨[.r (.val y1), .r (.val (.int .i64))], .one (.int .i64), fun x => F.laws_szTurn x.1 x.2.1⟩
def L.laws_szTurn : Loops := fun _ => none
noncomputable def K.laws_szTurn : Cons := lookK [(70, [], C.laws_szIntS)]
theorem run.laws_szTurn : ∀ x, runF tb K.laws_szTurn L.laws_szTurn [] Try.f26 C.laws_szTurn x = C.laws_szTurn.fn x := fun x => by kernel_rfl

/-! ### laws.toIntS: function 57 -/
noncomputable def F.laws_toIntS.s3 : ((List Int) × (List Int) × Int × Unit) → Option (Lp ((List Int) × (List Int) × Int × Unit) ((List Int))) := fun (x1, x2, x3, _) =>
  bif decide (x3 < (len x1)) then
    chk (inb x3 (List.length x1)) <|
    chk (inb x3 (List.length x2)) <|
    some (.again (x1, List.set x2 ((Int.toNat x3)) (List.getD x1 ((Int.toNat x3)) 0), w64 (x3 + 1), ()))
  else
    some (.exit (x1, x2, x3, ()))
noncomputable def F.laws_toIntS (a0 : List Int) : Option ((List Int)) :=
  chk (mk 8 (len a0) (len a0)) <|
  afterO (loopO F.laws_toIntS.s3 (a0, List.replicate (Int.toNat (len a0)) 0, 0, ())) fun (x4, x5, x6, _) =>
  some x5
noncomputable def C.laws_toIntS : Con := ⟨[.r (.val (.sl false 3 (.int .i64)))], .one (.sl true 3 (.int .i64)), fun x => F.laws_toIntS x.1⟩
def L.laws_toIntS : Loops := lookL [(3, ⟨[.pat 0 (.val (.sl false 3 (.int .i64))), .own 3 (.sl true 3 (.int .i64)), .pat 4 (.val (.int .i64))], 0⟩)]
noncomputable def K.laws_toIntS : Cons := lookK []
theorem run.laws_toIntS : ∀ x, runF tb K.laws_toIntS L.laws_toIntS [] Try.f57 C.laws_toIntS x = C.laws_toIntS.fn x := fun x => by kernel_rfl

/-! ### laws.toTurn: function 28 -/
noncomputable def F.laws_toTurn (a0 : DTurn) : Option DTurn :=
  (F.laws_toIntS a0.2.2.1).bind fun r1 =>
  some (a0.1, a0.2.1, r1, ())
noncomputable def C.laws_toTurn : Con := ⟨[.r (.val y1)], .one y0, fun x => F.laws_toTurn x.1⟩
def L.laws_toTurn : Loops := fun _ => none
noncomputable def K.laws_toTurn : Cons := lookK [(57, [], C.laws_toIntS)]
theorem run.laws_toTurn : ∀ x, runF tb K.laws_toTurn L.laws_toTurn [] Try.f28 C.laws_toTurn x = C.laws_toTurn.fn x := fun x => by kernel_rfl

/-! ### spec.l6Agent: function 71 -/
noncomputable def F.spec_l6Agent (a0 : Int) : Option Bool :=
  (F.spec_l1In a0 0 2).bind fun r1 =>
  some r1
noncomputable def C.spec_l6Agent : Con := ⟨[.r (.val (.int .i64))], .one .bool, fun x => F.spec_l6Agent x.1⟩
def L.spec_l6Agent : Loops := fun _ => none
noncomputable def K.spec_l6Agent : Cons := lookK [(64, [], C.spec_l1In)]
theorem run.spec_l6Agent : ∀ x, runF tb K.spec_l6Agent L.spec_l6Agent [] Try.f71 C.spec_l6Agent x = C.spec_l6Agent.fn x := fun x => by kernel_rfl

/-! ### spec.l11Nums: function 72 -/
noncomputable def F.spec_l11Nums.s4 : ((List Int) × Int × Int × Int × Unit) → Option (Lp ((List Int) × Int × Int × Int × Unit) Bool) := fun (x1, x2, x3, x4, _) =>
  bif decide (x4 < (len x1)) then
    chk (inb x4 (List.length x1)) <|
    (F.spec_l1In (List.getD x1 ((Int.toNat x4)) 0) x2 x3).bind fun r5 =>
    bif !r5 then
      some (.ret false)
    else
      some (.again (x1, x2, x3, w64 (x4 + 1), ()))
  else
    some (.exit (x1, x2, x3, x4, ()))
noncomputable def F.spec_l11Nums (a0 : List Int) (a1 : Int) (a2 : Int) : Option Bool :=
  bif (len a0) != 3 then
    some false
  else
  afterO (loopO F.spec_l11Nums.s4 (a0, a1, a2, 0, ())) fun (x6, x7, x8, x9, _) =>
  some true
noncomputable def C.spec_l11Nums : Con := ⟨[.r (.val (.sl false 3 (.int .i64))), .r (.val (.int .i64)), .r (.val (.int .i64))], .one .bool, fun x => F.spec_l11Nums x.1 x.2.1 x.2.2.1⟩
def L.spec_l11Nums : Loops := lookL [(4, ⟨[.pat 0 (.val (.sl false 3 (.int .i64))), .pat 1 (.val (.int .i64)), .pat 2 (.val (.int .i64)), .pat 7 (.val (.int .i64))], 0⟩)]
noncomputable def K.spec_l11Nums : Cons := lookK [(64, [], C.spec_l1In)]
theorem run.spec_l11Nums : ∀ x, runF tb K.spec_l11Nums L.spec_l11Nums [] Try.f72 C.spec_l11Nums x = C.spec_l11Nums.fn x := fun x => by kernel_rfl

/-! ### spec.TurnOk: function 27 -/
noncomputable def F.spec_TurnOk (a0 : DTurn) : Option Bool :=
  (F.spec_l6Agent a0.1).bind fun r1 =>
  bif r1 then
    (F.spec_l11Nums a0.2.2.1 0 1000).bind fun r2 =>
    some r2
  else
    some false
noncomputable def C.spec_TurnOk : Con := ⟨[.r (.val y1)], .one .bool, fun x => F.spec_TurnOk x.1⟩
def L.spec_TurnOk : Loops := fun _ => none
noncomputable def K.spec_TurnOk : Cons := lookK [(71, [], C.spec_l6Agent), (72, [], C.spec_l11Nums)]
theorem run.spec_TurnOk : ∀ x, runF tb K.spec_TurnOk L.spec_TurnOk [] Try.f27 C.spec_TurnOk x = C.spec_TurnOk.fn x := fun x => by kernel_rfl

/-! ### impl.allWithin: function 73 -/
noncomputable def F.impl_allWithin.s2 : ((List Int) × Int × Int × Int × (List Int) × Int × Int × Unit) → Option (Lp ((List Int) × Int × Int × Int × (List Int) × Int × Int × Unit) Bool) := fun (x1, x2, x3, x4, x5, x6, x7, _) =>
  bif decide (x7 < x6) then
    chk (inb x7 (List.length x5)) <|
    (F.impl_within (List.getD x5 ((Int.toNat x7)) 0) x3 x4).bind fun r8 =>
    bif !r8 then
      some (.ret false)
    else
      some (.again (x1, x2, x3, x4, x5, x6, w64 (x7 + 1), ()))
  else
    some (.exit (x1, x2, x3, x4, x5, x6, x7, ()))
noncomputable def F.impl_allWithin (a0 : List Int) (a1 : Int) (a2 : Int) (a3 : Int) : Option Bool :=
  afterO (loopO F.impl_allWithin.s2 (a0, a1, a2, a3, a0, len a0, 0, ())) fun (x9, x10, x11, x12, x13, x14, x15, _) =>
  some ((len x9) == x10)
noncomputable def C.impl_allWithin : Con := ⟨[.r (.val (.sl false 3 (.int .i64))), .r (.val (.int .i64)), .r (.val (.int .i64)), .r (.val (.int .i64))], .one .bool, fun x => F.impl_allWithin x.1 x.2.1 x.2.2.1 x.2.2.2.1⟩
def L.impl_allWithin : Loops := lookL [(2, ⟨[.pat 0 (.val (.sl false 3 (.int .i64))), .pat 1 (.val (.int .i64)), .pat 2 (.val (.int .i64)), .pat 3 (.val (.int .i64)), .pat 11 (.val (.sl false 3 (.int .i64))), .pat 12 (.val (.int .i64)), .pat 13 (.val (.int .i64))], 0⟩)]
noncomputable def K.impl_allWithin : Cons := lookK [(65, [], C.impl_within)]
theorem run.impl_allWithin : ∀ x, runF tb K.impl_allWithin L.impl_allWithin [] Try.f73 C.impl_allWithin x = C.impl_allWithin.fn x := fun x => by kernel_rfl

/-! ### impl.TurnOk: function 29 -/
noncomputable def F.impl_TurnOk (a0 : DTurn) : Option Bool :=
  (F.impl_within a0.1 0 2).bind fun r1 =>
  bif r1 then
    (F.impl_allWithin a0.2.2.1 3 0 1000).bind fun r2 =>
    some r2
  else
    some false
noncomputable def C.impl_TurnOk : Con := ⟨[.r (.val y1)], .one .bool, fun x => F.impl_TurnOk x.1⟩
def L.impl_TurnOk : Loops := fun _ => none
noncomputable def K.impl_TurnOk : Cons := lookK [(65, [], C.impl_within), (73, [], C.impl_allWithin)]
theorem run.impl_TurnOk : ∀ x, runF tb K.impl_TurnOk L.impl_TurnOk [] Try.f29 C.impl_TurnOk x = C.impl_TurnOk.fn x := fun x => by kernel_rfl

/-! ### laws.FnExactTurnOk: function 7 -/
noncomputable def F.laws_FnExactTurnOk (a0 : DTurn) : Option Bool :=
  (F.laws_szTurn a0 1048576).bind fun r1 =>
  bif decide (r1 < 0) then
    some true
  else
  (F.laws_toTurn a0).bind fun r2 =>
  (F.spec_TurnOk r2).bind fun r3 =>
  (F.laws_toTurn a0).bind fun r4 =>
  (F.impl_TurnOk r4).bind fun r5 =>
  bif !(r5 == r3) then
    some false
  else
  (F.laws_toTurn a0).bind fun r6 =>
  (F.laws_eqTurn r4 r6).bind fun r7 =>
  bif !r7 then
    some false
  else
    some true
noncomputable def C.laws_FnExactTurnOk : Con := ⟨[.r (.val y1)], .one .bool, fun x => F.laws_FnExactTurnOk x.1⟩
def L.laws_FnExactTurnOk : Loops := fun _ => none
noncomputable def K.laws_FnExactTurnOk : Cons := lookK [(21, [], C.laws_eqTurn), (26, [], C.laws_szTurn), (27, [], C.spec_TurnOk), (28, [], C.laws_toTurn), (29, [], C.impl_TurnOk)]
theorem run.laws_FnExactTurnOk : ∀ x, runF tb K.laws_FnExactTurnOk L.laws_FnExactTurnOk [] Try.f7 C.laws_FnExactTurnOk x = C.laws_FnExactTurnOk.fn x := fun x => by kernel_rfl

/-! ### laws.szSpanS: function 74 -/
noncomputable def F.laws_szSpanS (a0 : List DSpan) (a1 : Int) : Option Int :=
  bif decide ((w64 (a1 - (len a0))) < 0) then
    some (-1)
  else
    some (w64 (a1 - (len a0)))
noncomputable def C.laws_szSpanS : Con := ⟨[.r (.val (.sl false 124 y3)), .r (.val (.int .i64))], .one (.int .i64), fun x => F.laws_szSpanS x.1 x.2.1⟩
def L.laws_szSpanS : Loops := fun _ => none
noncomputable def K.laws_szSpanS : Cons := lookK []
theorem run.laws_szSpanS : ∀ x, runF tb K.laws_szSpanS L.laws_szSpanS [] Try.f74 C.laws_szSpanS x = C.laws_szSpanS.fn x := fun x => by kernel_rfl

/-! ### laws.szSeat: function 30 -/
noncomputable def F.laws_szSeat (a0 : DSeat) (a1 : Int) : Option Int :=
  (F.laws_szSpanS a0.2.2.1 a1).bind fun r1 =>
  bif decide (r1 < 0) then
    some (-1)
  else
    some r1
noncomputable def C.laws_szSeat : Con := ⟨[.r (.val y4), .r (.val (.int .i64))], .one (.int .i64), fun x => F.laws_szSeat x.1 x.2.1⟩
def L.laws_szSeat : Loops := fun _ => none
noncomputable def K.laws_szSeat : Cons := lookK [(74, [], C.laws_szSpanS)]
theorem run.laws_szSeat : ∀ x, runF tb K.laws_szSeat L.laws_szSeat [] Try.f30 C.laws_szSeat x = C.laws_szSeat.fn x := fun x => by kernel_rfl

/-! ### laws.toSpan: function 106 -/
noncomputable def F.laws_toSpan (a0 : DSpan) : Option DSpan :=
  some (a0.1, a0.2.1, ())
noncomputable def C.laws_toSpan : Con := ⟨[.r (.val y3)], .one y3, fun x => F.laws_toSpan x.1⟩
def L.laws_toSpan : Loops := fun _ => none
noncomputable def K.laws_toSpan : Cons := lookK []
theorem run.laws_toSpan : ∀ x, runF tb K.laws_toSpan L.laws_toSpan [] Try.f106 C.laws_toSpan x = C.laws_toSpan.fn x := fun x => by kernel_rfl

/-! ### laws.toSpanS: function 76 -/
noncomputable def F.laws_toSpanS.s3 : ((List DSpan) × (List DSpan) × Int × Unit) → Option (Lp ((List DSpan) × (List DSpan) × Int × Unit) ((List DSpan))) := fun (x1, x2, x3, _) =>
  bif decide (x3 < (len x1)) then
    chk (inb x3 (List.length x1)) <|
    (F.laws_toSpan (List.getD x1 ((Int.toNat x3)) ((0, 0, ())))).bind fun r4 =>
    chk (inb x3 (List.length x2)) <|
    some (.again (x1, List.set x2 ((Int.toNat x3)) r4, w64 (x3 + 1), ()))
  else
    some (.exit (x1, x2, x3, ()))
noncomputable def F.laws_toSpanS (a0 : List DSpan) : Option ((List DSpan)) :=
  chk (mk 16 (len a0) (len a0)) <|
  afterO (loopO F.laws_toSpanS.s3 (a0, List.replicate (Int.toNat (len a0)) ((0, 0, ())), 0, ())) fun (x5, x6, x7, _) =>
  some x6
noncomputable def C.laws_toSpanS : Con := ⟨[.r (.val (.sl false 124 y3))], .one (.sl true 112 y3), fun x => F.laws_toSpanS x.1⟩
def L.laws_toSpanS : Loops := lookL [(3, ⟨[.pat 0 (.val (.sl false 124 y3)), .own 3 (.sl true 112 y3), .pat 4 (.val (.int .i64))], 0⟩)]
noncomputable def K.laws_toSpanS : Cons := lookK [(106, [], C.laws_toSpan)]
theorem run.laws_toSpanS : ∀ x, runF tb K.laws_toSpanS L.laws_toSpanS [] Try.f76 C.laws_toSpanS x = C.laws_toSpanS.fn x := fun x => by kernel_rfl

/-! ### laws.toSeat: function 32 -/
noncomputable def F.laws_toSeat (a0 : DSeat) : Option DSeat :=
  (F.laws_toSpanS a0.2.2.1).bind fun r1 =>
  some (a0.1, a0.2.1, r1, a0.2.2.2.1, a0.2.2.2.2.1, ())
noncomputable def C.laws_toSeat : Con := ⟨[.r (.val y4)], .one y5, fun x => F.laws_toSeat x.1⟩
def L.laws_toSeat : Loops := fun _ => none
noncomputable def K.laws_toSeat : Cons := lookK [(76, [], C.laws_toSpanS)]
theorem run.laws_toSeat : ∀ x, runF tb K.laws_toSeat L.laws_toSeat [] Try.f32 C.laws_toSeat x = C.laws_toSeat.fn x := fun x => by kernel_rfl

/-! ### spec.l1Max: function 75 -/
noncomputable def F.spec_l1Max (a0 : Int) (a1 : Int) : Option Int :=
  bif decide (a0 > a1) then
    some a0
  else
    some a1
noncomputable def C.spec_l1Max : Con := ⟨[.r (.val (.int .i64)), .r (.val (.int .i64))], .one (.int .i64), fun x => F.spec_l1Max x.1 x.2.1⟩
def L.spec_l1Max : Loops := fun _ => none
noncomputable def K.spec_l1Max : Cons := lookK []
theorem run.spec_l1Max : ∀ x, runF tb K.spec_l1Max L.spec_l1Max [] Try.f75 C.spec_l1Max x = C.spec_l1Max.fn x := fun x => by kernel_rfl

/-! ### spec.Owed: function 31 -/
noncomputable def F.spec_Owed (a0 : DSeat) : Option Int :=
  (F.spec_l1In a0.2.1 0 60).bind fun r1 =>
  bif !r1 then
    some 0
  else
  (F.spec_l1In a0.2.2.2.1 0 60).bind fun r2 =>
  bif !r2 then
    some 0
  else
  (F.spec_l1Max (w64 (a0.2.1 - a0.2.2.2.1)) 0).bind fun r3 =>
  some r3
noncomputable def C.spec_Owed : Con := ⟨[.r (.val y6)], .one (.int .i64), fun x => F.spec_Owed x.1⟩
def L.spec_Owed : Loops := fun _ => none
noncomputable def K.spec_Owed : Cons := lookK [(64, [], C.spec_l1In), (75, [], C.spec_l1Max)]
theorem run.spec_Owed : ∀ x, runF tb K.spec_Owed L.spec_Owed [] Try.f31 C.spec_Owed x = C.spec_Owed.fn x := fun x => by kernel_rfl

/-! ### impl.Owed: function 33 -/
noncomputable def F.impl_Owed (a0 : DSeat) : Option Int :=
  (F.impl_within a0.2.1 0 60).bind fun r1 =>
  bif !r1 then
    some 0
  else
  (F.impl_within a0.2.2.2.1 0 60).bind fun r2 =>
  bif !r2 then
    some 0
  else
    some (mxI 0 (w64 (a0.2.1 - a0.2.2.2.1)))
noncomputable def C.impl_Owed : Con := ⟨[.r (.val y6)], .one (.int .i64), fun x => F.impl_Owed x.1⟩
def L.impl_Owed : Loops := fun _ => none
noncomputable def K.impl_Owed : Cons := lookK [(65, [], C.impl_within)]
theorem run.impl_Owed : ∀ x, runF tb K.impl_Owed L.impl_Owed [] Try.f33 C.impl_Owed x = C.impl_Owed.fn x := fun x => by kernel_rfl

/-! ### laws.eqSpan: function 107 -/
noncomputable def F.laws_eqSpan (a0 : DSpan) (a1 : DSpan) : Option Bool :=
  bif a0.1 != a1.1 then
    some false
  else
  bif a0.2.1 != a1.2.1 then
    some false
  else
    some true
noncomputable def C.laws_eqSpan : Con := ⟨[.r (.val y3), .r (.val y3)], .one .bool, fun x => F.laws_eqSpan x.1 x.2.1⟩
def L.laws_eqSpan : Loops := fun _ => none
noncomputable def K.laws_eqSpan : Cons := lookK []
theorem run.laws_eqSpan : ∀ x, runF tb K.laws_eqSpan L.laws_eqSpan [] Try.f107 C.laws_eqSpan x = C.laws_eqSpan.fn x := fun x => by kernel_rfl

/-! ### laws.eqSpanS: function 77 -/
noncomputable def F.laws_eqSpanS.s4 : ((List DSpan) × (List DSpan) × Int × Unit) → Option (Lp ((List DSpan) × (List DSpan) × Int × Unit) Bool) := fun (x1, x2, x3, _) =>
  bif decide (x3 < (len x1)) then
    chk (inb x3 (List.length x1)) <|
    chk (inb x3 (List.length x2)) <|
    (F.laws_eqSpan (List.getD x1 ((Int.toNat x3)) ((0, 0, ()))) (List.getD x2 ((Int.toNat x3)) ((0, 0, ())))).bind fun r4 =>
    bif !r4 then
      some (.ret false)
    else
      some (.again (x1, x2, w64 (x3 + 1), ()))
  else
    some (.exit (x1, x2, x3, ()))
noncomputable def F.laws_eqSpanS (a0 : List DSpan) (a1 : List DSpan) : Option Bool :=
  bif (len a0) != (len a1) then
    some false
  else
  afterO (loopO F.laws_eqSpanS.s4 (a0, a1, 0, ())) fun (x5, x6, x7, _) =>
  some true
noncomputable def C.laws_eqSpanS : Con := ⟨[.r (.val (.sl false 112 y3)), .r (.val (.sl false 112 y3))], .one .bool, fun x => F.laws_eqSpanS x.1 x.2.1⟩
def L.laws_eqSpanS : Loops := lookL [(4, ⟨[.pat 0 (.val (.sl false 112 y3)), .pat 1 (.val (.sl false 112 y3)), .pat 5 (.val (.int .i64))], 0⟩)]
noncomputable def K.laws_eqSpanS : Cons := lookK [(107, [], C.laws_eqSpan)]
theorem run.laws_eqSpanS : ∀ x, runF tb K.laws_eqSpanS L.laws_eqSpanS [] Try.f77 C.laws_eqSpanS x = C.laws_eqSpanS.fn x := fun x => by kernel_rfl

/-! ### laws.eqSeat: function 34 -/
noncomputable def F.laws_eqSeat (a0 : DSeat) (a1 : DSeat) : Option Bool :=
  bif a0.1 != a1.1 then
    some false
  else
  bif a0.2.1 != a1.2.1 then
    some false
  else
  (F.laws_eqSpanS a0.2.2.1 a1.2.2.1).bind fun r1 =>
  bif !r1 then
    some false
  else
  bif a0.2.2.2.1 != a1.2.2.2.1 then
    some false
  else
  bif a0.2.2.2.2.1 != a1.2.2.2.2.1 then
    some false
  else
    some true
noncomputable def C.laws_eqSeat : Con := ⟨[.r (.val y6), .r (.val y6)], .one .bool, fun x => F.laws_eqSeat x.1 x.2.1⟩
def L.laws_eqSeat : Loops := fun _ => none
noncomputable def K.laws_eqSeat : Cons := lookK [(77, [], C.laws_eqSpanS)]
theorem run.laws_eqSeat : ∀ x, runF tb K.laws_eqSeat L.laws_eqSeat [] Try.f34 C.laws_eqSeat x = C.laws_eqSeat.fn x := fun x => by kernel_rfl

/-! ### laws.FnExactOwed: function 8 -/
noncomputable def F.laws_FnExactOwed (a0 : DSeat) : Option Bool :=
  (F.laws_szSeat a0 1048576).bind fun r1 =>
  bif decide (r1 < 0) then
    some true
  else
  (F.laws_toSeat a0).bind fun r2 =>
  (F.spec_Owed r2).bind fun r3 =>
  (F.laws_toSeat a0).bind fun r4 =>
  (F.impl_Owed r4).bind fun r5 =>
  bif r5 != r3 then
    some false
  else
  (F.laws_toSeat a0).bind fun r6 =>
  (F.laws_eqSeat r4 r6).bind fun r7 =>
  bif !r7 then
    some false
  else
    some true
noncomputable def C.laws_FnExactOwed : Con := ⟨[.r (.val y4)], .one .bool, fun x => F.laws_FnExactOwed x.1⟩
def L.laws_FnExactOwed : Loops := fun _ => none
noncomputable def K.laws_FnExactOwed : Cons := lookK [(30, [], C.laws_szSeat), (31, [], C.spec_Owed), (32, [], C.laws_toSeat), (33, [], C.impl_Owed), (34, [], C.laws_eqSeat)]
theorem run.laws_FnExactOwed : ∀ x, runF tb K.laws_FnExactOwed L.laws_FnExactOwed [] Try.f8 C.laws_FnExactOwed x = C.laws_FnExactOwed.fn x := fun x => by kernel_rfl

/-! ### spec.SetOk: function 116 -/
noncomputable def F.spec_SetOk.s2 : ((List DSpan) × Int × Unit) → Option (Lp ((List DSpan) × Int × Unit) Bool) := fun (x1, x2, _) =>
  bif decide (x2 < (len x1)) then
    chk (inb x2 (List.length x1)) <|
    (F.spec_l1In ((List.getD x1 ((Int.toNat x2)) ((0, 0, ()))).1) 0 9999).bind fun r3 =>
    bif !r3 then
      some (.ret false)
    else
    chk (inb x2 (List.length x1)) <|
    chk (inb x2 (List.length x1)) <|
    (F.spec_l1In (((List.getD x1 ((Int.toNat x2)) ((0, 0, ()))).2).1) ((List.getD x1 ((Int.toNat x2)) ((0, 0, ()))).1) 9999).bind fun r4 =>
    bif !r4 then
      some (.ret false)
    else
    bif decide (x2 > 0) then
      chk (inb x2 (List.length x1)) <|
      chk (inb (w64 (x2 - 1)) (List.length x1)) <|
      bif decide (((List.getD x1 ((Int.toNat x2)) ((0, 0, ()))).1) ≤ (w64 ((((List.getD x1 ((Int.toNat (w64 (x2 - 1)))) ((0, 0, ()))).2).1) + 1))) then
        some (.ret false)
      else
        some (.again (x1, w64 (x2 + 1), ()))
    else
      some (.again (x1, w64 (x2 + 1), ()))
  else
    some (.exit (x1, x2, ()))
noncomputable def F.spec_SetOk (a0 : List DSpan) : Option Bool :=
  afterO (loopO F.spec_SetOk.s2 (a0, 0, ())) fun (x5, x6, _) =>
  some true
noncomputable def C.spec_SetOk : Con := ⟨[.r (.val (.sl false 112 y3))], .one .bool, fun x => F.spec_SetOk x.1⟩
def L.spec_SetOk : Loops := lookL [(2, ⟨[.pat 0 (.val (.sl false 112 y3)), .pat 3 (.val (.int .i64))], 0⟩)]
noncomputable def K.spec_SetOk : Cons := lookK [(64, [], C.spec_l1In)]
theorem run.spec_SetOk : ∀ x, runF tb K.spec_SetOk L.spec_SetOk [] Try.f116 C.spec_SetOk x = C.spec_SetOk.fn x := fun x => by kernel_rfl

/-! ### spec.l8Below: function 86 -/
noncomputable def F.spec_l8Below.s4 : ((List DSpan) × Int × Int × Unit) → Option (Lp ((List DSpan) × Int × Int × Unit) Bool) := fun (x2, x3, x4, _) =>
  bif decide (x4 < (len x2)) then
    chk (inb x4 (List.length x2)) <|
    bif decide (((List.getD x2 ((Int.toNat x4)) ((0, 0, ()))).1) < 1) then
      some (.ret false)
    else
    chk (inb x4 (List.length x2)) <|
    bif decide ((((List.getD x2 ((Int.toNat x4)) ((0, 0, ()))).2).1) > x3) then
      some (.ret false)
    else
      some (.again (x2, x3, w64 (x4 + 1), ()))
  else
    some (.exit (x2, x3, x4, ()))
noncomputable def F.spec_l8Below (a0 : List DSpan) (a1 : Int) : Option Bool :=
  (F.spec_SetOk a0).bind fun r1 =>
  bif !r1 then
    some false
  else
  afterO (loopO F.spec_l8Below.s4 (a0, a1, 0, ())) fun (x5, x6, x7, _) =>
  some true
noncomputable def C.spec_l8Below : Con := ⟨[.r (.val (.sl false 112 y3)), .r (.val (.int .i64))], .one .bool, fun x => F.spec_l8Below x.1 x.2.1⟩
def L.spec_l8Below : Loops := lookL [(4, ⟨[.pat 0 (.val (.sl false 112 y3)), .pat 1 (.val (.int .i64)), .pat 5 (.val (.int .i64))], 0⟩)]
noncomputable def K.spec_l8Below : Cons := lookK [(116, [], C.spec_SetOk)]
theorem run.spec_l8Below : ∀ x, runF tb K.spec_l8Below L.spec_l8Below [] Try.f86 C.spec_l8Below x = C.spec_l8Below.fn x := fun x => by kernel_rfl

/-! ### spec.l6Place: function 117 -/
noncomputable def F.spec_l6Place (a0 : Int) (a1 : Int) : Option Bool :=
  (F.spec_l1In a0 0 4).bind fun r1 =>
  bif r1 then
    (F.spec_l1In a1 0 20).bind fun r2 =>
    some r2
  else
    some false
noncomputable def C.spec_l6Place : Con := ⟨[.r (.val (.int .i64)), .r (.val (.int .i64))], .one .bool, fun x => F.spec_l6Place x.1 x.2.1⟩
def L.spec_l6Place : Loops := fun _ => none
noncomputable def K.spec_l6Place : Cons := lookK [(64, [], C.spec_l1In)]
theorem run.spec_l6Place : ∀ x, runF tb K.spec_l6Place L.spec_l6Place [] Try.f117 C.spec_l6Place x = C.spec_l6Place.fn x := fun x => by kernel_rfl

/-! ### spec.l3List: function 133 -/
noncomputable def F.spec_l3List.s4 : ((List Int) × Int × Int × Bool × Int × Unit) → Option (Lp ((List Int) × Int × Int × Bool × Int × Unit) Bool) := fun (x1, x2, x3, x4, x5, _) =>
  bif decide (x5 < x2) then
    chk (inb x5 (List.length x1)) <|
    (F.spec_l1In (List.getD x1 ((Int.toNat x5)) 0) 0 x3).bind fun r6 =>
    bif !r6 then
      some (.ret false)
    else
    bif x4 then
      chk (inb x5 (List.length x1)) <|
      bif (List.getD x1 ((Int.toNat x5)) 0) != 0 then
        some (.ret false)
      else
        some (.again (x1, x2, x3, x4, w64 (x5 + 1), ()))
    else
      some (.again (x1, x2, x3, x4, w64 (x5 + 1), ()))
  else
    some (.exit (x1, x2, x3, x4, x5, ()))
noncomputable def F.spec_l3List (a0 : List Int) (a1 : Int) (a2 : Int) (a3 : Bool) : Option Bool :=
  bif (len a0) != a1 then
    some false
  else
  afterO (loopO F.spec_l3List.s4 (a0, a1, a2, a3, 0, ())) fun (x7, x8, x9, x10, x11, _) =>
  some true
noncomputable def C.spec_l3List : Con := ⟨[.r (.val (.sl false 3 (.int .i64))), .r (.val (.int .i64)), .r (.val (.int .i64)), .r (.val .bool)], .one .bool, fun x => F.spec_l3List x.1 x.2.1 x.2.2.1 x.2.2.2.1⟩
def L.spec_l3List : Loops := lookL [(4, ⟨[.pat 0 (.val (.sl false 3 (.int .i64))), .pat 1 (.val (.int .i64)), .pat 2 (.val (.int .i64)), .pat 3 (.val .bool), .pat 9 (.val (.int .i64))], 0⟩)]
noncomputable def K.spec_l3List : Cons := lookK [(64, [], C.spec_l1In)]
theorem run.spec_l3List : ∀ x, runF tb K.spec_l3List L.spec_l3List [] Try.f133 C.spec_l3List x = C.spec_l3List.fn x := fun x => by kernel_rfl

/-! ### spec.SketchOk: function 118 -/
noncomputable def F.spec_SketchOk (a0 : DSketch) : Option Bool :=
  (F.spec_l1In a0.1 0 1000000000).bind fun r1 =>
  bif !r1 then
    some false
  else
  (F.spec_l1In a0.2.1 0 1000000000).bind fun r2 =>
  bif !r2 then
    some false
  else
  (F.spec_l1In a0.2.2.1 0 1000000).bind fun r3 =>
  bif !r3 then
    some false
  else
  (F.spec_l1In a0.2.2.2.1 0 1000000).bind fun r4 =>
  bif !r4 then
    some false
  else
  bif decide (a0.2.2.1 > a0.2.2.2.1) then
    some false
  else
  bif (len a0.2.2.2.2.2.2.1) != 2 then
    some false
  else
  bif a0.1 == 0 then
    bif a0.2.1 != 0 then
      some false
    else
    bif a0.2.2.2.1 != 0 then
      some false
    else
    (F.spec_l3List a0.2.2.2.2.1 8 1000000000 (a0.1 == 0)).bind fun r5 =>
    bif r5 then
      (F.spec_l3List a0.2.2.2.2.2.1 8 17 (a0.1 == 0)).bind fun r6 =>
      bif r6 then
        chk (inb 0 (List.length a0.2.2.2.2.2.2.1)) <|
        (F.spec_l3List (List.getD a0.2.2.2.2.2.2.1 0 (([] : List Int))) 4 1000000000 (a0.1 == 0)).bind fun r7 =>
        bif r7 then
          chk (inb 1 (List.length a0.2.2.2.2.2.2.1)) <|
          (F.spec_l3List (List.getD a0.2.2.2.2.2.2.1 1 (([] : List Int))) 4 1000000000 (a0.1 == 0)).bind fun r8 =>
          some r8
        else
          some false
      else
        some false
    else
      some false
  else
  (F.spec_l3List a0.2.2.2.2.1 8 1000000000 (a0.1 == 0)).bind fun r9 =>
  bif r9 then
    (F.spec_l3List a0.2.2.2.2.2.1 8 17 (a0.1 == 0)).bind fun r10 =>
    bif r10 then
      chk (inb 0 (List.length a0.2.2.2.2.2.2.1)) <|
      (F.spec_l3List (List.getD a0.2.2.2.2.2.2.1 0 (([] : List Int))) 4 1000000000 (a0.1 == 0)).bind fun r11 =>
      bif r11 then
        chk (inb 1 (List.length a0.2.2.2.2.2.2.1)) <|
        (F.spec_l3List (List.getD a0.2.2.2.2.2.2.1 1 (([] : List Int))) 4 1000000000 (a0.1 == 0)).bind fun r12 =>
        some r12
      else
        some false
    else
      some false
  else
    some false
noncomputable def C.spec_SketchOk : Con := ⟨[.r (.val y7)], .one .bool, fun x => F.spec_SketchOk x.1⟩
def L.spec_SketchOk : Loops := fun _ => none
noncomputable def K.spec_SketchOk : Cons := lookK [(64, [], C.spec_l1In), (133, [], C.spec_l3List)]
theorem run.spec_SketchOk : ∀ x, runF tb K.spec_SketchOk L.spec_SketchOk [] Try.f118 C.spec_SketchOk x = C.spec_SketchOk.fn x := fun x => by kernel_rfl

/-! ### spec.ItemOk: function 87 -/
noncomputable def F.spec_ItemOk (a0 : DItem) : Option Bool :=
  (F.spec_l1In a0.1 1 60).bind fun r1 =>
  bif r1 then
    (F.spec_l1In a0.2.1 0 1).bind fun r2 =>
    bif r2 then
      (F.spec_l6Place a0.2.2.1 a0.2.2.2.1).bind fun r3 =>
      bif r3 then
        (F.spec_SketchOk a0.2.2.2.2.1).bind fun r4 =>
        some r4
      else
        some false
    else
      some false
  else
    some false
noncomputable def C.spec_ItemOk : Con := ⟨[.r (.val y8)], .one .bool, fun x => F.spec_ItemOk x.1⟩
def L.spec_ItemOk : Loops := fun _ => none
noncomputable def K.spec_ItemOk : Cons := lookK [(64, [], C.spec_l1In), (117, [], C.spec_l6Place), (118, [], C.spec_SketchOk)]
theorem run.spec_ItemOk : ∀ x, runF tb K.spec_ItemOk L.spec_ItemOk [] Try.f87 C.spec_ItemOk x = C.spec_ItemOk.fn x := fun x => by kernel_rfl

/-! ### spec.AgentOk: function 42 -/
noncomputable def F.spec_AgentOk.s4 : (Int × DAgent × Unit) → Option (Lp (Int × DAgent × Unit) Bool) := fun (x6, x7, _) =>
  bif decide (x6 < (len x7.2.2.2.2.1)) then
    chk (inb x6 (List.length x7.2.2.2.2.1)) <|
    (F.spec_ItemOk (List.getD x7.2.2.2.2.1 ((Int.toNat x6)) ((0, 0, 0, 0, (0, 0, 0, 0, ([] : List Int), ([] : List Int), ([] : List (List Int)), ()), ())))).bind fun r8 =>
    bif !r8 then
      some (.ret false)
    else
    chk (inb x6 (List.length x7.2.2.2.2.1)) <|
    bif ((List.getD x7.2.2.2.2.1 ((Int.toNat x6)) ((0, 0, 0, 0, (0, 0, 0, 0, ([] : List Int), ([] : List Int), ([] : List (List Int)), ()), ()))).1) != (w64 (x6 + 1)) then
      some (.ret false)
    else
      some (.again (w64 (x6 + 1), x7, ()))
  else
    some (.exit (x6, x7, ()))
noncomputable def F.spec_AgentOk (a0 : DAgent) : Option Bool :=
  (F.spec_l6Agent a0.1).bind fun r1 =>
  bif !r1 then
    some false
  else
  (F.spec_l1In a0.2.1 0 1000).bind fun r2 =>
  bif !r2 then
    some false
  else
  (F.spec_l1In a0.2.2.2.1 0 60).bind fun r3 =>
  bif !r3 then
    some false
  else
  bif decide ((len a0.2.2.2.2.1) > 60) then
    some false
  else
  (F.spec_l1In a0.2.2.2.2.2.2.1 0 60).bind fun r4 =>
  bif !r4 then
    some false
  else
  (F.spec_l8Below a0.2.2.2.2.2.1 (len a0.2.2.2.2.1)).bind fun r5 =>
  bif !r5 then
    some false
  else
  bif !a0.2.2.1 then
    bif decide (a0.2.2.2.1 > 0) then
      some false
    else
    afterO (loopO F.spec_AgentOk.s4 (0, a0, ())) fun (x9, x10, _) =>
    some true
  else
  afterO (loopO F.spec_AgentOk.s4 (0, a0, ())) fun (x14, x15, _) =>
  some true
noncomputable def C.spec_AgentOk : Con := ⟨[.r (.val y9)], .one .bool, fun x => F.spec_AgentOk x.1⟩
def L.spec_AgentOk : Loops := lookL [(4, ⟨[.pat 3 (.val (.int .i64)), .root 1 true y9 [1]], 0⟩)]
noncomputable def K.spec_AgentOk : Cons := lookK [(64, [], C.spec_l1In), (71, [], C.spec_l6Agent), (86, [], C.spec_l8Below), (87, [], C.spec_ItemOk)]
theorem run.spec_AgentOk : ∀ x, runF tb K.spec_AgentOk L.spec_AgentOk [] Try.f42 C.spec_AgentOk x = C.spec_AgentOk.fn x := fun x => by kernel_rfl

/-! ### spec.AgentNew: function 125 -/
noncomputable def F.spec_AgentNew (a0 : Int) : Option (DAgent × Bool) :=
  (F.spec_AgentOk ((a0, 0, false, 0, ([] : List DItem), ([] : List DSpan), 0, ()))).bind fun r1 =>
  bif !r1 then
    some ((0, 0, false, 0, ([] : List DItem), ([] : List DSpan), 0, ()), false)
  else
    some ((a0, 0, false, 0, ([] : List DItem), ([] : List DSpan), 0, ()), true)
noncomputable def C.spec_AgentNew : Con := ⟨[.r (.val (.int .i64))], .many [y12, .bool], fun x => F.spec_AgentNew x.1⟩
def L.spec_AgentNew : Loops := fun _ => none
noncomputable def K.spec_AgentNew : Cons := lookK [(42, [], C.spec_AgentOk)]
theorem run.spec_AgentNew : ∀ x, runF tb K.spec_AgentNew L.spec_AgentNew [] Try.f125 C.spec_AgentNew x = C.spec_AgentNew.fn x := fun x => by kernel_rfl

/-! ### spec.l3Values: function 138 -/
noncomputable def F.spec_l3Values.s4 : ((List Int) × Int × Int × DL1Cur × Unit) → Option (Lp ((List Int) × Int × Int × DL1Cur × Unit) ((List Int) × DL1Cur)) := fun (x2, x3, x4, x5, _) =>
  bif decide (x4 < x3) then
    (F.spec_l1Byte x5).bind fun r6 =>
    (F.spec_l1PickInt r6.2 ([0, 1, 7, 8, 100, 5000, 1000000, r6.1, 1000001, -1])).bind fun r7 =>
    chk (fits (List.length x2 + List.length ([r7.1])) 8) <|
    some (.again (x2 ++ ([r7.1]), x3, w64 (x4 + 1), r7.2, ()))
  else
    some (.exit (x2, x3, x4, x5, ()))
noncomputable def F.spec_l3Values (a0 : DL1Cur) : Option ((List Int) × DL1Cur) :=
  (F.spec_l1Below a0 6).bind fun r1 =>
  afterO (loopO F.spec_l3Values.s4 (([] : List Int), r1.1, 0, r1.2, ())) fun (x8, x9, x10, x11, _) =>
  some (x8, x11)
noncomputable def C.spec_l3Values : Con := ⟨[.p y2 y2], .one (.sl true 3 (.int .i64)), fun x => F.spec_l3Values x.1⟩
def L.spec_l3Values : Loops := lookL [(4, ⟨[.own 3 (.sl true 3 (.int .i64)), .pat 4 (.val (.int .i64)), .pat 5 (.val (.int .i64)), .root 0 true y2 [0]], 0⟩)]
noncomputable def K.spec_l3Values : Cons := lookK [(69, [], C.spec_l1PickInt), (96, [], C.spec_l1Below), (123, [], C.spec_l1Byte)]
theorem run.spec_l3Values : ∀ x, runF tb K.spec_l3Values L.spec_l3Values [0] Try.f138 C.spec_l3Values x = C.spec_l3Values.fn x := fun x => by kernel_rfl

/-! ### spec.SketchNew: function 140 -/
noncomputable def F.spec_SketchNew : Option DSketch :=
  chk (mk 8 8 8) <|
  chk (mk 8 8 8) <|
  chk (mk 8 4 4) <|
  chk (mk 8 4 4) <|
  some (0, 0, 0, 0, List.replicate 8 0, List.replicate 8 0, [List.replicate 4 0, List.replicate 4 0], ())
noncomputable def C.spec_SketchNew : Con := ⟨[], .one y10, fun x => F.spec_SketchNew⟩
def L.spec_SketchNew : Loops := fun _ => none
noncomputable def K.spec_SketchNew : Cons := lookK []
theorem run.spec_SketchNew : ∀ x, runF tb K.spec_SketchNew L.spec_SketchNew [] Try.f140 C.spec_SketchNew x = C.spec_SketchNew.fn x := fun x => by kernel_rfl

/-! ### spec.l3Copy: function 114 -/
noncomputable def F.spec_l3Copy.s6 : (Int × DSketch × DSketch × DSketch × Unit) → Option (Lp (Int × DSketch × DSketch × DSketch × Unit) DSketch) := fun (x1, x2, x3, x4, _) =>
  bif decide (x1 < (len x2.2.2.2.2.2.2.1)) then
    chk (inb x1 (List.length x2.2.2.2.2.2.2.1)) <|
    chk (fits (List.length (([] : List Int)) + List.length (List.getD x2.2.2.2.2.2.2.1 ((Int.toNat x1)) (([] : List Int)))) 8) <|
    chk (fits (List.length x4.2.2.2.2.2.2.1 + List.length ([(([] : List Int)) ++ (List.getD x2.2.2.2.2.2.2.1 ((Int.toNat x1)) (([] : List Int)))])) 24) <|
    some (.again (w64 (x1 + 1), x2, x3, (x4.1, x4.2.1, x4.2.2.1, x4.2.2.2.1, x4.2.2.2.2.1, x4.2.2.2.2.2.1, x4.2.2.2.2.2.2.1 ++ ([(([] : List Int)) ++ (List.getD x2.2.2.2.2.2.2.1 ((Int.toNat x1)) (([] : List Int)))]), x4.2.2.2.2.2.2.2), ()))
  else
    some (.exit (x1, x2, x3, x4, ()))
noncomputable def F.spec_l3Copy (a0 : DSketch) : Option DSketch :=
  chk (fits (List.length (([] : List Int)) + List.length a0.2.2.2.2.1) 8) <|
  chk (fits (List.length (([] : List Int)) + List.length a0.2.2.2.2.2.1) 8) <|
  afterO (loopO F.spec_l3Copy.s6 (0, a0, (0, 0, 0, 0, ([] : List Int), ([] : List Int), ([] : List (List Int)), ()), (a0.1, a0.2.1, a0.2.2.1, a0.2.2.2.1, (([] : List Int)) ++ a0.2.2.2.2.1, (([] : List Int)) ++ a0.2.2.2.2.2.1, ([] : List (List Int)), a0.2.2.2.2.2.2.2), ())) fun (x5, x6, x7, x8, _) =>
  some x8
noncomputable def C.spec_l3Copy : Con := ⟨[.r (.val y7)], .one y10, fun x => F.spec_l3Copy x.1⟩
def L.spec_l3Copy : Loops := lookL [(6, ⟨[.pat 4 (.val (.int .i64)), .root 1 true y7 [1], .root 2 true y10 [2], .root 3 true y10 [3]], 0⟩)]
noncomputable def K.spec_l3Copy : Cons := lookK []
theorem run.spec_l3Copy : ∀ x, runF tb K.spec_l3Copy L.spec_l3Copy [] Try.f114 C.spec_l3Copy x = C.spec_l3Copy.fn x := fun x => by kernel_rfl

/-! ### spec.l1Min: function 101 -/
noncomputable def F.spec_l1Min (a0 : Int) (a1 : Int) : Option Int :=
  bif decide (a0 < a1) then
    some a0
  else
    some a1
noncomputable def C.spec_l1Min : Con := ⟨[.r (.val (.int .i64)), .r (.val (.int .i64))], .one (.int .i64), fun x => F.spec_l1Min x.1 x.2.1⟩
def L.spec_l1Min : Loops := fun _ => none
noncomputable def K.spec_l1Min : Cons := lookK []
theorem run.spec_l1Min : ∀ x, runF tb K.spec_l1Min L.spec_l1Min [] Try.f101 C.spec_l1Min x = C.spec_l1Min.fn x := fun x => by kernel_rfl

/-! ### spec.l2Clip: function 146 -/
noncomputable def F.spec_l2Clip (a0 : Int) (a1 : Int) : Option Int :=
  (F.spec_l1Min a0 a1).bind fun r1 =>
  (F.spec_l1Max 0 r1).bind fun r2 =>
  some r2
noncomputable def C.spec_l2Clip : Con := ⟨[.r (.val (.int .i64)), .r (.val (.int .i64))], .one (.int .i64), fun x => F.spec_l2Clip x.1 x.2.1⟩
def L.spec_l2Clip : Loops := fun _ => none
noncomputable def K.spec_l2Clip : Cons := lookK [(75, [], C.spec_l1Max), (101, [], C.spec_l1Min)]
theorem run.spec_l2Clip : ∀ x, runF tb K.spec_l2Clip L.spec_l2Clip [] Try.f146 C.spec_l2Clip x = C.spec_l2Clip.fn x := fun x => by kernel_rfl

/-! ### spec.Add: function 142 -/
noncomputable def F.spec_Add (a0 : Int) (a1 : Int) : Option Int :=
  (F.spec_l2Clip a0 1000000000).bind fun r1 =>
  (F.spec_l2Clip a1 1000000000).bind fun r2 =>
  (F.spec_l1Min (w64 (r1 + r2)) 1000000000).bind fun r3 =>
  some r3
noncomputable def C.spec_Add : Con := ⟨[.r (.val (.int .i64)), .r (.val (.int .i64))], .one (.int .i64), fun x => F.spec_Add x.1 x.2.1⟩
def L.spec_Add : Loops := fun _ => none
noncomputable def K.spec_Add : Cons := lookK [(101, [], C.spec_l1Min), (146, [], C.spec_l2Clip)]
theorem run.spec_Add : ∀ x, runF tb K.spec_Add L.spec_Add [] Try.f142 C.spec_Add x = C.spec_Add.fn x := fun x => by kernel_rfl

/-! ### spec.BucketOf: function 143 -/
noncomputable def F.spec_BucketOf.s3 : (Int × Int × Unit) → Option (Lp (Int × Int × Unit) Int) := fun (x2, x3, _) =>
  bif decide (x2 > 0) then
    some (.again (w64 (Int.tdiv x2 2), w64 (x3 + 1), ()))
  else
    some (.exit (x2, x3, ()))
noncomputable def F.spec_BucketOf (a0 : Int) : Option Int :=
  (F.spec_l2Clip a0 1000000).bind fun r1 =>
  afterO (loopO F.spec_BucketOf.s3 (r1, 0, ())) fun (x4, x5, _) =>
  some (w64 (Int.tdiv (w64 (x5 + 2)) 3))
noncomputable def C.spec_BucketOf : Con := ⟨[.r (.val (.int .i64))], .one (.int .i64), fun x => F.spec_BucketOf x.1⟩
def L.spec_BucketOf : Loops := lookL [(3, ⟨[.pat 3 (.val (.int .i64)), .pat 4 (.val (.int .i64))], 0⟩)]
noncomputable def K.spec_BucketOf : Cons := lookK [(146, [], C.spec_l2Clip)]
theorem run.spec_BucketOf : ∀ x, runF tb K.spec_BucketOf L.spec_BucketOf [] Try.f143 C.spec_BucketOf x = C.spec_BucketOf.fn x := fun x => by kernel_rfl

/-! ### spec.Mix: function 144 -/
noncomputable def F.spec_Mix (a0 : Int) : Option Int :=
  (F.spec_l2Clip a0 1000000).bind fun r1 =>
  some (ibits .xor .i64 (Int.tmod (w64 ((w64 (r1 * 40503)) + 12345)) 65536) (w64 (Int.tdiv (Int.tmod (w64 ((w64 (r1 * 40503)) + 12345)) 65536) 256)))
noncomputable def C.spec_Mix : Con := ⟨[.r (.val (.int .i64))], .one (.int .i64), fun x => F.spec_Mix x.1⟩
def L.spec_Mix : Loops := fun _ => none
noncomputable def K.spec_Mix : Cons := lookK [(146, [], C.spec_l2Clip)]
theorem run.spec_Mix : ∀ x, runF tb K.spec_Mix L.spec_Mix [] Try.f144 C.spec_Mix x = C.spec_Mix.fn x := fun x => by kernel_rfl

/-! ### spec.RankOf: function 145 -/
noncomputable def F.spec_RankOf.s5 : (Int × Int × Unit) → Option (Lp (Int × Int × Unit) Int) := fun (x2, x3, _) =>
  bif (Int.tmod x2 2) == 0 then
    some (.again (w64 (Int.tdiv x2 2), w64 (x3 + 1), ()))
  else
    some (.exit (x2, x3, ()))
noncomputable def F.spec_RankOf (a0 : Int) : Option Int :=
  (F.spec_Mix a0).bind fun r1 =>
  bif r1 == 0 then
    some 17
  else
  afterO (loopO F.spec_RankOf.s5 (r1, 1, ())) fun (x4, x5, _) =>
  some x5
noncomputable def C.spec_RankOf : Con := ⟨[.r (.val (.int .i64))], .one (.int .i64), fun x => F.spec_RankOf x.1⟩
def L.spec_RankOf : Loops := lookL [(5, ⟨[.pat 3 (.val (.int .i64)), .pat 4 (.val (.int .i64))], 0⟩)]
noncomputable def K.spec_RankOf : Cons := lookK [(144, [], C.spec_Mix)]
theorem run.spec_RankOf : ∀ x, runF tb K.spec_RankOf L.spec_RankOf [] Try.f145 C.spec_RankOf x = C.spec_RankOf.fn x := fun x => by kernel_rfl

/-! ### spec.Insert: function 141 -/
noncomputable def F.spec_Insert.s14 : (Int × Int × DSketch × DSketch × Unit) → Option (Lp (Int × Int × DSketch × DSketch × Unit) (DSketch × Bool)) := fun (x14, x15, x16, x17, _) =>
  bif decide (x15 < 2) then
    (F.spec_Mix x14).bind fun r18 =>
    chk (inb x15 (List.length x17.2.2.2.2.2.2.1)) <|
    chk (inb x15 (List.length x17.2.2.2.2.2.2.1)) <|
    chk (inb (Int.tmod (w64 (r18 + x15)) 4) (List.length (List.getD x17.2.2.2.2.2.2.1 ((Int.toNat x15)) (([] : List Int))))) <|
    (F.spec_Add (List.getD (List.getD x17.2.2.2.2.2.2.1 ((Int.toNat x15)) (([] : List Int))) ((Int.toNat (Int.tmod (w64 (r18 + x15)) 4))) 0) 1).bind fun r19 =>
    chk (inb (Int.tmod (w64 (r18 + x15)) 4) (List.length (List.getD x17.2.2.2.2.2.2.1 ((Int.toNat x15)) (([] : List Int))))) <|
    (some (List.set x17.2.2.2.2.2.2.1 ((Int.toNat x15)) (List.set (List.getD x17.2.2.2.2.2.2.1 ((Int.toNat x15)) (([] : List Int))) ((Int.toNat (Int.tmod (w64 (r18 + x15)) 4))) r19))).bind fun r20 =>
    some (.again (x14, w64 (x15 + 1), x16, (x17.1, x17.2.1, x17.2.2.1, x17.2.2.2.1, x17.2.2.2.2.1, x17.2.2.2.2.2.1, r20, x17.2.2.2.2.2.2.2), ()))
  else
    some (.exit (x14, x15, x16, x17, ()))
noncomputable def F.spec_Insert (a0 : DSketch) (a1 : Int) : Option (DSketch × Bool) :=
  (F.spec_l3Copy a0).bind fun r1 =>
  (F.spec_SketchOk a0).bind fun r2 =>
  bif !r2 then
    some (r1, false)
  else
  (F.spec_l1In a1 0 1000000).bind fun r3 =>
  bif !r3 then
    some (r1, false)
  else
  (F.spec_Add a0.1 1).bind fun r4 =>
  (F.spec_Add a0.2.1 a1).bind fun r5 =>
  (F.spec_l1Min a0.2.2.1 a1).bind fun r6 =>
  bif a0.1 == 0 then
    (F.spec_l1Max a0.2.2.2.1 a1).bind fun r7 =>
    (F.spec_BucketOf a1).bind fun r8 =>
    (F.spec_BucketOf a1).bind fun r9 =>
    chk (inb r9 (List.length r1.2.2.2.2.1)) <|
    (F.spec_Add (List.getD r1.2.2.2.2.1 ((Int.toNat r9)) 0) 1).bind fun r10 =>
    chk (inb r8 (List.length r1.2.2.2.2.1)) <|
    (F.spec_Mix a1).bind fun r11 =>
    chk (inb (Int.tmod r11 8) (List.length r1.2.2.2.2.2.1)) <|
    (F.spec_RankOf a1).bind fun r12 =>
    (F.spec_l1Max (List.getD r1.2.2.2.2.2.1 ((Int.toNat (Int.tmod r11 8))) 0) r12).bind fun r13 =>
    chk (inb (Int.tmod r11 8) (List.length r1.2.2.2.2.2.1)) <|
    afterO (loopO F.spec_Insert.s14 (a1, 0, (0, 0, 0, 0, ([] : List Int), ([] : List Int), ([] : List (List Int)), ()), (r4, r5, a1, r7, List.set r1.2.2.2.2.1 ((Int.toNat r8)) r10, List.set r1.2.2.2.2.2.1 ((Int.toNat (Int.tmod r11 8))) r13, r1.2.2.2.2.2.2), ())) fun (x21, x22, x23, x24, _) =>
    some (x24, true)
  else
  (F.spec_l1Max a0.2.2.2.1 a1).bind fun r25 =>
  (F.spec_BucketOf a1).bind fun r26 =>
  (F.spec_BucketOf a1).bind fun r27 =>
  chk (inb r27 (List.length r1.2.2.2.2.1)) <|
  (F.spec_Add (List.getD r1.2.2.2.2.1 ((Int.toNat r27)) 0) 1).bind fun r28 =>
  chk (inb r26 (List.length r1.2.2.2.2.1)) <|
  (F.spec_Mix a1).bind fun r29 =>
  chk (inb (Int.tmod r29 8) (List.length r1.2.2.2.2.2.1)) <|
  (F.spec_RankOf a1).bind fun r30 =>
  (F.spec_l1Max (List.getD r1.2.2.2.2.2.1 ((Int.toNat (Int.tmod r29 8))) 0) r30).bind fun r31 =>
  chk (inb (Int.tmod r29 8) (List.length r1.2.2.2.2.2.1)) <|
  afterO (loopO F.spec_Insert.s14 (a1, 0, (0, 0, 0, 0, ([] : List Int), ([] : List Int), ([] : List (List Int)), ()), (r4, r5, r6, r25, List.set r1.2.2.2.2.1 ((Int.toNat r26)) r28, List.set r1.2.2.2.2.2.1 ((Int.toNat (Int.tmod r29 8))) r31, r1.2.2.2.2.2.2), ())) fun (x39, x40, x41, x42, _) =>
  some (x42, true)
noncomputable def C.spec_Insert : Con := ⟨[.r (.val y7), .r (.val (.int .i64))], .many [y10, .bool], fun x => F.spec_Insert x.1 x.2.1⟩
def L.spec_Insert : Loops := lookL [(14, ⟨[.pat 1 (.val (.int .i64)), .pat 8 (.val (.int .i64)), .root 4 true y10 [4], .root 6 true y10 [6]], 0⟩)]
noncomputable def K.spec_Insert : Cons := lookK [(64, [], C.spec_l1In), (75, [], C.spec_l1Max), (101, [], C.spec_l1Min), (114, [], C.spec_l3Copy), (118, [], C.spec_SketchOk), (142, [], C.spec_Add), (143, [], C.spec_BucketOf), (144, [], C.spec_Mix), (145, [], C.spec_RankOf)]
theorem run.spec_Insert : ∀ x, runF tb K.spec_Insert L.spec_Insert [] Try.f141 C.spec_Insert x = C.spec_Insert.fn x := fun x => by kernel_rfl

/-! ### spec.Sketched: function 137 -/
noncomputable def F.spec_Sketched.s3 : ((List Int) × Int × DSketch × DSketch × Unit) → Option (Lp ((List Int) × Int × DSketch × DSketch × Unit) DSketch) := fun (x2, x3, x4, x5, _) =>
  bif decide (x3 < (len x2)) then
    chk (inb x3 (List.length x2)) <|
    (F.spec_Insert x5 (List.getD x2 ((Int.toNat x3)) 0)).bind fun r6 =>
    some (.again (x2, w64 (x3 + 1), x4, r6.1, ()))
  else
    some (.exit (x2, x3, x4, x5, ()))
noncomputable def F.spec_Sketched (a0 : List Int) : Option DSketch :=
  (F.spec_SketchNew).bind fun r1 =>
  afterO (loopO F.spec_Sketched.s3 (a0, 0, (0, 0, 0, 0, ([] : List Int), ([] : List Int), ([] : List (List Int)), ()), r1, ())) fun (x7, x8, x9, x10, _) =>
  some x10
noncomputable def C.spec_Sketched : Con := ⟨[.r (.val (.sl false 3 (.int .i64)))], .one y10, fun x => F.spec_Sketched x.1⟩
def L.spec_Sketched : Loops := lookL [(3, ⟨[.pat 0 (.val (.sl false 3 (.int .i64))), .pat 4 (.val (.int .i64)), .root 2 true y10 [2], .root 3 true y10 [3]], 0⟩)]
noncomputable def K.spec_Sketched : Cons := lookK [(140, [], C.spec_SketchNew), (141, [], C.spec_Insert)]
theorem run.spec_Sketched : ∀ x, runF tb K.spec_Sketched L.spec_Sketched [] Try.f137 C.spec_Sketched x = C.spec_Sketched.fn x := fun x => by kernel_rfl

/-! ### spec.l6Right: function 126 -/
noncomputable def F.spec_l6Right (a0 : DL1Cur) : Option (DItem × DL1Cur) :=
  (F.spec_l1Below a0 8).bind fun r1 =>
  (F.spec_l1Below r1.2 2).bind fun r2 =>
  (F.spec_l1Below r2.2 2).bind fun r3 =>
  (F.spec_l1Below r3.2 3).bind fun r4 =>
  (F.spec_l3Values r4.2).bind fun r5 =>
  (F.spec_Sketched r5.1).bind fun r6 =>
  some ((w64 (1 + r1.1), r2.1, r3.1, r4.1, r6, ()), r5.2)
noncomputable def C.spec_l6Right : Con := ⟨[.p y2 y2], .one y11, fun x => F.spec_l6Right x.1⟩
def L.spec_l6Right : Loops := fun _ => none
noncomputable def K.spec_l6Right : Cons := lookK [(96, [], C.spec_l1Below), (137, [], C.spec_Sketched), (138, [], C.spec_l3Values)]
theorem run.spec_l6Right : ∀ x, runF tb K.spec_l6Right L.spec_l6Right [0] Try.f126 C.spec_l6Right x = C.spec_l6Right.fn x := fun x => by kernel_rfl

/-! ### spec.l5Copy: function 113 -/
noncomputable def F.spec_l5Copy (a0 : List DSpan) : Option ((List DSpan)) :=
  chk (fits (List.length (([] : List DSpan)) + List.length a0) 16) <|
  some ((([] : List DSpan)) ++ a0)
noncomputable def C.spec_l5Copy : Con := ⟨[.r (.val (.sl false 112 y3))], .one (.sl true 112 y3), fun x => F.spec_l5Copy x.1⟩
def L.spec_l5Copy : Loops := fun _ => none
noncomputable def K.spec_l5Copy : Cons := lookK []
theorem run.spec_l5Copy : ∀ x, runF tb K.spec_l5Copy L.spec_l5Copy [] Try.f113 C.spec_l5Copy x = C.spec_l5Copy.fn x := fun x => by kernel_rfl

/-! ### spec.l6Item: function 83 -/
noncomputable def F.spec_l6Item (a0 : DItem) : Option DItem :=
  (F.spec_l3Copy a0.2.2.2.2.1).bind fun r1 =>
  some (a0.1, a0.2.1, a0.2.2.1, a0.2.2.2.1, r1, a0.2.2.2.2.2)
noncomputable def C.spec_l6Item : Con := ⟨[.r (.val y8)], .one y11, fun x => F.spec_l6Item x.1⟩
def L.spec_l6Item : Loops := fun _ => none
noncomputable def K.spec_l6Item : Cons := lookK [(114, [], C.spec_l3Copy)]
theorem run.spec_l6Item : ∀ x, runF tb K.spec_l6Item L.spec_l6Item [] Try.f83 C.spec_l6Item x = C.spec_l6Item.fn x := fun x => by kernel_rfl

/-! ### spec.l8Copy: function 82 -/
noncomputable def F.spec_l8Copy.s5 : (Int × DAgent × DAgent × DAgent × Unit) → Option (Lp (Int × DAgent × DAgent × DAgent × Unit) DAgent) := fun (x2, x3, x4, x5, _) =>
  bif decide (x2 < (len x3.2.2.2.2.1)) then
    chk (inb x2 (List.length x3.2.2.2.2.1)) <|
    (F.spec_l6Item (List.getD x3.2.2.2.2.1 ((Int.toNat x2)) ((0, 0, 0, 0, (0, 0, 0, 0, ([] : List Int), ([] : List Int), ([] : List (List Int)), ()), ())))).bind fun r6 =>
    chk (fits (List.length x5.2.2.2.2.1 + List.length ([r6])) 136) <|
    some (.again (w64 (x2 + 1), x3, x4, (x5.1, x5.2.1, x5.2.2.1, x5.2.2.2.1, x5.2.2.2.2.1 ++ ([r6]), x5.2.2.2.2.2), ()))
  else
    some (.exit (x2, x3, x4, x5, ()))
noncomputable def F.spec_l8Copy (a0 : DAgent) : Option DAgent :=
  (F.spec_l5Copy a0.2.2.2.2.2.1).bind fun r1 =>
  afterO (loopO F.spec_l8Copy.s5 (0, a0, (0, 0, false, 0, ([] : List DItem), ([] : List DSpan), 0, ()), (a0.1, a0.2.1, a0.2.2.1, a0.2.2.2.1, ([] : List DItem), r1, a0.2.2.2.2.2.2), ())) fun (x7, x8, x9, x10, _) =>
  some x10
noncomputable def C.spec_l8Copy : Con := ⟨[.r (.val y9)], .one y12, fun x => F.spec_l8Copy x.1⟩
def L.spec_l8Copy : Loops := lookL [(5, ⟨[.pat 4 (.val (.int .i64)), .root 1 true y9 [1], .root 2 true y12 [2], .root 3 true y12 [3]], 0⟩)]
noncomputable def K.spec_l8Copy : Cons := lookK [(83, [], C.spec_l6Item), (113, [], C.spec_l5Copy)]
theorem run.spec_l8Copy : ∀ x, runF tb K.spec_l8Copy L.spec_l8Copy [] Try.f82 C.spec_l8Copy x = C.spec_l8Copy.fn x := fun x => by kernel_rfl

/-! ### spec.Seal: function 127 -/
noncomputable def F.spec_Seal (a0 : DAgent) (a1 : Int) (a2 : Int) (a3 : Int) (a4 : DSketch) : Option (DAgent × Int) :=
  (F.spec_AgentOk a0).bind fun r1 =>
  bif !r1 then
    (F.spec_l8Copy a0).bind fun r2 =>
    some (r2, 0)
  else
  (F.spec_l8Copy a0).bind fun r3 =>
  (F.spec_l3Copy a4).bind fun r4 =>
  chk (fits (List.length r3.2.2.2.2.1 + List.length ([(w64 ((len a0.2.2.2.2.1) + 1), a1, a2, a3, r4, ())])) 136) <|
  (F.spec_AgentOk ((r3.1, r3.2.1, r3.2.2.1, r3.2.2.2.1, r3.2.2.2.2.1 ++ ([(w64 ((len a0.2.2.2.2.1) + 1), a1, a2, a3, r4, ())]), r3.2.2.2.2.2))).bind fun r5 =>
  bif !r5 then
    (F.spec_l8Copy a0).bind fun r6 =>
    some (r6, 0)
  else
    some ((r3.1, r3.2.1, r3.2.2.1, r3.2.2.2.1, r3.2.2.2.2.1 ++ ([(w64 ((len a0.2.2.2.2.1) + 1), a1, a2, a3, r4, ())]), r3.2.2.2.2.2), len (r3.2.2.2.2.1 ++ ([(w64 ((len a0.2.2.2.2.1) + 1), a1, a2, a3, r4, ())])))
noncomputable def C.spec_Seal : Con := ⟨[.r (.val y9), .r (.val (.int .i64)), .r (.val (.int .i64)), .r (.val (.int .i64)), .r (.val y7)], .many [y12, (.int .i64)], fun x => F.spec_Seal x.1 x.2.1 x.2.2.1 x.2.2.2.1 x.2.2.2.2.1⟩
def L.spec_Seal : Loops := fun _ => none
noncomputable def K.spec_Seal : Cons := lookK [(42, [], C.spec_AgentOk), (82, [], C.spec_l8Copy), (114, [], C.spec_l3Copy)]

/-! ### spec.l8One: function 129 -/
noncomputable def F.spec_l8One (a0 : Int) : Option DSpan :=
  some (a0, a0, ())
noncomputable def C.spec_l8One : Con := ⟨[.r (.val (.int .i64))], .one y3, fun x => F.spec_l8One x.1⟩
def L.spec_l8One : Loops := fun _ => none
noncomputable def K.spec_l8One : Cons := lookK []
theorem run.spec_l8One : ∀ x, runF tb K.spec_l8One L.spec_l8One [] Try.f129 C.spec_l8One x = C.spec_l8One.fn x := fun x => by kernel_rfl

/-! ### spec.l5Put: function 128 -/
noncomputable def F.spec_l5Put.s4 : ((List DSpan) × (List DSpan) × Bool × Int × DSpan × Unit) → Option (Lp ((List DSpan) × (List DSpan) × Bool × Int × DSpan × Unit) ((List DSpan))) := fun (x1, x2, x3, x4, x5, _) =>
  bif decide (x4 < (len x1)) then
    chk (inb x4 (List.length x1)) <|
    bif decide ((w64 ((((List.getD x1 ((Int.toNat x4)) ((0, 0, ()))).2).1) + 1)) < x5.1) then
      chk (inb x4 (List.length x1)) <|
      chk (fits (List.length x2 + List.length ([List.getD x1 ((Int.toNat x4)) ((0, 0, ()))])) 16) <|
      some (.again (x1, x2 ++ ([List.getD x1 ((Int.toNat x4)) ((0, 0, ()))]), x3, w64 (x4 + 1), x5, ()))
    else
    chk (inb x4 (List.length x1)) <|
    bif decide (((List.getD x1 ((Int.toNat x4)) ((0, 0, ()))).1) > (w64 (x5.2.1 + 1))) then
      bif !x3 then
        chk (fits (List.length x2 + List.length ([x5])) 16) <|
        chk (inb x4 (List.length x1)) <|
        chk (fits (List.length (x2 ++ ([x5])) + List.length ([List.getD x1 ((Int.toNat x4)) ((0, 0, ()))])) 16) <|
        some (.again (x1, (x2 ++ ([x5])) ++ ([List.getD x1 ((Int.toNat x4)) ((0, 0, ()))]), true, w64 (x4 + 1), x5, ()))
      else
      chk (inb x4 (List.length x1)) <|
      chk (fits (List.length x2 + List.length ([List.getD x1 ((Int.toNat x4)) ((0, 0, ()))])) 16) <|
      some (.again (x1, x2 ++ ([List.getD x1 ((Int.toNat x4)) ((0, 0, ()))]), x3, w64 (x4 + 1), x5, ()))
    else
    chk (inb x4 (List.length x1)) <|
    (F.spec_l1Min x5.1 ((List.getD x1 ((Int.toNat x4)) ((0, 0, ()))).1)).bind fun r6 =>
    chk (inb x4 (List.length x1)) <|
    (F.spec_l1Max x5.2.1 (((List.getD x1 ((Int.toNat x4)) ((0, 0, ()))).2).1)).bind fun r7 =>
    some (.again (x1, x2, x3, w64 (x4 + 1), (r6, r7, ()), ()))
  else
    some (.exit (x1, x2, x3, x4, x5, ()))
noncomputable def F.spec_l5Put (a0 : List DSpan) (a1 : DSpan) : Option ((List DSpan)) :=
  afterO (loopO F.spec_l5Put.s4 (a0, ([] : List DSpan), false, 0, a1, ())) fun (x8, x9, x10, x11, x12, _) =>
  bif !x10 then
    chk (fits (List.length x9 + List.length ([x12])) 16) <|
    some (x9 ++ ([x12]))
  else
    some x9
noncomputable def C.spec_l5Put : Con := ⟨[.r (.val (.sl false 112 y3)), .r (.val y3)], .one (.sl true 112 y3), fun x => F.spec_l5Put x.1 x.2.1⟩
def L.spec_l5Put : Loops := lookL [(4, ⟨[.pat 0 (.val (.sl false 112 y3)), .own 5 (.sl true 112 y3), .pat 6 (.val .bool), .pat 7 (.val (.int .i64)), .root 3 true y3 [3]], 0⟩)]
noncomputable def K.spec_l5Put : Cons := lookK [(75, [], C.spec_l1Max), (101, [], C.spec_l1Min)]
theorem run.spec_l5Put : ∀ x, runF tb K.spec_l5Put L.spec_l5Put [] Try.f128 C.spec_l5Put x = C.spec_l5Put.fn x := fun x => by kernel_rfl

/-! ### spec.l8Right: function 108 -/
noncomputable def F.spec_l8Right.s4 : (Int × Int × DL1Cur × DAgent × DAgent × Unit) → Option (Lp (Int × Int × DL1Cur × DAgent × DAgent × Unit) (DAgent × DL1Cur)) := fun (x4, x5, x6, x7, x8, _) =>
  bif decide (x5 < x4) then
    (F.spec_l6Right x6).bind fun r9 =>
    (F.spec_Seal x8 r9.1.2.1 r9.1.2.2.1 r9.1.2.2.2.1 r9.1.2.2.2.2.1).bind fun r10 =>
    some (.again (x4, w64 (x5 + 1), r9.2, x7, r10.1, ()))
  else
    some (.exit (x4, x5, x6, x7, x8, ()))
noncomputable def F.spec_l8Right.s14 : (Int × Int × Int × DL1Cur × DAgent × DAgent × Unit) → Option (Lp (Int × Int × Int × DL1Cur × DAgent × DAgent × Unit) (DAgent × DL1Cur)) := fun (x20, x21, x22, x23, x24, x25, _) =>
  bif decide (x22 < x21) then
    bif decide (x20 > 0) then
      (F.spec_l1Below x23 x20).bind fun r26 =>
      (F.spec_l8One (w64 (1 + r26.1))).bind fun r27 =>
      (F.spec_l5Put x25.2.2.2.2.2.1 r27).bind fun r28 =>
      some (.again (x20, x21, w64 (x22 + 1), r26.2, x24, (x25.1, x25.2.1, x25.2.2.1, x25.2.2.2.1, x25.2.2.2.2.1, r28, x25.2.2.2.2.2.2), ()))
    else
      some (.exit (x20, x21, x22, x23, x24, x25, ()))
  else
    some (.exit (x20, x21, x22, x23, x24, x25, ()))
noncomputable def F.spec_l8Right (a0 : DL1Cur) : Option (DAgent × DL1Cur) :=
  (F.spec_l1Below a0 3).bind fun r1 =>
  (F.spec_AgentNew r1.1).bind fun r2 =>
  (F.spec_l1Below r1.2 7).bind fun r3 =>
  afterO (loopO F.spec_l8Right.s4 (r3.1, 0, r3.2, (0, 0, false, 0, ([] : List DItem), ([] : List DSpan), 0, ()), r2.1, ())) fun (x11, x12, x13, x14, x15, _) =>
  (F.spec_l1Below x13 3).bind fun r16 =>
  (F.spec_l1Once r16.2 4).bind fun r17 =>
  bif !r17.1 then
    (F.spec_l1Below r17.2 9).bind fun r18 =>
    (F.spec_l1Below r18.2 3).bind fun r19 =>
    afterO (loopO F.spec_l8Right.s14 (x11, r19.1, 0, r19.2, x14, (x15.1, r16.1, true, r18.1, x15.2.2.2.2), ())) fun (x29, x30, x31, x32, x33, x34, _) =>
    (F.spec_l1Below x32 8).bind fun r35 =>
    some ((x34.1, x34.2.1, x34.2.2.1, x34.2.2.2.1, x34.2.2.2.2.1, x34.2.2.2.2.2.1, r35.1, x34.2.2.2.2.2.2.2), r35.2)
  else
  (F.spec_l1Below r17.2 3).bind fun r36 =>
  afterO (loopO F.spec_l8Right.s14 (x11, r36.1, 0, r36.2, x14, (x15.1, r16.1, x15.2.2), ())) fun (x46, x47, x48, x49, x50, x51, _) =>
  (F.spec_l1Below x49 8).bind fun r52 =>
  some ((x51.1, x51.2.1, x51.2.2.1, x51.2.2.2.1, x51.2.2.2.2.1, x51.2.2.2.2.2.1, r52.1, x51.2.2.2.2.2.2.2), r52.2)
noncomputable def C.spec_l8Right : Con := ⟨[.p y2 y2], .one y12, fun x => F.spec_l8Right x.1⟩
def L.spec_l8Right : Loops := lookL [(4, ⟨[.pat 5 (.val (.int .i64)), .pat 6 (.val (.int .i64)), .root 0 true y2 [0], .root 2 true y12 [2], .root 3 true y12 [3]], 0⟩), (14, ⟨[.pat 5 (.val (.int .i64)), .pat 8 (.val (.int .i64)), .pat 9 (.val (.int .i64)), .root 0 true y2 [0], .root 2 true y12 [2], .root 3 true y12 [3]], 2⟩)]
noncomputable def K.spec_l8Right : Cons := lookK [(68, [], C.spec_l1Once), (96, [], C.spec_l1Below), (125, [], C.spec_AgentNew), (126, [], C.spec_l6Right), (127, [], C.spec_Seal), (128, [], C.spec_l5Put), (129, [], C.spec_l8One)]
theorem run.spec_l8Right : ∀ x, runF tb K.spec_l8Right L.spec_l8Right [0] Try.f108 C.spec_l8Right x = C.spec_l8Right.fn x := fun x => by kernel_rfl

/-! ### spec.l3Right: function 139 -/
noncomputable def F.spec_l3Right (a0 : DL1Cur) : Option (DSketch × DL1Cur) :=
  (F.spec_l3Values a0).bind fun r1 =>
  (F.spec_Sketched r1.1).bind fun r2 =>
  (F.spec_l1Once r1.2 16).bind fun r3 =>
  bif r3.1 then
    bif decide (r2.1 > 0) then
      (F.spec_l1Below r3.2 2).bind fun r4 =>
      chk (inb 3 (List.length r2.2.2.2.2.1)) <|
      some ((w64 (1000000000 - r4.1), 999999997, r2.2.2.1, r2.2.2.2.1, List.set r2.2.2.2.2.1 3 1000000000, r2.2.2.2.2.2), r4.2)
    else
      some (r2, r3.2)
  else
    some (r2, r3.2)
noncomputable def C.spec_l3Right : Con := ⟨[.p y2 y2], .one y10, fun x => F.spec_l3Right x.1⟩
def L.spec_l3Right : Loops := fun _ => none
noncomputable def K.spec_l3Right : Cons := lookK [(68, [], C.spec_l1Once), (96, [], C.spec_l1Below), (137, [], C.spec_Sketched), (138, [], C.spec_l3Values)]
theorem run.spec_l3Right : ∀ x, runF tb K.spec_l3Right L.spec_l3Right [0] Try.f139 C.spec_l3Right x = C.spec_l3Right.fn x := fun x => by kernel_rfl

/-! ### spec.l3Draw: function 130 -/
noncomputable def F.spec_l3Draw (a0 : DL1Cur) : Option (DSketch × DL1Cur) :=
  (F.spec_l3Right a0).bind fun r1 =>
  (F.spec_l1Below r1.2 16).bind fun r2 =>
  bif r2.1 == 0 then
    (F.spec_l1PickInt r2.2 ([-1, 1000001, 500])).bind fun r3 =>
    some ((r1.1.1, r1.1.2.1, r3.1, r1.1.2.2.2), r3.2)
  else
  bif r2.1 == 1 then
    (F.spec_l1Below r2.2 8).bind fun r4 =>
    (F.spec_l1PickInt r4.2 ([-1, 17, 18])).bind fun r5 =>
    chk (inb r4.1 (List.length r1.1.2.2.2.2.2.1)) <|
    some ((r1.1.1, r1.1.2.1, r1.1.2.2.1, r1.1.2.2.2.1, r1.1.2.2.2.2.1, List.set r1.1.2.2.2.2.2.1 ((Int.toNat r4.1)) r5.1, r1.1.2.2.2.2.2.2), r5.2)
  else
  bif r2.1 == 2 then
    chk (fits (List.length r1.1.2.2.2.2.1 + List.length ([0])) 8) <|
    some ((r1.1.1, r1.1.2.1, r1.1.2.2.1, r1.1.2.2.2.1, r1.1.2.2.2.2.1 ++ ([0]), r1.1.2.2.2.2.2), r2.2)
  else
  bif r2.1 == 3 then
    chk (cutOk 0 1 (List.length r1.1.2.2.2.2.2.2.1)) <|
    some ((r1.1.1, r1.1.2.1, r1.1.2.2.1, r1.1.2.2.2.1, r1.1.2.2.2.2.1, r1.1.2.2.2.2.2.1, List.take (1 - 0) (List.drop 0 r1.1.2.2.2.2.2.2.1), r1.1.2.2.2.2.2.2.2), r2.2)
  else
  bif r2.1 == 4 then
    (F.spec_l1PickInt r2.2 ([0, -1, 1000000001])).bind fun r6 =>
    some ((r6.1, r1.1.2), r6.2)
  else
  bif r2.1 == 5 then
    chk (inb 1 (List.length r1.1.2.2.2.2.2.2.1)) <|
    (F.spec_l1PickInt r2.2 ([-1, 3, 1000000001])).bind fun r7 =>
    chk (inb 2 (List.length (List.getD r1.1.2.2.2.2.2.2.1 1 (([] : List Int))))) <|
    some ((r1.1.1, r1.1.2.1, r1.1.2.2.1, r1.1.2.2.2.1, r1.1.2.2.2.2.1, r1.1.2.2.2.2.2.1, List.set r1.1.2.2.2.2.2.2.1 1 (List.set (List.getD r1.1.2.2.2.2.2.2.1 1 (([] : List Int))) 2 r7.1), r1.1.2.2.2.2.2.2.2), r7.2)
  else
    some (r1.1, r2.2)
noncomputable def C.spec_l3Draw : Con := ⟨[.p y2 y2], .one y7, fun x => F.spec_l3Draw x.1⟩
def L.spec_l3Draw : Loops := fun _ => none
noncomputable def K.spec_l3Draw : Cons := lookK [(69, [], C.spec_l1PickInt), (96, [], C.spec_l1Below), (139, [], C.spec_l3Right)]
theorem run.spec_l3Draw : ∀ x, runF tb K.spec_l3Draw L.spec_l3Draw [0] Try.f130 C.spec_l3Draw x = C.spec_l3Draw.fn x := fun x => by kernel_rfl

/-! ### spec.l6Draw: function 109 -/
noncomputable def F.spec_l6Draw (a0 : DL1Cur) : Option (DItem × DL1Cur) :=
  (F.spec_l6Right a0).bind fun r1 =>
  (F.spec_l1Below r1.2 14).bind fun r2 =>
  bif r2.1 == 0 then
    (F.spec_l1PickInt r2.2 ([0, 60, 61, -1])).bind fun r3 =>
    some ((r3.1, r1.1.2), r3.2)
  else
  bif r2.1 == 1 then
    (F.spec_l1PickInt r2.2 ([-1, 2])).bind fun r4 =>
    some ((r1.1.1, r4.1, r1.1.2.2), r4.2)
  else
  bif r2.1 == 2 then
    (F.spec_l1PickInt r2.2 ([-1, 4, 5])).bind fun r5 =>
    some ((r1.1.1, r1.1.2.1, r5.1, r1.1.2.2.2), r5.2)
  else
  bif r2.1 == 3 then
    (F.spec_l1PickInt r2.2 ([-1, 20, 21])).bind fun r6 =>
    some ((r1.1.1, r1.1.2.1, r1.1.2.2.1, r6.1, r1.1.2.2.2.2), r6.2)
  else
  bif r2.1 == 4 then
    (F.spec_l3Draw r2.2).bind fun r7 =>
    some ((r1.1.1, r1.1.2.1, r1.1.2.2.1, r1.1.2.2.2.1, r7.1, r1.1.2.2.2.2.2), r7.2)
  else
    some (r1.1, r2.2)
noncomputable def C.spec_l6Draw : Con := ⟨[.p y2 y2], .one y8, fun x => F.spec_l6Draw x.1⟩
def L.spec_l6Draw : Loops := fun _ => none
noncomputable def K.spec_l6Draw : Cons := lookK [(69, [], C.spec_l1PickInt), (96, [], C.spec_l1Below), (126, [], C.spec_l6Right), (130, [], C.spec_l3Draw)]
theorem run.spec_l6Draw : ∀ x, runF tb K.spec_l6Draw L.spec_l6Draw [0] Try.f109 C.spec_l6Draw x = C.spec_l6Draw.fn x := fun x => by kernel_rfl

/-! ### spec.l5Right: function 131 -/
noncomputable def F.spec_l5Right.s4 : ((List DSpan) × Int × Int × DL1Cur × Unit) → Option (Lp ((List DSpan) × Int × Int × DL1Cur × Unit) ((List DSpan) × DL1Cur)) := fun (x2, x3, x4, x5, _) =>
  bif decide (x4 < x3) then
    (F.spec_l1Below x5 20).bind fun r6 =>
    (F.spec_l1Below r6.2 20).bind fun r7 =>
    (F.spec_l1Below r7.2 10).bind fun r8 =>
    (F.spec_l1PickInt r8.2 ([r6.1, r7.1, w64 (9990 + r8.1)])).bind fun r9 =>
    (F.spec_l1Below r9.2 3).bind fun r10 =>
    (F.spec_l1Min (w64 (r9.1 + r10.1)) 9999).bind fun r11 =>
    (F.spec_l5Put x2 ((r9.1, r11, ()))).bind fun r12 =>
    some (.again (r12, x3, w64 (x4 + 1), r10.2, ()))
  else
    some (.exit (x2, x3, x4, x5, ()))
noncomputable def F.spec_l5Right (a0 : DL1Cur) : Option ((List DSpan) × DL1Cur) :=
  (F.spec_l1Below a0 7).bind fun r1 =>
  afterO (loopO F.spec_l5Right.s4 (([] : List DSpan), r1.1, 0, r1.2, ())) fun (x13, x14, x15, x16, _) =>
  some (x13, x16)
noncomputable def C.spec_l5Right : Con := ⟨[.p y2 y2], .one (.sl true 112 y3), fun x => F.spec_l5Right x.1⟩
def L.spec_l5Right : Loops := lookL [(4, ⟨[.own 3 (.sl true 112 y3), .pat 4 (.val (.int .i64)), .pat 5 (.val (.int .i64)), .root 0 true y2 [0]], 0⟩)]
noncomputable def K.spec_l5Right : Cons := lookK [(69, [], C.spec_l1PickInt), (96, [], C.spec_l1Below), (101, [], C.spec_l1Min), (128, [], C.spec_l5Put)]
theorem run.spec_l5Right : ∀ x, runF tb K.spec_l5Right L.spec_l5Right [0] Try.f131 C.spec_l5Right x = C.spec_l5Right.fn x := fun x => by kernel_rfl

/-! ### spec.l5Draw: function 110 -/
noncomputable def F.spec_l5Draw (a0 : DL1Cur) : Option ((List DSpan) × DL1Cur) :=
  (F.spec_l5Right a0).bind fun r1 =>
  (F.spec_l1Once r1.2 8).bind fun r2 =>
  bif r2.1 then
    (F.spec_l1PickInt r2.2 ([-1, 3, 10000])).bind fun r3 =>
    (F.spec_l1PickInt r3.2 ([5, 10000, 9223372036854775807])).bind fun r4 =>
    chk (fits (List.length r1.1 + List.length ([(r3.1, r4.1, ())])) 16) <|
    some (r1.1 ++ ([(r3.1, r4.1, ())]), r4.2)
  else
    some (r1.1, r2.2)
noncomputable def C.spec_l5Draw : Con := ⟨[.p y2 y2], .one (.sl true 112 y3), fun x => F.spec_l5Draw x.1⟩
def L.spec_l5Draw : Loops := fun _ => none
noncomputable def K.spec_l5Draw : Cons := lookK [(68, [], C.spec_l1Once), (69, [], C.spec_l1PickInt), (131, [], C.spec_l5Right)]
theorem run.spec_l5Draw : ∀ x, runF tb K.spec_l5Draw L.spec_l5Draw [0] Try.f110 C.spec_l5Draw x = C.spec_l5Draw.fn x := fun x => by kernel_rfl

/-! ### spec.l8Draw: function 78 -/
noncomputable def F.spec_l8Draw (a0 : DL1Cur) : Option (DAgent × DL1Cur) :=
  (F.spec_l8Right a0).bind fun r1 =>
  (F.spec_l1Below r1.2 14).bind fun r2 =>
  bif r2.1 == 0 then
    (F.spec_l1PickInt r2.2 ([-1, 3])).bind fun r3 =>
    some ((r3.1, r1.1.2), r3.2)
  else
  bif r2.1 == 1 then
    (F.spec_l1PickInt r2.2 ([-1, 60, 61])).bind fun r4 =>
    some ((r1.1.1, r1.1.2.1, r1.1.2.2.1, r4.1, r1.1.2.2.2.2), r4.2)
  else
  bif r2.1 == 2 then
    (F.spec_l6Draw r2.2).bind fun r5 =>
    chk (fits (List.length r1.1.2.2.2.2.1 + List.length ([r5.1])) 136) <|
    some ((r1.1.1, r1.1.2.1, r1.1.2.2.1, r1.1.2.2.2.1, r1.1.2.2.2.2.1 ++ ([r5.1]), r1.1.2.2.2.2.2), r5.2)
  else
  bif r2.1 == 3 then
    (F.spec_l5Draw r2.2).bind fun r6 =>
    some ((r1.1.1, r1.1.2.1, r1.1.2.2.1, r1.1.2.2.2.1, r1.1.2.2.2.2.1, r6.1, r1.1.2.2.2.2.2.2), r6.2)
  else
  bif r2.1 == 4 then
    (F.spec_l1PickInt r2.2 ([-1, 60, 61])).bind fun r7 =>
    some ((r1.1.1, r1.1.2.1, r1.1.2.2.1, r1.1.2.2.2.1, r1.1.2.2.2.2.1, r1.1.2.2.2.2.2.1, r7.1, r1.1.2.2.2.2.2.2.2), r7.2)
  else
  bif r2.1 == 5 then
    some ((r1.1.1, r1.1.2.1, false, r1.1.2.2.2), r2.2)
  else
    some (r1.1, r2.2)
noncomputable def C.spec_l8Draw : Con := ⟨[.p y2 y2], .one y9, fun x => F.spec_l8Draw x.1⟩
def L.spec_l8Draw : Loops := fun _ => none
noncomputable def K.spec_l8Draw : Cons := lookK [(69, [], C.spec_l1PickInt), (96, [], C.spec_l1Below), (108, [], C.spec_l8Right), (109, [], C.spec_l6Draw), (110, [], C.spec_l5Draw)]
theorem run.spec_l8Draw : ∀ x, runF tb K.spec_l8Draw L.spec_l8Draw [0] Try.f78 C.spec_l8Draw x = C.spec_l8Draw.fn x := fun x => by kernel_rfl

/-! ### spec.DrawAgentSend: function 35 -/
noncomputable def F.spec_DrawAgentSend (a0 : List Int) : Option DAgent :=
  (F.spec_l1New a0).bind fun r1 =>
  (F.spec_l8Draw r1).bind fun r2 =>
  some r2.1
noncomputable def C.spec_DrawAgentSend : Con := ⟨[.r (.val (.sl false 5 (.int .u8)))], .one y9, fun x => F.spec_DrawAgentSend x.1⟩
def L.spec_DrawAgentSend : Loops := fun _ => none
noncomputable def K.spec_DrawAgentSend : Cons := lookK [(67, [], C.spec_l1New), (78, [], C.spec_l8Draw)]
theorem run.spec_DrawAgentSend : ∀ x, runF tb K.spec_DrawAgentSend L.spec_DrawAgentSend [] Try.f35 C.spec_DrawAgentSend x = C.spec_DrawAgentSend.fn x := fun x => by kernel_rfl

/-! ### impl.copyInts: function 124 -/
noncomputable def F.impl_copyInts (a0 : List Int) : Option ((List Int)) :=
  chk (fits (List.length a0) 8) <|
  some a0
noncomputable def C.impl_copyInts : Con := ⟨[.r (.val (.sl false 3 (.int .i64)))], .one (.sl true 3 (.int .i64)), fun x => F.impl_copyInts x.1⟩
def L.impl_copyInts : Loops := fun _ => none
noncomputable def K.impl_copyInts : Cons := lookK []
theorem run.impl_copyInts : ∀ x, runF tb K.impl_copyInts L.impl_copyInts [] Try.f124 C.impl_copyInts x = C.impl_copyInts.fn x := fun x => by kernel_rfl

/-! ### impl.counts: function 134 -/
noncomputable def F.impl_counts.s3 : ((List Int) × (List (List Int)) × Int × Int × Unit) → Option (Lp ((List Int) × (List (List Int)) × Int × Int × Unit) ((List Int))) := fun (x2, x3, x4, x5, _) =>
  bif decide (x5 < x4) then
    chk (inb x5 (List.length x3)) <|
    chk (fits (List.length x2 + List.length (List.getD x3 ((Int.toNat x5)) (([] : List Int)))) 8) <|
    some (.again (x2 ++ (List.getD x3 ((Int.toNat x5)) (([] : List Int))), x3, x4, w64 (x5 + 1), ()))
  else
    some (.exit (x2, x3, x4, x5, ()))
noncomputable def F.impl_counts (a0 : DSketch) : Option ((List Int)) :=
  (F.impl_copyInts a0.2.2.2.2.1).bind fun r1 =>
  chk (fits (List.length r1 + List.length a0.2.2.2.2.2.1) 8) <|
  afterO (loopO F.impl_counts.s3 (r1 ++ a0.2.2.2.2.2.1, a0.2.2.2.2.2.2.1, len a0.2.2.2.2.2.2.1, 0, ())) fun (x6, x7, x8, x9, _) =>
  some x6
noncomputable def C.impl_counts : Con := ⟨[.r (.val y7)], .one (.sl true 3 (.int .i64)), fun x => F.impl_counts x.1⟩
def L.impl_counts : Loops := lookL [(3, ⟨[.own 3 (.sl true 3 (.int .i64)), .pat 13 (.val (.sl false 27 (.sl false 3 (.int .i64)))), .pat 14 (.val (.int .i64)), .pat 15 (.val (.int .i64))], 0⟩)]
noncomputable def K.impl_counts : Cons := lookK [(124, [], C.impl_copyInts)]
theorem run.impl_counts : ∀ x, runF tb K.impl_counts L.impl_counts [] Try.f134 C.impl_counts x = C.impl_counts.fn x := fun x => by kernel_rfl

/-! ### impl.SketchOk: function 120 -/
noncomputable def F.impl_SketchOk.s5 : (Int × (List Int) × Int × Int × DSketch × Unit) → Option (Lp (Int × (List Int) × Int × Int × DSketch × Unit) Bool) := fun (x2, x3, x4, x5, x6, _) =>
  bif decide (x5 < x4) then
    chk (inb x5 (List.length x3)) <|
    (F.impl_within (List.getD x3 ((Int.toNat x5)) 0) 0 1000000000).bind fun r7 =>
    bif !r7 then
      some (.ret false)
    else
      some (.again (w64 (x2 + (List.getD x3 ((Int.toNat x5)) 0)), x3, x4, w64 (x5 + 1), x6, ()))
  else
    some (.exit (x2, x3, x4, x5, x6, ()))
noncomputable def F.impl_SketchOk.s12 : (Int × (List Int) × Int × Int × DSketch × Unit) → Option (Lp (Int × (List Int) × Int × Int × DSketch × Unit) Bool) := fun (x13, x14, x15, x16, x17, _) =>
  bif decide (x16 < x15) then
    chk (inb x16 (List.length x14)) <|
    bif decide ((List.getD x14 ((Int.toNat x16)) 0) > 17) then
      some (.ret false)
    else
      some (.again (x13, x14, x15, w64 (x16 + 1), x17, ()))
  else
    some (.exit (x13, x14, x15, x16, x17, ()))
noncomputable def F.impl_SketchOk (a0 : DSketch) : Option Bool :=
  bif (len a0.2.2.2.2.1) != 8 then
    some false
  else
  bif (len a0.2.2.2.2.2.1) != 8 then
    some false
  else
  bif (len a0.2.2.2.2.2.2.1) != 2 then
    some false
  else
  chk (inb 0 (List.length a0.2.2.2.2.2.2.1)) <|
  bif (len (List.getD a0.2.2.2.2.2.2.1 0 (([] : List Int)))) != 4 then
    some false
  else
  chk (inb 1 (List.length a0.2.2.2.2.2.2.1)) <|
  bif (len (List.getD a0.2.2.2.2.2.2.1 1 (([] : List Int)))) != 4 then
    some false
  else
  (F.impl_counts a0).bind fun r1 =>
  chk (fits (List.length r1 + List.length ([a0.1, a0.2.1, a0.2.2.1, a0.2.2.2.1])) 8) <|
  afterO (loopO F.impl_SketchOk.s5 (0, r1 ++ ([a0.1, a0.2.1, a0.2.2.1, a0.2.2.2.1]), len (r1 ++ ([a0.1, a0.2.1, a0.2.2.1, a0.2.2.2.1])), 0, a0, ())) fun (x8, x9, x10, x11, x12, _) =>
  afterO (loopO F.impl_SketchOk.s12 (x8, x12.2.2.2.2.2.1, len x12.2.2.2.2.2.1, 0, x12, ())) fun (x18, x19, x20, x21, x22, _) =>
  bif x22.1 == 0 then
    some (x18 == 0)
  else
  bif decide (x22.2.2.1 ≤ x22.2.2.2.1) then
    some (decide (x22.2.2.2.1 ≤ 1000000))
  else
    some false
noncomputable def C.impl_SketchOk : Con := ⟨[.r (.val y7)], .one .bool, fun x => F.impl_SketchOk x.1⟩
def L.impl_SketchOk : Loops := lookL [(5, ⟨[.pat 3 (.val (.int .i64)), .own 51 (.sl true 3 (.int .i64)), .pat 52 (.val (.int .i64)), .pat 53 (.val (.int .i64)), .root 1 true y7 [1]], 0⟩), (12, ⟨[.pat 3 (.val (.int .i64)), .pat 65 (.val (.sl false 3 (.int .i64))), .pat 66 (.val (.int .i64)), .pat 67 (.val (.int .i64)), .root 1 true y7 [1]], 2⟩)]
noncomputable def K.impl_SketchOk : Cons := lookK [(65, [], C.impl_within), (134, [], C.impl_counts)]
theorem run.impl_SketchOk : ∀ x, runF tb K.impl_SketchOk L.impl_SketchOk [] Try.f120 C.impl_SketchOk x = C.impl_SketchOk.fn x := fun x => by kernel_rfl

/-! ### impl.ItemOk: function 89 -/
noncomputable def F.impl_ItemOk (a0 : DItem) : Option Bool :=
  (F.impl_within a0.1 1 60).bind fun r1 =>
  bif r1 then
    (F.impl_within a0.2.1 0 1).bind fun r2 =>
    bif r2 then
      (F.impl_within a0.2.2.1 0 4).bind fun r3 =>
      bif r3 then
        (F.impl_within a0.2.2.2.1 0 20).bind fun r4 =>
        bif r4 then
          (F.impl_SketchOk a0.2.2.2.2.1).bind fun r5 =>
          some r5
        else
          some false
      else
        some false
    else
      some false
  else
    some false
noncomputable def C.impl_ItemOk : Con := ⟨[.r (.val y8)], .one .bool, fun x => F.impl_ItemOk x.1⟩
def L.impl_ItemOk : Loops := fun _ => none
noncomputable def K.impl_ItemOk : Cons := lookK [(65, [], C.impl_within), (120, [], C.impl_SketchOk)]
theorem run.impl_ItemOk : ∀ x, runF tb K.impl_ItemOk L.impl_ItemOk [] Try.f89 C.impl_ItemOk x = C.impl_ItemOk.fn x := fun x => by kernel_rfl

/-! ### impl.SetOk: function 119 -/
noncomputable def F.impl_SetOk.s2 : ((List DSpan) × (List DSpan) × Int × Int × Unit) → Option (Lp ((List DSpan) × (List DSpan) × Int × Int × Unit) Bool) := fun (x1, x2, x3, x4, _) =>
  bif decide (x4 < x3) then
    chk (inb x4 (List.length x2)) <|
    (F.impl_within ((List.getD x2 ((Int.toNat x4)) ((0, 0, ()))).1) 0 9999).bind fun r5 =>
    bif !r5 then
      some (.ret false)
    else
    (F.impl_within (((List.getD x2 ((Int.toNat x4)) ((0, 0, ()))).2).1) ((List.getD x2 ((Int.toNat x4)) ((0, 0, ()))).1) 9999).bind fun r6 =>
    bif !r6 then
      some (.ret false)
    else
    bif decide (x4 > 0) then
      chk (inb (w64 (x4 - 1)) (List.length x1)) <|
      bif decide (((List.getD x2 ((Int.toNat x4)) ((0, 0, ()))).1) ≤ (w64 ((((List.getD x1 ((Int.toNat (w64 (x4 - 1)))) ((0, 0, ()))).2).1) + 1))) then
        some (.ret false)
      else
        some (.again (x1, x2, x3, w64 (x4 + 1), ()))
    else
      some (.again (x1, x2, x3, w64 (x4 + 1), ()))
  else
    some (.exit (x1, x2, x3, x4, ()))
noncomputable def F.impl_SetOk (a0 : List DSpan) : Option Bool :=
  afterO (loopO F.impl_SetOk.s2 (a0, a0, len a0, 0, ())) fun (x7, x8, x9, x10, _) =>
  some true
noncomputable def C.impl_SetOk : Con := ⟨[.r (.val (.sl false 112 y3))], .one .bool, fun x => F.impl_SetOk x.1⟩
def L.impl_SetOk : Loops := lookL [(2, ⟨[.pat 0 (.val (.sl false 112 y3)), .pat 5 (.val (.sl false 112 y3)), .pat 6 (.val (.int .i64)), .pat 7 (.val (.int .i64))], 0⟩)]
noncomputable def K.impl_SetOk : Cons := lookK [(65, [], C.impl_within)]
theorem run.impl_SetOk : ∀ x, runF tb K.impl_SetOk L.impl_SetOk [] Try.f119 C.impl_SetOk x = C.impl_SetOk.fn x := fun x => by kernel_rfl

/-! ### impl.allIn: function 88 -/
noncomputable def F.impl_allIn (a0 : List DSpan) (a1 : Int) (a2 : Int) : Option Bool :=
  (F.impl_SetOk a0).bind fun r1 =>
  bif r1 then
    bif (len a0) == 0 then
      some true
    else
    chk (inb 0 (List.length a0)) <|
    bif decide (((List.getD a0 0 ((0, 0, ()))).1) ≥ a1) then
      chk (inb (w64 ((len a0) - 1)) (List.length a0)) <|
      some (decide ((((List.getD a0 ((Int.toNat (w64 ((len a0) - 1)))) ((0, 0, ()))).2).1) ≤ a2))
    else
      some false
  else
    some false
noncomputable def C.impl_allIn : Con := ⟨[.r (.val (.sl false 112 y3)), .r (.val (.int .i64)), .r (.val (.int .i64))], .one .bool, fun x => F.impl_allIn x.1 x.2.1 x.2.2.1⟩
def L.impl_allIn : Loops := fun _ => none
noncomputable def K.impl_allIn : Cons := lookK [(119, [], C.impl_SetOk)]
theorem run.impl_allIn : ∀ x, runF tb K.impl_allIn L.impl_allIn [] Try.f88 C.impl_allIn x = C.impl_allIn.fn x := fun x => by kernel_rfl

/-! ### impl.AgentOk: function 46 -/
noncomputable def F.impl_AgentOk.s4 : ((List DItem) × Int × Int × DAgent × Unit) → Option (Lp ((List DItem) × Int × Int × DAgent × Unit) Bool) := fun (x5, x6, x7, x8, _) =>
  bif decide (x7 < x6) then
    chk (inb x7 (List.length x5)) <|
    (F.impl_ItemOk (List.getD x5 ((Int.toNat x7)) ((0, 0, 0, 0, (0, 0, 0, 0, ([] : List Int), ([] : List Int), ([] : List (List Int)), ()), ())))).bind fun r9 =>
    bif !r9 then
      some (.ret false)
    else
    bif ((List.getD x5 ((Int.toNat x7)) ((0, 0, 0, 0, (0, 0, 0, 0, ([] : List Int), ([] : List Int), ([] : List (List Int)), ()), ()))).1) != (w64 (x7 + 1)) then
      some (.ret false)
    else
      some (.again (x5, x6, w64 (x7 + 1), x8, ()))
  else
    some (.exit (x5, x6, x7, x8, ()))
noncomputable def F.impl_AgentOk (a0 : DAgent) : Option Bool :=
  (F.impl_within a0.1 0 2).bind fun r1 =>
  bif !r1 then
    some false
  else
  (F.impl_within a0.2.1 0 1000).bind fun r2 =>
  bif !r2 then
    some false
  else
  (F.impl_within a0.2.2.2.1 0 60).bind fun r3 =>
  bif !r3 then
    some false
  else
  bif decide ((len a0.2.2.2.2.1) > 60) then
    some false
  else
  (F.impl_within a0.2.2.2.2.2.2.1 0 60).bind fun r4 =>
  bif !r4 then
    some false
  else
  afterO (loopO F.impl_AgentOk.s4 (a0.2.2.2.2.1, len a0.2.2.2.2.1, 0, a0, ())) fun (x10, x11, x12, x13, _) =>
  (F.impl_allIn x13.2.2.2.2.2.1 1 (len x13.2.2.2.2.1)).bind fun r14 =>
  bif r14 then
    bif x13.2.2.1 then
      some true
    else
      some (x13.2.2.2.1 == 0)
  else
    some false
noncomputable def C.impl_AgentOk : Con := ⟨[.r (.val y9)], .one .bool, fun x => F.impl_AgentOk x.1⟩
def L.impl_AgentOk : Loops := lookL [(4, ⟨[.pat 34 (.val (.sl false 64 y8)), .pat 35 (.val (.int .i64)), .pat 36 (.val (.int .i64)), .root 1 true y9 [1]], 0⟩)]
noncomputable def K.impl_AgentOk : Cons := lookK [(65, [], C.impl_within), (88, [], C.impl_allIn), (89, [], C.impl_ItemOk)]
theorem run.impl_AgentOk : ∀ x, runF tb K.impl_AgentOk L.impl_AgentOk [] Try.f46 C.impl_AgentOk x = C.impl_AgentOk.fn x := fun x => by kernel_rfl

/-! ### impl.SetHas$1: function 92 -/
noncomputable def F.impl_SetHas_1 (a0 : DSpan) (a1 : Int) : Option Bool :=
  (F.impl_within a1 a0.1 a0.2.1).bind fun r1 =>
  some r1
noncomputable def C.impl_SetHas_1 : Con := ⟨[.r (.val y3), .r (.sptr (.int .i64))], .one .bool, fun x => F.impl_SetHas_1 x.1 x.2.1⟩
def L.impl_SetHas_1 : Loops := fun _ => none
noncomputable def K.impl_SetHas_1 : Cons := lookK [(65, [], C.impl_within)]
theorem run.impl_SetHas_1 : ∀ x, runF tb K.impl_SetHas_1 L.impl_SetHas_1 [] Try.f92 C.impl_SetHas_1 x = C.impl_SetHas_1.fn x := fun x => by kernel_rfl

/-! ### slices.IndexFunc[[]impl.Span,impl.Span]: function 122 -/
noncomputable def F.slices_IndexFunc_Span__impl_SetHas_1.s2 : ((List DSpan) × (Int × Unit) × Int × Int × Unit) → Option (Lp ((List DSpan) × (Int × Unit) × Int × Int × Unit) Int) := fun (x1, x2, x3, x4, _) =>
  bif decide (x4 < x3) then
    chk (inb x4 (List.length x1)) <|
    (F.impl_SetHas_1 (List.getD x1 ((Int.toNat x4)) ((0, 0, ()))) x2.1).bind fun r5 =>
    bif r5 then
      some (.ret x4)
    else
      some (.again (x1, (x2.1, ()), x3, w64 (x4 + 1), ()))
  else
    some (.exit (x1, (x2.1, ()), x3, x4, ()))
noncomputable def F.slices_IndexFunc_Span__impl_SetHas_1 (a0 : List DSpan) (a1 : Int × Unit) : Option Int :=
  afterO (loopO F.slices_IndexFunc_Span__impl_SetHas_1.s2 (a0, (a1.1, ()), len a0, 0, ())) fun (x6, x7, x8, x9, _) =>
  some (-1)
noncomputable def C.slices_IndexFunc_Span__impl_SetHas_1 : Con := ⟨[.r (.val (.sl false 112 y3)), .r (.fn 92 (.cons (.sptr (.int .i64)) .nil))], .one (.int .i64), fun x => F.slices_IndexFunc_Span__impl_SetHas_1 x.1 x.2.1⟩
def L.slices_IndexFunc_Span__impl_SetHas_1 : Loops := lookL [(2, ⟨[.pat 0 (.val (.sl false 112 y3)), .pat 1 (.fn 92 (.cons (.sptr (.int .i64)) .nil)), .pat 7 (.val (.int .i64)), .pat 8 (.val (.int .i64))], 0⟩)]
noncomputable def K.slices_IndexFunc_Span__impl_SetHas_1 : Cons := lookK [(92, [], C.impl_SetHas_1)]
theorem run.slices_IndexFunc_Span__impl_SetHas_1 : ∀ x, runF tb K.slices_IndexFunc_Span__impl_SetHas_1 L.slices_IndexFunc_Span__impl_SetHas_1 [] Try.f122 C.slices_IndexFunc_Span__impl_SetHas_1 x = C.slices_IndexFunc_Span__impl_SetHas_1.fn x := fun x => by kernel_rfl

/-! ### slices.ContainsFunc[[]impl.Span,impl.Span]: function 91 -/
noncomputable def F.slices_ContainsFunc_Span__impl_SetHas_1 (a0 : List DSpan) (a1 : Int × Unit) : Option Bool :=
  (F.slices_IndexFunc_Span__impl_SetHas_1 a0 ((a1.1, ()))).bind fun r1 =>
  some (decide (r1 ≥ 0))
noncomputable def C.slices_ContainsFunc_Span__impl_SetHas_1 : Con := ⟨[.r (.val (.sl false 112 y3)), .r (.fn 92 (.cons (.sptr (.int .i64)) .nil))], .one .bool, fun x => F.slices_ContainsFunc_Span__impl_SetHas_1 x.1 x.2.1⟩
def L.slices_ContainsFunc_Span__impl_SetHas_1 : Loops := fun _ => none
noncomputable def K.slices_ContainsFunc_Span__impl_SetHas_1 : Cons := lookK [(122, [92], C.slices_IndexFunc_Span__impl_SetHas_1)]
theorem run.slices_ContainsFunc_Span__impl_SetHas_1 : ∀ x, runF tb K.slices_ContainsFunc_Span__impl_SetHas_1 L.slices_ContainsFunc_Span__impl_SetHas_1 [] Try.f91 C.slices_ContainsFunc_Span__impl_SetHas_1 x = C.slices_ContainsFunc_Span__impl_SetHas_1.fn x := fun x => by kernel_rfl

/-! ### impl.SetHas: function 45 -/
noncomputable def F.impl_SetHas (a0 : List DSpan) (a1 : Int) : Option Bool :=
  (F.slices_ContainsFunc_Span__impl_SetHas_1 a0 ((a1, ()))).bind fun r1 =>
  some r1
noncomputable def C.impl_SetHas : Con := ⟨[.r (.val (.sl false 112 y3)), .r (.val (.int .i64))], .one .bool, fun x => F.impl_SetHas x.1 x.2.1⟩
def L.impl_SetHas : Loops := fun _ => none
noncomputable def K.impl_SetHas : Cons := lookK [(91, [92], C.slices_ContainsFunc_Span__impl_SetHas_1)]
theorem run.impl_SetHas : ∀ x, runF tb K.impl_SetHas L.impl_SetHas [] Try.f45 C.impl_SetHas x = C.impl_SetHas.fn x := fun x => by kernel_rfl

/-! ### impl.Waiting: function 36 -/
noncomputable def F.impl_Waiting.s5 : ((List Int) × Int × DAgent × Unit) → Option (Lp ((List Int) × Int × DAgent × Unit) ((List Int))) := fun (x2, x3, x4, _) =>
  bif decide (x3 ≤ (mnI (len x4.2.2.2.2.1) x4.2.2.2.1)) then
    (F.impl_SetHas x4.2.2.2.2.2.1 x3).bind fun r5 =>
    bif !r5 then
      chk (fits (List.length x2 + List.length ([x3])) 8) <|
      some (.again (x2 ++ ([x3]), w64 (x3 + 1), x4, ()))
    else
      some (.again (x2, w64 (x3 + 1), x4, ()))
  else
    some (.exit (x2, x3, x4, ()))
noncomputable def F.impl_Waiting (a0 : DAgent) : Option ((List Int)) :=
  (F.impl_AgentOk a0).bind fun r1 =>
  bif !r1 then
    some ([] : List Int)
  else
  bif !a0.2.2.1 then
    some ([] : List Int)
  else
  afterO (loopO F.impl_Waiting.s5 (([] : List Int), 1, a0, ())) fun (x6, x7, x8, _) =>
  some x6
noncomputable def C.impl_Waiting : Con := ⟨[.r (.val y9)], .one (.sl true 3 (.int .i64)), fun x => F.impl_Waiting x.1⟩
def L.impl_Waiting : Loops := lookL [(5, ⟨[.own 3 (.sl true 3 (.int .i64)), .pat 4 (.val (.int .i64)), .root 1 true y9 [1]], 0⟩)]
noncomputable def K.impl_Waiting : Cons := lookK [(45, [], C.impl_SetHas), (46, [], C.impl_AgentOk)]
theorem run.impl_Waiting : ∀ x, runF tb K.impl_Waiting L.impl_Waiting [] Try.f36 C.impl_Waiting x = C.impl_Waiting.fn x := fun x => by kernel_rfl

/-! ### spec.SetHas: function 79 -/
noncomputable def F.spec_SetHas.s2 : ((List DSpan) × Int × Int × Unit) → Option (Lp ((List DSpan) × Int × Int × Unit) Bool) := fun (x1, x2, x3, _) =>
  bif decide (x3 < (len x1)) then
    chk (inb x3 (List.length x1)) <|
    chk (inb x3 (List.length x1)) <|
    (F.spec_l1In x2 ((List.getD x1 ((Int.toNat x3)) ((0, 0, ()))).1) (((List.getD x1 ((Int.toNat x3)) ((0, 0, ()))).2).1)).bind fun r4 =>
    bif r4 then
      some (.ret true)
    else
      some (.again (x1, x2, w64 (x3 + 1), ()))
  else
    some (.exit (x1, x2, x3, ()))
noncomputable def F.spec_SetHas (a0 : List DSpan) (a1 : Int) : Option Bool :=
  afterO (loopO F.spec_SetHas.s2 (a0, a1, 0, ())) fun (x5, x6, x7, _) =>
  some false
noncomputable def C.spec_SetHas : Con := ⟨[.r (.val (.sl false 112 y3)), .r (.val (.int .i64))], .one .bool, fun x => F.spec_SetHas x.1 x.2.1⟩
def L.spec_SetHas : Loops := lookL [(2, ⟨[.pat 0 (.val (.sl false 112 y3)), .pat 1 (.val (.int .i64)), .pat 5 (.val (.int .i64))], 0⟩)]
noncomputable def K.spec_SetHas : Cons := lookK [(64, [], C.spec_l1In)]
theorem run.spec_SetHas : ∀ x, runF tb K.spec_SetHas L.spec_SetHas [] Try.f79 C.spec_SetHas x = C.spec_SetHas.fn x := fun x => by kernel_rfl

/-! ### spec.Waiting: function 38 -/
noncomputable def F.spec_Waiting.s5 : ((List Int) × Int × DAgent × Unit) → Option (Lp ((List Int) × Int × DAgent × Unit) ((List Int))) := fun (x2, x3, x4, _) =>
  bif decide (x3 ≤ (len x4.2.2.2.2.1)) then
    bif decide (x3 ≤ x4.2.2.2.1) then
      (F.spec_SetHas x4.2.2.2.2.2.1 x3).bind fun r5 =>
      bif !r5 then
        chk (fits (List.length x2 + List.length ([x3])) 8) <|
        some (.again (x2 ++ ([x3]), w64 (x3 + 1), x4, ()))
      else
        some (.again (x2, w64 (x3 + 1), x4, ()))
    else
      some (.exit (x2, x3, x4, ()))
  else
    some (.exit (x2, x3, x4, ()))
noncomputable def F.spec_Waiting (a0 : DAgent) : Option ((List Int)) :=
  (F.spec_AgentOk a0).bind fun r1 =>
  bif !r1 then
    some ([] : List Int)
  else
  bif !a0.2.2.1 then
    some ([] : List Int)
  else
  afterO (loopO F.spec_Waiting.s5 (([] : List Int), 1, a0, ())) fun (x6, x7, x8, _) =>
  some x6
noncomputable def C.spec_Waiting : Con := ⟨[.r (.val y9)], .one (.sl true 3 (.int .i64)), fun x => F.spec_Waiting x.1⟩
def L.spec_Waiting : Loops := lookL [(5, ⟨[.own 3 (.sl true 3 (.int .i64)), .pat 4 (.val (.int .i64)), .root 1 true y9 [1]], 0⟩)]
noncomputable def K.spec_Waiting : Cons := lookK [(42, [], C.spec_AgentOk), (79, [], C.spec_SetHas)]
theorem run.spec_Waiting : ∀ x, runF tb K.spec_Waiting L.spec_Waiting [] Try.f38 C.spec_Waiting x = C.spec_Waiting.fn x := fun x => by kernel_rfl

/-! ### laws.sameInts: function 37 -/
noncomputable def F.laws_sameInts.s4 : ((List Int) × (List Int) × Int × Unit) → Option (Lp ((List Int) × (List Int) × Int × Unit) Bool) := fun (x1, x2, x3, _) =>
  bif decide (x3 < (len x1)) then
    chk (inb x3 (List.length x1)) <|
    chk (inb x3 (List.length x2)) <|
    bif (List.getD x1 ((Int.toNat x3)) 0) != (List.getD x2 ((Int.toNat x3)) 0) then
      some (.ret false)
    else
      some (.again (x1, x2, w64 (x3 + 1), ()))
  else
    some (.exit (x1, x2, x3, ()))
noncomputable def F.laws_sameInts (a0 : List Int) (a1 : List Int) : Option Bool :=
  bif (len a0) != (len a1) then
    some false
  else
  afterO (loopO F.laws_sameInts.s4 (a0, a1, 0, ())) fun (x4, x5, x6, _) =>
  some true
noncomputable def C.laws_sameInts : Con := ⟨[.r (.val (.sl false 3 (.int .i64))), .r (.val (.sl false 3 (.int .i64)))], .one .bool, fun x => F.laws_sameInts x.1 x.2.1⟩
def L.laws_sameInts : Loops := lookL [(4, ⟨[.pat 0 (.val (.sl false 3 (.int .i64))), .pat 1 (.val (.sl false 3 (.int .i64))), .pat 5 (.val (.int .i64))], 0⟩)]
noncomputable def K.laws_sameInts : Cons := lookK []
theorem run.laws_sameInts : ∀ x, runF tb K.laws_sameInts L.laws_sameInts [] Try.f37 C.laws_sameInts x = C.laws_sameInts.fn x := fun x => by kernel_rfl

/-! ### impl.copySet: function 111 -/
noncomputable def F.impl_copySet (a0 : List DSpan) : Option ((List DSpan)) :=
  chk (fits (List.length a0) 16) <|
  some a0
noncomputable def C.impl_copySet : Con := ⟨[.r (.val (.sl false 112 y3))], .one (.sl true 112 y3), fun x => F.impl_copySet x.1⟩
def L.impl_copySet : Loops := fun _ => none
noncomputable def K.impl_copySet : Cons := lookK []
theorem run.impl_copySet : ∀ x, runF tb K.impl_copySet L.impl_copySet [] Try.f111 C.impl_copySet x = C.impl_copySet.fn x := fun x => by kernel_rfl

/-! ### impl.copySketch: function 112 -/
noncomputable def F.impl_copySketch.s6 : ((List (List Int)) × Int × Int × DSketch × DSketch × Unit) → Option (Lp ((List (List Int)) × Int × Int × DSketch × DSketch × Unit) DSketch) := fun (x3, x4, x5, x6, x7, _) =>
  bif decide (x5 < x4) then
    chk (inb x5 (List.length x3)) <|
    (F.impl_copyInts (List.getD x3 ((Int.toNat x5)) (([] : List Int)))).bind fun r8 =>
    chk (fits (List.length x7.2.2.2.2.2.2.1 + List.length ([r8])) 24) <|
    some (.again (x3, x4, w64 (x5 + 1), x6, (x7.1, x7.2.1, x7.2.2.1, x7.2.2.2.1, x7.2.2.2.2.1, x7.2.2.2.2.2.1, x7.2.2.2.2.2.2.1 ++ ([r8]), x7.2.2.2.2.2.2.2), ()))
  else
    some (.exit (x3, x4, x5, x6, x7, ()))
noncomputable def F.impl_copySketch (a0 : DSketch) : Option DSketch :=
  (F.impl_copyInts a0.2.2.2.2.1).bind fun r1 =>
  (F.impl_copyInts a0.2.2.2.2.2.1).bind fun r2 =>
  afterO (loopO F.impl_copySketch.s6 (a0.2.2.2.2.2.2.1, len a0.2.2.2.2.2.2.1, 0, (0, 0, 0, 0, ([] : List Int), ([] : List Int), ([] : List (List Int)), ()), (a0.1, a0.2.1, a0.2.2.1, a0.2.2.2.1, r1, r2, ([] : List (List Int)), a0.2.2.2.2.2.2.2), ())) fun (x9, x10, x11, x12, x13, _) =>
  some x13
noncomputable def C.impl_copySketch : Con := ⟨[.r (.val y7)], .one y10, fun x => F.impl_copySketch x.1⟩
def L.impl_copySketch : Loops := lookL [(6, ⟨[.pat 17 (.val (.sl false 27 (.sl false 3 (.int .i64)))), .pat 18 (.val (.int .i64)), .pat 19 (.val (.int .i64)), .root 2 true y10 [2], .root 3 true y10 [3]], 0⟩)]
noncomputable def K.impl_copySketch : Cons := lookK [(124, [], C.impl_copyInts)]
theorem run.impl_copySketch : ∀ x, runF tb K.impl_copySketch L.impl_copySketch [] Try.f112 C.impl_copySketch x = C.impl_copySketch.fn x := fun x => by kernel_rfl

/-! ### impl.copyItem: function 81 -/
noncomputable def F.impl_copyItem (a0 : DItem) : Option DItem :=
  (F.impl_copySketch a0.2.2.2.2.1).bind fun r1 =>
  some (a0.1, a0.2.1, a0.2.2.1, a0.2.2.2.1, r1, a0.2.2.2.2.2)
noncomputable def C.impl_copyItem : Con := ⟨[.r (.val y8)], .one y11, fun x => F.impl_copyItem x.1⟩
def L.impl_copyItem : Loops := fun _ => none
noncomputable def K.impl_copyItem : Cons := lookK [(112, [], C.impl_copySketch)]
theorem run.impl_copyItem : ∀ x, runF tb K.impl_copyItem L.impl_copyItem [] Try.f81 C.impl_copyItem x = C.impl_copyItem.fn x := fun x => by kernel_rfl

/-! ### impl.copyAgent: function 80 -/
noncomputable def F.impl_copyAgent.s5 : ((List DItem) × Int × Int × DAgent × DAgent × Unit) → Option (Lp ((List DItem) × Int × Int × DAgent × DAgent × Unit) DAgent) := fun (x2, x3, x4, x5, x6, _) =>
  bif decide (x4 < x3) then
    chk (inb x4 (List.length x2)) <|
    (F.impl_copyItem (List.getD x2 ((Int.toNat x4)) ((0, 0, 0, 0, (0, 0, 0, 0, ([] : List Int), ([] : List Int), ([] : List (List Int)), ()), ())))).bind fun r7 =>
    chk (fits (List.length x6.2.2.2.2.1 + List.length ([r7])) 136) <|
    some (.again (x2, x3, w64 (x4 + 1), x5, (x6.1, x6.2.1, x6.2.2.1, x6.2.2.2.1, x6.2.2.2.2.1 ++ ([r7]), x6.2.2.2.2.2), ()))
  else
    some (.exit (x2, x3, x4, x5, x6, ()))
noncomputable def F.impl_copyAgent (a0 : DAgent) : Option DAgent :=
  (F.impl_copySet a0.2.2.2.2.2.1).bind fun r1 =>
  afterO (loopO F.impl_copyAgent.s5 (a0.2.2.2.2.1, len a0.2.2.2.2.1, 0, (0, 0, false, 0, ([] : List DItem), ([] : List DSpan), 0, ()), (a0.1, a0.2.1, a0.2.2.1, a0.2.2.2.1, ([] : List DItem), r1, a0.2.2.2.2.2.2), ())) fun (x8, x9, x10, x11, x12, _) =>
  some x12
noncomputable def C.impl_copyAgent : Con := ⟨[.r (.val y9)], .one y12, fun x => F.impl_copyAgent x.1⟩
def L.impl_copyAgent : Loops := lookL [(5, ⟨[.pat 13 (.val (.sl false 64 y8)), .pat 14 (.val (.int .i64)), .pat 15 (.val (.int .i64)), .root 2 true y12 [2], .root 3 true y12 [3]], 0⟩)]
noncomputable def K.impl_copyAgent : Cons := lookK [(81, [], C.impl_copyItem), (111, [], C.impl_copySet)]
theorem run.impl_copyAgent : ∀ x, runF tb K.impl_copyAgent L.impl_copyAgent [] Try.f80 C.impl_copyAgent x = C.impl_copyAgent.fn x := fun x => by kernel_rfl

/-! ### impl.AgentSend: function 39 -/
noncomputable def F.impl_AgentSend.s9 : (Int × (List Int) × Int × Int × DAgent × DAgent × DFrame × DAgent × Unit) → Option (Lp (Int × (List Int) × Int × Int × DAgent × DAgent × DFrame × DAgent × Unit) (DAgent × DFrame)) := fun (x4, x5, x6, x7, x8, x9, x10, x11, _) =>
  bif decide (x7 < x6) then
    chk (inb x7 (List.length x5)) <|
    bif decide ((List.getD x5 ((Int.toNat x7)) 0) > x8.2.2.2.2.2.2.1) then
      some (.exit (List.getD x5 ((Int.toNat x7)) 0, x5, x6, x7, x8, x9, x10, x11, ()))
    else
      some (.again (x4, x5, x6, w64 (x7 + 1), x8, x9, x10, x11, ()))
  else
    some (.exit (x4, x5, x6, x7, x8, x9, x10, x11, ()))
noncomputable def F.impl_AgentSend (a0 : DAgent) : Option (DAgent × DFrame) :=
  (F.impl_copyAgent a0).bind fun r1 =>
  (F.impl_AgentOk a0).bind fun r2 =>
  bif !r2 then
    some (r1, (0, 0, 0, 0, ([] : List DSpan), (0, 0, 0, 0, (0, 0, 0, 0, ([] : List Int), ([] : List Int), ([] : List (List Int)), ()), ()), ()))
  else
  (F.impl_Waiting a0).bind fun r3 =>
  bif (len r3) == 0 then
    some (r1, (0, a0.1, a0.2.1, 0, ([] : List DSpan), (0, 0, 0, 0, (0, 0, 0, 0, ([] : List Int), ([] : List Int), ([] : List (List Int)), ()), ()), ()))
  else
  chk (inb 0 (List.length r3)) <|
  afterO (loopO F.impl_AgentSend.s9 (List.getD r3 0 0, r3, len r3, 0, a0, (0, 0, false, 0, ([] : List DItem), ([] : List DSpan), 0, ()), (0, 0, 0, 0, ([] : List DSpan), (0, 0, 0, 0, (0, 0, 0, 0, ([] : List Int), ([] : List Int), ([] : List (List Int)), ()), ()), ()), r1, ())) fun (x12, x13, x14, x15, x16, x17, x18, x19, _) =>
  chk (inb (w64 (x12 - 1)) (List.length x16.2.2.2.2.1)) <|
  (F.impl_copyItem (List.getD x16.2.2.2.2.1 ((Int.toNat (w64 (x12 - 1)))) ((0, 0, 0, 0, (0, 0, 0, 0, ([] : List Int), ([] : List Int), ([] : List (List Int)), ()), ())))).bind fun r20 =>
  some ((x19.1, x19.2.1, x19.2.2.1, x19.2.2.2.1, x19.2.2.2.2.1, x19.2.2.2.2.2.1, x12, x19.2.2.2.2.2.2.2), (1, x16.1, x16.2.1, 0, ([] : List DSpan), r20, ()))
noncomputable def C.impl_AgentSend : Con := ⟨[.r (.val y9)], .many [y12, y13], fun x => F.impl_AgentSend x.1⟩
def L.impl_AgentSend : Loops := lookL [(9, ⟨[.pat 6 (.val (.int .i64)), .own 30 (.sl true 3 (.int .i64)), .pat 31 (.val (.int .i64)), .pat 32 (.val (.int .i64)), .root 1 true y9 [1], .root 2 true y12 [2], .root 3 true y13 [3], .root 4 true y12 [4]], 0⟩)]
noncomputable def K.impl_AgentSend : Cons := lookK [(36, [], C.impl_Waiting), (46, [], C.impl_AgentOk), (80, [], C.impl_copyAgent), (81, [], C.impl_copyItem)]
theorem run.impl_AgentSend : ∀ x, runF tb K.impl_AgentSend L.impl_AgentSend [] Try.f39 C.impl_AgentSend x = C.impl_AgentSend.fn x := fun x => by kernel_rfl

/-! ### spec.AgentSend: function 40 -/
noncomputable def F.spec_AgentSend.s9 : ((List Int) × Int × Int × DAgent × DAgent × DFrame × DAgent × Unit) → Option (Lp ((List Int) × Int × Int × DAgent × DAgent × DFrame × DAgent × Unit) (DAgent × DFrame)) := fun (x4, x5, x6, x7, x8, x9, x10, _) =>
  bif decide (x6 ≥ 0) then
    chk (inb x6 (List.length x4)) <|
    bif decide ((List.getD x4 ((Int.toNat x6)) 0) > x7.2.2.2.2.2.2.1) then
      chk (inb x6 (List.length x4)) <|
      some (.again (x4, List.getD x4 ((Int.toNat x6)) 0, w64 (x6 - 1), x7, x8, x9, x10, ()))
    else
      some (.again (x4, x5, w64 (x6 - 1), x7, x8, x9, x10, ()))
  else
    some (.exit (x4, x5, x6, x7, x8, x9, x10, ()))
noncomputable def F.spec_AgentSend (a0 : DAgent) : Option (DAgent × DFrame) :=
  (F.spec_l8Copy a0).bind fun r1 =>
  (F.spec_AgentOk a0).bind fun r2 =>
  bif !r2 then
    some (r1, (0, 0, 0, 0, ([] : List DSpan), (0, 0, 0, 0, (0, 0, 0, 0, ([] : List Int), ([] : List Int), ([] : List (List Int)), ()), ()), ()))
  else
  (F.spec_Waiting a0).bind fun r3 =>
  bif (len r3) == 0 then
    some (r1, (0, a0.1, a0.2.1, 0, ([] : List DSpan), (0, 0, 0, 0, (0, 0, 0, 0, ([] : List Int), ([] : List Int), ([] : List (List Int)), ()), ()), ()))
  else
  chk (inb 0 (List.length r3)) <|
  afterO (loopO F.spec_AgentSend.s9 (r3, List.getD r3 0 0, w64 ((len r3) - 1), a0, (0, 0, false, 0, ([] : List DItem), ([] : List DSpan), 0, ()), (0, 0, 0, 0, ([] : List DSpan), (0, 0, 0, 0, (0, 0, 0, 0, ([] : List Int), ([] : List Int), ([] : List (List Int)), ()), ()), ()), r1, ())) fun (x11, x12, x13, x14, x15, x16, x17, _) =>
  chk (inb (w64 (x12 - 1)) (List.length x14.2.2.2.2.1)) <|
  (F.spec_l6Item (List.getD x14.2.2.2.2.1 ((Int.toNat (w64 (x12 - 1)))) ((0, 0, 0, 0, (0, 0, 0, 0, ([] : List Int), ([] : List Int), ([] : List (List Int)), ()), ())))).bind fun r18 =>
  some ((x17.1, x17.2.1, x17.2.2.1, x17.2.2.2.1, x17.2.2.2.2.1, x17.2.2.2.2.2.1, x12, x17.2.2.2.2.2.2.2), (1, x14.1, x14.2.1, 0, ([] : List DSpan), r18, ()))
noncomputable def C.spec_AgentSend : Con := ⟨[.r (.val y9)], .many [y12, y13], fun x => F.spec_AgentSend x.1⟩
def L.spec_AgentSend : Loops := lookL [(9, ⟨[.own 5 (.sl true 3 (.int .i64)), .pat 6 (.val (.int .i64)), .pat 7 (.val (.int .i64)), .root 1 true y9 [1], .root 2 true y12 [2], .root 3 true y13 [3], .root 4 true y12 [4]], 0⟩)]
noncomputable def K.spec_AgentSend : Cons := lookK [(38, [], C.spec_Waiting), (42, [], C.spec_AgentOk), (82, [], C.spec_l8Copy), (83, [], C.spec_l6Item)]
theorem run.spec_AgentSend : ∀ x, runF tb K.spec_AgentSend L.spec_AgentSend [] Try.f40 C.spec_AgentSend x = C.spec_AgentSend.fn x := fun x => by kernel_rfl

/-! ### spec.l5Same: function 84 -/
noncomputable def F.spec_l5Same.s4 : ((List DSpan) × (List DSpan) × Int × Unit) → Option (Lp ((List DSpan) × (List DSpan) × Int × Unit) Bool) := fun (x1, x2, x3, _) =>
  bif decide (x3 < (len x1)) then
    chk (inb x3 (List.length x1)) <|
    chk (inb x3 (List.length x2)) <|
    bif !(Ty.eqX (.cons (.int .i64) (.cons (.int .i64) .nil)) (List.getD x1 ((Int.toNat x3)) ((0, 0, ()))) (List.getD x2 ((Int.toNat x3)) ((0, 0, ())))) then
      some (.ret false)
    else
      some (.again (x1, x2, w64 (x3 + 1), ()))
  else
    some (.exit (x1, x2, x3, ()))
noncomputable def F.spec_l5Same (a0 : List DSpan) (a1 : List DSpan) : Option Bool :=
  bif (len a0) != (len a1) then
    some false
  else
  afterO (loopO F.spec_l5Same.s4 (a0, a1, 0, ())) fun (x4, x5, x6, _) =>
  some true
noncomputable def C.spec_l5Same : Con := ⟨[.r (.val (.sl false 112 y3)), .r (.val (.sl false 112 y3))], .one .bool, fun x => F.spec_l5Same x.1 x.2.1⟩
def L.spec_l5Same : Loops := lookL [(4, ⟨[.pat 0 (.val (.sl false 112 y3)), .pat 1 (.val (.sl false 112 y3)), .pat 5 (.val (.int .i64))], 0⟩)]
noncomputable def K.spec_l5Same : Cons := lookK []
theorem run.spec_l5Same : ∀ x, runF tb K.spec_l5Same L.spec_l5Same [] Try.f84 C.spec_l5Same x = C.spec_l5Same.fn x := fun x => by kernel_rfl

/-! ### spec.l1Same: function 132 -/
noncomputable def F.spec_l1Same.s4 : ((List Int) × (List Int) × Int × Unit) → Option (Lp ((List Int) × (List Int) × Int × Unit) Bool) := fun (x1, x2, x3, _) =>
  bif decide (x3 < (len x1)) then
    chk (inb x3 (List.length x1)) <|
    chk (inb x3 (List.length x2)) <|
    bif (List.getD x1 ((Int.toNat x3)) 0) != (List.getD x2 ((Int.toNat x3)) 0) then
      some (.ret false)
    else
      some (.again (x1, x2, w64 (x3 + 1), ()))
  else
    some (.exit (x1, x2, x3, ()))
noncomputable def F.spec_l1Same (a0 : List Int) (a1 : List Int) : Option Bool :=
  bif (len a0) != (len a1) then
    some false
  else
  afterO (loopO F.spec_l1Same.s4 (a0, a1, 0, ())) fun (x4, x5, x6, _) =>
  some true
noncomputable def C.spec_l1Same : Con := ⟨[.r (.val (.sl false 3 (.int .i64))), .r (.val (.sl false 3 (.int .i64)))], .one .bool, fun x => F.spec_l1Same x.1 x.2.1⟩
def L.spec_l1Same : Loops := lookL [(4, ⟨[.pat 0 (.val (.sl false 3 (.int .i64))), .pat 1 (.val (.sl false 3 (.int .i64))), .pat 5 (.val (.int .i64))], 0⟩)]
noncomputable def K.spec_l1Same : Cons := lookK []
theorem run.spec_l1Same : ∀ x, runF tb K.spec_l1Same L.spec_l1Same [] Try.f132 C.spec_l1Same x = C.spec_l1Same.fn x := fun x => by kernel_rfl

/-! ### spec.SketchSame: function 115 -/
noncomputable def F.spec_SketchSame.s4 : (Int × DSketch × DSketch × Unit) → Option (Lp (Int × DSketch × DSketch × Unit) Bool) := fun (x3, x4, x5, _) =>
  bif decide (x3 < (len x4.2.2.2.2.2.2.1)) then
    chk (inb x3 (List.length x4.2.2.2.2.2.2.1)) <|
    chk (inb x3 (List.length x5.2.2.2.2.2.2.1)) <|
    (F.spec_l1Same (List.getD x4.2.2.2.2.2.2.1 ((Int.toNat x3)) (([] : List Int))) (List.getD x5.2.2.2.2.2.2.1 ((Int.toNat x3)) (([] : List Int)))).bind fun r6 =>
    bif !r6 then
      some (.ret false)
    else
      some (.again (w64 (x3 + 1), x4, x5, ()))
  else
    some (.exit (x3, x4, x5, ()))
noncomputable def F.spec_SketchSame (a0 : DSketch) (a1 : DSketch) : Option Bool :=
  bif a0.1 != a1.1 then
    some false
  else
  bif a0.2.1 != a1.2.1 then
    some false
  else
  bif a0.2.2.1 != a1.2.2.1 then
    some false
  else
  bif a0.2.2.2.1 != a1.2.2.2.1 then
    some false
  else
  (F.spec_l1Same a0.2.2.2.2.1 a1.2.2.2.2.1).bind fun r1 =>
  bif !r1 then
    some false
  else
  (F.spec_l1Same a0.2.2.2.2.2.1 a1.2.2.2.2.2.1).bind fun r2 =>
  bif !r2 then
    some false
  else
  bif (len a0.2.2.2.2.2.2.1) != (len a1.2.2.2.2.2.2.1) then
    some false
  else
  afterO (loopO F.spec_SketchSame.s4 (0, a0, a1, ())) fun (x7, x8, x9, _) =>
  some true
noncomputable def C.spec_SketchSame : Con := ⟨[.r (.val y7), .r (.val y7)], .one .bool, fun x => F.spec_SketchSame x.1 x.2.1⟩
def L.spec_SketchSame : Loops := lookL [(4, ⟨[.pat 5 (.val (.int .i64)), .root 2 true y7 [2], .root 3 true y7 [3]], 0⟩)]
noncomputable def K.spec_SketchSame : Cons := lookK [(132, [], C.spec_l1Same)]
theorem run.spec_SketchSame : ∀ x, runF tb K.spec_SketchSame L.spec_SketchSame [] Try.f115 C.spec_SketchSame x = C.spec_SketchSame.fn x := fun x => by kernel_rfl

/-! ### spec.l7Item: function 85 -/
noncomputable def F.spec_l7Item (a0 : DItem) (a1 : DItem) : Option Bool :=
  bif a0.1 == a1.1 then
    bif a0.2.1 == a1.2.1 then
      bif a0.2.2.1 == a1.2.2.1 then
        bif a0.2.2.2.1 == a1.2.2.2.1 then
          (F.spec_SketchSame a0.2.2.2.2.1 a1.2.2.2.2.1).bind fun r1 =>
          some r1
        else
          some false
      else
        some false
    else
      some false
  else
    some false
noncomputable def C.spec_l7Item : Con := ⟨[.r (.val y8), .r (.val y8)], .one .bool, fun x => F.spec_l7Item x.1 x.2.1⟩
def L.spec_l7Item : Loops := fun _ => none
noncomputable def K.spec_l7Item : Cons := lookK [(115, [], C.spec_SketchSame)]
theorem run.spec_l7Item : ∀ x, runF tb K.spec_l7Item L.spec_l7Item [] Try.f85 C.spec_l7Item x = C.spec_l7Item.fn x := fun x => by kernel_rfl

/-! ### spec.FrameSame: function 41 -/
noncomputable def F.spec_FrameSame (a0 : DFrame) (a1 : DFrame) : Option Bool :=
  bif a0.1 == a1.1 then
    bif a0.2.1 == a1.2.1 then
      bif a0.2.2.1 == a1.2.2.1 then
        bif a0.2.2.2.1 == a1.2.2.2.1 then
          (F.spec_l5Same a0.2.2.2.2.1 a1.2.2.2.2.1).bind fun r1 =>
          bif r1 then
            (F.spec_l7Item a0.2.2.2.2.2.1 a1.2.2.2.2.2.1).bind fun r2 =>
            some r2
          else
            some false
        else
          some false
      else
        some false
    else
      some false
  else
    some false
noncomputable def C.spec_FrameSame : Con := ⟨[.r (.val y14), .r (.val y14)], .one .bool, fun x => F.spec_FrameSame x.1 x.2.1⟩
def L.spec_FrameSame : Loops := fun _ => none
noncomputable def K.spec_FrameSame : Cons := lookK [(84, [], C.spec_l5Same), (85, [], C.spec_l7Item)]
theorem run.spec_FrameSame : ∀ x, runF tb K.spec_FrameSame L.spec_FrameSame [] Try.f41 C.spec_FrameSame x = C.spec_FrameSame.fn x := fun x => by kernel_rfl

/-! ### slices.Equal[[]int,int]: function 135 -/
noncomputable def F.slices_Equal_int.s4 : ((List Int) × (List Int) × Int × Int × Unit) → Option (Lp ((List Int) × (List Int) × Int × Int × Unit) Bool) := fun (x1, x2, x3, x4, _) =>
  bif decide (x4 < x3) then
    chk (inb x4 (List.length x1)) <|
    chk (inb x4 (List.length x2)) <|
    bif (List.getD x1 ((Int.toNat x4)) 0) != (List.getD x2 ((Int.toNat x4)) 0) then
      some (.ret false)
    else
      some (.again (x1, x2, x3, w64 (x4 + 1), ()))
  else
    some (.exit (x1, x2, x3, x4, ()))
noncomputable def F.slices_Equal_int (a0 : List Int) (a1 : List Int) : Option Bool :=
  bif (len a0) != (len a1) then
    some false
  else
  afterO (loopO F.slices_Equal_int.s4 (a0, a1, len a0, 0, ())) fun (x5, x6, x7, x8, _) =>
  some true
noncomputable def C.slices_Equal_int : Con := ⟨[.r (.val (.sl false 3 (.int .i64))), .r (.val (.sl false 3 (.int .i64)))], .one .bool, fun x => F.slices_Equal_int x.1 x.2.1⟩
def L.slices_Equal_int : Loops := lookL [(4, ⟨[.pat 0 (.val (.sl false 3 (.int .i64))), .pat 1 (.val (.sl false 3 (.int .i64))), .pat 12 (.val (.int .i64)), .pat 13 (.val (.int .i64))], 0⟩)]
noncomputable def K.slices_Equal_int : Cons := lookK []
theorem run.slices_Equal_int : ∀ x, runF tb K.slices_Equal_int L.slices_Equal_int [] Try.f135 C.slices_Equal_int x = C.slices_Equal_int.fn x := fun x => by kernel_rfl

/-! ### slices.EqualFunc[[][]int,[][]int,[]int,[]int]: function 136 -/
noncomputable def F.slices_EqualFunc_SSint__slices_Equal_int.s4 : ((List (List Int)) × Unit × (List (List Int)) × Int × Int × Unit) → Option (Lp ((List (List Int)) × Unit × (List (List Int)) × Int × Int × Unit) Bool) := fun (x1, x2, x3, x4, x5, _) =>
  bif decide (x5 < x4) then
    chk (inb x5 (List.length x3)) <|
    chk (inb x5 (List.length x1)) <|
    (F.slices_Equal_int (List.getD x3 ((Int.toNat x5)) (([] : List Int))) (List.getD x1 ((Int.toNat x5)) (([] : List Int)))).bind fun r6 =>
    bif !r6 then
      some (.ret false)
    else
      some (.again (x1, (), x3, x4, w64 (x5 + 1), ()))
  else
    some (.exit (x1, (), x3, x4, x5, ()))
noncomputable def F.slices_EqualFunc_SSint__slices_Equal_int (a0 : List (List Int)) (a1 : List (List Int)) (a2 : Unit) : Option Bool :=
  bif (len a0) != (len a1) then
    some false
  else
  afterO (loopO F.slices_EqualFunc_SSint__slices_Equal_int.s4 (a1, (), a0, len a0, 0, ())) fun (x7, x8, x9, x10, x11, _) =>
  some true
noncomputable def C.slices_EqualFunc_SSint__slices_Equal_int : Con := ⟨[.r (.val (.sl false 27 (.sl false 3 (.int .i64)))), .r (.val (.sl false 27 (.sl false 3 (.int .i64)))), .r (.fn 135 .nil)], .one .bool, fun x => F.slices_EqualFunc_SSint__slices_Equal_int x.1 x.2.1 x.2.2.1⟩
def L.slices_EqualFunc_SSint__slices_Equal_int : Loops := lookL [(4, ⟨[.pat 1 (.val (.sl false 27 (.sl false 3 (.int .i64)))), .pat 2 (.fn 135 .nil), .pat 15 (.val (.sl false 27 (.sl false 3 (.int .i64)))), .pat 16 (.val (.int .i64)), .pat 17 (.val (.int .i64))], 0⟩)]
noncomputable def K.slices_EqualFunc_SSint__slices_Equal_int : Cons := lookK [(135, [], C.slices_Equal_int)]
theorem run.slices_EqualFunc_SSint__slices_Equal_int : ∀ x, runF tb K.slices_EqualFunc_SSint__slices_Equal_int L.slices_EqualFunc_SSint__slices_Equal_int [] Try.f136 C.slices_EqualFunc_SSint__slices_Equal_int x = C.slices_EqualFunc_SSint__slices_Equal_int.fn x := fun x => by kernel_rfl

/-! ### impl.SketchSame: function 121 -/
noncomputable def F.impl_SketchSame (a0 : DSketch) (a1 : DSketch) : Option Bool :=
  bif a0.1 == a1.1 then
    bif a0.2.1 == a1.2.1 then
      bif a0.2.2.1 == a1.2.2.1 then
        bif a0.2.2.2.1 == a1.2.2.2.1 then
          (F.slices_Equal_int a0.2.2.2.2.1 a1.2.2.2.2.1).bind fun r1 =>
          bif r1 then
            (F.slices_Equal_int a0.2.2.2.2.2.1 a1.2.2.2.2.2.1).bind fun r2 =>
            bif r2 then
              (F.slices_EqualFunc_SSint__slices_Equal_int a0.2.2.2.2.2.2.1 a1.2.2.2.2.2.2.1 (())).bind fun r3 =>
              some r3
            else
              some false
          else
            some false
        else
          some false
      else
        some false
    else
      some false
  else
    some false
noncomputable def C.impl_SketchSame : Con := ⟨[.r (.val y7), .r (.val y7)], .one .bool, fun x => F.impl_SketchSame x.1 x.2.1⟩
def L.impl_SketchSame : Loops := fun _ => none
noncomputable def K.impl_SketchSame : Cons := lookK [(135, [], C.slices_Equal_int), (136, [135], C.slices_EqualFunc_SSint__slices_Equal_int)]
theorem run.impl_SketchSame : ∀ x, runF tb K.impl_SketchSame L.impl_SketchSame [] Try.f121 C.impl_SketchSame x = C.impl_SketchSame.fn x := fun x => by kernel_rfl

/-! ### impl.itemSame: function 90 -/
noncomputable def F.impl_itemSame (a0 : DItem) (a1 : DItem) : Option Bool :=
  bif a0.1 == a1.1 then
    bif a0.2.1 == a1.2.1 then
      bif a0.2.2.1 == a1.2.2.1 then
        bif a0.2.2.2.1 == a1.2.2.2.1 then
          (F.impl_SketchSame a0.2.2.2.2.1 a1.2.2.2.2.1).bind fun r1 =>
          some r1
        else
          some false
      else
        some false
    else
      some false
  else
    some false
noncomputable def C.impl_itemSame : Con := ⟨[.r (.val y8), .r (.val y8)], .one .bool, fun x => F.impl_itemSame x.1 x.2.1⟩
def L.impl_itemSame : Loops := fun _ => none
noncomputable def K.impl_itemSame : Cons := lookK [(121, [], C.impl_SketchSame)]
theorem run.impl_itemSame : ∀ x, runF tb K.impl_itemSame L.impl_itemSame [] Try.f90 C.impl_itemSame x = C.impl_itemSame.fn x := fun x => by kernel_rfl

/-! ### impl.FrameOk: function 43 -/
noncomputable def F.impl_FrameOk (a0 : DFrame) : Option Bool :=
  (F.impl_within a0.1 0 3).bind fun r1 =>
  bif !r1 then
    some false
  else
  (F.impl_within a0.2.1 0 2).bind fun r2 =>
  bif !r2 then
    some false
  else
  (F.impl_within a0.2.2.1 0 1000).bind fun r3 =>
  bif !r3 then
    some false
  else
  (F.impl_within a0.2.2.2.1 0 60).bind fun r4 =>
  bif !r4 then
    some false
  else
  (F.impl_allIn a0.2.2.2.2.1 1 60).bind fun r5 =>
  bif !r5 then
    some false
  else
  bif a0.1 == 1 then
    (F.impl_ItemOk a0.2.2.2.2.2.1).bind fun r6 =>
    some r6
  else
  (F.impl_itemSame a0.2.2.2.2.2.1 ((0, 0, 0, 0, (0, 0, 0, 0, ([] : List Int), ([] : List Int), ([] : List (List Int)), ()), ()))).bind fun r7 =>
  some r7
noncomputable def C.impl_FrameOk : Con := ⟨[.r (.val y14)], .one .bool, fun x => F.impl_FrameOk x.1⟩
def L.impl_FrameOk : Loops := fun _ => none
noncomputable def K.impl_FrameOk : Cons := lookK [(65, [], C.impl_within), (88, [], C.impl_allIn), (89, [], C.impl_ItemOk), (90, [], C.impl_itemSame)]
theorem run.impl_FrameOk : ∀ x, runF tb K.impl_FrameOk L.impl_FrameOk [] Try.f43 C.impl_FrameOk x = C.impl_FrameOk.fn x := fun x => by kernel_rfl

/-! ### laws.times: function 44 -/
noncomputable def F.laws_times.s3 : ((List Int) × Int × Int × Int × Unit) → Option (Lp ((List Int) × Int × Int × Int × Unit) Int) := fun (x1, x2, x3, x4, _) =>
  bif decide (x4 < (len x1)) then
    chk (inb x4 (List.length x1)) <|
    bif (List.getD x1 ((Int.toNat x4)) 0) == x2 then
      some (.again (x1, x2, w64 (x3 + 1), w64 (x4 + 1), ()))
    else
      some (.again (x1, x2, x3, w64 (x4 + 1), ()))
  else
    some (.exit (x1, x2, x3, x4, ()))
noncomputable def F.laws_times (a0 : List Int) (a1 : Int) : Option Int :=
  afterO (loopO F.laws_times.s3 (a0, a1, 0, 0, ())) fun (x5, x6, x7, x8, _) =>
  some x7
noncomputable def C.laws_times : Con := ⟨[.r (.val (.sl false 3 (.int .i64))), .r (.val (.int .i64))], .one (.int .i64), fun x => F.laws_times x.1 x.2.1⟩
def L.laws_times : Loops := lookL [(3, ⟨[.pat 0 (.val (.sl false 3 (.int .i64))), .pat 1 (.val (.int .i64)), .pat 5 (.val (.int .i64)), .pat 6 (.val (.int .i64))], 0⟩)]
noncomputable def K.laws_times : Cons := lookK []
theorem run.laws_times : ∀ x, runF tb K.laws_times L.laws_times [] Try.f44 C.laws_times x = C.laws_times.fn x := fun x => by kernel_rfl

/-! ### laws.FnSent: function 9 -/
noncomputable def F.laws_FnSent.s17 : ((List Int) × (List Int) × Int × DAgent × DAgent × DFrame × Unit) → Option (Lp ((List Int) × (List Int) × Int × DAgent × DAgent × DFrame × Unit) Bool) := fun (x11, x12, x13, x14, x15, x16, _) =>
  bif decide (x13 < (len x11)) then
    (F.impl_AgentSend x15).bind fun r17 =>
    chk (fits (List.length x12 + List.length ([r17.2.2.2.2.2.2.1.1])) 8) <|
    bif r17.2.1 != 1 then
      some (.ret false)
    else
      some (.again (x11, x12 ++ ([r17.2.2.2.2.2.2.1.1]), w64 (x13 + 1), x14, r17.1, x16, ()))
  else
    some (.exit (x11, x12, x13, x14, x15, x16, ()))
noncomputable def F.laws_FnSent.s25 : ((List Int) × (List Int) × Int × DAgent × DAgent × DFrame × Unit) → Option (Lp ((List Int) × (List Int) × Int × DAgent × DAgent × DFrame × Unit) Bool) := fun (x24, x25, x26, x27, x28, x29, _) =>
  bif decide (x26 < (len x24)) then
    chk (inb x26 (List.length x24)) <|
    (F.laws_times x25 (List.getD x24 ((Int.toNat x26)) 0)).bind fun r30 =>
    bif r30 != 1 then
      some (.ret false)
    else
    chk (inb x26 (List.length x24)) <|
    bif decide ((List.getD x24 ((Int.toNat x26)) 0) > x27.2.2.2.1) then
      some (.ret false)
    else
    chk (inb x26 (List.length x24)) <|
    (F.impl_SetHas x27.2.2.2.2.2.1 (List.getD x24 ((Int.toNat x26)) 0)).bind fun r31 =>
    bif r31 then
      some (.ret false)
    else
      some (.again (x24, x25, w64 (x26 + 1), x27, x28, x29, ()))
  else
    some (.exit (x24, x25, x26, x27, x28, x29, ()))
noncomputable def F.laws_FnSent (a0 : List Int) : Option Bool :=
  (F.laws_big a0).bind fun r1 =>
  bif r1 then
    some true
  else
  (F.spec_DrawAgentSend a0).bind fun r2 =>
  (F.impl_Waiting r2).bind fun r3 =>
  (F.spec_Waiting r2).bind fun r4 =>
  (F.laws_sameInts r3 r4).bind fun r5 =>
  bif !r5 then
    some false
  else
  (F.impl_AgentSend r2).bind fun r6 =>
  (F.spec_AgentSend r2).bind fun r7 =>
  (F.spec_FrameSame r6.2 r7.2).bind fun r8 =>
  bif !r8 then
    some false
  else
  (F.spec_AgentOk r2).bind fun r9 =>
  bif !r9 then
    bif (len r3) == 0 then
      some (r6.2.2.1 == 0)
    else
      some false
  else
  bif (len r3) == 0 then
    bif r6.2.1 == 0 then
      bif r6.2.2.1 == r2.1 then
        bif r6.2.2.2.1 == r2.2.1 then
          (F.impl_FrameOk r6.2).bind fun r10 =>
          some r10
        else
          some false
      else
        some false
    else
      some false
  else
  afterO (loopO F.laws_FnSent.s17 (r3, [r6.2.2.2.2.2.2.1.1], 1, r2, r6.1, r6.2, ())) fun (x18, x19, x20, x21, x22, x23, _) =>
  afterO (loopO F.laws_FnSent.s25 (x18, x19, 0, x21, x22, x23, ())) fun (x32, x33, x34, x35, x36, x37, _) =>
  bif x37.1 == 1 then
    (F.impl_FrameOk x37).bind fun r38 =>
    bif r38 then
      (F.impl_AgentOk x36).bind fun r39 =>
      some r39
    else
      some false
  else
    some false
noncomputable def C.laws_FnSent : Con := ⟨[.r (.val (.sl false 5 (.int .u8)))], .one .bool, fun x => F.laws_FnSent x.1⟩
def L.laws_FnSent : Loops := lookL [(17, ⟨[.own 4 (.sl true 3 (.int .i64)), .own 9 (.sl true 3 (.int .i64)), .pat 10 (.val (.int .i64)), .root 3 true y9 [3], .root 5 true y12 [5], .root 6 true y13 [6]], 0⟩), (25, ⟨[.own 4 (.sl true 3 (.int .i64)), .own 9 (.sl true 3 (.int .i64)), .pat 13 (.val (.int .i64)), .root 3 true y9 [3], .root 5 true y12 [5], .root 6 true y13 [6]], 2⟩)]
noncomputable def K.laws_FnSent : Cons := lookK [(24, [], C.laws_big), (35, [], C.spec_DrawAgentSend), (36, [], C.impl_Waiting), (37, [], C.laws_sameInts), (38, [], C.spec_Waiting), (39, [], C.impl_AgentSend), (40, [], C.spec_AgentSend), (41, [], C.spec_FrameSame), (42, [], C.spec_AgentOk), (43, [], C.impl_FrameOk), (44, [], C.laws_times), (45, [], C.impl_SetHas), (46, [], C.impl_AgentOk)]
theorem run.laws_FnSent : ∀ x, runF tb K.laws_FnSent L.laws_FnSent [] Try.f9 C.laws_FnSent x = C.laws_FnSent.fn x := fun x => by kernel_rfl

/-! ### laws.szConf: function 47 -/
noncomputable def F.laws_szConf (a0 : DConf) (a1 : Int) : Option Int :=
  (F.laws_szIntS a0.2.2.2.1 a1).bind fun r1 =>
  bif decide (r1 < 0) then
    some (-1)
  else
    some r1
noncomputable def C.laws_szConf : Con := ⟨[.r (.val y15), .r (.val (.int .i64))], .one (.int .i64), fun x => F.laws_szConf x.1 x.2.1⟩
def L.laws_szConf : Loops := fun _ => none
noncomputable def K.laws_szConf : Cons := lookK [(70, [], C.laws_szIntS)]
theorem run.laws_szConf : ∀ x, runF tb K.laws_szConf L.laws_szConf [] Try.f47 C.laws_szConf x = C.laws_szConf.fn x := fun x => by kernel_rfl

/-! ### laws.toConf: function 49 -/
noncomputable def F.laws_toConf (a0 : DConf) : Option DConf :=
  (F.laws_toIntS a0.2.2.2.1).bind fun r1 =>
  some (a0.1, a0.2.1, a0.2.2.1, r1, a0.2.2.2.2.1, a0.2.2.2.2.2.1, a0.2.2.2.2.2.2.1, a0.2.2.2.2.2.2.2.1, ())
noncomputable def C.laws_toConf : Con := ⟨[.r (.val y15)], .one y16, fun x => F.laws_toConf x.1⟩
def L.laws_toConf : Loops := fun _ => none
noncomputable def K.laws_toConf : Cons := lookK [(57, [], C.laws_toIntS)]
theorem run.laws_toConf : ∀ x, runF tb K.laws_toConf L.laws_toConf [] Try.f49 C.laws_toConf x = C.laws_toConf.fn x := fun x => by kernel_rfl

/-! ### spec.ConfOk: function 48 -/
noncomputable def F.spec_ConfOk (a0 : DConf) : Option Bool :=
  (F.spec_l1In a0.1 1 8).bind fun r1 =>
  bif r1 then
    (F.spec_l1In a0.2.1 1 60).bind fun r2 =>
    bif r2 then
      (F.spec_l1In a0.2.2.1 1 10).bind fun r3 =>
      bif r3 then
        (F.spec_l11Nums a0.2.2.2.1 1 4).bind fun r4 =>
        bif r4 then
          (F.spec_l1In a0.2.2.2.2.1 1 100).bind fun r5 =>
          bif r5 then
            (F.spec_l1In a0.2.2.2.2.2.1 1 20).bind fun r6 =>
            bif r6 then
              (F.spec_l1In a0.2.2.2.2.2.2.1 0 20).bind fun r7 =>
              bif r7 then
                (F.spec_l1In a0.2.2.2.2.2.2.2.1 1 50).bind fun r8 =>
                some r8
              else
                some false
            else
              some false
          else
            some false
        else
          some false
      else
        some false
    else
      some false
  else
    some false
noncomputable def C.spec_ConfOk : Con := ⟨[.r (.val y15)], .one .bool, fun x => F.spec_ConfOk x.1⟩
def L.spec_ConfOk : Loops := fun _ => none
noncomputable def K.spec_ConfOk : Cons := lookK [(64, [], C.spec_l1In), (72, [], C.spec_l11Nums)]
theorem run.spec_ConfOk : ∀ x, runF tb K.spec_ConfOk L.spec_ConfOk [] Try.f48 C.spec_ConfOk x = C.spec_ConfOk.fn x := fun x => by kernel_rfl

/-! ### impl.ConfOk: function 50 -/
noncomputable def F.impl_ConfOk (a0 : DConf) : Option Bool :=
  (F.impl_within a0.1 1 8).bind fun r1 =>
  bif r1 then
    (F.impl_within a0.2.1 1 60).bind fun r2 =>
    bif r2 then
      (F.impl_within a0.2.2.1 1 10).bind fun r3 =>
      bif r3 then
        (F.impl_allWithin a0.2.2.2.1 3 1 4).bind fun r4 =>
        bif r4 then
          (F.impl_within a0.2.2.2.2.1 1 100).bind fun r5 =>
          bif r5 then
            (F.impl_within a0.2.2.2.2.2.1 1 20).bind fun r6 =>
            bif r6 then
              (F.impl_within a0.2.2.2.2.2.2.1 0 20).bind fun r7 =>
              bif r7 then
                (F.impl_within a0.2.2.2.2.2.2.2.1 1 50).bind fun r8 =>
                some r8
              else
                some false
            else
              some false
          else
            some false
        else
          some false
      else
        some false
    else
      some false
  else
    some false
noncomputable def C.impl_ConfOk : Con := ⟨[.r (.val y15)], .one .bool, fun x => F.impl_ConfOk x.1⟩
def L.impl_ConfOk : Loops := fun _ => none
noncomputable def K.impl_ConfOk : Cons := lookK [(65, [], C.impl_within), (73, [], C.impl_allWithin)]
theorem run.impl_ConfOk : ∀ x, runF tb K.impl_ConfOk L.impl_ConfOk [] Try.f50 C.impl_ConfOk x = C.impl_ConfOk.fn x := fun x => by kernel_rfl

/-! ### laws.eqConf: function 51 -/
noncomputable def F.laws_eqConf (a0 : DConf) (a1 : DConf) : Option Bool :=
  bif a0.1 != a1.1 then
    some false
  else
  bif a0.2.1 != a1.2.1 then
    some false
  else
  bif a0.2.2.1 != a1.2.2.1 then
    some false
  else
  (F.laws_eqIntS a0.2.2.2.1 a1.2.2.2.1).bind fun r1 =>
  bif !r1 then
    some false
  else
  bif a0.2.2.2.2.1 != a1.2.2.2.2.1 then
    some false
  else
  bif a0.2.2.2.2.2.1 != a1.2.2.2.2.2.1 then
    some false
  else
  bif a0.2.2.2.2.2.2.1 != a1.2.2.2.2.2.2.1 then
    some false
  else
  bif a0.2.2.2.2.2.2.2.1 != a1.2.2.2.2.2.2.2.1 then
    some false
  else
    some true
noncomputable def C.laws_eqConf : Con := ⟨[.r (.val y15), .r (.val y15)], .one .bool, fun x => F.laws_eqConf x.1 x.2.1⟩
def L.laws_eqConf : Loops := fun _ => none
noncomputable def K.laws_eqConf : Cons := lookK [(58, [], C.laws_eqIntS)]
theorem run.laws_eqConf : ∀ x, runF tb K.laws_eqConf L.laws_eqConf [] Try.f51 C.laws_eqConf x = C.laws_eqConf.fn x := fun x => by kernel_rfl

/-! ### laws.FnExactConfOk: function 10 -/
noncomputable def F.laws_FnExactConfOk (a0 : DConf) : Option Bool :=
  (F.laws_szConf a0 1048576).bind fun r1 =>
  bif decide (r1 < 0) then
    some true
  else
  (F.laws_toConf a0).bind fun r2 =>
  (F.spec_ConfOk r2).bind fun r3 =>
  (F.laws_toConf a0).bind fun r4 =>
  (F.impl_ConfOk r4).bind fun r5 =>
  bif !(r5 == r3) then
    some false
  else
  (F.laws_toConf a0).bind fun r6 =>
  (F.laws_eqConf r4 r6).bind fun r7 =>
  bif !r7 then
    some false
  else
    some true
noncomputable def C.laws_FnExactConfOk : Con := ⟨[.r (.val y15)], .one .bool, fun x => F.laws_FnExactConfOk x.1⟩
def L.laws_FnExactConfOk : Loops := fun _ => none
noncomputable def K.laws_FnExactConfOk : Cons := lookK [(47, [], C.laws_szConf), (48, [], C.spec_ConfOk), (49, [], C.laws_toConf), (50, [], C.impl_ConfOk), (51, [], C.laws_eqConf)]
theorem run.laws_FnExactConfOk : ∀ x, runF tb K.laws_FnExactConfOk L.laws_FnExactConfOk [] Try.f10 C.laws_FnExactConfOk x = C.laws_FnExactConfOk.fn x := fun x => by kernel_rfl

/-! ### spec.SetSize: function 93 -/
noncomputable def F.spec_SetSize.s5 : ((List DSpan) × Int × Int × Unit) → Option (Lp ((List DSpan) × Int × Int × Unit) Int) := fun (x2, x3, x4, _) =>
  bif decide (x4 < (len x2)) then
    chk (inb x4 (List.length x2)) <|
    chk (inb x4 (List.length x2)) <|
    some (.again (x2, w64 ((w64 ((w64 (x3 + (((List.getD x2 ((Int.toNat x4)) ((0, 0, ()))).2).1))) - ((List.getD x2 ((Int.toNat x4)) ((0, 0, ()))).1))) + 1), w64 (x4 + 1), ()))
  else
    some (.exit (x2, x3, x4, ()))
noncomputable def F.spec_SetSize (a0 : List DSpan) : Option Int :=
  (F.spec_SetOk a0).bind fun r1 =>
  bif !r1 then
    some 0
  else
  afterO (loopO F.spec_SetSize.s5 (a0, 0, 0, ())) fun (x5, x6, x7, _) =>
  some x6
noncomputable def C.spec_SetSize : Con := ⟨[.r (.val (.sl false 112 y3))], .one (.int .i64), fun x => F.spec_SetSize x.1⟩
def L.spec_SetSize : Loops := lookL [(5, ⟨[.pat 0 (.val (.sl false 112 y3)), .pat 3 (.val (.int .i64)), .pat 4 (.val (.int .i64))], 0⟩)]
noncomputable def K.spec_SetSize : Cons := lookK [(116, [], C.spec_SetOk)]
theorem run.spec_SetSize : ∀ x, runF tb K.spec_SetSize L.spec_SetSize [] Try.f93 C.spec_SetSize x = C.spec_SetSize.fn x := fun x => by kernel_rfl

/-! ### spec.SeatOk: function 52 -/
noncomputable def F.spec_SeatOk (a0 : DSeat) (a1 : Int) : Option Bool :=
  (F.spec_l1In a1 1 8).bind fun r1 =>
  bif r1 then
    (F.spec_l1In a0.1 0 1000).bind fun r2 =>
    bif r2 then
      (F.spec_l1In a0.2.1 0 60).bind fun r3 =>
      bif r3 then
        (F.spec_l8Below a0.2.2.1 a0.2.1).bind fun r4 =>
        bif r4 then
          (F.spec_SetSize a0.2.2.1).bind fun r5 =>
          (F.spec_l1In a0.2.2.2.1 0 r5).bind fun r6 =>
          bif r6 then
            bif decide (a0.2.1 ≤ (w64 (a0.2.2.2.1 + a1))) then
              (F.spec_l1In a0.2.2.2.2.1 0 1000000).bind fun r7 =>
              some r7
            else
              some false
          else
            some false
        else
          some false
      else
        some false
    else
      some false
  else
    some false
noncomputable def C.spec_SeatOk : Con := ⟨[.r (.val y6), .r (.val (.int .i64))], .one .bool, fun x => F.spec_SeatOk x.1 x.2.1⟩
def L.spec_SeatOk : Loops := fun _ => none
noncomputable def K.spec_SeatOk : Cons := lookK [(64, [], C.spec_l1In), (86, [], C.spec_l8Below), (93, [], C.spec_SetSize)]
theorem run.spec_SeatOk : ∀ x, runF tb K.spec_SeatOk L.spec_SeatOk [] Try.f52 C.spec_SeatOk x = C.spec_SeatOk.fn x := fun x => by kernel_rfl

/-! ### impl.SetSize: function 94 -/
noncomputable def F.impl_SetSize.s5 : (Int × (List DSpan) × Int × Int × Unit) → Option (Lp (Int × (List DSpan) × Int × Int × Unit) Int) := fun (x2, x3, x4, x5, _) =>
  bif decide (x5 < x4) then
    chk (inb x5 (List.length x3)) <|
    some (.again (w64 (x2 + (w64 ((w64 ((((List.getD x3 ((Int.toNat x5)) ((0, 0, ()))).2).1) - ((List.getD x3 ((Int.toNat x5)) ((0, 0, ()))).1))) + 1))), x3, x4, w64 (x5 + 1), ()))
  else
    some (.exit (x2, x3, x4, x5, ()))
noncomputable def F.impl_SetSize (a0 : List DSpan) : Option Int :=
  (F.impl_SetOk a0).bind fun r1 =>
  bif !r1 then
    some 0
  else
  afterO (loopO F.impl_SetSize.s5 (0, a0, len a0, 0, ())) fun (x6, x7, x8, x9, _) =>
  some x6
noncomputable def C.impl_SetSize : Con := ⟨[.r (.val (.sl false 112 y3))], .one (.int .i64), fun x => F.impl_SetSize x.1⟩
def L.impl_SetSize : Loops := lookL [(5, ⟨[.pat 3 (.val (.int .i64)), .pat 9 (.val (.sl false 112 y3)), .pat 10 (.val (.int .i64)), .pat 11 (.val (.int .i64))], 0⟩)]
noncomputable def K.impl_SetSize : Cons := lookK [(119, [], C.impl_SetOk)]
theorem run.impl_SetSize : ∀ x, runF tb K.impl_SetSize L.impl_SetSize [] Try.f94 C.impl_SetSize x = C.impl_SetSize.fn x := fun x => by kernel_rfl

/-! ### impl.SeatOk: function 53 -/
noncomputable def F.impl_SeatOk (a0 : DSeat) (a1 : Int) : Option Bool :=
  (F.impl_within a1 1 8).bind fun r1 =>
  bif r1 then
    (F.impl_within a0.1 0 1000).bind fun r2 =>
    bif r2 then
      (F.impl_within a0.2.1 0 60).bind fun r3 =>
      bif r3 then
        (F.impl_allIn a0.2.2.1 1 a0.2.1).bind fun r4 =>
        bif r4 then
          (F.impl_SetSize a0.2.2.1).bind fun r5 =>
          (F.impl_within a0.2.2.2.1 0 r5).bind fun r6 =>
          bif r6 then
            bif decide (a0.2.1 ≤ (w64 (a0.2.2.2.1 + a1))) then
              (F.impl_within a0.2.2.2.2.1 0 1000000).bind fun r7 =>
              some r7
            else
              some false
          else
            some false
        else
          some false
      else
        some false
    else
      some false
  else
    some false
noncomputable def C.impl_SeatOk : Con := ⟨[.r (.val y6), .r (.val (.int .i64))], .one .bool, fun x => F.impl_SeatOk x.1 x.2.1⟩
def L.impl_SeatOk : Loops := fun _ => none
noncomputable def K.impl_SeatOk : Cons := lookK [(65, [], C.impl_within), (88, [], C.impl_allIn), (94, [], C.impl_SetSize)]
theorem run.impl_SeatOk : ∀ x, runF tb K.impl_SeatOk L.impl_SeatOk [] Try.f53 C.impl_SeatOk x = C.impl_SeatOk.fn x := fun x => by kernel_rfl

/-! ### laws.FnExactSeatOk: function 11 -/
noncomputable def F.laws_FnExactSeatOk (a0 : DSeat) (a1 : Int) : Option Bool :=
  (F.laws_szSeat a0 1048576).bind fun r1 =>
  bif decide (r1 < 0) then
    some true
  else
  (F.laws_toSeat a0).bind fun r2 =>
  (F.spec_SeatOk r2 a1).bind fun r3 =>
  (F.laws_toSeat a0).bind fun r4 =>
  (F.impl_SeatOk r4 a1).bind fun r5 =>
  bif !(r5 == r3) then
    some false
  else
  (F.laws_toSeat a0).bind fun r6 =>
  (F.laws_eqSeat r4 r6).bind fun r7 =>
  bif !r7 then
    some false
  else
    some true
noncomputable def C.laws_FnExactSeatOk : Con := ⟨[.r (.val y4), .r (.val (.int .i64))], .one .bool, fun x => F.laws_FnExactSeatOk x.1 x.2.1⟩
def L.laws_FnExactSeatOk : Loops := fun _ => none
noncomputable def K.laws_FnExactSeatOk : Cons := lookK [(30, [], C.laws_szSeat), (32, [], C.laws_toSeat), (34, [], C.laws_eqSeat), (52, [], C.spec_SeatOk), (53, [], C.impl_SeatOk)]
theorem run.laws_FnExactSeatOk : ∀ x, runF tb K.laws_FnExactSeatOk L.laws_FnExactSeatOk [] Try.f11 C.laws_FnExactSeatOk x = C.laws_FnExactSeatOk.fn x := fun x => by kernel_rfl

/-! ### spec.l11Turn: function 95 -/
noncomputable def F.spec_l11Turn (a0 : DL1Cur) : Option (DTurn × DL1Cur) :=
  (F.spec_l1Below a0 3).bind fun r1 =>
  (F.spec_l1Once r1.2 2).bind fun r2 =>
  (F.spec_l1Below r2.2 30).bind fun r3 =>
  (F.spec_l1Below r3.2 30).bind fun r4 =>
  (F.spec_l1Below r4.2 30).bind fun r5 =>
  (F.spec_l1Below r5.2 14).bind fun r6 =>
  bif r6.1 == 0 then
    (F.spec_l1PickInt r6.2 ([-1, 3])).bind fun r7 =>
    some ((r7.1, r2.1, [r3.1, r4.1, r5.1], ()), r7.2)
  else
  bif r6.1 == 1 then
    (F.spec_l1PickInt r6.2 ([-1, 1000, 1001])).bind fun r8 =>
    chk (inb 1 (List.length ([r3.1, r4.1, r5.1]))) <|
    some ((r1.1, r2.1, List.set ([r3.1, r4.1, r5.1]) 1 r8.1, ()), r8.2)
  else
  bif r6.1 == 2 then
    chk (cutOk 0 2 (List.length ([r3.1, r4.1, r5.1]))) <|
    some ((r1.1, r2.1, List.take (2 - 0) (List.drop 0 ([r3.1, r4.1, r5.1])), ()), r6.2)
  else
    some ((r1.1, r2.1, [r3.1, r4.1, r5.1], ()), r6.2)
noncomputable def C.spec_l11Turn : Con := ⟨[.p y2 y2], .one y1, fun x => F.spec_l11Turn x.1⟩
def L.spec_l11Turn : Loops := fun _ => none
noncomputable def K.spec_l11Turn : Cons := lookK [(68, [], C.spec_l1Once), (69, [], C.spec_l1PickInt), (96, [], C.spec_l1Below)]
theorem run.spec_l11Turn : ∀ x, runF tb K.spec_l11Turn L.spec_l11Turn [0] Try.f95 C.spec_l11Turn x = C.spec_l11Turn.fn x := fun x => by kernel_rfl

/-! ### spec.DrawPick: function 54 -/
noncomputable def F.spec_DrawPick.s6 : ((List Int) × (List Int) × Int × DTurn × DL1Cur × DTurn × Unit) → Option (Lp ((List Int) × (List Int) × Int × DTurn × DL1Cur × DTurn × Unit) ((List Int) × (List Int) × Int × DTurn)) := fun (x3, x4, x5, x6, x7, x8, _) =>
  bif decide (x5 < 3) then
    (F.spec_l1PickInt x7 ([0, 6, 10, 25, 40, 12])).bind fun r9 =>
    chk (fits (List.length x3 + List.length ([r9.1])) 8) <|
    (F.spec_l1Below r9.2 4).bind fun r10 =>
    chk (fits (List.length x4 + List.length ([w64 (1 + r10.1)])) 8) <|
    some (.again (x3 ++ ([r9.1]), x4 ++ ([w64 (1 + r10.1)]), w64 (x5 + 1), x6, r10.2, x8, ()))
  else
    some (.exit (x3, x4, x5, x6, x7, x8, ()))
noncomputable def F.spec_DrawPick (a0 : List Int) : Option ((List Int) × (List Int) × Int × DTurn) :=
  (F.spec_l1New a0).bind fun r1 =>
  (F.spec_l11Turn r1).bind fun r2 =>
  afterO (loopO F.spec_DrawPick.s6 (([] : List Int), ([] : List Int), 0, (0, false, ([] : List Int), ()), r2.2, r2.1, ())) fun (x11, x12, x13, x14, x15, x16, _) =>
  (F.spec_l1Below x15 16).bind fun r17 =>
  bif r17.1 == 0 then
    (F.spec_l1PickInt r17.2 ([-1, 200, 201])).bind fun r18 =>
    chk (inb 0 (List.length x11)) <|
    (F.spec_l1PickInt r18.2 ([1, 5, 20, 60, 20, 0, 61])).bind fun r19 =>
    some (List.set x11 0 r18.1, x12, r19.1, x16)
  else
  bif r17.1 == 1 then
    (F.spec_l1PickInt r17.2 ([0, 5])).bind fun r20 =>
    chk (inb 2 (List.length x12)) <|
    (F.spec_l1PickInt r20.2 ([1, 5, 20, 60, 20, 0, 61])).bind fun r21 =>
    some (x11, List.set x12 2 r20.1, r21.1, x16)
  else
  (F.spec_l1PickInt r17.2 ([1, 5, 20, 60, 20, 0, 61])).bind fun r22 =>
  some (x11, x12, r22.1, x16)
noncomputable def C.spec_DrawPick : Con := ⟨[.r (.val (.sl false 5 (.int .u8)))], .many [(.sl true 3 (.int .i64)), (.sl true 3 (.int .i64)), (.int .i64), y1], fun x => F.spec_DrawPick x.1⟩
def L.spec_DrawPick : Loops := lookL [(6, ⟨[.own 8 (.sl true 3 (.int .i64)), .own 9 (.sl true 3 (.int .i64)), .pat 10 (.val (.int .i64)), .root 5 true y0 [5], .root 12 true y2 [6], .root 7 true y1 [7]], 0⟩)]
noncomputable def K.spec_DrawPick : Cons := lookK [(67, [], C.spec_l1New), (69, [], C.spec_l1PickInt), (95, [], C.spec_l11Turn), (96, [], C.spec_l1Below)]
theorem run.spec_DrawPick : ∀ x, runF tb K.spec_DrawPick L.spec_DrawPick [] Try.f54 C.spec_DrawPick x = C.spec_DrawPick.fn x := fun x => by kernel_rfl

/-! ### impl.copyTurn: function 97 -/
noncomputable def F.impl_copyTurn (a0 : DTurn) : Option DTurn :=
  (F.impl_copyInts a0.2.2.1).bind fun r1 =>
  some (a0.1, a0.2.1, r1, a0.2.2.2)
noncomputable def C.impl_copyTurn : Con := ⟨[.r (.val y1)], .one y0, fun x => F.impl_copyTurn x.1⟩
def L.impl_copyTurn : Loops := fun _ => none
noncomputable def K.impl_copyTurn : Cons := lookK [(124, [], C.impl_copyInts)]
theorem run.impl_copyTurn : ∀ x, runF tb K.impl_copyTurn L.impl_copyTurn [] Try.f97 C.impl_copyTurn x = C.impl_copyTurn.fn x := fun x => by kernel_rfl

/-! ### slices.Max[[]int,int]: function 98 -/
noncomputable def F.slices_Max_int.s5 : ((List Int) × Int × Int × Unit) → Option (Lp ((List Int) × Int × Int × Unit) Int) := fun (x1, x2, x3, _) =>
  bif decide (x3 < (len x1)) then
    chk (inb x3 (List.length x1)) <|
    some (.again (x1, mxI x2 (List.getD x1 ((Int.toNat x3)) 0), w64 (x3 + 1), ()))
  else
    some (.exit (x1, x2, x3, ()))
noncomputable def F.slices_Max_int (a0 : List Int) : Option Int :=
  bif decide ((len a0) < 1) then
    none
  else
  chk (inb 0 (List.length a0)) <|
  afterO (loopO F.slices_Max_int.s5 (a0, List.getD a0 0 0, 1, ())) fun (x4, x5, x6, _) =>
  some x5
noncomputable def C.slices_Max_int : Con := ⟨[.r (.val (.sl false 3 (.int .i64)))], .one (.int .i64), fun x => F.slices_Max_int x.1⟩
def L.slices_Max_int : Loops := lookL [(5, ⟨[.pat 0 (.val (.sl false 3 (.int .i64))), .pat 3 (.val (.int .i64)), .pat 4 (.val (.int .i64))], 0⟩)]
noncomputable def K.slices_Max_int : Cons := lookK []
theorem run.slices_Max_int : ∀ x, runF tb K.slices_Max_int L.slices_Max_int [] Try.f98 C.slices_Max_int x = C.slices_Max_int.fn x := fun x => by kernel_rfl

/-! ### impl.Pick: function 55 -/
noncomputable def F.impl_Pick.s6 : ((List Int) × (List Int) × Int × DTurn × DTurn × Unit) → Option (Lp ((List Int) × (List Int) × Int × DTurn × DTurn × Unit) (Int × DTurn)) := fun (x8, x9, x10, x11, x12, _) =>
  chk (inb x12.1 (List.length x8)) <|
  bif (List.getD x8 ((Int.toNat x12.1)) 0) == 0 then
    chk (inb x12.1 (List.length x12.2.2.1)) <|
    some (.again (x8, x9, x10, x11, (Int.tmod (w64 (x12.1 + 1)) 3, true, List.set x12.2.2.1 ((Int.toNat x12.1)) 0, x12.2.2.2), ()))
  else
  bif x12.2.1 then
    chk (inb x12.1 (List.length x12.2.2.1)) <|
    chk (inb x12.1 (List.length x9)) <|
    chk (inb x12.1 (List.length x12.2.2.1)) <|
    (some (List.set x12.2.2.1 ((Int.toNat x12.1)) (mnI 1000 (w64 ((List.getD x12.2.2.1 ((Int.toNat x12.1)) 0) + (w64 (x10 * (List.getD x9 ((Int.toNat x12.1)) 0)))))))).bind fun r13 =>
    chk (inb x12.1 (List.length x8)) <|
    chk (inb x12.1 (List.length r13)) <|
    bif decide ((List.getD x8 ((Int.toNat x12.1)) 0) ≤ (List.getD r13 ((Int.toNat x12.1)) 0)) then
      chk (inb x12.1 (List.length r13)) <|
      chk (inb x12.1 (List.length x8)) <|
      chk (inb x12.1 (List.length r13)) <|
      (some (List.set r13 ((Int.toNat x12.1)) (w64 ((List.getD r13 ((Int.toNat x12.1)) 0) - (List.getD x8 ((Int.toNat x12.1)) 0))))).bind fun r14 =>
      some (.ret (x12.1, (x12.1, false, r14, x12.2.2.2)))
    else
      some (.again (x8, x9, x10, x11, (Int.tmod (w64 (x12.1 + 1)) 3, true, r13, x12.2.2.2), ()))
  else
  chk (inb x12.1 (List.length x8)) <|
  chk (inb x12.1 (List.length x12.2.2.1)) <|
  bif decide ((List.getD x8 ((Int.toNat x12.1)) 0) ≤ (List.getD x12.2.2.1 ((Int.toNat x12.1)) 0)) then
    chk (inb x12.1 (List.length x12.2.2.1)) <|
    chk (inb x12.1 (List.length x8)) <|
    chk (inb x12.1 (List.length x12.2.2.1)) <|
    (some (List.set x12.2.2.1 ((Int.toNat x12.1)) (w64 ((List.getD x12.2.2.1 ((Int.toNat x12.1)) 0) - (List.getD x8 ((Int.toNat x12.1)) 0))))).bind fun r15 =>
    some (.ret (x12.1, (x12.1, x12.2.1, r15, x12.2.2.2)))
  else
    some (.again (x8, x9, x10, x11, (Int.tmod (w64 (x12.1 + 1)) 3, true, x12.2.2), ()))
noncomputable def F.impl_Pick (a0 : List Int) (a1 : List Int) (a2 : Int) (a3 : DTurn) : Option (Int × DTurn) :=
  (F.impl_copyTurn a3).bind fun r1 =>
  (F.impl_allWithin a0 3 0 200).bind fun r2 =>
  bif !r2 then
    some (-1, r1)
  else
  (F.impl_allWithin a1 3 1 4).bind fun r3 =>
  bif !r3 then
    some (-1, r1)
  else
  (F.impl_within a2 1 60).bind fun r4 =>
  bif !r4 then
    some (-1, r1)
  else
  (F.impl_TurnOk a3).bind fun r5 =>
  bif !r5 then
    some (-1, r1)
  else
  (F.slices_Max_int a0).bind fun r6 =>
  bif r6 == 0 then
    (F.impl_TurnNew).bind fun r7 =>
    some (-1, r7)
  else
  afterO (loopO F.impl_Pick.s6 (a0, a1, a2, (0, false, ([] : List Int), ()), r1, ())) fun (x16, x17, x18, x19, x20, _) =>
  none
noncomputable def C.impl_Pick : Con := ⟨[.r (.val (.sl false 3 (.int .i64))), .r (.val (.sl false 3 (.int .i64))), .r (.val (.int .i64)), .r (.val y1)], .many [(.int .i64), y0], fun x => F.impl_Pick x.1 x.2.1 x.2.2.1 x.2.2.2.1⟩
def L.impl_Pick : Loops := lookL [(6, ⟨[.pat 0 (.val (.sl false 3 (.int .i64))), .pat 1 (.val (.sl false 3 (.int .i64))), .pat 2 (.val (.int .i64)), .root 9 true y0 [9], .root 10 true y0 [10]], 0⟩)]
noncomputable def K.impl_Pick : Cons := lookK [(20, [], C.impl_TurnNew), (29, [], C.impl_TurnOk), (65, [], C.impl_within), (73, [], C.impl_allWithin), (97, [], C.impl_copyTurn), (98, [], C.slices_Max_int)]
theorem run.impl_Pick : ∀ x, runF tb K.impl_Pick L.impl_Pick [] Try.f55 C.impl_Pick x = C.impl_Pick.fn x := fun x => by kernel_rfl

/-! ### spec.l11Copy: function 99 -/
noncomputable def F.spec_l11Copy (a0 : DTurn) : Option DTurn :=
  chk (fits (List.length (([] : List Int)) + List.length a0.2.2.1) 8) <|
  some (a0.1, a0.2.1, (([] : List Int)) ++ a0.2.2.1, ())
noncomputable def C.spec_l11Copy : Con := ⟨[.r (.val y1)], .one y0, fun x => F.spec_l11Copy x.1⟩
def L.spec_l11Copy : Loops := fun _ => none
noncomputable def K.spec_l11Copy : Cons := lookK []
theorem run.spec_l11Copy : ∀ x, runF tb K.spec_l11Copy L.spec_l11Copy [] Try.f99 C.spec_l11Copy x = C.spec_l11Copy.fn x := fun x => by kernel_rfl

/-! ### spec.l11Next: function 100 -/
noncomputable def F.spec_l11Next (a0 : DTurn) : Option DTurn :=
  some (Int.tmod (w64 (a0.1 + 1)) 3, true, a0.2.2)
noncomputable def C.spec_l11Next : Con := ⟨[.o y0], .one y0, fun x => F.spec_l11Next x.1⟩
def L.spec_l11Next : Loops := fun _ => none
noncomputable def K.spec_l11Next : Cons := lookK []
theorem run.spec_l11Next : ∀ x, runF tb K.spec_l11Next L.spec_l11Next [] Try.f100 C.spec_l11Next x = C.spec_l11Next.fn x := fun x => by kernel_rfl

/-! ### spec.Pick: function 56 -/
noncomputable def F.spec_Pick.s6 : ((List Int) × (List Int) × Int × DTurn × DTurn × Unit) → Option (Lp ((List Int) × (List Int) × Int × DTurn × DTurn × Unit) (Int × DTurn)) := fun (x8, x9, x10, x11, x12, _) =>
  chk (inb x12.1 (List.length x8)) <|
  bif (List.getD x8 ((Int.toNat x12.1)) 0) == 0 then
    chk (inb x12.1 (List.length x12.2.2.1)) <|
    (F.spec_l11Next ((x12.1, x12.2.1, List.set x12.2.2.1 ((Int.toNat x12.1)) 0, x12.2.2.2))).bind fun r13 =>
    some (.again (x8, x9, x10, x11, r13, ()))
  else
  bif x12.2.1 then
    chk (inb x12.1 (List.length x12.2.2.1)) <|
    chk (inb x12.1 (List.length x9)) <|
    (F.spec_l1Min (w64 ((List.getD x12.2.2.1 ((Int.toNat x12.1)) 0) + (w64 (x10 * (List.getD x9 ((Int.toNat x12.1)) 0))))) 1000).bind fun r14 =>
    chk (inb x12.1 (List.length x12.2.2.1)) <|
    chk (inb x12.1 (List.length x8)) <|
    chk (inb x12.1 (List.length (List.set x12.2.2.1 ((Int.toNat x12.1)) r14))) <|
    bif decide ((List.getD x8 ((Int.toNat x12.1)) 0) ≤ (List.getD (List.set x12.2.2.1 ((Int.toNat x12.1)) r14) ((Int.toNat x12.1)) 0)) then
      chk (inb x12.1 (List.length (List.set x12.2.2.1 ((Int.toNat x12.1)) r14))) <|
      chk (inb x12.1 (List.length x8)) <|
      chk (inb x12.1 (List.length (List.set x12.2.2.1 ((Int.toNat x12.1)) r14))) <|
      (some (List.set (List.set x12.2.2.1 ((Int.toNat x12.1)) r14) ((Int.toNat x12.1)) (w64 ((List.getD (List.set x12.2.2.1 ((Int.toNat x12.1)) r14) ((Int.toNat x12.1)) 0) - (List.getD x8 ((Int.toNat x12.1)) 0))))).bind fun r15 =>
      some (.ret (x12.1, (x12.1, false, r15, x12.2.2.2)))
    else
    (F.spec_l11Next ((x12.1, false, List.set x12.2.2.1 ((Int.toNat x12.1)) r14, x12.2.2.2))).bind fun r16 =>
    some (.again (x8, x9, x10, x11, r16, ()))
  else
  chk (inb x12.1 (List.length x8)) <|
  chk (inb x12.1 (List.length x12.2.2.1)) <|
  bif decide ((List.getD x8 ((Int.toNat x12.1)) 0) ≤ (List.getD x12.2.2.1 ((Int.toNat x12.1)) 0)) then
    chk (inb x12.1 (List.length x12.2.2.1)) <|
    chk (inb x12.1 (List.length x8)) <|
    chk (inb x12.1 (List.length x12.2.2.1)) <|
    (some (List.set x12.2.2.1 ((Int.toNat x12.1)) (w64 ((List.getD x12.2.2.1 ((Int.toNat x12.1)) 0) - (List.getD x8 ((Int.toNat x12.1)) 0))))).bind fun r17 =>
    some (.ret (x12.1, (x12.1, x12.2.1, r17, x12.2.2.2)))
  else
  (F.spec_l11Next x12).bind fun r18 =>
  some (.again (x8, x9, x10, x11, r18, ()))
noncomputable def F.spec_Pick (a0 : List Int) (a1 : List Int) (a2 : Int) (a3 : DTurn) : Option (Int × DTurn) :=
  (F.spec_l11Copy a3).bind fun r1 =>
  (F.spec_l11Nums a0 0 200).bind fun r2 =>
  bif !r2 then
    some (-1, r1)
  else
  (F.spec_l11Nums a1 1 4).bind fun r3 =>
  bif !r3 then
    some (-1, r1)
  else
  (F.spec_l1In a2 1 60).bind fun r4 =>
  bif !r4 then
    some (-1, r1)
  else
  (F.spec_TurnOk a3).bind fun r5 =>
  bif !r5 then
    some (-1, r1)
  else
  (F.spec_l11Nums a0 0 0).bind fun r6 =>
  bif r6 then
    (F.spec_TurnNew).bind fun r7 =>
    some (-1, r7)
  else
  afterO (loopO F.spec_Pick.s6 (a0, a1, a2, (0, false, ([] : List Int), ()), r1, ())) fun (x19, x20, x21, x22, x23, _) =>
  none
noncomputable def C.spec_Pick : Con := ⟨[.r (.val (.sl false 3 (.int .i64))), .r (.val (.sl false 3 (.int .i64))), .r (.val (.int .i64)), .r (.val y1)], .many [(.int .i64), y0], fun x => F.spec_Pick x.1 x.2.1 x.2.2.1 x.2.2.2.1⟩
def L.spec_Pick : Loops := lookL [(6, ⟨[.pat 0 (.val (.sl false 3 (.int .i64))), .pat 1 (.val (.sl false 3 (.int .i64))), .pat 2 (.val (.int .i64)), .root 9 true y0 [9], .root 10 true y0 [10]], 0⟩)]
noncomputable def K.spec_Pick : Cons := lookK [(19, [], C.spec_TurnNew), (27, [], C.spec_TurnOk), (64, [], C.spec_l1In), (72, [], C.spec_l11Nums), (99, [], C.spec_l11Copy), (100, [], C.spec_l11Next), (101, [], C.spec_l1Min)]
theorem run.spec_Pick : ∀ x, runF tb K.spec_Pick L.spec_Pick [] Try.f56 C.spec_Pick x = C.spec_Pick.fn x := fun x => by kernel_rfl

/-! ### laws.FnPicked: function 12 -/
noncomputable def F.laws_FnPicked.s10 : ((List Int) × (List Int) × Int × Int × Bool × Int × DTurn × DTurn × Unit) → Option (Lp ((List Int) × (List Int) × Int × Int × Bool × Int × DTurn × DTurn × Unit) Bool) := fun (x6, x7, x8, x9, x10, x11, x12, x13, _) =>
  bif decide (x11 < (len x6)) then
    bif x10 then
      some (.again (x6, x7, x8, x9, true, w64 (x11 + 1), x12, x13, ()))
    else
    chk (inb x11 (List.length x6)) <|
    some (.again (x6, x7, x8, x9, decide ((List.getD x6 ((Int.toNat x11)) 0) > 0), w64 (x11 + 1), x12, x13, ()))
  else
    some (.exit (x6, x7, x8, x9, x10, x11, x12, x13, ()))
noncomputable def F.laws_FnPicked.s16 : ((List Int) × (List Int) × Bool × Bool × Int × Unit) → Option (Lp ((List Int) × (List Int) × Bool × Bool × Int × Unit) Bool) := fun (x22, x23, x24, x25, x26, _) =>
  bif decide (x26 < (len x22)) then
    bif x25 then
      some (.again (x22, x23, x24, true, w64 (x26 + 1), ()))
    else
    chk (inb x26 (List.length x22)) <|
    bif decide ((List.getD x22 ((Int.toNat x26)) 0) < 0) then
      some (.again (x22, x23, x24, true, w64 (x26 + 1), ()))
    else
    chk (inb x26 (List.length x22)) <|
    some (.again (x22, x23, x24, decide ((List.getD x22 ((Int.toNat x26)) 0) > 200), w64 (x26 + 1), ()))
  else
    some (.exit (x22, x23, x24, x25, x26, ()))
noncomputable def F.laws_FnPicked.s20 : ((List Int) × Bool × Bool × Int × Unit) → Option (Lp ((List Int) × Bool × Bool × Int × Unit) Bool) := fun (x32, x33, x34, x35, _) =>
  bif decide (x35 < (len x32)) then
    bif x34 then
      some (.again (x32, x33, true, w64 (x35 + 1), ()))
    else
    chk (inb x35 (List.length x32)) <|
    bif decide ((List.getD x32 ((Int.toNat x35)) 0) < 1) then
      some (.again (x32, x33, true, w64 (x35 + 1), ()))
    else
    chk (inb x35 (List.length x32)) <|
    some (.again (x32, x33, decide ((List.getD x32 ((Int.toNat x35)) 0) > 4), w64 (x35 + 1), ()))
  else
    some (.exit (x32, x33, x34, x35, ()))
noncomputable def F.laws_FnPicked.s25 : ((List Int) × Int × Int × DTurn × DTurn × Unit) → Option (Lp ((List Int) × Int × Int × DTurn × DTurn × Unit) Bool) := fun (x113, x114, x115, x116, x117, _) =>
  bif decide (x115 < (len x113)) then
    chk (inb x115 (List.length x113)) <|
    bif (List.getD x113 ((Int.toNat x115)) 0) == 0 then
      bif x115 != x114 then
        chk (inb x115 (List.length x117.2.2.1)) <|
        chk (inb x115 (List.length x116.2.2.1)) <|
        bif decide ((List.getD x117.2.2.1 ((Int.toNat x115)) 0) > (List.getD x116.2.2.1 ((Int.toNat x115)) 0)) then
          some (.ret false)
        else
          some (.again (x113, x114, w64 (x115 + 1), x116, x117, ()))
      else
        some (.again (x113, x114, w64 (x115 + 1), x116, x117, ()))
    else
      some (.again (x113, x114, w64 (x115 + 1), x116, x117, ()))
  else
    some (.exit (x113, x114, x115, x116, x117, ()))
noncomputable def F.laws_FnPicked (a0 : List Int) : Option Bool :=
  (F.laws_big a0).bind fun r1 =>
  bif r1 then
    some true
  else
  (F.spec_DrawPick a0).bind fun r2 =>
  (F.impl_Pick r2.1 r2.2.1 r2.2.2.1 r2.2.2.2).bind fun r3 =>
  (F.spec_Pick r2.1 r2.2.1 r2.2.2.1 r2.2.2.2).bind fun r4 =>
  bif r3.1 != r4.1 then
    some false
  else
  bif r3.2.1 != r4.2.1 then
    some false
  else
  bif !(r3.2.2.1 == r4.2.2.1) then
    some false
  else
  (F.laws_sameInts r3.2.2.2.1 r4.2.2.2.1).bind fun r5 =>
  bif !r5 then
    some false
  else
  afterO (loopO F.laws_FnPicked.s10 (r2.1, r2.2.1, r2.2.2.1, r3.1, false, 0, r2.2.2.2, r3.2, ())) fun (x14, x15, x16, x17, x18, x19, x20, x21, _) =>
  bif decide (x17 < 0) then
    bif (len x14) != 3 then
      afterO (loopO F.laws_FnPicked.s16 (x14, x15, x18, true, 0, ())) fun (x27, x28, x29, x30, x31, _) =>
      afterO (loopO F.laws_FnPicked.s20 (x28, x29, x30, 0, ())) fun (x36, x37, x38, x39, _) =>
      bif !x37 then
        some true
      else
        some x38
    else
    bif (len x15) != 3 then
      afterO (loopO F.laws_FnPicked.s16 (x14, x15, x18, true, 0, ())) fun (x45, x46, x47, x48, x49, _) =>
      afterO (loopO F.laws_FnPicked.s20 (x46, x47, x48, 0, ())) fun (x54, x55, x56, x57, _) =>
      bif !x55 then
        some true
      else
        some x56
    else
    (F.spec_TurnOk x20).bind fun r58 =>
    bif !r58 then
      afterO (loopO F.laws_FnPicked.s16 (x14, x15, x18, true, 0, ())) fun (x64, x65, x66, x67, x68, _) =>
      afterO (loopO F.laws_FnPicked.s20 (x65, x66, x67, 0, ())) fun (x73, x74, x75, x76, _) =>
      bif !x74 then
        some true
      else
        some x75
    else
    bif decide (x16 < 1) then
      afterO (loopO F.laws_FnPicked.s16 (x14, x15, x18, true, 0, ())) fun (x82, x83, x84, x85, x86, _) =>
      afterO (loopO F.laws_FnPicked.s20 (x83, x84, x85, 0, ())) fun (x91, x92, x93, x94, _) =>
      bif !x92 then
        some true
      else
        some x93
    else
    afterO (loopO F.laws_FnPicked.s16 (x14, x15, x18, decide (x16 > 60), 0, ())) fun (x100, x101, x102, x103, x104, _) =>
    afterO (loopO F.laws_FnPicked.s20 (x101, x102, x103, 0, ())) fun (x109, x110, x111, x112, _) =>
    bif !x110 then
      some true
    else
      some x111
  else
  afterO (loopO F.laws_FnPicked.s25 (x14, x17, 0, x20, x21, ())) fun (x118, x119, x120, x121, x122, _) =>
  chk (inb x119 (List.length x118)) <|
  bif decide ((List.getD x118 ((Int.toNat x119)) 0) > 0) then
    bif x122.1 == x119 then
      bif !x122.2.1 then
        (F.impl_TurnOk x122).bind fun r123 =>
        some r123
      else
        some false
    else
      some false
  else
    some false
noncomputable def C.laws_FnPicked : Con := ⟨[.r (.val (.sl false 5 (.int .u8)))], .one .bool, fun x => F.laws_FnPicked x.1⟩
def L.laws_FnPicked : Loops := lookL [(10, ⟨[.own 3 (.sl true 3 (.int .i64)), .own 4 (.sl true 3 (.int .i64)), .pat 5 (.val (.int .i64)), .pat 7 (.val (.int .i64)), .pat 11 (.val .bool), .pat 12 (.val (.int .i64)), .root 6 true y1 [6], .root 8 true y0 [8]], 0⟩), (16, ⟨[.own 3 (.sl true 3 (.int .i64)), .own 4 (.sl true 3 (.int .i64)), .pat 11 (.val .bool), .pat 13 (.val .bool), .pat 14 (.val (.int .i64))], 2⟩), (20, ⟨[.own 4 (.sl true 3 (.int .i64)), .pat 11 (.val .bool), .pat 13 (.val .bool), .pat 15 (.val (.int .i64))], 4⟩), (25, ⟨[.own 3 (.sl true 3 (.int .i64)), .pat 7 (.val (.int .i64)), .pat 16 (.val (.int .i64)), .root 6 true y1 [6], .root 8 true y0 [8]], 6⟩)]
noncomputable def K.laws_FnPicked : Cons := lookK [(24, [], C.laws_big), (27, [], C.spec_TurnOk), (29, [], C.impl_TurnOk), (37, [], C.laws_sameInts), (54, [], C.spec_DrawPick), (55, [], C.impl_Pick), (56, [], C.spec_Pick)]
theorem run.laws_FnPicked : ∀ x, runF tb K.laws_FnPicked L.laws_FnPicked [] Try.f12 C.laws_FnPicked x = C.laws_FnPicked.fn x := fun x => by kernel_rfl

/-! ### laws.FnExactPick: function 13 -/
noncomputable def F.laws_FnExactPick (a0 : List Int) (a1 : List Int) (a2 : Int) (a3 : DTurn) : Option Bool :=
  bif decide ((len a0) > 1048576) then
    some true
  else
  bif decide ((len a1) > 1048576) then
    some true
  else
  (F.laws_szTurn a3 1048576).bind fun r1 =>
  bif decide (r1 < 0) then
    some true
  else
  (F.laws_toIntS a0).bind fun r2 =>
  (F.laws_toIntS a1).bind fun r3 =>
  (F.laws_toTurn a3).bind fun r4 =>
  (F.spec_Pick r2 r3 a2 r4).bind fun r5 =>
  (F.laws_toIntS a0).bind fun r6 =>
  (F.laws_toIntS a1).bind fun r7 =>
  (F.laws_toTurn a3).bind fun r8 =>
  (F.impl_Pick r6 r7 a2 r8).bind fun r9 =>
  bif r9.1 != r5.1 then
    some false
  else
  (F.laws_eqTurn r9.2 r5.2).bind fun r10 =>
  bif !r10 then
    some false
  else
  (F.laws_toIntS a0).bind fun r11 =>
  (F.laws_eqIntS r6 r11).bind fun r12 =>
  bif !r12 then
    some false
  else
  (F.laws_toIntS a1).bind fun r13 =>
  (F.laws_eqIntS r7 r13).bind fun r14 =>
  bif !r14 then
    some false
  else
  (F.laws_toTurn a3).bind fun r15 =>
  (F.laws_eqTurn r8 r15).bind fun r16 =>
  bif !r16 then
    some false
  else
  (F.laws_markIntS r6 1).bind fun r17 =>
  (F.laws_markIntS r7 r17.1).bind fun r18 =>
  (F.laws_markTurn r8 r18.1).bind fun r19 =>
  bif decide (r19.1 < 0) then
    some false
  else
  bif r9.1 != r5.1 then
    some false
  else
  (F.laws_eqTurn r9.2 r5.2).bind fun r20 =>
  bif !r20 then
    some false
  else
  (F.laws_markTurn r9.2 1).bind fun r21 =>
  (F.laws_heldTurn r21.2 1).bind fun r22 =>
  bif decide (r22 < 0) then
    some false
  else
  bif r22 != r21.1 then
    some false
  else
  (F.laws_toIntS a0).bind fun r23 =>
  (F.laws_toIntS a1).bind fun r24 =>
  (F.laws_toTurn a3).bind fun r25 =>
  (F.impl_Pick r23 r24 a2 r25).bind fun r26 =>
  bif r26.1 != r5.1 then
    some false
  else
  (F.laws_eqTurn r26.2 r5.2).bind fun r27 =>
  bif !r27 then
    some false
  else
  (F.laws_heldTurn r21.2 1).bind fun r28 =>
  bif decide (r28 < 0) then
    some false
  else
  bif r28 != r21.1 then
    some false
  else
    some true
noncomputable def C.laws_FnExactPick : Con := ⟨[.r (.val (.sl false 3 (.int .i64))), .r (.val (.sl false 3 (.int .i64))), .r (.val (.int .i64)), .r (.val y1)], .one .bool, fun x => F.laws_FnExactPick x.1 x.2.1 x.2.2.1 x.2.2.2.1⟩
def L.laws_FnExactPick : Loops := fun _ => none
noncomputable def K.laws_FnExactPick : Cons := lookK [(21, [], C.laws_eqTurn), (22, [], C.laws_markTurn), (23, [], C.laws_heldTurn), (26, [], C.laws_szTurn), (28, [], C.laws_toTurn), (55, [], C.impl_Pick), (56, [], C.spec_Pick), (57, [], C.laws_toIntS), (58, [], C.laws_eqIntS), (59, [], C.laws_markIntS)]
theorem run.laws_FnExactPick : ∀ x, runF tb K.laws_FnExactPick L.laws_FnExactPick [] Try.f13 C.laws_FnExactPick x = C.laws_FnExactPick.fn x := fun x => by kernel_rfl

/-! ### spec.l9Copy: function 102 -/
noncomputable def F.spec_l9Copy (a0 : DSeat) : Option DSeat :=
  (F.spec_l5Copy a0.2.2.1).bind fun r1 =>
  some (a0.1, a0.2.1, r1, a0.2.2.2)
noncomputable def C.spec_l9Copy : Con := ⟨[.r (.val y6)], .one y5, fun x => F.spec_l9Copy x.1⟩
def L.spec_l9Copy : Loops := fun _ => none
noncomputable def K.spec_l9Copy : Cons := lookK [(113, [], C.spec_l5Copy)]
theorem run.spec_l9Copy : ∀ x, runF tb K.spec_l9Copy L.spec_l9Copy [] Try.f102 C.spec_l9Copy x = C.spec_l9Copy.fn x := fun x => by kernel_rfl

/-! ### spec.SeatGrant: function 60 -/
noncomputable def F.spec_SeatGrant (a0 : DSeat) (a1 : Int) : Option DSeat :=
  (F.spec_l9Copy a0).bind fun r1 =>
  (F.spec_SeatOk a0 a1).bind fun r2 =>
  bif r2 then
    (F.spec_l1Min 60 (w64 (a0.2.2.2.1 + a1))).bind fun r3 =>
    some (r1.1, r3, r1.2.2)
  else
    some r1
noncomputable def C.spec_SeatGrant : Con := ⟨[.r (.val y6), .r (.val (.int .i64))], .one y5, fun x => F.spec_SeatGrant x.1 x.2.1⟩
def L.spec_SeatGrant : Loops := fun _ => none
noncomputable def K.spec_SeatGrant : Cons := lookK [(52, [], C.spec_SeatOk), (101, [], C.spec_l1Min), (102, [], C.spec_l9Copy)]
theorem run.spec_SeatGrant : ∀ x, runF tb K.spec_SeatGrant L.spec_SeatGrant [] Try.f60 C.spec_SeatGrant x = C.spec_SeatGrant.fn x := fun x => by kernel_rfl

/-! ### impl.copySeat: function 103 -/
noncomputable def F.impl_copySeat (a0 : DSeat) : Option DSeat :=
  (F.impl_copySet a0.2.2.1).bind fun r1 =>
  some (a0.1, a0.2.1, r1, a0.2.2.2)
noncomputable def C.impl_copySeat : Con := ⟨[.r (.val y6)], .one y5, fun x => F.impl_copySeat x.1⟩
def L.impl_copySeat : Loops := fun _ => none
noncomputable def K.impl_copySeat : Cons := lookK [(111, [], C.impl_copySet)]
theorem run.impl_copySeat : ∀ x, runF tb K.impl_copySeat L.impl_copySeat [] Try.f103 C.impl_copySeat x = C.impl_copySeat.fn x := fun x => by kernel_rfl

/-! ### impl.SeatGrant: function 61 -/
noncomputable def F.impl_SeatGrant (a0 : DSeat) (a1 : Int) : Option DSeat :=
  (F.impl_copySeat a0).bind fun r1 =>
  (F.impl_SeatOk a0 a1).bind fun r2 =>
  bif r2 then
    some (r1.1, mnI 60 (w64 (a0.2.2.2.1 + a1)), r1.2.2)
  else
    some r1
noncomputable def C.impl_SeatGrant : Con := ⟨[.r (.val y6), .r (.val (.int .i64))], .one y5, fun x => F.impl_SeatGrant x.1 x.2.1⟩
def L.impl_SeatGrant : Loops := fun _ => none
noncomputable def K.impl_SeatGrant : Cons := lookK [(53, [], C.impl_SeatOk), (103, [], C.impl_copySeat)]
theorem run.impl_SeatGrant : ∀ x, runF tb K.impl_SeatGrant L.impl_SeatGrant [] Try.f61 C.impl_SeatGrant x = C.impl_SeatGrant.fn x := fun x => by kernel_rfl

/-! ### laws.markSpanS: function 104 -/
noncomputable def F.laws_markSpanS.s2 : (Int × Int × (List DSpan) × Unit) → Option (Lp (Int × Int × (List DSpan) × Unit) (Int × (List DSpan))) := fun (x1, x2, x3, _) =>
  bif decide (x2 < (len x3)) then
    chk (inb x2 (List.length x3)) <|
    chk (inb x2 (List.length (List.set x3 ((Int.toNat x2)) ((x1, (List.getD x3 ((Int.toNat x2)) ((0, 0, ()))).2))))) <|
    (some (List.set (List.set x3 ((Int.toNat x2)) ((x1, (List.getD x3 ((Int.toNat x2)) ((0, 0, ()))).2))) ((Int.toNat x2)) (((List.getD (List.set x3 ((Int.toNat x2)) ((x1, (List.getD x3 ((Int.toNat x2)) ((0, 0, ()))).2))) ((Int.toNat x2)) ((0, 0, ()))).1, w64 (x1 + 1), ((List.getD (List.set x3 ((Int.toNat x2)) ((x1, (List.getD x3 ((Int.toNat x2)) ((0, 0, ()))).2))) ((Int.toNat x2)) ((0, 0, ()))).2).2)))).bind fun r4 =>
    some (.again (w64 ((w64 (x1 + 1)) + 1), w64 (x2 + 1), r4, ()))
  else
    some (.exit (x1, x2, x3, ()))
noncomputable def F.laws_markSpanS (a0 : List DSpan) (a1 : Int) : Option (Int × (List DSpan)) :=
  afterO (loopO F.laws_markSpanS.s2 (a1, 0, a0, ())) fun (x5, x6, x7, _) =>
  some (x5, x7)
noncomputable def C.laws_markSpanS : Con := ⟨[.c (.sl true 112 y3), .r (.val (.int .i64))], .one (.int .i64), fun x => F.laws_markSpanS x.1 x.2.1⟩
def L.laws_markSpanS : Loops := lookL [(2, ⟨[.pat 1 (.val (.int .i64)), .pat 5 (.val (.int .i64)), .root 0 false (.sl true 112 y3) [0]], 0⟩)]
noncomputable def K.laws_markSpanS : Cons := lookK []
theorem run.laws_markSpanS : ∀ x, runF tb K.laws_markSpanS L.laws_markSpanS [0] Try.f104 C.laws_markSpanS x = C.laws_markSpanS.fn x := fun x => by kernel_rfl

/-! ### laws.markSeat: function 62 -/
noncomputable def F.laws_markSeat (a0 : DSeat) (a1 : Int) : Option (Int × DSeat) :=
  (F.laws_markSpanS a0.2.2.1 a1).bind fun r1 =>
  some (r1.1, (a0.1, a0.2.1, r1.2, a0.2.2.2))
noncomputable def C.laws_markSeat : Con := ⟨[.c y5, .r (.val (.int .i64))], .one (.int .i64), fun x => F.laws_markSeat x.1 x.2.1⟩
def L.laws_markSeat : Loops := fun _ => none
noncomputable def K.laws_markSeat : Cons := lookK [(104, [], C.laws_markSpanS)]
theorem run.laws_markSeat : ∀ x, runF tb K.laws_markSeat L.laws_markSeat [2] Try.f62 C.laws_markSeat x = C.laws_markSeat.fn x := fun x => by kernel_rfl

/-! ### laws.heldSpanS: function 105 -/
noncomputable def F.laws_heldSpanS.s2 : ((List DSpan) × Int × Int × Unit) → Option (Lp ((List DSpan) × Int × Int × Unit) Int) := fun (x1, x2, x3, _) =>
  bif decide (x3 < (len x1)) then
    chk (inb x3 (List.length x1)) <|
    bif ((List.getD x1 ((Int.toNat x3)) ((0, 0, ()))).1) != x2 then
      some (.ret (-1))
    else
    chk (inb x3 (List.length x1)) <|
    bif (((List.getD x1 ((Int.toNat x3)) ((0, 0, ()))).2).1) != (w64 (x2 + 1)) then
      some (.ret (-1))
    else
      some (.again (x1, w64 ((w64 (x2 + 1)) + 1), w64 (x3 + 1), ()))
  else
    some (.exit (x1, x2, x3, ()))
noncomputable def F.laws_heldSpanS (a0 : List DSpan) (a1 : Int) : Option Int :=
  afterO (loopO F.laws_heldSpanS.s2 (a0, a1, 0, ())) fun (x4, x5, x6, _) =>
  some x5
noncomputable def C.laws_heldSpanS : Con := ⟨[.r (.val (.sl false 112 y3)), .r (.val (.int .i64))], .one (.int .i64), fun x => F.laws_heldSpanS x.1 x.2.1⟩
def L.laws_heldSpanS : Loops := lookL [(2, ⟨[.pat 0 (.val (.sl false 112 y3)), .pat 1 (.val (.int .i64)), .pat 5 (.val (.int .i64))], 0⟩)]
noncomputable def K.laws_heldSpanS : Cons := lookK []
theorem run.laws_heldSpanS : ∀ x, runF tb K.laws_heldSpanS L.laws_heldSpanS [] Try.f105 C.laws_heldSpanS x = C.laws_heldSpanS.fn x := fun x => by kernel_rfl

/-! ### laws.heldSeat: function 63 -/
noncomputable def F.laws_heldSeat (a0 : DSeat) (a1 : Int) : Option Int :=
  (F.laws_heldSpanS a0.2.2.1 a1).bind fun r1 =>
  bif decide (r1 < 0) then
    some (-1)
  else
    some r1
noncomputable def C.laws_heldSeat : Con := ⟨[.r (.val y6), .r (.val (.int .i64))], .one (.int .i64), fun x => F.laws_heldSeat x.1 x.2.1⟩
def L.laws_heldSeat : Loops := fun _ => none
noncomputable def K.laws_heldSeat : Cons := lookK [(105, [], C.laws_heldSpanS)]
theorem run.laws_heldSeat : ∀ x, runF tb K.laws_heldSeat L.laws_heldSeat [] Try.f63 C.laws_heldSeat x = C.laws_heldSeat.fn x := fun x => by kernel_rfl

/-! ### laws.FnExactSeatGrant: function 14 -/
noncomputable def F.laws_FnExactSeatGrant (a0 : DSeat) (a1 : Int) : Option Bool :=
  (F.laws_szSeat a0 1048576).bind fun r1 =>
  bif decide (r1 < 0) then
    some true
  else
  (F.laws_toSeat a0).bind fun r2 =>
  (F.spec_SeatGrant r2 a1).bind fun r3 =>
  (F.laws_toSeat a0).bind fun r4 =>
  (F.impl_SeatGrant r4 a1).bind fun r5 =>
  (F.laws_eqSeat r5 r3).bind fun r6 =>
  bif !r6 then
    some false
  else
  (F.laws_toSeat a0).bind fun r7 =>
  (F.laws_eqSeat r4 r7).bind fun r8 =>
  bif !r8 then
    some false
  else
  (F.laws_markSeat r4 1).bind fun r9 =>
  bif decide (r9.1 < 0) then
    some false
  else
  (F.laws_eqSeat r5 r3).bind fun r10 =>
  bif !r10 then
    some false
  else
  (F.laws_markSeat r5 1).bind fun r11 =>
  (F.laws_heldSeat r11.2 1).bind fun r12 =>
  bif decide (r12 < 0) then
    some false
  else
  bif r12 != r11.1 then
    some false
  else
  (F.laws_toSeat a0).bind fun r13 =>
  (F.impl_SeatGrant r13 a1).bind fun r14 =>
  (F.laws_eqSeat r14 r3).bind fun r15 =>
  bif !r15 then
    some false
  else
  (F.laws_heldSeat r11.2 1).bind fun r16 =>
  bif decide (r16 < 0) then
    some false
  else
  bif r16 != r11.1 then
    some false
  else
    some true
noncomputable def C.laws_FnExactSeatGrant : Con := ⟨[.r (.val y4), .r (.val (.int .i64))], .one .bool, fun x => F.laws_FnExactSeatGrant x.1 x.2.1⟩
def L.laws_FnExactSeatGrant : Loops := fun _ => none
noncomputable def K.laws_FnExactSeatGrant : Cons := lookK [(30, [], C.laws_szSeat), (32, [], C.laws_toSeat), (34, [], C.laws_eqSeat), (60, [], C.spec_SeatGrant), (61, [], C.impl_SeatGrant), (62, [], C.laws_markSeat), (63, [], C.laws_heldSeat)]
theorem run.laws_FnExactSeatGrant : ∀ x, runF tb K.laws_FnExactSeatGrant L.laws_FnExactSeatGrant [] Try.f14 C.laws_FnExactSeatGrant x = C.laws_FnExactSeatGrant.fn x := fun x => by kernel_rfl
end Go.Proofs.Ytabjfkongckhaaa.Vm
