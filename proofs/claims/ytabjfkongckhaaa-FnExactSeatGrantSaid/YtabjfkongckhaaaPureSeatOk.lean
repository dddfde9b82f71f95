/- The law SeatOk, on the printed functions alone. -/
import Derived.Test.YtabjfkongckhaaaPureSets
namespace Go.Proofs.Ytabjfkongckhaaa.Vm
open Go Go.RowKit
set_option linter.unusedVariables false

theorem seatOk_same (a0 a1 : Int) (a2 : List Sp) (a3 a4 : Int) (n : Int) (h : a2.length ≤ 1048576) : ∃ r, F.spec_SeatOk (a0, a1, a2, a3, a4, ()) n = some r ∧ F.impl_SeatOk (a0, a1, a2, a3, a4, ()) n = some r := by
  obtain ⟨z, z1, z2⟩ := size_same a2 h
  unfold F.spec_SeatOk F.impl_SeatOk
  rcases below_same a2 a1 h with ⟨b1, b2, _⟩ | ⟨b1, b2⟩
  all_goals simp only [l1In_eq, within_eq, z1, z2, b1, b2, Option.bind_some]
  all_goals cases inR 1 8 n with
    | false => exact ⟨_, rfl, rfl⟩
    | true => cases inR 0 1000 a0 with
      | false => exact ⟨_, rfl, rfl⟩
      | true => cases inR 0 60 a1 with
        | false => exact ⟨_, rfl, rfl⟩
        | true => first
          | exact ⟨_, rfl, rfl⟩
          | (cases inR 0 z a3 with
            | false => exact ⟨_, rfl, rfl⟩
            | true => cases decide (a1 ≤ w64 (a3 + n)) with
              | false => exact ⟨_, rfl, rfl⟩
              | true => exact ⟨_, rfl, rfl⟩)
theorem seatOk_law (a : Int × Int × List Sp × Int × Int × Unit) (n : Int) (h : a.2.2.1.length ≤ 9223372036854775807) : F.laws_FnExactSeatOk a n = some true := by
  obtain ⟨a0, a1, a2, a3, a4, u⟩ := a
  unfold F.laws_FnExactSeatOk
  rw [szSeat_eq a0 a1 a2 a3 a4 u h 1048576 (by omega) (by omega)]
  by_cases hle : (a2.length : Int) ≤ 1048576
  · have hle' : a2.length ≤ 1048576 := by omega
    rw [if_pos hle]
    simp only [Option.bind_some]
    rw [show decide ((1048576 : Int) - (a2.length : Int) < 0) = false from decide_eq_false (by omega)]
    obtain ⟨r, hs, hi⟩ := seatOk_same a0 a1 a2 a3 a4 n hle'
    simp only [cond_false, toSeat_eq a0 a1 a2 a3 a4 u hle', hs, hi, eqSeat_eq a0 a1 a2 a3 a4 hle', Option.bind_some, beq_self_eq_true, Bool.not_true]
  · rw [if_neg hle]
    rfl
end Go.Proofs.Ytabjfkongckhaaa.Vm
