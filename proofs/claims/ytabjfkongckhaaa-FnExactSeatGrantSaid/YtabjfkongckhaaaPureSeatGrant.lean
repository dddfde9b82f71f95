/- The law SeatGrant, on the printed functions alone. -/
import Derived.Test.YtabjfkongckhaaaPureSeatOk
import Derived.Test.YtabjfkongckhaaaPureMh1
namespace Go.Proofs.Ytabjfkongckhaaa.Vm
open Go Go.RowKit
set_option linter.unusedVariables false

theorem l5Copy_eq (a : List DSpan) (h : a.length ≤ 1048576) : F.spec_l5Copy a = some a := by
  unfold F.spec_l5Copy
  rw [fits_of (by simp; omega)]; rfl
theorem copySet_eq (a : List DSpan) (h : a.length ≤ 1048576) : F.impl_copySet a = some a := by
  unfold F.impl_copySet
  rw [fits_of (by omega)]; rfl
theorem l9Copy_eq (a : DSeat) (h : a.2.2.1.length ≤ 1048576) : F.spec_l9Copy a = some a := by
  unfold F.spec_l9Copy
  rw [l5Copy_eq _ h]; rfl
theorem copySeat_eq (a : DSeat) (h : a.2.2.1.length ≤ 1048576) : F.impl_copySeat a = some a := by
  unfold F.impl_copySeat
  rw [copySet_eq _ h]; rfl
theorem l1Min_mn (a b : Int) : F.spec_l1Min a b = some (mnI b a) := by
  unfold F.spec_l1Min mnI
  by_cases h : a < b <;> simp [h]
theorem mnI_comm (a b : Int) : mnI a b = mnI b a := by
  unfold mnI
  split <;> split <;> omega
theorem seatGrant_same (a : DSeat) (n : Int) (h : a.2.2.1.length ≤ 1048576) : ∃ r : DSeat, F.spec_SeatGrant a n = some r ∧ F.impl_SeatGrant a n = some r ∧ r.2.2 = a.2.2 ∧ r.1 = a.1 := by
  obtain ⟨a0, a1, a2, a3, a4, u⟩ := a
  obtain ⟨b, hs, hi⟩ := seatOk_same a0 a1 a2 a3 a4 n h
  unfold F.spec_SeatGrant F.impl_SeatGrant
  rw [l9Copy_eq _ h, copySeat_eq _ h]
  simp only [Option.bind_some, hs, hi, l1Min_mn]
  cases b with
  | true =>
    refine ⟨_, rfl, ?_, rfl, rfl⟩
    rw [mnI_comm]; rfl
  | false => exact ⟨_, rfl, rfl, rfl, rfl⟩
theorem seatGrant_law (a : DSeat) (n : Int) (h : a.2.2.1.length ≤ 9223372036854775807) : F.laws_FnExactSeatGrant a n = some true := by
  obtain ⟨a0, a1, a2, a3, a4, u⟩ := a
  unfold F.laws_FnExactSeatGrant
  rw [szSeat_eq a0 a1 a2 a3 a4 u h 1048576 (by omega) (by omega)]
  by_cases hle : (a2.length : Int) ≤ 1048576
  · have hle' : a2.length ≤ 1048576 := by omega
    rw [if_pos hle]
    simp only [Option.bind_some]
    rw [show decide ((1048576 : Int) - (a2.length : Int) < 0) = false from decide_eq_false (by omega)]
    obtain ⟨⟨r0, r1, r2, r3, r4, v⟩, hs, hi, e2, e1⟩ := seatGrant_same (a0, a1, a2, a3, a4, ()) n hle'
    cases e2; cases e1
    obtain ⟨b, m1, m2⟩ := mh_Seat (a0, a1, a2, a3, a4, ()) 1 hle' (by omega) (by simp only; omega)
    obtain ⟨c, m3, m4⟩ := mh_Seat (a0, r1, a2, a3, a4, ()) 1 hle' (by omega) (by simp only; omega)
    simp only at m1 m2 m3 m4
    have d1 : decide ((1 : Int) + 2 * (a2.length : Int) < 0) = false := decide_eq_false (by omega)
    simp only [cond_false, toSeat_eq a0 a1 a2 a3 a4 u hle', hs, hi, eqSeat_eq a0 a1 a2 a3 a4 hle', eqSeat_eq a0 r1 a2 a3 a4 hle', m1, m3, m4, d1, Option.bind_some, bne_self_eq_false, Bool.not_true]
  · rw [if_neg hle]
    rfl
end Go.Proofs.Ytabjfkongckhaaa.Vm
