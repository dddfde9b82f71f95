/- The law Owed, on the printed functions alone. -/
import Derived.Test.YtabjfkongckhaaaPureTurnOk
namespace Go.Proofs.Ytabjfkongckhaaa.Vm
open Go Go.RowKit
set_option linter.unusedVariables false

theorem toSpanS_eq (a : List (Int × Int × Unit)) (h : a.length ≤ 1048576) : F.laws_toSpanS a = some a := by
  unfold F.laws_toSpanS
  rw [mk_ok (by omega), chk_true]
  have hl := loop_run (step := F.laws_toSpanS.s3) (fun i => (a, mid (0, 0, ()) a i, (i : Int), ())) a.length (fun i hi => by
    unfold F.laws_toSpanS.s3
    simp only
    rw [lt_len hi, inb_nat hi, inb_nat (by rw [mid_len (by omega)]; exact hi), Int.toNat_natCast, w64_nat (by omega)]
    have := copy_step ((0, 0, ()) : Int × Int × Unit) a hi
    rw [getD_at hi] at this ⊢
    unfold F.laws_toSpan
    simp only [cond_true, chk_true, Option.bind_some]
    rw [← mid, ← mid] at this
    rw [← this]) (l := .exit (a, a, (a.length : Int), ())) (y := .inl (a, a, (a.length : Int), ())) (by
    unfold F.laws_toSpanS.s3
    simp only
    rw [ge_len]
    simp [mid]) rfl
  have h0 : mid ((0, 0, ()) : Int × Int × Unit) a 0 = List.replicate (Int.toNat (len a)) (0, 0, ()) := by simp [mid, len]
  simp only [h0] at hl
  rw [show ((0 : Nat) : Int) = 0 from rfl] at hl
  rw [hl]; rfl
theorem eqSpanS_eq (a : List (Int × Int × Unit)) (h : a.length ≤ 1048576) : F.laws_eqSpanS a a = some true := by
  unfold F.laws_eqSpanS
  rw [bne_self_eq_false]
  simp only [cond_false]
  have hl := loop_run (step := F.laws_eqSpanS.s4) (fun i => (a, a, (i : Int), ())) a.length (fun i hi => by
    unfold F.laws_eqSpanS.s4 F.laws_eqSpan
    simp only
    rw [lt_len hi, inb_nat hi, w64_nat (by omega)]
    simp [chk_true]) (l := .exit (a, a, (a.length : Int), ())) (y := .inl (a, a, (a.length : Int), ())) (by
    unfold F.laws_eqSpanS.s4
    simp only
    rw [ge_len]
    rfl) rfl
  rw [show ((0 : Nat) : Int) = 0 from rfl] at hl
  rw [hl]; rfl
theorem szSpanS_eq (a : List (Int × Int × Unit)) (h : a.length ≤ 9223372036854775807) (n : Int) (h0 : 0 ≤ n) (h1 : n ≤ 9223372036854775807) : F.laws_szSpanS a n = some (if (a.length : Int) ≤ n then n - (a.length : Int) else -1) := by
  unfold F.laws_szSpanS
  rw [w64_id (by simp [len]; omega) (by simp [len]; omega)]
  by_cases hle : (a.length : Int) ≤ n
  · rw [if_pos hle, show decide (n - len a < 0) = false from decide_eq_false (by simp [len]; omega)]; rfl
  · rw [if_neg hle, show decide (n - len a < 0) = true from decide_eq_true (by simp [len]; omega)]; rfl
theorem toSeat_eq (a0 a1 : Int) (a2 : List (Int × Int × Unit)) (a3 a4 : Int) (u : Unit) (h : a2.length ≤ 1048576) : F.laws_toSeat (a0, a1, a2, a3, a4, u) = some (a0, a1, a2, a3, a4, ()) := by
  unfold F.laws_toSeat
  simp only [toSpanS_eq a2 h, Option.bind_some]
theorem eqSeat_eq (a0 a1 : Int) (a2 : List (Int × Int × Unit)) (a3 a4 : Int) (h : a2.length ≤ 1048576) : F.laws_eqSeat (a0, a1, a2, a3, a4, ()) (a0, a1, a2, a3, a4, ()) = some true := by
  unfold F.laws_eqSeat
  simp [eqSpanS_eq a2 h]
theorem szSeat_eq (a0 a1 : Int) (a2 : List (Int × Int × Unit)) (a3 a4 : Int) (u : Unit) (h : a2.length ≤ 9223372036854775807) (n : Int) (h0 : 0 ≤ n) (h1 : n ≤ 9223372036854775807) : F.laws_szSeat (a0, a1, a2, a3, a4, u) n = some (if (a2.length : Int) ≤ n then n - (a2.length : Int) else -1) := by
  unfold F.laws_szSeat
  simp only [szSpanS_eq a2 h n h0 h1, Option.bind_some]
  by_cases hle : (a2.length : Int) ≤ n
  · rw [if_pos hle, show decide (n - (a2.length : Int) < 0) = false from decide_eq_false (by omega)]; rfl
  · rw [if_neg hle]; rfl
theorem owed_law (a : Int × Int × List (Int × Int × Unit) × Int × Int × Unit) (h : a.2.2.1.length ≤ 9223372036854775807) : F.laws_FnExactOwed a = some true := by
  obtain ⟨a0, a1, a2, a3, a4, u⟩ := a
  unfold F.laws_FnExactOwed
  rw [szSeat_eq a0 a1 a2 a3 a4 u h 1048576 (by omega) (by omega)]
  by_cases hle : (a2.length : Int) ≤ 1048576
  · have hle' : a2.length ≤ 1048576 := by omega
    rw [if_pos hle]
    simp only [Option.bind_some]
    rw [show decide ((1048576 : Int) - (a2.length : Int) < 0) = false from decide_eq_false (by omega)]
    have hs : ∃ r, F.spec_Owed (a0, a1, a2, a3, a4, ()) = some r ∧ F.impl_Owed (a0, a1, a2, a3, a4, ()) = some r := by
      unfold F.spec_Owed F.impl_Owed F.spec_l1Max
      simp only [l1In_eq, within_eq, Option.bind_some]
      cases inR 0 60 a1 with
      | false => exact ⟨_, rfl, rfl⟩
      | true =>
        cases inR 0 60 a3 with
        | false => exact ⟨_, rfl, rfl⟩
        | true =>
          refine ⟨mxI 0 (w64 (a1 - a3)), ?_, rfl⟩
          unfold mxI
          by_cases hp : w64 (a1 - a3) > 0
          · simp [hp]
          · simp [hp]
    obtain ⟨r, hs, hi⟩ := hs
    simp only [cond_false, toSeat_eq a0 a1 a2 a3 a4 u hle', hs, hi, eqSeat_eq a0 a1 a2 a3 a4 hle', Option.bind_some, bne_self_eq_false, Bool.not_true]
  · rw [if_neg hle]
    rfl
end Go.Proofs.Ytabjfkongckhaaa.Vm
