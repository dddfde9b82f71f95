/- The law ConfOk, on the printed functions alone. -/
import Derived.Test.YtabjfkongckhaaaPureTurnOk
namespace Go.Proofs.Ytabjfkongckhaaa.Vm
open Go Go.RowKit
set_option linter.unusedVariables false

theorem szIntS_eq (a : List Int) (h : a.length ≤ 9223372036854775807) (n : Int) (h0 : 0 ≤ n) (h1 : n ≤ 9223372036854775807) : F.laws_szIntS a n = some (if (a.length : Int) ≤ n then n - (a.length : Int) else -1) := by
  unfold F.laws_szIntS
  rw [w64_id (by simp [len]; omega) (by simp [len]; omega)]
  by_cases hle : (a.length : Int) ≤ n
  · rw [if_pos hle, show decide (n - len a < 0) = false from decide_eq_false (by simp [len]; omega)]; rfl
  · rw [if_neg hle, show decide (n - len a < 0) = true from decide_eq_true (by simp [len]; omega)]; rfl
theorem confOk_law (a : Int × Int × Int × List Int × Int × Int × Int × Int × Unit) (h : a.2.2.2.1.length ≤ 9223372036854775807) : F.laws_FnExactConfOk a = some true := by
  obtain ⟨a0, a1, a2, a3, a4, a5, a6, a7, u⟩ := a
  unfold F.laws_FnExactConfOk
  have hsz : F.laws_szConf (a0, a1, a2, a3, a4, a5, a6, a7, u) 1048576 = some (if (a3.length : Int) ≤ 1048576 then 1048576 - (a3.length : Int) else -1) := by
    unfold F.laws_szConf
    simp only [szIntS_eq a3 h 1048576 (by omega) (by omega), Option.bind_some]
    by_cases hle : (a3.length : Int) ≤ 1048576
    · rw [if_pos hle, show decide ((1048576 : Int) - (a3.length : Int) < 0) = false from decide_eq_false (by omega)]; rfl
    · rw [if_neg hle]; rfl
  rw [hsz]
  by_cases hle : (a3.length : Int) ≤ 1048576
  · have hle' : a3.length ≤ 1048576 := by omega
    rw [if_pos hle]
    simp only [Option.bind_some]
    rw [show decide ((1048576 : Int) - (a3.length : Int) < 0) = false from decide_eq_false (by omega)]
    have hto : F.laws_toConf (a0, a1, a2, a3, a4, a5, a6, a7, u) = some (a0, a1, a2, a3, a4, a5, a6, a7, ()) := by
      unfold F.laws_toConf
      simp only [toIntS_eq a3 hle', Option.bind_some]
    have he : F.laws_eqConf (a0, a1, a2, a3, a4, a5, a6, a7, ()) (a0, a1, a2, a3, a4, a5, a6, a7, ()) = some true := by
      unfold F.laws_eqConf
      simp [eqIntS_eq a3 hle']
    have hs : ∃ r, F.spec_ConfOk (a0, a1, a2, a3, a4, a5, a6, a7, ()) = some r ∧ F.impl_ConfOk (a0, a1, a2, a3, a4, a5, a6, a7, ()) = some r := by
      have hst : F.spec_ConfOk (a0, a1, a2, a3, a4, a5, a6, a7, ()) = F.impl_ConfOk (a0, a1, a2, a3, a4, a5, a6, a7, ()) := by
        unfold F.spec_ConfOk F.impl_ConfOk
        simp only [l1In_eq, within_eq, l11Nums_eq a3 1 4 hle', allWithin_eq a3 3 1 4 hle', Option.bind_some]
      have hsome : ∃ r, F.impl_ConfOk (a0, a1, a2, a3, a4, a5, a6, a7, ()) = some r := by
        unfold F.impl_ConfOk
        simp only [within_eq, allWithin_eq a3 3 1 4 hle', Option.bind_some]
        cases inR 1 8 a0 with
        | false => exact ⟨_, rfl⟩
        | true => cases inR 1 60 a1 with
          | false => exact ⟨_, rfl⟩
          | true => cases inR 1 10 a2 with
            | false => exact ⟨_, rfl⟩
            | true => cases (len a3 == 3 && a3.all (inR 1 4)) with
              | false => exact ⟨_, rfl⟩
              | true => cases inR 1 100 a4 with
                | false => exact ⟨_, rfl⟩
                | true => cases inR 1 20 a5 with
                  | false => exact ⟨_, rfl⟩
                  | true => cases inR 0 20 a6 with
                    | false => exact ⟨_, rfl⟩
                    | true => exact ⟨_, rfl⟩
      obtain ⟨r, hr⟩ := hsome
      exact ⟨r, hst.trans hr, hr⟩
    obtain ⟨r, hs, hi⟩ := hs
    simp only [cond_false, hto, hs, hi, he, Option.bind_some, beq_self_eq_true, Bool.not_true]
  · rw [if_neg hle]
    rfl
end Go.Proofs.Ytabjfkongckhaaa.Vm
