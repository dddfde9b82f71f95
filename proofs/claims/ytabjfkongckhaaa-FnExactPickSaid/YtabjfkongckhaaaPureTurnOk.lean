/- The law TurnOk, on the printed functions alone. -/
import Derived.Test.YtabjfkongckhaaaGf
import Derived.Test.YtabjfkongckhaaaV3
namespace Go.Proofs.Ytabjfkongckhaaa.Vm
open Go Go.RowKit
set_option linter.unusedVariables false

def inR (lo hi x : Int) : Bool := decide (x ≥ lo) && decide (x ≤ hi)
theorem l1In_eq (x lo hi : Int) : F.spec_l1In x lo hi = some (inR lo hi x) := by
  unfold F.spec_l1In inR
  cases decide (x ≥ lo) <;> rfl
theorem within_eq (x lo hi : Int) : F.impl_within x lo hi = some (inR lo hi x) := by
  unfold F.impl_within inR
  cases decide (x ≥ lo) <;> rfl
theorem toIntS_eq (a : List Int) (h : a.length ≤ 1048576) : F.laws_toIntS a = some a := by
  unfold F.laws_toIntS
  have hm : mk 8 (len a) (len a) = true := by simp [mk, len]; omega
  rw [hm, chk_true]
  obtain ⟨y, h1, h2⟩ := loopO_rule (step := F.laws_toIntS.s3) (fun x => x.1 = a ∧ 0 ≤ x.2.2.1 ∧ x.2.2.1 ≤ a.length ∧ x.2.1 = a.take x.2.2.1.toNat ++ List.replicate (a.length - x.2.2.1.toNat) 0) (fun y => ∃ i, y = .inl (a, a, i, ()))
    (fun x => a.length - x.2.2.1.toNat) (fun x hx => by
      obtain ⟨x1, x2, x3, u⟩ := x
      obtain ⟨rfl, g1, g2, g3⟩ := hx
      simp only at g1 g2 g3
      have h : x1.length ≤ 1048576 := h
      unfold F.laws_toIntS.s3
      simp only
      by_cases hlt : x3 < (x1.length : Int)
      · have hi : x3.toNat < x1.length := by omega
        have hl2 : x2.length = x1.length := by rw [g3, List.length_append, List.length_take, List.length_replicate]; omega
        refine ⟨.again (x1, List.set x2 x3.toNat (List.getD x1 x3.toNat 0), w64 (x3 + 1), ()), ?_, ⟨rfl, ?_, ?_, ?_⟩, ?_⟩
        · rw [show decide (x3 < len x1) = true from decide_eq_true hlt, inb_of g1 hlt, inb_of g1 (by rw [hl2]; exact hlt)]; rfl
        all_goals rw [w64_id (by omega) (by omega)]
        · show (0 : Int) ≤ x3 + 1; omega
        · show x3 + 1 ≤ (x1.length : Int); omega
        · show List.set x2 x3.toNat (List.getD x1 x3.toNat 0) = x1.take (x3 + 1).toNat ++ List.replicate (x1.length - (x3 + 1).toNat) 0
          rw [g3, show (x3 + 1).toNat = x3.toNat + 1 by omega, copy_step 0 x1 hi]
        · show x1.length - (x3 + 1).toNat < x1.length - x3.toNat; omega
      · refine ⟨.exit (x1, x2, x3, ()), ?_, x3, ?_⟩
        · rw [show decide (x3 < len x1) = false from decide_eq_false hlt]; rfl
        · have : x3.toNat = x1.length := by omega
          rw [g3, this, List.take_length, Nat.sub_self]
          simp) (x := (a, List.replicate (Int.toNat (len a)) 0, 0, ())) ⟨rfl, Int.le_refl 0, by simp, by simp⟩
  obtain ⟨i, rfl⟩ := h2
  rw [h1]; rfl
theorem eqIntS_eq (a : List Int) (h : a.length ≤ 1048576) : F.laws_eqIntS a a = some true := by
  unfold F.laws_eqIntS
  rw [show (len a != len a) = false by simp]
  simp only [cond_false]
  obtain ⟨y, h1, h2⟩ := loopO_rule (step := F.laws_eqIntS.s4) (fun x => x.1 = a ∧ x.2.1 = a ∧ 0 ≤ x.2.2.1 ∧ x.2.2.1 ≤ a.length) (fun y => ∃ i, y = .inl i)
    (fun x => a.length - x.2.2.1.toNat) (fun x hx => by
      obtain ⟨x1, x2, x3, u⟩ := x
      obtain ⟨rfl, hx2, g1, g2⟩ := hx
      simp only at g1 g2 hx2
      subst hx2
      have h : x2.length ≤ 1048576 := h
      unfold F.laws_eqIntS.s4
      simp only
      by_cases hlt : x3 < (x2.length : Int)
      · refine ⟨.again (x2, x2, w64 (x3 + 1), ()), ?_, ⟨rfl, rfl, ?_, ?_⟩, ?_⟩
        · rw [show decide (x3 < len x2) = true from decide_eq_true hlt, inb_of g1 hlt, bne_self_eq_false]; rfl
        all_goals rw [w64_id (by omega) (by omega)]
        · show (0 : Int) ≤ x3 + 1; omega
        · show x3 + 1 ≤ (x2.length : Int); omega
        · show x2.length - (x3 + 1).toNat < x2.length - x3.toNat; omega
      · refine ⟨.exit (x2, x2, x3, ()), ?_, _, rfl⟩
        rw [show decide (x3 < len x2) = false from decide_eq_false hlt]; rfl) (x := (a, a, 0, ())) ⟨rfl, rfl, Int.le_refl 0, by simp⟩
  obtain ⟨i, rfl⟩ := h2
  rw [h1]; rfl
theorem l11Nums_eq (a : List Int) (lo hi : Int) (h : a.length ≤ 1048576) : F.spec_l11Nums a lo hi = some ((len a == 3) && a.all (inR lo hi)) := by
  unfold F.spec_l11Nums
  cases h3 : (len a == 3) with
  | false => rw [show (len a != 3) = true by simp [bne, h3]]; rfl
  | true =>
    rw [show (len a != 3) = false by simp [bne, h3]]
    simp only [cond_false]
    obtain ⟨y, h1, h2⟩ := loopO_rule (step := F.spec_l11Nums.s4) (fun x => x.1 = a ∧ x.2.1 = lo ∧ x.2.2.1 = hi ∧ 0 ≤ x.2.2.2.1 ∧ x.2.2.2.1 ≤ a.length ∧ ∀ i (h : i < a.length), (i : Int) < x.2.2.2.1 → inR lo hi a[i] = true)
      (fun y => (∃ i, y = .inl i ∧ a.all (inR lo hi) = true) ∨ (y = .inr false ∧ a.all (inR lo hi) = false))
      (fun x => a.length - x.2.2.2.1.toNat) (fun x hx => by
        obtain ⟨x1, x2, x3, x4, u⟩ := x
        obtain ⟨rfl, e2, e3, g1, g2, g3⟩ := hx
        simp only at g1 g2 g3 e2 e3
        subst e2; subst e3
        have h : x1.length ≤ 1048576 := h
        unfold F.spec_l11Nums.s4
        simp only
        by_cases hlt : x4 < (x1.length : Int)
        · have hin : x4.toNat < x1.length := by omega
          rw [show decide (x4 < len x1) = true from decide_eq_true hlt, inb_of g1 hlt, l1In_eq, getD_at hin]
          cases hr : inR x2 x3 x1[x4.toNat] with
          | false => exact ⟨.ret false, rfl, .inr ⟨rfl, all_not hin hr⟩⟩
          | true =>
            refine ⟨.again (x1, x2, x3, w64 (x4 + 1), ()), rfl, ⟨rfl, rfl, rfl, ?_, ?_, ?_⟩, ?_⟩
            all_goals rw [w64_id (by omega) (by omega)]
            · show (0 : Int) ≤ x4 + 1; omega
            · show x4 + 1 ≤ (x1.length : Int); omega
            · intro i hi hlt'
              by_cases e : i = x4.toNat
              · subst e; exact hr
              · have hlt' : (i : Int) < x4 + 1 := hlt'
                exact g3 i hi (by omega)
            · show x1.length - (x4 + 1).toNat < x1.length - x4.toNat; omega
        · refine ⟨.exit (x1, x2, x3, x4, ()), ?_, .inl ⟨_, rfl, all_get (fun i hi => g3 i hi (by omega))⟩⟩
          rw [show decide (x4 < len x1) = false from decide_eq_false hlt]; rfl) (x := (a, lo, hi, 0, ())) ⟨rfl, rfl, rfl, Int.le_refl 0, by simp, fun i hi h => by
            have h : (i : Int) < 0 := h
            omega⟩
    rw [h1]
    rcases h2 with ⟨i, rfl, ha⟩ | ⟨rfl, ha⟩ <;> rw [ha] <;> rfl
theorem allWithin_eq (a : List Int) (n lo hi : Int) (h : a.length ≤ 1048576) : F.impl_allWithin a n lo hi = some ((len a == n) && a.all (inR lo hi)) := by
  unfold F.impl_allWithin
  obtain ⟨y, h1, h2⟩ := loopO_rule (step := F.impl_allWithin.s2) (fun x => x.1 = a ∧ x.2.1 = n ∧ x.2.2.1 = lo ∧ x.2.2.2.1 = hi ∧ x.2.2.2.2.1 = a ∧ x.2.2.2.2.2.1 = len a ∧ 0 ≤ x.2.2.2.2.2.2.1 ∧ x.2.2.2.2.2.2.1 ≤ a.length ∧ ∀ i (h : i < a.length), (i : Int) < x.2.2.2.2.2.2.1 → inR lo hi a[i] = true)
    (fun y => (∃ b c d e f, y = .inl (a, n, b, c, d, e, f, ()) ∧ a.all (inR lo hi) = true) ∨ (y = .inr false ∧ a.all (inR lo hi) = false))
    (fun x => a.length - x.2.2.2.2.2.2.1.toNat) (fun x hx => by
      obtain ⟨x1, x2, x3, x4, x5, x6, x7, u⟩ := x
      obtain ⟨rfl, e2, e3, e4, e5, e6, g1, g2, g3⟩ := hx
      simp only at g1 g2 g3 e2 e3 e4 e5 e6
      subst e2; subst e3; subst e4; subst e5; subst e6
      have h : x5.length ≤ 1048576 := h
      unfold F.impl_allWithin.s2
      simp only
      by_cases hlt : x7 < (x5.length : Int)
      · have hin : x7.toNat < x5.length := by omega
        rw [show decide (x7 < len x5) = true from decide_eq_true hlt, inb_of g1 hlt, within_eq, getD_at hin]
        cases hr : inR x3 x4 x5[x7.toNat] with
        | false => exact ⟨.ret false, rfl, .inr ⟨rfl, all_not hin hr⟩⟩
        | true =>
          refine ⟨.again (x5, x2, x3, x4, x5, len x5, w64 (x7 + 1), ()), rfl, ⟨rfl, rfl, rfl, rfl, rfl, rfl, ?_, ?_, ?_⟩, ?_⟩
          all_goals rw [w64_id (by omega) (by omega)]
          · show (0 : Int) ≤ x7 + 1; omega
          · show x7 + 1 ≤ (x5.length : Int); omega
          · intro i hi hlt'
            by_cases e : i = x7.toNat
            · subst e; exact hr
            · have hlt' : (i : Int) < x7 + 1 := hlt'
              exact g3 i hi (by omega)
          · show x5.length - (x7 + 1).toNat < x5.length - x7.toNat; omega
      · refine ⟨.exit (x5, x2, x3, x4, x5, len x5, x7, ()), ?_, .inl ⟨_, _, _, _, _, rfl, all_get (fun i hi => g3 i hi (by omega))⟩⟩
        rw [show decide (x7 < len x5) = false from decide_eq_false hlt]; rfl) (x := (a, n, lo, hi, a, len a, 0, ())) ⟨rfl, rfl, rfl, rfl, rfl, rfl, Int.le_refl 0, by simp, fun i hi h => by
          have h : (i : Int) < 0 := h
          omega⟩
  rw [h1]
  rcases h2 with ⟨b, c, d, e, f, rfl, ha⟩ | ⟨rfl, ha⟩
  · rw [ha, Bool.and_true]; rfl
  · rw [ha, Bool.and_false]; rfl
theorem turnOk_law (a : Int × Bool × List Int × Unit) (h : a.2.2.1.length ≤ 9223372036854775807) : F.laws_FnExactTurnOk a = some true := by
  obtain ⟨a0, a1, a2, u⟩ := a
  have h : a2.length ≤ 9223372036854775807 := h
  unfold F.laws_FnExactTurnOk
  have hsz : F.laws_szTurn (a0, a1, a2, u) 1048576 = some (if a2.length ≤ 1048576 then (1048576 - (a2.length : Int)) else -1) := by
    unfold F.laws_szTurn F.laws_szIntS
    simp only
    rw [w64_id (by simp [len]; omega) (by simp [len]; omega)]
    by_cases hle : a2.length ≤ 1048576
    · rw [show decide ((1048576 : Int) - len a2 < 0) = false from decide_eq_false (by simp [len]; omega), if_pos hle]
      simp only [cond_false, Option.bind_some]
      rw [show decide ((1048576 : Int) - len a2 < 0) = false from decide_eq_false (by simp [len]; omega)]
      rfl
    · rw [show decide ((1048576 : Int) - len a2 < 0) = true from decide_eq_true (by simp [len]; omega), if_neg hle]
      rfl
  rw [hsz]
  by_cases hle : a2.length ≤ 1048576
  · rw [if_pos hle]
    simp only [Option.bind_some]
    rw [show decide ((1048576 : Int) - (a2.length : Int) < 0) = false from decide_eq_false (by omega)]
    have hto : F.laws_toTurn (a0, a1, a2, u) = some (a0, a1, a2, ()) := by
      unfold F.laws_toTurn
      simp only [toIntS_eq a2 hle, Option.bind_some]
    have hs : F.spec_TurnOk (a0, a1, a2, ()) = some (inR 0 2 a0 && ((len a2 == 3) && a2.all (inR 0 1000))) := by
      unfold F.spec_TurnOk F.spec_l6Agent
      simp only [l1In_eq, l11Nums_eq a2 0 1000 hle, Option.bind_some]
      cases inR 0 2 a0 <;> rfl
    have hi : F.impl_TurnOk (a0, a1, a2, ()) = some (inR 0 2 a0 && ((len a2 == 3) && a2.all (inR 0 1000))) := by
      unfold F.impl_TurnOk
      simp only [within_eq, allWithin_eq a2 3 0 1000 hle, Option.bind_some]
      cases inR 0 2 a0 <;> rfl
    have he : F.laws_eqTurn (a0, a1, a2, ()) (a0, a1, a2, ()) = some true := by
      unfold F.laws_eqTurn
      simp [eqIntS_eq a2 hle]
    simp only [cond_false, hto, hs, hi, he, Option.bind_some, beq_self_eq_true, Bool.not_true]
  · rw [if_neg hle]
    rfl
end Go.Proofs.Ytabjfkongckhaaa.Vm
