/- The laws Pick and Picked, on the printed functions alone. -/
import Derived.Test.YtabjfkongckhaaaPurePick2
import Derived.Test.YtabjfkongckhaaaPureMh1
namespace Go.Proofs.Ytabjfkongckhaaa.Vm
open Go Go.RowKit
set_option linter.unusedVariables false

theorem inR_bd {lo hi x : Int} : inR lo hi x = true ↔ lo ≤ x ∧ x ≤ hi := by simp [inR]
theorem l11Copy_eq (t : T3) (h : t.2.2.1.length ≤ 1048576) : F.spec_l11Copy t = some t := by
  unfold F.spec_l11Copy
  rw [fits_of (by simp; omega)]; rfl
theorem copyTurn_eq (t : T3) (h : t.2.2.1.length ≤ 1048576) : F.impl_copyTurn t = some t := by
  unfold F.impl_copyTurn F.impl_copyInts
  rw [fits_of (by omega)]; rfl
theorem three {a : List Int} {lo hi : Int} (h : ((len a == 3) && a.all (inR lo hi)) = true) : ∃ x y z, a = [x, y, z] ∧ (lo ≤ x ∧ x ≤ hi) ∧ (lo ≤ y ∧ y ≤ hi) ∧ (lo ≤ z ∧ z ≤ hi) := by
  rw [Bool.and_eq_true, beq_iff_eq] at h
  obtain ⟨h1, h2⟩ := h
  have h1 : (a.length : Int) = 3 := h1
  obtain ⟨x, y, z, rfl⟩ : ∃ x y z, a = [x, y, z] := by
    match a, h1 with
    | [x, y, z], _ => exact ⟨x, y, z, rfl⟩
    | [], h => simp at h
    | [_], h => simp at h
    | [_, _], h => simp at h
    | _ :: _ :: _ :: _ :: _, h => simp at h; omega
  simp only [List.all_cons, List.all_nil, Bool.and_true, Bool.and_eq_true, inR, decide_eq_true_eq] at h2
  exact ⟨x, y, z, rfl, ⟨by omega, by omega⟩, ⟨by omega, by omega⟩, ⟨by omega, by omega⟩⟩
theorem max3 (x y z : Int) : F.slices_Max_int [x, y, z] = some (mxI (mxI x y) z) := by
  unfold F.slices_Max_int
  have h : loopO F.slices_Max_int.s5 ([x, y, z], List.getD [x, y, z] 0 0, 1, ()) = some (.inl ([x, y, z], mxI (mxI x y) z, 3, ())) := loopO_of (n := 3) rfl
  rw [h]; rfl
theorem turnOk_spec (t : T3) (h : t.2.2.1.length ≤ 1048576) : F.spec_TurnOk t = some (inR 0 2 t.1 && ((len t.2.2.1 == 3) && t.2.2.1.all (inR 0 1000))) := by
  unfold F.spec_TurnOk F.spec_l6Agent
  simp only [l1In_eq, l11Nums_eq _ 0 1000 h, Option.bind_some]
  cases inR 0 2 t.1 <;> rfl
theorem turnOk_impl (t : T3) (h : t.2.2.1.length ≤ 1048576) : F.impl_TurnOk t = some (inR 0 2 t.1 && ((len t.2.2.1 == 3) && t.2.2.1.all (inR 0 1000))) := by
  unfold F.impl_TurnOk
  simp only [within_eq, allWithin_eq _ 3 0 1000 h, Option.bind_some]
  cases inR 0 2 t.1 <;> rfl
/-- What is asked of Pick's arguments. -/
def pickOk (a b : List Int) (q : Int) (t : T3) : Bool := ((len a == 3) && a.all (inR 0 200)) && (((len b == 3) && b.all (inR 1 4)) && (inR 1 60 q && (inR 0 2 t.1 && ((len t.2.2.1 == 3) && t.2.2.1.all (inR 0 1000)))))
/-- What Pick answers. -/
theorem pick_same (a b : List Int) (q : Int) (t : T3) (ha : a.length ≤ 1048576) (hb : b.length ≤ 1048576) (ht : t.2.2.1.length ≤ 1048576) : ∃ r : Int × T3, F.spec_Pick a b q t = some r ∧ F.impl_Pick a b q t = some r ∧
    ((pickOk a b q t = false ∧ r = (-1, t)) ∨ (pickOk a b q t = true ∧ a.all (fun x => x == 0) = true ∧ r = (-1, (0, true, [0, 0, 0], ()))) ∨
      (pickOk a b q t = true ∧ ∃ s0 s1 s2 m0 m1 m2, a = [s0, s1, s2] ∧ t.2.2.1 = [m0, m1, m2] ∧ PRes s0 s1 s2 m0 m1 m2 r)) := by
  unfold F.spec_Pick F.impl_Pick
  simp only [l11Copy_eq t ht, copyTurn_eq t ht, l11Nums_eq a 0 200 ha, l11Nums_eq b 1 4 hb, l1In_eq, within_eq, turnOk_spec t ht, turnOk_impl t ht, allWithin_eq a 3 0 200 ha, allWithin_eq b 3 1 4 hb, l11Nums_eq a 0 0 ha, Option.bind_some]
  cases h1 : ((len a == 3) && a.all (inR 0 200)) with
  | false => exact ⟨_, rfl, rfl, .inl ⟨by unfold pickOk; rw [h1]; rfl, rfl⟩⟩
  | true => cases h2 : ((len b == 3) && b.all (inR 1 4)) with
    | false => exact ⟨_, rfl, rfl, .inl ⟨by unfold pickOk; rw [h1, h2]; rfl, rfl⟩⟩
    | true => cases h3 : inR 1 60 q with
      | false => exact ⟨_, rfl, rfl, .inl ⟨by unfold pickOk; rw [h1, h2, h3]; rfl, rfl⟩⟩
      | true => cases h4 : (inR 0 2 t.1 && ((len t.2.2.1 == 3) && t.2.2.1.all (inR 0 1000))) with
        | false => exact ⟨_, rfl, rfl, .inl ⟨by unfold pickOk; rw [h1, h2, h3, h4]; rfl, rfl⟩⟩
        | true =>
          have hok : pickOk a b q t = true := by unfold pickOk; rw [h1, h2, h3, h4]; rfl
          obtain ⟨s0, s1, s2, rfl, k0, k1, k2⟩ := three h1
          obtain ⟨w0, w1, w2, rfl, g0, g1, g2⟩ := three h2
          obtain ⟨at_, f, l, u⟩ := t
          rw [Bool.and_eq_true] at h4
          obtain ⟨l0, l1, l2, hl, b0, b1, b2⟩ := three h4.2
          have hl : l = [l0, l1, l2] := hl
          subst hl
          have hq := inR_bd.1 h3
          have hat := inR_bd.1 h4.1
          simp only at hat
          simp only [Bool.not_true, cond_false, max3, Option.bind_some]
          by_cases hz : s0 = 0 ∧ s1 = 0 ∧ s2 = 0
          · obtain ⟨rfl, rfl, rfl⟩ := hz
            refine ⟨(-1, (0, true, [0, 0, 0], ())), rfl, rfl, .inr (.inl ⟨hok, rfl, rfl⟩)⟩
          · have e1 : ((len [s0, s1, s2] == 3) && [s0, s1, s2].all (inR 0 0)) = false := by
              rw [show (len [s0, s1, s2] == 3) = true from rfl]
              simp only [List.all_cons, List.all_nil, inR, Bool.and_true, Bool.true_and]
              by_cases z0 : s0 = 0
              · by_cases z1 : s1 = 0
                · have z2 : s2 ≠ 0 := fun h => hz ⟨z0, z1, h⟩
                  rw [show decide (s2 ≤ 0) = false from decide_eq_false (by omega)]; simp
                · rw [show decide (s1 ≤ 0) = false from decide_eq_false (by omega)]; simp
              · rw [show decide (s0 ≤ 0) = false from decide_eq_false (by omega)]; simp
            have e2 : (mxI (mxI s0 s1) s2 == 0) = false := by
              rw [beq_eq_false_iff_ne]
              unfold mxI
              intro h
              split at h <;> split at h <;> omega
            rw [e1, e2]
            simp only [cond_false]
            obtain ⟨r, hr, hres⟩ := pick_loop s0 s1 s2 w0 w1 w2 q (0, false, [], ()) (at_, f, [l0, l1, l2], u) k0 k1 k2 g0 g1 g2 hq hz (m0 := l0) (m1 := l1) (m2 := l2) ⟨b0.1, b1.1, b2.1⟩
              ⟨at_.toNat, f, l0, l1, l2, by rw [Int.toNat_of_nonneg hat.1], by omega, b0, b1, b2, fun _ => Int.le_refl _, fun _ => Int.le_refl _, fun _ => Int.le_refl _⟩
            refine ⟨r, ?_, ?_, .inr (.inr ⟨hok, s0, s1, s2, l0, l1, l2, rfl, rfl, hres⟩)⟩
            · rw [pick_step, hr]; rfl
            · rw [hr]; rfl
theorem mh_Turn (a : T3) (k : Int) (h : a.2.2.1.length ≤ 1048576) (h0 : 0 ≤ k) (h1 : k + (a.2.2.1.length : Int) ≤ 1000000000000) : ∃ a', F.laws_markTurn a k = some (k + (a.2.2.1.length : Int), a') ∧ F.laws_heldTurn a' k = some (k + (a.2.2.1.length : Int)) := by
  obtain ⟨l', g1, g2⟩ := mh_IntS a.2.2.1 k h h0 h1
  refine ⟨_, by unfold F.laws_markTurn; rw [g1]; rfl, ?_⟩
  unfold F.laws_heldTurn
  rw [g2]
  simp only [Option.bind_some]
  rw [show decide (k + (a.2.2.1.length : Int) < 0) = false from decide_eq_false (by omega)]
  rfl
theorem eqTurn_eq (t : T3) (h : t.2.2.1.length ≤ 1048576) : F.laws_eqTurn t t = some true := by
  unfold F.laws_eqTurn
  simp [eqIntS_eq _ h]
theorem szTurn_eq (a : T3) (h : a.2.2.1.length ≤ 9223372036854775807) : F.laws_szTurn a 1048576 = some (if a.2.2.1.length ≤ 1048576 then (1048576 - (a.2.2.1.length : Int)) else -1) := by
  unfold F.laws_szTurn F.laws_szIntS
  rw [w64_id (by simp [len]; omega) (by simp [len]; omega)]
  by_cases hle : a.2.2.1.length ≤ 1048576
  · rw [show decide ((1048576 : Int) - len a.2.2.1 < 0) = false from decide_eq_false (by simp [len]; omega), if_pos hle]
    simp only [cond_false, Option.bind_some]
    rw [show decide ((1048576 : Int) - len a.2.2.1 < 0) = false from decide_eq_false (by simp [len]; omega)]
    rfl
  · rw [show decide ((1048576 : Int) - len a.2.2.1 < 0) = true from decide_eq_true (by simp [len]; omega), if_neg hle]
    rfl
theorem toTurn_eq (t : T3) (h : t.2.2.1.length ≤ 1048576) : F.laws_toTurn t = some t := by
  unfold F.laws_toTurn
  rw [toIntS_eq _ h]; rfl
theorem pick_law (a b : List Int) (q : Int) (t : T3) (h : t.2.2.1.length ≤ 9223372036854775807) : F.laws_FnExactPick a b q t = some true := by
  unfold F.laws_FnExactPick
  by_cases ha : a.length ≤ 1048576
  · rw [show decide (len a > 1048576) = false from decide_eq_false (by simp [len]; omega)]
    by_cases hb : b.length ≤ 1048576
    · rw [show decide (len b > 1048576) = false from decide_eq_false (by simp [len]; omega), szTurn_eq t h]
      by_cases ht : t.2.2.1.length ≤ 1048576
      · rw [if_pos ht]
        obtain ⟨r, hs, hi, hr⟩ := pick_same a b q t ha hb ht
        have hrl : r.2.2.2.1.length ≤ 1048576 := by
          rcases hr with ⟨_, rfl⟩ | ⟨_, _, rfl⟩ | ⟨_, s0, s1, s2, m0, m1, m2, _, _, i, hi, l0, l1, l2, rfl, _⟩
          · exact ht
          · simp
          · simp
        obtain ⟨x1, m1, _⟩ := mh_IntS a 1 ha (by omega) (by omega)
        obtain ⟨x2, m2, _⟩ := mh_IntS b (1 + (a.length : Int)) hb (by omega) (by omega)
        obtain ⟨x3, m3, _⟩ := mh_Turn t (1 + (a.length : Int) + (b.length : Int)) ht (by omega) (by omega)
        obtain ⟨x4, m4, m5⟩ := mh_Turn r.2 1 hrl (by omega) (by omega)
        simp only [cond_false, Option.bind_some, show decide ((1048576 : Int) - (t.2.2.1.length : Int) < 0) = false from decide_eq_false (by omega), toIntS_eq a ha, toIntS_eq b hb, toTurn_eq t ht, hs, hi, bne_self_eq_false, eqTurn_eq r.2 hrl, eqTurn_eq t ht, eqIntS_eq a ha, eqIntS_eq b hb, Bool.not_true, m1, m2, m3, m4, m5, show decide ((1 : Int) + (a.length : Int) + (b.length : Int) + (t.2.2.1.length : Int) < 0) = false from decide_eq_false (by omega), show decide ((1 : Int) + (r.2.2.2.1.length : Int) < 0) = false from decide_eq_false (by omega)]
      · rw [if_neg ht]; rfl
    · rw [show decide (len b > 1048576) = true from decide_eq_true (by simp [len]; omega)]; rfl
  · rw [show decide (len a > 1048576) = true from decide_eq_true (by simp [len]; omega)]; rfl
end Go.Proofs.Ytabjfkongckhaaa.Vm
