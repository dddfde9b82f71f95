/- Sets of spans: both versions' tests answer alike. -/
import Derived.Test.YtabjfkongckhaaaPureOwed
namespace Go.Proofs.Ytabjfkongckhaaa.Vm
open Go Go.RowKit
set_option linter.unusedVariables false

abbrev Sp := Int × Int × Unit
/-- Span i stands well, behind the one ahead of it. -/
def okAt (a : List Sp) (i : Nat) (h : i < a.length) : Prop := inR 0 9999 a[i].1 = true ∧ inR a[i].1 9999 a[i].2.1 = true ∧ ∀ h0 : 0 < i, ¬ (a[i].1 ≤ (a[i - 1]'(by omega)).2.1 + 1)
def Good (a : List Sp) : Prop := ∀ (i : Nat) (h : i < a.length), okAt a i h
theorem inR_iff {lo hi x : Int} : inR lo hi x = true ↔ lo ≤ x ∧ x ≤ hi := by simp [inR]
theorem specSet_ok (a : List Sp) (h : a.length ≤ 1048576) : (F.spec_SetOk a = some true ∧ Good a) ∨ (F.spec_SetOk a = some false ∧ ¬ Good a) := by
  unfold F.spec_SetOk
  obtain ⟨y, h1, h2⟩ := loopO_rule (step := F.spec_SetOk.s2) (fun x => x.1 = a ∧ 0 ≤ x.2.1 ∧ x.2.1 ≤ a.length ∧ ∀ (i : Nat) (hi : i < a.length), (i : Int) < x.2.1 → okAt a i hi) (fun y => (∃ i, y = .inl i ∧ Good a) ∨ (y = .inr false ∧ ¬ Good a))
    (fun x => a.length - x.2.1.toNat) (fun x hx => by
      obtain ⟨x1, x2, u⟩ := x
      obtain ⟨rfl, g1, g2, g3⟩ := hx
      simp only at g1 g2 g3
      have h : x1.length ≤ 1048576 := h
      unfold F.spec_SetOk.s2
      simp only
      by_cases hlt : x2 < (x1.length : Int)
      · have hin : x2.toNat < x1.length := by omega
        have again : okAt x1 x2.toNat hin → (x1 = x1 ∧ 0 ≤ w64 (x2 + 1) ∧ w64 (x2 + 1) ≤ x1.length ∧ ∀ (i : Nat) (hi : i < x1.length), (i : Int) < w64 (x2 + 1) → okAt x1 i hi) ∧ x1.length - (w64 (x2 + 1)).toNat < x1.length - x2.toNat := by
          intro hok
          refine ⟨⟨rfl, ?_, ?_, ?_⟩, ?_⟩
          all_goals rw [w64_id (by omega) (by omega)]
          · omega
          · omega
          · intro i hi hlt'
            by_cases e : i = x2.toNat
            · subst e; exact hok
            · exact g3 i hi (by omega)
          · omega
        rw [show decide (x2 < len x1) = true from decide_eq_true hlt, inb_of g1 hlt, l1In_eq, l1In_eq, getD_at hin]
        simp only [chk_true, cond_true, Option.bind_some]
        cases hr : inR 0 9999 x1[x2.toNat].1 with
        | false => exact ⟨.ret false, rfl, .inr ⟨rfl, fun hg => by have := (hg _ hin).1; rw [hr] at this; cases this⟩⟩
        | true =>
          simp only [Bool.not_true, cond_false]
          cases hr2 : inR x1[x2.toNat].1 9999 x1[x2.toNat].2.1 with
          | false => exact ⟨.ret false, rfl, .inr ⟨rfl, fun hg => by have := (hg _ hin).2.1; rw [hr2] at this; cases this⟩⟩
          | true =>
            simp only [Bool.not_true, cond_false]
            by_cases hp : x2 > 0
            · have hin2 : x2.toNat - 1 < x1.length := by omega
              have hb := (g3 (x2.toNat - 1) hin2 (by omega))
              have hb1 := inR_iff.1 hb.1
              have hb2 := inR_iff.1 hb.2.1
              rw [show decide (x2 > 0) = true from decide_eq_true hp, w64_id (x := x2 - 1) (by omega) (by omega), inb_of (i := x2 - 1) (by omega) (by omega), show (x2 - 1).toNat = x2.toNat - 1 by omega, getD_at hin2, w64_id (x := x1[x2.toNat - 1].2.1 + 1) (by omega) (by omega)]
              simp only [chk_true, cond_true]
              by_cases hle : x1[x2.toNat].1 ≤ x1[x2.toNat - 1].2.1 + 1
              · rw [show decide (x1[x2.toNat].1 ≤ x1[x2.toNat - 1].2.1 + 1) = true from decide_eq_true hle]
                exact ⟨.ret false, rfl, .inr ⟨rfl, fun hg => (hg _ hin).2.2 (by omega) hle⟩⟩
              · rw [show decide (x1[x2.toNat].1 ≤ x1[x2.toNat - 1].2.1 + 1) = false from decide_eq_false hle]
                exact ⟨.again (x1, w64 (x2 + 1), ()), rfl, again ⟨hr, hr2, fun _ => hle⟩⟩
            · rw [show decide (x2 > 0) = false from decide_eq_false hp]
              exact ⟨.again (x1, w64 (x2 + 1), ()), rfl, again ⟨hr, hr2, fun h0 => by omega⟩⟩
      · refine ⟨.exit (x1, x2, ()), ?_, .inl ⟨_, rfl, fun i hi => g3 i hi (by omega)⟩⟩
        rw [show decide (x2 < len x1) = false from decide_eq_false hlt]; rfl) (x := (a, 0, ())) ⟨rfl, Int.le_refl 0, by simp, fun i hi h => by
          have h : (i : Int) < 0 := h
          omega⟩
  rw [h1]
  rcases h2 with ⟨i, rfl, hg⟩ | ⟨rfl, hg⟩
  · exact .inl ⟨rfl, hg⟩
  · exact .inr ⟨rfl, hg⟩
theorem implSet_ok (a : List Sp) (h : a.length ≤ 1048576) : (F.impl_SetOk a = some true ∧ Good a) ∨ (F.impl_SetOk a = some false ∧ ¬ Good a) := by
  unfold F.impl_SetOk
  obtain ⟨y, h1, h2⟩ := loopO_rule (step := F.impl_SetOk.s2) (fun x => x.1 = a ∧ x.2.1 = a ∧ x.2.2.1 = len a ∧ 0 ≤ x.2.2.2.1 ∧ x.2.2.2.1 ≤ a.length ∧ ∀ (i : Nat) (hi : i < a.length), (i : Int) < x.2.2.2.1 → okAt a i hi) (fun y => (∃ i, y = .inl i ∧ Good a) ∨ (y = .inr false ∧ ¬ Good a))
    (fun x => a.length - x.2.2.2.1.toNat) (fun x hx => by
      obtain ⟨x1, xa, xl, x2, u⟩ := x
      obtain ⟨rfl, ea, el, g1, g2, g3⟩ := hx
      simp only at g1 g2 g3 ea el
      subst ea; subst el
      have h : xa.length ≤ 1048576 := h
      unfold F.impl_SetOk.s2
      simp only
      by_cases hlt : x2 < (xa.length : Int)
      · have hin : x2.toNat < xa.length := by omega
        have again : okAt xa x2.toNat hin → (xa = xa ∧ xa = xa ∧ len xa = len xa ∧ 0 ≤ w64 (x2 + 1) ∧ w64 (x2 + 1) ≤ xa.length ∧ ∀ (i : Nat) (hi : i < xa.length), (i : Int) < w64 (x2 + 1) → okAt xa i hi) ∧ xa.length - (w64 (x2 + 1)).toNat < xa.length - x2.toNat := by
          intro hok
          refine ⟨⟨rfl, rfl, rfl, ?_, ?_, ?_⟩, ?_⟩
          all_goals rw [w64_id (by omega) (by omega)]
          · omega
          · omega
          · intro i hi hlt'
            by_cases e : i = x2.toNat
            · subst e; exact hok
            · exact g3 i hi (by omega)
          · omega
        rw [show decide (x2 < len xa) = true from decide_eq_true hlt, inb_of g1 hlt, within_eq, within_eq, getD_at hin]
        simp only [chk_true, cond_true, Option.bind_some]
        cases hr : inR 0 9999 xa[x2.toNat].1 with
        | false => exact ⟨.ret false, rfl, .inr ⟨rfl, fun hg => by have := (hg _ hin).1; rw [hr] at this; cases this⟩⟩
        | true =>
          simp only [Bool.not_true, cond_false]
          cases hr2 : inR xa[x2.toNat].1 9999 xa[x2.toNat].2.1 with
          | false => exact ⟨.ret false, rfl, .inr ⟨rfl, fun hg => by have := (hg _ hin).2.1; rw [hr2] at this; cases this⟩⟩
          | true =>
            simp only [Bool.not_true, cond_false]
            by_cases hp : x2 > 0
            · have hin2 : x2.toNat - 1 < xa.length := by omega
              have hb := (g3 (x2.toNat - 1) hin2 (by omega))
              have hb1 := inR_iff.1 hb.1
              have hb2 := inR_iff.1 hb.2.1
              rw [show decide (x2 > 0) = true from decide_eq_true hp, w64_id (x := x2 - 1) (by omega) (by omega), inb_of (i := x2 - 1) (by omega) (by omega), show (x2 - 1).toNat = x2.toNat - 1 by omega, getD_at hin2, w64_id (x := xa[x2.toNat - 1].2.1 + 1) (by omega) (by omega)]
              simp only [chk_true, cond_true]
              by_cases hle : xa[x2.toNat].1 ≤ xa[x2.toNat - 1].2.1 + 1
              · rw [show decide (xa[x2.toNat].1 ≤ xa[x2.toNat - 1].2.1 + 1) = true from decide_eq_true hle]
                exact ⟨.ret false, rfl, .inr ⟨rfl, fun hg => (hg _ hin).2.2 (by omega) hle⟩⟩
              · rw [show decide (xa[x2.toNat].1 ≤ xa[x2.toNat - 1].2.1 + 1) = false from decide_eq_false hle]
                exact ⟨.again (xa, xa, len xa, w64 (x2 + 1), ()), rfl, again ⟨hr, hr2, fun _ => hle⟩⟩
            · rw [show decide (x2 > 0) = false from decide_eq_false hp]
              exact ⟨.again (xa, xa, len xa, w64 (x2 + 1), ()), rfl, again ⟨hr, hr2, fun h0 => by omega⟩⟩
      · refine ⟨.exit (xa, xa, len xa, x2, ()), ?_, .inl ⟨_, rfl, fun i hi => g3 i hi (by omega)⟩⟩
        rw [show decide (x2 < len xa) = false from decide_eq_false hlt]; rfl) (x := (a, a, len a, 0, ())) ⟨rfl, rfl, rfl, Int.le_refl 0, by simp, fun i hi h => by
          have h : (i : Int) < 0 := h
          omega⟩
  rw [h1]
  rcases h2 with ⟨i, rfl, hg⟩ | ⟨rfl, hg⟩
  · exact .inl ⟨rfl, hg⟩
  · exact .inr ⟨rfl, hg⟩
/-- The spans go up. -/
theorem good_up {a : List Sp} (hg : Good a) : ∀ (k i : Nat) (hi : i + k < a.length), (a[i]'(by omega)).1 ≤ (a[i + k]).1 ∧ (a[i]'(by omega)).2.1 ≤ (a[i + k]).2.1
  | 0, i, hi => ⟨Int.le_refl _, Int.le_refl _⟩
  | k + 1, i, hi => by
    obtain ⟨g1, g2⟩ := good_up hg k i (by omega)
    have h1 := hg (i + k) (by omega)
    have h2 := hg (i + (k + 1)) hi
    have h3 := inR_iff.1 h1.2.1
    have h4 := inR_iff.1 h2.2.1
    have h5 := h2.2.2 (by omega)
    have e : (a[i + (k + 1) - 1]'(by omega)) = a[i + k] := by congr 1
    rw [e] at h5
    exact ⟨by omega, by omega⟩
def Within (a : List Sp) (n : Int) : Prop := ∀ (i : Nat) (h : i < a.length), 1 ≤ a[i].1 ∧ a[i].2.1 ≤ n
theorem below_loop (a : List Sp) (n : Int) (h : a.length ≤ 1048576) : ∃ y, loopO F.spec_l8Below.s4 (a, n, 0, ()) = some y ∧ ((∃ i, y = .inl i ∧ Within a n) ∨ (y = .inr false ∧ ¬ Within a n)) :=
  loopO_rule (step := F.spec_l8Below.s4) (fun x => x.1 = a ∧ x.2.1 = n ∧ 0 ≤ x.2.2.1 ∧ x.2.2.1 ≤ a.length ∧ ∀ (i : Nat) (hi : i < a.length), (i : Int) < x.2.2.1 → 1 ≤ a[i].1 ∧ a[i].2.1 ≤ n) (fun y => (∃ i, y = .inl i ∧ Within a n) ∨ (y = .inr false ∧ ¬ Within a n))
    (fun x => a.length - x.2.2.1.toNat) (fun x hx => by
      obtain ⟨x1, x3, x2, u⟩ := x
      obtain ⟨rfl, e3, g1, g2, g3⟩ := hx
      simp only at g1 g2 g3 e3
      subst e3
      have h : x1.length ≤ 1048576 := h
      unfold F.spec_l8Below.s4
      simp only
      by_cases hlt : x2 < (x1.length : Int)
      · have hin : x2.toNat < x1.length := by omega
        rw [show decide (x2 < len x1) = true from decide_eq_true hlt, inb_of g1 hlt, getD_at hin]
        simp only [chk_true, cond_true]
        by_cases ha : x1[x2.toNat].1 < 1
        · rw [show decide (x1[x2.toNat].1 < 1) = true from decide_eq_true ha]
          exact ⟨.ret false, rfl, .inr ⟨rfl, fun hg => by have := (hg _ hin).1; omega⟩⟩
        · rw [show decide (x1[x2.toNat].1 < 1) = false from decide_eq_false ha]
          simp only [cond_false]
          by_cases hb : x1[x2.toNat].2.1 > x3
          · rw [show decide (x1[x2.toNat].2.1 > x3) = true from decide_eq_true hb]
            exact ⟨.ret false, rfl, .inr ⟨rfl, fun hg => by have := (hg _ hin).2; omega⟩⟩
          · rw [show decide (x1[x2.toNat].2.1 > x3) = false from decide_eq_false hb]
            refine ⟨.again (x1, x3, w64 (x2 + 1), ()), rfl, ⟨rfl, rfl, ?_, ?_, ?_⟩, ?_⟩
            all_goals simp only
            all_goals rw [w64_id (by omega) (by omega)]
            · omega
            · omega
            · intro i hi hlt'
              by_cases e : i = x2.toNat
              · subst e; exact ⟨by omega, by omega⟩
              · exact g3 i hi (by omega)
            · omega
      · refine ⟨.exit (x1, x3, x2, ()), ?_, .inl ⟨_, rfl, fun i hi => g3 i hi (by omega)⟩⟩
        rw [show decide (x2 < len x1) = false from decide_eq_false hlt]; rfl) (x := (a, n, 0, ())) ⟨rfl, rfl, Int.le_refl 0, by simp, fun i hi h => by
          have h : (i : Int) < 0 := h
          omega⟩
theorem below_same (a : List Sp) (n : Int) (h : a.length ≤ 1048576) : (F.spec_l8Below a n = some true ∧ F.impl_allIn a 1 n = some true ∧ Good a) ∨ (F.spec_l8Below a n = some false ∧ F.impl_allIn a 1 n = some false) := by
  unfold F.spec_l8Below F.impl_allIn
  rcases specSet_ok a h with ⟨e1, hg⟩ | ⟨e1, hg⟩ <;> rcases implSet_ok a h with ⟨e2, hg2⟩ | ⟨e2, hg2⟩
  · rw [e1, e2]
    obtain ⟨y, h1, h2⟩ := below_loop a n h
    simp only [Option.bind_some, Bool.not_true, cond_false, cond_true, h1]
    cases a with
    | nil =>
      rcases h2 with ⟨i, rfl, hw⟩ | ⟨rfl, hw⟩
      · exact .inl ⟨rfl, rfl, hg⟩
      · exact absurd (fun i hi => by cases hi) hw
    | cons s l =>
      have hn : (len (s :: l) == 0) = false := by simp [len]; omega
      rw [hn]
      have hlast : (w64 (len (s :: l) - 1)).toNat = l.length := by
        rw [w64_id (by simp only [len, List.length_cons]; omega) (by simp only [len, List.length_cons] at h ⊢; omega)]
        simp [len]
      have hin1 : inb 0 (s :: l).length = true := inb_of (by omega) (by simp only [List.length_cons]; omega)
      have hin2 : inb (w64 (len (s :: l) - 1)) (s :: l).length = true := by
        rw [w64_id (by simp only [len, List.length_cons]; omega) (by simp only [len, List.length_cons] at h ⊢; omega)]
        exact inb_of (by simp only [len, List.length_cons]; omega) (by simp only [len, List.length_cons]; omega)
      rw [hin1, hin2, hlast, getD_at (l := s :: l) (i := 0) (by simp), getD_at (l := s :: l) (i := l.length) (by simp)]
      simp only [chk_true, cond_false]
      have key : ((s :: l)[0].1 ≥ 1 ∧ ((s :: l)[l.length]'(by simp)).2.1 ≤ n) ↔ Within (s :: l) n := by
        constructor
        · rintro ⟨k1, k2⟩ i hi
          have u1 := (good_up hg i 0 (by simpa using hi)).1
          have u2 := (good_up hg (l.length - i) i (by simp at hi ⊢; omega)).2
          have e3 : i + (l.length - i) = l.length := by simp at hi; omega
          simp only [Nat.zero_add, e3] at u1 u2
          exact ⟨by omega, by omega⟩
        · intro hw
          exact ⟨(hw 0 (by simp)).1, (hw l.length (by simp)).2⟩
      rcases h2 with ⟨i, rfl, hw⟩ | ⟨rfl, hw⟩
      · obtain ⟨k1, k2⟩ := key.2 hw
        refine .inl ⟨rfl, ?_, hg⟩
        rw [show decide ((s :: l)[0].1 ≥ 1) = true from decide_eq_true k1, show decide (((s :: l)[l.length]'(by simp)).2.1 ≤ n) = true from decide_eq_true k2]; rfl
      · refine .inr ⟨rfl, ?_⟩
        by_cases k1 : (s :: l)[0].1 ≥ 1
        · have k2 : ¬ ((s :: l)[l.length]'(by simp)).2.1 ≤ n := fun k2 => hw (key.1 ⟨k1, k2⟩)
          rw [show decide ((s :: l)[0].1 ≥ 1) = true from decide_eq_true k1, show decide (((s :: l)[l.length]'(by simp)).2.1 ≤ n) = false from decide_eq_false k2]; rfl
        · rw [show decide ((s :: l)[0].1 ≥ 1) = false from decide_eq_false k1]; rfl
  · exact absurd hg hg2
  · exact absurd hg2 hg
  · rw [e1, e2]; exact .inr ⟨rfl, rfl⟩
theorem w64_step (x h l : Int) : w64 (w64 (w64 (x + h) - l) + 1) = w64 (x + w64 (w64 (h - l) + 1)) := by
  unfold w64 IntKind.wrap
  simp [IntKind.bits, IntKind.signed]
  omega
def accS (a : List Sp) : Nat → Int
  | 0 => 0
  | i + 1 => w64 (w64 (w64 (accS a i + (List.getD a i (0, 0, ())).2.1) - (List.getD a i (0, 0, ())).1) + 1)
theorem size_same (a : List Sp) (h : a.length ≤ 1048576) : ∃ r, F.spec_SetSize a = some r ∧ F.impl_SetSize a = some r := by
  unfold F.spec_SetSize F.impl_SetSize
  rcases specSet_ok a h with ⟨e1, hg⟩ | ⟨e1, hg⟩ <;> rcases implSet_ok a h with ⟨e2, hg2⟩ | ⟨e2, hg2⟩
  · rw [e1, e2]
    have l1 := loop_run (step := F.spec_SetSize.s5) (fun i => (a, accS a i, (i : Int), ())) a.length (fun i hi => by
      unfold F.spec_SetSize.s5
      simp only
      rw [lt_len hi, inb_nat hi, w64_nat (by omega), Int.toNat_natCast]
      rfl) (l := .exit (a, accS a a.length, (a.length : Int), ())) (y := .inl (a, accS a a.length, (a.length : Int), ())) (by
      unfold F.spec_SetSize.s5
      simp only
      rw [ge_len]
      rfl) rfl
    have l2 := loop_run (step := F.impl_SetSize.s5) (fun i => (accS a i, a, len a, (i : Int), ())) a.length (fun i hi => by
      unfold F.impl_SetSize.s5
      simp only
      rw [lt_len hi, inb_nat hi, w64_nat (by omega), Int.toNat_natCast]
      simp only [chk_true, cond_true, accS]
      rw [w64_step]) (l := .exit (accS a a.length, a, len a, (a.length : Int), ())) (y := .inl (accS a a.length, a, len a, (a.length : Int), ())) (by
      unfold F.impl_SetSize.s5
      simp only
      rw [ge_len]
      rfl) rfl
    have l1 : loopO F.spec_SetSize.s5 (a, 0, 0, ()) = _ := l1
    have l2 : loopO F.impl_SetSize.s5 (0, a, len a, 0, ()) = _ := l2
    simp only [Option.bind_some, Bool.not_true, cond_false, l1, l2]
    exact ⟨_, rfl, rfl⟩
  · exact absurd hg hg2
  · exact absurd hg2 hg
  · rw [e1, e2]; exact ⟨0, rfl, rfl⟩
end Go.Proofs.Ytabjfkongckhaaa.Vm
