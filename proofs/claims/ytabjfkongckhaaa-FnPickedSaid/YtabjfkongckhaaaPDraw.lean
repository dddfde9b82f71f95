/- Drawing: numbers out of bytes. -/
import Derived.Test.YtabjfkongckhaaaGf
import Derived.Test.YtabjfkongckhaaaPureLists
namespace Go.Proofs.Ytabjfkongckhaaa.Vm
open Go Go.RowKit
set_option linter.unusedVariables false

theorem and_small (x : Int) (m : Nat) (hm : m < 9223372036854775808) : 0 ≤ ibits .and .i64 x (m : Int) ∧ ibits .and .i64 x (m : Int) ≤ (m : Int) := by
  have h : ((BitVec.ofInt IntKind.i64.bits x) &&& (BitVec.ofInt IntKind.i64.bits (m : Int))).toNat ≤ m := by
    rw [BitVec.toNat_and]
    refine Nat.le_trans Nat.and_le_right ?_
    have : (BitVec.ofInt IntKind.i64.bits (m : Int)).toNat = m % 2 ^ 64 := by simp [IntKind.bits]
    rw [this]
    exact Nat.mod_le _ _
  unfold ibits
  simp only
  generalize ((BitVec.ofInt IntKind.i64.bits x) &&& (BitVec.ofInt IntKind.i64.bits (m : Int))).toNat = k at h
  have hw : IntKind.wrap .i64 (k : Int) = (k : Int) := w64_id (by omega) (by omega)
  rw [hw]
  omega
/-- A source of bytes in its range. -/
def srcOk (s : List Int × Int × Int × Unit) : Prop := s.1.length ≤ 1048576 ∧ 0 ≤ s.2.1 ∧ s.2.1 ≤ 9000000000000000000
theorem l1New_ok (a : List Int) (h : a.length ≤ 1048576) : ∃ s, F.spec_l1New a = some s ∧ srcOk s := by
  unfold F.spec_l1New
  obtain ⟨y, h1, h2⟩ := loopO_rule (step := F.spec_l1New.s3) (fun x => x.1 = a ∧ 0 ≤ x.2.2.1 ∧ x.2.2.1 ≤ a.length) (fun y => ∃ b c, y = .inl (a, b, c, ()))
    (fun x => a.length - x.2.2.1.toNat) (fun x hx => by
      obtain ⟨x1, x2, x3, u⟩ := x
      obtain ⟨rfl, g1, g2⟩ := hx
      simp only at g1 g2
      have h : x1.length ≤ 1048576 := h
      unfold F.spec_l1New.s3
      simp only
      by_cases hlt : x3 < (x1.length : Int)
      · rw [show decide (x3 < len x1) = true from decide_eq_true hlt]
        cases h4 : decide (x3 < 4000) with
        | false => exact ⟨.exit (x1, x2, x3, ()), rfl, _, _, rfl⟩
        | true =>
          rw [inb_of g1 hlt]
          refine ⟨_, rfl, ⟨rfl, ?_, ?_⟩, ?_⟩
          all_goals simp only
          all_goals rw [w64_id (by omega) (by omega)]
          · omega
          · omega
          · omega
      · refine ⟨.exit (x1, x2, x3, ()), ?_, _, _, rfl⟩
        rw [show decide (x3 < len x1) = false from decide_eq_false hlt]; rfl) (x := (a, w64 (26583 + len a), 0, ())) ⟨rfl, Int.le_refl 0, by simp⟩
  obtain ⟨b, c, rfl⟩ := h2
  rw [h1]
  exact ⟨_, rfl, h, Int.le_refl 0, by show (0 : Int) ≤ 9000000000000000000; omega⟩
theorem l1Byte_ok (s : List Int × Int × Int × Unit) (hs : srcOk s) : ∃ v s', F.spec_l1Byte s = some (v, s') ∧ 0 ≤ v ∧ v ≤ 255 ∧ srcOk s' := by
  obtain ⟨a, p, q, u⟩ := s
  obtain ⟨g1, g2, g3⟩ := hs
  simp only at g1 g2 g3
  unfold F.spec_l1Byte
  simp only
  by_cases hlt : p < (a.length : Int)
  · rw [show decide (p < len a) = true from decide_eq_true hlt, inb_of g2 hlt]
    refine ⟨_, _, rfl, (and_small _ 255 (by omega)).1, (and_small _ 255 (by omega)).2, g1, ?_, ?_⟩
    all_goals simp only
    all_goals rw [w64_id (by omega) (by omega)]
    · omega
    · omega
  · rw [show decide (p < len a) = false from decide_eq_false hlt]
    exact ⟨_, _, rfl, (and_small _ 255 (by omega)).1, (and_small _ 255 (by omega)).2, g1, g2, g3⟩
theorem l1Below_ok (s : List Int × Int × Int × Unit) (hs : srcOk s) (n : Int) (h0 : 0 < n) (h1 : n ≤ 256) : ∃ v s', F.spec_l1Below s n = some (v, s') ∧ 0 ≤ v ∧ v < n ∧ srcOk s' := by
  unfold F.spec_l1Below
  rw [show decide (n ≤ 0) = false from decide_eq_false (by omega), show decide (n ≤ 256) = true from decide_eq_true h1]
  obtain ⟨v, s', e, g1, g2, g3⟩ := l1Byte_ok s hs
  simp only [cond_false, cond_true, e, Option.bind_some]
  rw [show (n == 0) = false by simp; omega]
  refine ⟨_, s', rfl, Int.tmod_nonneg _ g1, ?_, g3⟩
  have := Int.tmod_lt_of_pos v h0
  exact this
theorem l1Once_ok (s : List Int × Int × Int × Unit) (hs : srcOk s) (n : Int) (h0 : 0 < n) (h1 : n ≤ 256) : ∃ b s', F.spec_l1Once s n = some (b, s') ∧ srcOk s' := by
  unfold F.spec_l1Once
  obtain ⟨v, s', e, _, _, g3⟩ := l1Below_ok s hs n h0 h1
  rw [e]
  exact ⟨_, _, rfl, g3⟩
theorem l1Pick_ok (s : List Int × Int × Int × Unit) (hs : srcOk s) (l : List Int) (h0 : 0 < l.length) (h1 : l.length ≤ 256) : ∃ v s', F.spec_l1PickInt s l = some (v, s') ∧ v ∈ l ∧ srcOk s' := by
  unfold F.spec_l1PickInt
  obtain ⟨v, s', e, g1, g2, g3⟩ := l1Below_ok s hs (len l) (by show 0 < (l.length : Int); omega) (by show (l.length : Int) ≤ 256; omega)
  rw [e]
  have hlt : v < (l.length : Int) := g2
  have hi : v.toNat < l.length := by omega
  simp only [Option.bind_some]
  rw [inb_of g1 hlt, getD_at hi]
  exact ⟨_, _, rfl, List.getElem_mem hi, g3⟩
theorem l1Below_any (s : List Int × Int × Int × Unit) (hs : srcOk s) (n : Int) (h1 : n ≤ 2147483647) : ∃ v s', F.spec_l1Below s n = some (v, s') ∧ 0 ≤ v ∧ (v < n ∨ (n ≤ 0 ∧ v = 0)) ∧ srcOk s' := by
  by_cases h0 : n ≤ 0
  · unfold F.spec_l1Below
    rw [show decide (n ≤ 0) = true from decide_eq_true h0]
    exact ⟨0, s, rfl, Int.le_refl _, .inr ⟨h0, rfl⟩, hs⟩
  · by_cases h2 : n ≤ 256
    · obtain ⟨v, s', e, g1, g2, g3⟩ := l1Below_ok s hs n (by omega) h2
      exact ⟨v, s', e, g1, .inl g2, g3⟩
    · unfold F.spec_l1Below
      obtain ⟨v1, s1, e1, a1, b1, c1⟩ := l1Byte_ok s hs
      obtain ⟨v2, s2, e2, a2, b2, c2⟩ := l1Byte_ok s1 c1
      obtain ⟨v3, s3, e3, a3, b3, c3⟩ := l1Byte_ok s2 c2
      obtain ⟨v4, s4, e4, a4, b4, c4⟩ := l1Byte_ok s3 c3
      rw [show decide (n ≤ 0) = false from decide_eq_false h0, show decide (n ≤ 256) = false from decide_eq_false h2]
      simp only [cond_false, e1, e2, e3, e4, Option.bind_some]
      rw [show (n == 0) = false by simp; omega]
      have e : w64 (w64 (w64 (w64 (v1 * 16777216) + w64 (v2 * 65536)) + w64 (v3 * 256)) + v4) = v1 * 16777216 + v2 * 65536 + v3 * 256 + v4 := by
        rw [w64_id (x := v1 * 16777216) (by omega) (by omega), w64_id (x := v2 * 65536) (by omega) (by omega), w64_id (x := v3 * 256) (by omega) (by omega), w64_id (x := v1 * 16777216 + v2 * 65536) (by omega) (by omega), w64_id (x := v1 * 16777216 + v2 * 65536 + v3 * 256) (by omega) (by omega), w64_id (by omega) (by omega)]
      rw [e]
      exact ⟨_, s4, rfl, Int.tmod_nonneg _ (by omega), .inl (Int.tmod_lt_of_pos _ (by omega)), c4⟩
end Go.Proofs.Ytabjfkongckhaaa.Vm
