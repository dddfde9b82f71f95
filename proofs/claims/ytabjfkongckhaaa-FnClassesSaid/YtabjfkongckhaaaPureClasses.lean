/- The law Classes, on the printed functions alone. -/
import Derived.Test.YtabjfkongckhaaaPureTurnOk
namespace Go.Proofs.Ytabjfkongckhaaa.Vm
open Go Go.RowKit
set_option linter.unusedVariables false

theorem and_small (x : Int) (m : Nat) (hm : m < 9223372036854775808) : 0 ≤ ibits .and .i64 x (m : Int) ∧ ibits .and .i64 x (m : Int) ≤ (m : Int) := by
  have h : ((BitVec.ofInt IntKind.i64.bits x) &&& (BitVec.ofInt IntKind.i64.bits (m : Int))).toNat ≤ m := by
    rw [BitVec.toNat_and]
    refine Nat.le_trans Nat.and_le_right ?_
    have : (BitVec.ofInt IntKind.i64.bits (m : Int)).toNat = m % 2 ^ 64 := by simp [IntKind.bits]
    rw [this]
    exact Nat.mod_le _ _
  unfold ibits
  simp only
  generalize ((BitVec.ofInt IntKind.i64.bits x) &&& (BitVec.ofInt IntKind.i64.bits (m : Int))).toNat = k at h
  have hw : IntKind.wrap .i64 (k : Int) = (k : Int) := w64_id (by omega) (by omega)
  rw [hw]
  omega
/-- A source of bytes in its range. -/
def srcOk (s : List Int × Int × Int × Unit) : Prop := s.1.length ≤ 1048576 ∧ 0 ≤ s.2.1 ∧ s.2.1 ≤ 9000000000000000000
theorem l1New_ok (a : List Int) (h : a.length ≤ 1048576) : ∃ s, F.spec_l1New a = some s ∧ srcOk s := by
  unfold F.spec_l1New
  obtain ⟨y, h1, h2⟩ := loopO_rule (step := F.spec_l1New.s3) (fun x => x.1 = a ∧ 0 ≤ x.2.2.1 ∧ x.2.2.1 ≤ a.length) (fun y => ∃ b c, y = .inl (a, b, c, ()))
    (fun x => a.length - x.2.2.1.toNat) (fun x hx => by
      obtain ⟨x1, x2, x3, u⟩ := x
      obtain ⟨rfl, g1, g2⟩ := hx
      simp only at g1 g2
      have h : x1.length ≤ 1048576 := h
      unfold F.spec_l1New.s3
      simp only
      by_cases hlt : x3 < (x1.length : Int)
      · rw [show decide (x3 < len x1) = true from decide_eq_true hlt]
        cases h4 : decide (x3 < 4000) with
        | false => exact ⟨.exit (x1, x2, x3, ()), rfl, _, _, rfl⟩
        | true =>
          rw [inb_of g1 hlt]
          refine ⟨_, rfl, ⟨rfl, ?_, ?_⟩, ?_⟩
          all_goals simp only
          all_goals rw [w64_id (by omega) (by omega)]
          · omega
          · omega
          · omega
      · refine ⟨.exit (x1, x2, x3, ()), ?_, _, _, rfl⟩
        rw [show decide (x3 < len x1) = false from decide_eq_false hlt]; rfl) (x := (a, w64 (26583 + len a), 0, ())) ⟨rfl, Int.le_refl 0, by simp⟩
  obtain ⟨b, c, rfl⟩ := h2
  rw [h1]
  exact ⟨_, rfl, h, Int.le_refl 0, by show (0 : Int) ≤ 9000000000000000000; omega⟩
theorem l1Byte_ok (s : List Int × Int × Int × Unit) (hs : srcOk s) : ∃ v s', F.spec_l1Byte s = some (v, s') ∧ 0 ≤ v ∧ v ≤ 255 ∧ srcOk s' := by
  obtain ⟨a, p, q, u⟩ := s
  obtain ⟨g1, g2, g3⟩ := hs
  simp only at g1 g2 g3
  unfold F.spec_l1Byte
  simp only
  by_cases hlt : p < (a.length : Int)
  · rw [show decide (p < len a) = true from decide_eq_true hlt, inb_of g2 hlt]
    refine ⟨_, _, rfl, (and_small _ 255 (by omega)).1, (and_small _ 255 (by omega)).2, g1, ?_, ?_⟩
    all_goals simp only
    all_goals rw [w64_id (by omega) (by omega)]
    · omega
    · omega
  · rw [show decide (p < len a) = false from decide_eq_false hlt]
    exact ⟨_, _, rfl, (and_small _ 255 (by omega)).1, (and_small _ 255 (by omega)).2, g1, g2, g3⟩
theorem l1Below_ok (s : List Int × Int × Int × Unit) (hs : srcOk s) (n : Int) (h0 : 0 < n) (h1 : n ≤ 256) : ∃ v s', F.spec_l1Below s n = some (v, s') ∧ 0 ≤ v ∧ v < n ∧ srcOk s' := by
  unfold F.spec_l1Below
  rw [show decide (n ≤ 0) = false from decide_eq_false (by omega), show decide (n ≤ 256) = true from decide_eq_true h1]
  obtain ⟨v, s', e, g1, g2, g3⟩ := l1Byte_ok s hs
  simp only [cond_false, cond_true, e, Option.bind_some]
  rw [show (n == 0) = false by simp; omega]
  refine ⟨_, s', rfl, Int.tmod_nonneg _ g1, ?_, g3⟩
  have := Int.tmod_lt_of_pos v h0
  exact this
theorem l1Once_ok (s : List Int × Int × Int × Unit) (hs : srcOk s) (n : Int) (h0 : 0 < n) (h1 : n ≤ 256) : ∃ b s', F.spec_l1Once s n = some (b, s') ∧ srcOk s' := by
  unfold F.spec_l1Once
  obtain ⟨v, s', e, _, _, g3⟩ := l1Below_ok s hs n h0 h1
  rw [e]
  exact ⟨_, _, rfl, g3⟩
theorem l1Pick_ok (s : List Int × Int × Int × Unit) (hs : srcOk s) (l : List Int) (h0 : 0 < l.length) (h1 : l.length ≤ 256) : ∃ v s', F.spec_l1PickInt s l = some (v, s') ∧ v ∈ l ∧ srcOk s' := by
  unfold F.spec_l1PickInt
  obtain ⟨v, s', e, g1, g2, g3⟩ := l1Below_ok s hs (len l) (by show 0 < (l.length : Int); omega) (by show (l.length : Int) ≤ 256; omega)
  rw [e]
  have hlt : v < (l.length : Int) := g2
  have hi : v.toNat < l.length := by omega
  simp only [Option.bind_some]
  rw [inb_of g1 hlt, getD_at hi]
  exact ⟨_, _, rfl, List.getElem_mem hi, g3⟩
/-- What is left behind the draws. -/
noncomputable def restC (b1 b2 : Bool) (c n : Int) : Option Bool :=
  (F.impl_PickClass b1 b2 c n).bind fun r3 =>
  (F.spec_PickClass b1 b2 c n).bind fun r4 =>
  bif r3.1 != r4.1 then
    some false
  else
  bif r3.2 != r4.2 then
    some false
  else
  bif decide (n < 1) then
    bif r3.1 == (-1) then
      some (r3.2 == 0)
    else
      some false
  else
  bif decide (n > 10) then
    bif r3.1 == (-1) then
      some (r3.2 == 0)
    else
      some false
  else
  afterO (loopO F.laws_FnClasses.s13 (b1, b2, n, r3.1, 0, 0, 0, ())) fun (x13, x14, x15, x16, x17, x18, x19, _) =>
  bif x18 == 1 then
    bif x17 == 0 then
      bif x16 != 0 then
        bif x16 != 1 then
          some true
        else
          some x14
      else
      bif x13 then
        bif x16 != 1 then
          some true
        else
          some x14
      else
        some false
    else
      some false
  else
    some false
/-- The same with the rounds counted. -/
noncomputable def restI (b1 b2 : Bool) (c n : Int) : Option Bool :=
  (F.impl_PickClass b1 b2 c n).bind fun r3 =>
  (F.spec_PickClass b1 b2 c n).bind fun r4 =>
  bif r3.1 != r4.1 then
    some false
  else
  bif r3.2 != r4.2 then
    some false
  else
  bif decide (n < 1) then
    bif r3.1 == (-1) then
      some (r3.2 == 0)
    else
      some false
  else
  bif decide (n > 10) then
    bif r3.1 == (-1) then
      some (r3.2 == 0)
    else
      some false
  else
  afterO (iterO F.laws_FnClasses.s13 12 (b1, b2, n, r3.1, 0, 0, 0, ())) fun (x13, x14, x15, x16, x17, x18, x19, _) =>
  bif x18 == 1 then
    bif x17 == 0 then
      bif x16 != 0 then
        bif x16 != 1 then
          some true
        else
          some x14
      else
      bif x13 then
        bif x16 != 1 then
          some true
        else
          some x14
      else
        some false
    else
      some false
  else
    some false
theorem afterO_iter {X A : Type} {step : X → Option (Lp X A)} {n : Nat} {x : X} {k : X → Option A} {r : A} (h : afterO (iterO step n x) k = some r) : afterO (loopO step x) k = some r := by
  cases hi : iterO step n x with
  | none => rw [hi] at h; cases h
  | some y => rw [hi] at h; rw [loopO_of hi]; exact h
theorem rest_eq {b1 b2 : Bool} {c n : Int} (h : restI b1 b2 c n = some true) : restC b1 b2 c n = some true := by
  unfold restI at h
  unfold restC
  cases h3 : F.impl_PickClass b1 b2 c n with
  | none => rw [h3] at h; cases h
  | some r3 =>
    rw [h3] at h
    simp only [Option.bind_some] at h ⊢
    cases h4 : F.spec_PickClass b1 b2 c n with
    | none => rw [h4] at h; cases h
    | some r4 =>
      rw [h4] at h
      simp only [Option.bind_some] at h ⊢
      cases h5 : (r3.1 != r4.1) with
      | true => rw [h5] at h; exact h
      | false =>
        rw [h5] at h
        simp only [cond_false] at h ⊢
        cases h6 : (r3.2 != r4.2) with
        | true => rw [h6] at h; exact h
        | false =>
          rw [h6] at h
          simp only [cond_false] at h ⊢
          cases h7 : decide (n < 1) with
          | true => rw [h7] at h; exact h
          | false =>
            rw [h7] at h
            simp only [cond_false] at h ⊢
            cases h8 : decide (n > 10) with
            | true => rw [h8] at h; exact h
            | false =>
              rw [h8] at h
              simp only [cond_false] at h ⊢
              exact afterO_iter h
noncomputable def okI (b1 b2 : Bool) (c n : Int) : Bool := match restI b1 b2 c n with
  | some b => b
  | none => false
theorem okI_some {b1 b2 : Bool} {c n : Int} (h : okI b1 b2 c n = true) : restI b1 b2 c n = some true := by
  unfold okI at h
  cases hr : restI b1 b2 c n with
  | none => rw [hr] at h; cases h
  | some b => rw [hr] at h; exact congrArg some h
def drawnC : List Int := [0, 1, 2, 3, 9, 1000, 1001, -1]
def drawnN : List Int := [1, 2, 3, 4, 10, 0, 11]
theorem all_ok : ([true, false].all fun b1 => [true, false].all fun b2 => drawnC.all fun c => drawnN.all fun n => okI b1 b2 c n) = true := by kernel_rfl
theorem draw_ok (a : List Int) (h : a.length ≤ 1048576) : ∃ b1 b2 c n, F.spec_DrawPickClass a = some (b1, b2, c, n) ∧ c ∈ drawnC ∧ n ∈ drawnN := by
  unfold F.spec_DrawPickClass
  obtain ⟨s0, e0, k0⟩ := l1New_ok a h
  obtain ⟨b1, s1, e1, k1⟩ := l1Once_ok s0 k0 3 (by omega) (by omega)
  obtain ⟨b2, s2, e2, k2⟩ := l1Once_ok s1 k1 3 (by omega) (by omega)
  obtain ⟨c, s3, e3, m3, k3⟩ := l1Pick_ok s2 k2 [0, 1, 2, 3, 9, 1000, 1001, -1] (by decide) (by decide)
  obtain ⟨n, s4, e4, m4, k4⟩ := l1Pick_ok s3 k3 [1, 2, 3, 4, 10, 0, 11] (by decide) (by decide)
  simp only [e0, e1, e2, e3, e4, Option.bind_some]
  exact ⟨_, _, c, n, rfl, m3, m4⟩
theorem classes_law (a : List Int) : F.laws_FnClasses a = some true := by
  unfold F.laws_FnClasses F.laws_big
  cases hb : decide (len a > 1048576) with
  | true => rfl
  | false =>
    have hle : a.length ≤ 1048576 := by
      have := of_decide_eq_false hb
      have h2 : ¬ ((a.length : Int) > 1048576) := this
      omega
    obtain ⟨b1, b2, c, n, e, hc, hn⟩ := draw_ok a hle
    simp only [Option.bind_some, cond_false, e]
    have hall := all_ok
    rw [List.all_eq_true] at hall
    have h1 := hall b1 (by cases b1 <;> simp)
    rw [List.all_eq_true] at h1
    have h2 := h1 b2 (by cases b2 <;> simp)
    rw [List.all_eq_true] at h2
    have h3 := h2 c hc
    rw [List.all_eq_true] at h3
    exact rest_eq (okI_some (h3 n hn))
end Go.Proofs.Ytabjfkongckhaaa.Vm
