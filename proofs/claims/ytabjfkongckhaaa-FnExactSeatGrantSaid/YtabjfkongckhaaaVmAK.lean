/- Plain loops. -/
import Derived.Test.YtabjfkongckhaaaVmN
namespace Go.Proofs.Ytabjfkongckhaaa.Vm
open Go Go.RowKit
set_option linter.unusedVariables false

section
variable {X A : Type} {step : X → Option (Lp X A)}
theorem iterO_unique : ∀ {n m : Nat} {x : X} {y z : X ⊕ A}, iterO step n x = some y → iterO step m x = some z → y = z
  | 0, m, x, y, z, h, _ => by cases h
  | n + 1, 0, x, y, z, _, h => by cases h
  | n + 1, m + 1, x, y, z, h, h' => by
    simp only [iterO] at h h'
    cases hs : step x with
    | none => rw [hs] at h; cases h
    | some l =>
      rw [hs] at h h'
      cases l with
      | again x' => exact iterO_unique h h'
      | exit x' => cases h; cases h'; rfl
      | ret a => cases h; cases h'; rfl
theorem loopO_of {n : Nat} {x : X} {y : X ⊕ A} (h : iterO step n x = some y) : loopO step x = some y := by
  unfold loopO
  have hex : ∃ y : X ⊕ A, ∃ n, iterO step n x = some y := ⟨y, n, h⟩
  rw [dif_pos hex]
  obtain ⟨m, hm⟩ := Classical.choose_spec hex
  exact congrArg some (iterO_unique hm h)
/-- A loop with a measure. -/
theorem loopO_rule (Inv : X → Prop) (Post : X ⊕ A → Prop) (m : X → Nat) (h : ∀ x, Inv x → ∃ l, step x = some l ∧ match l with
    | .again x' => Inv x' ∧ m x' < m x
    | .exit x' => Post (.inl x')
    | .ret a => Post (.inr a)) : ∀ {x : X}, Inv x → ∃ y, loopO step x = some y ∧ Post y := by
  have key : ∀ (n : Nat) (x : X), m x < n → Inv x → ∃ k y, iterO step k x = some y ∧ Post y := by
    intro n
    induction n with
    | zero => intro x hx; omega
    | succ n ih =>
      intro x hx hi
      obtain ⟨l, hs, hl⟩ := h x hi
      cases l with
      | again x' =>
        obtain ⟨k, y, g1, g2⟩ := ih x' (by have := hl.2; omega) hl.1
        exact ⟨k + 1, y, by simp only [iterO, hs]; exact g1, g2⟩
      | exit x' => exact ⟨1, .inl x', by simp only [iterO, hs], hl⟩
      | ret a => exact ⟨1, .inr a, by simp only [iterO, hs], hl⟩
  intro x hi
  obtain ⟨k, y, g1, g2⟩ := key _ x (Nat.lt_succ_self _) hi
  exact ⟨y, loopO_of g1, g2⟩
end
/-- A loop, state by state. -/
theorem loop_run {X A : Type} {step : X → Option (Lp X A)} (st : Nat → X) (n : Nat) (h : ∀ i, i < n → step (st i) = some (.again (st (i + 1)))) {l : Lp X A} {y : X ⊕ A} (he : step (st n) = some l) (hy : (match l with
    | .again _ => none
    | .exit x => some (.inl x)
    | .ret a => some (.inr a) : Option (X ⊕ A)) = some y) : loopO step (st 0) = some y := by
  have key : ∀ k i, i + k = n → iterO step (k + 1) (st i) = some y := by
    intro k
    induction k with
    | zero =>
      intro i hi
      have hi : i = n := by omega
      subst hi
      simp only [iterO, he]
      cases l with
      | again x => cases hy
      | exit x => cases hy; rfl
      | ret a => cases hy; rfl
    | succ k ih =>
      intro i hi
      simp only [iterO, h i (by omega)]
      exact ih (i + 1) (by omega)
  exact loopO_of (key n 0 (by omega))
theorem w64_id {x : Int} (h1 : -9223372036854775808 ≤ x) (h2 : x ≤ 9223372036854775807) : w64 x = x := by
  unfold w64 IntKind.wrap
  simp [IntKind.bits, IntKind.signed]
  omega
theorem getD_at {α : Type} {l : List α} {i : Nat} {d : α} (h : i < l.length) : l.getD i d = l[i] := by
  rw [List.getD_eq_getElem?_getD, List.getElem?_eq_getElem h]; rfl
theorem inb_of {i : Int} {n : Nat} (h1 : 0 ≤ i) (h2 : i < n) : inb i n = true := by simp [inb, h1, h2]
theorem copy_step {α : Type} (z : α) (a : List α) {i : Nat} (h : i < a.length) : (a.take i ++ List.replicate (a.length - i) z).set i (a.getD i z) = a.take (i + 1) ++ List.replicate (a.length - (i + 1)) z := by
  have hl : (a.take i).length = i := by rw [List.length_take]; omega
  rw [List.set_append_right _ _ (by omega), hl, Nat.sub_self, show a.length - i = (a.length - (i + 1)) + 1 by omega, List.replicate_succ, List.set_cons_zero, getD_at h]
  rw [List.take_succ_eq_append_getElem h, List.append_assoc]
  rfl
theorem w64_nat {i : Nat} (h : i < 9223372036854775807) : w64 ((i : Int) + 1) = ((i + 1 : Nat) : Int) := by
  rw [w64_id (by omega) (by omega)]; rfl
theorem inb_nat {i n : Nat} (h : i < n) : inb (i : Int) n = true := inb_of (by omega) (by omega)
theorem lt_len {α : Type} {l : List α} {i : Nat} (h : i < l.length) : decide ((i : Int) < len l) = true := decide_eq_true (by show (i : Int) < (l.length : Int); omega)
theorem ge_len {α : Type} {l : List α} : decide (((l.length : Nat) : Int) < len l) = false := decide_eq_false (by show ¬ ((l.length : Nat) : Int) < ((l.length : Nat) : Int); omega)
theorem mk_ok {α : Type} {l : List α} {b : Nat} (h : b * l.length ≤ 140737488355328) : mk b (len l) (len l) = true := by
  have h2 : (b : Int) * (l.length : Int) = ((b * l.length : Nat) : Int) := (Int.natCast_mul _ _).symm
  unfold mk len
  rw [Bool.and_eq_true, Bool.and_eq_true]
  refine ⟨⟨beq_self_eq_true _, decide_eq_true (Int.natCast_nonneg _)⟩, decide_eq_true ?_⟩
  rw [h2]
  omega
def mid {α : Type} (z : α) (a : List α) (i : Nat) : List α := a.take i ++ List.replicate (a.length - i) z
theorem mid_len {α : Type} {z : α} {a : List α} {i : Nat} (h : i ≤ a.length) : (mid z a i).length = a.length := by
  unfold mid; rw [List.length_append, List.length_take, List.length_replicate]; omega
theorem chk_true {A : Type} (k : Option A) : chk true k = k := rfl
theorem all_get {α : Type} {f : α → Bool} : ∀ {l : List α}, (∀ i (h : i < l.length), f l[i] = true) → l.all f = true
  | l, h => by
    rw [List.all_eq_true]
    intro x hx
    obtain ⟨i, hi, rfl⟩ := List.getElem_of_mem hx
    exact h i hi
theorem all_not {α : Type} {f : α → Bool} {l : List α} {i : Nat} (h : i < l.length) (hf : f l[i] = false) : l.all f = false := by
  cases ha : l.all f with
  | false => rfl
  | true =>
    rw [List.all_eq_true] at ha
    rw [ha _ (List.getElem_mem h)] at hf
    cases hf
end Go.Proofs.Ytabjfkongckhaaa.Vm
