import Derived.Test.YtipaepbmdooekaaDoorGf
import Derived.Test.YtipaepbmdooekaaDoorV3
import Derived.Lib.ItoaLen
namespace Go.Proofs.YtipaepbmdooekaaDoor.Vm
open Go Go.RowKit
set_option linter.unusedVariables false
def runL {α S A : Type} (g : Nat → S → α → S ⊕ A) : Nat → List α → S → S ⊕ A
  | _, [], s => .inl s
  | i, x :: l, s => match g i s x with
    | .inl s' => runL g (i + 1) l s'
    | .inr a => .inr a
def runN {S A : Type} (g : Nat → S → S ⊕ A) : Nat → Nat → S → S ⊕ A
  | 0, _, s => .inl s
  | k + 1, i, s => match g i s with
    | .inl s' => runN g k (i + 1) s'
    | .inr a => .inr a
def again {X A S : Type} (mk : S → X) : S ⊕ A → Lp X A
  | .inl s => .again (mk s)
  | .inr a => .ret a
theorem loop_n {X A S : Type} {step : X → Option (Lp X A)} (n : Nat) (mk : Nat → S → X) (g : Nat → S → S ⊕ A) (P : Nat → S → Prop)
    (h : ∀ i s, i < n → P i s → step (mk i s) = some (again (mk (i + 1)) (g i s)) ∧ ∀ s', g i s = .inl s' → P (i + 1) s')
    (he : ∀ s, P n s → step (mk n s) = some (.exit (mk n s))) {s : S} (h0 : P 0 s) :
    loopO step (mk 0 s) = some (Sum.map (mk n) id (runN g n 0 s)) ∧ ∀ s', runN g n 0 s = .inl s' → P n s' := by
  have key : ∀ k i s, i + k = n → P i s → iterO step (k + 1) (mk i s) = some (Sum.map (mk n) id (runN g k i s)) ∧ ∀ s', runN g k i s = .inl s' → P n s' := by
    intro k
    induction k with
    | zero =>
      intro i s hi hp
      have hi : i = n := by omega
      subst hi
      refine ⟨?_, fun s' hs => by cases hs; exact hp⟩
      simp only [iterO, he s hp]; rfl
    | succ k ih =>
      intro i s hi hp
      obtain ⟨h1, h2⟩ := h i s (by omega) hp
      rw [iterO, h1]
      cases hg : g i s with
      | inl s' =>
        simp only [again, runN, hg]
        exact ih (i + 1) s' (by omega) (h2 s' hg)
      | inr a =>
        simp only [again, runN, hg]
        exact ⟨rfl, fun s' hs => by cases hs⟩
  obtain ⟨k1, k2⟩ := key n 0 s (by omega) h0
  exact ⟨loopO_of k1, k2⟩
theorem runN_list {α S A : Type} (g : Nat → S → α → S ⊕ A) (d : α) (l : List α) (s : S) : runN (fun i s => g i s (l.getD i d)) l.length 0 s = runL g 0 l s := by
  have key : ∀ (m : List α) (i : Nat) (s : S), l.drop i = m → runN (fun i s => g i s (l.getD i d)) m.length i s = runL g i m s := by
    intro m
    induction m with
    | nil => intro i s _; rfl
    | cons x m ih =>
      intro i s h
      have hx : l.getD i d = x := by
        rw [List.getD_eq_getElem?_getD, show l[i]? = some x by rw [← List.head?_drop, h]; rfl]; rfl
      simp only [List.length_cons, runN, runL, hx]
      cases g i s x with
      | inl s' => exact ih (i + 1) s' (by rw [← List.drop_drop, h]; rfl)
      | inr a => rfl
  exact key l 0 s rfl
theorem loop_l {X A S α : Type} {step : X → Option (Lp X A)} (l : List α) (mk : Nat → S → X) (g : Nat → S → α → S ⊕ A) (P : Nat → S → Prop)
    (h : ∀ i s (hi : i < l.length), P i s → step (mk i s) = some (again (mk (i + 1)) (g i s l[i])) ∧ ∀ s', g i s l[i] = .inl s' → P (i + 1) s')
    (he : ∀ s, P l.length s → step (mk l.length s) = some (.exit (mk l.length s))) {s : S} (h0 : P 0 s) :
    loopO step (mk 0 s) = some (Sum.map (mk l.length) id (runL g 0 l s)) ∧ ∀ s', runL g 0 l s = .inl s' → P l.length s' := by
  cases l with
  | nil =>
    obtain ⟨h1, h2⟩ := loop_n (step := step) 0 mk (fun _ s => .inl s) P (fun i s hi => by omega) he h0
    exact ⟨h1, h2⟩
  | cons x l =>
    obtain ⟨h1, h2⟩ := loop_n (step := step) (x :: l).length mk (fun i s => g i s ((x :: l).getD i x)) P (fun i s hi hp => by
      rw [getD_at hi]; exact h i s hi hp) he h0
    rw [runN_list] at h1 h2
    exact ⟨h1, h2⟩
theorem loop_l0 {X A S α : Type} {step : X → Option (Lp X A)} (l : List α) (mk : Nat → S → X) (g : Nat → S → α → S ⊕ A)
    (h : ∀ i s (hi : i < l.length), step (mk i s) = some (again (mk (i + 1)) (g i s l[i])))
    (he : ∀ s, step (mk l.length s) = some (.exit (mk l.length s))) (s : S) :
    loopO step (mk 0 s) = some (Sum.map (mk l.length) id (runL g 0 l s)) :=
  (loop_l l mk g (fun _ _ => True) (fun i s hi _ => ⟨h i s hi, fun _ _ => trivial⟩) (fun s _ => he s) (s := s) trivial).1
theorem loop_all {X A α : Type} {step : X → Option (Lp X A)} (l : List α) (mk : Nat → X) (p : α → Bool) (a : A)
    (h : ∀ i (hi : i < l.length), step (mk i) = some (bif p l[i] then .again (mk (i + 1)) else .ret a))
    (he : step (mk l.length) = some (.exit (mk l.length))) :
    loopO step (mk 0) = some (bif l.all p then .inl (mk l.length) else .inr a) := by
  have := loop_l0 (step := step) l (fun i (_ : Unit) => mk i) (fun _ _ x => bif p x then .inl () else .inr a) (fun i s hi => by
    rw [h i hi]; cases p l[i] <;> rfl) (fun _ => he) ()
  rw [this]
  have key : ∀ (m : List α) (i : Nat), Sum.map (fun (_ : Unit) => mk l.length) id (runL (fun _ _ x => bif p x then (.inl () : Unit ⊕ A) else .inr a) i m ()) = bif m.all p then .inl (mk l.length) else .inr a := by
    intro m
    induction m with
    | nil => intro i; rfl
    | cons x m ih =>
      intro i
      simp only [runL, List.all_cons]
      cases p x with
      | false => rfl
      | true => exact ih (i + 1)
  rw [key l 0]
theorem loop_any {X A α : Type} {step : X → Option (Lp X A)} (l : List α) (mk : Nat → X) (p : α → Bool) (a : A)
    (h : ∀ i (hi : i < l.length), step (mk i) = some (bif p l[i] then .ret a else .again (mk (i + 1))))
    (he : step (mk l.length) = some (.exit (mk l.length))) :
    loopO step (mk 0) = some (bif l.any p then .inr a else .inl (mk l.length)) := by
  have := loop_all (step := step) l mk (fun x => !p x) a (fun i hi => by rw [h i hi]; cases p l[i] <;> rfl) he
  rw [this]
  have e : ∀ m : List α, m.all (fun x => !p x) = !m.any p := by
    intro m
    induction m with
    | nil => rfl
    | cons x m ih => rw [List.all_cons, List.any_cons, ih]; cases p x <;> rfl
  rw [e]
  cases l.any p <;> rfl
theorem fits_of {n b : Nat} (h : n * b ≤ 140737488355328) : fits n b = true := decide_eq_true h
theorem getD_mid {α : Type} {p : List α} {x d : α} {l : List α} : (p ++ x :: l).getD p.length d = x := by
  rw [List.getD_eq_getElem?_getD, List.getElem?_append_right (Nat.le_refl _), Nat.sub_self]; rfl
theorem set_mid {α : Type} {p : List α} {x y : α} {l : List α} : (p ++ x :: l).set p.length y = p ++ y :: l := by
  rw [List.set_append_right _ _ (Nat.le_refl _), Nat.sub_self]; rfl
section
variable {α A : Type}
end
def inR (lo hi x : Int) : Bool := decide (x ≥ lo) && decide (x ≤ hi)
theorem l1In_eq (x lo hi : Int) : F.spec_l1In x lo hi = some (inR lo hi x) := by
  unfold F.spec_l1In inR
  cases decide (x ≥ lo) <;> rfl
theorem within_eq (x lo hi : Int) : F.impl_within x lo hi = some (inR lo hi x) := by
  unfold F.impl_within inR
  cases decide (x ≥ lo) <;> rfl
theorem inR_iff {lo hi x : Int} : inR lo hi x = true ↔ lo ≤ x ∧ x ≤ hi := by simp [inR]
abbrev Sp := Int × Int × Unit
def okAt (a : List Sp) (i : Nat) (h : i < a.length) : Prop := inR 0 9999 a[i].1 = true ∧ inR a[i].1 9999 a[i].2.1 = true ∧ ∀ h0 : 0 < i, ¬ (a[i].1 ≤ (a[i - 1]'(by omega)).2.1 + 1)
def Good (a : List Sp) : Prop := ∀ (i : Nat) (h : i < a.length), okAt a i h
theorem specSet_ok (a : List Sp) (h : a.length ≤ 1048576) : (F.spec_SetOk a = some true ∧ Good a) ∨ (F.spec_SetOk a = some false ∧ ¬ Good a) := by
  unfold F.spec_SetOk
  obtain ⟨y, h1, h2⟩ := loopO_rule (step := F.spec_SetOk.s2) (fun x => x.1 = a ∧ 0 ≤ x.2.1 ∧ x.2.1 ≤ a.length ∧ ∀ (i : Nat) (hi : i < a.length), (i : Int) < x.2.1 → okAt a i hi) (fun y => (∃ i, y = .inl i ∧ Good a) ∨ (y = .inr false ∧ ¬ Good a))
    (fun x => a.length - x.2.1.toNat) (fun x hx => by
      obtain ⟨x1, x2, u⟩ := x
      obtain ⟨rfl, g1, g2, g3⟩ := hx
      simp only at g1 g2 g3
      have h : x1.length ≤ 1048576 := h
      unfold F.spec_SetOk.s2
      simp only
      by_cases hlt : x2 < (x1.length : Int)
      · have hin : x2.toNat < x1.length := by omega
        have again : okAt x1 x2.toNat hin → (x1 = x1 ∧ 0 ≤ w64 (x2 + 1) ∧ w64 (x2 + 1) ≤ x1.length ∧ ∀ (i : Nat) (hi : i < x1.length), (i : Int) < w64 (x2 + 1) → okAt x1 i hi) ∧ x1.length - (w64 (x2 + 1)).toNat < x1.length - x2.toNat := by
          intro hok
          refine ⟨⟨rfl, ?_, ?_, ?_⟩, ?_⟩
          all_goals rw [w64_id (by omega) (by omega)]
          · omega
          · omega
          · intro i hi hlt'
            by_cases e : i = x2.toNat
            · subst e; exact hok
            · exact g3 i hi (by omega)
          · omega
        rw [show decide (x2 < len x1) = true from decide_eq_true hlt, inb_of g1 hlt, l1In_eq, l1In_eq, getD_at hin]
        simp only [chk_true, cond_true, Option.bind_some]
        cases hr : inR 0 9999 x1[x2.toNat].1 with
        | false => exact ⟨.ret false, rfl, .inr ⟨rfl, fun hg => by have := (hg _ hin).1; rw [hr] at this; cases this⟩⟩
        | true =>
          simp only [Bool.not_true, cond_false]
          cases hr2 : inR x1[x2.toNat].1 9999 x1[x2.toNat].2.1 with
          | false => exact ⟨.ret false, rfl, .inr ⟨rfl, fun hg => by have := (hg _ hin).2.1; rw [hr2] at this; cases this⟩⟩
          | true =>
            simp only [Bool.not_true, cond_false]
            by_cases hp : x2 > 0
            · have hin2 : x2.toNat - 1 < x1.length := by omega
              have hb := (g3 (x2.toNat - 1) hin2 (by omega))
              have hb1 := inR_iff.1 hb.1
              have hb2 := inR_iff.1 hb.2.1
              rw [show decide (x2 > 0) = true from decide_eq_true hp, w64_id (x := x2 - 1) (by omega) (by omega), inb_of (i := x2 - 1) (by omega) (by omega), show (x2 - 1).toNat = x2.toNat - 1 by omega, getD_at hin2, w64_id (x := x1[x2.toNat - 1].2.1 + 1) (by omega) (by omega)]
              simp only [chk_true, cond_true]
              by_cases hle : x1[x2.toNat].1 ≤ x1[x2.toNat - 1].2.1 + 1
              · rw [show decide (x1[x2.toNat].1 ≤ x1[x2.toNat - 1].2.1 + 1) = true from decide_eq_true hle]
                exact ⟨.ret false, rfl, .inr ⟨rfl, fun hg => (hg _ hin).2.2 (by omega) hle⟩⟩
              · rw [show decide (x1[x2.toNat].1 ≤ x1[x2.toNat - 1].2.1 + 1) = false from decide_eq_false hle]
                exact ⟨.again (x1, w64 (x2 + 1), ()), rfl, again ⟨hr, hr2, fun _ => hle⟩⟩
            · rw [show decide (x2 > 0) = false from decide_eq_false hp]
              exact ⟨.again (x1, w64 (x2 + 1), ()), rfl, again ⟨hr, hr2, fun h0 => by omega⟩⟩
      · refine ⟨.exit (x1, x2, ()), ?_, .inl ⟨_, rfl, fun i hi => g3 i hi (by omega)⟩⟩
        rw [show decide (x2 < len x1) = false from decide_eq_false hlt]; rfl) (x := (a, 0, ())) ⟨rfl, Int.le_refl 0, by simp, fun i hi h => by
          have h : (i : Int) < 0 := h
          omega⟩
  rw [h1]
  rcases h2 with ⟨i, rfl, hg⟩ | ⟨rfl, hg⟩
  · exact .inl ⟨rfl, hg⟩
  · exact .inr ⟨rfl, hg⟩
theorem implSet_ok (a : List Sp) (h : a.length ≤ 1048576) : (F.impl_SetOk a = some true ∧ Good a) ∨ (F.impl_SetOk a = some false ∧ ¬ Good a) := by
  unfold F.impl_SetOk
  obtain ⟨y, h1, h2⟩ := loopO_rule (step := F.impl_SetOk.s2) (fun x => x.1 = a ∧ x.2.1 = a ∧ x.2.2.1 = len a ∧ 0 ≤ x.2.2.2.1 ∧ x.2.2.2.1 ≤ a.length ∧ ∀ (i : Nat) (hi : i < a.length), (i : Int) < x.2.2.2.1 → okAt a i hi) (fun y => (∃ i, y = .inl i ∧ Good a) ∨ (y = .inr false ∧ ¬ Good a))
    (fun x => a.length - x.2.2.2.1.toNat) (fun x hx => by
      obtain ⟨x1, xa, xl, x2, u⟩ := x
      obtain ⟨rfl, ea, el, g1, g2, g3⟩ := hx
      simp only at g1 g2 g3 ea el
      subst ea; subst el
      have h : xa.length ≤ 1048576 := h
      unfold F.impl_SetOk.s2
      simp only
      by_cases hlt : x2 < (xa.length : Int)
      · have hin : x2.toNat < xa.length := by omega
        have again : okAt xa x2.toNat hin → (xa = xa ∧ xa = xa ∧ len xa = len xa ∧ 0 ≤ w64 (x2 + 1) ∧ w64 (x2 + 1) ≤ xa.length ∧ ∀ (i : Nat) (hi : i < xa.length), (i : Int) < w64 (x2 + 1) → okAt xa i hi) ∧ xa.length - (w64 (x2 + 1)).toNat < xa.length - x2.toNat := by
          intro hok
          refine ⟨⟨rfl, rfl, rfl, ?_, ?_, ?_⟩, ?_⟩
          all_goals rw [w64_id (by omega) (by omega)]
          · omega
          · omega
          · intro i hi hlt'
            by_cases e : i = x2.toNat
            · subst e; exact hok
            · exact g3 i hi (by omega)
          · omega
        rw [show decide (x2 < len xa) = true from decide_eq_true hlt, inb_of g1 hlt, within_eq, within_eq, getD_at hin]
        simp only [chk_true, cond_true, Option.bind_some]
        cases hr : inR 0 9999 xa[x2.toNat].1 with
        | false => exact ⟨.ret false, rfl, .inr ⟨rfl, fun hg => by have := (hg _ hin).1; rw [hr] at this; cases this⟩⟩
        | true =>
          simp only [Bool.not_true, cond_false]
          cases hr2 : inR xa[x2.toNat].1 9999 xa[x2.toNat].2.1 with
          | false => exact ⟨.ret false, rfl, .inr ⟨rfl, fun hg => by have := (hg _ hin).2.1; rw [hr2] at this; cases this⟩⟩
          | true =>
            simp only [Bool.not_true, cond_false]
            by_cases hp : x2 > 0
            · have hin2 : x2.toNat - 1 < xa.length := by omega
              have hb := (g3 (x2.toNat - 1) hin2 (by omega))
              have hb1 := inR_iff.1 hb.1
              have hb2 := inR_iff.1 hb.2.1
              rw [show decide (x2 > 0) = true from decide_eq_true hp, w64_id (x := x2 - 1) (by omega) (by omega), inb_of (i := x2 - 1) (by omega) (by omega), show (x2 - 1).toNat = x2.toNat - 1 by omega, getD_at hin2, w64_id (x := xa[x2.toNat - 1].2.1 + 1) (by omega) (by omega)]
              simp only [chk_true, cond_true]
              by_cases hle : xa[x2.toNat].1 ≤ xa[x2.toNat - 1].2.1 + 1
              · rw [show decide (xa[x2.toNat].1 ≤ xa[x2.toNat - 1].2.1 + 1) = true from decide_eq_true hle]
                exact ⟨.ret false, rfl, .inr ⟨rfl, fun hg => (hg _ hin).2.2 (by omega) hle⟩⟩
              · rw [show decide (xa[x2.toNat].1 ≤ xa[x2.toNat - 1].2.1 + 1) = false from decide_eq_false hle]
                exact ⟨.again (xa, xa, len xa, w64 (x2 + 1), ()), rfl, again ⟨hr, hr2, fun _ => hle⟩⟩
            · rw [show decide (x2 > 0) = false from decide_eq_false hp]
              exact ⟨.again (xa, xa, len xa, w64 (x2 + 1), ()), rfl, again ⟨hr, hr2, fun h0 => by omega⟩⟩
      · refine ⟨.exit (xa, xa, len xa, x2, ()), ?_, .inl ⟨_, rfl, fun i hi => g3 i hi (by omega)⟩⟩
        rw [show decide (x2 < len xa) = false from decide_eq_false hlt]; rfl) (x := (a, a, len a, 0, ())) ⟨rfl, rfl, rfl, Int.le_refl 0, by simp, fun i hi h => by
          have h : (i : Int) < 0 := h
          omega⟩
  rw [h1]
  rcases h2 with ⟨i, rfl, hg⟩ | ⟨rfl, hg⟩
  · exact .inl ⟨rfl, hg⟩
  · exact .inr ⟨rfl, hg⟩
theorem good_up {a : List Sp} (hg : Good a) : ∀ (k i : Nat) (hi : i + k < a.length), (a[i]'(by omega)).1 ≤ (a[i + k]).1 ∧ (a[i]'(by omega)).2.1 ≤ (a[i + k]).2.1
  | 0, i, hi => ⟨Int.le_refl _, Int.le_refl _⟩
  | k + 1, i, hi => by
    obtain ⟨g1, g2⟩ := good_up hg k i (by omega)
    have h1 := hg (i + k) (by omega)
    have h2 := hg (i + (k + 1)) hi
    have h3 := inR_iff.1 h1.2.1
    have h4 := inR_iff.1 h2.2.1
    have h5 := h2.2.2 (by omega)
    have e : (a[i + (k + 1) - 1]'(by omega)) = a[i + k] := by congr 1
    rw [e] at h5
    exact ⟨by omega, by omega⟩
def okF : Int → List Sp → Prop
  | _, [] => True
  | lo, x :: l => lo ≤ x.1 ∧ x.1 ≤ x.2.1 ∧ x.2.1 ≤ 9999 ∧ okF (x.2.1 + 2) l
def memS (s : List Sp) (n : Int) : Prop := ∃ x ∈ s, x.1 ≤ n ∧ n ≤ x.2.1
theorem memS_nil {n : Int} : ¬ memS [] n := fun ⟨_, h, _⟩ => by cases h
theorem memS_cons {x : Sp} {l : List Sp} {n : Int} : memS (x :: l) n ↔ (x.1 ≤ n ∧ n ≤ x.2.1) ∨ memS l n := by
  constructor
  · rintro ⟨y, hy, h⟩
    rcases List.mem_cons.1 hy with rfl | hy
    · exact .inl h
    · exact .inr ⟨y, hy, h⟩
  · rintro (h | ⟨y, hy, h⟩)
    · exact ⟨x, by simp, h⟩
    · exact ⟨y, by simp [hy], h⟩
theorem memS_append {a b : List Sp} {n : Int} : memS (a ++ b) n ↔ memS a n ∨ memS b n := by
  constructor
  · rintro ⟨y, hy, h⟩
    rcases List.mem_append.1 hy with hy | hy
    · exact .inl ⟨y, hy, h⟩
    · exact .inr ⟨y, hy, h⟩
  · rintro (⟨y, hy, h⟩ | ⟨y, hy, h⟩)
    · exact ⟨y, by simp [hy], h⟩
    · exact ⟨y, by simp [hy], h⟩
theorem okF_lb : ∀ {s : List Sp} {lo n : Int}, okF lo s → memS s n → lo ≤ n ∧ n ≤ 9999
  | [], lo, n, _, h => absurd h memS_nil
  | x :: l, lo, n, ⟨h1, h2, h3, h4⟩, h => by
    rcases memS_cons.1 h with h | h
    · omega
    · have := okF_lb h4 h
      omega
theorem okF_mono : ∀ {s : List Sp} {lo lo' : Int}, lo' ≤ lo → okF lo s → okF lo' s
  | [], _, _, _, _ => trivial
  | x :: l, lo, lo', hl, ⟨h1, h2, h3, h4⟩ => ⟨by omega, h2, h3, h4⟩
theorem okF_all : ∀ {s : List Sp} {lo : Int}, okF lo s → ∀ x ∈ s, lo ≤ x.1 ∧ x.1 ≤ x.2.1 ∧ x.2.1 ≤ 9999
  | x :: l, lo, ⟨h1, h2, h3, h4⟩, y, hy => by
    rcases List.mem_cons.1 hy with rfl | hy
    · exact ⟨h1, h2, h3⟩
    · have := okF_all h4 y hy
      omega
theorem okF_ext : ∀ {s t : List Sp} {lo lo' : Int}, okF lo s → okF lo' t → (∀ n, memS s n ↔ memS t n) → s = t
  | [], [], _, _, _, _, _ => rfl
  | [], y :: t, lo, lo', _, ⟨h1, h2, _⟩, h => absurd ((h y.1).2 (memS_cons.2 (.inl ⟨Int.le_refl _, h2⟩))) memS_nil
  | x :: s, [], lo, lo', ⟨h1, h2, _⟩, _, h => absurd ((h x.1).1 (memS_cons.2 (.inl ⟨Int.le_refl _, h2⟩))) memS_nil
  | x :: s, y :: t, lo, lo', ⟨h1, h2, h3, h4⟩, ⟨g1, g2, g3, g4⟩, h => by
    have e1 : x.1 = y.1 := by
      have a1 := okF_lb (s := y :: t) (lo := y.1) ⟨Int.le_refl _, g2, g3, g4⟩ ((h x.1).1 (memS_cons.2 (.inl ⟨Int.le_refl _, h2⟩)))
      have a2 := okF_lb (s := x :: s) (lo := x.1) ⟨Int.le_refl _, h2, h3, h4⟩ ((h y.1).2 (memS_cons.2 (.inl ⟨Int.le_refl _, g2⟩)))
      omega
    have e2 : x.2.1 = y.2.1 := by
      rcases Int.lt_trichotomy x.2.1 y.2.1 with hlt | heq | hlt
      · rcases memS_cons.1 ((h (x.2.1 + 1)).2 (memS_cons.2 (.inl ⟨by omega, by omega⟩))) with a | a
        · omega
        · have := okF_lb h4 a; omega
      · exact heq
      · rcases memS_cons.1 ((h (y.2.1 + 1)).1 (memS_cons.2 (.inl ⟨by omega, by omega⟩))) with a | a
        · omega
        · have := okF_lb g4 a; omega
    have e3 : s = t := okF_ext h4 g4 (fun n => by
      constructor
      · intro a
        have := okF_lb h4 a
        rcases memS_cons.1 ((h n).1 (memS_cons.2 (.inr a))) with b | b
        · omega
        · exact b
      · intro a
        have := okF_lb g4 a
        rcases memS_cons.1 ((h n).2 (memS_cons.2 (.inr a))) with b | b
        · omega
        · exact b)
    obtain ⟨x1, x2, u⟩ := x
    obtain ⟨y1, y2, v⟩ := y
    simp only at e1 e2
    rw [e1, e2, e3]
theorem good_cons {x : Sp} {l : List Sp} : Good (x :: l) ↔ (0 ≤ x.1 ∧ x.1 ≤ x.2.1 ∧ x.2.1 ≤ 9999) ∧ Good l ∧ ∀ y ∈ l.head?, x.2.1 + 1 < y.1 := by
  constructor
  · intro h
    have h0 := h 0 (by simp)
    have a1 := inR_iff.1 h0.1
    have a2 := inR_iff.1 h0.2.1
    simp only [List.getElem_cons_zero] at a1 a2
    refine ⟨⟨a1.1, a2.1, a2.2⟩, fun i hi => ?_, fun y hy => ?_⟩
    · have hh := h (i + 1) (by simpa using hi)
      refine ⟨hh.1, hh.2.1, fun h0 => ?_⟩
      have := hh.2.2 (by omega)
      have e : (x :: l)[i + 1 - 1]'(by simp; omega) = l[i - 1]'(by omega) := by
        obtain ⟨j, rfl⟩ : ∃ j, i = j + 1 := ⟨i - 1, by omega⟩
        simp
      rw [e] at this
      simpa using this
    · cases l with
      | nil => cases hy
      | cons z l =>
        cases hy
        have := (h 1 (by simp)).2.2 (by omega)
        simp only [List.getElem_cons_succ, List.getElem_cons_zero, Nat.sub_self] at this
        omega
  · rintro ⟨⟨h1, h2, h3⟩, hg, hh⟩ i hi
    cases i with
    | zero => exact ⟨inR_iff.2 ⟨h1, by simp only [List.getElem_cons_zero]; omega⟩, inR_iff.2 ⟨h2, h3⟩, fun h0 => by omega⟩
    | succ i =>
      have hi' : i < l.length := by simpa using hi
      obtain ⟨g1, g2, g3⟩ := hg i hi'
      refine ⟨g1, g2, fun _ => ?_⟩
      cases i with
      | zero =>
        cases l with
        | nil => simp at hi'
        | cons z l =>
          have := hh z rfl
          simp only [List.getElem_cons_succ, List.getElem_cons_zero, Nat.add_sub_cancel]
          omega
      | succ j => exact g3 (by omega)
theorem good_ok : ∀ {s : List Sp}, Good s ↔ okF 0 s
  | [] => ⟨fun _ => trivial, fun _ i h => by cases h⟩
  | x :: l => by
    rw [good_cons, good_ok (s := l)]
    constructor
    · rintro ⟨⟨h1, h2, h3⟩, h4, h5⟩
      refine ⟨h1, h2, h3, ?_⟩
      cases l with
      | nil => trivial
      | cons y l =>
        have := h5 y rfl
        exact ⟨by omega, h4.2⟩
    · rintro ⟨h1, h2, h3, h4⟩
      refine ⟨⟨h1, h2, h3⟩, okF_mono (by omega) h4, fun y hy => ?_⟩
      cases l with
      | nil => cases hy
      | cons z l => cases hy; have := h4.1; omega
theorem okF_len : ∀ {s : List Sp} {lo : Int}, 0 ≤ lo → okF lo s → lo + 2 * (s.length : Int) ≤ 10002 ∨ s = []
  | [], _, _, _ => .inr rfl
  | x :: l, lo, hl, ⟨h1, h2, h3, h4⟩ => by
    left
    rcases okF_len (by omega) h4 with h | h
    · simp only [List.length_cons]; omega
    · subst h; simp only [List.length_cons, List.length_nil]; omega
def put (x : Sp) : List Sp → List Sp
  | [] => [x]
  | y :: l => if y.2.1 + 1 < x.1 then y :: put x l else if y.1 > x.2.1 + 1 then x :: y :: l else put (mnI x.1 y.1, mxI x.2.1 y.2.1, ()) l
theorem put_ok : ∀ {s : List Sp} {lo : Int} {x : Sp}, okF lo s → lo ≤ x.1 → x.1 ≤ x.2.1 → x.2.1 ≤ 9999 → okF lo (put x s)
  | [], lo, x, _, h1, h2, h3 => ⟨h1, h2, h3, trivial⟩
  | y :: l, lo, x, ⟨g1, g2, g3, g4⟩, h1, h2, h3 => by
    unfold put
    split
    · exact ⟨g1, g2, g3, put_ok g4 (by omega) h2 h3⟩
    · split
      · exact ⟨h1, h2, h3, by omega, g2, g3, g4⟩
      · refine put_ok (okF_mono (by omega) g4) ?_ ?_ ?_ <;> simp only [mnI, mxI] <;> split <;> (try split) <;> omega
theorem put_mem : ∀ {s : List Sp} {x : Sp} {n : Int}, x.1 ≤ x.2.1 → (∀ y ∈ s, y.1 ≤ y.2.1) → (memS (put x s) n ↔ memS s n ∨ (x.1 ≤ n ∧ n ≤ x.2.1))
  | [], x, n, h, _ => by
    rw [put, memS_cons]
    exact ⟨fun h => h.elim .inr (fun h => absurd h memS_nil), fun h => h.elim (fun h => absurd h memS_nil) .inl⟩
  | y :: l, x, n, h, hs => by
    have hy := hs y (by simp)
    have hl : ∀ z ∈ l, z.1 ≤ z.2.1 := fun z hz => hs z (by simp [hz])
    unfold put
    split
    · rw [memS_cons, memS_cons, put_mem h hl]
      constructor
      · rintro (h | h | h)
        · exact .inl (.inl h)
        · exact .inl (.inr h)
        · exact .inr h
      · rintro ((h | h) | h)
        · exact .inl h
        · exact .inr (.inl h)
        · exact .inr (.inr h)
    · split
      · rw [memS_cons]
        exact Or.comm
      · have hm : (mnI x.1 y.1 : Int) ≤ mxI x.2.1 y.2.1 := by unfold mnI mxI; split <;> split <;> omega
        rw [put_mem (x := (mnI x.1 y.1, mxI x.2.1 y.2.1, ())) hm hl, memS_cons]
        have e : (mnI x.1 y.1 ≤ n ∧ n ≤ mxI x.2.1 y.2.1) ↔ (x.1 ≤ n ∧ n ≤ x.2.1) ∨ (y.1 ≤ n ∧ n ≤ y.2.1) := by
          unfold mnI mxI
          split <;> split <;> omega
        show memS l n ∨ (mnI x.1 y.1 ≤ n ∧ n ≤ mxI x.2.1 y.2.1) ↔ _
        rw [e]
        constructor
        · rintro (h | h | h)
          · exact .inl (.inr h)
          · exact .inr h
          · exact .inl (.inl h)
        · rintro ((h | h) | h)
          · exact .inr (.inr h)
          · exact .inl h
          · exact .inr (.inl h)
def joinS (a b : List Sp) : List Sp := b.foldl (fun s x => put x s) a
theorem joinS_ok : ∀ {b a : List Sp} {lo : Int}, okF lo a → (∀ x ∈ b, lo ≤ x.1 ∧ x.1 ≤ x.2.1 ∧ x.2.1 ≤ 9999) → okF lo (joinS a b)
  | [], a, lo, h, _ => h
  | x :: b, a, lo, h, hb => by
    obtain ⟨h1, h2, h3⟩ := hb x (by simp)
    exact joinS_ok (b := b) (a := put x a) (put_ok h h1 h2 h3) (fun y hy => hb y (by simp [hy]))
theorem joinS_mem : ∀ {b a : List Sp} {lo n : Int}, okF lo a → (∀ x ∈ b, lo ≤ x.1 ∧ x.1 ≤ x.2.1 ∧ x.2.1 ≤ 9999) → (memS (joinS a b) n ↔ memS a n ∨ memS b n)
  | [], a, lo, n, h, _ => ⟨.inl, fun h => h.elim id (fun h => absurd h memS_nil)⟩
  | x :: b, a, lo, n, h, hb => by
    obtain ⟨h1, h2, h3⟩ := hb x (by simp)
    have := joinS_mem (b := b) (a := put x a) (n := n) (put_ok h h1 h2 h3) (fun y hy => hb y (by simp [hy]))
    show memS (joinS (put x a) b) n ↔ _
    rw [this, put_mem h2 (fun y hy => (okF_all h y hy).2.1), memS_cons, or_assoc]
def runS (c : Sp) : List Sp → List Sp
  | [] => [c]
  | x :: l => if x.1 ≤ c.2.1 + 1 then runS (c.1, mxI c.2.1 x.2.1, ()) l else c :: runS x l
def uniS : List Sp → List Sp
  | [] => []
  | x :: l => runS x l
theorem runS_ok : ∀ {l : List Sp} {c : Sp} {lo : Int}, lo ≤ c.1 → c.1 ≤ c.2.1 → c.2.1 ≤ 9999 → (∀ x ∈ l, x.1 ≤ x.2.1 ∧ x.2.1 ≤ 9999 ∧ c.1 ≤ x.1) → l.Pairwise (fun x y => x.1 ≤ y.1) → okF lo (runS c l)
  | [], c, lo, h1, h2, h3, _, _ => ⟨h1, h2, h3, trivial⟩
  | x :: l, c, lo, h1, h2, h3, hl, hp => by
    obtain ⟨g1, g2, g3⟩ := hl x (by simp)
    obtain ⟨p1, p2⟩ := List.pairwise_cons.1 hp
    unfold runS
    split
    · refine runS_ok (c := (c.1, mxI c.2.1 x.2.1, ())) h1 ?_ ?_ (fun y hy => hl y (by simp [hy])) p2 <;> simp only [mxI] <;> split <;> omega
    · exact ⟨h1, h2, h3, runS_ok (by omega) g1 g2 (fun y hy => ⟨(hl y (by simp [hy])).1, (hl y (by simp [hy])).2.1, p1 y hy⟩) p2⟩
theorem runS_mem : ∀ {l : List Sp} {c : Sp} {n : Int}, c.1 ≤ c.2.1 → (∀ x ∈ l, x.1 ≤ x.2.1 ∧ c.1 ≤ x.1) → l.Pairwise (fun x y => x.1 ≤ y.1) → (memS (runS c l) n ↔ (c.1 ≤ n ∧ n ≤ c.2.1) ∨ memS l n)
  | [], c, n, _, _, _ => memS_cons
  | x :: l, c, n, h, hl, hp => by
    obtain ⟨g1, g3⟩ := hl x (by simp)
    obtain ⟨p1, p2⟩ := List.pairwise_cons.1 hp
    unfold runS
    split
    · have hm : c.1 ≤ mxI c.2.1 x.2.1 := by unfold mxI; split <;> omega
      rw [runS_mem (c := (c.1, mxI c.2.1 x.2.1, ())) hm (fun y hy => hl y (by simp [hy])) p2, memS_cons]
      have e : (c.1 ≤ n ∧ n ≤ mxI c.2.1 x.2.1) ↔ (c.1 ≤ n ∧ n ≤ c.2.1) ∨ (x.1 ≤ n ∧ n ≤ x.2.1) := by
        unfold mxI
        split <;> omega
      show (c.1 ≤ n ∧ n ≤ mxI c.2.1 x.2.1) ∨ _ ↔ _
      rw [e, or_assoc]
    · rw [memS_cons, runS_mem g1 (fun y hy => ⟨(hl y (by simp [hy])).1, p1 y hy⟩) p2, memS_cons]
theorem uniS_ok {l : List Sp} {lo : Int} (hl : ∀ x ∈ l, lo ≤ x.1 ∧ x.1 ≤ x.2.1 ∧ x.2.1 ≤ 9999) (hp : l.Pairwise (fun x y => x.1 ≤ y.1)) : okF lo (uniS l) := by
  cases l with
  | nil => trivial
  | cons x l =>
    obtain ⟨h1, h2, h3⟩ := hl x (by simp)
    obtain ⟨p1, p2⟩ := List.pairwise_cons.1 hp
    exact runS_ok h1 h2 h3 (fun y hy => ⟨(hl y (by simp [hy])).2.1, (hl y (by simp [hy])).2.2, p1 y hy⟩) p2
theorem uniS_mem {l : List Sp} {n : Int} (hl : ∀ x ∈ l, x.1 ≤ x.2.1) (hp : l.Pairwise (fun x y => x.1 ≤ y.1)) : memS (uniS l) n ↔ memS l n := by
  cases l with
  | nil => exact Iff.rfl
  | cons x l =>
    obtain ⟨p1, p2⟩ := List.pairwise_cons.1 hp
    rw [uniS, runS_mem (hl x (by simp)) (fun y hy => ⟨hl y (by simp [hy]), p1 y hy⟩) p2, memS_cons]
theorem memS_perm {a b : List Sp} (h : a.Perm b) {n : Int} : memS a n ↔ memS b n :=
  ⟨fun ⟨x, hx, g⟩ => ⟨x, h.mem_iff.1 hx, g⟩, fun ⟨x, hx, g⟩ => ⟨x, h.mem_iff.2 hx, g⟩⟩
theorem uni_join {a b s : List Sp} (ha : okF 0 a) (hb : ∀ x ∈ b, 0 ≤ x.1 ∧ x.1 ≤ x.2.1 ∧ x.2.1 ≤ 9999) (hs : s.Perm (a ++ b)) (hp : s.Pairwise (fun x y => x.1 ≤ y.1)) : uniS s = joinS a b := by
  have hall : ∀ x ∈ s, 0 ≤ x.1 ∧ x.1 ≤ x.2.1 ∧ x.2.1 ≤ 9999 := fun x hx => by
    rcases List.mem_append.1 (hs.mem_iff.1 hx) with h | h
    · exact okF_all ha x h
    · exact hb x h
  refine okF_ext (uniS_ok hall hp) (joinS_ok ha hb) (fun n => ?_)
  rw [uniS_mem (fun x hx => (hall x hx).2.1) hp, memS_perm hs, memS_append, joinS_mem ha hb]
theorem l1Min_eq (a b : Int) : F.spec_l1Min a b = some (mnI a b) := by
  unfold F.spec_l1Min mnI
  by_cases h : a < b
  · rw [decide_eq_true h]; simp only [cond_true]; split <;> congr 1 <;> omega
  · rw [decide_eq_false h]; simp only [cond_false]; split <;> congr 1 <;> omega
theorem l1Max_eq (a b : Int) : F.spec_l1Max a b = some (mxI a b) := by
  unfold F.spec_l1Max mxI
  by_cases h : a > b
  · rw [decide_eq_true h]; simp only [cond_true]; split <;> congr 1 <;> omega
  · rw [decide_eq_false h]; simp only [cond_false]; split <;> congr 1 <;> omega
theorem put_step (a acc : List Sp) (p : Bool) (c : Sp) (i : Nat) (hk : i < a.length) (h : a.length ≤ 1048576) (hl : acc.length ≤ 1048577) : F.spec_l5Put.s4 (a, acc, p, (i : Int), c, ()) = some (.again
    (if w64 (a[i].2.1 + 1) < c.1 then (a, acc ++ [a[i]], p, ((i + 1 : Nat) : Int), c, ()) else if a[i].1 > w64 (c.2.1 + 1) then (a, (if p then acc else acc ++ [c]) ++ [a[i]], true, ((i + 1 : Nat) : Int), c, ()) else (a, acc, p, ((i + 1 : Nat) : Int), (mnI c.1 a[i].1, mxI c.2.1 a[i].2.1, ()), ()))) := by
  unfold F.spec_l5Put.s4
  simp only
  rw [lt_len hk, inb_nat hk, Int.toNat_natCast, getD_at hk, w64_nat (by omega)]
  simp only [cond_true, chk_true, l1Min_eq, l1Max_eq, Option.bind_some, List.length_append, List.length_cons, List.length_nil]
  rw [fits_of (n := acc.length + (0 + 1)) (by omega), fits_of (n := acc.length + (0 + 1) + (0 + 1)) (by omega)]
  simp only [chk_true]
  by_cases h1 : w64 (a[i].2.1 + 1) < c.1
  · rw [decide_eq_true h1, if_pos h1]; rfl
  · rw [decide_eq_false h1, if_neg h1]
    by_cases h2 : a[i].1 > w64 (c.2.1 + 1)
    · rw [decide_eq_true h2, if_pos h2]
      cases p <;> rfl
    · rw [decide_eq_false h2, if_neg h2]; rfl
theorem l5Put_any (a : List Sp) (x : Sp) (h : a.length ≤ 1048576) : ∃ r, F.spec_l5Put a x = some r ∧ r.length ≤ a.length + 1 := by
  unfold F.spec_l5Put
  have key : ∀ (n i : Nat) (acc : List Sp) (p : Bool) (c : Sp), a.length - i = n → i ≤ a.length → acc.length ≤ i + (if p then 1 else 0) → ∃ acc' p' c', iterO F.spec_l5Put.s4 (n + 1) (a, acc, p, (i : Int), c, ()) = some (.inl (a, acc', p', ((a.length : Nat) : Int), c', ())) ∧ acc'.length ≤ a.length + (if p' then 1 else 0) := by
    intro n
    induction n with
    | zero =>
      intro i acc p c hi hle hl
      have hi' : i = a.length := by omega
      subst hi'
      refine ⟨acc, p, c, ?_, hl⟩
      unfold iterO F.spec_l5Put.s4
      simp only [ge_len, cond_false]
    | succ n ih =>
      intro i acc p c hi hle hl
      have hk : i < a.length := by omega
      have hl2 : acc.length ≤ i + 1 := by cases p <;> simp at hl <;> omega
      rw [iterO, put_step a acc p c i hk h (by omega)]
      simp only
      split
      · exact ih (i + 1) _ p c (by omega) (by omega) (by rw [List.length_append, List.length_singleton]; omega)
      · split
        · refine ih (i + 1) _ true c (by omega) (by omega) ?_
          rw [List.length_append, List.length_singleton]
          cases p <;> simp at hl ⊢ <;> omega
        · exact ih (i + 1) _ p _ (by omega) (by omega) (by omega)
  obtain ⟨acc', p', c', h1, h2⟩ := key a.length 0 [] false x (by omega) (by omega) (by simp)
  have h1' : loopO F.spec_l5Put.s4 (a, [], false, 0, x, ()) = _ := loopO_of h1
  rw [h1']
  simp only [afterO]
  cases p' with
  | true => exact ⟨_, rfl, by simpa using h2⟩
  | false =>
    simp at h2
    simp only [Bool.not_false, cond_true, List.length_cons, List.length_nil]
    rw [fits_of (by omega)]
    exact ⟨_, rfl, by simp; omega⟩
theorem l5Put_eq (a : List Sp) (x : Sp) (h : a.length ≤ 1048576) {lo : Int} (hlo : 0 ≤ lo) (ha : okF lo a) (h0 : 0 ≤ x.1) (h1 : x.1 ≤ x.2.1) (h2 : x.2.1 ≤ 9999) : F.spec_l5Put a x = some (put x a) := by
  unfold F.spec_l5Put
  -- behind it: all the rest is kept
  have key1 : ∀ (m p acc : List Sp) (c : Sp) (l : Int), a = p ++ m → acc.length ≤ p.length + 1 → okF l m → c.2.1 + 1 < l → 0 ≤ c.1 → c.1 ≤ c.2.1 → c.2.1 ≤ 9999 →
      iterO F.spec_l5Put.s4 (m.length + 1) (a, acc, true, ((p.length : Nat) : Int), c, ()) = some (.inl (a, acc ++ m, true, ((a.length : Nat) : Int), c, ())) := by
    intro m
    induction m with
    | nil =>
      intro p acc c l hp hl hok hc g0 g1 g2
      have hpl : p.length = a.length := by rw [hp]; simp
      unfold iterO F.spec_l5Put.s4
      simp only [hpl, ge_len, cond_false, List.append_nil]
    | cons y m ih =>
      intro p acc c l hp hl hok hc g0 g1 g2
      obtain ⟨k1, k2, k3, k4⟩ := hok
      have hk : p.length < a.length := by rw [hp]; simp
      have hg : a[p.length] = y := by simp [hp]
      rw [List.length_cons, iterO, put_step a acc true c p.length hk h (by omega), hg, w64_id (by omega) (by omega), w64_id (by omega) (by omega), if_neg (by omega), if_pos (by omega)]
      simp only [if_true]
      have := ih (p ++ [y]) (acc ++ [y]) c (y.2.1 + 2) (by simp [hp]) (by simp; omega) k4 (by omega) g0 g1 g2
      rw [List.length_append] at this
      simp only [List.append_assoc, List.singleton_append] at this
      exact this
  have key2 : ∀ (m p acc : List Sp) (c : Sp) (l : Int), a = p ++ m → acc.length ≤ p.length → 0 ≤ l → okF l m → 0 ≤ c.1 → c.1 ≤ c.2.1 → c.2.1 ≤ 9999 →
      ∃ acc' p' c', iterO F.spec_l5Put.s4 (m.length + 1) (a, acc, false, ((p.length : Nat) : Int), c, ()) = some (.inl (a, acc', p', ((a.length : Nat) : Int), c', ())) ∧ (if p' then acc' else acc' ++ [c']) = acc ++ put c m ∧ (p' = false → acc'.length ≤ a.length) := by
    intro m
    induction m with
    | nil =>
      intro p acc c l hp hl hl0 hok g0 g1 g2
      have hpl : p.length = a.length := by rw [hp]; simp
      refine ⟨acc, false, c, ?_, rfl, fun _ => by omega⟩
      unfold iterO F.spec_l5Put.s4
      simp only [hpl, ge_len, cond_false]
    | cons y m ih =>
      intro p acc c l hp hl hl0 hok g0 g1 g2
      obtain ⟨k1, k2, k3, k4⟩ := hok
      have hk : p.length < a.length := by rw [hp]; simp
      have hg : a[p.length] = y := by simp [hp]
      rw [List.length_cons, iterO, put_step a acc false c p.length hk h (by omega), hg, w64_id (by omega) (by omega), w64_id (by omega) (by omega), put]
      simp only [Bool.false_eq_true, if_false]
      by_cases c1 : y.2.1 + 1 < c.1
      · rw [if_pos c1, if_pos c1]
        obtain ⟨acc', p', c', e1, e2, e3⟩ := ih (p ++ [y]) (acc ++ [y]) c (y.2.1 + 2) (by simp [hp]) (by simp; omega) (by omega) k4 g0 g1 g2
        rw [List.length_append] at e1
        refine ⟨acc', p', c', e1, ?_, e3⟩
        rw [e2]; simp
      · rw [if_neg c1, if_neg c1]
        by_cases c2 : y.1 > c.2.1 + 1
        · rw [if_pos c2, if_pos c2]
          have := key1 m (p ++ [y]) ((acc ++ [c]) ++ [y]) c (y.2.1 + 2) (by simp [hp]) (by simp; omega) k4 (by omega) g0 g1 g2
          rw [List.length_append] at this
          refine ⟨_, true, c, this, by simp, fun h => by cases h⟩
        · rw [if_neg c2, if_neg c2]
          obtain ⟨acc', p', c', e1, e2, e3⟩ := ih (p ++ [y]) acc (mnI c.1 y.1, mxI c.2.1 y.2.1, ()) (y.2.1 + 2) (by simp [hp]) (by simp; omega) (by omega) k4 (by simp only [mnI]; split <;> omega) (by simp only [mnI, mxI]; split <;> split <;> omega) (by simp only [mxI]; split <;> omega)
          rw [List.length_append] at e1
          exact ⟨acc', p', c', e1, e2, e3⟩
  obtain ⟨acc', p', c', e1, e2, e3⟩ := key2 a [] [] x lo rfl (by simp) hlo ha h0 h1 h2
  have h1' : loopO F.spec_l5Put.s4 (a, [], false, 0, x, ()) = _ := loopO_of e1
  rw [h1']
  simp only [afterO]
  cases p' with
  | true => simpa using e2
  | false =>
    have := e3 rfl
    simp only [Bool.not_false, cond_true, List.length_cons, List.length_nil]
    rw [fits_of (by omega)]
    simpa [chk_true] using e2
def hasB (a : List Sp) (n : Int) : Bool := a.any fun x => inR x.1 x.2.1 n
theorem specHas_eq (a : List Sp) (n : Int) (h : a.length ≤ 1048576) : F.spec_SetHas a n = some (hasB a n) := by
  unfold F.spec_SetHas
  have hh := loop_any (step := F.spec_SetHas.s2) a (fun i => (a, n, (i : Int), ())) (fun x => inR x.1 x.2.1 n) true (fun i hi => by
    unfold F.spec_SetHas.s2
    simp only
    rw [lt_len hi, inb_nat hi, Int.toNat_natCast, w64_nat (by omega), getD_at hi, l1In_eq]
    simp only [cond_true, chk_true, Option.bind_some]
    cases inR a[i].1 a[i].2.1 n <;> rfl) (by
    unfold F.spec_SetHas.s2
    simp only [ge_len, cond_false])
  rw [show loopO F.spec_SetHas.s2 (a, n, 0, ()) = _ from hh]
  unfold hasB
  cases a.any (fun x => inR x.1 x.2.1 n) <;> rfl
theorem indexFunc_eq {step : (List Sp × (Int × Unit) × Int × Int × Unit) → Option (Lp (List Sp × (Int × Unit) × Int × Int × Unit) Int)} (a : List Sp) (n : Int) (p : Sp → Bool) (h : a.length ≤ 1048576)
    (hs : ∀ i (hi : i < a.length), step (a, (n, ()), len a, (i : Int), ()) = some (bif p a[i] then .ret (i : Int) else .again (a, (n, ()), len a, ((i + 1 : Nat) : Int), ())))
    (he : step (a, (n, ()), len a, ((a.length : Nat) : Int), ()) = some (.exit (a, (n, ()), len a, ((a.length : Nat) : Int), ()))) :
    ∃ y, loopO step (a, (n, ()), len a, 0, ()) = some y ∧ ((y = .inl (a, (n, ()), len a, ((a.length : Nat) : Int), ()) ∧ a.any p = false) ∨ (∃ i : Nat, y = .inr (i : Int) ∧ a.any p = true)) := by
  have hl := loop_l0 (step := step) a (fun i (_ : Unit) => (a, (n, ()), len a, (i : Int), ())) (fun i _ x => bif p x then .inr (i : Int) else .inl ()) (fun i s hi => by
    rw [hs i hi]; cases p a[i] <;> rfl) (fun _ => he) ()
  refine ⟨_, hl, ?_⟩
  have key : ∀ (m : List Sp) (i : Nat), (runL (fun i _ x => bif p x then (.inr (i : Int) : Unit ⊕ Int) else .inl ()) i m () = .inl () ∧ m.any p = false) ∨ ∃ k : Nat, runL (fun i _ x => bif p x then (.inr (i : Int) : Unit ⊕ Int) else .inl ()) i m () = .inr (k : Int) ∧ m.any p = true := by
    intro m
    induction m with
    | nil => intro i; exact .inl ⟨rfl, rfl⟩
    | cons x m ih =>
      intro i
      simp only [runL, List.any_cons]
      cases p x with
      | true => exact .inr ⟨i, rfl, rfl⟩
      | false => exact ih (i + 1)
  rcases key a 0 with ⟨e, g⟩ | ⟨k, e, g⟩
  · rw [e]; exact .inl ⟨rfl, g⟩
  · rw [e]; exact .inr ⟨k, rfl, g⟩
theorem implHas_eq (a : List Sp) (n : Int) (h : a.length ≤ 1048576) : F.impl_SetHas a n = some (hasB a n) := by
  unfold F.impl_SetHas F.slices_ContainsFunc_Span__impl_SetHas_1 F.slices_IndexFunc_Span__impl_SetHas_1
  obtain ⟨y, hy, hr⟩ := indexFunc_eq (step := F.slices_IndexFunc_Span__impl_SetHas_1.s2) a n (fun x => inR x.1 x.2.1 n) h (fun i hi => by
    unfold F.slices_IndexFunc_Span__impl_SetHas_1.s2 F.impl_SetHas_1
    simp only
    rw [lt_len hi, inb_nat hi, Int.toNat_natCast, w64_nat (by omega), getD_at hi, within_eq]
    simp only [cond_true, chk_true, Option.bind_some]
    cases inR a[i].1 a[i].2.1 n <;> rfl) (by
    unfold F.slices_IndexFunc_Span__impl_SetHas_1.s2
    simp only [ge_len, cond_false])
  simp only [hy]
  unfold hasB
  rcases hr with ⟨rfl, e⟩ | ⟨i, rfl, e⟩
  · rw [e]; rfl
  · rw [e]
    simp only [afterO, Option.bind_some]
    rw [show decide (((i : Nat) : Int) ≥ 0) = true from decide_eq_true (by omega)]
theorem has_mem {a : List Sp} {n : Int} : hasB a n = true ↔ ∃ x ∈ a, x.1 ≤ n ∧ n ≤ x.2.1 := by
  unfold hasB
  rw [List.any_eq_true]
  exact ⟨fun ⟨x, hx, h⟩ => ⟨x, hx, inR_iff.1 h⟩, fun ⟨x, hx, h⟩ => ⟨x, hx, inR_iff.2 h⟩⟩
open Classical in
noncomputable def decB (p : Prop) : Bool := decide p
theorem decB_iff {p : Prop} : decB p = true ↔ p := by simp [decB]
theorem decB_pos {p : Prop} (h : p) : decB p = true := decB_iff.2 h
theorem decB_neg {p : Prop} (h : ¬ p) : decB p = false := by simp [decB, h]
theorem decB_eq {p : Prop} {b : Bool} (h : b = true ↔ p) : b = decB p := by
  rw [Bool.eq_iff_iff, h, decB_iff]
theorem specSet_dec (a : List Sp) (h : a.length ≤ 1048576) : F.spec_SetOk a = some (decB (Good a)) := by
  rcases specSet_ok a h with ⟨e, g⟩ | ⟨e, g⟩
  · rw [e, decB_pos g]
  · rw [e, decB_neg g]
theorem implSet_dec (a : List Sp) (h : a.length ≤ 1048576) : F.impl_SetOk a = some (decB (Good a)) := by
  rcases implSet_ok a h with ⟨e, g⟩ | ⟨e, g⟩
  · rw [e, decB_pos g]
  · rw [e, decB_neg g]
def ap1 (x y : Sp) : Bool := !(decide (x.1 ≤ y.2.1) && decide (y.1 ≤ x.2.1))
def apB (a b : List Sp) : Bool := a.all fun x => b.all fun y => ap1 x y
def Within (a : List Sp) (n : Int) : Prop := ∀ (i : Nat) (h : i < a.length), 1 ≤ a[i].1 ∧ a[i].2.1 ≤ n
theorem below_loop (a : List Sp) (n : Int) (h : a.length ≤ 1048576) : ∃ y, loopO F.spec_l8Below.s4 (a, n, 0, ()) = some y ∧ ((∃ i, y = .inl i ∧ Within a n) ∨ (y = .inr false ∧ ¬ Within a n)) :=
  loopO_rule (step := F.spec_l8Below.s4) (fun x => x.1 = a ∧ x.2.1 = n ∧ 0 ≤ x.2.2.1 ∧ x.2.2.1 ≤ a.length ∧ ∀ (i : Nat) (hi : i < a.length), (i : Int) < x.2.2.1 → 1 ≤ a[i].1 ∧ a[i].2.1 ≤ n) (fun y => (∃ i, y = .inl i ∧ Within a n) ∨ (y = .inr false ∧ ¬ Within a n))
    (fun x => a.length - x.2.2.1.toNat) (fun x hx => by
      obtain ⟨x1, x3, x2, u⟩ := x
      obtain ⟨rfl, e3, g1, g2, g3⟩ := hx
      simp only at g1 g2 g3 e3
      subst e3
      have h : x1.length ≤ 1048576 := h
      unfold F.spec_l8Below.s4
      simp only
      by_cases hlt : x2 < (x1.length : Int)
      · have hin : x2.toNat < x1.length := by omega
        rw [show decide (x2 < len x1) = true from decide_eq_true hlt, inb_of g1 hlt, getD_at hin]
        simp only [chk_true, cond_true]
        by_cases ha : x1[x2.toNat].1 < 1
        · rw [show decide (x1[x2.toNat].1 < 1) = true from decide_eq_true ha]
          exact ⟨.ret false, rfl, .inr ⟨rfl, fun hg => by have := (hg _ hin).1; omega⟩⟩
        · rw [show decide (x1[x2.toNat].1 < 1) = false from decide_eq_false ha]
          simp only [cond_false]
          by_cases hb : x1[x2.toNat].2.1 > x3
          · rw [show decide (x1[x2.toNat].2.1 > x3) = true from decide_eq_true hb]
            exact ⟨.ret false, rfl, .inr ⟨rfl, fun hg => by have := (hg _ hin).2; omega⟩⟩
          · rw [show decide (x1[x2.toNat].2.1 > x3) = false from decide_eq_false hb]
            refine ⟨.again (x1, x3, w64 (x2 + 1), ()), rfl, ⟨rfl, rfl, ?_, ?_, ?_⟩, ?_⟩
            all_goals simp only
            all_goals rw [w64_id (by omega) (by omega)]
            · omega
            · omega
            · intro i hi hlt'
              by_cases e : i = x2.toNat
              · subst e; exact ⟨by omega, by omega⟩
              · exact g3 i hi (by omega)
            · omega
      · refine ⟨.exit (x1, x3, x2, ()), ?_, .inl ⟨_, rfl, fun i hi => g3 i hi (by omega)⟩⟩
        rw [show decide (x2 < len x1) = false from decide_eq_false hlt]; rfl) (x := (a, n, 0, ())) ⟨rfl, rfl, Int.le_refl 0, by simp, fun i hi h => by
          have h : (i : Int) < 0 := h
          omega⟩
theorem below_same (a : List Sp) (n : Int) (h : a.length ≤ 1048576) : (F.spec_l8Below a n = some true ∧ F.impl_allIn a 1 n = some true ∧ Good a) ∨ (F.spec_l8Below a n = some false ∧ F.impl_allIn a 1 n = some false) := by
  unfold F.spec_l8Below F.impl_allIn
  rcases specSet_ok a h with ⟨e1, hg⟩ | ⟨e1, hg⟩ <;> rcases implSet_ok a h with ⟨e2, hg2⟩ | ⟨e2, hg2⟩
  · rw [e1, e2]
    obtain ⟨y, h1, h2⟩ := below_loop a n h
    simp only [Option.bind_some, Bool.not_true, cond_false, cond_true, h1]
    cases a with
    | nil =>
      rcases h2 with ⟨i, rfl, hw⟩ | ⟨rfl, hw⟩
      · exact .inl ⟨rfl, rfl, hg⟩
      · exact absurd (fun i hi => by cases hi) hw
    | cons s l =>
      have hn : (len (s :: l) == 0) = false := by simp [len]; omega
      rw [hn]
      have hlast : (w64 (len (s :: l) - 1)).toNat = l.length := by
        rw [w64_id (by simp only [len, List.length_cons]; omega) (by simp only [len, List.length_cons] at h ⊢; omega)]
        simp [len]
      have hin1 : inb 0 (s :: l).length = true := inb_of (by omega) (by simp only [List.length_cons]; omega)
      have hin2 : inb (w64 (len (s :: l) - 1)) (s :: l).length = true := by
        rw [w64_id (by simp only [len, List.length_cons]; omega) (by simp only [len, List.length_cons] at h ⊢; omega)]
        exact inb_of (by simp only [len, List.length_cons]; omega) (by simp only [len, List.length_cons]; omega)
      rw [hin1, hin2, hlast, getD_at (l := s :: l) (i := 0) (by simp), getD_at (l := s :: l) (i := l.length) (by simp)]
      simp only [chk_true, cond_false]
      have key : ((s :: l)[0].1 ≥ 1 ∧ ((s :: l)[l.length]'(by simp)).2.1 ≤ n) ↔ Within (s :: l) n := by
        constructor
        · rintro ⟨k1, k2⟩ i hi
          have u1 := (good_up hg i 0 (by simpa using hi)).1
          have u2 := (good_up hg (l.length - i) i (by simp at hi ⊢; omega)).2
          have e3 : i + (l.length - i) = l.length := by simp at hi; omega
          simp only [Nat.zero_add, e3] at u1 u2
          exact ⟨by omega, by omega⟩
        · intro hw
          exact ⟨(hw 0 (by simp)).1, (hw l.length (by simp)).2⟩
      rcases h2 with ⟨i, rfl, hw⟩ | ⟨rfl, hw⟩
      · obtain ⟨k1, k2⟩ := key.2 hw
        refine .inl ⟨rfl, ?_, hg⟩
        rw [show decide ((s :: l)[0].1 ≥ 1) = true from decide_eq_true k1, show decide (((s :: l)[l.length]'(by simp)).2.1 ≤ n) = true from decide_eq_true k2]; rfl
      · refine .inr ⟨rfl, ?_⟩
        by_cases k1 : (s :: l)[0].1 ≥ 1
        · have k2 : ¬ ((s :: l)[l.length]'(by simp)).2.1 ≤ n := fun k2 => hw (key.1 ⟨k1, k2⟩)
          rw [show decide ((s :: l)[0].1 ≥ 1) = true from decide_eq_true k1, show decide (((s :: l)[l.length]'(by simp)).2.1 ≤ n) = false from decide_eq_false k2]; rfl
        · rw [show decide ((s :: l)[0].1 ≥ 1) = false from decide_eq_false k1]; rfl
  · exact absurd hg hg2
  · exact absurd hg2 hg
  · rw [e1, e2]; exact .inr ⟨rfl, rfl⟩
theorem w64_step (x h l : Int) : w64 (w64 (w64 (x + h) - l) + 1) = w64 (x + w64 (w64 (h - l) + 1)) := by
  unfold w64 IntKind.wrap
  simp [IntKind.bits, IntKind.signed]
  omega
def accS (a : List Sp) : Nat → Int
  | 0 => 0
  | i + 1 => w64 (w64 (w64 (accS a i + (List.getD a i (0, 0, ())).2.1) - (List.getD a i (0, 0, ())).1) + 1)
theorem size_same (a : List Sp) (h : a.length ≤ 1048576) : ∃ r, F.spec_SetSize a = some r ∧ F.impl_SetSize a = some r := by
  unfold F.spec_SetSize F.impl_SetSize
  rcases specSet_ok a h with ⟨e1, hg⟩ | ⟨e1, hg⟩ <;> rcases implSet_ok a h with ⟨e2, hg2⟩ | ⟨e2, hg2⟩
  · rw [e1, e2]
    have l1 := loop_run (step := F.spec_SetSize.s5) (fun i => (a, accS a i, (i : Int), ())) a.length (fun i hi => by
      unfold F.spec_SetSize.s5
      simp only
      rw [lt_len hi, inb_nat hi, w64_nat (by omega), Int.toNat_natCast]
      rfl) (l := .exit (a, accS a a.length, (a.length : Int), ())) (y := .inl (a, accS a a.length, (a.length : Int), ())) (by
      unfold F.spec_SetSize.s5
      simp only
      rw [ge_len]
      rfl) rfl
    have l2 := loop_run (step := F.impl_SetSize.s5) (fun i => (accS a i, a, len a, (i : Int), ())) a.length (fun i hi => by
      unfold F.impl_SetSize.s5
      simp only
      rw [lt_len hi, inb_nat hi, w64_nat (by omega), Int.toNat_natCast]
      simp only [chk_true, cond_true, accS]
      rw [w64_step]) (l := .exit (accS a a.length, a, len a, (a.length : Int), ())) (y := .inl (accS a a.length, a, len a, (a.length : Int), ())) (by
      unfold F.impl_SetSize.s5
      simp only
      rw [ge_len]
      rfl) rfl
    have l1 : loopO F.spec_SetSize.s5 (a, 0, 0, ()) = _ := l1
    have l2 : loopO F.impl_SetSize.s5 (0, a, len a, 0, ()) = _ := l2
    simp only [Option.bind_some, Bool.not_true, cond_false, l1, l2]
    exact ⟨_, rfl, rfl⟩
  · exact absurd hg hg2
  · exact absurd hg2 hg
  · rw [e1, e2]; exact ⟨0, rfl, rfl⟩
def zSpanS (l : List DSpan) : Nat := l.length
def fSpanS (l : List DSpan) : Prop := l.length ≤ maxLen
def zSeat (a : DSeat) : Nat := zSpanS a.2.2.1
def fSeat (a : DSeat) : Prop := fSpanS a.2.2.1
structure SeatR (s : DSeat) (n : Int) : Prop where
  per : 1 ≤ n ∧ n ≤ 8
  ep : 0 ≤ s.1 ∧ s.1 ≤ 1000
  gr : 0 ≤ s.2.1 ∧ s.2.1 ≤ 60
  good : Good s.2.2.1
theorem seatOk_same (a : DSeat) (n : Int) (h : a.2.2.1.length ≤ 1048576) : ∃ b, F.spec_SeatOk a n = some b ∧ F.impl_SeatOk a n = some b ∧ (b = true → SeatR a n) := by
  obtain ⟨a0, a1, a2, a3, a4, u⟩ := a
  obtain ⟨z, z1, z2⟩ := size_same a2 h
  unfold F.spec_SeatOk F.impl_SeatOk
  rcases below_same a2 a1 h with ⟨b1, b2, hg⟩ | ⟨b1, b2⟩
  all_goals simp only [l1In_eq, within_eq, z1, z2, b1, b2, Option.bind_some]
  all_goals cases h1 : inR 1 8 n with
    | false => exact ⟨_, rfl, rfl, fun h => by cases h⟩
    | true => cases h2 : inR 0 1000 a0 with
      | false => exact ⟨_, rfl, rfl, fun h => by cases h⟩
      | true => cases h3 : inR 0 60 a1 with
        | false => exact ⟨_, rfl, rfl, fun h => by cases h⟩
        | true => first
          | exact ⟨_, rfl, rfl, fun h => by cases h⟩
          | (cases inR 0 z a3 with
            | false => exact ⟨_, rfl, rfl, fun h => by cases h⟩
            | true => cases decide (a1 ≤ w64 (a3 + n)) with
              | false => exact ⟨_, rfl, rfl, fun h => by cases h⟩
              | true => exact ⟨_, rfl, rfl, fun _ => ⟨inR_iff.1 h1, inR_iff.1 h2, inR_iff.1 h3, hg⟩⟩)
theorem l5Copy_eq (a : List DSpan) (h : a.length ≤ 1048576) : F.spec_l5Copy a = some a := by
  unfold F.spec_l5Copy
  rw [fits_of (by simp; omega)]; rfl
theorem copySet_eq (a : List DSpan) (h : a.length ≤ 1048576) : F.impl_copySet a = some a := by
  unfold F.impl_copySet
  rw [fits_of (by omega)]; rfl
theorem l9Copy_eq (a : DSeat) (h : a.2.2.1.length ≤ 1048576) : F.spec_l9Copy a = some a := by
  unfold F.spec_l9Copy
  rw [l5Copy_eq _ h]; rfl
theorem copySeat_eq (a : DSeat) (h : a.2.2.1.length ≤ 1048576) : F.impl_copySeat a = some a := by
  unfold F.impl_copySeat
  rw [copySet_eq _ h]; rfl
def ends (l : List Sp) : Prop := ∀ x ∈ l, 0 ≤ x.1 ∧ x.1 ≤ x.2.1 ∧ x.2.1 ≤ 9999
theorem copySet_big (a : List DSpan) (h : a.length ≤ 4194304) : F.impl_copySet a = some a := by
  unfold F.impl_copySet
  rw [fits_of (by omega)]; rfl
theorem union_loop (s : List Sp) (h : s.length ≤ 4194304) (he : ends s) : ∃ e1 e2 e3, loopO F.impl_union.s5 ([], s, len s, 0, ()) = some (.inl (uniS s, e1, e2, e3, ())) := by
  have key : ∀ (m p pre : List Sp) (c : Sp), s = p ++ m → pre.length + 1 ≤ p.length → 0 ≤ c.2.1 ∧ c.2.1 ≤ 9999 →
      iterO F.impl_union.s5 (m.length + 1) (pre ++ [c], s, len s, ((p.length : Nat) : Int), ()) = some (.inl (pre ++ runS c m, s, len s, ((s.length : Nat) : Int), ())) := by
    intro m
    induction m with
    | nil =>
      intro p pre c hp hl hc
      have hpl : p.length = s.length := by rw [hp]; simp
      unfold iterO F.impl_union.s5
      simp only [hpl, ge_len, cond_false, runS]
    | cons y m ih =>
      intro p pre c hp hl hc
      have hk : p.length < s.length := by rw [hp]; simp
      have hg : s[p.length] = y := by simp [hp]
      have hy := he y (by rw [hp]; simp)
      have hst : F.impl_union.s5 (pre ++ [c], s, len s, ((p.length : Nat) : Int), ()) = some (.again (if y.1 ≤ c.2.1 + 1 then (pre ++ [(c.1, mxI c.2.1 y.2.1, ())], s, len s, ((p.length + 1 : Nat) : Int), ()) else ((pre ++ [c]) ++ [y], s, len s, ((p.length + 1 : Nat) : Int), ()))) := by
        unfold F.impl_union.s5
        have hln : len (pre ++ [c]) = ((pre.length : Nat) : Int) + 1 := by simp [len]
        have hpr : pre.length < (pre ++ [c]).length := by simp
        simp only
        rw [lt_len hk, inb_nat hk, Int.toNat_natCast, getD_at hk, w64_nat (by omega), hg, hln, show decide (((pre.length : Nat) : Int) + 1 > 0) = true from decide_eq_true (by omega), w64_id (x := ((pre.length : Nat) : Int) + 1 - 1) (by omega) (by omega), show ((pre.length : Nat) : Int) + 1 - 1 = ((pre.length : Nat) : Int) by omega, inb_nat hpr, Int.toNat_natCast, getD_mid, set_mid, w64_id (by omega) (by omega)]
        simp only [cond_true, chk_true, List.length_append, List.length_cons, List.length_nil, Option.bind_some]
        rw [fits_of (by omega)]
        by_cases hc1 : y.1 ≤ c.2.1 + 1
        · rw [decide_eq_true hc1, if_pos hc1]; rfl
        · rw [decide_eq_false hc1, if_neg hc1]; rfl
      rw [List.length_cons, iterO, hst, runS]
      simp only
      by_cases hc1 : y.1 ≤ c.2.1 + 1
      · rw [if_pos hc1, if_pos hc1]
        have := ih (p ++ [y]) pre (c.1, mxI c.2.1 y.2.1, ()) (by simp [hp]) (by simp; omega) (by simp only [mxI]; split <;> omega)
        rw [List.length_append] at this
        exact this
      · rw [if_neg hc1, if_neg hc1]
        have := ih (p ++ [y]) (pre ++ [c]) y (by simp [hp]) (by simp; omega) ⟨by omega, by omega⟩
        rw [List.length_append] at this
        simp only [List.append_assoc] at this ⊢
        exact this
  cases hs : s with
  | nil => exact ⟨_, _, _, loopO_of (n := 1) (by unfold iterO F.impl_union.s5; rfl)⟩
  | cons x l =>
    rw [← hs]
    have hk : 0 < s.length := by rw [hs]; simp
    have hg : s[0] = x := by simp [hs]
    have hx := he x (by rw [hs]; simp)
    have hst : F.impl_union.s5 ([], s, len s, 0, ()) = some (.again ([x], s, len s, 1, ())) := by
      unfold F.impl_union.s5
      simp only
      have h0 := lt_len hk
      have h1 := inb_nat hk
      simp only [Int.natCast_zero] at h0 h1
      rw [h0, h1, show (0 : Int).toNat = 0 from rfl, getD_at hk, hg]
      simp only [cond_true, chk_true, show decide (len ([] : List Sp) > 0) = false from rfl, cond_false, List.length_cons, List.length_nil]
      rw [fits_of (by omega)]; rfl
    have := key l [x] [] x (by rw [hs]; rfl) (by simp) ⟨by omega, by omega⟩
    refine ⟨s, len s, ((s.length : Nat) : Int), loopO_of (n := l.length + 1 + 1) ?_⟩
    rw [iterO, hst]
    rw [hs] at this ⊢
    exact this
theorem ends_perm {a b : List Sp} (h : a.Perm b) (hb : ends b) : ends a := fun x hx => hb x (h.mem_iff.1 hx)
theorem sortS_ends {l : List Sp} (h : ends l) : ends (sortS l) := ends_perm (sortS_perm l) h
theorem union_eq (l : List Sp) (h : l.length ≤ 4194304) (he : ends l) : F.impl_union l = some (uniS (sortS l)) := by
  unfold F.impl_union F.slices_SortFunc_Span__impl_union_1
  rw [copySet_big l h]
  simp only [Option.bind_some]
  rw [show decide (l.length ≤ 4000000000000) = true from decide_eq_true (by omega)]
  have hl : (sortS l).length = l.length := (sortS_perm l).length_eq
  obtain ⟨e1, e2, e3, hh⟩ := union_loop (sortS l) (by omega) (sortS_ends he)
  simp only [chk_true, Option.bind_some, hh, afterO]
theorem okF_ends {s : List Sp} (h : okF 0 s) : ends s := fun x hx => okF_all h x hx
theorem okF_small {s : List Sp} (h : okF 0 s) : s.length ≤ 5001 := by
  rcases okF_len (Int.le_refl 0) h with e | e
  · omega
  · rw [e]; simp
theorem union_join (a b : List Sp) (h : (a ++ b).length ≤ 4194304) (ha : okF 0 a) (hb : ends b) : F.impl_union (a ++ b) = some (joinS a b) := by
  rw [union_eq _ h (fun x hx => (List.mem_append.1 hx).elim (okF_ends ha x) (hb x)), uni_join ha hb (sortS_perm _) (sortS_sorted _)]
theorem setAdd_eq (a : List Sp) (n : Int) (h : a.length ≤ 1048576) (hg : Good a) (h0 : 0 ≤ n) (h1 : n ≤ 9999) (hn : hasB a n = false) : F.impl_SetAdd a n = some (put (n, n, ()) a, true) := by
  unfold F.impl_SetAdd
  rw [implSet_dec a h, decB_pos hg, within_eq, show inR 0 9999 n = true from inR_iff.2 ⟨h0, h1⟩, implHas_eq a n h, hn, copySet_eq a h]
  simp only [Option.bind_some, Bool.not_true, cond_false, List.length_cons, List.length_nil]
  rw [fits_of (by omega), union_join a [(n, n, ())] (by simp; omega) (good_ok.1 hg) (fun x hx => by rw [List.mem_singleton.1 hx]; exact ⟨h0, Int.le_refl _, h1⟩)]
  rfl
def zIntS (l : List Int) : Nat := l.length
def fIntS (l : List Int) : Prop := l.length ≤ maxLen
def zIntSS (l : List (List Int)) : Nat := l.length + (l.map zIntS).sum
def fIntSS (l : List (List Int)) : Prop := l.length ≤ maxLen ∧ ∀ x ∈ l, fIntS x
def l3B (l : List Int) (n m : Int) (z : Bool) : Bool := (len l == n) && l.all (fun x => inR 0 m x && (!z || x == 0))
def specB (c su mn mx : Int) (hi re r0 r1 : List Int) : Bool :=
  inR 0 1000000000 c && (inR 0 1000000000 su && (inR 0 1000000 mn && (inR 0 1000000 mx && (!decide (mn > mx) && ((!(c == 0) || (su == 0 && mx == 0)) && (l3B hi 8 1000000000 (c == 0) && (l3B re 8 17 (c == 0) && (l3B r0 4 1000000000 (c == 0) && l3B r1 4 1000000000 (c == 0)))))))))
def implB (c su mn mx : Int) (hi re r0 r1 : List Int) : Bool :=
  (((hi ++ re) ++ [r0, r1].flatten) ++ [c, su, mn, mx]).all (inR 0 1000000000) && (re.all (fun x => !decide (x > 17)) && (if c = 0 then (((hi ++ re) ++ [r0, r1].flatten) ++ [c, su, mn, mx]).sum == 0 else decide (mn ≤ mx) && decide (mx ≤ 1000000)))
theorem mx3 (a b : Int) : a ≤ mxI a b ∧ b ≤ mxI a b ∧ (mxI a b = a ∨ mxI a b = b) := by
  unfold mxI
  split <;> omega
theorem mn3 (a b : Int) : mnI a b ≤ a ∧ mnI a b ≤ b ∧ (mnI a b = a ∨ mnI a b = b) := by
  unfold mnI
  split <;> omega
def blk (S : List Sp) (b : Int) (n : Nat) : Nat := (List.range n).countP fun (k : Nat) => hasB S (b + (k : Int))
theorem countP_or {α : Type} {p q : α → Bool} : ∀ {l : List α}, (∀ x ∈ l, ¬ (p x = true ∧ q x = true)) → l.countP (fun x => p x || q x) = l.countP p + l.countP q
  | [], _ => rfl
  | x :: l, h => by
    have h0 := h x (List.mem_cons_self ..)
    rw [List.countP_cons, List.countP_cons, List.countP_cons, countP_or (fun y hy => h y (List.mem_cons_of_mem _ hy))]
    cases hp : p x <;> cases hq : q x
    · simp
    · simp; omega
    · simp; omega
    · exact absurd ⟨hp, hq⟩ h0
theorem blk_one (lo hi b : Int) (h : lo ≤ hi) : ∀ n : Nat, (((List.range n).countP fun (k : Nat) => inR lo hi (b + (k : Int)) : Nat) : Int) = mxI (mnI hi (b + (n : Int) - 1) - mxI lo b + 1) 0
  | 0 => by
    simp only [List.range_zero, List.countP_nil]
    have h1 := mn3 hi (b + ((0 : Nat) : Int) - 1)
    have h2 := mx3 lo b
    have h3 := mx3 (mnI hi (b + ((0 : Nat) : Int) - 1) - mxI lo b + 1) 0
    push_cast at *
    omega
  | n + 1 => by
    rw [List.range_succ, List.countP_append, List.countP_singleton]
    have ih := blk_one lo hi b h n
    have e : (inR lo hi (b + (n : Int)) = true) ↔ (lo ≤ b + (n : Int) ∧ b + (n : Int) ≤ hi) := inR_iff
    have h1 := mn3 hi (b + (n : Int) - 1)
    have h2 := mx3 lo b
    have h3 := mx3 (mnI hi (b + (n : Int) - 1) - mxI lo b + 1) 0
    have h4 := mn3 hi (b + ((n + 1 : Nat) : Int) - 1)
    have h5 := mx3 (mnI hi (b + ((n + 1 : Nat) : Int) - 1) - mxI lo b + 1) 0
    by_cases hc : lo ≤ b + (n : Int) ∧ b + (n : Int) ≤ hi
    · rw [if_pos (e.2 hc)]
      push_cast at *
      rw [ih]
      omega
    · rw [if_neg (fun q => hc (e.1 q))]
      push_cast at *
      rw [ih]
      omega
theorem hasB_cons (x : Sp) (l : List Sp) (n : Int) : hasB (x :: l) n = (inR x.1 x.2.1 n || hasB l n) := rfl
theorem has_memS {S : List Sp} {n : Int} : hasB S n = true ↔ memS S n := has_mem
def ofS (S : List Sp) (a : Int) : Int := (S.map fun x => mxI (mnI x.2.1 (100 * a + 60) - mxI x.1 (100 * a + 1) + 1) 0).sum
theorem hasB_join {A B : List Sp} (ha : okF 0 A) (hb : ends B) (n : Int) : hasB (joinS A B) n = (hasB A n || hasB B n) := by
  rw [Bool.eq_iff_iff, Bool.or_eq_true, has_memS, has_memS, has_memS, joinS_mem ha hb]
theorem blk_join {A B : List Sp} (ha : okF 0 A) (hb : okF 0 B) (h : ∀ n, memS A n → ¬ memS B n) (b : Int) (n : Nat) : blk (joinS A B) b n = blk A b n + blk B b n := by
  unfold blk
  simp only [hasB_join ha (okF_ends hb)]
  exact countP_or (fun k _ hk => h _ (has_memS.1 hk.1) (has_memS.1 hk.2))
def szS (S : List Sp) : Int := (S.map fun x => x.2.1 - x.1 + 1).sum
theorem szS_rng : ∀ {S : List Sp} {lo : Int}, 0 ≤ lo → okF lo S → 0 ≤ szS S ∧ (szS S ≤ 10000 - lo ∨ szS S = 0)
  | [], lo, h0, _ => by simp [szS]
  | x :: l, lo, h0, h => by
    obtain ⟨h1, h2, h3, h4⟩ := h
    have ih := szS_rng (by omega) h4
    unfold szS at *
    simp only [List.map_cons, List.sum_cons]
    omega
theorem szS_take {S : List Sp} {i : Nat} (h : i < S.length) : szS (S.take (i + 1)) = szS (S.take i) + (S[i].2.1 - S[i].1 + 1) := by
  unfold szS
  rw [List.take_succ_eq_append_getElem h, List.map_append, List.sum_append]
  simp
theorem szS_part : ∀ {S : List Sp} (i : Nat), (∀ x ∈ S, x.1 ≤ x.2.1) → 0 ≤ szS (S.take i) ∧ szS (S.take i) ≤ szS S
  | [], i, _ => by simp [szS]
  | x :: l, 0, h => by
    have h1 := szS_part (S := l) 0 (fun y hy => h y (List.mem_cons_of_mem _ hy))
    have h2 := h x (List.mem_cons_self ..)
    unfold szS at *
    simp only [List.take_zero, List.map_nil, List.sum_nil, List.map_cons, List.sum_cons] at *
    omega
  | x :: l, i + 1, h => by
    have h1 := szS_part (S := l) i (fun y hy => h y (List.mem_cons_of_mem _ hy))
    have h2 := h x (List.mem_cons_self ..)
    unfold szS at *
    simp only [List.take_succ_cons, List.map_cons, List.sum_cons] at *
    omega
theorem accS_eq {S : List Sp} (h : okF 0 S) : ∀ i, i ≤ S.length → accS S i = szS (S.take i)
  | 0, _ => by simp [accS, szS]
  | i + 1, hi => by
    have hi : i < S.length := by omega
    have hx := okF_all h _ (List.getElem_mem hi)
    have h1 := szS_rng (Int.le_refl 0) h
    have h2 := szS_part (S := S) i (fun y hy => (okF_all h y hy).2.1)
    rw [accS, accS_eq h i (by omega), getD_at hi, szS_take hi, w64_id (x := szS (S.take i) + S[i].2.1) (by omega) (by omega), w64_id (x := szS (S.take i) + S[i].2.1 - S[i].1) (by omega) (by omega), w64_id (by omega) (by omega)]
    omega
theorem specSize_eq {S : List Sp} (h : okF 0 S) : F.spec_SetSize S = some (szS S) := by
  have hl := okF_small h
  unfold F.spec_SetSize
  rw [specSet_dec S (by omega), decB_pos (good_ok.2 h)]
  have l1 := loop_run (step := F.spec_SetSize.s5) (fun i => (S, accS S i, (i : Int), ())) S.length (fun i hi => by
    unfold F.spec_SetSize.s5
    simp only
    rw [lt_len hi, inb_nat hi, w64_nat (by omega), Int.toNat_natCast]
    rfl) (l := .exit (S, accS S S.length, (S.length : Int), ())) (y := .inl (S, accS S S.length, (S.length : Int), ())) (by
    unfold F.spec_SetSize.s5
    simp only
    rw [ge_len]
    rfl) rfl
  have l1 : loopO F.spec_SetSize.s5 (S, 0, 0, ()) = _ := l1
  simp only [Option.bind_some, Bool.not_true, cond_false, l1, afterO]
  rw [accS_eq h _ (Nat.le_refl _), List.take_length]
theorem blk_szS : ∀ {S : List Sp} {lo : Int}, 0 ≤ lo → okF lo S → ((blk S 0 10000 : Nat) : Int) = szS S
  | [], lo, _, _ => by
    have : blk [] 0 10000 = 0 := List.countP_eq_zero.2 (fun k _ => by simp [hasB])
    rw [this]; rfl
  | x :: l, lo, h0, h => by
    obtain ⟨h1, h2, h3, h4⟩ := h
    have ih := blk_szS (by omega) h4
    have hx := blk_one x.1 x.2.1 0 h2 10000
    have e : blk (x :: l) 0 10000 = ((List.range 10000).countP fun (k : Nat) => inR x.1 x.2.1 (0 + (k : Int))) + blk l 0 10000 := by
      unfold blk
      simp only [hasB_cons]
      exact countP_or (fun k _ hk => by
        have e1 := inR_iff.1 hk.1
        have e2 := okF_lb h4 (has_memS.1 hk.2)
        omega)
    rw [e]
    have q1 := mn3 x.2.1 (0 + ((10000 : Nat) : Int) - 1)
    have q2 := mx3 x.1 0
    have q3 := mx3 (mnI x.2.1 (0 + ((10000 : Nat) : Int) - 1) - mxI x.1 0 + 1) 0
    have e3 : szS (x :: l) = (x.2.1 - x.1 + 1) + szS l := by unfold szS; simp
    rw [e3]
    rw [Int.natCast_add, ih, hx]
    omega
theorem szS_join {A B : List Sp} (ha : okF 0 A) (hb : okF 0 B) (h : ∀ n, memS A n → ¬ memS B n) : szS (joinS A B) = szS A + szS B := by
  have hj : okF 0 (joinS A B) := joinS_ok ha (okF_ends hb)
  rw [← blk_szS (Int.le_refl 0) hj, ← blk_szS (Int.le_refl 0) ha, ← blk_szS (Int.le_refl 0) hb, blk_join ha hb h]
  push_cast
  rfl
def Rng (S : List Sp) (lo hi : Int) : Prop := ∀ x ∈ S, lo ≤ x.1 ∧ x.2.1 ≤ hi
theorem okF_last : ∀ {S : List Sp} {lo : Int}, okF lo S → ∀ y ∈ S, y.2.1 ≤ (S.getD (S.length - 1) (0, 0, ())).2.1
  | [], _, _, y, hy => by cases hy
  | [x], _, _, y, hy => by rw [List.mem_singleton.1 hy]; exact Int.le_refl _
  | x :: z :: l, lo, h, y, hy => by
    obtain ⟨h1, h2, h3, h4⟩ := h
    have ih := okF_last h4
    have e : (x :: z :: l).getD ((x :: z :: l).length - 1) (0, 0, ()) = (z :: l).getD ((z :: l).length - 1) (0, 0, ()) := by
      simp
    rw [e]
    rcases List.mem_cons.1 hy with rfl | hy
    · have h5 := ih z (List.mem_cons_self ..)
      have h6 := okF_all h4 z (List.mem_cons_self ..)
      omega
    · exact ih y hy
def zSeatS (l : List DSeat) : Nat := l.length + (l.map zSeat).sum
def fSeatS (l : List DSeat) : Prop := l.length ≤ maxLen ∧ ∀ x ∈ l, fSeat x
theorem l1Min_mn (a b : Int) : F.spec_l1Min a b = some (mnI b a) := by
  unfold F.spec_l1Min mnI
  by_cases h : a < b <;> simp [h]
theorem mnI_comm (a b : Int) : mnI a b = mnI b a := by
  unfold mnI
  split <;> split <;> omega
theorem seatGrant_same (a : DSeat) (n : Int) (h : a.2.2.1.length ≤ 1048576) : ∃ r : DSeat, F.spec_SeatGrant a n = some r ∧ F.impl_SeatGrant a n = some r ∧ r.2.2 = a.2.2 ∧ r.1 = a.1 := by
  obtain ⟨b, hs, hi, _⟩ := seatOk_same a n h
  unfold F.spec_SeatGrant F.impl_SeatGrant
  rw [l9Copy_eq _ h, copySeat_eq _ h]
  simp only [Option.bind_some, hs, hi, l1Min_mn]
  cases b with
  | true =>
    refine ⟨_, rfl, ?_, rfl, rfl⟩
    rw [mnI_comm]; rfl
  | false => exact ⟨_, rfl, rfl, rfl, rfl⟩
theorem allIn_iff (a : List Sp) (n : Int) (h : a.length ≤ 1048576) : ∃ b, F.spec_l8Below a n = some b ∧ F.impl_allIn a 1 n = some b ∧ (b = true ↔ Good a ∧ Within a n) := by
  rcases specSet_ok a h with ⟨e1, hg⟩ | ⟨e1, hg⟩
  · obtain ⟨y, h1, h2⟩ := below_loop a n h
    have hs : F.spec_l8Below a n = (afterO (some y) fun _ => some true) := by
      unfold F.spec_l8Below
      rw [e1]
      simp only [Option.bind_some, Bool.not_true, cond_false, h1]
    rcases h2 with ⟨i, rfl, hw⟩ | ⟨rfl, hw⟩
    · rcases below_same a n h with ⟨b1, b2, _⟩ | ⟨b1, b2⟩
      · exact ⟨true, b1, b2, fun _ => ⟨hg, hw⟩, fun _ => rfl⟩
      · rw [hs] at b1; cases b1
    · rcases below_same a n h with ⟨b1, b2, _⟩ | ⟨b1, b2⟩
      · rw [hs] at b1; cases b1
      · exact ⟨false, b1, b2, fun e => (by cases e), fun e => absurd e.2 hw⟩
  · rcases below_same a n h with ⟨b1, b2, b3⟩ | ⟨b1, b2⟩
    · exact absurd b3 hg
    · exact ⟨false, b1, b2, fun e => (by cases e), fun e => absurd e.1 hg⟩
structure SeatG (s : DSeat) (n : Int) : Prop where
  per : 1 ≤ n ∧ n ≤ 8
  ep : 0 ≤ s.1 ∧ s.1 ≤ 1000
  gr : 0 ≤ s.2.1 ∧ s.2.1 ≤ 60
  tk : Good s.2.2.1 ∧ Within s.2.2.1 s.2.1
  mg : 0 ≤ s.2.2.2.1 ∧ s.2.2.2.1 ≤ szS s.2.2.1
  cr : s.2.1 ≤ s.2.2.2.1 + n
  la : 0 ≤ s.2.2.2.2.1 ∧ s.2.2.2.2.1 ≤ 1000000
theorem seatG_dec (s : DSeat) (n : Int) (h : s.2.2.1.length ≤ 1048576) : F.spec_SeatOk s n = some (decB (SeatG s n)) ∧ F.impl_SeatOk s n = some (decB (SeatG s n)) := by
  obtain ⟨z, z1, z2⟩ := size_same s.2.2.1 h
  obtain ⟨b, b1, b2, b3⟩ := allIn_iff s.2.2.1 s.2.1 h
  have hz : b = true → z = szS s.2.2.1 ∧ 0 ≤ z ∧ z ≤ 10000 := fun hb => by
    have hg := good_ok.1 (b3.1 hb).1
    have h1 := specSize_eq hg
    rw [z1] at h1
    have h2 := szS_rng (Int.le_refl 0) hg
    have h3 := Option.some.inj h1
    omega
  have hd : (inR 1 8 n && (inR 0 1000 s.1 && (inR 0 60 s.2.1 && (b && (inR 0 z s.2.2.2.1 && (decide (s.2.1 ≤ w64 (s.2.2.2.1 + n)) && inR 0 1000000 s.2.2.2.2.1)))))) = decB (SeatG s n) := by
    refine decB_eq ?_
    simp only [Bool.and_eq_true, inR_iff, decide_eq_true_eq]
    constructor
    · rintro ⟨c1, c2, c3, c4, c5, c6, c7⟩
      obtain ⟨q1, q2, q3⟩ := hz c4
      rw [w64_id (by omega) (by omega)] at c6
      exact ⟨c1, c2, c3, b3.1 c4, by omega, c6, c7⟩
    · rintro ⟨c1, c2, c3, c4, c5, c6, c7⟩
      have hb := b3.2 c4
      obtain ⟨q1, q2, q3⟩ := hz hb
      rw [w64_id (by omega) (by omega)]
      exact ⟨c1, c2, c3, hb, by omega, c6, c7⟩
  rw [← hd]
  unfold F.spec_SeatOk F.impl_SeatOk
  simp only [l1In_eq, within_eq, z1, z2, b1, b2, Option.bind_some]
  generalize inR 1 8 n = d1
  generalize inR 0 1000 s.1 = d2
  generalize inR 0 60 s.2.1 = d3
  generalize inR 0 z s.2.2.2.1 = d4
  generalize decide (s.2.1 ≤ w64 (s.2.2.2.1 + n)) = d5
  generalize inR 0 1000000 s.2.2.2.2.1 = d6
  cases d1 <;> cases d2 <;> cases d3 <;> cases b <;> cases d4 <;> cases d5 <;> exact ⟨rfl, rfl⟩
def shf (a : Int) (S : List Sp) : List Sp := S.map fun x => (100 * a + x.1, 100 * a + x.2.1, ())
abbrev noS : DSeat := (0, 0, ([] : List DSpan), 0, 0, ())
def tkL (l : List DSeat) (n : Nat) : List Sp := (List.range n).flatMap fun (k : Nat) => shf (k : Int) (l.getD k noS).2.2.1
open Classical in
noncomputable def eqd {α : Type} (a b : α) : Bool := decide (a = b)
def adI (a b : Int) : Int := mnI (a + b) 1000000000
def rg (x : Int) : Prop := 0 ≤ x ∧ x ≤ 1000000000
def mz (f : Int → Int → Int) (m l : List Int) (i : Nat) : List Int := List.zipWith f (m.take i) (l.take i) ++ m.drop i
def rgs (l : List Int) : Prop := ∀ x ∈ l, rg x
theorem good_le {a : List Sp} (h : Good a) : ∀ x ∈ a, x.1 ≤ x.2.1 := fun x hx => (okF_all (good_ok.1 h) x hx).2.1
theorem rng_iff {S : List Sp} (h : ∀ x ∈ S, x.1 ≤ x.2.1) {lo hi : Int} : Rng S lo hi ↔ ∀ n, memS S n → lo ≤ n ∧ n ≤ hi := by
  constructor
  · rintro hr n ⟨x, hx, h1, h2⟩
    have := hr x hx
    omega
  · intro hm x hx
    have h0 := h x hx
    have h1 := hm x.1 ⟨x, hx, Int.le_refl _, h0⟩
    have h2 := hm x.2.1 ⟨x, hx, h0, Int.le_refl _⟩
    omega
theorem seatG_mem {s : DSeat} {m n : Int} (h : SeatG s m) (hn : memS s.2.2.1 n) : 1 ≤ n ∧ n ≤ s.2.1 ∧ n ≤ 60 := by
  obtain ⟨x, hx, h1, h2⟩ := hn
  obtain ⟨i, hi, rfl⟩ := List.getElem_of_mem hx
  have h3 := h.tk.2 i hi
  have h4 := h.gr
  omega
def full (l : List Int) : Nat := l.countP fun x => decide (x > 0)
def grantS (s : DSeat) (n : Int) : DSeat := (s.1, mnI 60 (s.2.2.2.1 + n), s.2.2)
theorem seat_small {s : DSeat} {n : Int} (h : SeatG s n) : s.2.2.1.length ≤ 5001 ∧ szS s.2.2.1 ≤ 10000 := by
  have h1 := okF_small (good_ok.1 h.tk.1)
  have h2 := szS_rng (Int.le_refl 0) (good_ok.1 h.tk.1)
  omega
theorem grant_eq {s : DSeat} {n : Int} (h : SeatG s n) : F.spec_SeatGrant s n = some (grantS s n) ∧ F.impl_SeatGrant s n = some (grantS s n) := by
  obtain ⟨h1, h2⟩ := seat_small h
  have h3 := h.mg
  have h4 := h.per
  obtain ⟨d1, d2⟩ := seatG_dec s n (by omega)
  unfold F.spec_SeatGrant F.impl_SeatGrant grantS
  rw [l9Copy_eq s (by omega), copySeat_eq s (by omega), d1, d2, decB_pos h]
  simp only [Option.bind_some, cond_true, l1Min_eq]
  rw [w64_id (by omega) (by omega)]
  exact ⟨rfl, rfl⟩
theorem within_mono {S : List Sp} {a b : Int} (h : Within S a) (hab : a ≤ b) : Within S b := fun i hi => by
  have := h i hi
  omega
theorem grant_ok {s : DSeat} {n : Int} (h : SeatG s n) : SeatG (grantS s n) n := by
  have h3 := h.mg
  have h4 := h.per
  have h5 := h.gr
  have h6 := h.cr
  have hm := mn3 60 (s.2.2.2.1 + n)
  refine ⟨h4, h.ep, ?_, ⟨h.tk.1, within_mono h.tk.2 ?_⟩, h3, ?_, h.la⟩
  · show 0 ≤ mnI 60 (s.2.2.2.1 + n) ∧ mnI 60 (s.2.2.2.1 + n) ≤ 60
    omega
  · show s.2.1 ≤ mnI 60 (s.2.2.2.1 + n)
    omega
  · show mnI 60 (s.2.2.2.1 + n) ≤ s.2.2.2.1 + n
    omega
def lastS (s : DSeat) (t : Int) : DSeat := (s.1, s.2.1, s.2.2.1, s.2.2.2.1, t, s.2.2.2.2.2)
def takeS (s : DSeat) (q : Int) : DSeat := (s.1, s.2.1, put (q, q, ()) s.2.2.1, s.2.2.2)
theorem take_mem {s : DSeat} {n : Int} (h : SeatG s n) (q i : Int) : memS (takeS s q).2.2.1 i ↔ memS s.2.2.1 i ∨ i = q := by
  have := put_mem (s := s.2.2.1) (x := (q, q, ())) (n := i) (Int.le_refl _) (good_le h.tk.1)
  unfold takeS
  simp only
  rw [this]
  constructor
  · rintro (h | h)
    · exact .inl h
    · exact .inr (by simp only at h; omega)
  · rintro (h | h)
    · exact .inl h
    · exact .inr (by simp only; omega)
theorem takeS_ok {s : DSeat} {n q : Int} (h : SeatG s n) (h1 : 1 ≤ q) (h2 : q ≤ s.2.1) (hn : ¬ memS s.2.2.1 q) : SeatG (takeS s q) n := by
  have h3 := h.gr
  have hok := good_ok.1 h.tk.1
  have hp : okF 0 (put (q, q, ()) s.2.2.1) := put_ok hok (by simp only; omega) (Int.le_refl _) (by simp only; omega)
  have hq : okF 0 ([(q, q, ())] : List Sp) := ⟨by simp only; omega, Int.le_refl _, by simp only; omega, trivial⟩
  have hsz : szS (put (q, q, ()) s.2.2.1) = szS s.2.2.1 + szS [(q, q, ())] := szS_join hok hq (fun i hi ⟨x, hx, h4, h5⟩ => by
    rw [List.mem_singleton.1 hx] at h4 h5
    have : i = q := by simp only at h4 h5; omega
    subst this; exact hn hi)
  have hs1 : szS ([(q, q, ())] : List Sp) = 1 := by unfold szS; simp
  have hmg := h.mg
  refine ⟨h.per, h.ep, h.gr, ⟨good_ok.2 hp, fun i hi => ?_⟩, ?_, h.cr, h.la⟩
  · have hr : Rng (takeS s q).2.2.1 1 s.2.1 := (rng_iff (fun x hx => (okF_all hp x hx).2.1)).2 (fun i hi => by
      rcases (take_mem h q i).1 hi with hi | hi
      · have := seatG_mem h hi; omega
      · omega)
    exact hr _ (List.getElem_mem hi)
  · show 0 ≤ s.2.2.2.1 ∧ s.2.2.2.1 ≤ szS (put (q, q, ()) s.2.2.1)
    omega
theorem last_at (l : List DSpan) (h : l.length ≤ 1048576) (h0 : 0 < l.length) : (w64 (len l - 1)) = ((l.length - 1 : Nat) : Int) := by
  rw [w64_id (by simp only [len]; omega) (by simp only [len]; omega)]
  simp only [len]; omega
theorem greatest_eq (l : List DSpan) (h : l.length ≤ 1048576) : F.impl_greatest l = some (match l.getLast? with
    | some x => x.2.1
    | none => 0) := by
  unfold F.impl_greatest
  by_cases h0 : l.length = 0
  · have : l = [] := List.eq_nil_of_length_eq_zero h0
    subst this; rfl
  · rw [show (len l == 0) = false by simp only [len, beq_eq_false_iff_ne]; omega, last_at l h (by omega), inb_nat (by omega), Int.toNat_natCast, getD_at (by omega)]
    simp only [cond_false, chk_true]
    rw [List.getLast?_eq_getElem?, List.getElem?_eq_getElem (by omega)]
theorem seatReclaim_same (a : DSeat) (n : Int) (h : zSeat a ≤ 1048576) : ∃ r : DSeat, F.spec_SeatReclaim a n = some r ∧ F.impl_SeatReclaim a n = some r ∧ zSeat r ≤ 1099511627776 := by
  have hl : a.2.2.1.length ≤ 1048576 := h
  obtain ⟨b, hs, hi, hb⟩ := seatOk_same a n hl
  unfold F.spec_SeatReclaim F.impl_SeatReclaim
  simp only [l9Copy_eq _ hl, copySeat_eq _ hl, hs, hi, Option.bind_some, greatest_eq _ hl]
  have hz : zSeat a ≤ 1099511627776 := by omega
  cases b with
  | false => exact ⟨_, rfl, rfl, hz⟩
  | true =>
    have hr := (hb rfl).ep
    by_cases h1 : a.1 = 1000
    · rw [show (a.1 == 1000) = true by simp [h1], show decide (a.1 < 1000) = false from decide_eq_false (by omega)]
      exact ⟨_, rfl, rfl, hz⟩
    · rw [show (a.1 == 1000) = false by simp [h1], show decide (a.1 < 1000) = true from decide_eq_true (by omega)]
      simp only [Bool.not_true, cond_false, cond_true]
      by_cases h0 : a.2.2.1.length = 0
      · have : a.2.2.1 = [] := List.eq_nil_of_length_eq_zero h0
        rw [show decide (len a.2.2.1 > 0) = false from decide_eq_false (by simp only [len]; omega)]
        rw [this]
        exact ⟨_, rfl, rfl, hz⟩
      · rw [show decide (len a.2.2.1 > 0) = true from decide_eq_true (by simp only [len]; omega), last_at _ hl (by omega), inb_nat (by omega), Int.toNat_natCast, getD_at (by omega), List.getLast?_eq_getElem?, List.getElem?_eq_getElem (by omega)]
        exact ⟨_, rfl, rfl, hz⟩
theorem great_of {S : List Sp} (h : okF 0 S) : ∃ g, F.impl_greatest S = some g ∧ (∀ y ∈ S, y.2.1 ≤ g) ∧ ((S = [] ∧ g = 0) ∨ ∃ y ∈ S, g = y.2.1) := by
  have hl := okF_small h
  cases S with
  | nil => exact ⟨0, rfl, (fun y hy => by cases hy), .inl ⟨rfl, rfl⟩⟩
  | cons x l =>
    have hin : (x :: l).getD ((x :: l).length - 1) (0, 0, ()) ∈ x :: l := by
      rw [getD_at (show (x :: l).length - 1 < (x :: l).length by simp)]
      exact List.getElem_mem _
    refine ⟨((x :: l).getD ((x :: l).length - 1) (0, 0, ())).2.1, ?_, okF_last h, .inr ⟨_, hin, rfl⟩⟩
    unfold F.impl_greatest
    rw [show (len (x :: l) == 0) = false by simp only [len, List.length_cons, beq_eq_false_iff_ne, ne_eq]; omega, last_at (x :: l) (by omega) (by simp), inb_nat (by simp), Int.toNat_natCast]
    rfl
theorem reclaim_ok {s : DSeat} {n : Int} (h : SeatG s n) : ∃ r : DSeat, F.impl_SeatReclaim s n = some r ∧ SeatG r n ∧ r.2.2.1 = s.2.2.1 ∧ r.2.1 ≤ s.2.1 := by
  obtain ⟨l1, l2⟩ := seat_small h
  obtain ⟨_, d2⟩ := seatG_dec s n (by omega)
  have hok := good_ok.1 h.tk.1
  obtain ⟨g, e1, g1, g2⟩ := great_of hok
  unfold F.impl_SeatReclaim
  rw [copySeat_eq s (by omega), d2, decB_pos h, e1]
  simp only [Option.bind_some, cond_true]
  have hep := h.ep
  have hgr := h.gr
  have hcr := h.cr
  have hmg := h.mg
  have hper := h.per
  by_cases c : s.1 < 1000
  · rw [decide_eq_true c, w64_id (by omega) (by omega)]
    have hg : 0 ≤ g ∧ g ≤ s.2.1 := by
      rcases g2 with ⟨_, e⟩ | ⟨y, hy, e⟩
      · omega
      · obtain ⟨i, hi, he⟩ := List.mem_iff_getElem.1 hy
        have h1 := h.tk.2 i hi
        have h2 := okF_all hok y hy
        rw [he] at h1
        omega
    refine ⟨_, rfl, ⟨hper, ?_, ?_, ⟨h.tk.1, fun i hi => ?_⟩, hmg, ?_, h.la⟩, rfl, hg.2⟩
    · show 0 ≤ s.1 + 1 ∧ s.1 + 1 ≤ 1000
      omega
    · show 0 ≤ g ∧ g ≤ 60
      omega
    · have h1 := h.tk.2 i hi
      exact ⟨h1.1, g1 _ (List.getElem_mem hi)⟩
    · show g ≤ s.2.2.2.1 + n
      omega
  · rw [decide_eq_false c]
    exact ⟨_, rfl, h, rfl, Int.le_refl _⟩
theorem owed_le {s : DSeat} {n : Int} (h : SeatG s n) : ∃ o, F.impl_Owed s = some o ∧ o ≤ n := by
  have hcr := h.cr
  have hmg := h.mg
  have hper := h.per
  have hgr := h.gr
  obtain ⟨_, l2⟩ := seat_small h
  unfold F.impl_Owed
  simp only [within_eq, Option.bind_some]
  cases inR 0 60 s.2.1 with
  | false => exact ⟨0, rfl, by omega⟩
  | true => cases inR 0 60 s.2.2.2.1 with
    | false => exact ⟨0, rfl, by omega⟩
    | true =>
      refine ⟨_, rfl, ?_⟩
      rw [w64_id (by omega) (by omega)]
      unfold mxI
      split <;> omega
theorem data_full (a : DSeat) (n e s : Int) (hl : a.2.2.1.length ≤ 1048576) : ∃ r : DSeat × Int, F.spec_SeatData a n e s = some r ∧ F.impl_SeatData a n e s = some r ∧
    ((r.2 ≠ 0 ∧ r.1 = a) ∨ (r.2 = 0 ∧ SeatG a n ∧ (1 ≤ s ∧ s ≤ 60) ∧ e = a.1 ∧ s ≤ a.2.1 ∧ ¬ memS a.2.2.1 s ∧ r.1 = takeS a s)) := by
  obtain ⟨d1, d2⟩ := seatG_dec a n hl
  unfold F.spec_SeatData F.impl_SeatData
  rw [l9Copy_eq a hl, copySeat_eq a hl, d1, d2, specHas_eq _ _ hl, implHas_eq _ _ hl]
  simp only [Option.bind_some, l1In_eq, within_eq]
  by_cases hg : SeatG a n
  case neg => rw [decB_neg hg]; exact ⟨_, rfl, rfl, .inl ⟨by simp, rfl⟩⟩
  rw [decB_pos hg]
  cases h1 : inR 1 60 s with
  | false => exact ⟨_, rfl, rfl, .inl ⟨by simp, rfl⟩⟩
  | true =>
    have h1 := inR_iff.1 h1
    simp only [Bool.not_true, cond_false]
    cases he : (e != a.1) with
    | true => exact ⟨_, rfl, rfl, .inl ⟨by simp, rfl⟩⟩
    | false =>
      have he : e = a.1 := by simpa using he
      cases hh : hasB a.2.2.1 s with
      | true => exact ⟨_, rfl, rfl, .inl ⟨by simp, rfl⟩⟩
      | false =>
        by_cases hs : s > a.2.1
        · rw [decide_eq_true hs]
          exact ⟨_, rfl, rfl, .inl ⟨by simp, rfl⟩⟩
        · rw [decide_eq_false hs, setAdd_eq a.2.2.1 s hl hg.tk.1 (by omega) (by omega) hh]
          have e1 : F.spec_l8One s = some (s, s, ()) := rfl
          rw [e1]
          simp only [cond_false, Option.bind_some]
          rw [l5Put_eq a.2.2.1 (s, s, ()) hl (Int.le_refl 0) (good_ok.1 hg.tk.1) (by simp only; omega) (Int.le_refl _) (by simp only; omega)]
          refine ⟨_, rfl, rfl, .inr ⟨rfl, hg, h1, he, by omega, fun hm => ?_, rfl⟩⟩
          rw [has_memS.2 hm] at hh; cases hh
theorem implSize_eq {S : List Sp} (h : okF 0 S) : F.impl_SetSize S = some (szS S) := by
  have hl := okF_small h
  obtain ⟨r, h1, h2⟩ := size_same S (by omega)
  rw [specSize_eq h] at h1
  cases h1
  exact h2
theorem put_one {S : List Sp} {q : Int} (hok : okF 0 S) (h1 : 0 ≤ q) (h2 : q ≤ 9999) (hn : ¬ memS S q) : okF 0 (put (q, q, ()) S) ∧ szS (put (q, q, ()) S) = szS S + 1 := by
  have hq : okF 0 ([(q, q, ())] : List Sp) := ⟨h1, Int.le_refl _, h2, trivial⟩
  have hs1 : szS ([(q, q, ())] : List Sp) = 1 := by unfold szS; simp
  have hsz : szS (put (q, q, ()) S) = szS S + szS [(q, q, ())] := szS_join hok hq (fun i hi ⟨x, hx, h4, h5⟩ => by
    rw [List.mem_singleton.1 hx] at h4 h5
    have : i = q := by simp only at h4 h5; omega
    subst this; exact hn hi)
  exact ⟨put_ok hok h1 (Int.le_refl _) h2, by rw [hsz, hs1]⟩
theorem data_again {a : DSeat} {n s : Int} (hg : SeatG a n) (h1 : 1 ≤ s ∧ s ≤ 60) (h2 : s ≤ a.2.1) (hn : ¬ memS a.2.2.1 s) : F.impl_SeatData (takeS a s) n a.1 s = some (takeS a s, 1) := by
  have ht := takeS_ok hg h1.1 h2 hn
  obtain ⟨l1, _⟩ := seat_small ht
  obtain ⟨_, d2⟩ := seatG_dec (takeS a s) n (by omega)
  unfold F.impl_SeatData
  rw [copySeat_eq _ (by omega), d2, decB_pos ht, implHas_eq _ _ (by omega), has_memS.2 ((take_mem hg s s).2 (.inr rfl))]
  simp only [Option.bind_some, within_eq]
  rw [show inR 1 60 s = true from inR_iff.2 h1, show (a.1 != (takeS a s).1) = false by simp [takeS]]
  rfl
theorem and_small (x : Int) (m : Nat) (hm : m < 9223372036854775808) : 0 ≤ ibits .and .i64 x (m : Int) ∧ ibits .and .i64 x (m : Int) ≤ (m : Int) := by
  have h : ((BitVec.ofInt IntKind.i64.bits x) &&& (BitVec.ofInt IntKind.i64.bits (m : Int))).toNat ≤ m := by
    rw [BitVec.toNat_and]
    refine Nat.le_trans Nat.and_le_right ?_
    have : (BitVec.ofInt IntKind.i64.bits (m : Int)).toNat = m % 2 ^ 64 := by simp [IntKind.bits]
    rw [this]
    exact Nat.mod_le _ _
  unfold ibits
  simp only
  generalize ((BitVec.ofInt IntKind.i64.bits x) &&& (BitVec.ofInt IntKind.i64.bits (m : Int))).toNat = k at h
  have hw : IntKind.wrap .i64 (k : Int) = (k : Int) := w64_id (by omega) (by omega)
  rw [hw]
  omega
def srcOk (s : List Int × Int × Int × Unit) : Prop := s.1.length ≤ 1048576 ∧ 0 ≤ s.2.1 ∧ s.2.1 ≤ 9000000000000000000
theorem l1New_ok (a : List Int) (h : a.length ≤ 1048576) : ∃ s, F.spec_l1New a = some s ∧ srcOk s := by
  unfold F.spec_l1New
  obtain ⟨y, h1, h2⟩ := loopO_rule (step := F.spec_l1New.s3) (fun x => x.1 = a ∧ 0 ≤ x.2.2.1 ∧ x.2.2.1 ≤ a.length) (fun y => ∃ b c, y = .inl (a, b, c, ()))
    (fun x => a.length - x.2.2.1.toNat) (fun x hx => by
      obtain ⟨x1, x2, x3, u⟩ := x
      obtain ⟨rfl, g1, g2⟩ := hx
      simp only at g1 g2
      have h : x1.length ≤ 1048576 := h
      unfold F.spec_l1New.s3
      simp only
      by_cases hlt : x3 < (x1.length : Int)
      · rw [show decide (x3 < len x1) = true from decide_eq_true hlt]
        cases h4 : decide (x3 < 4000) with
        | false => exact ⟨.exit (x1, x2, x3, ()), rfl, _, _, rfl⟩
        | true =>
          rw [inb_of g1 hlt]
          refine ⟨_, rfl, ⟨rfl, ?_, ?_⟩, ?_⟩
          all_goals simp only
          all_goals rw [w64_id (by omega) (by omega)]
          · omega
          · omega
          · omega
      · refine ⟨.exit (x1, x2, x3, ()), ?_, _, _, rfl⟩
        rw [show decide (x3 < len x1) = false from decide_eq_false hlt]; rfl) (x := (a, w64 (26583 + len a), 0, ())) ⟨rfl, Int.le_refl 0, by simp⟩
  obtain ⟨b, c, rfl⟩ := h2
  rw [h1]
  exact ⟨_, rfl, h, Int.le_refl 0, by show (0 : Int) ≤ 9000000000000000000; omega⟩
theorem l1Byte_ok (s : List Int × Int × Int × Unit) (hs : srcOk s) : ∃ v s', F.spec_l1Byte s = some (v, s') ∧ 0 ≤ v ∧ v ≤ 255 ∧ srcOk s' := by
  obtain ⟨a, p, q, u⟩ := s
  obtain ⟨g1, g2, g3⟩ := hs
  simp only at g1 g2 g3
  unfold F.spec_l1Byte
  simp only
  by_cases hlt : p < (a.length : Int)
  · rw [show decide (p < len a) = true from decide_eq_true hlt, inb_of g2 hlt]
    refine ⟨_, _, rfl, (and_small _ 255 (by omega)).1, (and_small _ 255 (by omega)).2, g1, ?_, ?_⟩
    all_goals simp only
    all_goals rw [w64_id (by omega) (by omega)]
    · omega
    · omega
  · rw [show decide (p < len a) = false from decide_eq_false hlt]
    exact ⟨_, _, rfl, (and_small _ 255 (by omega)).1, (and_small _ 255 (by omega)).2, g1, g2, g3⟩
theorem l1Below_ok (s : List Int × Int × Int × Unit) (hs : srcOk s) (n : Int) (h0 : 0 < n) (h1 : n ≤ 256) : ∃ v s', F.spec_l1Below s n = some (v, s') ∧ 0 ≤ v ∧ v < n ∧ srcOk s' := by
  unfold F.spec_l1Below
  rw [show decide (n ≤ 0) = false from decide_eq_false (by omega), show decide (n ≤ 256) = true from decide_eq_true h1]
  obtain ⟨v, s', e, g1, g2, g3⟩ := l1Byte_ok s hs
  simp only [cond_false, cond_true, e, Option.bind_some]
  rw [show (n == 0) = false by simp; omega]
  refine ⟨_, s', rfl, Int.tmod_nonneg _ g1, ?_, g3⟩
  have := Int.tmod_lt_of_pos v h0
  exact this
theorem l1Once_ok (s : List Int × Int × Int × Unit) (hs : srcOk s) (n : Int) (h0 : 0 < n) (h1 : n ≤ 256) : ∃ b s', F.spec_l1Once s n = some (b, s') ∧ srcOk s' := by
  unfold F.spec_l1Once
  obtain ⟨v, s', e, _, _, g3⟩ := l1Below_ok s hs n h0 h1
  rw [e]
  exact ⟨_, _, rfl, g3⟩
theorem l1Pick_ok (s : List Int × Int × Int × Unit) (hs : srcOk s) (l : List Int) (h0 : 0 < l.length) (h1 : l.length ≤ 256) : ∃ v s', F.spec_l1PickInt s l = some (v, s') ∧ v ∈ l ∧ srcOk s' := by
  unfold F.spec_l1PickInt
  obtain ⟨v, s', e, g1, g2, g3⟩ := l1Below_ok s hs (len l) (by show 0 < (l.length : Int); omega) (by show (l.length : Int) ≤ 256; omega)
  rw [e]
  have hlt : v < (l.length : Int) := g2
  have hi : v.toNat < l.length := by omega
  simp only [Option.bind_some]
  rw [inb_of g1 hlt, getD_at hi]
  exact ⟨_, _, rfl, List.getElem_mem hi, g3⟩
theorem specMerge_any (a : DSeat) (n k : Int) (h : a.2.2.1.length ≤ 1048576) : ∃ r : DSeat × Bool, F.spec_SeatMerge a n k = some r ∧ r.1.2.2.1 = a.2.2.1 := by
  obtain ⟨b, hs, _, _⟩ := seatOk_same a n h
  obtain ⟨c, hs2, _, _⟩ := seatOk_same (a.1, a.2.1, a.2.2.1, w64 (a.2.2.2.1 + k), a.2.2.2.2) n h
  unfold F.spec_SeatMerge
  simp only [l9Copy_eq _ h, hs, hs2, l1In_eq, Option.bind_some]
  cases b with
  | false => exact ⟨_, rfl, rfl⟩
  | true => cases inR 0 60 k with
    | false => exact ⟨_, rfl, rfl⟩
    | true => cases c with
      | false => exact ⟨_, rfl, rfl⟩
      | true => exact ⟨_, rfl, rfl⟩
theorem specGrant_any (a : DSeat) (n : Int) (h : a.2.2.1.length ≤ 1048576) : ∃ r : DSeat, F.spec_SeatGrant a n = some r ∧ r.2.2 = a.2.2 := by
  obtain ⟨b, hs, _, _⟩ := seatOk_same a n h
  unfold F.spec_SeatGrant
  rw [l9Copy_eq _ h]
  simp only [Option.bind_some, hs, l1Min_eq]
  cases b with
  | true => exact ⟨_, rfl, rfl⟩
  | false => exact ⟨_, rfl, rfl⟩
def i6 (x : Int) : Prop := -9223372036854775808 ≤ x ∧ x ≤ 9223372036854775807
def i6S (l : List Sp) : Prop := ∀ e ∈ l, i6 e.1 ∧ i6 e.2.1
theorem i6_w64 (x : Int) : i6 (w64 x) := by
  unfold i6 w64 IntKind.wrap
  simp [IntKind.bits, IntKind.signed]
  omega
theorem itoa_size (n : Int) (h : i6 n) : (itoaS n).size ≤ 21 := by
  show (Go.Lib.itoa n).toArray.size ≤ 21
  rw [List.size_toArray]
  unfold Go.Lib.itoa
  obtain ⟨h1, h2⟩ := h
  split
  · rw [List.length_cons, Go.Lib.decDigits_length]
    have := Go.Lib.nDigits_le20 n.natAbs (by omega)
    omega
  · rw [Go.Lib.decDigits_length]
    have := Go.Lib.nDigits_le20 n.toNat (by omega)
    omega
theorem digits_eq (n : Int) (h : i6 n) : F.impl_Digits n = some (itoaS n) := by
  unfold F.impl_Digits F.strconv_Itoa
  rw [decide_eq_true h.1, decide_eq_true h.2]
  rfl
theorem lens_le (l : List ByteArray) (h : ∀ t ∈ l, t.size ≤ 64) : Go.Lib.lens (l.map (·.data.toList)) ≤ 64 * l.length := by
  induction l with
  | nil => exact Nat.le_refl _
  | cons x l ih =>
    have h1 := ih (fun t ht => h t (List.mem_cons_of_mem _ ht))
    have h2 := h x (List.mem_cons_self ..)
    have h3 : x.data.toList.length = x.size := Array.length_toList
    unfold Go.Lib.lens at *
    simp only [List.map_cons, List.sum_cons, List.length_cons] at *
    omega
theorem join_small (l : List ByteArray) (sep : ByteArray) (hs : sep.size ≤ 64) (h : ∀ t ∈ l, t.size ≤ 64) (hl : l.length ≤ 1048576) : F.strings_Join l sep = some (joinT l sep) := by
  have h3 : sep.data.toList.length = sep.size := Array.length_toList
  have hj : (joinL l sep).length ≤ 140737488355328 := by
    unfold joinL
    cases l with
    | nil => simp [Go.Lib.join_nil]
    | cons x l =>
      have := lens_le (x :: l) h
      have hl : l.length + 1 ≤ 1048576 := hl
      have hm : sep.data.toList.length * (l.map (·.data.toList)).length ≤ 64 * 1048576 := Nat.mul_le_mul (by omega) (by rw [List.length_map]; omega)
      rw [List.map_cons, Go.Lib.join_length]
      rw [List.map_cons, List.length_cons] at this
      omega
  unfold F.strings_Join
  rw [decide_eq_true (show l.length ≤ 140737488355328 by omega), decide_eq_true hj]
  rfl
theorem text_any (l : List Sp) (h : l.length ≤ 65536) (hr : i6S l) : ∃ t, F.impl_SetText l = some t := by
  unfold F.impl_SetText
  obtain ⟨y, h1, z, rfl, h2, h3⟩ := loopO_rule (step := F.impl_SetText.s3) (fun x => x.2.1 = l ∧ x.2.2.1 = len l ∧ 0 ≤ x.2.2.2.1 ∧ x.2.2.2.1 ≤ len l ∧ (x.1.length : Int) ≤ x.2.2.2.1 ∧ ∀ t ∈ x.1, t.size ≤ 64)
    (fun y => ∃ z : List ByteArray × List DSpan × Int × Int × Unit, y = .inl z ∧ z.1.length ≤ 65536 ∧ ∀ t ∈ z.1, t.size ≤ 64)
    (fun x => l.length - x.2.2.2.1.toNat) (fun x hx => by
      obtain ⟨x1, x2, x3, x4, u⟩ := x
      obtain ⟨rfl, g2, g3, g4, g5, g6⟩ := hx
      simp only at g2 g3 g4 g5 g6
      subst g2
      unfold F.impl_SetText.s3
      simp only
      have h : x2.length ≤ 65536 := h
      have hr : i6S x2 := hr
      simp only [len] at g4
      by_cases hlt : x4 < len x2
      · have hlt' : x4 < (x2.length : Int) := hlt
        rw [decide_eq_true hlt, inb_of g3 hlt']
        have hm : x2.getD x4.toNat (0, 0, ()) ∈ x2 := by
          rw [getD_at (show x4.toNat < x2.length by omega)]
          exact List.getElem_mem _
        obtain ⟨r1, r2⟩ := hr _ hm
        have s1 := itoa_size _ r1
        have s2 := itoa_size _ r2
        simp only [cond_true, chk_true, digits_eq _ r1, digits_eq _ r2, Option.bind_some]
        generalize itoaS (x2.getD x4.toNat (0, 0, ())).1 = A at s1 ⊢
        generalize itoaS (x2.getD x4.toNat (0, 0, ())).2.1 = B at s2 ⊢
        have e1 : ByteArray.size (ByteArray.mk #[45]) = 1 := rfl
        have e2 : ByteArray.size ((ByteArray.mk #[45]) ++ B) = 1 + B.size := by rw [ByteArray.size_append, e1]
        have e3 : ByteArray.size (A ++ ((ByteArray.mk #[45]) ++ B)) = A.size + (1 + B.size) := by rw [ByteArray.size_append, e2]
        cases (x2.getD x4.toNat (0, 0, ())).2.1 != (x2.getD x4.toNat (0, 0, ())).1 with
        | true =>
          simp only [cond_true]
          rw [decide_eq_true (show ByteArray.size (ByteArray.mk #[45]) + B.size ≤ 9223372036854775807 by omega), decide_eq_true (show A.size + ByteArray.size ((ByteArray.mk #[45]) ++ B) ≤ 9223372036854775807 by omega), fits_of (by simp only [List.length_cons, List.length_nil]; omega)]
          refine ⟨_, rfl, ⟨rfl, rfl, ?_, ?_, ?_, ?_⟩, ?_⟩
          all_goals simp only [len]
          all_goals first
            | (intro t ht
               rcases List.mem_append.1 ht with ht | ht
               · exact g6 t ht
               · rw [List.mem_singleton.1 ht, e3]; omega)
            | (rw [w64_id (by omega) (by omega)]
               first
                 | omega
                 | (rw [List.length_append, List.length_singleton]; omega))
        | false =>
          simp only [cond_false]
          rw [fits_of (by simp only [List.length_cons, List.length_nil]; omega)]
          refine ⟨_, rfl, ⟨rfl, rfl, ?_, ?_, ?_, ?_⟩, ?_⟩
          all_goals simp only [len]
          all_goals first
            | (intro t ht
               rcases List.mem_append.1 ht with ht | ht
               · exact g6 t ht
               · rw [List.mem_singleton.1 ht]; omega)
            | (rw [w64_id (by omega) (by omega)]
               first
                 | omega
                 | (rw [List.length_append, List.length_singleton]; omega))
      · rw [decide_eq_false hlt]
        exact ⟨_, rfl, _, rfl, by simp only; omega, g6⟩) (x := ([], l, len l, 0, ())) ⟨rfl, rfl, Int.le_refl 0, by simp [len], by simp, by simp⟩
  rw [h1]
  obtain ⟨z1, z2, z3, z4, u⟩ := z
  simp only [afterO]
  rw [join_small z1 (ByteArray.mk #[44]) (by decide) h3 (by simp only at h2; omega)]
  exact ⟨_, rfl⟩
theorem l5Put_i6 (a : List Sp) (x : Sp) (h : a.length ≤ 1048576) (ha : i6S a) (hx : i6 x.1 ∧ i6 x.2.1) : ∃ r, F.spec_l5Put a x = some r ∧ r.length ≤ a.length + 1 ∧ i6S r := by
  obtain ⟨r, h1, h2⟩ := l5Put_any a x h
  refine ⟨r, h1, h2, ?_⟩
  unfold F.spec_l5Put at h1
  have key : ∀ (n i : Nat) (acc : List Sp) (p : Bool) (c : Sp), a.length - i = n → i ≤ a.length → acc.length ≤ i + (if p then 1 else 0) → i6S acc → (i6 c.1 ∧ i6 c.2.1) → ∃ acc' p' c', iterO F.spec_l5Put.s4 (n + 1) (a, acc, p, (i : Int), c, ()) = some (.inl (a, acc', p', ((a.length : Nat) : Int), c', ())) ∧ acc'.length ≤ a.length + (if p' then 1 else 0) ∧ i6S acc' ∧ i6 c'.1 ∧ i6 c'.2.1 := by
    intro n
    induction n with
    | zero =>
      intro i acc p c hi hle hl hacc hc
      have hi' : i = a.length := by omega
      subst hi'
      refine ⟨acc, p, c, ?_, hl, hacc, hc⟩
      unfold iterO F.spec_l5Put.s4
      simp only [ge_len, cond_false]
    | succ n ih =>
      intro i acc p c hi hle hl hacc hc
      have hk : i < a.length := by omega
      have hl2 : acc.length ≤ i + 1 := by cases p <;> simp at hl <;> omega
      have hai := ha _ (List.getElem_mem hk)
      have app : ∀ {l m : List Sp}, i6S l → i6S m → i6S (l ++ m) := fun hl hm e he => (List.mem_append.1 he).elim (hl e) (hm e)
      have one : ∀ {e : Sp}, (i6 e.1 ∧ i6 e.2.1) → i6S [e] := fun he e' h' => by rw [List.mem_singleton.1 h']; exact he
      rw [iterO, put_step a acc p c i hk h (by omega)]
      simp only
      split
      · exact ih (i + 1) _ p c (by omega) (by omega) (by rw [List.length_append, List.length_singleton]; omega) (app hacc (one hai)) hc
      · split
        · refine ih (i + 1) _ true c (by omega) (by omega) ?_ ?_ hc
          · rw [List.length_append, List.length_singleton]
            cases p <;> simp at hl ⊢ <;> omega
          · cases p with
            | true => exact app hacc (one hai)
            | false => exact app (app hacc (one hc)) (one hai)
        · refine ih (i + 1) _ p _ (by omega) (by omega) (by omega) hacc ?_
          have e1 : mnI c.1 a[i].1 = c.1 ∨ mnI c.1 a[i].1 = a[i].1 := by unfold mnI; split <;> simp
          have e2 : mxI c.2.1 a[i].2.1 = c.2.1 ∨ mxI c.2.1 a[i].2.1 = a[i].2.1 := by unfold mxI; split <;> simp
          exact ⟨e1.elim (fun e => by rw [e]; exact hc.1) (fun e => by rw [e]; exact hai.1), e2.elim (fun e => by rw [e]; exact hc.2) (fun e => by rw [e]; exact hai.2)⟩
  obtain ⟨acc', p', c', h3, h4, h5, h6⟩ := key a.length 0 [] false x (by omega) (by omega) (by simp) (fun e he => by cases he) hx
  have h1' : loopO F.spec_l5Put.s4 (a, [], false, 0, x, ()) = _ := loopO_of h3
  rw [h1'] at h1
  simp only [afterO] at h1
  cases p' with
  | true =>
    cases h1
    exact h5
  | false =>
    simp at h4
    simp only [Bool.not_false, cond_true, List.length_cons, List.length_nil] at h1
    rw [fits_of (by omega)] at h1
    cases h1
    intro e he
    rcases List.mem_append.1 he with he | he
    · exact h5 e he
    · rw [List.mem_singleton.1 he]; exact h6
theorem l5Right_rg (s : DL1Cur) (hs : srcOk s) : ∃ r : List DSpan × DL1Cur, F.spec_l5Right s = some r ∧ r.1.length ≤ 10 ∧ srcOk r.2 ∧ i6S r.1 := by
  unfold F.spec_l5Right
  obtain ⟨v1, s1, e1, a1, b1, k1⟩ := l1Below_ok s hs 7 (by omega) (by omega)
  simp only [e1, Option.bind_some]
  obtain ⟨y, h1, z, rfl, h2, h3, h4⟩ := loopO_rule (step := F.spec_l5Right.s4) (fun x => 0 ≤ x.2.2.1 ∧ x.2.1 ≤ 6 ∧ x.2.2.1 ≤ 7 ∧ srcOk x.2.2.2.1 ∧ (x.1.length : Int) ≤ x.2.2.1 ∧ i6S x.1)
    (fun y => ∃ z : List DSpan × Int × Int × DL1Cur × Unit, y = .inl z ∧ srcOk z.2.2.2.1 ∧ z.1.length ≤ 10 ∧ i6S z.1)
    (fun x => 8 - x.2.2.1.toNat) (fun x hx => by
      obtain ⟨x2, x3, x4, x5, u⟩ := x
      obtain ⟨g1, g2, g3, g4, g5, g6⟩ := hx
      simp only at g1 g2 g3 g4 g5 g6
      unfold F.spec_l5Right.s4
      simp only
      by_cases hlt : x4 < x3
      · rw [decide_eq_true hlt]
        obtain ⟨w1, t1, f1, c1, c2, j1⟩ := l1Below_ok x5 g4 20 (by omega) (by omega)
        obtain ⟨w2, t2, f2, c3, c4, j2⟩ := l1Below_ok t1 j1 20 (by omega) (by omega)
        obtain ⟨w3, t3, f3, _, _, j3⟩ := l1Below_ok t2 j2 10 (by omega) (by omega)
        obtain ⟨w4, t4, f4, c5, j4⟩ := l1Pick_ok t3 j3 [w1, w2, w64 (9990 + w3)] (by simp) (by simp)
        obtain ⟨w5, t5, f5, _, _, j5⟩ := l1Below_ok t4 j4 3 (by omega) (by omega)
        simp only [cond_true, f1, f2, f3, f4, f5, l1Min_eq, Option.bind_some]
        have hw4 : i6 w4 := by
          simp only [List.mem_cons, List.not_mem_nil, or_false] at c5
          rcases c5 with rfl | rfl | rfl
          · exact ⟨by omega, by omega⟩
          · exact ⟨by omega, by omega⟩
          · exact i6_w64 _
        have hmn : i6 (mnI (w64 (w4 + w5)) 9999) := by
          unfold mnI
          split
          · exact ⟨by omega, by omega⟩
          · exact i6_w64 _
        obtain ⟨q, fq, hq, hqr⟩ := l5Put_i6 x2 (w4, mnI (w64 (w4 + w5)) 9999, ()) (by omega) g6 ⟨hw4, hmn⟩
        simp only [fq, Option.bind_some]
        refine ⟨_, rfl, ⟨?_, g2, ?_, j5, ?_, hqr⟩, ?_⟩
        all_goals simp only
        all_goals rw [w64_id (by omega) (by omega)]
        · omega
        · omega
        · omega
        · omega
      · rw [decide_eq_false hlt]
        exact ⟨_, rfl, _, rfl, g4, by simp only; omega, g6⟩) (x := ([], v1, 0, s1, ())) ⟨Int.le_refl 0, by simp only; omega, by simp, k1, by simp, fun e he => by cases he⟩
  rw [h1]
  obtain ⟨z4, z5, z6, z7, u⟩ := z
  exact ⟨_, rfl, h3, h2, h4⟩
theorem l5Draw_rg (s : DL1Cur) (hs : srcOk s) : ∃ r : List DSpan × DL1Cur, F.spec_l5Draw s = some r ∧ r.1.length ≤ 11 ∧ srcOk r.2 ∧ i6S r.1 := by
  unfold F.spec_l5Draw
  obtain ⟨r, e1, hr, k1, hrr⟩ := l5Right_rg s hs
  obtain ⟨b, s2, e2, k2⟩ := l1Once_ok r.2 k1 8 (by omega) (by omega)
  simp only [e1, e2, Option.bind_some]
  cases b with
  | false => exact ⟨_, rfl, by simp only; omega, k2, hrr⟩
  | true =>
    obtain ⟨v3, s3, e3, c3, k3⟩ := l1Pick_ok s2 k2 [-1, 3, 10000] (by simp) (by simp)
    obtain ⟨v4, s4, e4, c4, k4⟩ := l1Pick_ok s3 k3 [5, 10000, 9223372036854775807] (by simp) (by simp)
    simp only [cond_true, e3, e4, Option.bind_some, List.length_cons, List.length_nil]
    rw [fits_of (by omega)]
    refine ⟨_, rfl, by simp; omega, k4, fun e he => ?_⟩
    rcases List.mem_append.1 he with he | he
    · exact hrr e he
    · rw [List.mem_singleton.1 he]
      simp only [List.mem_cons, List.not_mem_nil, or_false] at c3 c4
      have q3 : i6 v3 := by rcases c3 with rfl | rfl | rfl <;> exact ⟨by omega, by omega⟩
      have q4 : i6 v4 := by rcases c4 with rfl | rfl | rfl <;> exact ⟨by omega, by omega⟩
      exact ⟨q3, q4⟩
theorem specData_rg (a : DSeat) (n e s : Int) (h : a.2.2.1.length ≤ 1048576) (ha : i6S a.2.2.1) (hs1 : i6 s) : ∃ r : DSeat × Int, F.spec_SeatData a n e s = some r ∧ r.1.2.2.1.length ≤ a.2.2.1.length + 1 ∧ i6S r.1.2.2.1 := by
  obtain ⟨b, hs, _, _⟩ := seatOk_same a n h
  obtain ⟨q, hq, hl, hqr⟩ := l5Put_i6 a.2.2.1 (s, s, ()) h ha ⟨hs1, hs1⟩
  unfold F.spec_SeatData F.spec_l8One
  simp only [l9Copy_eq _ h, hs, l1In_eq, specHas_eq _ _ h, hq, Option.bind_some]
  cases b with
  | false => exact ⟨_, rfl, Nat.le_succ _, ha⟩
  | true => cases inR 1 60 s with
    | false => exact ⟨_, rfl, Nat.le_succ _, ha⟩
    | true => cases e != a.1 with
      | true => exact ⟨_, rfl, Nat.le_succ _, ha⟩
      | false => cases hasB a.2.2.1 s with
        | true => exact ⟨_, rfl, Nat.le_succ _, ha⟩
        | false => cases decide (s > a.2.1) with
          | true => exact ⟨_, rfl, Nat.le_succ _, ha⟩
          | false => exact ⟨_, rfl, hl, hqr⟩
theorem l9Right_rg (s : DL1Cur) (hs : srcOk s) (n : Int) : ∃ r : DSeat × DL1Cur, F.spec_l9Right s n = some r ∧ r.1.2.2.1.length ≤ 10 ∧ srcOk r.2 ∧ i6S r.1.2.2.1 := by
  unfold F.spec_l9Right
  obtain ⟨v1, s1, e1, _, _, k1⟩ := l1Below_ok s hs 5 (by omega) (by omega)
  obtain ⟨g, eg, hg⟩ := specGrant_any (0, 0, [], 0, v1, ()) n (by simp)
  obtain ⟨v2, s2, e2, a2, b2, k2⟩ := l1Below_ok s1 k1 7 (by omega) (by omega)
  simp only [e1, eg, e2, Option.bind_some]
  have hg0 : g.2.2.1.length = 0 := by rw [hg]; rfl
  obtain ⟨y, h1, z, rfl, h2, h3, h4⟩ := loopO_rule (step := F.spec_l9Right.s4) (fun x => 0 ≤ x.2.2.1 ∧ x.2.1 ≤ 6 ∧ x.2.2.1 ≤ 7 ∧ srcOk x.2.2.2.1 ∧ (x.2.2.2.2.2.1.2.2.1.length : Int) ≤ x.2.2.1 ∧ i6S x.2.2.2.2.2.1.2.2.1)
    (fun y => ∃ z : Int × Int × Int × DL1Cur × DSeat × DSeat × Unit, y = .inl z ∧ srcOk z.2.2.2.1 ∧ z.2.2.2.2.2.1.2.2.1.length ≤ 10 ∧ i6S z.2.2.2.2.2.1.2.2.1)
    (fun x => 8 - x.2.2.1.toNat) (fun x hx => by
      obtain ⟨x4, x5, x6, x7, x8, x9, u⟩ := x
      obtain ⟨g1, g2, g3, g4, g5, g6⟩ := hx
      simp only at g1 g2 g3 g4 g5 g6
      unfold F.spec_l9Right.s4
      simp only
      by_cases hlt : x6 < x5
      · rw [decide_eq_true hlt]
        obtain ⟨w1, t1, f1, _, _, j1⟩ := l1Below_ok x7 g4 12 (by omega) (by omega)
        obtain ⟨d, fd, hd, hdr⟩ := specData_rg x9 x4 0 (w64 (1 + w1)) (by omega) g6 (i6_w64 _)
        obtain ⟨b, t2, f2, j2⟩ := l1Once_ok t1 j1 3 (by omega) (by omega)
        simp only [cond_true, f1, fd, f2, Option.bind_some]
        cases b with
        | true =>
          obtain ⟨m, fm, hm⟩ := specMerge_any d.1 x4 1 (by omega)
          obtain ⟨q, fq, hq⟩ := specGrant_any m.1 x4 (by rw [hm]; omega)
          have hq' : q.2.2.1 = d.1.2.2.1 := by rw [hq]; exact hm
          simp only [cond_true, fm, fq, Option.bind_some]
          refine ⟨_, rfl, ⟨?_, g2, ?_, j2, ?_, by show i6S q.2.2.1; rw [hq']; exact hdr⟩, ?_⟩
          all_goals simp only
          all_goals rw [w64_id (by omega) (by omega)]
          · omega
          · omega
          · rw [hq']; omega
          · omega
        | false =>
          refine ⟨_, rfl, ⟨?_, g2, ?_, j2, ?_, hdr⟩, ?_⟩
          all_goals simp only
          all_goals rw [w64_id (by omega) (by omega)]
          · omega
          · omega
          · omega
          · omega
      · rw [decide_eq_false hlt]
        exact ⟨_, rfl, _, rfl, g4, by simp only; omega, g6⟩) (x := (n, v2, 0, s2, (0, 0, [], 0, 0, ()), g, ())) ⟨Int.le_refl 0, by simp only; omega, by simp, k2, by simp only; rw [hg0]; simp, by show i6S g.2.2.1; rw [hg]; exact fun e he => by cases he⟩
  rw [h1]
  obtain ⟨z4, z5, z6, z7, z8, z9, u⟩ := z
  simp only [afterO]
  obtain ⟨v3, s3, e3, _, _, k3⟩ := l1Below_ok z7 h2 3 (by omega) (by omega)
  rw [e3]
  exact ⟨_, rfl, h3, k3, h4⟩
theorem l9Draw_rg (s : DL1Cur) (hs : srcOk s) : ∃ r : DSeat × Int × DL1Cur, F.spec_l9Draw s = some r ∧ r.1.2.2.1.length ≤ 11 ∧ srcOk r.2.2 ∧ i6S r.1.2.2.1 := by
  unfold F.spec_l9Draw
  obtain ⟨v1, s1, e1, _, _, k1⟩ := l1Below_ok s hs 8 (by omega) (by omega)
  obtain ⟨r, e2, hr, k2, hrr⟩ := l9Right_rg s1 k1 (w64 (1 + v1))
  obtain ⟨v3, s3, e3, _, _, k3⟩ := l1Below_ok r.2 k2 14 (by omega) (by omega)
  simp only [e1, e2, e3, Option.bind_some]
  cases v3 == 0 with
  | true =>
    obtain ⟨v4, s4, e4, _, k4⟩ := l1Pick_ok s3 k3 [-1, 60, 61, 0] (by simp) (by simp)
    simp only [cond_true, e4, Option.bind_some]
    exact ⟨_, rfl, by simp only; omega, k4, hrr⟩
  | false => cases v3 == 1 with
    | true =>
      obtain ⟨q, e4, hq, k4, hqr⟩ := l5Draw_rg s3 k3
      simp only [cond_true, cond_false, e4, Option.bind_some]
      exact ⟨_, rfl, hq, k4, hqr⟩
    | false => cases v3 == 2 with
      | true =>
        obtain ⟨v4, s4, e4, _, k4⟩ := l1Pick_ok s3 k3 [-1, 1, 9, 9223372036854775807] (by simp) (by simp)
        simp only [cond_true, cond_false, e4, Option.bind_some]
        exact ⟨_, rfl, by simp only; omega, k4, hrr⟩
      | false => cases v3 == 3 with
        | true =>
          obtain ⟨v4, s4, e4, _, k4⟩ := l1Pick_ok s3 k3 [-1, 1000, 1001] (by simp) (by simp)
          simp only [cond_true, cond_false, e4, Option.bind_some]
          exact ⟨_, rfl, by simp only; omega, k4, hrr⟩
        | false => cases v3 == 4 with
          | true =>
            obtain ⟨v4, s4, e4, _, k4⟩ := l1Pick_ok s3 k3 [0, 9, 1] (by simp) (by simp)
            simp only [cond_true, cond_false, e4, Option.bind_some]
            exact ⟨_, rfl, by simp only; omega, k4, hrr⟩
          | false => exact ⟨_, rfl, by simp only; omega, k3, hrr⟩
theorem drawData_ok (a : List Int) (h : a.length ≤ 1048576) : ∃ r : DSeat × Int × Int × Int, F.spec_DrawSeatData a = some r ∧ r.1.2.2.1.length ≤ 11 ∧ i6S r.1.2.2.1 := by
  unfold F.spec_DrawSeatData
  obtain ⟨s, e0, k0⟩ := l1New_ok a h
  obtain ⟨r, e1, hr, k1, hq⟩ := l9Draw_rg s k0
  obtain ⟨b, s2, e2, k2⟩ := l1Once_ok r.2.2 k1 5 (by omega) (by omega)
  simp only [e0, e1, e2, Option.bind_some]
  cases b with
  | true =>
    obtain ⟨v1, s3, e3, _, _, k3⟩ := l1Below_ok s2 k2 4 (by omega) (by omega)
    obtain ⟨v2, s4, e4, _, _, k4⟩ := l1Below_ok s3 k3 9 (by omega) (by omega)
    obtain ⟨v3, s5, e5, _, _, k5⟩ := l1Below_ok s4 k4 9 (by omega) (by omega)
    obtain ⟨v4, s6, e6, _, k6⟩ := l1Pick_ok s5 k5 [w64 (1 + v2), w64 (1 + v3), 0, 60, 61] (by simp) (by simp)
    simp only [cond_true, e3, e4, e5, e6, Option.bind_some]
    exact ⟨_, rfl, hr, hq⟩
  | false =>
    obtain ⟨v2, s4, e4, _, _, k4⟩ := l1Below_ok s2 k2 9 (by omega) (by omega)
    obtain ⟨v3, s5, e5, _, _, k5⟩ := l1Below_ok s4 k4 9 (by omega) (by omega)
    obtain ⟨v4, s6, e6, _, k6⟩ := l1Pick_ok s5 k5 [w64 (1 + v2), w64 (1 + v3), 0, 60, 61] (by simp) (by simp)
    simp only [cond_false, e4, e5, e6, Option.bind_some]
    exact ⟨_, rfl, hr, hq⟩
theorem drawGrant_ok (a : List Int) (h : a.length ≤ 1048576) : ∃ r : DSeat × Int, F.spec_DrawSeatGrant a = some r ∧ r.1.2.2.1.length ≤ 11 ∧ i6S r.1.2.2.1 := by
  unfold F.spec_DrawSeatGrant
  obtain ⟨s, e0, k0⟩ := l1New_ok a h
  obtain ⟨r, e1, hr, k1, hq⟩ := l9Draw_rg s k0
  simp only [e0, e1, Option.bind_some]
  exact ⟨_, rfl, hr, hq⟩
theorem taken_half (b : DSeat) (m e q : Int) (r : DSeat × Int) (hl : b.2.2.1.length ≤ 11) (hr : i6S b.2.2.1)
    (h : (r.2 ≠ 0 ∧ r.1 = b) ∨ (r.2 = 0 ∧ SeatG b m ∧ (1 ≤ q ∧ q ≤ 60) ∧ e = b.1 ∧ q ≤ b.2.1 ∧ ¬ memS b.2.2.1 q ∧ r.1 = takeS b q)) :
    (bif r.2 != 0 then
      (F.impl_SetText r.1.2.2.1).bind fun r22 =>
      (F.impl_SetText b.2.2.1).bind fun r23 =>
      some (ByteArray.toList r22 == ByteArray.toList r23)
    else
      (F.impl_SeatData r.1 m e q).bind fun r24 =>
      (F.impl_SeatOk r.1 m).bind fun r25 =>
      bif r25 then
        bif r24.2 == 1 then
          (F.impl_SetSize r.1.2.2.1).bind fun r26 =>
          (F.impl_SetSize b.2.2.1).bind fun r27 =>
          bif r26 == (w64 (r27 + 1)) then
            bif decide (q ≤ b.2.1) then
              some (e == b.1)
            else
              some false
          else
            some false
        else
          some false
      else
        some false) = some true := by
  obtain ⟨t, ht⟩ := text_any b.2.2.1 (by omega) hr
  rcases h with ⟨h1, h2⟩ | ⟨h1, hg, h2, h3, h4, h5, h6⟩
  · rw [show (r.2 != 0) = true by simpa using h1, h2, ht]
    simp
  · have hk := takeS_ok hg h2.1 h4 h5
    obtain ⟨l1, l2⟩ := seat_small hg
    obtain ⟨l3, _⟩ := seat_small hk
    have hok := good_ok.1 hg.tk.1
    have hgr := hg.gr
    obtain ⟨p1, p2⟩ := put_one hok (q := q) (by omega) (by omega) h5
    have z1 : F.impl_SetSize (takeS b q).2.2.1 = some (szS b.2.2.1 + 1) := by
      show F.impl_SetSize (put (q, q, ()) b.2.2.1) = _
      rw [implSize_eq p1, p2]
    have hz := szS_rng (Int.le_refl 0) hok
    rw [show (r.2 != 0) = false by simp [h1], h6, h3, data_again hg h2 h4 h5, (seatG_dec (takeS b q) m (by omega)).2, decB_pos hk, z1, implSize_eq hok]
    simp only [cond_false, Option.bind_some, cond_true]
    rw [w64_id (by omega) (by omega), decide_eq_true h4]
    simp
theorem fnSeats_law (a : List Int) (h : a.length ≤ 9223372036854775807) : F.laws_FnSeats a = some true := by
  unfold F.laws_FnSeats F.laws_big
  by_cases hb : a.length ≤ 1048576
  case neg =>
    rw [show decide (len a > 1048576) = true from decide_eq_true (by simp only [len]; omega)]; rfl
  rw [show decide (len a > 1048576) = false from decide_eq_false (by simp only [len]; omega)]
  obtain ⟨⟨b, m, e, q⟩, e1, hl, hr⟩ := drawData_ok a hb
  obtain ⟨⟨s, n⟩, e2, hl2, hr2⟩ := drawGrant_ok a hb
  simp only at hl hr hl2 hr2
  obtain ⟨r, d1, d2, d3⟩ := data_full b m e q (by omega)
  have hh := taken_half b m e q r hl hr d3
  obtain ⟨g, f1, f2, f3, _⟩ := seatGrant_same s n (by omega)
  obtain ⟨c, k1, k2, _⟩ := seatReclaim_same s n (by unfold zSeat zSpanS; omega)
  obtain ⟨j1, j2⟩ := seatG_dec s n (by omega)
  simp only [Option.bind_some, cond_false, e1, e2, d1, d2, f1, f2, k1, k2, j1, bne_self_eq_false]
  by_cases hg : SeatG s n
  case neg =>
    rw [decB_neg hg]
    simp only [cond_false]
    exact hh
  rw [decB_pos hg]
  simp only [cond_true]
  have hge := (grant_eq hg).2
  rw [f2] at hge
  cases hge
  have hgo := grant_ok hg
  obtain ⟨c', k3, k4, k5, k6⟩ := reclaim_ok hg
  rw [k2] at k3
  cases k3
  obtain ⟨o, o1, o2⟩ := owed_le hgo
  obtain ⟨t, ht⟩ := text_any s.2.2.1 (by omega) hr2
  have hmn := mn3 60 (s.2.2.2.1 + n)
  have hcr := hg.cr
  have hgr := hg.gr
  rw [(seatG_dec (grantS s n) n (by show s.2.2.1.length ≤ _; omega)).2, decB_pos hgo, (seatG_dec c n (by rw [k5]; omega)).2, decB_pos k4, o1, k5, ht]
  simp only [Option.bind_some, Bool.not_true, cond_false]
  rw [decide_eq_false (show ¬ o > n by omega), decide_eq_false (show ¬ (grantS s n).2.1 < s.2.1 by show ¬ mnI 60 (s.2.2.2.1 + n) < s.2.1; omega), decide_eq_false (show ¬ c.2.1 > s.2.1 by omega), show (!(ByteArray.toList t == ByteArray.toList t)) = false by simp]
  simp only [cond_false]
  exact hh
end Go.Proofs.YtipaepbmdooekaaDoor.Vm
