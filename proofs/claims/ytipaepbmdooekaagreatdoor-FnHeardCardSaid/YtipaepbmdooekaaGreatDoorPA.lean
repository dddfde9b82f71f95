import Derived.Test.YtipaepbmdooekaaGreatDoorGf
import Derived.Test.YtipaepbmdooekaaGreatDoorV3
import Derived.Lib.ItoaLen
namespace Go.Proofs.YtipaepbmdooekaaGreatDoor.Vm
open Go Go.RowKit
set_option linter.unusedVariables false
def runL {α S A : Type} (g : Nat → S → α → S ⊕ A) : Nat → List α → S → S ⊕ A
  | _, [], s => .inl s
  | i, x :: l, s => match g i s x with
    | .inl s' => runL g (i + 1) l s'
    | .inr a => .inr a
def runN {S A : Type} (g : Nat → S → S ⊕ A) : Nat → Nat → S → S ⊕ A
  | 0, _, s => .inl s
  | k + 1, i, s => match g i s with
    | .inl s' => runN g k (i + 1) s'
    | .inr a => .inr a
def again {X A S : Type} (mk : S → X) : S ⊕ A → Lp X A
  | .inl s => .again (mk s)
  | .inr a => .ret a
theorem loop_n {X A S : Type} {step : X → Option (Lp X A)} (n : Nat) (mk : Nat → S → X) (g : Nat → S → S ⊕ A) (P : Nat → S → Prop)
    (h : ∀ i s, i < n → P i s → step (mk i s) = some (again (mk (i + 1)) (g i s)) ∧ ∀ s', g i s = .inl s' → P (i + 1) s')
    (he : ∀ s, P n s → step (mk n s) = some (.exit (mk n s))) {s : S} (h0 : P 0 s) :
    loopO step (mk 0 s) = some (Sum.map (mk n) id (runN g n 0 s)) ∧ ∀ s', runN g n 0 s = .inl s' → P n s' := by
  have key : ∀ k i s, i + k = n → P i s → iterO step (k + 1) (mk i s) = some (Sum.map (mk n) id (runN g k i s)) ∧ ∀ s', runN g k i s = .inl s' → P n s' := by
    intro k
    induction k with
    | zero =>
      intro i s hi hp
      have hi : i = n := by omega
      subst hi
      refine ⟨?_, fun s' hs => by cases hs; exact hp⟩
      simp only [iterO, he s hp]; rfl
    | succ k ih =>
      intro i s hi hp
      obtain ⟨h1, h2⟩ := h i s (by omega) hp
      rw [iterO, h1]
      cases hg : g i s with
      | inl s' =>
        simp only [again, runN, hg]
        exact ih (i + 1) s' (by omega) (h2 s' hg)
      | inr a =>
        simp only [again, runN, hg]
        exact ⟨rfl, fun s' hs => by cases hs⟩
  obtain ⟨k1, k2⟩ := key n 0 s (by omega) h0
  exact ⟨loopO_of k1, k2⟩
theorem runN_list {α S A : Type} (g : Nat → S → α → S ⊕ A) (d : α) (l : List α) (s : S) : runN (fun i s => g i s (l.getD i d)) l.length 0 s = runL g 0 l s := by
  have key : ∀ (m : List α) (i : Nat) (s : S), l.drop i = m → runN (fun i s => g i s (l.getD i d)) m.length i s = runL g i m s := by
    intro m
    induction m with
    | nil => intro i s _; rfl
    | cons x m ih =>
      intro i s h
      have hx : l.getD i d = x := by
        rw [List.getD_eq_getElem?_getD, show l[i]? = some x by rw [← List.head?_drop, h]; rfl]; rfl
      simp only [List.length_cons, runN, runL, hx]
      cases g i s x with
      | inl s' => exact ih (i + 1) s' (by rw [← List.drop_drop, h]; rfl)
      | inr a => rfl
  exact key l 0 s rfl
theorem loop_l {X A S α : Type} {step : X → Option (Lp X A)} (l : List α) (mk : Nat → S → X) (g : Nat → S → α → S ⊕ A) (P : Nat → S → Prop)
    (h : ∀ i s (hi : i < l.length), P i s → step (mk i s) = some (again (mk (i + 1)) (g i s l[i])) ∧ ∀ s', g i s l[i] = .inl s' → P (i + 1) s')
    (he : ∀ s, P l.length s → step (mk l.length s) = some (.exit (mk l.length s))) {s : S} (h0 : P 0 s) :
    loopO step (mk 0 s) = some (Sum.map (mk l.length) id (runL g 0 l s)) ∧ ∀ s', runL g 0 l s = .inl s' → P l.length s' := by
  cases l with
  | nil =>
    obtain ⟨h1, h2⟩ := loop_n (step := step) 0 mk (fun _ s => .inl s) P (fun i s hi => by omega) he h0
    exact ⟨h1, h2⟩
  | cons x l =>
    obtain ⟨h1, h2⟩ := loop_n (step := step) (x :: l).length mk (fun i s => g i s ((x :: l).getD i x)) P (fun i s hi hp => by
      rw [getD_at hi]; exact h i s hi hp) he h0
    rw [runN_list] at h1 h2
    exact ⟨h1, h2⟩
theorem loop_l0 {X A S α : Type} {step : X → Option (Lp X A)} (l : List α) (mk : Nat → S → X) (g : Nat → S → α → S ⊕ A)
    (h : ∀ i s (hi : i < l.length), step (mk i s) = some (again (mk (i + 1)) (g i s l[i])))
    (he : ∀ s, step (mk l.length s) = some (.exit (mk l.length s))) (s : S) :
    loopO step (mk 0 s) = some (Sum.map (mk l.length) id (runL g 0 l s)) :=
  (loop_l l mk g (fun _ _ => True) (fun i s hi _ => ⟨h i s hi, fun _ _ => trivial⟩) (fun s _ => he s) (s := s) trivial).1
theorem loop_all {X A α : Type} {step : X → Option (Lp X A)} (l : List α) (mk : Nat → X) (p : α → Bool) (a : A)
    (h : ∀ i (hi : i < l.length), step (mk i) = some (bif p l[i] then .again (mk (i + 1)) else .ret a))
    (he : step (mk l.length) = some (.exit (mk l.length))) :
    loopO step (mk 0) = some (bif l.all p then .inl (mk l.length) else .inr a) := by
  have := loop_l0 (step := step) l (fun i (_ : Unit) => mk i) (fun _ _ x => bif p x then .inl () else .inr a) (fun i s hi => by
    rw [h i hi]; cases p l[i] <;> rfl) (fun _ => he) ()
  rw [this]
  have key : ∀ (m : List α) (i : Nat), Sum.map (fun (_ : Unit) => mk l.length) id (runL (fun _ _ x => bif p x then (.inl () : Unit ⊕ A) else .inr a) i m ()) = bif m.all p then .inl (mk l.length) else .inr a := by
    intro m
    induction m with
    | nil => intro i; rfl
    | cons x m ih =>
      intro i
      simp only [runL, List.all_cons]
      cases p x with
      | false => rfl
      | true => exact ih (i + 1)
  rw [key l 0]
theorem loop_foldP {X A S α : Type} {step : X → Option (Lp X A)} (l : List α) (mk : Nat → S → X) (f : S → α → S) (P : Nat → S → Prop)
    (h : ∀ i s (hi : i < l.length), P i s → step (mk i s) = some (.again (mk (i + 1) (f s l[i]))) ∧ P (i + 1) (f s l[i]))
    (he : ∀ s, P l.length s → step (mk l.length s) = some (.exit (mk l.length s))) {s : S} (h0 : P 0 s) :
    loopO step (mk 0 s) = some (.inl (mk l.length (l.foldl f s))) ∧ P l.length (l.foldl f s) := by
  obtain ⟨h1, h2⟩ := loop_l (step := step) l mk (fun _ s x => .inl (f s x)) P (fun i s hi hp => ⟨(h i s hi hp).1, fun s' e => by cases e; exact (h i s hi hp).2⟩) he h0
  have key : ∀ (m : List α) (i : Nat) (s : S), runL (fun _ s x => (.inl (f s x) : S ⊕ A)) i m s = .inl (m.foldl f s) := by
    intro m
    induction m with
    | nil => intro i s; rfl
    | cons x m ih => intro i s; exact ih (i + 1) (f s x)
  rw [key l 0 s] at h1 h2
  exact ⟨h1, h2 _ rfl⟩
theorem fits_of {n b : Nat} (h : n * b ≤ 140737488355328) : fits n b = true := decide_eq_true h
theorem getD_mid {α : Type} {p : List α} {x d : α} {l : List α} : (p ++ x :: l).getD p.length d = x := by
  rw [List.getD_eq_getElem?_getD, List.getElem?_append_right (Nat.le_refl _), Nat.sub_self]; rfl
theorem set_mid {α : Type} {p : List α} {x y : α} {l : List α} : (p ++ x :: l).set p.length y = p ++ y :: l := by
  rw [List.set_append_right _ _ (Nat.le_refl _), Nat.sub_self]; rfl
section
variable {α A : Type}
end
def inR (lo hi x : Int) : Bool := decide (x ≥ lo) && decide (x ≤ hi)
theorem l1In_eq (x lo hi : Int) : F.spec_l1In x lo hi = some (inR lo hi x) := by
  unfold F.spec_l1In inR
  cases decide (x ≥ lo) <;> rfl
theorem within_eq (x lo hi : Int) : F.impl_within x lo hi = some (inR lo hi x) := by
  unfold F.impl_within inR
  cases decide (x ≥ lo) <;> rfl
theorem inR_iff {lo hi x : Int} : inR lo hi x = true ↔ lo ≤ x ∧ x ≤ hi := by simp [inR]
abbrev Sp := Int × Int × Unit
def okAt (a : List Sp) (i : Nat) (h : i < a.length) : Prop := inR 0 9999 a[i].1 = true ∧ inR a[i].1 9999 a[i].2.1 = true ∧ ∀ h0 : 0 < i, ¬ (a[i].1 ≤ (a[i - 1]'(by omega)).2.1 + 1)
def Good (a : List Sp) : Prop := ∀ (i : Nat) (h : i < a.length), okAt a i h
theorem specSet_ok (a : List Sp) (h : a.length ≤ 1048576) : (F.spec_SetOk a = some true ∧ Good a) ∨ (F.spec_SetOk a = some false ∧ ¬ Good a) := by
  unfold F.spec_SetOk
  obtain ⟨y, h1, h2⟩ := loopO_rule (step := F.spec_SetOk.s2) (fun x => x.1 = a ∧ 0 ≤ x.2.1 ∧ x.2.1 ≤ a.length ∧ ∀ (i : Nat) (hi : i < a.length), (i : Int) < x.2.1 → okAt a i hi) (fun y => (∃ i, y = .inl i ∧ Good a) ∨ (y = .inr false ∧ ¬ Good a))
    (fun x => a.length - x.2.1.toNat) (fun x hx => by
      obtain ⟨x1, x2, u⟩ := x
      obtain ⟨rfl, g1, g2, g3⟩ := hx
      simp only at g1 g2 g3
      have h : x1.length ≤ 1048576 := h
      unfold F.spec_SetOk.s2
      simp only
      by_cases hlt : x2 < (x1.length : Int)
      · have hin : x2.toNat < x1.length := by omega
        have again : okAt x1 x2.toNat hin → (x1 = x1 ∧ 0 ≤ w64 (x2 + 1) ∧ w64 (x2 + 1) ≤ x1.length ∧ ∀ (i : Nat) (hi : i < x1.length), (i : Int) < w64 (x2 + 1) → okAt x1 i hi) ∧ x1.length - (w64 (x2 + 1)).toNat < x1.length - x2.toNat := by
          intro hok
          refine ⟨⟨rfl, ?_, ?_, ?_⟩, ?_⟩
          all_goals rw [w64_id (by omega) (by omega)]
          · omega
          · omega
          · intro i hi hlt'
            by_cases e : i = x2.toNat
            · subst e; exact hok
            · exact g3 i hi (by omega)
          · omega
        rw [show decide (x2 < len x1) = true from decide_eq_true hlt, inb_of g1 hlt, l1In_eq, l1In_eq, getD_at hin]
        simp only [chk_true, cond_true, Option.bind_some]
        cases hr : inR 0 9999 x1[x2.toNat].1 with
        | false => exact ⟨.ret false, rfl, .inr ⟨rfl, fun hg => by have := (hg _ hin).1; rw [hr] at this; cases this⟩⟩
        | true =>
          simp only [Bool.not_true, cond_false]
          cases hr2 : inR x1[x2.toNat].1 9999 x1[x2.toNat].2.1 with
          | false => exact ⟨.ret false, rfl, .inr ⟨rfl, fun hg => by have := (hg _ hin).2.1; rw [hr2] at this; cases this⟩⟩
          | true =>
            simp only [Bool.not_true, cond_false]
            by_cases hp : x2 > 0
            · have hin2 : x2.toNat - 1 < x1.length := by omega
              have hb := (g3 (x2.toNat - 1) hin2 (by omega))
              have hb1 := inR_iff.1 hb.1
              have hb2 := inR_iff.1 hb.2.1
              rw [show decide (x2 > 0) = true from decide_eq_true hp, w64_id (x := x2 - 1) (by omega) (by omega), inb_of (i := x2 - 1) (by omega) (by omega), show (x2 - 1).toNat = x2.toNat - 1 by omega, getD_at hin2, w64_id (x := x1[x2.toNat - 1].2.1 + 1) (by omega) (by omega)]
              simp only [chk_true, cond_true]
              by_cases hle : x1[x2.toNat].1 ≤ x1[x2.toNat - 1].2.1 + 1
              · rw [show decide (x1[x2.toNat].1 ≤ x1[x2.toNat - 1].2.1 + 1) = true from decide_eq_true hle]
                exact ⟨.ret false, rfl, .inr ⟨rfl, fun hg => (hg _ hin).2.2 (by omega) hle⟩⟩
              · rw [show decide (x1[x2.toNat].1 ≤ x1[x2.toNat - 1].2.1 + 1) = false from decide_eq_false hle]
                exact ⟨.again (x1, w64 (x2 + 1), ()), rfl, again ⟨hr, hr2, fun _ => hle⟩⟩
            · rw [show decide (x2 > 0) = false from decide_eq_false hp]
              exact ⟨.again (x1, w64 (x2 + 1), ()), rfl, again ⟨hr, hr2, fun h0 => by omega⟩⟩
      · refine ⟨.exit (x1, x2, ()), ?_, .inl ⟨_, rfl, fun i hi => g3 i hi (by omega)⟩⟩
        rw [show decide (x2 < len x1) = false from decide_eq_false hlt]; rfl) (x := (a, 0, ())) ⟨rfl, Int.le_refl 0, by simp, fun i hi h => by
          have h : (i : Int) < 0 := h
          omega⟩
  rw [h1]
  rcases h2 with ⟨i, rfl, hg⟩ | ⟨rfl, hg⟩
  · exact .inl ⟨rfl, hg⟩
  · exact .inr ⟨rfl, hg⟩
theorem implSet_ok (a : List Sp) (h : a.length ≤ 1048576) : (F.impl_SetOk a = some true ∧ Good a) ∨ (F.impl_SetOk a = some false ∧ ¬ Good a) := by
  unfold F.impl_SetOk
  obtain ⟨y, h1, h2⟩ := loopO_rule (step := F.impl_SetOk.s2) (fun x => x.1 = a ∧ x.2.1 = a ∧ x.2.2.1 = len a ∧ 0 ≤ x.2.2.2.1 ∧ x.2.2.2.1 ≤ a.length ∧ ∀ (i : Nat) (hi : i < a.length), (i : Int) < x.2.2.2.1 → okAt a i hi) (fun y => (∃ i, y = .inl i ∧ Good a) ∨ (y = .inr false ∧ ¬ Good a))
    (fun x => a.length - x.2.2.2.1.toNat) (fun x hx => by
      obtain ⟨x1, xa, xl, x2, u⟩ := x
      obtain ⟨rfl, ea, el, g1, g2, g3⟩ := hx
      simp only at g1 g2 g3 ea el
      subst ea; subst el
      have h : xa.length ≤ 1048576 := h
      unfold F.impl_SetOk.s2
      simp only
      by_cases hlt : x2 < (xa.length : Int)
      · have hin : x2.toNat < xa.length := by omega
        have again : okAt xa x2.toNat hin → (xa = xa ∧ xa = xa ∧ len xa = len xa ∧ 0 ≤ w64 (x2 + 1) ∧ w64 (x2 + 1) ≤ xa.length ∧ ∀ (i : Nat) (hi : i < xa.length), (i : Int) < w64 (x2 + 1) → okAt xa i hi) ∧ xa.length - (w64 (x2 + 1)).toNat < xa.length - x2.toNat := by
          intro hok
          refine ⟨⟨rfl, rfl, rfl, ?_, ?_, ?_⟩, ?_⟩
          all_goals rw [w64_id (by omega) (by omega)]
          · omega
          · omega
          · intro i hi hlt'
            by_cases e : i = x2.toNat
            · subst e; exact hok
            · exact g3 i hi (by omega)
          · omega
        rw [show decide (x2 < len xa) = true from decide_eq_true hlt, inb_of g1 hlt, within_eq, within_eq, getD_at hin]
        simp only [chk_true, cond_true, Option.bind_some]
        cases hr : inR 0 9999 xa[x2.toNat].1 with
        | false => exact ⟨.ret false, rfl, .inr ⟨rfl, fun hg => by have := (hg _ hin).1; rw [hr] at this; cases this⟩⟩
        | true =>
          simp only [Bool.not_true, cond_false]
          cases hr2 : inR xa[x2.toNat].1 9999 xa[x2.toNat].2.1 with
          | false => exact ⟨.ret false, rfl, .inr ⟨rfl, fun hg => by have := (hg _ hin).2.1; rw [hr2] at this; cases this⟩⟩
          | true =>
            simp only [Bool.not_true, cond_false]
            by_cases hp : x2 > 0
            · have hin2 : x2.toNat - 1 < xa.length := by omega
              have hb := (g3 (x2.toNat - 1) hin2 (by omega))
              have hb1 := inR_iff.1 hb.1
              have hb2 := inR_iff.1 hb.2.1
              rw [show decide (x2 > 0) = true from decide_eq_true hp, w64_id (x := x2 - 1) (by omega) (by omega), inb_of (i := x2 - 1) (by omega) (by omega), show (x2 - 1).toNat = x2.toNat - 1 by omega, getD_at hin2, w64_id (x := xa[x2.toNat - 1].2.1 + 1) (by omega) (by omega)]
              simp only [chk_true, cond_true]
              by_cases hle : xa[x2.toNat].1 ≤ xa[x2.toNat - 1].2.1 + 1
              · rw [show decide (xa[x2.toNat].1 ≤ xa[x2.toNat - 1].2.1 + 1) = true from decide_eq_true hle]
                exact ⟨.ret false, rfl, .inr ⟨rfl, fun hg => (hg _ hin).2.2 (by omega) hle⟩⟩
              · rw [show decide (xa[x2.toNat].1 ≤ xa[x2.toNat - 1].2.1 + 1) = false from decide_eq_false hle]
                exact ⟨.again (xa, xa, len xa, w64 (x2 + 1), ()), rfl, again ⟨hr, hr2, fun _ => hle⟩⟩
            · rw [show decide (x2 > 0) = false from decide_eq_false hp]
              exact ⟨.again (xa, xa, len xa, w64 (x2 + 1), ()), rfl, again ⟨hr, hr2, fun h0 => by omega⟩⟩
      · refine ⟨.exit (xa, xa, len xa, x2, ()), ?_, .inl ⟨_, rfl, fun i hi => g3 i hi (by omega)⟩⟩
        rw [show decide (x2 < len xa) = false from decide_eq_false hlt]; rfl) (x := (a, a, len a, 0, ())) ⟨rfl, rfl, rfl, Int.le_refl 0, by simp, fun i hi h => by
          have h : (i : Int) < 0 := h
          omega⟩
  rw [h1]
  rcases h2 with ⟨i, rfl, hg⟩ | ⟨rfl, hg⟩
  · exact .inl ⟨rfl, hg⟩
  · exact .inr ⟨rfl, hg⟩
theorem good_up {a : List Sp} (hg : Good a) : ∀ (k i : Nat) (hi : i + k < a.length), (a[i]'(by omega)).1 ≤ (a[i + k]).1 ∧ (a[i]'(by omega)).2.1 ≤ (a[i + k]).2.1
  | 0, i, hi => ⟨Int.le_refl _, Int.le_refl _⟩
  | k + 1, i, hi => by
    obtain ⟨g1, g2⟩ := good_up hg k i (by omega)
    have h1 := hg (i + k) (by omega)
    have h2 := hg (i + (k + 1)) hi
    have h3 := inR_iff.1 h1.2.1
    have h4 := inR_iff.1 h2.2.1
    have h5 := h2.2.2 (by omega)
    have e : (a[i + (k + 1) - 1]'(by omega)) = a[i + k] := by congr 1
    rw [e] at h5
    exact ⟨by omega, by omega⟩
def Within (a : List Sp) (n : Int) : Prop := ∀ (i : Nat) (h : i < a.length), 1 ≤ a[i].1 ∧ a[i].2.1 ≤ n
theorem below_loop (a : List Sp) (n : Int) (h : a.length ≤ 1048576) : ∃ y, loopO F.spec_l8Below.s4 (a, n, 0, ()) = some y ∧ ((∃ i, y = .inl i ∧ Within a n) ∨ (y = .inr false ∧ ¬ Within a n)) :=
  loopO_rule (step := F.spec_l8Below.s4) (fun x => x.1 = a ∧ x.2.1 = n ∧ 0 ≤ x.2.2.1 ∧ x.2.2.1 ≤ a.length ∧ ∀ (i : Nat) (hi : i < a.length), (i : Int) < x.2.2.1 → 1 ≤ a[i].1 ∧ a[i].2.1 ≤ n) (fun y => (∃ i, y = .inl i ∧ Within a n) ∨ (y = .inr false ∧ ¬ Within a n))
    (fun x => a.length - x.2.2.1.toNat) (fun x hx => by
      obtain ⟨x1, x3, x2, u⟩ := x
      obtain ⟨rfl, e3, g1, g2, g3⟩ := hx
      simp only at g1 g2 g3 e3
      subst e3
      have h : x1.length ≤ 1048576 := h
      unfold F.spec_l8Below.s4
      simp only
      by_cases hlt : x2 < (x1.length : Int)
      · have hin : x2.toNat < x1.length := by omega
        rw [show decide (x2 < len x1) = true from decide_eq_true hlt, inb_of g1 hlt, getD_at hin]
        simp only [chk_true, cond_true]
        by_cases ha : x1[x2.toNat].1 < 1
        · rw [show decide (x1[x2.toNat].1 < 1) = true from decide_eq_true ha]
          exact ⟨.ret false, rfl, .inr ⟨rfl, fun hg => by have := (hg _ hin).1; omega⟩⟩
        · rw [show decide (x1[x2.toNat].1 < 1) = false from decide_eq_false ha]
          simp only [cond_false]
          by_cases hb : x1[x2.toNat].2.1 > x3
          · rw [show decide (x1[x2.toNat].2.1 > x3) = true from decide_eq_true hb]
            exact ⟨.ret false, rfl, .inr ⟨rfl, fun hg => by have := (hg _ hin).2; omega⟩⟩
          · rw [show decide (x1[x2.toNat].2.1 > x3) = false from decide_eq_false hb]
            refine ⟨.again (x1, x3, w64 (x2 + 1), ()), rfl, ⟨rfl, rfl, ?_, ?_, ?_⟩, ?_⟩
            all_goals simp only
            all_goals rw [w64_id (by omega) (by omega)]
            · omega
            · omega
            · intro i hi hlt'
              by_cases e : i = x2.toNat
              · subst e; exact ⟨by omega, by omega⟩
              · exact g3 i hi (by omega)
            · omega
      · refine ⟨.exit (x1, x3, x2, ()), ?_, .inl ⟨_, rfl, fun i hi => g3 i hi (by omega)⟩⟩
        rw [show decide (x2 < len x1) = false from decide_eq_false hlt]; rfl) (x := (a, n, 0, ())) ⟨rfl, rfl, Int.le_refl 0, by simp, fun i hi h => by
          have h : (i : Int) < 0 := h
          omega⟩
theorem below_same (a : List Sp) (n : Int) (h : a.length ≤ 1048576) : (F.spec_l8Below a n = some true ∧ F.impl_allIn a 1 n = some true ∧ Good a) ∨ (F.spec_l8Below a n = some false ∧ F.impl_allIn a 1 n = some false) := by
  unfold F.spec_l8Below F.impl_allIn
  rcases specSet_ok a h with ⟨e1, hg⟩ | ⟨e1, hg⟩ <;> rcases implSet_ok a h with ⟨e2, hg2⟩ | ⟨e2, hg2⟩
  · rw [e1, e2]
    obtain ⟨y, h1, h2⟩ := below_loop a n h
    simp only [Option.bind_some, Bool.not_true, cond_false, cond_true, h1]
    cases a with
    | nil =>
      rcases h2 with ⟨i, rfl, hw⟩ | ⟨rfl, hw⟩
      · exact .inl ⟨rfl, rfl, hg⟩
      · exact absurd (fun i hi => by cases hi) hw
    | cons s l =>
      have hn : (len (s :: l) == 0) = false := by simp [len]; omega
      rw [hn]
      have hlast : (w64 (len (s :: l) - 1)).toNat = l.length := by
        rw [w64_id (by simp only [len, List.length_cons]; omega) (by simp only [len, List.length_cons] at h ⊢; omega)]
        simp [len]
      have hin1 : inb 0 (s :: l).length = true := inb_of (by omega) (by simp only [List.length_cons]; omega)
      have hin2 : inb (w64 (len (s :: l) - 1)) (s :: l).length = true := by
        rw [w64_id (by simp only [len, List.length_cons]; omega) (by simp only [len, List.length_cons] at h ⊢; omega)]
        exact inb_of (by simp only [len, List.length_cons]; omega) (by simp only [len, List.length_cons]; omega)
      rw [hin1, hin2, hlast, getD_at (l := s :: l) (i := 0) (by simp), getD_at (l := s :: l) (i := l.length) (by simp)]
      simp only [chk_true, cond_false]
      have key : ((s :: l)[0].1 ≥ 1 ∧ ((s :: l)[l.length]'(by simp)).2.1 ≤ n) ↔ Within (s :: l) n := by
        constructor
        · rintro ⟨k1, k2⟩ i hi
          have u1 := (good_up hg i 0 (by simpa using hi)).1
          have u2 := (good_up hg (l.length - i) i (by simp at hi ⊢; omega)).2
          have e3 : i + (l.length - i) = l.length := by simp at hi; omega
          simp only [Nat.zero_add, e3] at u1 u2
          exact ⟨by omega, by omega⟩
        · intro hw
          exact ⟨(hw 0 (by simp)).1, (hw l.length (by simp)).2⟩
      rcases h2 with ⟨i, rfl, hw⟩ | ⟨rfl, hw⟩
      · obtain ⟨k1, k2⟩ := key.2 hw
        refine .inl ⟨rfl, ?_, hg⟩
        rw [show decide ((s :: l)[0].1 ≥ 1) = true from decide_eq_true k1, show decide (((s :: l)[l.length]'(by simp)).2.1 ≤ n) = true from decide_eq_true k2]; rfl
      · refine .inr ⟨rfl, ?_⟩
        by_cases k1 : (s :: l)[0].1 ≥ 1
        · have k2 : ¬ ((s :: l)[l.length]'(by simp)).2.1 ≤ n := fun k2 => hw (key.1 ⟨k1, k2⟩)
          rw [show decide ((s :: l)[0].1 ≥ 1) = true from decide_eq_true k1, show decide (((s :: l)[l.length]'(by simp)).2.1 ≤ n) = false from decide_eq_false k2]; rfl
        · rw [show decide ((s :: l)[0].1 ≥ 1) = false from decide_eq_false k1]; rfl
  · exact absurd hg hg2
  · exact absurd hg2 hg
  · rw [e1, e2]; exact .inr ⟨rfl, rfl⟩
theorem allIn_iff (a : List Sp) (n : Int) (h : a.length ≤ 1048576) : ∃ b, F.spec_l8Below a n = some b ∧ F.impl_allIn a 1 n = some b ∧ (b = true ↔ Good a ∧ Within a n) := by
  rcases specSet_ok a h with ⟨e1, hg⟩ | ⟨e1, hg⟩
  · obtain ⟨y, h1, h2⟩ := below_loop a n h
    have hs : F.spec_l8Below a n = (afterO (some y) fun _ => some true) := by
      unfold F.spec_l8Below
      rw [e1]
      simp only [Option.bind_some, Bool.not_true, cond_false, h1]
    rcases h2 with ⟨i, rfl, hw⟩ | ⟨rfl, hw⟩
    · rcases below_same a n h with ⟨b1, b2, _⟩ | ⟨b1, b2⟩
      · exact ⟨true, b1, b2, fun _ => ⟨hg, hw⟩, fun _ => rfl⟩
      · rw [hs] at b1; cases b1
    · rcases below_same a n h with ⟨b1, b2, _⟩ | ⟨b1, b2⟩
      · rw [hs] at b1; cases b1
      · exact ⟨false, b1, b2, fun e => (by cases e), fun e => absurd e.2 hw⟩
  · rcases below_same a n h with ⟨b1, b2, b3⟩ | ⟨b1, b2⟩
    · exact absurd b3 hg
    · exact ⟨false, b1, b2, fun e => (by cases e), fun e => absurd e.1 hg⟩
theorem sum_mem {α : Type} {f : α → Nat} {l : List α} {x : α} (h : x ∈ l) : f x ≤ (l.map f).sum := by
  induction l with
  | nil => cases h
  | cons y l ih =>
    simp only [List.map_cons, List.sum_cons]
    rcases List.mem_cons.1 h with rfl | h
    · omega
    · have := ih h; omega
def zIntS (l : List Int) : Nat := l.length
def fIntS (l : List Int) : Prop := l.length ≤ maxLen
def zIntSS (l : List (List Int)) : Nat := l.length + (l.map zIntS).sum
def fIntSS (l : List (List Int)) : Prop := l.length ≤ maxLen ∧ ∀ x ∈ l, fIntS x
def zSketch (a : DSketch) : Nat := zIntS a.2.2.2.2.1 + zIntS a.2.2.2.2.2.1 + zIntSS a.2.2.2.2.2.2.1
def fSketch (a : DSketch) : Prop := fIntS a.2.2.2.2.1 ∧ fIntS a.2.2.2.2.2.1 ∧ fIntSS a.2.2.2.2.2.2.1
def l3B (l : List Int) (n m : Int) (z : Bool) : Bool := (len l == n) && l.all (fun x => inR 0 m x && (!z || x == 0))
theorem l3List_eq (l : List Int) (n : Nat) (m : Int) (z : Bool) (h : l.length ≤ 1048576) : F.spec_l3List l n m z = some (l3B l n m z) := by
  unfold F.spec_l3List l3B
  by_cases hl : l.length = n
  · subst hl
    rw [show (len l != ((l.length : Nat) : Int)) = false by simp [len], show (len l == ((l.length : Nat) : Int)) = true by simp [len]]
    have hh := loop_all (step := F.spec_l3List.s4) l (fun i => (l, ((l.length : Nat) : Int), m, z, (i : Int), ())) (fun x => inR 0 m x && (!z || x == 0)) false (fun i hi => by
      unfold F.spec_l3List.s4
      simp only
      rw [show decide ((i : Int) < ((l.length : Nat) : Int)) = true from decide_eq_true (by omega), inb_nat hi, Int.toNat_natCast, w64_nat (by omega), getD_at hi, l1In_eq]
      simp only [cond_true, chk_true, Option.bind_some]
      cases inR 0 m l[i] with
      | false => rfl
      | true =>
        cases z with
        | false => rfl
        | true =>
          simp only [Bool.not_true, cond_false, cond_true, Bool.false_or, Bool.true_and]
          cases hx : (l[i] == 0) with
          | true => simp [bne, hx]
          | false => simp [bne, hx]) (by
      unfold F.spec_l3List.s4
      simp only
      rw [show decide (((l.length : Nat) : Int) < ((l.length : Nat) : Int)) = false from decide_eq_false (by omega)]; rfl)
    simp only [cond_false, Bool.true_and]
    refine (congrArg (fun z => afterO z _) hh).trans ?_
    cases l.all (fun x => inR 0 m x && (!z || x == 0)) <;> rfl
  · rw [show (len l != (n : Int)) = true by simp only [len, bne_iff_ne, ne_eq]; omega, show (len l == (n : Int)) = false by simp only [len, beq_eq_false_iff_ne, ne_eq]; omega]
    rfl
structure SkR (s : DSketch) : Prop where
  cnt : 0 ≤ s.1 ∧ s.1 ≤ 1000000000
  sum : 0 ≤ s.2.1 ∧ s.2.1 ≤ 1000000000
  mn : 0 ≤ s.2.2.1
  mm : s.2.2.1 ≤ s.2.2.2.1
  mx : s.2.2.2.1 ≤ 1000000
  zero : s.1 = 0 → s.2.1 = 0 ∧ s.2.2.2.1 = 0
  hist : s.2.2.2.2.1.length = 8 ∧ ∀ x ∈ s.2.2.2.2.1, (0 ≤ x ∧ x ≤ 1000000000) ∧ (s.1 = 0 → x = 0)
  regs : s.2.2.2.2.2.1.length = 8 ∧ ∀ x ∈ s.2.2.2.2.2.1, (0 ≤ x ∧ x ≤ 17) ∧ (s.1 = 0 → x = 0)
  rows : ∃ r0 r1, s.2.2.2.2.2.2.1 = [r0, r1] ∧ (r0.length = 4 ∧ ∀ x ∈ r0, (0 ≤ x ∧ x ≤ 1000000000) ∧ (s.1 = 0 → x = 0)) ∧ (r1.length = 4 ∧ ∀ x ∈ r1, (0 ≤ x ∧ x ≤ 1000000000) ∧ (s.1 = 0 → x = 0))
theorem l3B_iff {l : List Int} {n : Nat} {m : Int} {c : Int} : l3B l n m (c == 0) = true ↔ l.length = n ∧ ∀ x ∈ l, (0 ≤ x ∧ x ≤ m) ∧ (c = 0 → x = 0) := by
  unfold l3B
  rw [Bool.and_eq_true, List.all_eq_true, beq_iff_eq]
  constructor
  · rintro ⟨h1, h2⟩
    refine ⟨Int.ofNat.inj h1, fun x hx => ?_⟩
    have := h2 x hx
    rw [Bool.and_eq_true, inR_iff] at this
    refine ⟨this.1, fun hc => ?_⟩
    have h3 := this.2
    rw [show (c == 0) = true by simp [hc]] at h3
    simpa using h3
  · rintro ⟨h1, h2⟩
    refine ⟨congrArg Int.ofNat h1, fun x hx => ?_⟩
    obtain ⟨h3, h4⟩ := h2 x hx
    rw [Bool.and_eq_true, inR_iff]
    refine ⟨h3, ?_⟩
    by_cases hc : c = 0
    · simp [hc, h4 hc]
    · simp [hc]
def specB (c su mn mx : Int) (hi re r0 r1 : List Int) : Bool :=
  inR 0 1000000000 c && (inR 0 1000000000 su && (inR 0 1000000 mn && (inR 0 1000000 mx && (!decide (mn > mx) && ((!(c == 0) || (su == 0 && mx == 0)) && (l3B hi 8 1000000000 (c == 0) && (l3B re 8 17 (c == 0) && (l3B r0 4 1000000000 (c == 0) && l3B r1 4 1000000000 (c == 0)))))))))
theorem two_rows {l : List (List Int)} (h : l.length = 2) : ∃ a b, l = [a, b] := by
  match l, h with
  | [a, b], _ => exact ⟨a, b, rfl⟩
theorem specSk_eq (c su mn mx : Int) (hi re r0 r1 : List Int) (u : Unit) (h1 : hi.length ≤ 1048576) (h2 : re.length ≤ 1048576) (h3 : r0.length ≤ 1048576) (h4 : r1.length ≤ 1048576) : F.spec_SketchOk (c, su, mn, mx, hi, re, [r0, r1], u) = some (specB c su mn mx hi re r0 r1) := by
  unfold F.spec_SketchOk specB
  have e0 : F.spec_l3List hi 8 1000000000 (c == 0) = some (l3B hi 8 1000000000 (c == 0)) := l3List_eq hi 8 1000000000 (c == 0) h1
  have e1 : F.spec_l3List re 8 17 (c == 0) = some (l3B re 8 17 (c == 0)) := l3List_eq re 8 17 (c == 0) h2
  have e2 : F.spec_l3List r0 4 1000000000 (c == 0) = some (l3B r0 4 1000000000 (c == 0)) := l3List_eq r0 4 1000000000 (c == 0) h3
  have e3 : F.spec_l3List r1 4 1000000000 (c == 0) = some (l3B r1 4 1000000000 (c == 0)) := l3List_eq r1 4 1000000000 (c == 0) h4
  have i0 : inb 0 [r0, r1].length = true := rfl
  have i1 : inb 1 [r0, r1].length = true := rfl
  have il : (len [r0, r1] != 2) = false := rfl
  simp only [l1In_eq, Option.bind_some, e0, e1, i0, i1, il, chk_true, List.getD_cons_zero, List.getD_cons_succ, e2, e3]
  cases inR 0 1000000000 c with
  | false => rfl
  | true => cases inR 0 1000000000 su with
    | false => rfl
    | true => cases inR 0 1000000 mn with
      | false => rfl
      | true => cases inR 0 1000000 mx with
        | false => rfl
        | true => cases decide (mn > mx) with
          | true => rfl
          | false =>
            generalize l3B hi 8 1000000000 (c == 0) = b1
            generalize l3B re 8 17 (c == 0) = b2
            generalize l3B r0 4 1000000000 (c == 0) = b3
            generalize l3B r1 4 1000000000 (c == 0) = b4
            cases (c == 0) with
            | false => cases b1 <;> cases b2 <;> cases b3 <;> rfl
            | true =>
              cases hs : (su == 0) with
              | false => simp [bne, hs]
              | true => cases hm : (mx == 0) with
                | false => simp [bne, hs, hm]
                | true => simp only [bne, hs, hm]; cases b1 <;> cases b2 <;> cases b3 <;> rfl
theorem specB_iff {c su mn mx : Int} {hi re r0 r1 : List Int} {u : Unit} : specB c su mn mx hi re r0 r1 = true ↔ SkR (c, su, mn, mx, hi, re, [r0, r1], u) := by
  have g0 : l3B hi 8 1000000000 (c == 0) = true ↔ _ := @l3B_iff hi 8 1000000000 c
  have g1 : l3B re 8 17 (c == 0) = true ↔ _ := @l3B_iff re 8 17 c
  have g2 : l3B r0 4 1000000000 (c == 0) = true ↔ _ := @l3B_iff r0 4 1000000000 c
  have g3 : l3B r1 4 1000000000 (c == 0) = true ↔ _ := @l3B_iff r1 4 1000000000 c
  unfold specB
  simp only [Bool.and_eq_true, inR_iff, g0, g1, g2, g3, Bool.not_eq_true', decide_eq_false_iff_not, Bool.or_eq_true, beq_eq_false_iff_ne, beq_iff_eq]
  constructor
  · rintro ⟨a1, a2, a3, a4, a5, a6, a7, a8, a9, a10⟩
    exact ⟨a1, a2, a3.1, by simp only; omega, a4.2, fun hc => a6.resolve_left (fun h => h hc), a7, a8, r0, r1, rfl, a9, a10⟩
  · rintro ⟨a1, a2, a3, a4, a5, a6, a7, a8, s0, s1, hs, a9, a10⟩
    cases hs
    simp only at *
    refine ⟨a1, a2, ⟨by omega, by omega⟩, ⟨by omega, a5⟩, by omega, ?_, a7, a8, a9, a10⟩
    by_cases hc : c = 0
    · exact .inr (a6 hc)
    · exact .inl hc
theorem flat_len : ∀ (l : List (List Int)), l.flatten.length = (l.map List.length).sum
  | [] => rfl
  | x :: l => by simp [flat_len l]
theorem take_flat_le (l : List (List Int)) (i : Nat) : (l.take i).flatten.length ≤ l.flatten.length := by
  have h := congrArg (fun z : List (List Int) => z.flatten.length) (List.take_append_drop i l)
  simp only [List.flatten_append, List.length_append] at h
  omega
theorem counts_eq (s : DSketch) (h : zSketch s ≤ 1048576) : F.impl_counts s = some ((s.2.2.2.2.1 ++ s.2.2.2.2.2.1) ++ s.2.2.2.2.2.2.1.flatten) := by
  have hz : s.2.2.2.2.1.length + s.2.2.2.2.2.1.length + (s.2.2.2.2.2.2.1.length + s.2.2.2.2.2.2.1.flatten.length) ≤ 1048576 := by
    rw [flat_len]; exact h
  unfold F.impl_counts F.impl_copyInts
  rw [fits_of (by omega), chk_true, Option.bind_some, fits_of (by omega), chk_true]
  have hl := loop_run (step := F.impl_counts.s3) (fun i => ((s.2.2.2.2.1 ++ s.2.2.2.2.2.1) ++ (s.2.2.2.2.2.2.1.take i).flatten, s.2.2.2.2.2.2.1, len s.2.2.2.2.2.2.1, (i : Int), ())) s.2.2.2.2.2.2.1.length (fun i hi => by
    have h1 := take_flat_le s.2.2.2.2.2.2.1 (i + 1)
    have h2 : (s.2.2.2.2.2.2.1.take (i + 1)).flatten = (s.2.2.2.2.2.2.1.take i).flatten ++ s.2.2.2.2.2.2.1[i] := by
      rw [List.take_succ_eq_append_getElem hi, List.flatten_append]; simp
    rw [h2, List.length_append] at h1
    unfold F.impl_counts.s3
    simp only
    rw [lt_len hi, inb_nat hi, Int.toNat_natCast, w64_nat (by omega), getD_at hi, fits_of (by simp only [List.length_append]; omega), h2]
    simp only [cond_true, chk_true, List.append_assoc]) (l := .exit ((s.2.2.2.2.1 ++ s.2.2.2.2.2.1) ++ s.2.2.2.2.2.2.1.flatten, s.2.2.2.2.2.2.1, len s.2.2.2.2.2.2.1, ((s.2.2.2.2.2.2.1.length : Nat) : Int), ())) (y := .inl ((s.2.2.2.2.1 ++ s.2.2.2.2.2.1) ++ s.2.2.2.2.2.2.1.flatten, s.2.2.2.2.2.2.1, len s.2.2.2.2.2.2.1, ((s.2.2.2.2.2.2.1.length : Nat) : Int), ())) (by
    unfold F.impl_counts.s3
    simp only [ge_len, cond_false, List.take_length]) rfl
  have e0 : (s.2.2.2.2.1 ++ s.2.2.2.2.2.1) ++ (s.2.2.2.2.2.2.1.take 0).flatten = s.2.2.2.2.1 ++ s.2.2.2.2.2.1 := by simp
  have hl : loopO F.impl_counts.s3 ((s.2.2.2.2.1 ++ s.2.2.2.2.2.1) ++ (s.2.2.2.2.2.2.1.take 0).flatten, s.2.2.2.2.2.2.1, len s.2.2.2.2.2.2.1, 0, ()) = _ := hl
  rw [e0] at hl
  simp only [hl, afterO]
theorem sum_loop (l : List Int) (s : DSketch) (h : l.length ≤ 1048576) : loopO F.impl_SketchOk.s5 (0, l, len l, 0, s, ()) = some (bif l.all (inR 0 1000000000) then .inl (l.sum, l, len l, ((l.length : Nat) : Int), s, ()) else .inr false) := by
  obtain ⟨h1, _⟩ := loop_l (step := F.impl_SketchOk.s5) l (fun i acc => (acc, l, len l, (i : Int), s, ())) (fun _ acc x => bif inR 0 1000000000 x then .inl (acc + x) else .inr false) (fun i acc => 0 ≤ acc ∧ acc ≤ (i : Int) * 1000000000) (fun i acc hi hp => by
    unfold F.impl_SketchOk.s5
    simp only
    rw [lt_len hi, inb_nat hi, Int.toNat_natCast, w64_nat (by omega), getD_at hi, within_eq]
    simp only [cond_true, chk_true, Option.bind_some]
    cases hx : inR 0 1000000000 l[i] with
    | false => exact ⟨rfl, fun s' e => by cases e⟩
    | true =>
      have hb := inR_iff.1 hx
      rw [w64_id (x := acc + l[i]) (by omega) (by omega)]
      refine ⟨rfl, fun s' e => ?_⟩
      cases e
      refine ⟨by omega, ?_⟩
      rw [show ((i + 1 : Nat) : Int) * 1000000000 = (i : Int) * 1000000000 + 1000000000 by omega]
      omega) (fun acc _ => by
    unfold F.impl_SketchOk.s5
    simp only [ge_len, cond_false]) (s := 0) ⟨Int.le_refl 0, by omega⟩
  refine h1.trans (congrArg some ?_)
  have key : ∀ (m : List Int) (i : Nat) (acc : Int), Sum.map (fun acc => (acc, l, len l, ((l.length : Nat) : Int), s, ())) id (runL (fun _ acc x => bif inR 0 1000000000 x then (.inl (acc + x) : Int ⊕ Bool) else .inr false) i m acc) = bif m.all (inR 0 1000000000) then .inl (acc + m.sum, l, len l, ((l.length : Nat) : Int), s, ()) else .inr false := by
    intro m
    induction m with
    | nil => intro i acc; simp [runL]
    | cons x m ih =>
      intro i acc
      simp only [runL, List.all_cons]
      cases inR 0 1000000000 x with
      | false => rfl
      | true =>
        simp only [cond_true, ih, Bool.true_and, List.sum_cons, Int.add_assoc]
  rw [key l 0 0, Int.zero_add]
theorem max_loop (l : List Int) (n : Int) (s : DSketch) (h : l.length ≤ 1048576) : loopO F.impl_SketchOk.s12 (n, l, len l, 0, s, ()) = some (bif l.all (fun x => !decide (x > 17)) then .inl (n, l, len l, ((l.length : Nat) : Int), s, ()) else .inr false) :=
  loop_all (step := F.impl_SketchOk.s12) l (fun i => (n, l, len l, (i : Int), s, ())) (fun x => !decide (x > 17)) false (fun i hi => by
    unfold F.impl_SketchOk.s12
    simp only
    rw [lt_len hi, inb_nat hi, Int.toNat_natCast, w64_nat (by omega), getD_at hi]
    simp only [cond_true, chk_true]
    cases decide (l[i] > 17) <;> rfl) (by
    unfold F.impl_SketchOk.s12
    simp only [ge_len, cond_false])
theorem sum_zero : ∀ {l : List Int}, (∀ x ∈ l, 0 ≤ x) → (0 ≤ l.sum ∧ (l.sum = 0 ↔ ∀ x ∈ l, x = 0))
  | [], _ => ⟨Int.le_refl 0, by simp⟩
  | x :: l, h => by
    obtain ⟨h1, h2⟩ := sum_zero (l := l) (fun y hy => h y (by simp [hy]))
    have h3 := h x (by simp)
    rw [List.sum_cons]
    refine ⟨by omega, ⟨fun e y hy => ?_, fun e => ?_⟩⟩
    · rcases List.mem_cons.1 hy with rfl | hy
      · omega
      · exact h2.1 (by omega) y hy
    · have := h2.2 (fun y hy => e y (by simp [hy]))
      have := e x (by simp)
      omega
def implB (c su mn mx : Int) (hi re r0 r1 : List Int) : Bool :=
  (((hi ++ re) ++ [r0, r1].flatten) ++ [c, su, mn, mx]).all (inR 0 1000000000) && (re.all (fun x => !decide (x > 17)) && (if c = 0 then (((hi ++ re) ++ [r0, r1].flatten) ++ [c, su, mn, mx]).sum == 0 else decide (mn ≤ mx) && decide (mx ≤ 1000000)))
theorem implSk_eq (c su mn mx : Int) (hi re r0 r1 : List Int) (u : Unit) (h : zSketch (c, su, mn, mx, hi, re, [r0, r1], u) ≤ 1048576) (h1 : hi.length = 8) (h2 : re.length = 8) (h3 : r0.length = 4) (h4 : r1.length = 4) : F.impl_SketchOk (c, su, mn, mx, hi, re, [r0, r1], u) = some (implB c su mn mx hi re r0 r1) := by
  unfold F.impl_SketchOk implB
  have hc := counts_eq (c, su, mn, mx, hi, re, [r0, r1], u) h
  simp only at hc
  have e1 : (len hi != 8) = false := by simp [len, h1]
  have e2 : (len re != 8) = false := by simp [len, h2]
  have e3 : (len [r0, r1] != 2) = false := rfl
  have e4 : (len r0 != 4) = false := by simp [len, h3]
  have e5 : (len r1 != 4) = false := by simp [len, h4]
  have i0 : inb 0 [r0, r1].length = true := rfl
  have i1 : inb 1 [r0, r1].length = true := rfl
  simp only [e1, e2, e3, i0, i1, chk_true, List.getD_cons_zero, List.getD_cons_succ, e4, e5, cond_false, hc, Option.bind_some]
  have hn : (((hi ++ re) ++ [r0, r1].flatten) ++ [c, su, mn, mx]).length = 28 := by simp [h1, h2, h3, h4]
  have hn2 : ((hi ++ re) ++ [r0, r1].flatten).length = 24 := by simp [h1, h2, h3, h4]
  rw [fits_of (by rw [hn2]; simp), chk_true, sum_loop _ _ (by rw [hn]; omega)]
  generalize ((hi ++ re) ++ [r0, r1].flatten) ++ [c, su, mn, mx] = nums at *
  cases nums.all (inR 0 1000000000) with
  | false => rfl
  | true =>
    simp only [cond_true, afterO, Bool.true_and]
    rw [max_loop _ _ _ (by omega)]
    cases re.all (fun x => !decide (x > 17)) with
    | false => rfl
    | true =>
      simp only [cond_true, Bool.true_and]
      by_cases hc0 : c = 0
      · rw [if_pos hc0, show (c == 0) = true by simp [hc0]]; rfl
      · rw [if_neg hc0, show (c == 0) = false by simp [hc0]]
        simp only [cond_false]
        cases decide (mn ≤ mx) <;> rfl
theorem implB_iff {c su mn mx : Int} {hi re r0 r1 : List Int} {u : Unit} (h1 : hi.length = 8) (h2 : re.length = 8) (h3 : r0.length = 4) (h4 : r1.length = 4) : implB c su mn mx hi re r0 r1 = true ↔ SkR (c, su, mn, mx, hi, re, [r0, r1], u) := by
  unfold implB
  have hall : (((hi ++ re) ++ [r0, r1].flatten) ++ [c, su, mn, mx]).all (inR 0 1000000000) = true ↔ ∀ x ∈ ((hi ++ re) ++ [r0, r1].flatten) ++ [c, su, mn, mx], 0 ≤ x ∧ x ≤ 1000000000 := by
    rw [List.all_eq_true]
    exact ⟨fun h x hx => inR_iff.1 (h x hx), fun h x hx => inR_iff.2 (h x hx)⟩
  have hmem : ∀ x, x ∈ ((hi ++ re) ++ [r0, r1].flatten) ++ [c, su, mn, mx] ↔ (x ∈ hi ∨ x ∈ re ∨ x ∈ r0 ∨ x ∈ r1 ∨ x = c ∨ x = su ∨ x = mn ∨ x = mx) := by
    intro x; simp
  have h17 : re.all (fun x => !decide (x > 17)) = true ↔ ∀ x ∈ re, x ≤ 17 := by
    rw [List.all_eq_true]
    refine ⟨fun h x hx => ?_, fun h x hx => ?_⟩
    · have := h x hx; simp at this; omega
    · have := h x hx; simp; omega
  rw [Bool.and_eq_true, Bool.and_eq_true, hall, h17]
  constructor
  · rintro ⟨a1, a2, a3⟩
    have q : ∀ x, (x ∈ hi ∨ x ∈ re ∨ x ∈ r0 ∨ x ∈ r1 ∨ x = c ∨ x = su ∨ x = mn ∨ x = mx) → 0 ≤ x ∧ x ≤ 1000000000 := fun x hx => a1 x ((hmem x).2 hx)
    have qc := q c (by simp)
    have qs := q su (by simp)
    have qn := q mn (by simp)
    have qx := q mx (by simp)
    by_cases hc : c = 0
    · rw [if_pos hc, beq_iff_eq] at a3
      have hz := (sum_zero (fun x hx => (a1 x hx).1)).2.1 a3
      have z : ∀ x, (x ∈ hi ∨ x ∈ re ∨ x ∈ r0 ∨ x ∈ r1 ∨ x = c ∨ x = su ∨ x = mn ∨ x = mx) → x = 0 := fun x hx => hz x ((hmem x).2 hx)
      have zs := z su (by simp)
      have zn := z mn (by simp)
      have zx := z mx (by simp)
      exact ⟨qc, qs, by simp only; omega, by simp only; omega, by simp only; omega, fun _ => ⟨zs, zx⟩, ⟨h1, fun x hx => ⟨q x (.inl hx), fun _ => z x (.inl hx)⟩⟩, ⟨h2, fun x hx => ⟨⟨(q x (.inr (.inl hx))).1, a2 x hx⟩, fun _ => z x (.inr (.inl hx))⟩⟩,
        r0, r1, rfl, ⟨h3, fun x hx => ⟨q x (by simp [hx]), fun _ => z x (by simp [hx])⟩⟩, ⟨h4, fun x hx => ⟨q x (by simp [hx]), fun _ => z x (by simp [hx])⟩⟩⟩
    · rw [if_neg hc, Bool.and_eq_true, decide_eq_true_eq, decide_eq_true_eq] at a3
      exact ⟨qc, qs, qn.1, a3.1, a3.2, fun h => absurd h hc, ⟨h1, fun x hx => ⟨q x (.inl hx), fun h => absurd h hc⟩⟩, ⟨h2, fun x hx => ⟨⟨(q x (.inr (.inl hx))).1, a2 x hx⟩, fun h => absurd h hc⟩⟩,
        r0, r1, rfl, ⟨h3, fun x hx => ⟨q x (by simp [hx]), fun h => absurd h hc⟩⟩, ⟨h4, fun x hx => ⟨q x (by simp [hx]), fun h => absurd h hc⟩⟩⟩
  · rintro ⟨b1, b2, b3, b4, b5, b6, b7, b8, s0, s1, hs, b9, b10⟩
    cases hs
    simp only at b1 b2 b3 b4 b5 b6 b7 b8 b9 b10
    refine ⟨fun x hx => ?_, fun x hx => (b8.2 x hx).1.2, ?_⟩
    · rcases (hmem x).1 hx with h | h | h | h | h | h | h | h
      · exact (b7.2 x h).1
      · have := (b8.2 x h).1; omega
      · exact (b9.2 x h).1
      · exact (b10.2 x h).1
      all_goals omega
    · by_cases hc : c = 0
      · rw [if_pos hc, beq_iff_eq]
        obtain ⟨z1, z2⟩ := b6 hc
        have hz : ∀ x ∈ ((hi ++ re) ++ [r0, r1].flatten) ++ [c, su, mn, mx], x = 0 := fun x hx => by
          rcases (hmem x).1 hx with h | h | h | h | h | h | h | h
          · exact (b7.2 x h).2 hc
          · exact (b8.2 x h).2 hc
          · exact (b9.2 x h).2 hc
          · exact (b10.2 x h).2 hc
          all_goals omega
        exact (sum_zero (fun x hx => by rw [hz x hx]; exact Int.le_refl 0)).2.2 hz
      · rw [if_neg hc, Bool.and_eq_true, decide_eq_true_eq, decide_eq_true_eq]
        exact ⟨b4, b5⟩
theorem skOk_same (s : DSketch) (h : zSketch s ≤ 1048576) : ∃ b, F.spec_SketchOk s = some b ∧ F.impl_SketchOk s = some b ∧ (b = true ↔ SkR s) := by
  obtain ⟨c, su, mn, mx, hi, re, ro, u⟩ := s
  have hz : hi.length + re.length + (ro.length + (ro.map List.length).sum) ≤ 1048576 := h
  by_cases hr : ro.length = 2
  · obtain ⟨r0, r1, rfl⟩ := two_rows hr
    simp only [List.map_cons, List.map_nil, List.sum_cons, List.sum_nil] at hz
    have hsp := specSk_eq c su mn mx hi re r0 r1 u (by omega) (by omega) (by omega) (by omega)
    by_cases hl : hi.length = 8 ∧ re.length = 8 ∧ r0.length = 4 ∧ r1.length = 4
    · obtain ⟨h1, h2, h3, h4⟩ := hl
      have him := implSk_eq c su mn mx hi re r0 r1 u h h1 h2 h3 h4
      have e : implB c su mn mx hi re r0 r1 = specB c su mn mx hi re r0 r1 := by
        rw [Bool.eq_iff_iff, implB_iff (u := u) h1 h2 h3 h4, specB_iff]
      exact ⟨_, hsp, him.trans (congrArg some e), specB_iff⟩
    · have hb : specB c su mn mx hi re r0 r1 = false := by
        cases hb : specB c su mn mx hi re r0 r1 with
        | false => rfl
        | true =>
          obtain ⟨_, _, _, _, _, _, b7, b8, s0, s1, hs, b9, b10⟩ := (specB_iff (u := u)).1 hb
          cases hs
          exact absurd ⟨b7.1, b8.1, b9.1, b10.1⟩ hl
      refine ⟨false, hsp.trans (congrArg some hb), ?_, ?_⟩
      · unfold F.impl_SketchOk
        have e3 : (len [r0, r1] != 2) = false := rfl
        have i0 : inb 0 [r0, r1].length = true := rfl
        have i1 : inb 1 [r0, r1].length = true := rfl
        simp only [e3, i0, i1, chk_true, List.getD_cons_zero, List.getD_cons_succ]
        by_cases h1 : hi.length = 8
        · rw [show (len hi != 8) = false by simp [len, h1]]
          by_cases h2 : re.length = 8
          · rw [show (len re != 8) = false by simp [len, h2]]
            by_cases h3 : r0.length = 4
            · rw [show (len r0 != 4) = false by simp [len, h3]]
              have h4 : r1.length ≠ 4 := fun h4 => hl ⟨h1, h2, h3, h4⟩
              rw [show (len r1 != 4) = true by simp only [len, bne_iff_ne, ne_eq]; omega]; rfl
            · rw [show (len r0 != 4) = true by simp only [len, bne_iff_ne, ne_eq]; omega]; rfl
          · rw [show (len re != 8) = true by simp only [len, bne_iff_ne, ne_eq]; omega]; rfl
        · rw [show (len hi != 8) = true by simp only [len, bne_iff_ne, ne_eq]; omega]; rfl
      · rw [← hb]; exact specB_iff
  · refine ⟨false, ?_, ?_, ⟨fun h => (by cases h), fun hs => ?_⟩⟩
    · unfold F.spec_SketchOk
      simp only [l1In_eq, Option.bind_some]
      rw [show (len ro != 2) = true by simp only [len, bne_iff_ne, ne_eq]; omega]
      cases inR 0 1000000000 c <;> cases inR 0 1000000000 su <;> cases inR 0 1000000 mn <;> cases inR 0 1000000 mx <;> cases decide (mn > mx) <;> rfl
    · unfold F.impl_SketchOk
      simp only
      rw [show (len ro != 2) = true by simp only [len, bne_iff_ne, ne_eq]; omega]
      cases (len hi != 8) <;> cases (len re != 8) <;> rfl
    · obtain ⟨r0, r1, hr', _⟩ := hs.rows
      have hr' : ro = [r0, r1] := hr'
      exact absurd (by rw [hr']; rfl) hr
def zItem (a : DItem) : Nat := zSketch a.2.2.2.2.1
def fItem (a : DItem) : Prop := fSketch a.2.2.2.2.1
structure ItR (x : DItem) : Prop where
  seq : 1 ≤ x.1 ∧ x.1 ≤ 60
  cls : 0 ≤ x.2.1 ∧ x.2.1 ≤ 1
  key : 0 ≤ x.2.2.1 ∧ x.2.2.1 ≤ 4
  win : 0 ≤ x.2.2.2.1 ∧ x.2.2.2.1 ≤ 20
  sk : SkR x.2.2.2.2.1
theorem l6Place_eq (k w : Int) : F.spec_l6Place k w = some (inR 0 4 k && inR 0 20 w) := by
  unfold F.spec_l6Place
  simp only [l1In_eq, Option.bind_some]
  cases inR 0 4 k <;> rfl
theorem itOk_same (x : DItem) (h : zItem x ≤ 1048576) : ∃ b, F.spec_ItemOk x = some b ∧ F.impl_ItemOk x = some b ∧ (b = true ↔ ItR x) := by
  obtain ⟨b, hs, hi, hb⟩ := skOk_same x.2.2.2.2.1 h
  unfold F.spec_ItemOk F.impl_ItemOk
  simp only [l1In_eq, within_eq, l6Place_eq, hs, hi, Option.bind_some]
  cases h1 : inR 1 60 x.1 with
  | false => exact ⟨false, rfl, rfl, fun e => (by cases e), fun e => by rw [inR_iff.2 e.seq] at h1; cases h1⟩
  | true => cases h2 : inR 0 1 x.2.1 with
    | false => exact ⟨false, rfl, rfl, fun e => (by cases e), fun e => by rw [inR_iff.2 e.cls] at h2; cases h2⟩
    | true => cases h3 : inR 0 4 x.2.2.1 with
      | false => exact ⟨false, rfl, rfl, fun e => (by cases e), fun e => by rw [inR_iff.2 e.key] at h3; cases h3⟩
      | true => cases h4 : inR 0 20 x.2.2.2.1 with
        | false => exact ⟨false, rfl, rfl, fun e => (by cases e), fun e => by rw [inR_iff.2 e.win] at h4; cases h4⟩
        | true => exact ⟨b, rfl, rfl, fun e => ⟨inR_iff.1 h1, inR_iff.1 h2, inR_iff.1 h3, inR_iff.1 h4, hb.1 e⟩, fun e => hb.2 e.sk⟩
open Classical in
noncomputable def decB (p : Prop) : Bool := decide p
theorem decB_iff {p : Prop} : decB p = true ↔ p := by simp [decB]
theorem decB_pos {p : Prop} (h : p) : decB p = true := decB_iff.2 h
theorem decB_neg {p : Prop} (h : ¬ p) : decB p = false := by simp [decB, h]
theorem decB_eq {p : Prop} {b : Bool} (h : b = true ↔ p) : b = decB p := by
  rw [Bool.eq_iff_iff, h, decB_iff]
theorem loop_allN {X A : Type} {step : X → Option (Lp X A)} (n : Nat) (mk : Nat → X) (c : Nat → Bool) (a : A)
    (h : ∀ i, i < n → (∀ j, j < i → c j = true) → step (mk i) = some (bif c i then .again (mk (i + 1)) else .ret a))
    (he : step (mk n) = some (.exit (mk n))) :
    loopO step (mk 0) = some (bif (List.range n).all c then .inl (mk n) else .inr a) := by
  obtain ⟨h1, _⟩ := loop_n (step := step) n (fun i (_ : Unit) => mk i) (fun i _ => bif c i then .inl () else .inr a) (fun i _ => ∀ j, j < i → c j = true) (fun i s hi hp => by
    refine ⟨?_, fun s' e j hj => ?_⟩
    · rw [h i hi hp]; cases c i <;> rfl
    · by_cases hji : j = i
      · subst hji
        cases hc : c j with
        | true => rfl
        | false => rw [hc] at e; cases e
      · exact hp j (by omega)) (fun _ _ => he) (s := ()) (fun j hj => by omega)
  rw [h1]
  have key : ∀ k i, Sum.map (fun (_ : Unit) => mk n) id (runN (fun i _ => bif c i then (.inl () : Unit ⊕ A) else .inr a) k i ()) = bif (List.range' i k).all c then .inl (mk n) else .inr a := by
    intro k
    induction k with
    | zero => intro i; rfl
    | succ k ih =>
      intro i
      simp only [runN, List.range'_succ, List.all_cons]
      cases c i with
      | false => rfl
      | true => exact ih (i + 1)
  rw [key n 0, List.range_eq_range']
theorem range_all {n : Nat} {c : Nat → Bool} : (List.range n).all c = true ↔ ∀ i, i < n → c i = true := by
  rw [List.all_eq_true]
  exact ⟨fun h i hi => h i (List.mem_range.2 hi), fun h i hi => h i (List.mem_range.1 hi)⟩
def zItemS (l : List DItem) : Nat := l.length + (l.map zItem).sum
def fItemS (l : List DItem) : Prop := l.length ≤ maxLen ∧ ∀ x ∈ l, fItem x
def zSpanS (l : List DSpan) : Nat := l.length
def fSpanS (l : List DSpan) : Prop := l.length ≤ maxLen
def zAgent (a : DAgent) : Nat := zItemS a.2.2.2.2.1 + zSpanS a.2.2.2.2.2.1
def fAgent (a : DAgent) : Prop := fItemS a.2.2.2.2.1 ∧ fSpanS a.2.2.2.2.2.1
structure AgR (a : DAgent) : Prop where
  id : 0 ≤ a.1 ∧ a.1 ≤ 2
  ep : 0 ≤ a.2.1 ∧ a.2.1 ≤ 1000
  gr : 0 ≤ a.2.2.2.1 ∧ a.2.2.2.1 ≤ 60
  few : a.2.2.2.2.1.length ≤ 60
  nx : 0 ≤ a.2.2.2.2.2.2.1 ∧ a.2.2.2.2.2.2.1 ≤ 60
  tk : Good a.2.2.2.2.2.1 ∧ Within a.2.2.2.2.2.1 (len a.2.2.2.2.1)
  lv : a.2.2.1 = true ∨ a.2.2.2.1 = 0
  its : ∀ (i : Nat) (h : i < a.2.2.2.2.1.length), ItR a.2.2.2.2.1[i] ∧ a.2.2.2.2.1[i].1 = (i : Int) + 1
theorem specIt_dec (x : DItem) (h : zItem x ≤ 1048576) : F.spec_ItemOk x = some (decB (ItR x)) := by
  obtain ⟨b, h1, _, h3⟩ := itOk_same x h
  rw [h1, decB_eq h3]
theorem implIt_dec (x : DItem) (h : zItem x ≤ 1048576) : F.impl_ItemOk x = some (decB (ItR x)) := by
  obtain ⟨b, _, h1, h3⟩ := itOk_same x h
  rw [h1, decB_eq h3]
noncomputable def itAt (l : List DItem) (i : Nat) : Bool := match l[i]? with
  | some x => decB (ItR x) && x.1 == (i : Int) + 1
  | none => true
theorem itAt_lt {l : List DItem} {i : Nat} (h : i < l.length) : itAt l i = (decB (ItR l[i]) && l[i].1 == (i : Int) + 1) := by
  unfold itAt
  rw [List.getElem?_eq_getElem h]
theorem zI_mem {l : List DItem} {e : DItem} {n : Nat} (h : zItemS l ≤ n) (he : e ∈ l) : zItem e ≤ n := by
  have := sum_mem (f := zItem) he
  unfold zItemS at h
  omega
structure AgZ (a : DAgent) : Prop where
  n : a.2.2.2.2.1.length ≤ 1048577
  it : ∀ e ∈ a.2.2.2.2.1, zItem e ≤ 1048576
  tk : a.2.2.2.2.2.1.length ≤ 1048576
theorem agZ_of {a : DAgent} (h : zAgent a ≤ 1048576) : AgZ a := by
  have hz : zItemS a.2.2.2.2.1 + a.2.2.2.2.2.1.length ≤ 1048576 := h
  exact ⟨by unfold zItemS at hz; omega, fun e he => zI_mem (n := 1048576) (by omega) he, by omega⟩
theorem specAg_loop (a : DAgent) (hl : AgZ a) : loopO F.spec_AgentOk.s4 (0, a, ()) = some (bif (List.range a.2.2.2.2.1.length).all (itAt a.2.2.2.2.1) then .inl ((a.2.2.2.2.1.length : Int), a, ()) else .inr false) := by
  have hlen := hl.n
  exact loop_allN (step := F.spec_AgentOk.s4) a.2.2.2.2.1.length (fun i => ((i : Int), a, ())) (itAt a.2.2.2.2.1) false (fun i hi hp => by
    unfold F.spec_AgentOk.s4
    simp only
    rw [lt_len hi, inb_nat hi, Int.toNat_natCast, w64_nat (by omega), getD_at hi, specIt_dec _ (hl.it _ (List.getElem_mem hi)), itAt_lt hi]
    simp only [cond_true, chk_true, Option.bind_some]
    cases decB (ItR a.2.2.2.2.1[i]) with
    | false => rfl
    | true =>
      rw [show (((i + 1 : Nat) : Int)) = (i : Int) + 1 from rfl]
      cases hb : (a.2.2.2.2.1[i].1 == (i : Int) + 1) <;> simp [bne, hb]) (by
    unfold F.spec_AgentOk.s4
    simp only [ge_len, cond_false])
theorem implAg_loop (a : DAgent) (hl : AgZ a) : loopO F.impl_AgentOk.s4 (a.2.2.2.2.1, len a.2.2.2.2.1, 0, a, ()) = some (bif (List.range a.2.2.2.2.1.length).all (itAt a.2.2.2.2.1) then .inl (a.2.2.2.2.1, len a.2.2.2.2.1, (a.2.2.2.2.1.length : Int), a, ()) else .inr false) := by
  have hlen := hl.n
  exact loop_allN (step := F.impl_AgentOk.s4) a.2.2.2.2.1.length (fun i => (a.2.2.2.2.1, len a.2.2.2.2.1, (i : Int), a, ())) (itAt a.2.2.2.2.1) false (fun i hi hp => by
    unfold F.impl_AgentOk.s4
    simp only
    rw [lt_len hi, inb_nat hi, Int.toNat_natCast, w64_nat (by omega), getD_at hi, implIt_dec _ (hl.it _ (List.getElem_mem hi)), itAt_lt hi]
    simp only [cond_true, chk_true, Option.bind_some]
    cases decB (ItR a.2.2.2.2.1[i]) with
    | false => rfl
    | true =>
      rw [show (((i + 1 : Nat) : Int)) = (i : Int) + 1 from rfl]
      cases hb : (a.2.2.2.2.1[i].1 == (i : Int) + 1) <;> simp [bne, hb]) (by
    unfold F.impl_AgentOk.s4
    simp only [ge_len, cond_false])
theorem allIn_dec (a : List Sp) (n : Int) (h : a.length ≤ 1048576) : F.spec_l8Below a n = some (decB (Good a ∧ Within a n)) ∧ F.impl_allIn a 1 n = some (decB (Good a ∧ Within a n)) := by
  obtain ⟨b, h1, h2, h3⟩ := allIn_iff a n h
  rw [h1, h2, decB_eq h3]
  exact ⟨rfl, rfl⟩
noncomputable def agB (a : DAgent) : Bool := inR 0 2 a.1 && (inR 0 1000 a.2.1 && (inR 0 60 a.2.2.2.1 && (!decide (len a.2.2.2.2.1 > 60) && (inR 0 60 a.2.2.2.2.2.2.1 && (decB (Good a.2.2.2.2.2.1 ∧ Within a.2.2.2.2.2.1 (len a.2.2.2.2.1)) && ((a.2.2.1 || a.2.2.2.1 == 0) && (List.range a.2.2.2.2.1.length).all (itAt a.2.2.2.2.1)))))))
theorem agB_eq (a : DAgent) : agB a = decB (AgR a) := by
  refine decB_eq ?_
  unfold agB
  simp only [Bool.and_eq_true, inR_iff, decB_iff, Bool.or_eq_true, beq_iff_eq, range_all, Bool.not_eq_true', decide_eq_false_iff_not]
  constructor
  · rintro ⟨a1, a2, a3, a4, a5, a6, a7, a8⟩
    refine ⟨a1, a2, a3, ?_, a5, a6, a7, fun i hi => ?_⟩
    · simp only [len] at a4; omega
    · have := a8 i hi
      rw [itAt_lt hi, Bool.and_eq_true, decB_iff, beq_iff_eq] at this
      exact this
  · rintro ⟨a1, a2, a3, a4, a5, a6, a7, a8⟩
    refine ⟨a1, a2, a3, ?_, a5, a6, a7, fun i hi => ?_⟩
    · simp only [len]; omega
    · rw [itAt_lt hi, Bool.and_eq_true, decB_iff, beq_iff_eq]
      exact a8 i hi
theorem specAg_decZ (a : DAgent) (h : AgZ a) : F.spec_AgentOk a = some (decB (AgR a)) := by
  rw [← agB_eq]
  unfold F.spec_AgentOk F.spec_l6Agent agB
  simp only [l1In_eq, (allIn_dec _ _ h.tk).1, specAg_loop a h, Option.bind_some]
  cases inR 0 2 a.1 with
  | false => rfl
  | true => cases inR 0 1000 a.2.1 with
    | false => rfl
    | true => cases h3 : inR 0 60 a.2.2.2.1 with
      | false => rfl
      | true => cases decide (len a.2.2.2.2.1 > 60) with
        | true => rfl
        | false => cases inR 0 60 a.2.2.2.2.2.2.1 with
          | false => rfl
          | true => cases decB (Good a.2.2.2.2.2.1 ∧ Within a.2.2.2.2.2.1 (len a.2.2.2.2.1)) with
            | false => rfl
            | true =>
              have hg := inR_iff.1 h3
              cases a.2.2.1 with
              | true => cases (List.range a.2.2.2.2.1.length).all (itAt a.2.2.2.2.1) <;> rfl
              | false =>
                by_cases h0 : a.2.2.2.1 = 0
                · rw [show decide (a.2.2.2.1 > 0) = false from decide_eq_false (by omega), show (a.2.2.2.1 == 0) = true by simp [h0]]
                  cases (List.range a.2.2.2.2.1.length).all (itAt a.2.2.2.2.1) <;> rfl
                · rw [show decide (a.2.2.2.1 > 0) = true from decide_eq_true (by omega), show (a.2.2.2.1 == 0) = false by simp [h0]]; rfl
theorem implAg_decZ (a : DAgent) (h : AgZ a) : F.impl_AgentOk a = some (decB (AgR a)) := by
  rw [← agB_eq]
  unfold F.impl_AgentOk agB
  simp only [within_eq, implAg_loop a h, Option.bind_some]
  cases inR 0 2 a.1 with
  | false => rfl
  | true => cases inR 0 1000 a.2.1 with
    | false => rfl
    | true => cases inR 0 60 a.2.2.2.1 with
      | false => rfl
      | true => cases decide (len a.2.2.2.2.1 > 60) with
        | true => rfl
        | false => cases inR 0 60 a.2.2.2.2.2.2.1 with
          | false => rfl
          | true =>
            cases (List.range a.2.2.2.2.1.length).all (itAt a.2.2.2.2.1) with
            | false =>
              simp only [Bool.and_false]
              rfl
            | true =>
              simp only [Bool.not_true, cond_false, cond_true, afterO, (allIn_dec _ _ h.tk).2, Option.bind_some]
              cases decB (Good a.2.2.2.2.2.1 ∧ Within a.2.2.2.2.2.1 (len a.2.2.2.2.1)) <;> cases a.2.2.1 <;> cases (a.2.2.2.1 == 0) <;> rfl
theorem specAg_dec (a : DAgent) (h : zAgent a ≤ 1048576) : F.spec_AgentOk a = some (decB (AgR a)) := specAg_decZ a (agZ_of h)
theorem implAg_dec (a : DAgent) (h : zAgent a ≤ 1048576) : F.impl_AgentOk a = some (decB (AgR a)) := implAg_decZ a (agZ_of h)
def accS (a : List Sp) : Nat → Int
  | 0 => 0
  | i + 1 => w64 (w64 (w64 (accS a i + (List.getD a i (0, 0, ())).2.1) - (List.getD a i (0, 0, ())).1) + 1)
theorem l5Copy_eq (a : List DSpan) (h : a.length ≤ 1048576) : F.spec_l5Copy a = some a := by
  unfold F.spec_l5Copy
  rw [fits_of (by simp; omega)]; rfl
theorem copySet_eq (a : List DSpan) (h : a.length ≤ 1048576) : F.impl_copySet a = some a := by
  unfold F.impl_copySet
  rw [fits_of (by omega)]; rfl
theorem take_snoc {α : Type} {l : List α} {i : Nat} (h : i < l.length) : l.take i ++ [l[i]] = l.take (i + 1) := by
  rw [List.take_add_one, List.getElem?_eq_getElem h]; rfl
theorem zIS_mem {l : List (List Int)} {e : List Int} {n : Nat} (h : zIntSS l ≤ n) (he : e ∈ l) : e.length ≤ n := by
  have := sum_mem (f := zIntS) he
  unfold zIntSS at h
  unfold zIntS at this
  unfold zIntS at h
  omega
theorem copyInts_eq (a : List Int) (h : a.length ≤ 1048576) : F.impl_copyInts a = some a := by
  unfold F.impl_copyInts
  rw [fits_of (by omega)]; rfl
theorem l3Copy_eq (s : DSketch) (h : zSketch s ≤ 1048576) : F.spec_l3Copy s = some s := by
  obtain ⟨a, b, c, d, hi, re, rs, u⟩ := s
  have hz : zIntS hi + zIntS re + zIntSS rs ≤ 1048576 := h
  have h1 : hi.length ≤ 1048576 := by unfold zIntS at hz; omega
  have h2 : re.length ≤ 1048576 := by unfold zIntS at hz; omega
  have h3 : rs.length ≤ 1048576 := by unfold zIntSS at hz; omega
  unfold F.spec_l3Copy
  simp only [List.nil_append, List.length_nil]
  rw [fits_of (by omega), fits_of (by omega)]
  simp only [chk_true]
  have hh := loop_run (step := F.spec_l3Copy.s6) (fun i => ((i : Int), (a, b, c, d, hi, re, rs, u), (0, 0, 0, 0, [], [], [], ()), (a, b, c, d, hi, re, rs.take i, u), ())) rs.length (fun i hi => by
    have he : rs[i].length ≤ 1048576 := zIS_mem (n := 1048576) (by omega) (List.getElem_mem hi)
    unfold F.spec_l3Copy.s6
    simp only [len]
    rw [show decide ((i : Int) < ((rs.length : Nat) : Int)) = true from decide_eq_true (by omega), inb_nat hi, Int.toNat_natCast, w64_nat (by omega), getD_at hi]
    simp only [cond_true, chk_true, List.nil_append, List.length_nil, List.length_take, List.length_cons]
    rw [fits_of (by omega), fits_of (by omega), take_snoc hi]; rfl) (l := .exit (((rs.length : Nat) : Int), (a, b, c, d, hi, re, rs, u), (0, 0, 0, 0, [], [], [], ()), (a, b, c, d, hi, re, rs.take rs.length, u), ())) (by
    unfold F.spec_l3Copy.s6
    simp only [len]
    rw [show decide (((rs.length : Nat) : Int) < ((rs.length : Nat) : Int)) = false from decide_eq_false (by omega)]; rfl) rfl
  refine (congrArg (fun z => afterO z _) hh).trans ?_
  simp only [afterO, List.take_length]
theorem copySketch_eq (s : DSketch) (h : zSketch s ≤ 1048576) : F.impl_copySketch s = some s := by
  obtain ⟨a, b, c, d, hi, re, rs, u⟩ := s
  have hz : zIntS hi + zIntS re + zIntSS rs ≤ 1048576 := h
  have h1 : hi.length ≤ 1048576 := by unfold zIntS at hz; omega
  have h2 : re.length ≤ 1048576 := by unfold zIntS at hz; omega
  have h3 : rs.length ≤ 1048576 := by unfold zIntSS at hz; omega
  unfold F.impl_copySketch
  rw [copyInts_eq _ h1, copyInts_eq _ h2]
  simp only [Option.bind_some]
  have hh := loop_run (step := F.impl_copySketch.s6) (fun i => (rs, len rs, (i : Int), (0, 0, 0, 0, [], [], [], ()), (a, b, c, d, hi, re, rs.take i, u), ())) rs.length (fun i hi => by
    have he : rs[i].length ≤ 1048576 := zIS_mem (n := 1048576) (by omega) (List.getElem_mem hi)
    unfold F.impl_copySketch.s6
    simp only [len]
    rw [show decide ((i : Int) < ((rs.length : Nat) : Int)) = true from decide_eq_true (by omega), inb_nat hi, Int.toNat_natCast, w64_nat (by omega), getD_at hi, copyInts_eq _ he]
    simp only [cond_true, chk_true, Option.bind_some, List.nil_append, List.length_nil, List.length_take, List.length_cons]
    rw [fits_of (by omega), take_snoc hi]; rfl) (l := .exit (rs, len rs, ((rs.length : Nat) : Int), (0, 0, 0, 0, [], [], [], ()), (a, b, c, d, hi, re, rs.take rs.length, u), ())) (by
    unfold F.impl_copySketch.s6
    simp only [len]
    rw [show decide (((rs.length : Nat) : Int) < ((rs.length : Nat) : Int)) = false from decide_eq_false (by omega)]; rfl) rfl
  refine (congrArg (fun z => afterO z _) hh).trans ?_
  simp only [afterO, List.take_length]
theorem l6Item_eq (x : DItem) (h : zItem x ≤ 1048576) : F.spec_l6Item x = some x := by
  unfold F.spec_l6Item
  rw [l3Copy_eq _ h]; rfl
theorem copyItem_eq (x : DItem) (h : zItem x ≤ 1048576) : F.impl_copyItem x = some x := by
  unfold F.impl_copyItem
  rw [copySketch_eq _ h]; rfl
theorem zItS_mem {l : List DItem} {e : DItem} {n : Nat} (h : zItemS l ≤ n) (he : e ∈ l) : zItem e ≤ n := by
  have := sum_mem (f := zItem) he
  unfold zItemS at h
  omega
theorem l8Copy_eq (s : DAgent) (h : zAgent s ≤ 1048576) : F.spec_l8Copy s = some s := by
  obtain ⟨a, b, c, d, rs, t, u⟩ := s
  have hz : zItemS rs + zSpanS t ≤ 1048576 := h
  have h3 : rs.length ≤ 1048576 := by unfold zItemS at hz; omega
  unfold F.spec_l8Copy
  rw [l5Copy_eq _ (by unfold zSpanS at hz; simp only; omega)]
  simp only [Option.bind_some]
  have hh := loop_run (step := F.spec_l8Copy.s5) (fun i => ((i : Int), (a, b, c, d, rs, t, u), (0, 0, false, 0, [], [], 0, ()), (a, b, c, d, rs.take i, t, u), ())) rs.length (fun i hi => by
    have he : zItem rs[i] ≤ 1048576 := zItS_mem (n := 1048576) (by omega) (List.getElem_mem hi)
    unfold F.spec_l8Copy.s5
    simp only [len]
    rw [show decide ((i : Int) < ((rs.length : Nat) : Int)) = true from decide_eq_true (by omega), inb_nat hi, Int.toNat_natCast, w64_nat (by omega), getD_at hi, l6Item_eq _ he]
    simp only [cond_true, chk_true, Option.bind_some, List.nil_append, List.length_nil, List.length_take, List.length_cons]
    rw [fits_of (by omega), take_snoc hi]; rfl) (l := .exit (((rs.length : Nat) : Int), (a, b, c, d, rs, t, u), (0, 0, false, 0, [], [], 0, ()), (a, b, c, d, rs.take rs.length, t, u), ())) (by
    unfold F.spec_l8Copy.s5
    simp only [len]
    rw [show decide (((rs.length : Nat) : Int) < ((rs.length : Nat) : Int)) = false from decide_eq_false (by omega)]; rfl) rfl
  refine (congrArg (fun z => afterO z _) hh).trans ?_
  simp only [afterO, List.take_length]
theorem copyAgent_eq (s : DAgent) (h : zAgent s ≤ 1048576) : F.impl_copyAgent s = some s := by
  obtain ⟨a, b, c, d, rs, t, u⟩ := s
  have hz : zItemS rs + zSpanS t ≤ 1048576 := h
  have h3 : rs.length ≤ 1048576 := by unfold zItemS at hz; omega
  unfold F.impl_copyAgent
  rw [copySet_eq _ (by unfold zSpanS at hz; simp only; omega)]
  simp only [Option.bind_some]
  have hh := loop_run (step := F.impl_copyAgent.s5) (fun i => (rs, len rs, (i : Int), (0, 0, false, 0, [], [], 0, ()), (a, b, c, d, rs.take i, t, u), ())) rs.length (fun i hi => by
    have he : zItem rs[i] ≤ 1048576 := zItS_mem (n := 1048576) (by omega) (List.getElem_mem hi)
    unfold F.impl_copyAgent.s5
    simp only [len]
    rw [show decide ((i : Int) < ((rs.length : Nat) : Int)) = true from decide_eq_true (by omega), inb_nat hi, Int.toNat_natCast, w64_nat (by omega), getD_at hi, copyItem_eq _ he]
    simp only [cond_true, chk_true, Option.bind_some, List.nil_append, List.length_nil, List.length_take, List.length_cons]
    rw [fits_of (by omega), take_snoc hi]; rfl) (l := .exit (rs, len rs, ((rs.length : Nat) : Int), (0, 0, false, 0, [], [], 0, ()), (a, b, c, d, rs.take rs.length, t, u), ())) (by
    unfold F.impl_copyAgent.s5
    simp only [len]
    rw [show decide (((rs.length : Nat) : Int) < ((rs.length : Nat) : Int)) = false from decide_eq_false (by omega)]; rfl) rfl
  refine (congrArg (fun z => afterO z _) hh).trans ?_
  simp only [afterO, List.take_length]
open Classical in
noncomputable def eqd {α : Type} (a b : α) : Bool := decide (a = b)
theorem eqd_true {α : Type} {a b : α} : eqd a b = true ↔ a = b := by simp [eqd]
theorem eqd_ne {α : Type} {a b : α} (h : a ≠ b) : eqd a b = false := by simp [eqd, h]
theorem zip_all {α : Type} : ∀ {a b : List α}, a.length = b.length → (a.zip b).all (fun q => eqd q.1 q.2) = eqd a b
  | [], [], _ => by simp [eqd]
  | x :: a, y :: b, h => by
    rw [List.zip_cons_cons, List.all_cons, zip_all (by simpa using h)]
    by_cases h1 : x = y <;> by_cases h2 : a = b <;> simp [eqd, h1, h2]
  | [], _ :: _, h => by simp at h
  | _ :: _, [], h => by simp at h
theorem loop_dec {X α : Type} {step : X → Option (Lp X Bool)} (a b : List α) (mk : Nat → X) (hl : a.length = b.length)
    (h : ∀ i (ha : i < a.length) (hb : i < b.length), step (mk i) = some (bif eqd a[i] b[i] then .again (mk (i + 1)) else .ret false))
    (he : step (mk a.length) = some (.exit (mk a.length))) :
    loopO step (mk 0) = some (bif eqd a b then .inl (mk a.length) else .inr false) := by
  have hz : (a.zip b).length = a.length := by rw [List.length_zip]; omega
  have := loop_all (step := step) (a.zip b) mk (fun q => eqd q.1 q.2) false (fun i hi => by
    rw [h i (by omega) (by omega), List.getElem_zip]) (by rw [hz]; exact he)
  rw [this, zip_all hl, hz]
theorem beq_dec {α : Type} [BEq α] [LawfulBEq α] (x y : α) : (x == y) = eqd x y := by by_cases h : x = y <;> simp [eqd, h]
theorem bne_dec (x y : Int) : (x != y) = !eqd x y := by by_cases h : x = y <;> simp [eqd, h, bne]
theorem slices_Equal_int_dec (a b : List Int) (h : a.length ≤ 1099511627776) : F.slices_Equal_int a b = some (eqd a b) := by
  unfold F.slices_Equal_int
  by_cases hl : a.length = b.length
  · rw [show (len a != len b) = false by simp only [len, hl, bne_self_eq_false]]
    have := loop_dec (step := F.slices_Equal_int.s4) a b (fun i => (a, b, len a, (i : Int), ())) hl (fun i ha hb => by
      unfold F.slices_Equal_int.s4
      simp only
      rw [lt_len ha, inb_nat ha, inb_nat hb, Int.toNat_natCast, w64_nat (by omega), getD_at ha, getD_at hb]
      simp only [cond_true, chk_true, bne_dec]
      generalize eqd a[i] b[i] = d
      cases d <;> rfl) (by
      unfold F.slices_Equal_int.s4
      simp only [ge_len, cond_false])
    simp only [cond_false]
    refine (congrArg (fun z => afterO z _) this).trans ?_
    cases eqd a b <;> rfl
  · rw [show (len a != len b) = true by simp only [len, bne_iff_ne, ne_eq]; omega, eqd_ne (fun e => hl (congrArg List.length e))]; rfl
theorem slices_EqualFunc_SSint__slices_Equal_int_dec (a b : List (List Int)) (h : a.length ≤ 1099511627776) (hs : ∀ x ∈ a, x.length ≤ 1099511627776) : F.slices_EqualFunc_SSint__slices_Equal_int a b () = some (eqd a b) := by
  unfold F.slices_EqualFunc_SSint__slices_Equal_int
  by_cases hl : a.length = b.length
  · rw [show (len a != len b) = false by simp only [len, hl, bne_self_eq_false]]
    have := loop_dec (step := F.slices_EqualFunc_SSint__slices_Equal_int.s4) a b (fun i => (b, (), a, len a, (i : Int), ())) hl (fun i ha hb => by
      unfold F.slices_EqualFunc_SSint__slices_Equal_int.s4
      simp only
      rw [lt_len ha, inb_nat ha, inb_nat hb, Int.toNat_natCast, w64_nat (by omega), getD_at ha, getD_at hb]
      simp only [cond_true, chk_true, slices_Equal_int_dec _ _ (hs _ (List.getElem_mem ha)), Option.bind_some]
      generalize eqd a[i] b[i] = d
      cases d <;> rfl) (by
      unfold F.slices_EqualFunc_SSint__slices_Equal_int.s4
      simp only [ge_len, cond_false])
    simp only [cond_false]
    refine (congrArg (fun z => afterO z _) this).trans ?_
    cases eqd a b <;> rfl
  · rw [show (len a != len b) = true by simp only [len, bne_iff_ne, ne_eq]; omega, eqd_ne (fun e => hl (congrArg List.length e))]; rfl
theorem impl_SketchSame_dec (a b : DSketch) (h : zSketch a ≤ 1099511627776) : F.impl_SketchSame a b = some (eqd a b) := by
  have hh : a.2.2.2.2.1.length ≤ 1099511627776 ∧ a.2.2.2.2.2.1.length ≤ 1099511627776 ∧ a.2.2.2.2.2.2.1.length ≤ 1099511627776 ∧ ∀ x ∈ a.2.2.2.2.2.2.1, x.length ≤ 1099511627776 := by
    unfold zSketch zIntS zIntSS at h
    exact ⟨by omega, by omega, by omega, fun x hx => by have := sum_mem (f := zIntS) hx; unfold zIntS at this; unfold zIntS at h; omega⟩
  obtain ⟨g1, g2, g3, g4⟩ := hh
  unfold F.impl_SketchSame
  simp only [beq_dec, slices_Equal_int_dec _ _ g1, slices_Equal_int_dec _ _ g2, slices_EqualFunc_SSint__slices_Equal_int_dec _ _ g3 g4, Option.bind_some]
  obtain ⟨a0, a1, a2, a3, a4, a5, a6, u⟩ := a
  obtain ⟨b0, b1, b2, b3, b4, b5, b6, v⟩ := b
  by_cases h0 : a0 = b0
  case neg => simp [eqd, h0]
  subst h0
  by_cases h1 : a1 = b1
  case neg => simp [eqd, h1]
  subst h1
  by_cases h2 : a2 = b2
  case neg => simp [eqd, h2]
  subst h2
  by_cases h3 : a3 = b3
  case neg => simp [eqd, h3]
  subst h3
  by_cases h4 : a4 = b4
  case neg => simp [eqd, h4]
  subst h4
  by_cases h5 : a5 = b5
  case neg => simp [eqd, h5]
  subst h5
  by_cases h6 : a6 = b6
  case neg => simp [eqd, h6]
  subst h6
  simp [eqd]
theorem impl_itemSame_dec (a b : DItem) (h : zItem a ≤ 1099511627776) : F.impl_itemSame a b = some (eqd a b) := by
  obtain ⟨a0, a1, a2, a3, a4, u⟩ := a
  obtain ⟨b0, b1, b2, b3, b4, v⟩ := b
  unfold F.impl_itemSame
  simp only [beq_dec, impl_SketchSame_dec _ _ h, Option.bind_some]
  by_cases h0 : a0 = b0
  case neg => simp [eqd, h0]
  subst h0
  by_cases h1 : a1 = b1
  case neg => simp [eqd, h1]
  subst h1
  by_cases h2 : a2 = b2
  case neg => simp [eqd, h2]
  subst h2
  by_cases h3 : a3 = b3
  case neg => simp [eqd, h3]
  subst h3
  by_cases h4 : a4 = b4
  case neg => simp [eqd, h4]
  subst h4
  simp [eqd]
def zFrame (a : DFrame) : Nat := zSpanS a.2.2.2.2.1 + zItem a.2.2.2.2.2.1
def fFrame (a : DFrame) : Prop := fSpanS a.2.2.2.2.1 ∧ fItem a.2.2.2.2.2.1
abbrev zeroItem : DItem := (0, 0, 0, 0, (0, 0, 0, 0, [], [], [], ()), ())
structure FrR (f : DFrame) : Prop where
  kind : 0 ≤ f.1 ∧ f.1 ≤ 3
  agent : 0 ≤ f.2.1 ∧ f.2.1 ≤ 2
  epoch : 0 ≤ f.2.2.1 ∧ f.2.2.1 ≤ 1000
  granted : 0 ≤ f.2.2.2.1 ∧ f.2.2.2.1 ≤ 60
  taken : Good f.2.2.2.2.1 ∧ Within f.2.2.2.2.1 60
  data : f.1 = 1 → ItR f.2.2.2.2.2.1
  none : f.1 ≠ 1 → f.2.2.2.2.2.1 = zeroItem
theorem l7Zero_eq (x : DItem) : F.spec_l7Zero x = some (eqd x zeroItem) := by
  obtain ⟨a, b, c, d, ⟨e, f, g, h, i, j, k, u⟩, v⟩ := x
  unfold F.spec_l7Zero
  have hl : ∀ {α : Type} (l : List α), (len l == 0) = eqd l [] := by
    intro α l
    cases l with
    | nil => simp [len, eqd]
    | cons x l => simp [len, eqd]; omega
  simp only [hl]
  simp only [beq_dec]
  by_cases h0 : a = 0
  case neg => simp [eqd, h0]
  by_cases h1 : b = 0
  case neg => simp [eqd, h0, h1]
  by_cases h2 : c = 0
  case neg => simp [eqd, h0, h1, h2]
  by_cases h3 : d = 0
  case neg => simp [eqd, h0, h1, h2, h3]
  by_cases h4 : e = 0
  case neg => simp [eqd, h0, h1, h2, h3, h4]
  by_cases h5 : f = 0
  case neg => simp [eqd, h0, h1, h2, h3, h4, h5]
  by_cases h6 : g = 0
  case neg => simp [eqd, h0, h1, h2, h3, h4, h5, h6]
  by_cases h7 : h = 0
  case neg => simp [eqd, h0, h1, h2, h3, h4, h5, h6, h7]
  by_cases h8 : i = []
  case neg => simp [eqd, h0, h1, h2, h3, h4, h5, h6, h7, h8]
  by_cases h9 : j = []
  case neg => simp [eqd, h0, h1, h2, h3, h4, h5, h6, h7, h8, h9]
  simp [eqd, h0, h1, h2, h3, h4, h5, h6, h7, h8, h9]
theorem frLoop (f : DFrame) (h : f.2.2.2.2.1.length ≤ 1048576) : ∃ y, loopO F.spec_FrameOk.s4 (0, f, ()) = some y ∧ ((y = .inl ((f.2.2.2.2.1.length : Int), f, ()) ∧ Within f.2.2.2.2.1 60) ∨ (y = .inr false ∧ ¬ Within f.2.2.2.2.1 60)) := by
  have hh := loop_all (step := F.spec_FrameOk.s4) f.2.2.2.2.1 (fun i => ((i : Int), f, ())) (fun x => !decide (x.1 < 1) && !decide (x.2.1 > 60)) false (fun i hi => by
    unfold F.spec_FrameOk.s4
    simp only
    rw [lt_len hi, inb_nat hi, Int.toNat_natCast, w64_nat (by omega), getD_at hi]
    simp only [cond_true, chk_true]
    cases decide (f.2.2.2.2.1[i].1 < 1) with
    | true => rfl
    | false => cases decide (f.2.2.2.2.1[i].2.1 > 60) <;> rfl) (by
    unfold F.spec_FrameOk.s4
    simp only [ge_len, cond_false])
  have hw : f.2.2.2.2.1.all (fun x => !decide (x.1 < 1) && !decide (x.2.1 > 60)) = true ↔ Within f.2.2.2.2.1 60 := by
    rw [List.all_eq_true]
    constructor
    · intro h i hi
      have := h _ (List.getElem_mem hi)
      simp at this; omega
    · intro h x hx
      obtain ⟨i, hi, rfl⟩ := List.getElem_of_mem hx
      have := h i hi
      simp; omega
  refine ⟨_, hh, ?_⟩
  cases hb : f.2.2.2.2.1.all (fun x => !decide (x.1 < 1) && !decide (x.2.1 > 60)) with
  | true => exact .inl ⟨rfl, hw.1 hb⟩
  | false => exact .inr ⟨rfl, fun e => by rw [hw.2 e] at hb; cases hb⟩
theorem frOk_same (f : DFrame) (h : zFrame f ≤ 1048576) : ∃ b, F.spec_FrameOk f = some b ∧ F.impl_FrameOk f = some b ∧ (b = true ↔ FrR f) := by
  have hz : f.2.2.2.2.1.length + zItem f.2.2.2.2.2.1 ≤ 1048576 := h
  obtain ⟨b, hs, hi, hb⟩ := itOk_same f.2.2.2.2.2.1 (by omega)
  obtain ⟨c, ha1, ha2, hc⟩ := allIn_iff f.2.2.2.2.1 60 (by omega)
  have hsame := impl_itemSame_dec f.2.2.2.2.2.1 zeroItem (by omega)
  obtain ⟨y, hy, hw⟩ := frLoop f (by omega)
  unfold F.spec_FrameOk F.impl_FrameOk F.spec_l6Agent
  simp only [l1In_eq, within_eq, ha2, hi, hsame, Option.bind_some, hy]
  cases h1 : inR 0 3 f.1 with
  | false => exact ⟨false, rfl, rfl, fun e => (by cases e), fun e => by rw [inR_iff.2 e.kind] at h1; cases h1⟩
  | true => cases h2 : inR 0 2 f.2.1 with
    | false => exact ⟨false, rfl, rfl, fun e => (by cases e), fun e => by rw [inR_iff.2 e.agent] at h2; cases h2⟩
    | true => cases h3 : inR 0 1000 f.2.2.1 with
      | false => exact ⟨false, rfl, rfl, fun e => (by cases e), fun e => by rw [inR_iff.2 e.epoch] at h3; cases h3⟩
      | true => cases h4 : inR 0 60 f.2.2.2.1 with
        | false => exact ⟨false, rfl, rfl, fun e => (by cases e), fun e => by rw [inR_iff.2 e.granted] at h4; cases h4⟩
        | true =>
          rcases specSet_ok f.2.2.2.2.1 (by omega) with ⟨e1, hg⟩ | ⟨e1, hg⟩
          · rcases hw with ⟨rfl, hw⟩ | ⟨rfl, hw⟩
            · have hc := hc.2 ⟨hg, hw⟩
              subst hc
              simp only [e1, Option.bind_some, Bool.not_true, cond_false, afterO]
              by_cases hk : f.1 = 1
              · rw [show (f.1 == 1) = true by simp [hk]]
                simp only [cond_true, hs, Option.bind_some]
                exact ⟨b, rfl, rfl, fun e => ⟨inR_iff.1 h1, inR_iff.1 h2, inR_iff.1 h3, inR_iff.1 h4, ⟨hg, hw⟩, fun _ => hb.1 e, fun e => absurd hk e⟩, fun e => hb.2 (e.data hk)⟩
              · rw [show (f.1 == 1) = false by simp [hk]]
                simp only [cond_false, l7Zero_eq, Option.bind_some]
                exact ⟨_, rfl, rfl, fun e => ⟨inR_iff.1 h1, inR_iff.1 h2, inR_iff.1 h3, inR_iff.1 h4, ⟨hg, hw⟩, fun e => absurd e hk, fun _ => eqd_true.1 e⟩, fun e => eqd_true.2 (e.none hk)⟩
            · have hc : c = false := by
                cases c with
                | false => rfl
                | true => exact absurd (hc.1 rfl).2 hw
              subst hc
              simp only [e1, Option.bind_some, Bool.not_true, cond_false, afterO]
              exact ⟨false, rfl, rfl, fun e => (by cases e), fun e => absurd e.taken.2 hw⟩
          · have hc : c = false := by
              cases c with
              | false => rfl
              | true => exact absurd (hc.1 rfl).1 hg
            subst hc
            simp only [e1]
            exact ⟨false, rfl, rfl, fun e => (by cases e), fun e => absurd e.taken.1 hg⟩
def okF : Int → List Sp → Prop
  | _, [] => True
  | lo, x :: l => lo ≤ x.1 ∧ x.1 ≤ x.2.1 ∧ x.2.1 ≤ 9999 ∧ okF (x.2.1 + 2) l
def memS (s : List Sp) (n : Int) : Prop := ∃ x ∈ s, x.1 ≤ n ∧ n ≤ x.2.1
theorem memS_nil {n : Int} : ¬ memS [] n := fun ⟨_, h, _⟩ => by cases h
theorem memS_cons {x : Sp} {l : List Sp} {n : Int} : memS (x :: l) n ↔ (x.1 ≤ n ∧ n ≤ x.2.1) ∨ memS l n := by
  constructor
  · rintro ⟨y, hy, h⟩
    rcases List.mem_cons.1 hy with rfl | hy
    · exact .inl h
    · exact .inr ⟨y, hy, h⟩
  · rintro (h | ⟨y, hy, h⟩)
    · exact ⟨x, by simp, h⟩
    · exact ⟨y, by simp [hy], h⟩
theorem memS_append {a b : List Sp} {n : Int} : memS (a ++ b) n ↔ memS a n ∨ memS b n := by
  constructor
  · rintro ⟨y, hy, h⟩
    rcases List.mem_append.1 hy with hy | hy
    · exact .inl ⟨y, hy, h⟩
    · exact .inr ⟨y, hy, h⟩
  · rintro (⟨y, hy, h⟩ | ⟨y, hy, h⟩)
    · exact ⟨y, by simp [hy], h⟩
    · exact ⟨y, by simp [hy], h⟩
theorem okF_lb : ∀ {s : List Sp} {lo n : Int}, okF lo s → memS s n → lo ≤ n ∧ n ≤ 9999
  | [], lo, n, _, h => absurd h memS_nil
  | x :: l, lo, n, ⟨h1, h2, h3, h4⟩, h => by
    rcases memS_cons.1 h with h | h
    · omega
    · have := okF_lb h4 h
      omega
theorem okF_mono : ∀ {s : List Sp} {lo lo' : Int}, lo' ≤ lo → okF lo s → okF lo' s
  | [], _, _, _, _ => trivial
  | x :: l, lo, lo', hl, ⟨h1, h2, h3, h4⟩ => ⟨by omega, h2, h3, h4⟩
theorem okF_all : ∀ {s : List Sp} {lo : Int}, okF lo s → ∀ x ∈ s, lo ≤ x.1 ∧ x.1 ≤ x.2.1 ∧ x.2.1 ≤ 9999
  | x :: l, lo, ⟨h1, h2, h3, h4⟩, y, hy => by
    rcases List.mem_cons.1 hy with rfl | hy
    · exact ⟨h1, h2, h3⟩
    · have := okF_all h4 y hy
      omega
theorem okF_ext : ∀ {s t : List Sp} {lo lo' : Int}, okF lo s → okF lo' t → (∀ n, memS s n ↔ memS t n) → s = t
  | [], [], _, _, _, _, _ => rfl
  | [], y :: t, lo, lo', _, ⟨h1, h2, _⟩, h => absurd ((h y.1).2 (memS_cons.2 (.inl ⟨Int.le_refl _, h2⟩))) memS_nil
  | x :: s, [], lo, lo', ⟨h1, h2, _⟩, _, h => absurd ((h x.1).1 (memS_cons.2 (.inl ⟨Int.le_refl _, h2⟩))) memS_nil
  | x :: s, y :: t, lo, lo', ⟨h1, h2, h3, h4⟩, ⟨g1, g2, g3, g4⟩, h => by
    have e1 : x.1 = y.1 := by
      have a1 := okF_lb (s := y :: t) (lo := y.1) ⟨Int.le_refl _, g2, g3, g4⟩ ((h x.1).1 (memS_cons.2 (.inl ⟨Int.le_refl _, h2⟩)))
      have a2 := okF_lb (s := x :: s) (lo := x.1) ⟨Int.le_refl _, h2, h3, h4⟩ ((h y.1).2 (memS_cons.2 (.inl ⟨Int.le_refl _, g2⟩)))
      omega
    have e2 : x.2.1 = y.2.1 := by
      rcases Int.lt_trichotomy x.2.1 y.2.1 with hlt | heq | hlt
      · rcases memS_cons.1 ((h (x.2.1 + 1)).2 (memS_cons.2 (.inl ⟨by omega, by omega⟩))) with a | a
        · omega
        · have := okF_lb h4 a; omega
      · exact heq
      · rcases memS_cons.1 ((h (y.2.1 + 1)).1 (memS_cons.2 (.inl ⟨by omega, by omega⟩))) with a | a
        · omega
        · have := okF_lb g4 a; omega
    have e3 : s = t := okF_ext h4 g4 (fun n => by
      constructor
      · intro a
        have := okF_lb h4 a
        rcases memS_cons.1 ((h n).1 (memS_cons.2 (.inr a))) with b | b
        · omega
        · exact b
      · intro a
        have := okF_lb g4 a
        rcases memS_cons.1 ((h n).2 (memS_cons.2 (.inr a))) with b | b
        · omega
        · exact b)
    obtain ⟨x1, x2, u⟩ := x
    obtain ⟨y1, y2, v⟩ := y
    simp only at e1 e2
    rw [e1, e2, e3]
theorem good_cons {x : Sp} {l : List Sp} : Good (x :: l) ↔ (0 ≤ x.1 ∧ x.1 ≤ x.2.1 ∧ x.2.1 ≤ 9999) ∧ Good l ∧ ∀ y ∈ l.head?, x.2.1 + 1 < y.1 := by
  constructor
  · intro h
    have h0 := h 0 (by simp)
    have a1 := inR_iff.1 h0.1
    have a2 := inR_iff.1 h0.2.1
    simp only [List.getElem_cons_zero] at a1 a2
    refine ⟨⟨a1.1, a2.1, a2.2⟩, fun i hi => ?_, fun y hy => ?_⟩
    · have hh := h (i + 1) (by simpa using hi)
      refine ⟨hh.1, hh.2.1, fun h0 => ?_⟩
      have := hh.2.2 (by omega)
      have e : (x :: l)[i + 1 - 1]'(by simp; omega) = l[i - 1]'(by omega) := by
        obtain ⟨j, rfl⟩ : ∃ j, i = j + 1 := ⟨i - 1, by omega⟩
        simp
      rw [e] at this
      simpa using this
    · cases l with
      | nil => cases hy
      | cons z l =>
        cases hy
        have := (h 1 (by simp)).2.2 (by omega)
        simp only [List.getElem_cons_succ, List.getElem_cons_zero, Nat.sub_self] at this
        omega
  · rintro ⟨⟨h1, h2, h3⟩, hg, hh⟩ i hi
    cases i with
    | zero => exact ⟨inR_iff.2 ⟨h1, by simp only [List.getElem_cons_zero]; omega⟩, inR_iff.2 ⟨h2, h3⟩, fun h0 => by omega⟩
    | succ i =>
      have hi' : i < l.length := by simpa using hi
      obtain ⟨g1, g2, g3⟩ := hg i hi'
      refine ⟨g1, g2, fun _ => ?_⟩
      cases i with
      | zero =>
        cases l with
        | nil => simp at hi'
        | cons z l =>
          have := hh z rfl
          simp only [List.getElem_cons_succ, List.getElem_cons_zero, Nat.add_sub_cancel]
          omega
      | succ j => exact g3 (by omega)
theorem good_ok : ∀ {s : List Sp}, Good s ↔ okF 0 s
  | [] => ⟨fun _ => trivial, fun _ i h => by cases h⟩
  | x :: l => by
    rw [good_cons, good_ok (s := l)]
    constructor
    · rintro ⟨⟨h1, h2, h3⟩, h4, h5⟩
      refine ⟨h1, h2, h3, ?_⟩
      cases l with
      | nil => trivial
      | cons y l =>
        have := h5 y rfl
        exact ⟨by omega, h4.2⟩
    · rintro ⟨h1, h2, h3, h4⟩
      refine ⟨⟨h1, h2, h3⟩, okF_mono (by omega) h4, fun y hy => ?_⟩
      cases l with
      | nil => cases hy
      | cons z l => cases hy; have := h4.1; omega
theorem okF_len : ∀ {s : List Sp} {lo : Int}, 0 ≤ lo → okF lo s → lo + 2 * (s.length : Int) ≤ 10002 ∨ s = []
  | [], _, _, _ => .inr rfl
  | x :: l, lo, hl, ⟨h1, h2, h3, h4⟩ => by
    left
    rcases okF_len (by omega) h4 with h | h
    · simp only [List.length_cons]; omega
    · subst h; simp only [List.length_cons, List.length_nil]; omega
def put (x : Sp) : List Sp → List Sp
  | [] => [x]
  | y :: l => if y.2.1 + 1 < x.1 then y :: put x l else if y.1 > x.2.1 + 1 then x :: y :: l else put (mnI x.1 y.1, mxI x.2.1 y.2.1, ()) l
theorem put_ok : ∀ {s : List Sp} {lo : Int} {x : Sp}, okF lo s → lo ≤ x.1 → x.1 ≤ x.2.1 → x.2.1 ≤ 9999 → okF lo (put x s)
  | [], lo, x, _, h1, h2, h3 => ⟨h1, h2, h3, trivial⟩
  | y :: l, lo, x, ⟨g1, g2, g3, g4⟩, h1, h2, h3 => by
    unfold put
    split
    · exact ⟨g1, g2, g3, put_ok g4 (by omega) h2 h3⟩
    · split
      · exact ⟨h1, h2, h3, by omega, g2, g3, g4⟩
      · refine put_ok (okF_mono (by omega) g4) ?_ ?_ ?_ <;> simp only [mnI, mxI] <;> split <;> (try split) <;> omega
theorem put_mem : ∀ {s : List Sp} {x : Sp} {n : Int}, x.1 ≤ x.2.1 → (∀ y ∈ s, y.1 ≤ y.2.1) → (memS (put x s) n ↔ memS s n ∨ (x.1 ≤ n ∧ n ≤ x.2.1))
  | [], x, n, h, _ => by
    rw [put, memS_cons]
    exact ⟨fun h => h.elim .inr (fun h => absurd h memS_nil), fun h => h.elim (fun h => absurd h memS_nil) .inl⟩
  | y :: l, x, n, h, hs => by
    have hy := hs y (by simp)
    have hl : ∀ z ∈ l, z.1 ≤ z.2.1 := fun z hz => hs z (by simp [hz])
    unfold put
    split
    · rw [memS_cons, memS_cons, put_mem h hl]
      constructor
      · rintro (h | h | h)
        · exact .inl (.inl h)
        · exact .inl (.inr h)
        · exact .inr h
      · rintro ((h | h) | h)
        · exact .inl h
        · exact .inr (.inl h)
        · exact .inr (.inr h)
    · split
      · rw [memS_cons]
        exact Or.comm
      · have hm : (mnI x.1 y.1 : Int) ≤ mxI x.2.1 y.2.1 := by unfold mnI mxI; split <;> split <;> omega
        rw [put_mem (x := (mnI x.1 y.1, mxI x.2.1 y.2.1, ())) hm hl, memS_cons]
        have e : (mnI x.1 y.1 ≤ n ∧ n ≤ mxI x.2.1 y.2.1) ↔ (x.1 ≤ n ∧ n ≤ x.2.1) ∨ (y.1 ≤ n ∧ n ≤ y.2.1) := by
          unfold mnI mxI
          split <;> split <;> omega
        show memS l n ∨ (mnI x.1 y.1 ≤ n ∧ n ≤ mxI x.2.1 y.2.1) ↔ _
        rw [e]
        constructor
        · rintro (h | h | h)
          · exact .inl (.inr h)
          · exact .inr h
          · exact .inl (.inl h)
        · rintro ((h | h) | h)
          · exact .inr (.inr h)
          · exact .inl h
          · exact .inr (.inl h)
theorem put_len : ∀ (s : List Sp) (x : Sp), (put x s).length ≤ s.length + 1
  | [], x => by simp [put]
  | y :: l, x => by
    unfold put
    split
    · have := put_len l x; simp only [List.length_cons]; omega
    · split
      · simp
      · have := put_len l (mnI x.1 y.1, mxI x.2.1 y.2.1, ()); simp only [List.length_cons]; omega
def joinS (a b : List Sp) : List Sp := b.foldl (fun s x => put x s) a
theorem joinS_ok : ∀ {b a : List Sp} {lo : Int}, okF lo a → (∀ x ∈ b, lo ≤ x.1 ∧ x.1 ≤ x.2.1 ∧ x.2.1 ≤ 9999) → okF lo (joinS a b)
  | [], a, lo, h, _ => h
  | x :: b, a, lo, h, hb => by
    obtain ⟨h1, h2, h3⟩ := hb x (by simp)
    exact joinS_ok (b := b) (a := put x a) (put_ok h h1 h2 h3) (fun y hy => hb y (by simp [hy]))
theorem joinS_mem : ∀ {b a : List Sp} {lo n : Int}, okF lo a → (∀ x ∈ b, lo ≤ x.1 ∧ x.1 ≤ x.2.1 ∧ x.2.1 ≤ 9999) → (memS (joinS a b) n ↔ memS a n ∨ memS b n)
  | [], a, lo, n, h, _ => ⟨.inl, fun h => h.elim id (fun h => absurd h memS_nil)⟩
  | x :: b, a, lo, n, h, hb => by
    obtain ⟨h1, h2, h3⟩ := hb x (by simp)
    have := joinS_mem (b := b) (a := put x a) (n := n) (put_ok h h1 h2 h3) (fun y hy => hb y (by simp [hy]))
    show memS (joinS (put x a) b) n ↔ _
    rw [this, put_mem h2 (fun y hy => (okF_all h y hy).2.1), memS_cons, or_assoc]
theorem joinS_len : ∀ (b a : List Sp), (joinS a b).length ≤ a.length + b.length
  | [], a => by simp [joinS]
  | x :: b, a => by
    have h1 := joinS_len b (put x a)
    have h2 := put_len a x
    show (joinS (put x a) b).length ≤ _
    simp only [List.length_cons]; omega
def runS (c : Sp) : List Sp → List Sp
  | [] => [c]
  | x :: l => if x.1 ≤ c.2.1 + 1 then runS (c.1, mxI c.2.1 x.2.1, ()) l else c :: runS x l
def uniS : List Sp → List Sp
  | [] => []
  | x :: l => runS x l
theorem runS_ok : ∀ {l : List Sp} {c : Sp} {lo : Int}, lo ≤ c.1 → c.1 ≤ c.2.1 → c.2.1 ≤ 9999 → (∀ x ∈ l, x.1 ≤ x.2.1 ∧ x.2.1 ≤ 9999 ∧ c.1 ≤ x.1) → l.Pairwise (fun x y => x.1 ≤ y.1) → okF lo (runS c l)
  | [], c, lo, h1, h2, h3, _, _ => ⟨h1, h2, h3, trivial⟩
  | x :: l, c, lo, h1, h2, h3, hl, hp => by
    obtain ⟨g1, g2, g3⟩ := hl x (by simp)
    obtain ⟨p1, p2⟩ := List.pairwise_cons.1 hp
    unfold runS
    split
    · refine runS_ok (c := (c.1, mxI c.2.1 x.2.1, ())) h1 ?_ ?_ (fun y hy => hl y (by simp [hy])) p2 <;> simp only [mxI] <;> split <;> omega
    · exact ⟨h1, h2, h3, runS_ok (by omega) g1 g2 (fun y hy => ⟨(hl y (by simp [hy])).1, (hl y (by simp [hy])).2.1, p1 y hy⟩) p2⟩
theorem runS_mem : ∀ {l : List Sp} {c : Sp} {n : Int}, c.1 ≤ c.2.1 → (∀ x ∈ l, x.1 ≤ x.2.1 ∧ c.1 ≤ x.1) → l.Pairwise (fun x y => x.1 ≤ y.1) → (memS (runS c l) n ↔ (c.1 ≤ n ∧ n ≤ c.2.1) ∨ memS l n)
  | [], c, n, _, _, _ => memS_cons
  | x :: l, c, n, h, hl, hp => by
    obtain ⟨g1, g3⟩ := hl x (by simp)
    obtain ⟨p1, p2⟩ := List.pairwise_cons.1 hp
    unfold runS
    split
    · have hm : c.1 ≤ mxI c.2.1 x.2.1 := by unfold mxI; split <;> omega
      rw [runS_mem (c := (c.1, mxI c.2.1 x.2.1, ())) hm (fun y hy => hl y (by simp [hy])) p2, memS_cons]
      have e : (c.1 ≤ n ∧ n ≤ mxI c.2.1 x.2.1) ↔ (c.1 ≤ n ∧ n ≤ c.2.1) ∨ (x.1 ≤ n ∧ n ≤ x.2.1) := by
        unfold mxI
        split <;> omega
      show (c.1 ≤ n ∧ n ≤ mxI c.2.1 x.2.1) ∨ _ ↔ _
      rw [e, or_assoc]
    · rw [memS_cons, runS_mem g1 (fun y hy => ⟨(hl y (by simp [hy])).1, p1 y hy⟩) p2, memS_cons]
theorem uniS_ok {l : List Sp} {lo : Int} (hl : ∀ x ∈ l, lo ≤ x.1 ∧ x.1 ≤ x.2.1 ∧ x.2.1 ≤ 9999) (hp : l.Pairwise (fun x y => x.1 ≤ y.1)) : okF lo (uniS l) := by
  cases l with
  | nil => trivial
  | cons x l =>
    obtain ⟨h1, h2, h3⟩ := hl x (by simp)
    obtain ⟨p1, p2⟩ := List.pairwise_cons.1 hp
    exact runS_ok h1 h2 h3 (fun y hy => ⟨(hl y (by simp [hy])).2.1, (hl y (by simp [hy])).2.2, p1 y hy⟩) p2
theorem uniS_mem {l : List Sp} {n : Int} (hl : ∀ x ∈ l, x.1 ≤ x.2.1) (hp : l.Pairwise (fun x y => x.1 ≤ y.1)) : memS (uniS l) n ↔ memS l n := by
  cases l with
  | nil => exact Iff.rfl
  | cons x l =>
    obtain ⟨p1, p2⟩ := List.pairwise_cons.1 hp
    rw [uniS, runS_mem (hl x (by simp)) (fun y hy => ⟨hl y (by simp [hy]), p1 y hy⟩) p2, memS_cons]
theorem memS_perm {a b : List Sp} (h : a.Perm b) {n : Int} : memS a n ↔ memS b n :=
  ⟨fun ⟨x, hx, g⟩ => ⟨x, h.mem_iff.1 hx, g⟩, fun ⟨x, hx, g⟩ => ⟨x, h.mem_iff.2 hx, g⟩⟩
theorem uni_join {a b s : List Sp} (ha : okF 0 a) (hb : ∀ x ∈ b, 0 ≤ x.1 ∧ x.1 ≤ x.2.1 ∧ x.2.1 ≤ 9999) (hs : s.Perm (a ++ b)) (hp : s.Pairwise (fun x y => x.1 ≤ y.1)) : uniS s = joinS a b := by
  have hall : ∀ x ∈ s, 0 ≤ x.1 ∧ x.1 ≤ x.2.1 ∧ x.2.1 ≤ 9999 := fun x hx => by
    rcases List.mem_append.1 (hs.mem_iff.1 hx) with h | h
    · exact okF_all ha x h
    · exact hb x h
  refine okF_ext (uniS_ok hall hp) (joinS_ok ha hb) (fun n => ?_)
  rw [uniS_mem (fun x hx => (hall x hx).2.1) hp, memS_perm hs, memS_append, joinS_mem ha hb]
theorem l1Min_eq (a b : Int) : F.spec_l1Min a b = some (mnI a b) := by
  unfold F.spec_l1Min mnI
  by_cases h : a < b
  · rw [decide_eq_true h]; simp only [cond_true]; split <;> congr 1 <;> omega
  · rw [decide_eq_false h]; simp only [cond_false]; split <;> congr 1 <;> omega
theorem l1Max_eq (a b : Int) : F.spec_l1Max a b = some (mxI a b) := by
  unfold F.spec_l1Max mxI
  by_cases h : a > b
  · rw [decide_eq_true h]; simp only [cond_true]; split <;> congr 1 <;> omega
  · rw [decide_eq_false h]; simp only [cond_false]; split <;> congr 1 <;> omega
theorem put_step (a acc : List Sp) (p : Bool) (c : Sp) (i : Nat) (hk : i < a.length) (h : a.length ≤ 1048576) (hl : acc.length ≤ 1048577) : F.spec_l5Put.s4 (a, acc, p, (i : Int), c, ()) = some (.again
    (if w64 (a[i].2.1 + 1) < c.1 then (a, acc ++ [a[i]], p, ((i + 1 : Nat) : Int), c, ()) else if a[i].1 > w64 (c.2.1 + 1) then (a, (if p then acc else acc ++ [c]) ++ [a[i]], true, ((i + 1 : Nat) : Int), c, ()) else (a, acc, p, ((i + 1 : Nat) : Int), (mnI c.1 a[i].1, mxI c.2.1 a[i].2.1, ()), ()))) := by
  unfold F.spec_l5Put.s4
  simp only
  rw [lt_len hk, inb_nat hk, Int.toNat_natCast, getD_at hk, w64_nat (by omega)]
  simp only [cond_true, chk_true, l1Min_eq, l1Max_eq, Option.bind_some, List.length_append, List.length_cons, List.length_nil]
  rw [fits_of (n := acc.length + (0 + 1)) (by omega), fits_of (n := acc.length + (0 + 1) + (0 + 1)) (by omega)]
  simp only [chk_true]
  by_cases h1 : w64 (a[i].2.1 + 1) < c.1
  · rw [decide_eq_true h1, if_pos h1]; rfl
  · rw [decide_eq_false h1, if_neg h1]
    by_cases h2 : a[i].1 > w64 (c.2.1 + 1)
    · rw [decide_eq_true h2, if_pos h2]
      cases p <;> rfl
    · rw [decide_eq_false h2, if_neg h2]; rfl
theorem l5Put_any (a : List Sp) (x : Sp) (h : a.length ≤ 1048576) : ∃ r, F.spec_l5Put a x = some r ∧ r.length ≤ a.length + 1 := by
  unfold F.spec_l5Put
  have key : ∀ (n i : Nat) (acc : List Sp) (p : Bool) (c : Sp), a.length - i = n → i ≤ a.length → acc.length ≤ i + (if p then 1 else 0) → ∃ acc' p' c', iterO F.spec_l5Put.s4 (n + 1) (a, acc, p, (i : Int), c, ()) = some (.inl (a, acc', p', ((a.length : Nat) : Int), c', ())) ∧ acc'.length ≤ a.length + (if p' then 1 else 0) := by
    intro n
    induction n with
    | zero =>
      intro i acc p c hi hle hl
      have hi' : i = a.length := by omega
      subst hi'
      refine ⟨acc, p, c, ?_, hl⟩
      unfold iterO F.spec_l5Put.s4
      simp only [ge_len, cond_false]
    | succ n ih =>
      intro i acc p c hi hle hl
      have hk : i < a.length := by omega
      have hl2 : acc.length ≤ i + 1 := by cases p <;> simp at hl <;> omega
      rw [iterO, put_step a acc p c i hk h (by omega)]
      simp only
      split
      · exact ih (i + 1) _ p c (by omega) (by omega) (by rw [List.length_append, List.length_singleton]; omega)
      · split
        · refine ih (i + 1) _ true c (by omega) (by omega) ?_
          rw [List.length_append, List.length_singleton]
          cases p <;> simp at hl ⊢ <;> omega
        · exact ih (i + 1) _ p _ (by omega) (by omega) (by omega)
  obtain ⟨acc', p', c', h1, h2⟩ := key a.length 0 [] false x (by omega) (by omega) (by simp)
  have h1' : loopO F.spec_l5Put.s4 (a, [], false, 0, x, ()) = _ := loopO_of h1
  rw [h1']
  simp only [afterO]
  cases p' with
  | true => exact ⟨_, rfl, by simpa using h2⟩
  | false =>
    simp at h2
    simp only [Bool.not_false, cond_true, List.length_cons, List.length_nil]
    rw [fits_of (by omega)]
    exact ⟨_, rfl, by simp; omega⟩
theorem l5Put_eq (a : List Sp) (x : Sp) (h : a.length ≤ 1048576) {lo : Int} (hlo : 0 ≤ lo) (ha : okF lo a) (h0 : 0 ≤ x.1) (h1 : x.1 ≤ x.2.1) (h2 : x.2.1 ≤ 9999) : F.spec_l5Put a x = some (put x a) := by
  unfold F.spec_l5Put
  -- behind it: all the rest is kept
  have key1 : ∀ (m p acc : List Sp) (c : Sp) (l : Int), a = p ++ m → acc.length ≤ p.length + 1 → okF l m → c.2.1 + 1 < l → 0 ≤ c.1 → c.1 ≤ c.2.1 → c.2.1 ≤ 9999 →
      iterO F.spec_l5Put.s4 (m.length + 1) (a, acc, true, ((p.length : Nat) : Int), c, ()) = some (.inl (a, acc ++ m, true, ((a.length : Nat) : Int), c, ())) := by
    intro m
    induction m with
    | nil =>
      intro p acc c l hp hl hok hc g0 g1 g2
      have hpl : p.length = a.length := by rw [hp]; simp
      unfold iterO F.spec_l5Put.s4
      simp only [hpl, ge_len, cond_false, List.append_nil]
    | cons y m ih =>
      intro p acc c l hp hl hok hc g0 g1 g2
      obtain ⟨k1, k2, k3, k4⟩ := hok
      have hk : p.length < a.length := by rw [hp]; simp
      have hg : a[p.length] = y := by simp [hp]
      rw [List.length_cons, iterO, put_step a acc true c p.length hk h (by omega), hg, w64_id (by omega) (by omega), w64_id (by omega) (by omega), if_neg (by omega), if_pos (by omega)]
      simp only [if_true]
      have := ih (p ++ [y]) (acc ++ [y]) c (y.2.1 + 2) (by simp [hp]) (by simp; omega) k4 (by omega) g0 g1 g2
      rw [List.length_append] at this
      simp only [List.append_assoc, List.singleton_append] at this
      exact this
  have key2 : ∀ (m p acc : List Sp) (c : Sp) (l : Int), a = p ++ m → acc.length ≤ p.length → 0 ≤ l → okF l m → 0 ≤ c.1 → c.1 ≤ c.2.1 → c.2.1 ≤ 9999 →
      ∃ acc' p' c', iterO F.spec_l5Put.s4 (m.length + 1) (a, acc, false, ((p.length : Nat) : Int), c, ()) = some (.inl (a, acc', p', ((a.length : Nat) : Int), c', ())) ∧ (if p' then acc' else acc' ++ [c']) = acc ++ put c m ∧ (p' = false → acc'.length ≤ a.length) := by
    intro m
    induction m with
    | nil =>
      intro p acc c l hp hl hl0 hok g0 g1 g2
      have hpl : p.length = a.length := by rw [hp]; simp
      refine ⟨acc, false, c, ?_, rfl, fun _ => by omega⟩
      unfold iterO F.spec_l5Put.s4
      simp only [hpl, ge_len, cond_false]
    | cons y m ih =>
      intro p acc c l hp hl hl0 hok g0 g1 g2
      obtain ⟨k1, k2, k3, k4⟩ := hok
      have hk : p.length < a.length := by rw [hp]; simp
      have hg : a[p.length] = y := by simp [hp]
      rw [List.length_cons, iterO, put_step a acc false c p.length hk h (by omega), hg, w64_id (by omega) (by omega), w64_id (by omega) (by omega), put]
      simp only [Bool.false_eq_true, if_false]
      by_cases c1 : y.2.1 + 1 < c.1
      · rw [if_pos c1, if_pos c1]
        obtain ⟨acc', p', c', e1, e2, e3⟩ := ih (p ++ [y]) (acc ++ [y]) c (y.2.1 + 2) (by simp [hp]) (by simp; omega) (by omega) k4 g0 g1 g2
        rw [List.length_append] at e1
        refine ⟨acc', p', c', e1, ?_, e3⟩
        rw [e2]; simp
      · rw [if_neg c1, if_neg c1]
        by_cases c2 : y.1 > c.2.1 + 1
        · rw [if_pos c2, if_pos c2]
          have := key1 m (p ++ [y]) ((acc ++ [c]) ++ [y]) c (y.2.1 + 2) (by simp [hp]) (by simp; omega) k4 (by omega) g0 g1 g2
          rw [List.length_append] at this
          refine ⟨_, true, c, this, by simp, fun h => by cases h⟩
        · rw [if_neg c2, if_neg c2]
          obtain ⟨acc', p', c', e1, e2, e3⟩ := ih (p ++ [y]) acc (mnI c.1 y.1, mxI c.2.1 y.2.1, ()) (y.2.1 + 2) (by simp [hp]) (by simp; omega) (by omega) k4 (by simp only [mnI]; split <;> omega) (by simp only [mnI, mxI]; split <;> split <;> omega) (by simp only [mxI]; split <;> omega)
          rw [List.length_append] at e1
          exact ⟨acc', p', c', e1, e2, e3⟩
  obtain ⟨acc', p', c', e1, e2, e3⟩ := key2 a [] [] x lo rfl (by simp) hlo ha h0 h1 h2
  have h1' : loopO F.spec_l5Put.s4 (a, [], false, 0, x, ()) = _ := loopO_of e1
  rw [h1']
  simp only [afterO]
  cases p' with
  | true => simpa using e2
  | false =>
    have := e3 rfl
    simp only [Bool.not_false, cond_true, List.length_cons, List.length_nil]
    rw [fits_of (by omega)]
    simpa [chk_true] using e2
def hasB (a : List Sp) (n : Int) : Bool := a.any fun x => inR x.1 x.2.1 n
theorem implSet_dec (a : List Sp) (h : a.length ≤ 1048576) : F.impl_SetOk a = some (decB (Good a)) := by
  rcases implSet_ok a h with ⟨e, g⟩ | ⟨e, g⟩
  · rw [e, decB_pos g]
  · rw [e, decB_neg g]
def ap1 (x y : Sp) : Bool := !(decide (x.1 ≤ y.2.1) && decide (y.1 ≤ x.2.1))
def apB (a b : List Sp) : Bool := a.all fun x => b.all fun y => ap1 x y
def ends (l : List Sp) : Prop := ∀ x ∈ l, 0 ≤ x.1 ∧ x.1 ≤ x.2.1 ∧ x.2.1 ≤ 9999
theorem copySet_big (a : List DSpan) (h : a.length ≤ 4194304) : F.impl_copySet a = some a := by
  unfold F.impl_copySet
  rw [fits_of (by omega)]; rfl
theorem union_loop (s : List Sp) (h : s.length ≤ 4194304) (he : ends s) : ∃ e1 e2 e3, loopO F.impl_union.s5 ([], s, len s, 0, ()) = some (.inl (uniS s, e1, e2, e3, ())) := by
  have key : ∀ (m p pre : List Sp) (c : Sp), s = p ++ m → pre.length + 1 ≤ p.length → 0 ≤ c.2.1 ∧ c.2.1 ≤ 9999 →
      iterO F.impl_union.s5 (m.length + 1) (pre ++ [c], s, len s, ((p.length : Nat) : Int), ()) = some (.inl (pre ++ runS c m, s, len s, ((s.length : Nat) : Int), ())) := by
    intro m
    induction m with
    | nil =>
      intro p pre c hp hl hc
      have hpl : p.length = s.length := by rw [hp]; simp
      unfold iterO F.impl_union.s5
      simp only [hpl, ge_len, cond_false, runS]
    | cons y m ih =>
      intro p pre c hp hl hc
      have hk : p.length < s.length := by rw [hp]; simp
      have hg : s[p.length] = y := by simp [hp]
      have hy := he y (by rw [hp]; simp)
      have hst : F.impl_union.s5 (pre ++ [c], s, len s, ((p.length : Nat) : Int), ()) = some (.again (if y.1 ≤ c.2.1 + 1 then (pre ++ [(c.1, mxI c.2.1 y.2.1, ())], s, len s, ((p.length + 1 : Nat) : Int), ()) else ((pre ++ [c]) ++ [y], s, len s, ((p.length + 1 : Nat) : Int), ()))) := by
        unfold F.impl_union.s5
        have hln : len (pre ++ [c]) = ((pre.length : Nat) : Int) + 1 := by simp [len]
        have hpr : pre.length < (pre ++ [c]).length := by simp
        simp only
        rw [lt_len hk, inb_nat hk, Int.toNat_natCast, getD_at hk, w64_nat (by omega), hg, hln, show decide (((pre.length : Nat) : Int) + 1 > 0) = true from decide_eq_true (by omega), w64_id (x := ((pre.length : Nat) : Int) + 1 - 1) (by omega) (by omega), show ((pre.length : Nat) : Int) + 1 - 1 = ((pre.length : Nat) : Int) by omega, inb_nat hpr, Int.toNat_natCast, getD_mid, set_mid, w64_id (by omega) (by omega)]
        simp only [cond_true, chk_true, List.length_append, List.length_cons, List.length_nil, Option.bind_some]
        rw [fits_of (by omega)]
        by_cases hc1 : y.1 ≤ c.2.1 + 1
        · rw [decide_eq_true hc1, if_pos hc1]; rfl
        · rw [decide_eq_false hc1, if_neg hc1]; rfl
      rw [List.length_cons, iterO, hst, runS]
      simp only
      by_cases hc1 : y.1 ≤ c.2.1 + 1
      · rw [if_pos hc1, if_pos hc1]
        have := ih (p ++ [y]) pre (c.1, mxI c.2.1 y.2.1, ()) (by simp [hp]) (by simp; omega) (by simp only [mxI]; split <;> omega)
        rw [List.length_append] at this
        exact this
      · rw [if_neg hc1, if_neg hc1]
        have := ih (p ++ [y]) (pre ++ [c]) y (by simp [hp]) (by simp; omega) ⟨by omega, by omega⟩
        rw [List.length_append] at this
        simp only [List.append_assoc] at this ⊢
        exact this
  cases hs : s with
  | nil => exact ⟨_, _, _, loopO_of (n := 1) (by unfold iterO F.impl_union.s5; rfl)⟩
  | cons x l =>
    rw [← hs]
    have hk : 0 < s.length := by rw [hs]; simp
    have hg : s[0] = x := by simp [hs]
    have hx := he x (by rw [hs]; simp)
    have hst : F.impl_union.s5 ([], s, len s, 0, ()) = some (.again ([x], s, len s, 1, ())) := by
      unfold F.impl_union.s5
      simp only
      have h0 := lt_len hk
      have h1 := inb_nat hk
      simp only [Int.natCast_zero] at h0 h1
      rw [h0, h1, show (0 : Int).toNat = 0 from rfl, getD_at hk, hg]
      simp only [cond_true, chk_true, show decide (len ([] : List Sp) > 0) = false from rfl, cond_false, List.length_cons, List.length_nil]
      rw [fits_of (by omega)]; rfl
    have := key l [x] [] x (by rw [hs]; rfl) (by simp) ⟨by omega, by omega⟩
    refine ⟨s, len s, ((s.length : Nat) : Int), loopO_of (n := l.length + 1 + 1) ?_⟩
    rw [iterO, hst]
    rw [hs] at this ⊢
    exact this
theorem ends_perm {a b : List Sp} (h : a.Perm b) (hb : ends b) : ends a := fun x hx => hb x (h.mem_iff.1 hx)
theorem sortS_ends {l : List Sp} (h : ends l) : ends (sortS l) := ends_perm (sortS_perm l) h
theorem union_eq (l : List Sp) (h : l.length ≤ 4194304) (he : ends l) : F.impl_union l = some (uniS (sortS l)) := by
  unfold F.impl_union F.slices_SortFunc_Span__impl_union_1
  rw [copySet_big l h]
  simp only [Option.bind_some]
  rw [show decide (l.length ≤ 4000000000000) = true from decide_eq_true (by omega)]
  have hl : (sortS l).length = l.length := (sortS_perm l).length_eq
  obtain ⟨e1, e2, e3, hh⟩ := union_loop (sortS l) (by omega) (sortS_ends he)
  simp only [chk_true, Option.bind_some, hh, afterO]
theorem okF_ends {s : List Sp} (h : okF 0 s) : ends s := fun x hx => okF_all h x hx
theorem okF_small {s : List Sp} (h : okF 0 s) : s.length ≤ 5001 := by
  rcases okF_len (Int.le_refl 0) h with e | e
  · omega
  · rw [e]; simp
theorem union_join (a b : List Sp) (h : (a ++ b).length ≤ 4194304) (ha : okF 0 a) (hb : ends b) : F.impl_union (a ++ b) = some (joinS a b) := by
  rw [union_eq _ h (fun x hx => (List.mem_append.1 hx).elim (okF_ends ha x) (hb x)), uni_join ha hb (sortS_perm _) (sortS_sorted _)]
theorem l5Join_eq (a b : List Sp) (ha : okF 0 a) (hb : ends b) (hl : b.length ≤ 1000000) : F.spec_l5Join a b = some (joinS a b) := by
  have hs := okF_small ha
  unfold F.spec_l5Join
  rw [l5Copy_eq a (by omega)]
  simp only [Option.bind_some]
  have hh := loop_foldP (step := F.spec_l5Join.s3) b (fun (i : Nat) (s : List Sp) => (b, s, (i : Int), ())) (fun s x => put x s) (fun _ s => okF 0 s) (fun i s hi hp => by
    have hx := hb _ (List.getElem_mem hi)
    have := okF_small hp
    refine ⟨?_, put_ok hp hx.1 hx.2.1 hx.2.2⟩
    unfold F.spec_l5Join.s3
    simp only
    rw [lt_len hi, inb_nat hi, Int.toNat_natCast, getD_at hi, w64_nat (by omega), l5Put_eq s b[i] (by omega) (Int.le_refl 0) hp hx.1 hx.2.1 hx.2.2]
    rfl) (fun s hp => by
    unfold F.spec_l5Join.s3
    simp only [ge_len, cond_false]) (s := a) ha
  have h1 : loopO F.spec_l5Join.s3 (b, a, 0, ()) = _ := hh.1
  rw [h1]
  rfl
theorem setJoin_eq (a b : List Sp) (ha : a.length ≤ 1000000) (hb : b.length ≤ 1000000) (ga : Good a) (gb : Good b) : F.impl_SetJoin a b = some (joinS a b, true) := by
  unfold F.impl_SetJoin
  rw [implSet_dec a (by omega), implSet_dec b (by omega), decB_pos ga, decB_pos gb, copySet_big a (by omega)]
  simp only [Option.bind_some, Bool.not_true, cond_false]
  rw [fits_of (by omega), union_join a b (by rw [List.length_append]; omega) (good_ok.1 ga) (okF_ends (good_ok.1 gb))]
  rfl
def heardA (a : DAgent) (f : DFrame) : DAgent :=
  (a.1, f.2.2.1, f.1 == 2, if f.1 = 2 then (if f.2.2.1 = a.2.1 then mxI a.2.2.2.1 f.2.2.2.1 else f.2.2.2.1) else 0, a.2.2.2.2.1, joinS a.2.2.2.2.2.1 f.2.2.2.2.1, a.2.2.2.2.2.2)
structure HearR (a : DAgent) (f : DFrame) : Prop where
  ag : AgR a
  fr : FrR f
  kind : f.1 = 2 ∨ f.1 = 3
  id : f.2.1 = a.1
  below : Good f.2.2.2.2.1 ∧ Within f.2.2.2.2.1 ((a.2.2.2.2.1.length : Nat) : Int)
theorem hear_eq (a : DAgent) (f : DFrame) (ha : zAgent a ≤ 1048576) (hf : zFrame f ≤ 1048576) : ∃ r : DAgent × Int, F.spec_AgentHear a f = some r ∧ F.impl_AgentHear a f = some r ∧
    ((HearR a f ∧ a.2.1 ≤ f.2.2.1 ∧ r = (heardA a f, 0)) ∨ (HearR a f ∧ f.2.2.1 < a.2.1 ∧ r = (a, 2)) ∨ (¬ HearR a f ∧ r = (a, 1))) := by
  have ht : f.2.2.2.2.1.length ≤ 1048576 := by have h : f.2.2.2.2.1.length + zItem f.2.2.2.2.2.1 ≤ 1048576 := hf; omega
  obtain ⟨bf, o1, o2, o3⟩ := frOk_same f hf
  obtain ⟨l1, l2⟩ := allIn_dec f.2.2.2.2.1 ((a.2.2.2.2.1.length : Nat) : Int) ht
  have l1 : F.spec_l8Below f.2.2.2.2.1 (len a.2.2.2.2.1) = _ := l1
  have l2 : F.impl_allIn f.2.2.2.2.1 1 (len a.2.2.2.2.1) = _ := l2
  unfold F.spec_AgentHear F.impl_AgentHear
  rw [specAg_dec a ha, implAg_dec a ha, l8Copy_eq a ha, copyAgent_eq a ha]
  simp only [Option.bind_some, o1, o2, l1, l2, l1Max_eq]
  by_cases hA : AgR a
  case neg =>
    rw [decB_neg hA]
    exact ⟨_, rfl, rfl, .inr (.inr ⟨fun h => hA h.ag, rfl⟩)⟩
  rw [decB_pos hA]
  cases bf with
  | false => exact ⟨_, rfl, rfl, .inr (.inr ⟨(fun h => by cases o3.2 h.fr), rfl⟩)⟩
  | true =>
  have hF := o3.1 rfl
  simp only [Bool.not_true, cond_false]
  have hk := hF.kind
  have hkk : f.1 = 0 ∨ f.1 = 1 ∨ f.1 = 2 ∨ f.1 = 3 := by omega
  have low : (f.1 = 0 ∨ f.1 = 1) → (decide (f.1 < 2) = true ∧ (f.1 != 2) = true ∧ (f.1 != 3) = true) := fun h => by rcases h with h | h <;> rw [h] <;> exact ⟨rfl, rfl, rfl⟩
  by_cases hlow : f.1 = 0 ∨ f.1 = 1
  · obtain ⟨q1, q2, q3⟩ := low hlow
    simp only [q1, q2, q3, cond_true]
    exact ⟨_, rfl, rfl, .inr (.inr ⟨(fun h => by have := h.kind; omega), rfl⟩)⟩
  have hkind : f.1 = 2 ∨ f.1 = 3 := by omega
  by_cases hid : f.2.1 = a.1
  case neg =>
    have q : (f.2.1 != a.1) = true := by rw [bne_iff_ne]; exact hid
    refine ⟨(a, 1), ?_, ?_, .inr (.inr ⟨fun h => hid h.id, rfl⟩)⟩
    · rw [show decide (f.1 < 2) = false from decide_eq_false (by omega), q]; rfl
    · rw [q]
      rcases hkind with h | h <;> rw [h] <;> rfl
  have qid : (f.2.1 != a.1) = false := by rw [hid]; simp
  by_cases hB : Good f.2.2.2.2.1 ∧ Within f.2.2.2.2.1 ((a.2.2.2.2.1.length : Nat) : Int)
  case neg =>
    rw [decB_neg hB]
    refine ⟨(a, 1), ?_, ?_, .inr (.inr ⟨fun h => hB h.below, rfl⟩)⟩
    · rw [show decide (f.1 < 2) = false from decide_eq_false (by omega), qid]; rfl
    · rw [qid]
      rcases hkind with h | h <;> rw [h] <;> rfl
  rw [decB_pos hB]
  have hH : HearR a f := ⟨hA, hF, hkind, hid, hB⟩
  by_cases hE : f.2.2.1 < a.2.1
  · refine ⟨(a, 2), ?_, ?_, .inr (.inl ⟨hH, hE, rfl⟩)⟩
    · rw [show decide (f.1 < 2) = false from decide_eq_false (by omega), qid, decide_eq_true hE]; rfl
    · rw [qid, decide_eq_true hE]
      rcases hkind with h | h <;> rw [h] <;> rfl
  have ga : Good a.2.2.2.2.2.1 := hA.tk.1
  have sa : a.2.2.2.2.2.1.length ≤ 5001 := okF_small (good_ok.1 ga)
  have sf : f.2.2.2.2.1.length ≤ 5001 := okF_small (good_ok.1 hB.1)
  have j1 := l5Join_eq a.2.2.2.2.2.1 f.2.2.2.2.1 (good_ok.1 ga) (okF_ends (good_ok.1 hB.1)) (by omega)
  have j2 := setJoin_eq a.2.2.2.2.2.1 f.2.2.2.2.1 (by omega) (by omega) ga hB.1
  refine ⟨(heardA a f, 0), ?_, ?_, .inl ⟨hH, by omega, rfl⟩⟩
  · rw [show decide (f.1 < 2) = false from decide_eq_false (by omega), qid, decide_eq_false hE, j1]
    simp only [Bool.not_true, cond_false, Option.bind_some]
    unfold heardA
    rcases hkind with h | h
    · rw [h]
      by_cases hq : f.2.2.1 = a.2.1
      · simp [hq]
      · rw [show (f.2.2.1 == a.2.1) = false by simpa using hq]
        simp [hq]
    · rw [h]
      simp
  · rw [qid, decide_eq_false hE, j2]
    simp only [Bool.not_true, cond_false, Option.bind_some]
    unfold heardA
    rcases hkind with h | h
    · rw [h]
      by_cases hq : f.2.2.1 = a.2.1
      · simp [hq]
      · rw [show (f.2.2.1 == a.2.1) = false by simpa using hq]
        simp [hq]
    · rw [h]
      simp
theorem and_small (x : Int) (m : Nat) (hm : m < 9223372036854775808) : 0 ≤ ibits .and .i64 x (m : Int) ∧ ibits .and .i64 x (m : Int) ≤ (m : Int) := by
  have h : ((BitVec.ofInt IntKind.i64.bits x) &&& (BitVec.ofInt IntKind.i64.bits (m : Int))).toNat ≤ m := by
    rw [BitVec.toNat_and]
    refine Nat.le_trans Nat.and_le_right ?_
    have : (BitVec.ofInt IntKind.i64.bits (m : Int)).toNat = m % 2 ^ 64 := by simp [IntKind.bits]
    rw [this]
    exact Nat.mod_le _ _
  unfold ibits
  simp only
  generalize ((BitVec.ofInt IntKind.i64.bits x) &&& (BitVec.ofInt IntKind.i64.bits (m : Int))).toNat = k at h
  have hw : IntKind.wrap .i64 (k : Int) = (k : Int) := w64_id (by omega) (by omega)
  rw [hw]
  omega
def srcOk (s : List Int × Int × Int × Unit) : Prop := s.1.length ≤ 1048576 ∧ 0 ≤ s.2.1 ∧ s.2.1 ≤ 9000000000000000000
theorem l1New_ok (a : List Int) (h : a.length ≤ 1048576) : ∃ s, F.spec_l1New a = some s ∧ srcOk s := by
  unfold F.spec_l1New
  obtain ⟨y, h1, h2⟩ := loopO_rule (step := F.spec_l1New.s3) (fun x => x.1 = a ∧ 0 ≤ x.2.2.1 ∧ x.2.2.1 ≤ a.length) (fun y => ∃ b c, y = .inl (a, b, c, ()))
    (fun x => a.length - x.2.2.1.toNat) (fun x hx => by
      obtain ⟨x1, x2, x3, u⟩ := x
      obtain ⟨rfl, g1, g2⟩ := hx
      simp only at g1 g2
      have h : x1.length ≤ 1048576 := h
      unfold F.spec_l1New.s3
      simp only
      by_cases hlt : x3 < (x1.length : Int)
      · rw [show decide (x3 < len x1) = true from decide_eq_true hlt]
        cases h4 : decide (x3 < 4000) with
        | false => exact ⟨.exit (x1, x2, x3, ()), rfl, _, _, rfl⟩
        | true =>
          rw [inb_of g1 hlt]
          refine ⟨_, rfl, ⟨rfl, ?_, ?_⟩, ?_⟩
          all_goals simp only
          all_goals rw [w64_id (by omega) (by omega)]
          · omega
          · omega
          · omega
      · refine ⟨.exit (x1, x2, x3, ()), ?_, _, _, rfl⟩
        rw [show decide (x3 < len x1) = false from decide_eq_false hlt]; rfl) (x := (a, w64 (26583 + len a), 0, ())) ⟨rfl, Int.le_refl 0, by simp⟩
  obtain ⟨b, c, rfl⟩ := h2
  rw [h1]
  exact ⟨_, rfl, h, Int.le_refl 0, by show (0 : Int) ≤ 9000000000000000000; omega⟩
theorem l1Byte_ok (s : List Int × Int × Int × Unit) (hs : srcOk s) : ∃ v s', F.spec_l1Byte s = some (v, s') ∧ 0 ≤ v ∧ v ≤ 255 ∧ srcOk s' := by
  obtain ⟨a, p, q, u⟩ := s
  obtain ⟨g1, g2, g3⟩ := hs
  simp only at g1 g2 g3
  unfold F.spec_l1Byte
  simp only
  by_cases hlt : p < (a.length : Int)
  · rw [show decide (p < len a) = true from decide_eq_true hlt, inb_of g2 hlt]
    refine ⟨_, _, rfl, (and_small _ 255 (by omega)).1, (and_small _ 255 (by omega)).2, g1, ?_, ?_⟩
    all_goals simp only
    all_goals rw [w64_id (by omega) (by omega)]
    · omega
    · omega
  · rw [show decide (p < len a) = false from decide_eq_false hlt]
    exact ⟨_, _, rfl, (and_small _ 255 (by omega)).1, (and_small _ 255 (by omega)).2, g1, g2, g3⟩
theorem l1Below_ok (s : List Int × Int × Int × Unit) (hs : srcOk s) (n : Int) (h0 : 0 < n) (h1 : n ≤ 256) : ∃ v s', F.spec_l1Below s n = some (v, s') ∧ 0 ≤ v ∧ v < n ∧ srcOk s' := by
  unfold F.spec_l1Below
  rw [show decide (n ≤ 0) = false from decide_eq_false (by omega), show decide (n ≤ 256) = true from decide_eq_true h1]
  obtain ⟨v, s', e, g1, g2, g3⟩ := l1Byte_ok s hs
  simp only [cond_false, cond_true, e, Option.bind_some]
  rw [show (n == 0) = false by simp; omega]
  refine ⟨_, s', rfl, Int.tmod_nonneg _ g1, ?_, g3⟩
  have := Int.tmod_lt_of_pos v h0
  exact this
theorem l1Once_ok (s : List Int × Int × Int × Unit) (hs : srcOk s) (n : Int) (h0 : 0 < n) (h1 : n ≤ 256) : ∃ b s', F.spec_l1Once s n = some (b, s') ∧ srcOk s' := by
  unfold F.spec_l1Once
  obtain ⟨v, s', e, _, _, g3⟩ := l1Below_ok s hs n h0 h1
  rw [e]
  exact ⟨_, _, rfl, g3⟩
theorem l1Pick_ok (s : List Int × Int × Int × Unit) (hs : srcOk s) (l : List Int) (h0 : 0 < l.length) (h1 : l.length ≤ 256) : ∃ v s', F.spec_l1PickInt s l = some (v, s') ∧ v ∈ l ∧ srcOk s' := by
  unfold F.spec_l1PickInt
  obtain ⟨v, s', e, g1, g2, g3⟩ := l1Below_ok s hs (len l) (by show 0 < (l.length : Int); omega) (by show (l.length : Int) ≤ 256; omega)
  rw [e]
  have hlt : v < (l.length : Int) := g2
  have hi : v.toNat < l.length := by omega
  simp only [Option.bind_some]
  rw [inb_of g1 hlt, getD_at hi]
  exact ⟨_, _, rfl, List.getElem_mem hi, g3⟩
theorem l1Below_any (s : List Int × Int × Int × Unit) (hs : srcOk s) (n : Int) (h1 : n ≤ 2147483647) : ∃ v s', F.spec_l1Below s n = some (v, s') ∧ 0 ≤ v ∧ (v < n ∨ (n ≤ 0 ∧ v = 0)) ∧ srcOk s' := by
  by_cases h0 : n ≤ 0
  · unfold F.spec_l1Below
    rw [show decide (n ≤ 0) = true from decide_eq_true h0]
    exact ⟨0, s, rfl, Int.le_refl _, .inr ⟨h0, rfl⟩, hs⟩
  · by_cases h2 : n ≤ 256
    · obtain ⟨v, s', e, g1, g2, g3⟩ := l1Below_ok s hs n (by omega) h2
      exact ⟨v, s', e, g1, .inl g2, g3⟩
    · unfold F.spec_l1Below
      obtain ⟨v1, s1, e1, a1, b1, c1⟩ := l1Byte_ok s hs
      obtain ⟨v2, s2, e2, a2, b2, c2⟩ := l1Byte_ok s1 c1
      obtain ⟨v3, s3, e3, a3, b3, c3⟩ := l1Byte_ok s2 c2
      obtain ⟨v4, s4, e4, a4, b4, c4⟩ := l1Byte_ok s3 c3
      rw [show decide (n ≤ 0) = false from decide_eq_false h0, show decide (n ≤ 256) = false from decide_eq_false h2]
      simp only [cond_false, e1, e2, e3, e4, Option.bind_some]
      rw [show (n == 0) = false by simp; omega]
      have e : w64 (w64 (w64 (w64 (v1 * 16777216) + w64 (v2 * 65536)) + w64 (v3 * 256)) + v4) = v1 * 16777216 + v2 * 65536 + v3 * 256 + v4 := by
        rw [w64_id (x := v1 * 16777216) (by omega) (by omega), w64_id (x := v2 * 65536) (by omega) (by omega), w64_id (x := v3 * 256) (by omega) (by omega), w64_id (x := v1 * 16777216 + v2 * 65536) (by omega) (by omega), w64_id (x := v1 * 16777216 + v2 * 65536 + v3 * 256) (by omega) (by omega), w64_id (by omega) (by omega)]
      rw [e]
      exact ⟨_, s4, rfl, Int.tmod_nonneg _ (by omega), .inl (Int.tmod_lt_of_pos _ (by omega)), c4⟩
def numP : Nat → Int → List Int → Int × List Int
  | 0, x, acc => (x, acc)
  | f + 1, x, acc => if x > 127 then numP f (x / 128) (acc ++ [IntKind.wrap .u8 (x % 128 + 128)]) else (x, acc)
def numB (x : Int) : List Int := if 0 ≤ x ∧ x ≤ 2147483647 then (numP 4 x []).2 ++ [IntKind.wrap .u8 (numP 4 x []).1] else []
def numsB (l : List Int) : List Int := l.flatMap numB
def spansB (l : List DSpan) : List Int := l.flatMap fun x => numB x.1 ++ numB x.2.1
def bytes (l : List Int) : Prop := ∀ b ∈ l, 0 ≤ b ∧ b < 256
theorem xor_nat (n m : Nat) (hn : n < 4294967296) (hm : m < 4294967296) : ibits .xor .i64 (n : Int) (m : Int) = ((n ^^^ m : Nat) : Int) ∧ n ^^^ m < 4294967296 := by
  have hx : n ^^^ m < 4294967296 := Nat.xor_lt_two_pow (n := 32) hn hm
  refine ⟨?_, hx⟩
  unfold ibits
  simp only
  have e : ∀ k : Nat, k < 4294967296 → (BitVec.ofInt IntKind.i64.bits (k : Int)).toNat = k := fun k hk => by simp [IntKind.bits]; omega
  rw [BitVec.toNat_xor, e n hn, e m hm]
  exact w64_id (by omega) (by omega)
def crc1 (x : Nat) : Nat := if x % 2 = 1 then (x / 2) ^^^ 3988292384 else x / 2
def crcK : Nat → Nat → Nat
  | 0, c => c
  | k + 1, c => crc1 (crcK k c)
def crcL (c : Nat) (l : List Int) : Nat := l.foldl (fun c b => crcK 8 (c ^^^ b.toNat)) c
def crcB (l : List Int) : Nat := (crcL 4294967295 l) ^^^ 4294967295
def sumB (l : List Int) : List Int := [((crcB l : Nat) : Int) / 16777216 % 256, ((crcB l : Nat) : Int) / 65536 % 256, ((crcB l : Nat) : Int) / 256 % 256, ((crcB l : Nat) : Int) % 256]
def skSh (s : DSketch) : Prop := s.2.2.2.2.1.length = 8 ∧ s.2.2.2.2.2.1.length = 8 ∧ ∃ a b, s.2.2.2.2.2.2.1 = [a, b] ∧ a.length = 4 ∧ b.length = 4
theorem skSh_z {s : DSketch} (h : skSh s) : zSketch s ≤ 26 := by
  obtain ⟨h1, h2, a, b, h3, h4, h5⟩ := h
  unfold zSketch zIntSS zIntS
  rw [h1, h2, h3]
  simp [h4, h5, zIntS]
theorem l2Clip_eq (a b : Int) : F.spec_l2Clip a b = some (mxI 0 (mnI a b)) := by
  unfold F.spec_l2Clip
  simp only [l1Min_eq, l1Max_eq, Option.bind_some]
theorem clip_in (a b : Int) (hb : 0 ≤ b) : 0 ≤ mxI 0 (mnI a b) ∧ mxI 0 (mnI a b) ≤ b := by
  unfold mxI mnI
  constructor <;> (repeat' split) <;> simp_all <;> omega
theorem specAdd_any (a b : Int) : ∃ r, F.spec_Add a b = some r := by
  unfold F.spec_Add
  simp only [l2Clip_eq, l1Min_eq, Option.bind_some]
  exact ⟨_, rfl⟩
theorem half_pow {x : Int} {j : Nat} (h0 : 0 < x) (h : x < ((2 ^ (20 - j) : Nat) : Int)) : j < 20 ∧ x / 2 < ((2 ^ (20 - (j + 1)) : Nat) : Int) ∧ x < 1048576 := by
  have hj : j < 20 := by
    rcases Nat.lt_or_ge j 20 with h1 | h1
    · exact h1
    · rw [show 20 - j = 0 by omega] at h
      simp at h
      omega
  have hp : (2 : Nat) ^ (20 - j) ≤ 2 ^ 20 := Nat.pow_le_pow_right (by omega) (by omega)
  have hq : (2 : Nat) ^ (20 - j) = 2 ^ (20 - (j + 1)) * 2 := by rw [show 20 - j = (20 - (j + 1)) + 1 by omega, Nat.pow_succ]
  rw [show (2 : Nat) ^ 20 = 1048576 from rfl] at hp
  rw [hq] at h hp
  generalize (2 : Nat) ^ (20 - (j + 1)) = k at *
  omega
theorem specBucket_any (v : Int) : ∃ r, F.spec_BucketOf v = some r ∧ 0 ≤ r ∧ r < 8 := by
  unfold F.spec_BucketOf
  simp only [l2Clip_eq, Option.bind_some]
  have hc := clip_in v 1000000 (by omega)
  generalize mxI 0 (mnI v 1000000) = n at hc
  obtain ⟨y, h1, z, rfl, h2, h3⟩ := loopO_rule (step := F.spec_BucketOf.s3) (fun x => 0 ≤ x.1 ∧ ∃ j : Nat, x.2.1 = (j : Int) ∧ j ≤ 20 ∧ x.1 < ((2 ^ (20 - j) : Nat) : Int))
    (fun y => ∃ z : Int × Int × Unit, y = .inl z ∧ 0 ≤ z.2.1 ∧ z.2.1 ≤ 20) (fun x => x.1.toNat) (fun x hx => by
      obtain ⟨x2, x3, u⟩ := x
      obtain ⟨g1, j, g2, g3, g4⟩ := hx
      simp only at g1 g2 g4
      subst g2
      unfold F.spec_BucketOf.s3
      simp only
      by_cases hlt : 0 < x2
      · rw [show decide (x2 > 0) = true from decide_eq_true hlt]
        obtain ⟨k1, k2, hb⟩ := half_pow hlt g4
        have e : w64 (Int.tdiv x2 2) = x2 / 2 := by rw [Int.tdiv_eq_ediv_of_nonneg g1, w64_id (by omega) (by omega)]
        refine ⟨_, rfl, ⟨?_, j + 1, ?_, by omega, ?_⟩, ?_⟩
        all_goals simp only [e, w64_nat (show j < 9223372036854775807 by omega)]
        · omega
        · exact k2
        · omega
      · rw [show decide (x2 > 0) = false from decide_eq_false hlt]
        exact ⟨_, rfl, _, rfl, by simp only; omega, by simp only; omega⟩) (x := (n, 0, ())) ⟨hc.1, 0, rfl, by omega, by have := hc.2; show n < ((1048576 : Nat) : Int); omega⟩
  rw [h1]
  obtain ⟨z1, z2, u⟩ := z
  simp only at h2 h3
  simp only [afterO]
  refine ⟨_, rfl, ?_, ?_⟩
  all_goals rw [w64_id (x := z2 + 2) (by omega) (by omega), Int.tdiv_eq_ediv_of_nonneg (by omega), w64_id (by omega) (by omega)]
  all_goals omega
theorem specMix_any (v : Int) : ∃ m : Nat, F.spec_Mix v = some ((m : Nat) : Int) ∧ m < 4294967296 := by
  unfold F.spec_Mix
  simp only [l2Clip_eq, Option.bind_some]
  have hc := clip_in v 1000000 (by omega)
  generalize mxI 0 (mnI v 1000000) = n at hc
  have e1 : w64 (n * 40503) = n * 40503 := w64_id (by omega) (by omega)
  have e2 : w64 (n * 40503 + 12345) = n * 40503 + 12345 := w64_id (by omega) (by omega)
  rw [e1, e2]
  have e3 : Int.tmod (n * 40503 + 12345) 65536 = (n * 40503 + 12345) % 65536 := Int.tmod_eq_emod_of_nonneg (by omega)
  rw [e3]
  have hp0 : 0 ≤ (n * 40503 + 12345) % 65536 ∧ (n * 40503 + 12345) % 65536 < 65536 := by omega
  generalize (n * 40503 + 12345) % 65536 = p at hp0
  obtain ⟨q, rfl⟩ : ∃ q : Nat, p = (q : Int) := ⟨p.toNat, by omega⟩
  have e4 : w64 (Int.tdiv (q : Int) 256) = ((q / 256 : Nat) : Int) := by
    rw [Int.tdiv_eq_ediv_of_nonneg (by omega), w64_id (by omega) (by omega)]; omega
  rw [e4]
  obtain ⟨x1, x2⟩ := xor_nat q (q / 256) (by omega) (by omega)
  exact ⟨_, congrArg some x1, x2⟩
theorem specRank_any (v : Int) : ∃ r, F.spec_RankOf v = some r := by
  unfold F.spec_RankOf
  obtain ⟨m, hm, hlt⟩ := specMix_any v
  simp only [hm, Option.bind_some]
  by_cases h0 : m = 0
  · subst h0; exact ⟨17, rfl⟩
  rw [show ((m : Int) == 0) = false by rw [beq_eq_false_iff_ne]; omega]
  simp only [cond_false]
  obtain ⟨y, h1, z, rfl⟩ := loopO_rule (step := F.spec_RankOf.s5) (fun x => 0 < x.1 ∧ x.1 < 4294967296) (fun y => ∃ z : Int × Int × Unit, y = .inl z) (fun x => x.1.toNat) (fun x hx => by
      obtain ⟨x2, x3, u⟩ := x
      obtain ⟨g1, g2⟩ := hx
      simp only at g1 g2
      unfold F.spec_RankOf.s5
      simp only
      cases hb : (Int.tmod x2 2 == 0) with
      | false => exact ⟨_, rfl, _, rfl⟩
      | true =>
        have hm2 : x2 % 2 = 0 := by
          rw [beq_iff_eq, Int.tmod_eq_emod_of_nonneg (by omega)] at hb; exact hb
        have e : w64 (Int.tdiv x2 2) = x2 / 2 := by rw [Int.tdiv_eq_ediv_of_nonneg (by omega), w64_id (by omega) (by omega)]
        refine ⟨_, rfl, ⟨?_, ?_⟩, ?_⟩
        all_goals simp only [e]
        all_goals omega) (x := ((m : Int), 1, ())) ⟨by simp only; omega, by simp only; omega⟩
  rw [h1]
  exact ⟨_, rfl⟩
theorem skNew_eq : F.spec_SketchNew = some ((0, 0, 0, 0, List.replicate 8 0, List.replicate 8 0, [List.replicate 4 0, List.replicate 4 0], ()) : DSketch) := by
  unfold F.spec_SketchNew
  rw [show mk 8 8 8 = true from by decide, show mk 8 4 4 = true from by decide]; rfl
theorem mod_in {m : Nat} {n : Int} (h : 0 < n) : 0 ≤ Int.tmod (m : Int) n ∧ Int.tmod (m : Int) n < n := ⟨Int.tmod_nonneg _ (by omega), Int.tmod_lt_of_pos _ h⟩
theorem insLoop (v : Int) (t : DSketch) (s : DSketch) (h : skSh s) : ∃ z : Int × Int × DSketch × DSketch × Unit, loopO F.spec_Insert.s14 (v, 0, t, s, ()) = some (.inl z) ∧ skSh z.2.2.2.1 := by
  obtain ⟨y, h1, z, rfl, h2⟩ := loopO_rule (step := F.spec_Insert.s14) (fun x => x.1 = v ∧ 0 ≤ x.2.1 ∧ x.2.1 ≤ 2 ∧ skSh x.2.2.2.1)
    (fun y => ∃ z : Int × Int × DSketch × DSketch × Unit, y = .inl z ∧ skSh z.2.2.2.1) (fun x => 3 - x.2.1.toNat) (fun x hx => by
      obtain ⟨x14, x15, x16, x17, u⟩ := x
      obtain ⟨rfl, g1, g2, g3⟩ := hx
      simp only at g1 g2 g3
      unfold F.spec_Insert.s14
      simp only
      by_cases hlt : x15 < 2
      · obtain ⟨m, hm, hml⟩ := specMix_any x14
        obtain ⟨k1, k2, a, b, k3, k4, k5⟩ := g3
        have hw : w64 ((m : Int) + x15) = ((m + x15.toNat : Nat) : Int) := by rw [w64_id (by omega) (by omega)]; omega
        obtain ⟨c1, c2⟩ := mod_in (m := m + x15.toNat) (n := 4) (by omega)
        simp only [decide_eq_true hlt, cond_true, hm, Option.bind_some, hw, k3]
        generalize Int.tmod ((m + x15.toNat : Nat) : Int) 4 = c at c1 c2
        rw [inb_of (i := x15) (n := [a, b].length) g1 (by simp only [List.length_cons, List.length_nil]; omega)]
        have hx : x15 = 0 ∨ x15 = 1 := by omega
        rcases hx with rfl | rfl
        · obtain ⟨q, hq⟩ := specAdd_any (a.getD c.toNat 0) 1
          simp only [chk_true, Int.toNat_zero, List.getD_cons_zero]
          rw [inb_of c1 (by rw [k4]; omega), hq]
          refine ⟨_, rfl, ⟨rfl, (show (0 : Int) ≤ w64 (0 + 1) by decide), (show w64 (0 + 1) ≤ 2 by decide), k1, k2, a.set c.toNat q, b, rfl, by rw [List.length_set, k4], k5⟩, (show 3 - (w64 (0 + 1)).toNat < 3 - (0 : Int).toNat by decide)⟩
        · obtain ⟨q, hq⟩ := specAdd_any (b.getD c.toNat 0) 1
          have e1 : (1 : Int).toNat = 1 := rfl
          simp only [chk_true, e1, List.getD_cons_succ, List.getD_cons_zero]
          rw [inb_of c1 (by rw [k5]; omega), hq]
          refine ⟨_, rfl, ⟨rfl, (show (0 : Int) ≤ w64 (1 + 1) by decide), (show w64 (1 + 1) ≤ 2 by decide), k1, k2, a, b.set c.toNat q, rfl, k4, by rw [List.length_set, k5]⟩, (show 3 - (w64 (1 + 1)).toNat < 3 - (1 : Int).toNat by decide)⟩
      · rw [show decide (x15 < 2) = false from decide_eq_false hlt]
        exact ⟨_, rfl, _, rfl, g3⟩) (x := (v, 0, t, s, ())) ⟨rfl, by simp only; omega, by simp only; omega, h⟩
  exact ⟨z, h1, h2⟩
theorem specInsert_any (s : DSketch) (v : Int) (h : skSh s) : ∃ r : DSketch × Bool, F.spec_Insert s v = some r ∧ skSh r.1 := by
  have hz := skSh_z h
  obtain ⟨b, hb, _, _⟩ := skOk_same s (by omega)
  unfold F.spec_Insert
  simp only [l3Copy_eq s (by omega), hb, l1In_eq, Option.bind_some]
  cases b with
  | false => exact ⟨_, rfl, h⟩
  | true =>
    cases inR 0 1000000 v with
    | false => exact ⟨_, rfl, h⟩
    | true =>
      obtain ⟨a1, e1⟩ := specAdd_any s.1 1
      obtain ⟨a2, e2⟩ := specAdd_any s.2.1 v
      obtain ⟨k, e3, k0, k1⟩ := specBucket_any v
      obtain ⟨a3, e4⟩ := specAdd_any (s.2.2.2.2.1.getD k.toNat 0) 1
      obtain ⟨m, e5, hm⟩ := specMix_any v
      obtain ⟨ra, e6⟩ := specRank_any v
      obtain ⟨c1, c2⟩ := mod_in (m := m) (n := 8) (by omega)
      have i1 : inb k (List.length s.2.2.2.2.1) = true := inb_of k0 (by rw [h.1]; omega)
      have i2 : inb (Int.tmod (m : Int) 8) (List.length s.2.2.2.2.2.1) = true := inb_of c1 (by rw [h.2.1]; omega)
      simp only [Bool.not_true, cond_false, e1, e2, e3, e4, e5, e6, l1Min_eq, l1Max_eq, Option.bind_some, i1, i2, chk_true]
      have sh : ∀ w1 w2 w3 w4 w5 w6 : Int, skSh (w1, w2, w3, w4, s.2.2.2.2.1.set k.toNat w5, s.2.2.2.2.2.1.set (Int.tmod (m : Int) 8).toNat w6, s.2.2.2.2.2.2.1, s.2.2.2.2.2.2.2) := fun w1 w2 w3 w4 w5 w6 => by
        obtain ⟨h1, h2, h3⟩ := h
        exact ⟨by simp only [List.length_set]; exact h1, by simp only [List.length_set]; exact h2, h3⟩
      cases (s.1 == 0) with
      | true =>
        obtain ⟨z, f1, f2⟩ := insLoop v (0, 0, 0, 0, [], [], [], ()) _ (sh a1 a2 v (mxI s.2.2.2.1 v) a3 (mxI (List.getD s.2.2.2.2.2.1 (Int.tmod (m : Int) 8).toNat 0) ra))
        simp only [cond_true]
        refine ⟨(z.2.2.2.1, true), (congrArg (fun z => afterO z _) f1).trans rfl, f2⟩
      | false =>
        obtain ⟨z, f1, f2⟩ := insLoop v (0, 0, 0, 0, [], [], [], ()) _ (sh a1 a2 (mnI s.2.2.1 v) (mxI s.2.2.2.1 v) a3 (mxI (List.getD s.2.2.2.2.2.1 (Int.tmod (m : Int) 8).toNat 0) ra))
        simp only [cond_false]
        refine ⟨(z.2.2.2.1, true), (congrArg (fun z => afterO z _) f1).trans rfl, f2⟩
theorem specSketched_any (l : List Int) (hl : l.length ≤ 1048576) : ∃ s : DSketch, F.spec_Sketched l = some s ∧ skSh s := by
  unfold F.spec_Sketched
  simp only [skNew_eq, Option.bind_some]
  obtain ⟨y, h1, z, rfl, h2⟩ := loopO_rule (step := F.spec_Sketched.s3) (fun x => x.1 = l ∧ 0 ≤ x.2.1 ∧ x.2.1 ≤ (l.length : Int) ∧ skSh x.2.2.2.1)
    (fun y => ∃ z : List Int × Int × DSketch × DSketch × Unit, y = .inl z ∧ skSh z.2.2.2.1) (fun x => l.length + 1 - x.2.1.toNat) (fun x hx => by
      obtain ⟨x2, x3, x4, x5, u⟩ := x
      obtain ⟨rfl, g1, g2, g3⟩ := hx
      simp only at g1 g2 g3
      have hl : x2.length ≤ 1048576 := hl
      unfold F.spec_Sketched.s3
      simp only
      by_cases hlt : x3 < (x2.length : Int)
      · rw [show decide (x3 < len x2) = true from decide_eq_true hlt, inb_of g1 hlt]
        obtain ⟨r, hr, hs⟩ := specInsert_any x5 (x2.getD x3.toNat 0) g3
        simp only [cond_true, chk_true, hr, Option.bind_some]
        refine ⟨_, rfl, ⟨rfl, ?_, ?_, hs⟩, ?_⟩
        all_goals simp only
        all_goals rw [w64_id (by omega) (by omega)]
        · omega
        · omega
        · omega
      · rw [show decide (x3 < len x2) = false from decide_eq_false hlt]
        exact ⟨_, rfl, _, rfl, g3⟩) (x := (l, 0, (0, 0, 0, 0, [], [], [], ()), (0, 0, 0, 0, List.replicate 8 0, List.replicate 8 0, [List.replicate 4 0, List.replicate 4 0], ()), ())) ⟨rfl, by simp only; omega, by simp only; omega, by simp, by simp, _, _, rfl, by simp, by simp⟩
  refine ⟨z.2.2.2.1, (congrArg (fun z => afterO z _) h1).trans rfl, h2⟩
theorem l3Values_ok (s : DL1Cur) (hs : srcOk s) : ∃ r : List Int × DL1Cur, F.spec_l3Values s = some r ∧ r.1.length ≤ 10 ∧ srcOk r.2 := by
  unfold F.spec_l3Values
  obtain ⟨v1, s1, e1, a1, b1, k1⟩ := l1Below_ok s hs 6 (by omega) (by omega)
  simp only [e1, Option.bind_some]
  obtain ⟨y, h1, z, rfl, h2, h3⟩ := loopO_rule (step := F.spec_l3Values.s4) (fun x => 0 ≤ x.2.2.1 ∧ x.2.1 ≤ 6 ∧ x.2.2.1 ≤ 7 ∧ srcOk x.2.2.2.1 ∧ (x.1.length : Int) ≤ x.2.2.1)
    (fun y => ∃ z : List Int × Int × Int × DL1Cur × Unit, y = .inl z ∧ srcOk z.2.2.2.1 ∧ z.1.length ≤ 10) (fun x => 8 - x.2.2.1.toNat) (fun x hx => by
      obtain ⟨x2, x3, x4, x5, u⟩ := x
      obtain ⟨g1, g2, g3, g4, g5⟩ := hx
      simp only at g1 g2 g3 g4 g5
      unfold F.spec_l3Values.s4
      simp only
      by_cases hlt : x4 < x3
      · rw [decide_eq_true hlt]
        obtain ⟨w1, t1, f1, _, _, j1⟩ := l1Byte_ok x5 g4
        obtain ⟨w2, t2, f2, _, j2⟩ := l1Pick_ok t1 j1 [0, 1, 7, 8, 100, 5000, 1000000, w1, 1000001, -1] (by simp) (by simp)
        simp only [cond_true, f1, f2, Option.bind_some, List.length_cons, List.length_nil]
        rw [fits_of (by omega)]
        refine ⟨_, rfl, ⟨?_, g2, ?_, j2, ?_⟩, ?_⟩
        all_goals simp only [List.length_append, List.length_cons, List.length_nil]
        all_goals rw [w64_id (by omega) (by omega)]
        · omega
        · omega
        · omega
        · omega
      · rw [decide_eq_false hlt]
        exact ⟨_, rfl, _, rfl, g4, by simp only; omega⟩) (x := ([], v1, 0, s1, ())) ⟨Int.le_refl 0, by simp only; omega, by simp, k1, by simp⟩
  refine ⟨(z.1, z.2.2.2.1), (congrArg (fun z => afterO z _) h1).trans rfl, h3, h2⟩
theorem l3Right_ok (s : DL1Cur) (hs : srcOk s) : ∃ r : DSketch × DL1Cur, F.spec_l3Right s = some r ∧ skSh r.1 ∧ srcOk r.2 := by
  unfold F.spec_l3Right
  obtain ⟨r, e1, l1, k1⟩ := l3Values_ok s hs
  obtain ⟨sk, e2, h2⟩ := specSketched_any r.1 (by omega)
  obtain ⟨b, s3, e3, k3⟩ := l1Once_ok r.2 k1 16 (by omega) (by omega)
  simp only [e1, e2, e3, Option.bind_some]
  cases b with
  | false => exact ⟨_, rfl, h2, k3⟩
  | true =>
    cases decide (sk.1 > 0) with
    | false => exact ⟨_, rfl, h2, k3⟩
    | true =>
      obtain ⟨v4, s4, e4, _, _, k4⟩ := l1Below_ok s3 k3 2 (by omega) (by omega)
      simp only [cond_true, e4, Option.bind_some]
      rw [inb_of (i := 3) (by omega) (by rw [h2.1]; omega)]
      refine ⟨_, rfl, ⟨by simp only [List.length_set]; exact h2.1, h2.2.1, h2.2.2⟩, k4⟩
theorem l3Draw_ok (s : DL1Cur) (hs : srcOk s) : ∃ r : DSketch × DL1Cur, F.spec_l3Draw s = some r ∧ zSketch r.1 ≤ 40 ∧ srcOk r.2 := by
  unfold F.spec_l3Draw
  obtain ⟨r, e1, h1, k1⟩ := l3Right_ok s hs
  obtain ⟨v2, s2, e2, a2, b2, k2⟩ := l1Below_ok r.2 k1 16 (by omega) (by omega)
  have hz := skSh_z h1
  obtain ⟨⟨c, su, mn, mx, hi, re, ro, u⟩, cu⟩ := r
  obtain ⟨g1, g2, a, b, g3, g4, g5⟩ := h1
  simp only at g1 g2 g3 e2 k2
  subst g3
  have zz : ∀ (c su mn mx : Int) (hi re : List Int) (ro : List (List Int)), zSketch (c, su, mn, mx, hi, re, ro, u) = hi.length + re.length + (ro.length + (ro.map List.length).sum) := fun _ _ _ _ _ _ _ => rfl
  simp only [e1, e2, Option.bind_some]
  cases (v2 == 0) with
  | true =>
    obtain ⟨v3, s3, e3, _, k3⟩ := l1Pick_ok s2 k2 [-1, 1000001, 500] (by simp) (by simp)
    simp only [cond_true, e3, Option.bind_some]
    exact ⟨_, rfl, by simp only [zz, g1, g2, g4, g5, List.length_cons, List.length_nil, List.map_cons, List.map_nil, List.sum_cons, List.sum_nil]; omega, k3⟩
  | false =>
  simp only [cond_false]
  cases (v2 == 1) with
  | true =>
    obtain ⟨v3, s3, e3, a3, b3, k3⟩ := l1Below_ok s2 k2 8 (by omega) (by omega)
    obtain ⟨v4, s4, e4, _, k4⟩ := l1Pick_ok s3 k3 [-1, 17, 18] (by simp) (by simp)
    simp only [cond_true, e3, e4, Option.bind_some]
    rw [inb_of a3 (by rw [g2]; omega)]
    exact ⟨_, rfl, by simp only [zz, g1, g2, g4, g5, List.length_set, List.length_cons, List.length_nil, List.map_cons, List.map_nil, List.sum_cons, List.sum_nil]; omega, k4⟩
  | false =>
  simp only [cond_false]
  cases (v2 == 2) with
  | true =>
    simp only [cond_true, List.length_cons, List.length_nil]
    rw [fits_of (by omega)]
    exact ⟨_, rfl, by simp only [zz, g1, g2, g4, g5, List.length_append, List.length_cons, List.length_nil, List.map_cons, List.map_nil, List.sum_cons, List.sum_nil]; omega, k2⟩
  | false =>
  simp only [cond_false]
  cases (v2 == 3) with
  | true =>
    simp only [cond_true]
    exact ⟨_, rfl, by simp only [zz, g1, g2, g4, g5, List.drop_zero, List.take_succ_cons, List.take_zero, Nat.sub_zero, List.length_cons, List.length_nil, List.map_cons, List.map_nil, List.sum_cons, List.sum_nil]; omega, k2⟩
  | false =>
  simp only [cond_false]
  cases (v2 == 4) with
  | true =>
    obtain ⟨v3, s3, e3, _, k3⟩ := l1Pick_ok s2 k2 [0, -1, 1000000001] (by simp) (by simp)
    simp only [cond_true, e3, Option.bind_some]
    exact ⟨_, rfl, by simp only [zz, g1, g2, g4, g5, List.length_cons, List.length_nil, List.map_cons, List.map_nil, List.sum_cons, List.sum_nil]; omega, k3⟩
  | false =>
  simp only [cond_false]
  cases (v2 == 5) with
  | true =>
    obtain ⟨v3, s3, e3, _, k3⟩ := l1Pick_ok s2 k2 [-1, 3, 1000000001] (by simp) (by simp)
    simp only [cond_true, e3, Option.bind_some]
    rw [show inb 1 [a, b].length = true from rfl]
    simp only [chk_true, List.getD_cons_succ, List.getD_cons_zero]
    rw [inb_of (i := 2) (by omega) (by rw [g5]; omega)]
    exact ⟨_, rfl, by simp only [zz, g1, g2, g4, g5, List.set_cons_succ, List.set_cons_zero, List.length_set, List.length_cons, List.length_nil, List.map_cons, List.map_nil, List.sum_cons, List.sum_nil]; omega, k3⟩
  | false =>
    exact ⟨_, rfl, by simp only [zz, g1, g2, g4, g5, List.length_cons, List.length_nil, List.map_cons, List.map_nil, List.sum_cons, List.sum_nil]; omega, k2⟩
theorem l6Right_ok (s : DL1Cur) (hs : srcOk s) : ∃ r : DItem × DL1Cur, F.spec_l6Right s = some r ∧ skSh r.1.2.2.2.2.1 ∧ srcOk r.2 := by
  unfold F.spec_l6Right
  obtain ⟨v1, s1, e1, _, _, k1⟩ := l1Below_ok s hs 8 (by omega) (by omega)
  obtain ⟨v2, s2, e2, _, _, k2⟩ := l1Below_ok s1 k1 2 (by omega) (by omega)
  obtain ⟨v3, s3, e3, _, _, k3⟩ := l1Below_ok s2 k2 2 (by omega) (by omega)
  obtain ⟨v4, s4, e4, _, _, k4⟩ := l1Below_ok s3 k3 3 (by omega) (by omega)
  obtain ⟨r, e5, h5, k5⟩ := l3Values_ok s4 k4
  obtain ⟨sk, e6, h6⟩ := specSketched_any r.1 (by omega)
  simp only [e1, e2, e3, e4, e5, e6, Option.bind_some]
  exact ⟨_, rfl, h6, k5⟩
theorem l6Draw_ok (s : DL1Cur) (hs : srcOk s) : ∃ r : DItem × DL1Cur, F.spec_l6Draw s = some r ∧ zItem r.1 ≤ 40 ∧ srcOk r.2 := by
  unfold F.spec_l6Draw
  obtain ⟨r, e1, h1, k1⟩ := l6Right_ok s hs
  obtain ⟨v2, s2, e2, _, _, k2⟩ := l1Below_ok r.2 k1 14 (by omega) (by omega)
  have hz := skSh_z h1
  have zz : ∀ x : DItem, zItem x = zSketch x.2.2.2.2.1 := fun _ => rfl
  simp only [e1, e2, Option.bind_some]
  cases (v2 == 0) with
  | true =>
    obtain ⟨v3, s3, e3, _, k3⟩ := l1Pick_ok s2 k2 [0, 60, 61, -1] (by simp) (by simp)
    simp only [cond_true, e3, Option.bind_some]
    exact ⟨_, rfl, by simp only [zz]; omega, k3⟩
  | false =>
  simp only [cond_false]
  cases (v2 == 1) with
  | true =>
    obtain ⟨v3, s3, e3, _, k3⟩ := l1Pick_ok s2 k2 [-1, 2] (by simp) (by simp)
    simp only [cond_true, e3, Option.bind_some]
    exact ⟨_, rfl, by simp only [zz]; omega, k3⟩
  | false =>
  simp only [cond_false]
  cases (v2 == 2) with
  | true =>
    obtain ⟨v3, s3, e3, _, k3⟩ := l1Pick_ok s2 k2 [-1, 4, 5] (by simp) (by simp)
    simp only [cond_true, e3, Option.bind_some]
    exact ⟨_, rfl, by simp only [zz]; omega, k3⟩
  | false =>
  simp only [cond_false]
  cases (v2 == 3) with
  | true =>
    obtain ⟨v3, s3, e3, _, k3⟩ := l1Pick_ok s2 k2 [-1, 20, 21] (by simp) (by simp)
    simp only [cond_true, e3, Option.bind_some]
    exact ⟨_, rfl, by simp only [zz]; omega, k3⟩
  | false =>
  simp only [cond_false]
  cases (v2 == 4) with
  | true =>
    obtain ⟨q, e3, h3, k3⟩ := l3Draw_ok s2 k2
    simp only [cond_true, e3, Option.bind_some]
    exact ⟨_, rfl, by simp only [zz]; omega, k3⟩
  | false => exact ⟨_, rfl, by simp only [zz]; omega, k2⟩
theorem l5Right_ok (s : DL1Cur) (hs : srcOk s) : ∃ r : List DSpan × DL1Cur, F.spec_l5Right s = some r ∧ r.1.length ≤ 10 ∧ srcOk r.2 := by
  unfold F.spec_l5Right
  obtain ⟨v1, s1, e1, a1, b1, k1⟩ := l1Below_ok s hs 7 (by omega) (by omega)
  simp only [e1, Option.bind_some]
  obtain ⟨y, h1, z, rfl, h2, h3⟩ := loopO_rule (step := F.spec_l5Right.s4) (fun x => 0 ≤ x.2.2.1 ∧ x.2.1 ≤ 6 ∧ x.2.2.1 ≤ 7 ∧ srcOk x.2.2.2.1 ∧ (x.1.length : Int) ≤ x.2.2.1)
    (fun y => ∃ z : List DSpan × Int × Int × DL1Cur × Unit, y = .inl z ∧ srcOk z.2.2.2.1 ∧ z.1.length ≤ 10)
    (fun x => 8 - x.2.2.1.toNat) (fun x hx => by
      obtain ⟨x2, x3, x4, x5, u⟩ := x
      obtain ⟨g1, g2, g3, g4, g5⟩ := hx
      simp only at g1 g2 g3 g4 g5
      unfold F.spec_l5Right.s4
      simp only
      by_cases hlt : x4 < x3
      · rw [decide_eq_true hlt]
        obtain ⟨w1, t1, f1, _, _, j1⟩ := l1Below_ok x5 g4 20 (by omega) (by omega)
        obtain ⟨w2, t2, f2, _, _, j2⟩ := l1Below_ok t1 j1 20 (by omega) (by omega)
        obtain ⟨w3, t3, f3, _, _, j3⟩ := l1Below_ok t2 j2 10 (by omega) (by omega)
        obtain ⟨w4, t4, f4, _, j4⟩ := l1Pick_ok t3 j3 [w1, w2, w64 (9990 + w3)] (by simp) (by simp)
        obtain ⟨w5, t5, f5, _, _, j5⟩ := l1Below_ok t4 j4 3 (by omega) (by omega)
        obtain ⟨q, fq, hq⟩ := l5Put_any x2 (w4, mnI 9999 (w64 (w4 + w5)), ()) (by omega)
        simp only [cond_true, f1, f2, f3, f4, f5, l1Min_eq, Option.bind_some]
        obtain ⟨q, fq, hq⟩ := l5Put_any x2 (w4, mnI (w64 (w4 + w5)) 9999, ()) (by omega)
        simp only [fq, Option.bind_some]
        refine ⟨_, rfl, ⟨?_, g2, ?_, j5, ?_⟩, ?_⟩
        all_goals simp only
        all_goals rw [w64_id (by omega) (by omega)]
        · omega
        · omega
        · omega
        · omega
      · rw [decide_eq_false hlt]
        exact ⟨_, rfl, _, rfl, g4, by simp only; omega⟩) (x := ([], v1, 0, s1, ())) ⟨Int.le_refl 0, by simp only; omega, by simp, k1, by simp⟩
  rw [h1]
  obtain ⟨z4, z5, z6, z7, u⟩ := z
  exact ⟨_, rfl, h3, h2⟩
theorem l5Draw_ok (s : DL1Cur) (hs : srcOk s) : ∃ r : List DSpan × DL1Cur, F.spec_l5Draw s = some r ∧ r.1.length ≤ 11 ∧ srcOk r.2 := by
  unfold F.spec_l5Draw
  obtain ⟨r, e1, hr, k1⟩ := l5Right_ok s hs
  obtain ⟨b, s2, e2, k2⟩ := l1Once_ok r.2 k1 8 (by omega) (by omega)
  simp only [e1, e2, Option.bind_some]
  cases b with
  | false => exact ⟨_, rfl, by simp only; omega, k2⟩
  | true =>
    obtain ⟨v3, s3, e3, _, k3⟩ := l1Pick_ok s2 k2 [-1, 3, 10000] (by simp) (by simp)
    obtain ⟨v4, s4, e4, _, k4⟩ := l1Pick_ok s3 k3 [5, 10000, 9223372036854775807] (by simp) (by simp)
    simp only [cond_true, e3, e4, Option.bind_some, List.length_cons, List.length_nil]
    rw [fits_of (by omega)]
    exact ⟨_, rfl, by simp; omega, k4⟩
def sealed (a : DAgent) (c k w : Int) (s : DSketch) : DAgent := (a.1, a.2.1, a.2.2.1, a.2.2.2.1, a.2.2.2.2.1 ++ [(((a.2.2.2.2.1.length : Nat) : Int) + 1, c, k, w, s, ())], a.2.2.2.2.2)
theorem sealed_z {a : DAgent} (h : zAgent a ≤ 1048576) {c k w : Int} {s : DSketch} (hs : zSketch s ≤ 1048576) : AgZ (sealed a c k w s) := by
  have hz := agZ_of h
  have hl : zItemS a.2.2.2.2.1 + a.2.2.2.2.2.1.length ≤ 1048576 := h
  have hn : a.2.2.2.2.1.length ≤ 1048576 := by unfold zItemS at hl; omega
  refine ⟨by show (a.2.2.2.2.1 ++ [_]).length ≤ _; rw [List.length_append, List.length_singleton]; omega, fun e he => ?_, hz.tk⟩
  rcases List.mem_append.1 (show e ∈ a.2.2.2.2.1 ++ [_] from he) with h1 | h1
  · exact hz.it e h1
  · rw [List.mem_singleton.1 h1]; exact hs
theorem zAg (a : DAgent) : zAgent a = zItemS a.2.2.2.2.1 + a.2.2.2.2.2.1.length := rfl
theorem zIt_app (l m : List DItem) : zItemS (l ++ m) = zItemS l + zItemS m := by
  unfold zItemS
  rw [List.length_append, List.map_append, List.sum_append]
  omega
theorem zIt_one (x : DItem) : zItemS [x] = 1 + zSketch x.2.2.2.2.1 := by
  simp [zItemS, zItem]
theorem specSeal_any (a : DAgent) (c k w : Int) (s : DSketch) (h : zAgent a ≤ 1048576) (hs : zSketch s ≤ 1048576) : ∃ r : DAgent × Int, F.spec_Seal a c k w s = some r ∧ zAgent r.1 ≤ zAgent a + 1 + zSketch s ∧ r.1.2.2.2.2.2.1 = a.2.2.2.2.2.1 := by
  have hl : zItemS a.2.2.2.2.1 + a.2.2.2.2.2.1.length ≤ 1048576 := h
  have hn : a.2.2.2.2.1.length ≤ 1048576 := by unfold zItemS at hl; omega
  have hw : w64 (len a.2.2.2.2.1 + 1) = ((a.2.2.2.2.1.length : Nat) : Int) + 1 := w64_id (by simp only [len]; omega) (by simp only [len]; omega)
  unfold F.spec_Seal
  rw [specAg_dec a h, l8Copy_eq a h, l3Copy_eq s hs, hw]
  simp only [Option.bind_some]
  by_cases hr : AgR a
  case neg =>
    rw [decB_neg hr]
    exact ⟨_, rfl, by simp only; omega, rfl⟩
  rw [decB_pos hr]
  simp only [Bool.not_true, cond_false, List.length_cons, List.length_nil]
  rw [fits_of (by omega)]
  have e : (a.1, a.2.1, a.2.2.1, a.2.2.2.1, a.2.2.2.2.1 ++ [(((a.2.2.2.2.1.length : Nat) : Int) + 1, c, k, w, s, ())], a.2.2.2.2.2) = sealed a c k w s := rfl
  simp only [chk_true]
  rw [e, specAg_decZ _ (sealed_z h hs)]
  by_cases hq : AgR (sealed a c k w s)
  · rw [decB_pos hq]
    refine ⟨_, rfl, ?_, rfl⟩
    rw [zAg, zAg]
    show zItemS (a.2.2.2.2.1 ++ [_]) + a.2.2.2.2.2.1.length ≤ _
    rw [zIt_app, zIt_one]
    simp only
    omega
  · rw [decB_neg hq]
    exact ⟨_, rfl, by simp only; omega, rfl⟩
def i6 (x : Int) : Prop := -9223372036854775808 ≤ x ∧ x ≤ 9223372036854775807
def i6S (l : List Sp) : Prop := ∀ e ∈ l, i6 e.1 ∧ i6 e.2.1
theorem i6_w64 (x : Int) : i6 (w64 x) := by
  unfold i6 w64 IntKind.wrap
  simp [IntKind.bits, IntKind.signed]
  omega
theorem itoa_size (n : Int) (h : i6 n) : (itoaS n).size ≤ 21 := by
  show (Go.Lib.itoa n).toArray.size ≤ 21
  rw [List.size_toArray]
  unfold Go.Lib.itoa
  obtain ⟨h1, h2⟩ := h
  split
  · rw [List.length_cons, Go.Lib.decDigits_length]
    have := Go.Lib.nDigits_le20 n.natAbs (by omega)
    omega
  · rw [Go.Lib.decDigits_length]
    have := Go.Lib.nDigits_le20 n.toNat (by omega)
    omega
theorem digits_eq (n : Int) (h : i6 n) : F.impl_Digits n = some (itoaS n) := by
  unfold F.impl_Digits F.strconv_Itoa
  rw [decide_eq_true h.1, decide_eq_true h.2]
  rfl
theorem lens_le (l : List ByteArray) (h : ∀ t ∈ l, t.size ≤ 64) : Go.Lib.lens (l.map (·.data.toList)) ≤ 64 * l.length := by
  induction l with
  | nil => exact Nat.le_refl _
  | cons x l ih =>
    have h1 := ih (fun t ht => h t (List.mem_cons_of_mem _ ht))
    have h2 := h x (List.mem_cons_self ..)
    have h3 : x.data.toList.length = x.size := Array.length_toList
    unfold Go.Lib.lens at *
    simp only [List.map_cons, List.sum_cons, List.length_cons] at *
    omega
theorem join_small (l : List ByteArray) (sep : ByteArray) (hs : sep.size ≤ 64) (h : ∀ t ∈ l, t.size ≤ 64) (hl : l.length ≤ 1048576) : F.strings_Join l sep = some (joinT l sep) := by
  have h3 : sep.data.toList.length = sep.size := Array.length_toList
  have hj : (joinL l sep).length ≤ 140737488355328 := by
    unfold joinL
    cases l with
    | nil => simp [Go.Lib.join_nil]
    | cons x l =>
      have := lens_le (x :: l) h
      have hl : l.length + 1 ≤ 1048576 := hl
      have hm : sep.data.toList.length * (l.map (·.data.toList)).length ≤ 64 * 1048576 := Nat.mul_le_mul (by omega) (by rw [List.length_map]; omega)
      rw [List.map_cons, Go.Lib.join_length]
      rw [List.map_cons, List.length_cons] at this
      omega
  unfold F.strings_Join
  rw [decide_eq_true (show l.length ≤ 140737488355328 by omega), decide_eq_true hj]
  rfl
theorem text_any (l : List Sp) (h : l.length ≤ 65536) (hr : i6S l) : ∃ t, F.impl_SetText l = some t := by
  unfold F.impl_SetText
  obtain ⟨y, h1, z, rfl, h2, h3⟩ := loopO_rule (step := F.impl_SetText.s3) (fun x => x.2.1 = l ∧ x.2.2.1 = len l ∧ 0 ≤ x.2.2.2.1 ∧ x.2.2.2.1 ≤ len l ∧ (x.1.length : Int) ≤ x.2.2.2.1 ∧ ∀ t ∈ x.1, t.size ≤ 64)
    (fun y => ∃ z : List ByteArray × List DSpan × Int × Int × Unit, y = .inl z ∧ z.1.length ≤ 65536 ∧ ∀ t ∈ z.1, t.size ≤ 64)
    (fun x => l.length - x.2.2.2.1.toNat) (fun x hx => by
      obtain ⟨x1, x2, x3, x4, u⟩ := x
      obtain ⟨rfl, g2, g3, g4, g5, g6⟩ := hx
      simp only at g2 g3 g4 g5 g6
      subst g2
      unfold F.impl_SetText.s3
      simp only
      have h : x2.length ≤ 65536 := h
      have hr : i6S x2 := hr
      simp only [len] at g4
      by_cases hlt : x4 < len x2
      · have hlt' : x4 < (x2.length : Int) := hlt
        rw [decide_eq_true hlt, inb_of g3 hlt']
        have hm : x2.getD x4.toNat (0, 0, ()) ∈ x2 := by
          rw [getD_at (show x4.toNat < x2.length by omega)]
          exact List.getElem_mem _
        obtain ⟨r1, r2⟩ := hr _ hm
        have s1 := itoa_size _ r1
        have s2 := itoa_size _ r2
        simp only [cond_true, chk_true, digits_eq _ r1, digits_eq _ r2, Option.bind_some]
        generalize itoaS (x2.getD x4.toNat (0, 0, ())).1 = A at s1 ⊢
        generalize itoaS (x2.getD x4.toNat (0, 0, ())).2.1 = B at s2 ⊢
        have e1 : ByteArray.size (ByteArray.mk #[45]) = 1 := rfl
        have e2 : ByteArray.size ((ByteArray.mk #[45]) ++ B) = 1 + B.size := by rw [ByteArray.size_append, e1]
        have e3 : ByteArray.size (A ++ ((ByteArray.mk #[45]) ++ B)) = A.size + (1 + B.size) := by rw [ByteArray.size_append, e2]
        cases (x2.getD x4.toNat (0, 0, ())).2.1 != (x2.getD x4.toNat (0, 0, ())).1 with
        | true =>
          simp only [cond_true]
          rw [decide_eq_true (show ByteArray.size (ByteArray.mk #[45]) + B.size ≤ 9223372036854775807 by omega), decide_eq_true (show A.size + ByteArray.size ((ByteArray.mk #[45]) ++ B) ≤ 9223372036854775807 by omega), fits_of (by simp only [List.length_cons, List.length_nil]; omega)]
          refine ⟨_, rfl, ⟨rfl, rfl, ?_, ?_, ?_, ?_⟩, ?_⟩
          all_goals simp only [len]
          all_goals first
            | (intro t ht
               rcases List.mem_append.1 ht with ht | ht
               · exact g6 t ht
               · rw [List.mem_singleton.1 ht, e3]; omega)
            | (rw [w64_id (by omega) (by omega)]
               first
                 | omega
                 | (rw [List.length_append, List.length_singleton]; omega))
        | false =>
          simp only [cond_false]
          rw [fits_of (by simp only [List.length_cons, List.length_nil]; omega)]
          refine ⟨_, rfl, ⟨rfl, rfl, ?_, ?_, ?_, ?_⟩, ?_⟩
          all_goals simp only [len]
          all_goals first
            | (intro t ht
               rcases List.mem_append.1 ht with ht | ht
               · exact g6 t ht
               · rw [List.mem_singleton.1 ht]; omega)
            | (rw [w64_id (by omega) (by omega)]
               first
                 | omega
                 | (rw [List.length_append, List.length_singleton]; omega))
      · rw [decide_eq_false hlt]
        exact ⟨_, rfl, _, rfl, by simp only; omega, g6⟩) (x := ([], l, len l, 0, ())) ⟨rfl, rfl, Int.le_refl 0, by simp [len], by simp, by simp⟩
  rw [h1]
  obtain ⟨z1, z2, z3, z4, u⟩ := z
  simp only [afterO]
  rw [join_small z1 (ByteArray.mk #[44]) (by decide) h3 (by simp only at h2; omega)]
  exact ⟨_, rfl⟩
theorem l5Put_i6 (a : List Sp) (x : Sp) (h : a.length ≤ 1048576) (ha : i6S a) (hx : i6 x.1 ∧ i6 x.2.1) : ∃ r, F.spec_l5Put a x = some r ∧ r.length ≤ a.length + 1 ∧ i6S r := by
  obtain ⟨r, h1, h2⟩ := l5Put_any a x h
  refine ⟨r, h1, h2, ?_⟩
  unfold F.spec_l5Put at h1
  have key : ∀ (n i : Nat) (acc : List Sp) (p : Bool) (c : Sp), a.length - i = n → i ≤ a.length → acc.length ≤ i + (if p then 1 else 0) → i6S acc → (i6 c.1 ∧ i6 c.2.1) → ∃ acc' p' c', iterO F.spec_l5Put.s4 (n + 1) (a, acc, p, (i : Int), c, ()) = some (.inl (a, acc', p', ((a.length : Nat) : Int), c', ())) ∧ acc'.length ≤ a.length + (if p' then 1 else 0) ∧ i6S acc' ∧ i6 c'.1 ∧ i6 c'.2.1 := by
    intro n
    induction n with
    | zero =>
      intro i acc p c hi hle hl hacc hc
      have hi' : i = a.length := by omega
      subst hi'
      refine ⟨acc, p, c, ?_, hl, hacc, hc⟩
      unfold iterO F.spec_l5Put.s4
      simp only [ge_len, cond_false]
    | succ n ih =>
      intro i acc p c hi hle hl hacc hc
      have hk : i < a.length := by omega
      have hl2 : acc.length ≤ i + 1 := by cases p <;> simp at hl <;> omega
      have hai := ha _ (List.getElem_mem hk)
      have app : ∀ {l m : List Sp}, i6S l → i6S m → i6S (l ++ m) := fun hl hm e he => (List.mem_append.1 he).elim (hl e) (hm e)
      have one : ∀ {e : Sp}, (i6 e.1 ∧ i6 e.2.1) → i6S [e] := fun he e' h' => by rw [List.mem_singleton.1 h']; exact he
      rw [iterO, put_step a acc p c i hk h (by omega)]
      simp only
      split
      · exact ih (i + 1) _ p c (by omega) (by omega) (by rw [List.length_append, List.length_singleton]; omega) (app hacc (one hai)) hc
      · split
        · refine ih (i + 1) _ true c (by omega) (by omega) ?_ ?_ hc
          · rw [List.length_append, List.length_singleton]
            cases p <;> simp at hl ⊢ <;> omega
          · cases p with
            | true => exact app hacc (one hai)
            | false => exact app (app hacc (one hc)) (one hai)
        · refine ih (i + 1) _ p _ (by omega) (by omega) (by omega) hacc ?_
          have e1 : mnI c.1 a[i].1 = c.1 ∨ mnI c.1 a[i].1 = a[i].1 := by unfold mnI; split <;> simp
          have e2 : mxI c.2.1 a[i].2.1 = c.2.1 ∨ mxI c.2.1 a[i].2.1 = a[i].2.1 := by unfold mxI; split <;> simp
          exact ⟨e1.elim (fun e => by rw [e]; exact hc.1) (fun e => by rw [e]; exact hai.1), e2.elim (fun e => by rw [e]; exact hc.2) (fun e => by rw [e]; exact hai.2)⟩
  obtain ⟨acc', p', c', h3, h4, h5, h6⟩ := key a.length 0 [] false x (by omega) (by omega) (by simp) (fun e he => by cases he) hx
  have h1' : loopO F.spec_l5Put.s4 (a, [], false, 0, x, ()) = _ := loopO_of h3
  rw [h1'] at h1
  simp only [afterO] at h1
  cases p' with
  | true =>
    cases h1
    exact h5
  | false =>
    simp at h4
    simp only [Bool.not_false, cond_true, List.length_cons, List.length_nil] at h1
    rw [fits_of (by omega)] at h1
    cases h1
    intro e he
    rcases List.mem_append.1 he with he | he
    · exact h5 e he
    · rw [List.mem_singleton.1 he]; exact h6
theorem l5Right_i6 (s : DL1Cur) (hs : srcOk s) : ∃ r : List DSpan × DL1Cur, F.spec_l5Right s = some r ∧ r.1.length ≤ 10 ∧ srcOk r.2 ∧ i6S r.1 := by
  unfold F.spec_l5Right
  obtain ⟨v1, s1, e1, a1, b1, k1⟩ := l1Below_ok s hs 7 (by omega) (by omega)
  simp only [e1, Option.bind_some]
  obtain ⟨y, h1, z, rfl, h2, h3, h4⟩ := loopO_rule (step := F.spec_l5Right.s4) (fun x => 0 ≤ x.2.2.1 ∧ x.2.1 ≤ 6 ∧ x.2.2.1 ≤ 7 ∧ srcOk x.2.2.2.1 ∧ (x.1.length : Int) ≤ x.2.2.1 ∧ i6S x.1)
    (fun y => ∃ z : List DSpan × Int × Int × DL1Cur × Unit, y = .inl z ∧ srcOk z.2.2.2.1 ∧ z.1.length ≤ 10 ∧ i6S z.1)
    (fun x => 8 - x.2.2.1.toNat) (fun x hx => by
      obtain ⟨x2, x3, x4, x5, u⟩ := x
      obtain ⟨g1, g2, g3, g4, g5, g6⟩ := hx
      simp only at g1 g2 g3 g4 g5 g6
      unfold F.spec_l5Right.s4
      simp only
      by_cases hlt : x4 < x3
      · rw [decide_eq_true hlt]
        obtain ⟨w1, t1, f1, c1, c2, j1⟩ := l1Below_ok x5 g4 20 (by omega) (by omega)
        obtain ⟨w2, t2, f2, c3, c4, j2⟩ := l1Below_ok t1 j1 20 (by omega) (by omega)
        obtain ⟨w3, t3, f3, _, _, j3⟩ := l1Below_ok t2 j2 10 (by omega) (by omega)
        obtain ⟨w4, t4, f4, c5, j4⟩ := l1Pick_ok t3 j3 [w1, w2, w64 (9990 + w3)] (by simp) (by simp)
        obtain ⟨w5, t5, f5, _, _, j5⟩ := l1Below_ok t4 j4 3 (by omega) (by omega)
        simp only [cond_true, f1, f2, f3, f4, f5, l1Min_eq, Option.bind_some]
        have hw4 : i6 w4 := by
          simp only [List.mem_cons, List.not_mem_nil, or_false] at c5
          rcases c5 with rfl | rfl | rfl
          · exact ⟨by omega, by omega⟩
          · exact ⟨by omega, by omega⟩
          · exact i6_w64 _
        have hmn : i6 (mnI (w64 (w4 + w5)) 9999) := by
          unfold mnI
          split
          · exact ⟨by omega, by omega⟩
          · exact i6_w64 _
        obtain ⟨q, fq, hq, hqr⟩ := l5Put_i6 x2 (w4, mnI (w64 (w4 + w5)) 9999, ()) (by omega) g6 ⟨hw4, hmn⟩
        simp only [fq, Option.bind_some]
        refine ⟨_, rfl, ⟨?_, g2, ?_, j5, ?_, hqr⟩, ?_⟩
        all_goals simp only
        all_goals rw [w64_id (by omega) (by omega)]
        · omega
        · omega
        · omega
        · omega
      · rw [decide_eq_false hlt]
        exact ⟨_, rfl, _, rfl, g4, by simp only; omega, g6⟩) (x := ([], v1, 0, s1, ())) ⟨Int.le_refl 0, by simp only; omega, by simp, k1, by simp, fun e he => by cases he⟩
  rw [h1]
  obtain ⟨z4, z5, z6, z7, u⟩ := z
  exact ⟨_, rfl, h3, h2, h4⟩
theorem l5Draw_i6 (s : DL1Cur) (hs : srcOk s) : ∃ r : List DSpan × DL1Cur, F.spec_l5Draw s = some r ∧ r.1.length ≤ 11 ∧ srcOk r.2 ∧ i6S r.1 := by
  unfold F.spec_l5Draw
  obtain ⟨r, e1, hr, k1, hrr⟩ := l5Right_i6 s hs
  obtain ⟨b, s2, e2, k2⟩ := l1Once_ok r.2 k1 8 (by omega) (by omega)
  simp only [e1, e2, Option.bind_some]
  cases b with
  | false => exact ⟨_, rfl, by simp only; omega, k2, hrr⟩
  | true =>
    obtain ⟨v3, s3, e3, c3, k3⟩ := l1Pick_ok s2 k2 [-1, 3, 10000] (by simp) (by simp)
    obtain ⟨v4, s4, e4, c4, k4⟩ := l1Pick_ok s3 k3 [5, 10000, 9223372036854775807] (by simp) (by simp)
    simp only [cond_true, e3, e4, Option.bind_some, List.length_cons, List.length_nil]
    rw [fits_of (by omega)]
    refine ⟨_, rfl, by simp; omega, k4, fun e he => ?_⟩
    rcases List.mem_append.1 he with he | he
    · exact hrr e he
    · rw [List.mem_singleton.1 he]
      simp only [List.mem_cons, List.not_mem_nil, or_false] at c3 c4
      have q3 : i6 v3 := by rcases c3 with rfl | rfl | rfl <;> exact ⟨by omega, by omega⟩
      have q4 : i6 v4 := by rcases c4 with rfl | rfl | rfl <;> exact ⟨by omega, by omega⟩
      exact ⟨q3, q4⟩
theorem specNew_i6 (n : Int) : ∃ r : DAgent × Bool, F.spec_AgentNew n = some r ∧ zAgent r.1 = 0 ∧ i6S r.1.2.2.2.2.2.1 := by
  have h0 : zAgent (n, 0, false, 0, [], [], 0, ()) ≤ 1048576 := by simp [zAgent, zItemS, zSpanS]
  unfold F.spec_AgentNew
  rw [specAg_dec _ h0]
  simp only [Option.bind_some]
  cases decB (AgR (n, 0, false, 0, [], [], 0, ())) with
  | false => exact ⟨_, rfl, by simp [zAgent, zItemS, zSpanS], fun e he => by cases he⟩
  | true => exact ⟨_, rfl, by simp [zAgent, zItemS, zSpanS], fun e he => by cases he⟩
theorem l8TakeLoop_i6 (n m : Int) (s : DL1Cur) (t a : DAgent) (hn : n ≤ 6) (hm : m ≤ 3) (hs : srcOk s) (ha : zAgent a ≤ 250) (hi : i6S a.2.2.2.2.2.1) : ∃ z : Int × Int × Int × DL1Cur × DAgent × DAgent × Unit, loopO F.spec_l8Right.s14 (n, m, 0, s, t, a, ()) = some (.inl z) ∧ srcOk z.2.2.2.1 ∧ zAgent z.2.2.2.2.2.1 ≤ 260 ∧ i6S z.2.2.2.2.2.1.2.2.2.2.2.1 := by
  obtain ⟨y, h1, z, rfl, h2, h3, h4⟩ := loopO_rule (step := F.spec_l8Right.s14) (fun x => x.1 ≤ 6 ∧ x.2.1 ≤ 3 ∧ 0 ≤ x.2.2.1 ∧ x.2.2.1 ≤ 4 ∧ srcOk x.2.2.2.1 ∧ (zAgent x.2.2.2.2.2.1 : Int) ≤ 250 + x.2.2.1 ∧ i6S x.2.2.2.2.2.1.2.2.2.2.2.1)
    (fun y => ∃ z : Int × Int × Int × DL1Cur × DAgent × DAgent × Unit, y = .inl z ∧ srcOk z.2.2.2.1 ∧ zAgent z.2.2.2.2.2.1 ≤ 260 ∧ i6S z.2.2.2.2.2.1.2.2.2.2.2.1) (fun x => 5 - x.2.2.1.toNat) (fun x hx => by
      obtain ⟨x20, x21, x22, x23, x24, x25, u⟩ := x
      obtain ⟨g1, g2, g3, g4, g5, g6, g7⟩ := hx
      simp only at g1 g2 g3 g4 g5 g6 g7
      unfold F.spec_l8Right.s14
      simp only
      by_cases hlt : x22 < x21
      · rw [decide_eq_true hlt]
        simp only [cond_true]
        by_cases h0 : x20 > 0
        · rw [decide_eq_true h0]
          obtain ⟨w1, t1, f1, _, _, j1⟩ := l1Below_ok x23 g5 x20 (by omega) (by omega)
          rw [zAg] at g6
          obtain ⟨q, fq, hq, hqi⟩ := l5Put_i6 x25.2.2.2.2.2.1 (w64 (1 + w1), w64 (1 + w1), ()) (by omega) g7 ⟨i6_w64 _, i6_w64 _⟩
          have e1 : F.spec_l8One (w64 (1 + w1)) = some (w64 (1 + w1), w64 (1 + w1), ()) := rfl
          simp only [cond_true, f1, e1, fq, Option.bind_some]
          refine ⟨_, rfl, ⟨g1, g2, ?_, ?_, j1, ?_, hqi⟩, ?_⟩
          all_goals simp only
          all_goals rw [w64_id (by omega) (by omega)]
          · omega
          · omega
          · rw [zAg]; simp only; omega
          · omega
        · rw [decide_eq_false h0]
          exact ⟨_, rfl, _, rfl, g5, by simp only; omega, g7⟩
      · rw [decide_eq_false hlt]
        exact ⟨_, rfl, _, rfl, g5, by simp only; omega, g7⟩) (x := (n, m, 0, s, t, a, ())) ⟨hn, hm, by simp, by simp, hs, by simp only; omega, hi⟩
  exact ⟨z, h1, h2, h3, h4⟩
theorem l8Right_i6 (s : DL1Cur) (hs : srcOk s) : ∃ r : DAgent × DL1Cur, F.spec_l8Right s = some r ∧ zAgent r.1 ≤ 260 ∧ srcOk r.2 ∧ i6S r.1.2.2.2.2.2.1 := by
  unfold F.spec_l8Right
  obtain ⟨v1, s1, e1, _, _, k1⟩ := l1Below_ok s hs 3 (by omega) (by omega)
  obtain ⟨a, e2, h2, hi0⟩ := specNew_i6 v1
  obtain ⟨v3, s3, e3, a3, b3, k3⟩ := l1Below_ok s1 k1 7 (by omega) (by omega)
  simp only [e1, e2, e3, Option.bind_some]
  obtain ⟨y, l1, z, rfl, l2, l3, l4, l5⟩ := loopO_rule (step := F.spec_l8Right.s4) (fun x => x.1 ≤ 6 ∧ 0 ≤ x.2.1 ∧ x.2.1 ≤ 7 ∧ srcOk x.2.2.1 ∧ (zAgent x.2.2.2.2.1 : Int) ≤ 30 * x.2.1 ∧ i6S x.2.2.2.2.1.2.2.2.2.2.1)
    (fun y => ∃ z : Int × Int × DL1Cur × DAgent × DAgent × Unit, y = .inl z ∧ srcOk z.2.2.1 ∧ z.1 ≤ 6 ∧ zAgent z.2.2.2.2.1 ≤ 250 ∧ i6S z.2.2.2.2.1.2.2.2.2.2.1) (fun x => 8 - x.2.1.toNat) (fun x hx => by
      obtain ⟨x4, x5, x6, x7, x8, u⟩ := x
      obtain ⟨g1, g2, g3, g4, g5, g6⟩ := hx
      simp only at g1 g2 g3 g4 g5 g6
      unfold F.spec_l8Right.s4
      simp only
      by_cases hlt : x5 < x4
      · rw [decide_eq_true hlt]
        obtain ⟨q, fq, hq, jq⟩ := l6Right_ok x6 g4
        have hz := skSh_z hq
        obtain ⟨p, fp, hp, hpt⟩ := specSeal_any x8 q.1.2.1 q.1.2.2.1 q.1.2.2.2.1 q.1.2.2.2.2.1 (by omega) (by omega)
        simp only [cond_true, fq, fp, Option.bind_some]
        refine ⟨_, rfl, ⟨g1, ?_, ?_, jq, ?_, by show i6S p.1.2.2.2.2.2.1; rw [hpt]; exact g6⟩, ?_⟩
        all_goals simp only
        all_goals rw [w64_id (by omega) (by omega)]
        · omega
        · omega
        · omega
        · omega
      · rw [decide_eq_false hlt]
        exact ⟨_, rfl, _, rfl, g4, g1, by simp only; omega, g6⟩) (x := (v3, 0, s3, (0, 0, false, 0, [], [], 0, ()), a.1, ())) ⟨by simp only; omega, by simp, by simp, k3, by simp only; omega, hi0⟩
  obtain ⟨z1, z2, z3, z4, z5, u⟩ := z
  simp only at l2 l3 l4 l5
  rw [l1]
  simp only [afterO]
  obtain ⟨v4, s4, e4, _, _, k4⟩ := l1Below_ok z3 l2 3 (by omega) (by omega)
  obtain ⟨b, s5, e5, k5⟩ := l1Once_ok s4 k4 4 (by omega) (by omega)
  simp only [e4, e5, Option.bind_some]
  rw [zAg] at l4
  cases b with
  | false =>
    obtain ⟨v6, s6, e6, _, _, k6⟩ := l1Below_ok s5 k5 9 (by omega) (by omega)
    obtain ⟨v7, s7, e7, a7, b7, k7⟩ := l1Below_ok s6 k6 3 (by omega) (by omega)
    obtain ⟨y, m1, m2, m3, m4⟩ := l8TakeLoop_i6 z1 v7 s7 z4 (z5.1, v4, true, v6, z5.2.2.2.2) l3 (by omega) k7 (by rw [zAg]; simp only; omega) l5
    obtain ⟨y1, y2, y3, y4, y5, y6, u⟩ := y
    simp only at m2 m3
    simp only [Bool.not_false, cond_true, e6, e7, Option.bind_some]
    rw [m1]
    obtain ⟨v8, s8, e8, _, _, k8⟩ := l1Below_ok y4 m2 8 (by omega) (by omega)
    simp only [e8, Option.bind_some]
    exact ⟨_, rfl, m3, k8, m4⟩
  | true =>
    obtain ⟨v7, s7, e7, a7, b7, k7⟩ := l1Below_ok s5 k5 3 (by omega) (by omega)
    obtain ⟨y, m1, m2, m3, m4⟩ := l8TakeLoop_i6 z1 v7 s7 z4 (z5.1, v4, z5.2.2) l3 (by omega) k7 (by rw [zAg]; simp only; omega) l5
    obtain ⟨y1, y2, y3, y4, y5, y6, u⟩ := y
    simp only at m2 m3
    simp only [Bool.not_true, cond_false, e7, Option.bind_some]
    rw [m1]
    obtain ⟨v8, s8, e8, _, _, k8⟩ := l1Below_ok y4 m2 8 (by omega) (by omega)
    simp only [e8, Option.bind_some]
    exact ⟨_, rfl, m3, k8, m4⟩
theorem l8Draw_i6 (s : DL1Cur) (hs : srcOk s) : ∃ r : DAgent × DL1Cur, F.spec_l8Draw s = some r ∧ zAgent r.1 ≤ 400 ∧ srcOk r.2 ∧ i6S r.1.2.2.2.2.2.1 := by
  unfold F.spec_l8Draw
  obtain ⟨r, e1, h1, k1, hi⟩ := l8Right_i6 s hs
  obtain ⟨v2, s2, e2, _, _, k2⟩ := l1Below_ok r.2 k1 14 (by omega) (by omega)
  rw [zAg] at h1
  have hz : r.1.2.2.2.2.1.length ≤ 260 := by unfold zItemS at h1; omega
  simp only [e1, e2, Option.bind_some]
  cases (v2 == 0) with
  | true =>
    obtain ⟨v3, s3, e3, _, k3⟩ := l1Pick_ok s2 k2 [-1, 3] (by simp) (by simp)
    simp only [cond_true, e3, Option.bind_some]
    exact ⟨_, rfl, by rw [zAg]; simp only; omega, k3, hi⟩
  | false =>
  simp only [cond_false]
  cases (v2 == 1) with
  | true =>
    obtain ⟨v3, s3, e3, _, k3⟩ := l1Pick_ok s2 k2 [-1, 60, 61] (by simp) (by simp)
    simp only [cond_true, e3, Option.bind_some]
    exact ⟨_, rfl, by rw [zAg]; simp only; omega, k3, hi⟩
  | false =>
  simp only [cond_false]
  cases (v2 == 2) with
  | true =>
    obtain ⟨q, e3, h3, k3⟩ := l6Draw_ok s2 k2
    simp only [cond_true, e3, Option.bind_some, List.length_cons, List.length_nil]
    rw [fits_of (by omega)]
    have h3 : zSketch q.1.2.2.2.2.1 ≤ 40 := h3
    exact ⟨_, rfl, by rw [zAg]; simp only; rw [zIt_app, zIt_one]; omega, k3, hi⟩
  | false =>
  simp only [cond_false]
  cases (v2 == 3) with
  | true =>
    obtain ⟨q, e3, h3, k3, hqi⟩ := l5Draw_i6 s2 k2
    simp only [cond_true, e3, Option.bind_some]
    exact ⟨_, rfl, by rw [zAg]; simp only; omega, k3, hqi⟩
  | false =>
  simp only [cond_false]
  cases (v2 == 4) with
  | true =>
    obtain ⟨v3, s3, e3, _, k3⟩ := l1Pick_ok s2 k2 [-1, 60, 61] (by simp) (by simp)
    simp only [cond_true, e3, Option.bind_some]
    exact ⟨_, rfl, by rw [zAg]; simp only; omega, k3, hi⟩
  | false =>
  simp only [cond_false]
  cases (v2 == 5) with
  | true => exact ⟨_, rfl, by rw [zAg]; simp only; omega, k2, hi⟩
  | false => exact ⟨_, rfl, by rw [zAg]; simp only; omega, k2, hi⟩
theorem l7Right_ok (s : DL1Cur) (hs : srcOk s) : ∃ r : DFrame × DL1Cur, F.spec_l7Right s = some r ∧ zFrame r.1 ≤ 60 ∧ srcOk r.2 := by
  unfold F.spec_l7Right
  obtain ⟨v1, s1, e1, _, _, k1⟩ := l1Below_ok s hs 4 (by omega) (by omega)
  obtain ⟨v2, s2, e2, _, _, k2⟩ := l1Below_ok s1 k1 3 (by omega) (by omega)
  obtain ⟨v3, s3, e3, _, _, k3⟩ := l1Below_ok s2 k2 3 (by omega) (by omega)
  obtain ⟨v4, s4, e4, _, _, k4⟩ := l1Below_ok s3 k3 9 (by omega) (by omega)
  obtain ⟨v5, s5, e5, a5, b5, k5⟩ := l1Below_ok s4 k4 3 (by omega) (by omega)
  simp only [e1, e2, e3, e4, e5, Option.bind_some]
  have zz : ∀ x : DFrame, zFrame x = x.2.2.2.2.1.length + zItem x.2.2.2.2.2.1 := fun _ => rfl
  obtain ⟨y, h1, z, rfl, h2, h3, h4⟩ := loopO_rule (step := F.spec_l7Right.s4) (fun x => x.1 ≤ 2 ∧ 0 ≤ x.2.1 ∧ x.2.1 ≤ 3 ∧ srcOk x.2.2.1 ∧ (x.2.2.2.2.1.2.2.2.2.1.length : Int) ≤ x.2.1 ∧ zItem x.2.2.2.2.1.2.2.2.2.2.1 = 0)
    (fun y => ∃ z : Int × Int × DL1Cur × DFrame × DFrame × Unit, y = .inl z ∧ srcOk z.2.2.1 ∧ z.2.2.2.2.1.2.2.2.2.1.length ≤ 5 ∧ zItem z.2.2.2.2.1.2.2.2.2.2.1 = 0) (fun x => 4 - x.2.1.toNat) (fun x hx => by
      obtain ⟨x6, x7, x8, x9, x10, u⟩ := x
      obtain ⟨g1, g2, g3, g4, g5, g6⟩ := hx
      simp only at g1 g2 g3 g4 g5 g6
      unfold F.spec_l7Right.s4
      simp only
      by_cases hlt : x7 < x6
      · rw [decide_eq_true hlt]
        obtain ⟨w1, t1, f1, _, _, j1⟩ := l1Below_ok x8 g4 12 (by omega) (by omega)
        obtain ⟨w2, t2, f2, _, _, j2⟩ := l1Below_ok t1 j1 3 (by omega) (by omega)
        obtain ⟨q, fq, hq⟩ := l5Put_any x10.2.2.2.2.1 (w64 (1 + w1), w64 (w64 (1 + w1) + w2), ()) (by omega)
        simp only [cond_true, f1, f2, fq, Option.bind_some]
        refine ⟨_, rfl, ⟨g1, ?_, ?_, j2, ?_, g6⟩, ?_⟩
        all_goals simp only
        all_goals rw [w64_id (by omega) (by omega)]
        · omega
        · omega
        · omega
        · omega
      · rw [decide_eq_false hlt]
        exact ⟨_, rfl, _, rfl, g4, by simp only; omega, g6⟩) (x := (v5, 0, s5, (0, 0, 0, 0, [], (0, 0, 0, 0, (0, 0, 0, 0, [], [], [], ()), ()), ()), (v1, v2, v3, v4, [], (0, 0, 0, 0, (0, 0, 0, 0, [], [], [], ()), ()), ()), ())) ⟨by simp only; omega, by simp, by simp, k5, by simp, rfl⟩
  obtain ⟨z1, z2, z3, z4, z5, u⟩ := z
  simp only at h2 h3 h4
  rw [h1]
  simp only [afterO]
  cases (z5.1 == 1) with
  | false => exact ⟨_, rfl, by show z5.2.2.2.2.1.length + zItem z5.2.2.2.2.2.1 ≤ 60; rw [h4]; omega, h2⟩
  | true =>
    obtain ⟨q, f, hq, j⟩ := l6Right_ok z3 h2
    have := skSh_z hq
    simp only [cond_true, f, Option.bind_some]
    refine ⟨_, rfl, ?_, j⟩
    rw [zz]
    show z5.2.2.2.2.1.length + zSketch q.1.2.2.2.2.1 ≤ 60
    omega
theorem l7Draw_ok (s : DL1Cur) (hs : srcOk s) : ∃ r : DFrame × DL1Cur, F.spec_l7Draw s = some r ∧ zFrame r.1 ≤ 150 ∧ srcOk r.2 := by
  unfold F.spec_l7Draw
  obtain ⟨r, e1, h1, k1⟩ := l7Right_ok s hs
  obtain ⟨v2, s2, e2, _, _, k2⟩ := l1Below_ok r.2 k1 14 (by omega) (by omega)
  have zz : ∀ x : DFrame, zFrame x = x.2.2.2.2.1.length + zItem x.2.2.2.2.2.1 := fun _ => rfl
  rw [zz] at h1
  simp only [e1, e2, Option.bind_some]
  cases (v2 == 0) with
  | true =>
    obtain ⟨v3, s3, e3, _, k3⟩ := l1Pick_ok s2 k2 [-1, 4, 1, 0] (by simp) (by simp)
    simp only [cond_true, e3, Option.bind_some]
    exact ⟨_, rfl, by simp only [zz]; omega, k3⟩
  | false =>
  simp only [cond_false]
  cases (v2 == 1) with
  | true =>
    obtain ⟨v3, s3, e3, _, k3⟩ := l1Pick_ok s2 k2 [-1, 3] (by simp) (by simp)
    simp only [cond_true, e3, Option.bind_some]
    exact ⟨_, rfl, by simp only [zz]; omega, k3⟩
  | false =>
  simp only [cond_false]
  cases (v2 == 2) with
  | true =>
    obtain ⟨v3, s3, e3, _, k3⟩ := l1Pick_ok s2 k2 [-1, 1000, 1001] (by simp) (by simp)
    simp only [cond_true, e3, Option.bind_some]
    exact ⟨_, rfl, by simp only [zz]; omega, k3⟩
  | false =>
  simp only [cond_false]
  cases (v2 == 3) with
  | true =>
    obtain ⟨v3, s3, e3, _, k3⟩ := l1Pick_ok s2 k2 [-1, 60, 61] (by simp) (by simp)
    simp only [cond_true, e3, Option.bind_some]
    exact ⟨_, rfl, by simp only [zz]; omega, k3⟩
  | false =>
  simp only [cond_false]
  cases (v2 == 4) with
  | true =>
    obtain ⟨q, e3, h3, k3⟩ := l5Draw_ok s2 k2
    simp only [cond_true, e3, Option.bind_some]
    exact ⟨_, rfl, by simp only [zz]; omega, k3⟩
  | false =>
  simp only [cond_false]
  cases (v2 == 5) with
  | true =>
    obtain ⟨q, e3, h3, k3⟩ := l6Draw_ok s2 k2
    simp only [cond_true, e3, Option.bind_some]
    exact ⟨_, rfl, by simp only [zz]; omega, k3⟩
  | false => exact ⟨_, rfl, by simp only [zz]; omega, k2⟩
theorem drawHear_i6 (c : List Int) (hc : c.length ≤ 1048576) : ∃ r : DAgent × DFrame, F.spec_DrawAgentHear c = some r ∧ zAgent r.1 ≤ 400 ∧ zFrame r.2 ≤ 150 ∧ i6S r.1.2.2.2.2.2.1 := by
  unfold F.spec_DrawAgentHear
  obtain ⟨s0, e0, k0⟩ := l1New_ok c hc
  obtain ⟨⟨a, s1⟩, e1, z1, k1, hi⟩ := l8Draw_i6 s0 k0
  obtain ⟨⟨f, s2⟩, e2, z2, k2⟩ := l7Draw_ok s1 k1
  obtain ⟨b, s3, e3, k3⟩ := l1Once_ok s2 k2 4 (by omega) (by omega)
  simp only [e0, e1, e2, e3, Option.bind_some]
  cases b with
  | true => exact ⟨_, rfl, z1, z2, hi⟩
  | false =>
    obtain ⟨v4, s4, e4, _, _, k4⟩ := l1Below_ok s3 k3 2 (by omega) (by omega)
    obtain ⟨v5, s5, e5, _, _, k5⟩ := l1Below_ok s4 k4 4 (by omega) (by omega)
    obtain ⟨v6, s6, e6, _, _, k6⟩ := l1Below_ok s5 k5 9 (by omega) (by omega)
    simp only [Bool.not_false, cond_true, e4, e5, e6, Option.bind_some]
    cases hd : decide (len a.2.2.2.2.1 > 0) with
    | false => exact ⟨_, rfl, z1, by simp [zFrame, zSpanS, zItem, zSketch, zIntS, zIntSS], hi⟩
    | true =>
      obtain ⟨b7, s7, e7, k7⟩ := l1Once_ok s6 k6 2 (by omega) (by omega)
      simp only [cond_true, e7, Option.bind_some]
      cases b7 with
      | false => exact ⟨_, rfl, z1, by simp [zFrame, zSpanS, zItem, zSketch, zIntS, zIntSS], hi⟩
      | true =>
        have z3 : zItemS a.2.2.2.2.1 + a.2.2.2.2.2.1.length ≤ 400 := z1
        have z4 : a.2.2.2.2.1.length ≤ 400 := by unfold zItemS at z3; omega
        obtain ⟨v8, s8, e8, _, _, k8⟩ := l1Below_any s7 k7 (len a.2.2.2.2.1) (by simp only [len]; omega)
        have e9 : F.spec_l8One (w64 (1 + v8)) = some (w64 (1 + v8), w64 (1 + v8), ()) := rfl
        simp only [cond_true, e8, e9, Option.bind_some]
        exact ⟨_, rfl, z1, by simp [zFrame, zSpanS, zItem, zSketch, zIntS, zIntSS], hi⟩
theorem within_of {S : List Sp} (h : ∀ x ∈ S, x.1 ≤ x.2.1) {n : Int} (hm : ∀ i, memS S i → 1 ≤ i ∧ i ≤ n) : Within S n := fun i hi => by
  have hx := List.getElem_mem hi
  have h0 := h _ hx
  have h1 := hm S[i].1 ⟨_, hx, Int.le_refl _, h0⟩
  have h2 := hm S[i].2.1 ⟨_, hx, h0, Int.le_refl _⟩
  omega
theorem of_within {S : List Sp} {n : Int} (h : Within S n) {i : Int} (hm : memS S i) : 1 ≤ i ∧ i ≤ n := by
  obtain ⟨x, hx, h1, h2⟩ := hm
  obtain ⟨k, hk, he⟩ := List.mem_iff_getElem.1 hx
  have := h k hk
  rw [he] at this
  omega
theorem heardA_ok {a : DAgent} {f : DFrame} (h : HearR a f) : AgR (heardA a f) ∧ okF 0 (joinS a.2.2.2.2.2.1 f.2.2.2.2.1) := by
  have ga := good_ok.1 h.ag.tk.1
  have gf := good_ok.1 h.below.1
  have hj := joinS_ok ga (okF_ends gf)
  have c1 := h.ag.gr
  have c2 := h.fr.granted
  have hcr : 0 ≤ (heardA a f).2.2.2.1 ∧ (heardA a f).2.2.2.1 ≤ 60 := by
    show 0 ≤ (if f.1 = 2 then (if f.2.2.1 = a.2.1 then mxI a.2.2.2.1 f.2.2.2.1 else f.2.2.2.1) else 0) ∧ (if f.1 = 2 then (if f.2.2.1 = a.2.1 then mxI a.2.2.2.1 f.2.2.2.1 else f.2.2.2.1) else 0) ≤ 60
    unfold mxI
    split
    · split
      · split <;> omega
      · omega
    · omega
  refine ⟨⟨h.ag.id, h.fr.epoch, hcr, h.ag.few, h.ag.nx, ⟨good_ok.2 hj, within_of (fun x hx => (okF_all hj x hx).2.1) (fun i hi => ?_)⟩, ?_, h.ag.its⟩, hj⟩
  · rcases (joinS_mem ga (okF_ends gf)).1 hi with hi | hi
    · exact of_within h.ag.tk.2 hi
    · exact of_within h.below.2 hi
  · show (f.1 == 2) = true ∨ (if f.1 = 2 then (if f.2.2.1 = a.2.1 then mxI a.2.2.2.1 f.2.2.2.1 else f.2.2.2.1) else 0) = 0
    by_cases hk : f.1 = 2
    · exact .inl (by simp [hk])
    · exact .inr (if_neg hk)
theorem heard_same {a : DAgent} {f : DFrame} : (heardA (heardA a f) f).2.2.2.1 = (heardA a f).2.2.2.1 := by
  show (if f.1 = 2 then (if f.2.2.1 = f.2.2.1 then mxI (if f.1 = 2 then (if f.2.2.1 = a.2.1 then mxI a.2.2.2.1 f.2.2.2.1 else f.2.2.2.1) else 0) f.2.2.2.1 else f.2.2.2.1) else 0) = (if f.1 = 2 then (if f.2.2.1 = a.2.1 then mxI a.2.2.2.1 f.2.2.2.1 else f.2.2.2.1) else 0)
  by_cases hk : f.1 = 2
  · rw [if_pos hk, if_pos hk, if_pos rfl]
    by_cases he : f.2.2.1 = a.2.1
    · rw [if_pos he]
      unfold mxI
      split <;> first
        | omega
        | (split <;> omega)
    · rw [if_neg he]
      unfold mxI
      split <;> omega
  · rw [if_neg hk, if_neg hk]
theorem fnHeard_law (a : List Int) (h : a.length ≤ 9223372036854775807) : F.laws_FnHeard a = some true := by
  unfold F.laws_FnHeard F.laws_big
  by_cases hb : a.length ≤ 1048576
  case neg =>
    rw [show decide (len a > 1048576) = true from decide_eq_true (by simp only [len]; omega)]; rfl
  rw [show decide (len a > 1048576) = false from decide_eq_false (by simp only [len]; omega)]
  obtain ⟨⟨b, f⟩, e1, za, zf, hi⟩ := drawHear_i6 a hb
  simp only at za zf hi
  have za' : zItemS b.2.2.2.2.1 + b.2.2.2.2.2.1.length ≤ 400 := za
  have zf' : f.2.2.2.2.1.length + zItem f.2.2.2.2.2.1 ≤ 150 := zf
  obtain ⟨r, d1, d2, d3⟩ := hear_eq b f (by omega) (by omega)
  obtain ⟨t, ht⟩ := text_any b.2.2.2.2.2.1 (by omega) hi
  simp only [Option.bind_some, cond_false, e1, d1, d2, bne_self_eq_false]
  rcases d3 with ⟨hH, hE, he⟩ | ⟨_, _, he⟩ | ⟨_, he⟩
  · obtain ⟨hA, hj⟩ := heardA_ok hH
    have hH2 : HearR (heardA b f) f := ⟨hA, hH.fr, hH.kind, hH.id, hH.below⟩
    have hjl := joinS_len f.2.2.2.2.1 b.2.2.2.2.2.1
    have hz : zAgent (heardA b f) ≤ 1048576 := by
      show zItemS b.2.2.2.2.1 + (joinS b.2.2.2.2.2.1 f.2.2.2.2.1).length ≤ _
      omega
    obtain ⟨r2, g1, g2, g3⟩ := hear_eq (heardA b f) f hz (by omega)
    have he2 : r2 = (heardA (heardA b f) f, 0) := by
      rcases g3 with ⟨_, _, h3⟩ | ⟨_, h3, _⟩ | ⟨h3, _⟩
      · exact h3
      · exact absurd h3 (Int.lt_irrefl _)
      · exact absurd hH2 h3
    have hji : i6S (joinS b.2.2.2.2.2.1 f.2.2.2.2.1) := fun x hx => by
      have := okF_all hj x hx
      exact ⟨⟨by omega, by omega⟩, ⟨by omega, by omega⟩⟩
    obtain ⟨t2, ht2⟩ := text_any (joinS b.2.2.2.2.2.1 f.2.2.2.2.1) (by omega) hji
    have ht3 : F.impl_SetText (heardA b f).2.2.2.2.2.1 = some t2 := ht2
    have hjn := setJoin_eq b.2.2.2.2.2.1 f.2.2.2.2.1 (by omega) (by omega) hH.ag.tk.1 hH.below.1
    rw [he]
    simp only [g2, he2, Option.bind_some, bne_self_eq_false, cond_false, hjn, implAg_dec _ hz, decB_pos hA, cond_true, beq_self_eq_true, ht2, ht3, heard_same]
    rw [decide_eq_true (show (heardA b f).2.1 ≥ b.2.1 from hE)]
    have q1 : ((heardA (heardA b f) f).2.2.1 == (heardA b f).2.2.1) = true := by
      show ((f.1 == 2) == (f.1 == 2)) = true
      simp
    have q2 : ((heardA (heardA b f) f).2.1 == (heardA b f).2.1) = true := by
      show (f.2.2.1 == f.2.2.1) = true
      simp
    rw [q1, q2]
    simp only [cond_true]
    by_cases hgt : f.2.2.1 > b.2.1
    · rw [decide_eq_true (show (heardA b f).2.1 > b.2.1 from hgt)]; rfl
    · rw [decide_eq_false (show ¬ (heardA b f).2.1 > b.2.1 from hgt)]
      by_cases h3 : f.1 = 3
      · rw [h3]; rfl
      · rw [show (f.1 == 3) = false by simpa using h3]
        have h2 : f.1 = 2 := hH.kind.resolve_right h3
        have : (heardA b f).2.2.2.1 ≥ b.2.2.2.1 := by
          show (if f.1 = 2 then (if f.2.2.1 = b.2.1 then mxI b.2.2.2.1 f.2.2.2.1 else f.2.2.2.1) else 0) ≥ b.2.2.2.1
          rw [if_pos h2, if_pos (show f.2.2.1 = b.2.1 by omega)]
          unfold mxI
          split <;> omega
        rw [decide_eq_true this]
        rfl
  · subst he
    simp only [d2, Option.bind_some]
    rw [show ((2 : Int) != 0) = true from rfl, ht]
    simp
  · subst he
    simp only [d2, Option.bind_some]
    rw [show ((1 : Int) != 0) = true from rfl, ht]
    simp
end Go.Proofs.YtipaepbmdooekaaGreatDoor.Vm
