import Derived.Test.YtipaepbmdooekaaGreatGf
import Derived.Test.YtipaepbmdooekaaGreatV3
namespace Go.Proofs.YtipaepbmdooekaaGreat.Vm
open Go Go.RowKit
set_option linter.unusedVariables false
def runL {α S A : Type} (g : Nat → S → α → S ⊕ A) : Nat → List α → S → S ⊕ A
  | _, [], s => .inl s
  | i, x :: l, s => match g i s x with
    | .inl s' => runL g (i + 1) l s'
    | .inr a => .inr a
def runN {S A : Type} (g : Nat → S → S ⊕ A) : Nat → Nat → S → S ⊕ A
  | 0, _, s => .inl s
  | k + 1, i, s => match g i s with
    | .inl s' => runN g k (i + 1) s'
    | .inr a => .inr a
def again {X A S : Type} (mk : S → X) : S ⊕ A → Lp X A
  | .inl s => .again (mk s)
  | .inr a => .ret a
theorem loop_n {X A S : Type} {step : X → Option (Lp X A)} (n : Nat) (mk : Nat → S → X) (g : Nat → S → S ⊕ A) (P : Nat → S → Prop)
    (h : ∀ i s, i < n → P i s → step (mk i s) = some (again (mk (i + 1)) (g i s)) ∧ ∀ s', g i s = .inl s' → P (i + 1) s')
    (he : ∀ s, P n s → step (mk n s) = some (.exit (mk n s))) {s : S} (h0 : P 0 s) :
    loopO step (mk 0 s) = some (Sum.map (mk n) id (runN g n 0 s)) ∧ ∀ s', runN g n 0 s = .inl s' → P n s' := by
  have key : ∀ k i s, i + k = n → P i s → iterO step (k + 1) (mk i s) = some (Sum.map (mk n) id (runN g k i s)) ∧ ∀ s', runN g k i s = .inl s' → P n s' := by
    intro k
    induction k with
    | zero =>
      intro i s hi hp
      have hi : i = n := by omega
      subst hi
      refine ⟨?_, fun s' hs => by cases hs; exact hp⟩
      simp only [iterO, he s hp]; rfl
    | succ k ih =>
      intro i s hi hp
      obtain ⟨h1, h2⟩ := h i s (by omega) hp
      rw [iterO, h1]
      cases hg : g i s with
      | inl s' =>
        simp only [again, runN, hg]
        exact ih (i + 1) s' (by omega) (h2 s' hg)
      | inr a =>
        simp only [again, runN, hg]
        exact ⟨rfl, fun s' hs => by cases hs⟩
  obtain ⟨k1, k2⟩ := key n 0 s (by omega) h0
  exact ⟨loopO_of k1, k2⟩
theorem runN_list {α S A : Type} (g : Nat → S → α → S ⊕ A) (d : α) (l : List α) (s : S) : runN (fun i s => g i s (l.getD i d)) l.length 0 s = runL g 0 l s := by
  have key : ∀ (m : List α) (i : Nat) (s : S), l.drop i = m → runN (fun i s => g i s (l.getD i d)) m.length i s = runL g i m s := by
    intro m
    induction m with
    | nil => intro i s _; rfl
    | cons x m ih =>
      intro i s h
      have hx : l.getD i d = x := by
        rw [List.getD_eq_getElem?_getD, show l[i]? = some x by rw [← List.head?_drop, h]; rfl]; rfl
      simp only [List.length_cons, runN, runL, hx]
      cases g i s x with
      | inl s' => exact ih (i + 1) s' (by rw [← List.drop_drop, h]; rfl)
      | inr a => rfl
  exact key l 0 s rfl
theorem loop_l {X A S α : Type} {step : X → Option (Lp X A)} (l : List α) (mk : Nat → S → X) (g : Nat → S → α → S ⊕ A) (P : Nat → S → Prop)
    (h : ∀ i s (hi : i < l.length), P i s → step (mk i s) = some (again (mk (i + 1)) (g i s l[i])) ∧ ∀ s', g i s l[i] = .inl s' → P (i + 1) s')
    (he : ∀ s, P l.length s → step (mk l.length s) = some (.exit (mk l.length s))) {s : S} (h0 : P 0 s) :
    loopO step (mk 0 s) = some (Sum.map (mk l.length) id (runL g 0 l s)) ∧ ∀ s', runL g 0 l s = .inl s' → P l.length s' := by
  cases l with
  | nil =>
    obtain ⟨h1, h2⟩ := loop_n (step := step) 0 mk (fun _ s => .inl s) P (fun i s hi => by omega) he h0
    exact ⟨h1, h2⟩
  | cons x l =>
    obtain ⟨h1, h2⟩ := loop_n (step := step) (x :: l).length mk (fun i s => g i s ((x :: l).getD i x)) P (fun i s hi hp => by
      rw [getD_at hi]; exact h i s hi hp) he h0
    rw [runN_list] at h1 h2
    exact ⟨h1, h2⟩
theorem loop_l0 {X A S α : Type} {step : X → Option (Lp X A)} (l : List α) (mk : Nat → S → X) (g : Nat → S → α → S ⊕ A)
    (h : ∀ i s (hi : i < l.length), step (mk i s) = some (again (mk (i + 1)) (g i s l[i])))
    (he : ∀ s, step (mk l.length s) = some (.exit (mk l.length s))) (s : S) :
    loopO step (mk 0 s) = some (Sum.map (mk l.length) id (runL g 0 l s)) :=
  (loop_l l mk g (fun _ _ => True) (fun i s hi _ => ⟨h i s hi, fun _ _ => trivial⟩) (fun s _ => he s) (s := s) trivial).1
theorem loop_all {X A α : Type} {step : X → Option (Lp X A)} (l : List α) (mk : Nat → X) (p : α → Bool) (a : A)
    (h : ∀ i (hi : i < l.length), step (mk i) = some (bif p l[i] then .again (mk (i + 1)) else .ret a))
    (he : step (mk l.length) = some (.exit (mk l.length))) :
    loopO step (mk 0) = some (bif l.all p then .inl (mk l.length) else .inr a) := by
  have := loop_l0 (step := step) l (fun i (_ : Unit) => mk i) (fun _ _ x => bif p x then .inl () else .inr a) (fun i s hi => by
    rw [h i hi]; cases p l[i] <;> rfl) (fun _ => he) ()
  rw [this]
  have key : ∀ (m : List α) (i : Nat), Sum.map (fun (_ : Unit) => mk l.length) id (runL (fun _ _ x => bif p x then (.inl () : Unit ⊕ A) else .inr a) i m ()) = bif m.all p then .inl (mk l.length) else .inr a := by
    intro m
    induction m with
    | nil => intro i; rfl
    | cons x m ih =>
      intro i
      simp only [runL, List.all_cons]
      cases p x with
      | false => rfl
      | true => exact ih (i + 1)
  rw [key l 0]
theorem loop_fold {X A S α : Type} {step : X → Option (Lp X A)} (l : List α) (mk : Nat → S → X) (f : S → α → S)
    (h : ∀ i s (hi : i < l.length), step (mk i s) = some (.again (mk (i + 1) (f s l[i]))))
    (he : ∀ s, step (mk l.length s) = some (.exit (mk l.length s))) (s : S) :
    loopO step (mk 0 s) = some (.inl (mk l.length (l.foldl f s))) := by
  have := loop_l0 (step := step) l mk (fun _ s x => .inl (f s x)) (fun i s hi => h i s hi) he s
  rw [this]
  have key : ∀ (m : List α) (i : Nat) (s : S), runL (fun _ s x => (.inl (f s x) : S ⊕ A)) i m s = .inl (m.foldl f s) := by
    intro m
    induction m with
    | nil => intro i s; rfl
    | cons x m ih => intro i s; exact ih (i + 1) (f s x)
  rw [key l 0 s]; rfl
theorem loop_foldP {X A S α : Type} {step : X → Option (Lp X A)} (l : List α) (mk : Nat → S → X) (f : S → α → S) (P : Nat → S → Prop)
    (h : ∀ i s (hi : i < l.length), P i s → step (mk i s) = some (.again (mk (i + 1) (f s l[i]))) ∧ P (i + 1) (f s l[i]))
    (he : ∀ s, P l.length s → step (mk l.length s) = some (.exit (mk l.length s))) {s : S} (h0 : P 0 s) :
    loopO step (mk 0 s) = some (.inl (mk l.length (l.foldl f s))) ∧ P l.length (l.foldl f s) := by
  obtain ⟨h1, h2⟩ := loop_l (step := step) l mk (fun _ s x => .inl (f s x)) P (fun i s hi hp => ⟨(h i s hi hp).1, fun s' e => by cases e; exact (h i s hi hp).2⟩) he h0
  have key : ∀ (m : List α) (i : Nat) (s : S), runL (fun _ s x => (.inl (f s x) : S ⊕ A)) i m s = .inl (m.foldl f s) := by
    intro m
    induction m with
    | nil => intro i s; rfl
    | cons x m ih => intro i s; exact ih (i + 1) (f s x)
  rw [key l 0 s] at h1 h2
  exact ⟨h1, h2 _ rfl⟩
theorem fits_of {n b : Nat} (h : n * b ≤ 140737488355328) : fits n b = true := decide_eq_true h
theorem getD_mid {α : Type} {p : List α} {x d : α} {l : List α} : (p ++ x :: l).getD p.length d = x := by
  rw [List.getD_eq_getElem?_getD, List.getElem?_append_right (Nat.le_refl _), Nat.sub_self]; rfl
theorem set_mid {α : Type} {p : List α} {x y : α} {l : List α} : (p ++ x :: l).set p.length y = p ++ y :: l := by
  rw [List.set_append_right _ _ (Nat.le_refl _), Nat.sub_self]; rfl
section
variable {α A : Type}
end
def inR (lo hi x : Int) : Bool := decide (x ≥ lo) && decide (x ≤ hi)
theorem l1In_eq (x lo hi : Int) : F.spec_l1In x lo hi = some (inR lo hi x) := by
  unfold F.spec_l1In inR
  cases decide (x ≥ lo) <;> rfl
theorem within_eq (x lo hi : Int) : F.impl_within x lo hi = some (inR lo hi x) := by
  unfold F.impl_within inR
  cases decide (x ≥ lo) <;> rfl
theorem inR_iff {lo hi x : Int} : inR lo hi x = true ↔ lo ≤ x ∧ x ≤ hi := by simp [inR]
abbrev Sp := Int × Int × Unit
def okAt (a : List Sp) (i : Nat) (h : i < a.length) : Prop := inR 0 9999 a[i].1 = true ∧ inR a[i].1 9999 a[i].2.1 = true ∧ ∀ h0 : 0 < i, ¬ (a[i].1 ≤ (a[i - 1]'(by omega)).2.1 + 1)
def Good (a : List Sp) : Prop := ∀ (i : Nat) (h : i < a.length), okAt a i h
theorem specSet_ok (a : List Sp) (h : a.length ≤ 1048576) : (F.spec_SetOk a = some true ∧ Good a) ∨ (F.spec_SetOk a = some false ∧ ¬ Good a) := by
  unfold F.spec_SetOk
  obtain ⟨y, h1, h2⟩ := loopO_rule (step := F.spec_SetOk.s2) (fun x => x.1 = a ∧ 0 ≤ x.2.1 ∧ x.2.1 ≤ a.length ∧ ∀ (i : Nat) (hi : i < a.length), (i : Int) < x.2.1 → okAt a i hi) (fun y => (∃ i, y = .inl i ∧ Good a) ∨ (y = .inr false ∧ ¬ Good a))
    (fun x => a.length - x.2.1.toNat) (fun x hx => by
      obtain ⟨x1, x2, u⟩ := x
      obtain ⟨rfl, g1, g2, g3⟩ := hx
      simp only at g1 g2 g3
      have h : x1.length ≤ 1048576 := h
      unfold F.spec_SetOk.s2
      simp only
      by_cases hlt : x2 < (x1.length : Int)
      · have hin : x2.toNat < x1.length := by omega
        have again : okAt x1 x2.toNat hin → (x1 = x1 ∧ 0 ≤ w64 (x2 + 1) ∧ w64 (x2 + 1) ≤ x1.length ∧ ∀ (i : Nat) (hi : i < x1.length), (i : Int) < w64 (x2 + 1) → okAt x1 i hi) ∧ x1.length - (w64 (x2 + 1)).toNat < x1.length - x2.toNat := by
          intro hok
          refine ⟨⟨rfl, ?_, ?_, ?_⟩, ?_⟩
          all_goals rw [w64_id (by omega) (by omega)]
          · omega
          · omega
          · intro i hi hlt'
            by_cases e : i = x2.toNat
            · subst e; exact hok
            · exact g3 i hi (by omega)
          · omega
        rw [show decide (x2 < len x1) = true from decide_eq_true hlt, inb_of g1 hlt, l1In_eq, l1In_eq, getD_at hin]
        simp only [chk_true, cond_true, Option.bind_some]
        cases hr : inR 0 9999 x1[x2.toNat].1 with
        | false => exact ⟨.ret false, rfl, .inr ⟨rfl, fun hg => by have := (hg _ hin).1; rw [hr] at this; cases this⟩⟩
        | true =>
          simp only [Bool.not_true, cond_false]
          cases hr2 : inR x1[x2.toNat].1 9999 x1[x2.toNat].2.1 with
          | false => exact ⟨.ret false, rfl, .inr ⟨rfl, fun hg => by have := (hg _ hin).2.1; rw [hr2] at this; cases this⟩⟩
          | true =>
            simp only [Bool.not_true, cond_false]
            by_cases hp : x2 > 0
            · have hin2 : x2.toNat - 1 < x1.length := by omega
              have hb := (g3 (x2.toNat - 1) hin2 (by omega))
              have hb1 := inR_iff.1 hb.1
              have hb2 := inR_iff.1 hb.2.1
              rw [show decide (x2 > 0) = true from decide_eq_true hp, w64_id (x := x2 - 1) (by omega) (by omega), inb_of (i := x2 - 1) (by omega) (by omega), show (x2 - 1).toNat = x2.toNat - 1 by omega, getD_at hin2, w64_id (x := x1[x2.toNat - 1].2.1 + 1) (by omega) (by omega)]
              simp only [chk_true, cond_true]
              by_cases hle : x1[x2.toNat].1 ≤ x1[x2.toNat - 1].2.1 + 1
              · rw [show decide (x1[x2.toNat].1 ≤ x1[x2.toNat - 1].2.1 + 1) = true from decide_eq_true hle]
                exact ⟨.ret false, rfl, .inr ⟨rfl, fun hg => (hg _ hin).2.2 (by omega) hle⟩⟩
              · rw [show decide (x1[x2.toNat].1 ≤ x1[x2.toNat - 1].2.1 + 1) = false from decide_eq_false hle]
                exact ⟨.again (x1, w64 (x2 + 1), ()), rfl, again ⟨hr, hr2, fun _ => hle⟩⟩
            · rw [show decide (x2 > 0) = false from decide_eq_false hp]
              exact ⟨.again (x1, w64 (x2 + 1), ()), rfl, again ⟨hr, hr2, fun h0 => by omega⟩⟩
      · refine ⟨.exit (x1, x2, ()), ?_, .inl ⟨_, rfl, fun i hi => g3 i hi (by omega)⟩⟩
        rw [show decide (x2 < len x1) = false from decide_eq_false hlt]; rfl) (x := (a, 0, ())) ⟨rfl, Int.le_refl 0, by simp, fun i hi h => by
          have h : (i : Int) < 0 := h
          omega⟩
  rw [h1]
  rcases h2 with ⟨i, rfl, hg⟩ | ⟨rfl, hg⟩
  · exact .inl ⟨rfl, hg⟩
  · exact .inr ⟨rfl, hg⟩
theorem implSet_ok (a : List Sp) (h : a.length ≤ 1048576) : (F.impl_SetOk a = some true ∧ Good a) ∨ (F.impl_SetOk a = some false ∧ ¬ Good a) := by
  unfold F.impl_SetOk
  obtain ⟨y, h1, h2⟩ := loopO_rule (step := F.impl_SetOk.s2) (fun x => x.1 = a ∧ x.2.1 = a ∧ x.2.2.1 = len a ∧ 0 ≤ x.2.2.2.1 ∧ x.2.2.2.1 ≤ a.length ∧ ∀ (i : Nat) (hi : i < a.length), (i : Int) < x.2.2.2.1 → okAt a i hi) (fun y => (∃ i, y = .inl i ∧ Good a) ∨ (y = .inr false ∧ ¬ Good a))
    (fun x => a.length - x.2.2.2.1.toNat) (fun x hx => by
      obtain ⟨x1, xa, xl, x2, u⟩ := x
      obtain ⟨rfl, ea, el, g1, g2, g3⟩ := hx
      simp only at g1 g2 g3 ea el
      subst ea; subst el
      have h : xa.length ≤ 1048576 := h
      unfold F.impl_SetOk.s2
      simp only
      by_cases hlt : x2 < (xa.length : Int)
      · have hin : x2.toNat < xa.length := by omega
        have again : okAt xa x2.toNat hin → (xa = xa ∧ xa = xa ∧ len xa = len xa ∧ 0 ≤ w64 (x2 + 1) ∧ w64 (x2 + 1) ≤ xa.length ∧ ∀ (i : Nat) (hi : i < xa.length), (i : Int) < w64 (x2 + 1) → okAt xa i hi) ∧ xa.length - (w64 (x2 + 1)).toNat < xa.length - x2.toNat := by
          intro hok
          refine ⟨⟨rfl, rfl, rfl, ?_, ?_, ?_⟩, ?_⟩
          all_goals rw [w64_id (by omega) (by omega)]
          · omega
          · omega
          · intro i hi hlt'
            by_cases e : i = x2.toNat
            · subst e; exact hok
            · exact g3 i hi (by omega)
          · omega
        rw [show decide (x2 < len xa) = true from decide_eq_true hlt, inb_of g1 hlt, within_eq, within_eq, getD_at hin]
        simp only [chk_true, cond_true, Option.bind_some]
        cases hr : inR 0 9999 xa[x2.toNat].1 with
        | false => exact ⟨.ret false, rfl, .inr ⟨rfl, fun hg => by have := (hg _ hin).1; rw [hr] at this; cases this⟩⟩
        | true =>
          simp only [Bool.not_true, cond_false]
          cases hr2 : inR xa[x2.toNat].1 9999 xa[x2.toNat].2.1 with
          | false => exact ⟨.ret false, rfl, .inr ⟨rfl, fun hg => by have := (hg _ hin).2.1; rw [hr2] at this; cases this⟩⟩
          | true =>
            simp only [Bool.not_true, cond_false]
            by_cases hp : x2 > 0
            · have hin2 : x2.toNat - 1 < xa.length := by omega
              have hb := (g3 (x2.toNat - 1) hin2 (by omega))
              have hb1 := inR_iff.1 hb.1
              have hb2 := inR_iff.1 hb.2.1
              rw [show decide (x2 > 0) = true from decide_eq_true hp, w64_id (x := x2 - 1) (by omega) (by omega), inb_of (i := x2 - 1) (by omega) (by omega), show (x2 - 1).toNat = x2.toNat - 1 by omega, getD_at hin2, w64_id (x := xa[x2.toNat - 1].2.1 + 1) (by omega) (by omega)]
              simp only [chk_true, cond_true]
              by_cases hle : xa[x2.toNat].1 ≤ xa[x2.toNat - 1].2.1 + 1
              · rw [show decide (xa[x2.toNat].1 ≤ xa[x2.toNat - 1].2.1 + 1) = true from decide_eq_true hle]
                exact ⟨.ret false, rfl, .inr ⟨rfl, fun hg => (hg _ hin).2.2 (by omega) hle⟩⟩
              · rw [show decide (xa[x2.toNat].1 ≤ xa[x2.toNat - 1].2.1 + 1) = false from decide_eq_false hle]
                exact ⟨.again (xa, xa, len xa, w64 (x2 + 1), ()), rfl, again ⟨hr, hr2, fun _ => hle⟩⟩
            · rw [show decide (x2 > 0) = false from decide_eq_false hp]
              exact ⟨.again (xa, xa, len xa, w64 (x2 + 1), ()), rfl, again ⟨hr, hr2, fun h0 => by omega⟩⟩
      · refine ⟨.exit (xa, xa, len xa, x2, ()), ?_, .inl ⟨_, rfl, fun i hi => g3 i hi (by omega)⟩⟩
        rw [show decide (x2 < len xa) = false from decide_eq_false hlt]; rfl) (x := (a, a, len a, 0, ())) ⟨rfl, rfl, rfl, Int.le_refl 0, by simp, fun i hi h => by
          have h : (i : Int) < 0 := h
          omega⟩
  rw [h1]
  rcases h2 with ⟨i, rfl, hg⟩ | ⟨rfl, hg⟩
  · exact .inl ⟨rfl, hg⟩
  · exact .inr ⟨rfl, hg⟩
open Classical in
noncomputable def decB (p : Prop) : Bool := decide p
theorem decB_iff {p : Prop} : decB p = true ↔ p := by simp [decB]
theorem decB_pos {p : Prop} (h : p) : decB p = true := decB_iff.2 h
theorem decB_neg {p : Prop} (h : ¬ p) : decB p = false := by simp [decB, h]
theorem decB_eq {p : Prop} {b : Bool} (h : b = true ↔ p) : b = decB p := by
  rw [Bool.eq_iff_iff, h, decB_iff]
theorem loop_allN {X A : Type} {step : X → Option (Lp X A)} (n : Nat) (mk : Nat → X) (c : Nat → Bool) (a : A)
    (h : ∀ i, i < n → (∀ j, j < i → c j = true) → step (mk i) = some (bif c i then .again (mk (i + 1)) else .ret a))
    (he : step (mk n) = some (.exit (mk n))) :
    loopO step (mk 0) = some (bif (List.range n).all c then .inl (mk n) else .inr a) := by
  obtain ⟨h1, _⟩ := loop_n (step := step) n (fun i (_ : Unit) => mk i) (fun i _ => bif c i then .inl () else .inr a) (fun i _ => ∀ j, j < i → c j = true) (fun i s hi hp => by
    refine ⟨?_, fun s' e j hj => ?_⟩
    · rw [h i hi hp]; cases c i <;> rfl
    · by_cases hji : j = i
      · subst hji
        cases hc : c j with
        | true => rfl
        | false => rw [hc] at e; cases e
      · exact hp j (by omega)) (fun _ _ => he) (s := ()) (fun j hj => by omega)
  rw [h1]
  have key : ∀ k i, Sum.map (fun (_ : Unit) => mk n) id (runN (fun i _ => bif c i then (.inl () : Unit ⊕ A) else .inr a) k i ()) = bif (List.range' i k).all c then .inl (mk n) else .inr a := by
    intro k
    induction k with
    | zero => intro i; rfl
    | succ k ih =>
      intro i
      simp only [runN, List.range'_succ, List.all_cons]
      cases c i with
      | false => rfl
      | true => exact ih (i + 1)
  rw [key n 0, List.range_eq_range']
theorem range_all {n : Nat} {c : Nat → Bool} : (List.range n).all c = true ↔ ∀ i, i < n → c i = true := by
  rw [List.all_eq_true]
  exact ⟨fun h i hi => h i (List.mem_range.2 hi), fun h i hi => h i (List.mem_range.1 hi)⟩
theorem specSet_dec (a : List Sp) (h : a.length ≤ 1048576) : F.spec_SetOk a = some (decB (Good a)) := by
  rcases specSet_ok a h with ⟨e, g⟩ | ⟨e, g⟩
  · rw [e, decB_pos g]
  · rw [e, decB_neg g]
theorem implSet_dec (a : List Sp) (h : a.length ≤ 1048576) : F.impl_SetOk a = some (decB (Good a)) := by
  rcases implSet_ok a h with ⟨e, g⟩ | ⟨e, g⟩
  · rw [e, decB_pos g]
  · rw [e, decB_neg g]
def ap1 (x y : Sp) : Bool := !(decide (x.1 ≤ y.2.1) && decide (y.1 ≤ x.2.1))
def apB (a b : List Sp) : Bool := a.all fun x => b.all fun y => ap1 x y
theorem specApart_in (a b : List Sp) (i : Nat) (hi : i < a.length) (hb : b.length ≤ 1048576) : loopO F.spec_SetApart.s7 (a, b, (i : Int), 0, ()) = some (bif b.all (ap1 a[i]) then .inl (a, b, (i : Int), ((b.length : Nat) : Int), ()) else .inr (.ret false)) :=
  loop_all (step := F.spec_SetApart.s7) b (fun k => (a, b, (i : Int), (k : Int), ())) (ap1 a[i]) (.ret false) (fun k hk => by
    unfold F.spec_SetApart.s7
    simp only
    rw [lt_len hk, inb_nat hi, inb_nat hk, Int.toNat_natCast, Int.toNat_natCast, w64_nat (by omega), getD_at hi, getD_at hk]
    simp only [cond_true, chk_true, ap1]
    cases decide (a[i].1 ≤ b[k].2.1) <;> cases decide (b[k].1 ≤ a[i].2.1) <;> rfl) (by
    unfold F.spec_SetApart.s7
    simp only [ge_len, cond_false])
theorem specApart_out (a b : List Sp) (ha : a.length ≤ 1048576) (hb : b.length ≤ 1048576) : loopO F.spec_SetApart.s4 (a, b, 0, ()) = some (bif apB a b then .inl (a, b, ((a.length : Nat) : Int), ()) else .inr false) :=
  loop_all (step := F.spec_SetApart.s4) a (fun k => (a, b, (k : Int), ())) (fun x => b.all (ap1 x)) false (fun k hk => by
    unfold F.spec_SetApart.s4
    simp only
    rw [lt_len hk, specApart_in a b k hk hb]
    simp only [cond_true]
    cases b.all (ap1 a[k]) with
    | false => rfl
    | true => simp only [cond_true, afterO]; rw [w64_nat (by omega)]) (by
    unfold F.spec_SetApart.s4
    simp only [ge_len, cond_false])
theorem implApart_in (a b : List Sp) (i : Nat) (x : Sp) (hb : b.length ≤ 1048576) : loopO F.impl_SetApart.s7 (b, a, len a, (i : Int), b, len b, 0, x, ()) = some (bif b.all (ap1 x) then .inl (b, a, len a, (i : Int), b, len b, ((b.length : Nat) : Int), x, ()) else .inr (.ret false)) :=
  loop_all (step := F.impl_SetApart.s7) b (fun k => (b, a, len a, (i : Int), b, len b, (k : Int), x, ())) (ap1 x) (.ret false) (fun k hk => by
    unfold F.impl_SetApart.s7
    simp only
    rw [lt_len hk, inb_nat hk, Int.toNat_natCast, w64_nat (by omega), getD_at hk]
    simp only [cond_true, chk_true, ap1]
    cases decide (x.1 ≤ b[k].2.1) <;> cases decide (b[k].1 ≤ x.2.1) <;> rfl) (by
    unfold F.impl_SetApart.s7
    simp only [ge_len, cond_false])
theorem implApart_out (a b : List Sp) (ha : a.length ≤ 1048576) (hb : b.length ≤ 1048576) : loopO F.impl_SetApart.s4 (b, a, len a, 0, ()) = some (bif apB a b then .inl (b, a, len a, ((a.length : Nat) : Int), ()) else .inr false) :=
  loop_all (step := F.impl_SetApart.s4) a (fun k => (b, a, len a, (k : Int), ())) (fun x => b.all (ap1 x)) false (fun k hk => by
    unfold F.impl_SetApart.s4
    simp only
    rw [lt_len hk, inb_nat hk, Int.toNat_natCast, getD_at hk, implApart_in a b k a[k] hb]
    simp only [cond_true, chk_true]
    cases b.all (ap1 a[k]) with
    | false => rfl
    | true => simp only [cond_true, afterO]; rw [w64_nat (by omega)]) (by
    unfold F.impl_SetApart.s4
    simp only [ge_len, cond_false])
theorem specApart_eq (a b : List Sp) (ha : a.length ≤ 1048576) (hb : b.length ≤ 1048576) : F.spec_SetApart a b = some (decB (Good a) && (decB (Good b) && apB a b)) := by
  unfold F.spec_SetApart
  simp only [specSet_dec a ha, specSet_dec b hb, Option.bind_some, specApart_out a b ha hb]
  cases decB (Good a) <;> cases decB (Good b) <;> cases apB a b <;> rfl
theorem implApart_eq (a b : List Sp) (ha : a.length ≤ 1048576) (hb : b.length ≤ 1048576) : F.impl_SetApart a b = some (decB (Good a) && (decB (Good b) && apB a b)) := by
  unfold F.impl_SetApart
  simp only [implSet_dec a ha, implSet_dec b hb, Option.bind_some, implApart_out a b ha hb]
  cases decB (Good a) <;> cases decB (Good b) <;> cases apB a b <;> rfl
theorem sum_mem {α : Type} {f : α → Nat} {l : List α} {x : α} (h : x ∈ l) : f x ≤ (l.map f).sum := by
  induction l with
  | nil => cases h
  | cons y l ih =>
    simp only [List.map_cons, List.sum_cons]
    rcases List.mem_cons.1 h with rfl | h
    · omega
    · have := ih h; omega
def zIntS (l : List Int) : Nat := l.length
def fIntS (l : List Int) : Prop := l.length ≤ maxLen
def zIntSS (l : List (List Int)) : Nat := l.length + (l.map zIntS).sum
def fIntSS (l : List (List Int)) : Prop := l.length ≤ maxLen ∧ ∀ x ∈ l, fIntS x
def zSketch (a : DSketch) : Nat := zIntS a.2.2.2.2.1 + zIntS a.2.2.2.2.2.1 + zIntSS a.2.2.2.2.2.2.1
def fSketch (a : DSketch) : Prop := fIntS a.2.2.2.2.1 ∧ fIntS a.2.2.2.2.2.1 ∧ fIntSS a.2.2.2.2.2.2.1
def l3B (l : List Int) (n m : Int) (z : Bool) : Bool := (len l == n) && l.all (fun x => inR 0 m x && (!z || x == 0))
theorem l3List_eq (l : List Int) (n : Nat) (m : Int) (z : Bool) (h : l.length ≤ 1048576) : F.spec_l3List l n m z = some (l3B l n m z) := by
  unfold F.spec_l3List l3B
  by_cases hl : l.length = n
  · subst hl
    rw [show (len l != ((l.length : Nat) : Int)) = false by simp [len], show (len l == ((l.length : Nat) : Int)) = true by simp [len]]
    have hh := loop_all (step := F.spec_l3List.s4) l (fun i => (l, ((l.length : Nat) : Int), m, z, (i : Int), ())) (fun x => inR 0 m x && (!z || x == 0)) false (fun i hi => by
      unfold F.spec_l3List.s4
      simp only
      rw [show decide ((i : Int) < ((l.length : Nat) : Int)) = true from decide_eq_true (by omega), inb_nat hi, Int.toNat_natCast, w64_nat (by omega), getD_at hi, l1In_eq]
      simp only [cond_true, chk_true, Option.bind_some]
      cases inR 0 m l[i] with
      | false => rfl
      | true =>
        cases z with
        | false => rfl
        | true =>
          simp only [Bool.not_true, cond_false, cond_true, Bool.false_or, Bool.true_and]
          cases hx : (l[i] == 0) with
          | true => simp [bne, hx]
          | false => simp [bne, hx]) (by
      unfold F.spec_l3List.s4
      simp only
      rw [show decide (((l.length : Nat) : Int) < ((l.length : Nat) : Int)) = false from decide_eq_false (by omega)]; rfl)
    simp only [cond_false, Bool.true_and]
    refine (congrArg (fun z => afterO z _) hh).trans ?_
    cases l.all (fun x => inR 0 m x && (!z || x == 0)) <;> rfl
  · rw [show (len l != (n : Int)) = true by simp only [len, bne_iff_ne, ne_eq]; omega, show (len l == (n : Int)) = false by simp only [len, beq_eq_false_iff_ne, ne_eq]; omega]
    rfl
structure SkR (s : DSketch) : Prop where
  cnt : 0 ≤ s.1 ∧ s.1 ≤ 1000000000
  sum : 0 ≤ s.2.1 ∧ s.2.1 ≤ 1000000000
  mn : 0 ≤ s.2.2.1
  mm : s.2.2.1 ≤ s.2.2.2.1
  mx : s.2.2.2.1 ≤ 1000000
  zero : s.1 = 0 → s.2.1 = 0 ∧ s.2.2.2.1 = 0
  hist : s.2.2.2.2.1.length = 8 ∧ ∀ x ∈ s.2.2.2.2.1, (0 ≤ x ∧ x ≤ 1000000000) ∧ (s.1 = 0 → x = 0)
  regs : s.2.2.2.2.2.1.length = 8 ∧ ∀ x ∈ s.2.2.2.2.2.1, (0 ≤ x ∧ x ≤ 17) ∧ (s.1 = 0 → x = 0)
  rows : ∃ r0 r1, s.2.2.2.2.2.2.1 = [r0, r1] ∧ (r0.length = 4 ∧ ∀ x ∈ r0, (0 ≤ x ∧ x ≤ 1000000000) ∧ (s.1 = 0 → x = 0)) ∧ (r1.length = 4 ∧ ∀ x ∈ r1, (0 ≤ x ∧ x ≤ 1000000000) ∧ (s.1 = 0 → x = 0))
theorem l3B_iff {l : List Int} {n : Nat} {m : Int} {c : Int} : l3B l n m (c == 0) = true ↔ l.length = n ∧ ∀ x ∈ l, (0 ≤ x ∧ x ≤ m) ∧ (c = 0 → x = 0) := by
  unfold l3B
  rw [Bool.and_eq_true, List.all_eq_true, beq_iff_eq]
  constructor
  · rintro ⟨h1, h2⟩
    refine ⟨Int.ofNat.inj h1, fun x hx => ?_⟩
    have := h2 x hx
    rw [Bool.and_eq_true, inR_iff] at this
    refine ⟨this.1, fun hc => ?_⟩
    have h3 := this.2
    rw [show (c == 0) = true by simp [hc]] at h3
    simpa using h3
  · rintro ⟨h1, h2⟩
    refine ⟨congrArg Int.ofNat h1, fun x hx => ?_⟩
    obtain ⟨h3, h4⟩ := h2 x hx
    rw [Bool.and_eq_true, inR_iff]
    refine ⟨h3, ?_⟩
    by_cases hc : c = 0
    · simp [hc, h4 hc]
    · simp [hc]
def specB (c su mn mx : Int) (hi re r0 r1 : List Int) : Bool :=
  inR 0 1000000000 c && (inR 0 1000000000 su && (inR 0 1000000 mn && (inR 0 1000000 mx && (!decide (mn > mx) && ((!(c == 0) || (su == 0 && mx == 0)) && (l3B hi 8 1000000000 (c == 0) && (l3B re 8 17 (c == 0) && (l3B r0 4 1000000000 (c == 0) && l3B r1 4 1000000000 (c == 0)))))))))
theorem two_rows {l : List (List Int)} (h : l.length = 2) : ∃ a b, l = [a, b] := by
  match l, h with
  | [a, b], _ => exact ⟨a, b, rfl⟩
theorem specSk_eq (c su mn mx : Int) (hi re r0 r1 : List Int) (u : Unit) (h1 : hi.length ≤ 1048576) (h2 : re.length ≤ 1048576) (h3 : r0.length ≤ 1048576) (h4 : r1.length ≤ 1048576) : F.spec_SketchOk (c, su, mn, mx, hi, re, [r0, r1], u) = some (specB c su mn mx hi re r0 r1) := by
  unfold F.spec_SketchOk specB
  have e0 : F.spec_l3List hi 8 1000000000 (c == 0) = some (l3B hi 8 1000000000 (c == 0)) := l3List_eq hi 8 1000000000 (c == 0) h1
  have e1 : F.spec_l3List re 8 17 (c == 0) = some (l3B re 8 17 (c == 0)) := l3List_eq re 8 17 (c == 0) h2
  have e2 : F.spec_l3List r0 4 1000000000 (c == 0) = some (l3B r0 4 1000000000 (c == 0)) := l3List_eq r0 4 1000000000 (c == 0) h3
  have e3 : F.spec_l3List r1 4 1000000000 (c == 0) = some (l3B r1 4 1000000000 (c == 0)) := l3List_eq r1 4 1000000000 (c == 0) h4
  have i0 : inb 0 [r0, r1].length = true := rfl
  have i1 : inb 1 [r0, r1].length = true := rfl
  have il : (len [r0, r1] != 2) = false := rfl
  simp only [l1In_eq, Option.bind_some, e0, e1, i0, i1, il, chk_true, List.getD_cons_zero, List.getD_cons_succ, e2, e3]
  cases inR 0 1000000000 c with
  | false => rfl
  | true => cases inR 0 1000000000 su with
    | false => rfl
    | true => cases inR 0 1000000 mn with
      | false => rfl
      | true => cases inR 0 1000000 mx with
        | false => rfl
        | true => cases decide (mn > mx) with
          | true => rfl
          | false =>
            generalize l3B hi 8 1000000000 (c == 0) = b1
            generalize l3B re 8 17 (c == 0) = b2
            generalize l3B r0 4 1000000000 (c == 0) = b3
            generalize l3B r1 4 1000000000 (c == 0) = b4
            cases (c == 0) with
            | false => cases b1 <;> cases b2 <;> cases b3 <;> rfl
            | true =>
              cases hs : (su == 0) with
              | false => simp [bne, hs]
              | true => cases hm : (mx == 0) with
                | false => simp [bne, hs, hm]
                | true => simp only [bne, hs, hm]; cases b1 <;> cases b2 <;> cases b3 <;> rfl
theorem specB_iff {c su mn mx : Int} {hi re r0 r1 : List Int} {u : Unit} : specB c su mn mx hi re r0 r1 = true ↔ SkR (c, su, mn, mx, hi, re, [r0, r1], u) := by
  have g0 : l3B hi 8 1000000000 (c == 0) = true ↔ _ := @l3B_iff hi 8 1000000000 c
  have g1 : l3B re 8 17 (c == 0) = true ↔ _ := @l3B_iff re 8 17 c
  have g2 : l3B r0 4 1000000000 (c == 0) = true ↔ _ := @l3B_iff r0 4 1000000000 c
  have g3 : l3B r1 4 1000000000 (c == 0) = true ↔ _ := @l3B_iff r1 4 1000000000 c
  unfold specB
  simp only [Bool.and_eq_true, inR_iff, g0, g1, g2, g3, Bool.not_eq_true', decide_eq_false_iff_not, Bool.or_eq_true, beq_eq_false_iff_ne, beq_iff_eq]
  constructor
  · rintro ⟨a1, a2, a3, a4, a5, a6, a7, a8, a9, a10⟩
    exact ⟨a1, a2, a3.1, by simp only; omega, a4.2, fun hc => a6.resolve_left (fun h => h hc), a7, a8, r0, r1, rfl, a9, a10⟩
  · rintro ⟨a1, a2, a3, a4, a5, a6, a7, a8, s0, s1, hs, a9, a10⟩
    cases hs
    simp only at *
    refine ⟨a1, a2, ⟨by omega, by omega⟩, ⟨by omega, a5⟩, by omega, ?_, a7, a8, a9, a10⟩
    by_cases hc : c = 0
    · exact .inr (a6 hc)
    · exact .inl hc
theorem flat_len : ∀ (l : List (List Int)), l.flatten.length = (l.map List.length).sum
  | [] => rfl
  | x :: l => by simp [flat_len l]
theorem take_flat_le (l : List (List Int)) (i : Nat) : (l.take i).flatten.length ≤ l.flatten.length := by
  have h := congrArg (fun z : List (List Int) => z.flatten.length) (List.take_append_drop i l)
  simp only [List.flatten_append, List.length_append] at h
  omega
theorem counts_eq (s : DSketch) (h : zSketch s ≤ 1048576) : F.impl_counts s = some ((s.2.2.2.2.1 ++ s.2.2.2.2.2.1) ++ s.2.2.2.2.2.2.1.flatten) := by
  have hz : s.2.2.2.2.1.length + s.2.2.2.2.2.1.length + (s.2.2.2.2.2.2.1.length + s.2.2.2.2.2.2.1.flatten.length) ≤ 1048576 := by
    rw [flat_len]; exact h
  unfold F.impl_counts F.impl_copyInts
  rw [fits_of (by omega), chk_true, Option.bind_some, fits_of (by omega), chk_true]
  have hl := loop_run (step := F.impl_counts.s3) (fun i => ((s.2.2.2.2.1 ++ s.2.2.2.2.2.1) ++ (s.2.2.2.2.2.2.1.take i).flatten, s.2.2.2.2.2.2.1, len s.2.2.2.2.2.2.1, (i : Int), ())) s.2.2.2.2.2.2.1.length (fun i hi => by
    have h1 := take_flat_le s.2.2.2.2.2.2.1 (i + 1)
    have h2 : (s.2.2.2.2.2.2.1.take (i + 1)).flatten = (s.2.2.2.2.2.2.1.take i).flatten ++ s.2.2.2.2.2.2.1[i] := by
      rw [List.take_succ_eq_append_getElem hi, List.flatten_append]; simp
    rw [h2, List.length_append] at h1
    unfold F.impl_counts.s3
    simp only
    rw [lt_len hi, inb_nat hi, Int.toNat_natCast, w64_nat (by omega), getD_at hi, fits_of (by simp only [List.length_append]; omega), h2]
    simp only [cond_true, chk_true, List.append_assoc]) (l := .exit ((s.2.2.2.2.1 ++ s.2.2.2.2.2.1) ++ s.2.2.2.2.2.2.1.flatten, s.2.2.2.2.2.2.1, len s.2.2.2.2.2.2.1, ((s.2.2.2.2.2.2.1.length : Nat) : Int), ())) (y := .inl ((s.2.2.2.2.1 ++ s.2.2.2.2.2.1) ++ s.2.2.2.2.2.2.1.flatten, s.2.2.2.2.2.2.1, len s.2.2.2.2.2.2.1, ((s.2.2.2.2.2.2.1.length : Nat) : Int), ())) (by
    unfold F.impl_counts.s3
    simp only [ge_len, cond_false, List.take_length]) rfl
  have e0 : (s.2.2.2.2.1 ++ s.2.2.2.2.2.1) ++ (s.2.2.2.2.2.2.1.take 0).flatten = s.2.2.2.2.1 ++ s.2.2.2.2.2.1 := by simp
  have hl : loopO F.impl_counts.s3 ((s.2.2.2.2.1 ++ s.2.2.2.2.2.1) ++ (s.2.2.2.2.2.2.1.take 0).flatten, s.2.2.2.2.2.2.1, len s.2.2.2.2.2.2.1, 0, ()) = _ := hl
  rw [e0] at hl
  simp only [hl, afterO]
theorem sum_loop (l : List Int) (s : DSketch) (h : l.length ≤ 1048576) : loopO F.impl_SketchOk.s5 (0, l, len l, 0, s, ()) = some (bif l.all (inR 0 1000000000) then .inl (l.sum, l, len l, ((l.length : Nat) : Int), s, ()) else .inr false) := by
  obtain ⟨h1, _⟩ := loop_l (step := F.impl_SketchOk.s5) l (fun i acc => (acc, l, len l, (i : Int), s, ())) (fun _ acc x => bif inR 0 1000000000 x then .inl (acc + x) else .inr false) (fun i acc => 0 ≤ acc ∧ acc ≤ (i : Int) * 1000000000) (fun i acc hi hp => by
    unfold F.impl_SketchOk.s5
    simp only
    rw [lt_len hi, inb_nat hi, Int.toNat_natCast, w64_nat (by omega), getD_at hi, within_eq]
    simp only [cond_true, chk_true, Option.bind_some]
    cases hx : inR 0 1000000000 l[i] with
    | false => exact ⟨rfl, fun s' e => by cases e⟩
    | true =>
      have hb := inR_iff.1 hx
      rw [w64_id (x := acc + l[i]) (by omega) (by omega)]
      refine ⟨rfl, fun s' e => ?_⟩
      cases e
      refine ⟨by omega, ?_⟩
      rw [show ((i + 1 : Nat) : Int) * 1000000000 = (i : Int) * 1000000000 + 1000000000 by omega]
      omega) (fun acc _ => by
    unfold F.impl_SketchOk.s5
    simp only [ge_len, cond_false]) (s := 0) ⟨Int.le_refl 0, by omega⟩
  refine h1.trans (congrArg some ?_)
  have key : ∀ (m : List Int) (i : Nat) (acc : Int), Sum.map (fun acc => (acc, l, len l, ((l.length : Nat) : Int), s, ())) id (runL (fun _ acc x => bif inR 0 1000000000 x then (.inl (acc + x) : Int ⊕ Bool) else .inr false) i m acc) = bif m.all (inR 0 1000000000) then .inl (acc + m.sum, l, len l, ((l.length : Nat) : Int), s, ()) else .inr false := by
    intro m
    induction m with
    | nil => intro i acc; simp [runL]
    | cons x m ih =>
      intro i acc
      simp only [runL, List.all_cons]
      cases inR 0 1000000000 x with
      | false => rfl
      | true =>
        simp only [cond_true, ih, Bool.true_and, List.sum_cons, Int.add_assoc]
  rw [key l 0 0, Int.zero_add]
theorem max_loop (l : List Int) (n : Int) (s : DSketch) (h : l.length ≤ 1048576) : loopO F.impl_SketchOk.s12 (n, l, len l, 0, s, ()) = some (bif l.all (fun x => !decide (x > 17)) then .inl (n, l, len l, ((l.length : Nat) : Int), s, ()) else .inr false) :=
  loop_all (step := F.impl_SketchOk.s12) l (fun i => (n, l, len l, (i : Int), s, ())) (fun x => !decide (x > 17)) false (fun i hi => by
    unfold F.impl_SketchOk.s12
    simp only
    rw [lt_len hi, inb_nat hi, Int.toNat_natCast, w64_nat (by omega), getD_at hi]
    simp only [cond_true, chk_true]
    cases decide (l[i] > 17) <;> rfl) (by
    unfold F.impl_SketchOk.s12
    simp only [ge_len, cond_false])
theorem sum_zero : ∀ {l : List Int}, (∀ x ∈ l, 0 ≤ x) → (0 ≤ l.sum ∧ (l.sum = 0 ↔ ∀ x ∈ l, x = 0))
  | [], _ => ⟨Int.le_refl 0, by simp⟩
  | x :: l, h => by
    obtain ⟨h1, h2⟩ := sum_zero (l := l) (fun y hy => h y (by simp [hy]))
    have h3 := h x (by simp)
    rw [List.sum_cons]
    refine ⟨by omega, ⟨fun e y hy => ?_, fun e => ?_⟩⟩
    · rcases List.mem_cons.1 hy with rfl | hy
      · omega
      · exact h2.1 (by omega) y hy
    · have := h2.2 (fun y hy => e y (by simp [hy]))
      have := e x (by simp)
      omega
def implB (c su mn mx : Int) (hi re r0 r1 : List Int) : Bool :=
  (((hi ++ re) ++ [r0, r1].flatten) ++ [c, su, mn, mx]).all (inR 0 1000000000) && (re.all (fun x => !decide (x > 17)) && (if c = 0 then (((hi ++ re) ++ [r0, r1].flatten) ++ [c, su, mn, mx]).sum == 0 else decide (mn ≤ mx) && decide (mx ≤ 1000000)))
theorem implSk_eq (c su mn mx : Int) (hi re r0 r1 : List Int) (u : Unit) (h : zSketch (c, su, mn, mx, hi, re, [r0, r1], u) ≤ 1048576) (h1 : hi.length = 8) (h2 : re.length = 8) (h3 : r0.length = 4) (h4 : r1.length = 4) : F.impl_SketchOk (c, su, mn, mx, hi, re, [r0, r1], u) = some (implB c su mn mx hi re r0 r1) := by
  unfold F.impl_SketchOk implB
  have hc := counts_eq (c, su, mn, mx, hi, re, [r0, r1], u) h
  simp only at hc
  have e1 : (len hi != 8) = false := by simp [len, h1]
  have e2 : (len re != 8) = false := by simp [len, h2]
  have e3 : (len [r0, r1] != 2) = false := rfl
  have e4 : (len r0 != 4) = false := by simp [len, h3]
  have e5 : (len r1 != 4) = false := by simp [len, h4]
  have i0 : inb 0 [r0, r1].length = true := rfl
  have i1 : inb 1 [r0, r1].length = true := rfl
  simp only [e1, e2, e3, i0, i1, chk_true, List.getD_cons_zero, List.getD_cons_succ, e4, e5, cond_false, hc, Option.bind_some]
  have hn : (((hi ++ re) ++ [r0, r1].flatten) ++ [c, su, mn, mx]).length = 28 := by simp [h1, h2, h3, h4]
  have hn2 : ((hi ++ re) ++ [r0, r1].flatten).length = 24 := by simp [h1, h2, h3, h4]
  rw [fits_of (by rw [hn2]; simp), chk_true, sum_loop _ _ (by rw [hn]; omega)]
  generalize ((hi ++ re) ++ [r0, r1].flatten) ++ [c, su, mn, mx] = nums at *
  cases nums.all (inR 0 1000000000) with
  | false => rfl
  | true =>
    simp only [cond_true, afterO, Bool.true_and]
    rw [max_loop _ _ _ (by omega)]
    cases re.all (fun x => !decide (x > 17)) with
    | false => rfl
    | true =>
      simp only [cond_true, Bool.true_and]
      by_cases hc0 : c = 0
      · rw [if_pos hc0, show (c == 0) = true by simp [hc0]]; rfl
      · rw [if_neg hc0, show (c == 0) = false by simp [hc0]]
        simp only [cond_false]
        cases decide (mn ≤ mx) <;> rfl
theorem implB_iff {c su mn mx : Int} {hi re r0 r1 : List Int} {u : Unit} (h1 : hi.length = 8) (h2 : re.length = 8) (h3 : r0.length = 4) (h4 : r1.length = 4) : implB c su mn mx hi re r0 r1 = true ↔ SkR (c, su, mn, mx, hi, re, [r0, r1], u) := by
  unfold implB
  have hall : (((hi ++ re) ++ [r0, r1].flatten) ++ [c, su, mn, mx]).all (inR 0 1000000000) = true ↔ ∀ x ∈ ((hi ++ re) ++ [r0, r1].flatten) ++ [c, su, mn, mx], 0 ≤ x ∧ x ≤ 1000000000 := by
    rw [List.all_eq_true]
    exact ⟨fun h x hx => inR_iff.1 (h x hx), fun h x hx => inR_iff.2 (h x hx)⟩
  have hmem : ∀ x, x ∈ ((hi ++ re) ++ [r0, r1].flatten) ++ [c, su, mn, mx] ↔ (x ∈ hi ∨ x ∈ re ∨ x ∈ r0 ∨ x ∈ r1 ∨ x = c ∨ x = su ∨ x = mn ∨ x = mx) := by
    intro x; simp
  have h17 : re.all (fun x => !decide (x > 17)) = true ↔ ∀ x ∈ re, x ≤ 17 := by
    rw [List.all_eq_true]
    refine ⟨fun h x hx => ?_, fun h x hx => ?_⟩
    · have := h x hx; simp at this; omega
    · have := h x hx; simp; omega
  rw [Bool.and_eq_true, Bool.and_eq_true, hall, h17]
  constructor
  · rintro ⟨a1, a2, a3⟩
    have q : ∀ x, (x ∈ hi ∨ x ∈ re ∨ x ∈ r0 ∨ x ∈ r1 ∨ x = c ∨ x = su ∨ x = mn ∨ x = mx) → 0 ≤ x ∧ x ≤ 1000000000 := fun x hx => a1 x ((hmem x).2 hx)
    have qc := q c (by simp)
    have qs := q su (by simp)
    have qn := q mn (by simp)
    have qx := q mx (by simp)
    by_cases hc : c = 0
    · rw [if_pos hc, beq_iff_eq] at a3
      have hz := (sum_zero (fun x hx => (a1 x hx).1)).2.1 a3
      have z : ∀ x, (x ∈ hi ∨ x ∈ re ∨ x ∈ r0 ∨ x ∈ r1 ∨ x = c ∨ x = su ∨ x = mn ∨ x = mx) → x = 0 := fun x hx => hz x ((hmem x).2 hx)
      have zs := z su (by simp)
      have zn := z mn (by simp)
      have zx := z mx (by simp)
      exact ⟨qc, qs, by simp only; omega, by simp only; omega, by simp only; omega, fun _ => ⟨zs, zx⟩, ⟨h1, fun x hx => ⟨q x (.inl hx), fun _ => z x (.inl hx)⟩⟩, ⟨h2, fun x hx => ⟨⟨(q x (.inr (.inl hx))).1, a2 x hx⟩, fun _ => z x (.inr (.inl hx))⟩⟩,
        r0, r1, rfl, ⟨h3, fun x hx => ⟨q x (by simp [hx]), fun _ => z x (by simp [hx])⟩⟩, ⟨h4, fun x hx => ⟨q x (by simp [hx]), fun _ => z x (by simp [hx])⟩⟩⟩
    · rw [if_neg hc, Bool.and_eq_true, decide_eq_true_eq, decide_eq_true_eq] at a3
      exact ⟨qc, qs, qn.1, a3.1, a3.2, fun h => absurd h hc, ⟨h1, fun x hx => ⟨q x (.inl hx), fun h => absurd h hc⟩⟩, ⟨h2, fun x hx => ⟨⟨(q x (.inr (.inl hx))).1, a2 x hx⟩, fun h => absurd h hc⟩⟩,
        r0, r1, rfl, ⟨h3, fun x hx => ⟨q x (by simp [hx]), fun h => absurd h hc⟩⟩, ⟨h4, fun x hx => ⟨q x (by simp [hx]), fun h => absurd h hc⟩⟩⟩
  · rintro ⟨b1, b2, b3, b4, b5, b6, b7, b8, s0, s1, hs, b9, b10⟩
    cases hs
    simp only at b1 b2 b3 b4 b5 b6 b7 b8 b9 b10
    refine ⟨fun x hx => ?_, fun x hx => (b8.2 x hx).1.2, ?_⟩
    · rcases (hmem x).1 hx with h | h | h | h | h | h | h | h
      · exact (b7.2 x h).1
      · have := (b8.2 x h).1; omega
      · exact (b9.2 x h).1
      · exact (b10.2 x h).1
      all_goals omega
    · by_cases hc : c = 0
      · rw [if_pos hc, beq_iff_eq]
        obtain ⟨z1, z2⟩ := b6 hc
        have hz : ∀ x ∈ ((hi ++ re) ++ [r0, r1].flatten) ++ [c, su, mn, mx], x = 0 := fun x hx => by
          rcases (hmem x).1 hx with h | h | h | h | h | h | h | h
          · exact (b7.2 x h).2 hc
          · exact (b8.2 x h).2 hc
          · exact (b9.2 x h).2 hc
          · exact (b10.2 x h).2 hc
          all_goals omega
        exact (sum_zero (fun x hx => by rw [hz x hx]; exact Int.le_refl 0)).2.2 hz
      · rw [if_neg hc, Bool.and_eq_true, decide_eq_true_eq, decide_eq_true_eq]
        exact ⟨b4, b5⟩
theorem skOk_same (s : DSketch) (h : zSketch s ≤ 1048576) : ∃ b, F.spec_SketchOk s = some b ∧ F.impl_SketchOk s = some b ∧ (b = true ↔ SkR s) := by
  obtain ⟨c, su, mn, mx, hi, re, ro, u⟩ := s
  have hz : hi.length + re.length + (ro.length + (ro.map List.length).sum) ≤ 1048576 := h
  by_cases hr : ro.length = 2
  · obtain ⟨r0, r1, rfl⟩ := two_rows hr
    simp only [List.map_cons, List.map_nil, List.sum_cons, List.sum_nil] at hz
    have hsp := specSk_eq c su mn mx hi re r0 r1 u (by omega) (by omega) (by omega) (by omega)
    by_cases hl : hi.length = 8 ∧ re.length = 8 ∧ r0.length = 4 ∧ r1.length = 4
    · obtain ⟨h1, h2, h3, h4⟩ := hl
      have him := implSk_eq c su mn mx hi re r0 r1 u h h1 h2 h3 h4
      have e : implB c su mn mx hi re r0 r1 = specB c su mn mx hi re r0 r1 := by
        rw [Bool.eq_iff_iff, implB_iff (u := u) h1 h2 h3 h4, specB_iff]
      exact ⟨_, hsp, him.trans (congrArg some e), specB_iff⟩
    · have hb : specB c su mn mx hi re r0 r1 = false := by
        cases hb : specB c su mn mx hi re r0 r1 with
        | false => rfl
        | true =>
          obtain ⟨_, _, _, _, _, _, b7, b8, s0, s1, hs, b9, b10⟩ := (specB_iff (u := u)).1 hb
          cases hs
          exact absurd ⟨b7.1, b8.1, b9.1, b10.1⟩ hl
      refine ⟨false, hsp.trans (congrArg some hb), ?_, ?_⟩
      · unfold F.impl_SketchOk
        have e3 : (len [r0, r1] != 2) = false := rfl
        have i0 : inb 0 [r0, r1].length = true := rfl
        have i1 : inb 1 [r0, r1].length = true := rfl
        simp only [e3, i0, i1, chk_true, List.getD_cons_zero, List.getD_cons_succ]
        by_cases h1 : hi.length = 8
        · rw [show (len hi != 8) = false by simp [len, h1]]
          by_cases h2 : re.length = 8
          · rw [show (len re != 8) = false by simp [len, h2]]
            by_cases h3 : r0.length = 4
            · rw [show (len r0 != 4) = false by simp [len, h3]]
              have h4 : r1.length ≠ 4 := fun h4 => hl ⟨h1, h2, h3, h4⟩
              rw [show (len r1 != 4) = true by simp only [len, bne_iff_ne, ne_eq]; omega]; rfl
            · rw [show (len r0 != 4) = true by simp only [len, bne_iff_ne, ne_eq]; omega]; rfl
          · rw [show (len re != 8) = true by simp only [len, bne_iff_ne, ne_eq]; omega]; rfl
        · rw [show (len hi != 8) = true by simp only [len, bne_iff_ne, ne_eq]; omega]; rfl
      · rw [← hb]; exact specB_iff
  · refine ⟨false, ?_, ?_, ⟨fun h => (by cases h), fun hs => ?_⟩⟩
    · unfold F.spec_SketchOk
      simp only [l1In_eq, Option.bind_some]
      rw [show (len ro != 2) = true by simp only [len, bne_iff_ne, ne_eq]; omega]
      cases inR 0 1000000000 c <;> cases inR 0 1000000000 su <;> cases inR 0 1000000 mn <;> cases inR 0 1000000 mx <;> cases decide (mn > mx) <;> rfl
    · unfold F.impl_SketchOk
      simp only
      rw [show (len ro != 2) = true by simp only [len, bne_iff_ne, ne_eq]; omega]
      cases (len hi != 8) <;> cases (len re != 8) <;> rfl
    · obtain ⟨r0, r1, hr', _⟩ := hs.rows
      have hr' : ro = [r0, r1] := hr'
      exact absurd (by rw [hr']; rfl) hr
def zItem (a : DItem) : Nat := zSketch a.2.2.2.2.1
def fItem (a : DItem) : Prop := fSketch a.2.2.2.2.1
structure ItR (x : DItem) : Prop where
  seq : 1 ≤ x.1 ∧ x.1 ≤ 60
  cls : 0 ≤ x.2.1 ∧ x.2.1 ≤ 1
  key : 0 ≤ x.2.2.1 ∧ x.2.2.1 ≤ 4
  win : 0 ≤ x.2.2.2.1 ∧ x.2.2.2.1 ≤ 20
  sk : SkR x.2.2.2.2.1
theorem l6Place_eq (k w : Int) : F.spec_l6Place k w = some (inR 0 4 k && inR 0 20 w) := by
  unfold F.spec_l6Place
  simp only [l1In_eq, Option.bind_some]
  cases inR 0 4 k <;> rfl
def zSpanS (l : List DSpan) : Nat := l.length
def fSpanS (l : List DSpan) : Prop := l.length ≤ maxLen
def zEntry (a : DEntry) : Nat := zSpanS a.2.2.1 + zSketch a.2.2.2.1
def fEntry (a : DEntry) : Prop := fSpanS a.2.2.1 ∧ fSketch a.2.2.2.1
def zEntryS (l : List DEntry) : Nat := l.length + (l.map zEntry).sum
def fEntryS (l : List DEntry) : Prop := l.length ≤ maxLen ∧ ∀ x ∈ l, fEntry x
def zRow (a : DRow) : Nat := zEntryS a.1
def fRow (a : DRow) : Prop := fEntryS a.1
structure EnR (e : DEntry) : Prop where
  key : 0 ≤ e.1 ∧ e.1 ≤ 4
  win : 0 ≤ e.2.1 ∧ e.2.1 ≤ 20
  ids : Good e.2.2.1
  some : e.2.2.1 ≠ []
  sk : SkR e.2.2.2.1
theorem specSk_dec (s : DSketch) (h : zSketch s ≤ 1048576) : F.spec_SketchOk s = some (decB (SkR s)) := by
  obtain ⟨b, h1, _, h3⟩ := skOk_same s h
  rw [h1, decB_eq h3]
theorem implSk_dec (s : DSketch) (h : zSketch s ≤ 1048576) : F.impl_SketchOk s = some (decB (SkR s)) := by
  obtain ⟨b, _, h1, h3⟩ := skOk_same s h
  rw [h1, decB_eq h3]
theorem len_pos {α : Type} (l : List α) : decide (len l > 0) = decB (l ≠ []) := by
  cases l with
  | nil => simp [len, decB]
  | cons x l => rw [decB_pos (by simp)]; simp [len]
theorem enR_and (e : DEntry) : (inR 0 4 e.1 && (inR 0 20 e.2.1 && (decB (Good e.2.2.1) && (decB (e.2.2.1 ≠ []) && decB (SkR e.2.2.2.1))))) = decB (EnR e) := by
  refine decB_eq ?_
  simp only [Bool.and_eq_true, inR_iff, decB_iff]
  exact ⟨fun ⟨a, b, c, d, f⟩ => ⟨a, b, c, d, f⟩, fun ⟨a, b, c, d, f⟩ => ⟨a, b, c, d, f⟩⟩
theorem specEn_dec (e : DEntry) (h : zEntry e ≤ 1048576) : F.spec_EntryOk e = some (decB (EnR e)) := by
  have hz : e.2.2.1.length + zSketch e.2.2.2.1 ≤ 1048576 := h
  unfold F.spec_EntryOk
  rw [← enR_and]
  simp only [l6Place_eq, specSet_dec _ (show e.2.2.1.length ≤ 1048576 by omega), specSk_dec _ (show zSketch e.2.2.2.1 ≤ 1048576 by omega), Option.bind_some, len_pos]
  cases inR 0 4 e.1 <;> cases inR 0 20 e.2.1 <;> cases decB (Good e.2.2.1) <;> cases decB (e.2.2.1 ≠ []) <;> rfl
theorem implEn_dec (e : DEntry) (h : zEntry e ≤ 1048576) : F.impl_EntryOk e = some (decB (EnR e)) := by
  have hz : e.2.2.1.length + zSketch e.2.2.2.1 ≤ 1048576 := h
  unfold F.impl_EntryOk
  rw [← enR_and]
  simp only [within_eq, implSet_dec _ (show e.2.2.1.length ≤ 1048576 by omega), implSk_dec _ (show zSketch e.2.2.2.1 ≤ 1048576 by omega), Option.bind_some, len_pos]
  cases inR 0 4 e.1 <;> cases inR 0 20 e.2.1 <;> cases decB (Good e.2.2.1) <;> cases decB (e.2.2.1 ≠ []) <;> rfl
structure ApR (l : List DEntry) : Prop where
  all : ∀ e ∈ l, EnR e
  ap : l.Pairwise fun x y => apB y.2.2.1 x.2.2.1 = true
noncomputable def apAt (l : List DEntry) (i : Nat) : Bool := match l[i]? with
  | some e => decB (EnR e) && (l.take i).all fun x => apB e.2.2.1 x.2.2.1
  | none => true
theorem apAt_lt {l : List DEntry} {i : Nat} (h : i < l.length) : apAt l i = (decB (EnR l[i]) && (l.take i).all fun x => apB l[i].2.2.1 x.2.2.1) := by
  unfold apAt
  rw [List.getElem?_eq_getElem h]
theorem apAt_iff {l : List DEntry} : (List.range l.length).all (apAt l) = decB (ApR l) := by
  refine decB_eq ?_
  rw [range_all]
  constructor
  · intro h
    refine ⟨fun e he => ?_, List.pairwise_iff_getElem.2 fun i j hi hj hij => ?_⟩
    · obtain ⟨i, hi, rfl⟩ := List.getElem_of_mem he
      have := h i hi
      rw [apAt_lt hi, Bool.and_eq_true] at this
      exact decB_iff.1 this.1
    · have := h j hj
      rw [apAt_lt hj, Bool.and_eq_true, List.all_eq_true] at this
      exact this.2 _ (List.mem_take_iff_getElem.2 ⟨i, by omega, rfl⟩)
  · rintro ⟨h1, h2⟩ i hi
    rw [apAt_lt hi, Bool.and_eq_true, List.all_eq_true]
    refine ⟨decB_pos (h1 _ (List.getElem_mem hi)), fun x hx => ?_⟩
    obtain ⟨j, hj, rfl⟩ := List.mem_take_iff_getElem.1 hx
    exact List.pairwise_iff_getElem.1 h2 j i (by omega) hi (by omega)
theorem zE_mem {l : List DEntry} {e : DEntry} {n : Nat} (h : zEntryS l ≤ n) (he : e ∈ l) : zEntry e ≤ n := by
  have := sum_mem (f := zEntry) he
  unfold zEntryS at h
  omega
theorem ahead_ok {l : List DEntry} {i : Nat} (hi : i < l.length) (hp : ∀ j, j < i → apAt l j = true) : ∀ k (hk : k < i), EnR (l[k]'(by omega)) := by
  intro k hk
  have := hp k hk
  rw [apAt_lt (by omega), Bool.and_eq_true] at this
  exact decB_iff.1 this.1
structure RoR (r : DRow) : Prop where
  few : r.1.length ≤ 24
  ok : ApR r.1
theorem roR_and (r : DRow) : (!decide (len r.1 > 24) && decB (ApR r.1)) = decB (RoR r) := by
  refine decB_eq ?_
  rw [Bool.and_eq_true, decB_iff]
  constructor
  · rintro ⟨h1, h2⟩
    refine ⟨?_, h2⟩
    simp [len] at h1; omega
  · rintro ⟨h1, h2⟩
    refine ⟨?_, h2⟩
    simp [len]; omega
theorem specRow_in (r : DRow) (hl : zEntryS r.1 ≤ 1048576) (i : Nat) (hi : i < r.1.length) (he : EnR r.1[i]) (hp : ∀ j, j < i → apAt r.1 j = true) : loopO F.spec_RowOk.s9 ((i : Int), 0, r, ()) = some (bif (r.1.take i).all (fun x => apB r.1[i].2.2.1 x.2.2.1) then .inl ((i : Int), (((r.1.take i).length : Nat) : Int), r, ()) else .inr (.ret false)) := by
  have hlen : r.1.length ≤ 1048576 := by unfold zEntryS at hl; omega
  have htl : (r.1.take i).length = i := by rw [List.length_take]; omega
  exact loop_all (step := F.spec_RowOk.s9) (r.1.take i) (fun k => ((i : Int), (k : Int), r, ())) (fun x => apB r.1[i].2.2.1 x.2.2.1) (.ret false) (fun k hk => by
    have hk' : k < r.1.length := by omega
    have hek := ahead_ok hi hp k (by omega)
    have z1 := zE_mem hl (List.getElem_mem hi)
    have z2 := zE_mem hl (List.getElem_mem hk')
    unfold zEntry zSpanS at z1 z2
    unfold F.spec_RowOk.s9
    simp only
    rw [show decide ((k : Int) < (i : Int)) = true from decide_eq_true (by omega), inb_nat hi, inb_nat hk', Int.toNat_natCast, Int.toNat_natCast, w64_nat (by omega), getD_at hi, getD_at hk', List.getElem_take, specApart_eq _ _ (by omega) (by omega), decB_pos he.ids, decB_pos hek.ids]
    simp only [cond_true, chk_true, Option.bind_some, Bool.true_and]
    cases apB r.1[i].2.2.1 r.1[k].2.2.1 <;> rfl) (by
    unfold F.spec_RowOk.s9
    simp only
    rw [htl, show decide ((i : Int) < (i : Int)) = false from decide_eq_false (by omega)]; rfl)
theorem specRow_dec (r : DRow) (h : zRow r ≤ 1048576) : F.spec_RowOk r = some (decB (RoR r)) := by
  have hl : zEntryS r.1 ≤ 1048576 := h
  have hlen : r.1.length ≤ 1048576 := by unfold zEntryS at hl; omega
  unfold F.spec_RowOk
  rw [← roR_and]
  have hh := loop_allN (step := F.spec_RowOk.s4) r.1.length (fun i => ((i : Int), r, ())) (apAt r.1) false (fun i hi hp => by
    unfold F.spec_RowOk.s4
    simp only
    rw [lt_len hi, inb_nat hi, Int.toNat_natCast, getD_at hi, specEn_dec _ (zE_mem hl (List.getElem_mem hi)), apAt_lt hi]
    simp only [cond_true, chk_true, Option.bind_some]
    by_cases he : EnR r.1[i]
    · rw [decB_pos he, specRow_in r hl i hi he hp]
      simp only [Bool.not_true, cond_false, Bool.true_and]
      cases (r.1.take i).all (fun x => apB r.1[i].2.2.1 x.2.2.1) with
      | false => rfl
      | true => simp only [cond_true, afterO]; rw [w64_nat (by omega)]
    · rw [decB_neg he]; rfl) (by
    unfold F.spec_RowOk.s4
    simp only [ge_len, cond_false])
  cases decide (len r.1 > 24) with
  | true => rfl
  | false =>
    simp only [cond_false]
    rw [show loopO F.spec_RowOk.s4 (0, r, ()) = _ from hh, apAt_iff]
    cases decB (ApR r.1) <;> rfl
def zItemS (l : List DItem) : Nat := l.length + (l.map zItem).sum
def fItemS (l : List DItem) : Prop := l.length ≤ maxLen ∧ ∀ x ∈ l, fItem x
def Within (a : List Sp) (n : Int) : Prop := ∀ (i : Nat) (h : i < a.length), 1 ≤ a[i].1 ∧ a[i].2.1 ≤ n
def accS (a : List Sp) : Nat → Int
  | 0 => 0
  | i + 1 => w64 (w64 (w64 (accS a i + (List.getD a i (0, 0, ())).2.1) - (List.getD a i (0, 0, ())).1) + 1)
def zSeat (a : DSeat) : Nat := zSpanS a.2.2.1
def fSeat (a : DSeat) : Prop := fSpanS a.2.2.1
structure SeatR (s : DSeat) (n : Int) : Prop where
  per : 1 ≤ n ∧ n ≤ 8
  ep : 0 ≤ s.1 ∧ s.1 ≤ 1000
  gr : 0 ≤ s.2.1 ∧ s.2.1 ≤ 60
  good : Good s.2.2.1
theorem l5Copy_eq (a : List DSpan) (h : a.length ≤ 1048576) : F.spec_l5Copy a = some a := by
  unfold F.spec_l5Copy
  rw [fits_of (by simp; omega)]; rfl
theorem take_snoc {α : Type} {l : List α} {i : Nat} (h : i < l.length) : l.take i ++ [l[i]] = l.take (i + 1) := by
  rw [List.take_add_one, List.getElem?_eq_getElem h]; rfl
theorem zIS_mem {l : List (List Int)} {e : List Int} {n : Nat} (h : zIntSS l ≤ n) (he : e ∈ l) : e.length ≤ n := by
  have := sum_mem (f := zIntS) he
  unfold zIntSS at h
  unfold zIntS at this
  unfold zIntS at h
  omega
theorem copyInts_eq (a : List Int) (h : a.length ≤ 1048576) : F.impl_copyInts a = some a := by
  unfold F.impl_copyInts
  rw [fits_of (by omega)]; rfl
theorem l3Copy_eq (s : DSketch) (h : zSketch s ≤ 1048576) : F.spec_l3Copy s = some s := by
  obtain ⟨a, b, c, d, hi, re, rs, u⟩ := s
  have hz : zIntS hi + zIntS re + zIntSS rs ≤ 1048576 := h
  have h1 : hi.length ≤ 1048576 := by unfold zIntS at hz; omega
  have h2 : re.length ≤ 1048576 := by unfold zIntS at hz; omega
  have h3 : rs.length ≤ 1048576 := by unfold zIntSS at hz; omega
  unfold F.spec_l3Copy
  simp only [List.nil_append, List.length_nil]
  rw [fits_of (by omega), fits_of (by omega)]
  simp only [chk_true]
  have hh := loop_run (step := F.spec_l3Copy.s6) (fun i => ((i : Int), (a, b, c, d, hi, re, rs, u), (0, 0, 0, 0, [], [], [], ()), (a, b, c, d, hi, re, rs.take i, u), ())) rs.length (fun i hi => by
    have he : rs[i].length ≤ 1048576 := zIS_mem (n := 1048576) (by omega) (List.getElem_mem hi)
    unfold F.spec_l3Copy.s6
    simp only [len]
    rw [show decide ((i : Int) < ((rs.length : Nat) : Int)) = true from decide_eq_true (by omega), inb_nat hi, Int.toNat_natCast, w64_nat (by omega), getD_at hi]
    simp only [cond_true, chk_true, List.nil_append, List.length_nil, List.length_take, List.length_cons]
    rw [fits_of (by omega), fits_of (by omega), take_snoc hi]; rfl) (l := .exit (((rs.length : Nat) : Int), (a, b, c, d, hi, re, rs, u), (0, 0, 0, 0, [], [], [], ()), (a, b, c, d, hi, re, rs.take rs.length, u), ())) (by
    unfold F.spec_l3Copy.s6
    simp only [len]
    rw [show decide (((rs.length : Nat) : Int) < ((rs.length : Nat) : Int)) = false from decide_eq_false (by omega)]; rfl) rfl
  refine (congrArg (fun z => afterO z _) hh).trans ?_
  simp only [afterO, List.take_length]
theorem copySketch_eq (s : DSketch) (h : zSketch s ≤ 1048576) : F.impl_copySketch s = some s := by
  obtain ⟨a, b, c, d, hi, re, rs, u⟩ := s
  have hz : zIntS hi + zIntS re + zIntSS rs ≤ 1048576 := h
  have h1 : hi.length ≤ 1048576 := by unfold zIntS at hz; omega
  have h2 : re.length ≤ 1048576 := by unfold zIntS at hz; omega
  have h3 : rs.length ≤ 1048576 := by unfold zIntSS at hz; omega
  unfold F.impl_copySketch
  rw [copyInts_eq _ h1, copyInts_eq _ h2]
  simp only [Option.bind_some]
  have hh := loop_run (step := F.impl_copySketch.s6) (fun i => (rs, len rs, (i : Int), (0, 0, 0, 0, [], [], [], ()), (a, b, c, d, hi, re, rs.take i, u), ())) rs.length (fun i hi => by
    have he : rs[i].length ≤ 1048576 := zIS_mem (n := 1048576) (by omega) (List.getElem_mem hi)
    unfold F.impl_copySketch.s6
    simp only [len]
    rw [show decide ((i : Int) < ((rs.length : Nat) : Int)) = true from decide_eq_true (by omega), inb_nat hi, Int.toNat_natCast, w64_nat (by omega), getD_at hi, copyInts_eq _ he]
    simp only [cond_true, chk_true, Option.bind_some, List.nil_append, List.length_nil, List.length_take, List.length_cons]
    rw [fits_of (by omega), take_snoc hi]; rfl) (l := .exit (rs, len rs, ((rs.length : Nat) : Int), (0, 0, 0, 0, [], [], [], ()), (a, b, c, d, hi, re, rs.take rs.length, u), ())) (by
    unfold F.impl_copySketch.s6
    simp only [len]
    rw [show decide (((rs.length : Nat) : Int) < ((rs.length : Nat) : Int)) = false from decide_eq_false (by omega)]; rfl) rfl
  refine (congrArg (fun z => afterO z _) hh).trans ?_
  simp only [afterO, List.take_length]
def okF : Int → List Sp → Prop
  | _, [] => True
  | lo, x :: l => lo ≤ x.1 ∧ x.1 ≤ x.2.1 ∧ x.2.1 ≤ 9999 ∧ okF (x.2.1 + 2) l
def memS (s : List Sp) (n : Int) : Prop := ∃ x ∈ s, x.1 ≤ n ∧ n ≤ x.2.1
theorem memS_nil {n : Int} : ¬ memS [] n := fun ⟨_, h, _⟩ => by cases h
theorem memS_cons {x : Sp} {l : List Sp} {n : Int} : memS (x :: l) n ↔ (x.1 ≤ n ∧ n ≤ x.2.1) ∨ memS l n := by
  constructor
  · rintro ⟨y, hy, h⟩
    rcases List.mem_cons.1 hy with rfl | hy
    · exact .inl h
    · exact .inr ⟨y, hy, h⟩
  · rintro (h | ⟨y, hy, h⟩)
    · exact ⟨x, by simp, h⟩
    · exact ⟨y, by simp [hy], h⟩
theorem memS_append {a b : List Sp} {n : Int} : memS (a ++ b) n ↔ memS a n ∨ memS b n := by
  constructor
  · rintro ⟨y, hy, h⟩
    rcases List.mem_append.1 hy with hy | hy
    · exact .inl ⟨y, hy, h⟩
    · exact .inr ⟨y, hy, h⟩
  · rintro (⟨y, hy, h⟩ | ⟨y, hy, h⟩)
    · exact ⟨y, by simp [hy], h⟩
    · exact ⟨y, by simp [hy], h⟩
theorem okF_lb : ∀ {s : List Sp} {lo n : Int}, okF lo s → memS s n → lo ≤ n ∧ n ≤ 9999
  | [], lo, n, _, h => absurd h memS_nil
  | x :: l, lo, n, ⟨h1, h2, h3, h4⟩, h => by
    rcases memS_cons.1 h with h | h
    · omega
    · have := okF_lb h4 h
      omega
theorem okF_mono : ∀ {s : List Sp} {lo lo' : Int}, lo' ≤ lo → okF lo s → okF lo' s
  | [], _, _, _, _ => trivial
  | x :: l, lo, lo', hl, ⟨h1, h2, h3, h4⟩ => ⟨by omega, h2, h3, h4⟩
theorem okF_all : ∀ {s : List Sp} {lo : Int}, okF lo s → ∀ x ∈ s, lo ≤ x.1 ∧ x.1 ≤ x.2.1 ∧ x.2.1 ≤ 9999
  | x :: l, lo, ⟨h1, h2, h3, h4⟩, y, hy => by
    rcases List.mem_cons.1 hy with rfl | hy
    · exact ⟨h1, h2, h3⟩
    · have := okF_all h4 y hy
      omega
theorem okF_ext : ∀ {s t : List Sp} {lo lo' : Int}, okF lo s → okF lo' t → (∀ n, memS s n ↔ memS t n) → s = t
  | [], [], _, _, _, _, _ => rfl
  | [], y :: t, lo, lo', _, ⟨h1, h2, _⟩, h => absurd ((h y.1).2 (memS_cons.2 (.inl ⟨Int.le_refl _, h2⟩))) memS_nil
  | x :: s, [], lo, lo', ⟨h1, h2, _⟩, _, h => absurd ((h x.1).1 (memS_cons.2 (.inl ⟨Int.le_refl _, h2⟩))) memS_nil
  | x :: s, y :: t, lo, lo', ⟨h1, h2, h3, h4⟩, ⟨g1, g2, g3, g4⟩, h => by
    have e1 : x.1 = y.1 := by
      have a1 := okF_lb (s := y :: t) (lo := y.1) ⟨Int.le_refl _, g2, g3, g4⟩ ((h x.1).1 (memS_cons.2 (.inl ⟨Int.le_refl _, h2⟩)))
      have a2 := okF_lb (s := x :: s) (lo := x.1) ⟨Int.le_refl _, h2, h3, h4⟩ ((h y.1).2 (memS_cons.2 (.inl ⟨Int.le_refl _, g2⟩)))
      omega
    have e2 : x.2.1 = y.2.1 := by
      rcases Int.lt_trichotomy x.2.1 y.2.1 with hlt | heq | hlt
      · rcases memS_cons.1 ((h (x.2.1 + 1)).2 (memS_cons.2 (.inl ⟨by omega, by omega⟩))) with a | a
        · omega
        · have := okF_lb h4 a; omega
      · exact heq
      · rcases memS_cons.1 ((h (y.2.1 + 1)).1 (memS_cons.2 (.inl ⟨by omega, by omega⟩))) with a | a
        · omega
        · have := okF_lb g4 a; omega
    have e3 : s = t := okF_ext h4 g4 (fun n => by
      constructor
      · intro a
        have := okF_lb h4 a
        rcases memS_cons.1 ((h n).1 (memS_cons.2 (.inr a))) with b | b
        · omega
        · exact b
      · intro a
        have := okF_lb g4 a
        rcases memS_cons.1 ((h n).2 (memS_cons.2 (.inr a))) with b | b
        · omega
        · exact b)
    obtain ⟨x1, x2, u⟩ := x
    obtain ⟨y1, y2, v⟩ := y
    simp only at e1 e2
    rw [e1, e2, e3]
theorem good_cons {x : Sp} {l : List Sp} : Good (x :: l) ↔ (0 ≤ x.1 ∧ x.1 ≤ x.2.1 ∧ x.2.1 ≤ 9999) ∧ Good l ∧ ∀ y ∈ l.head?, x.2.1 + 1 < y.1 := by
  constructor
  · intro h
    have h0 := h 0 (by simp)
    have a1 := inR_iff.1 h0.1
    have a2 := inR_iff.1 h0.2.1
    simp only [List.getElem_cons_zero] at a1 a2
    refine ⟨⟨a1.1, a2.1, a2.2⟩, fun i hi => ?_, fun y hy => ?_⟩
    · have hh := h (i + 1) (by simpa using hi)
      refine ⟨hh.1, hh.2.1, fun h0 => ?_⟩
      have := hh.2.2 (by omega)
      have e : (x :: l)[i + 1 - 1]'(by simp; omega) = l[i - 1]'(by omega) := by
        obtain ⟨j, rfl⟩ : ∃ j, i = j + 1 := ⟨i - 1, by omega⟩
        simp
      rw [e] at this
      simpa using this
    · cases l with
      | nil => cases hy
      | cons z l =>
        cases hy
        have := (h 1 (by simp)).2.2 (by omega)
        simp only [List.getElem_cons_succ, List.getElem_cons_zero, Nat.sub_self] at this
        omega
  · rintro ⟨⟨h1, h2, h3⟩, hg, hh⟩ i hi
    cases i with
    | zero => exact ⟨inR_iff.2 ⟨h1, by simp only [List.getElem_cons_zero]; omega⟩, inR_iff.2 ⟨h2, h3⟩, fun h0 => by omega⟩
    | succ i =>
      have hi' : i < l.length := by simpa using hi
      obtain ⟨g1, g2, g3⟩ := hg i hi'
      refine ⟨g1, g2, fun _ => ?_⟩
      cases i with
      | zero =>
        cases l with
        | nil => simp at hi'
        | cons z l =>
          have := hh z rfl
          simp only [List.getElem_cons_succ, List.getElem_cons_zero, Nat.add_sub_cancel]
          omega
      | succ j => exact g3 (by omega)
theorem good_ok : ∀ {s : List Sp}, Good s ↔ okF 0 s
  | [] => ⟨fun _ => trivial, fun _ i h => by cases h⟩
  | x :: l => by
    rw [good_cons, good_ok (s := l)]
    constructor
    · rintro ⟨⟨h1, h2, h3⟩, h4, h5⟩
      refine ⟨h1, h2, h3, ?_⟩
      cases l with
      | nil => trivial
      | cons y l =>
        have := h5 y rfl
        exact ⟨by omega, h4.2⟩
    · rintro ⟨h1, h2, h3, h4⟩
      refine ⟨⟨h1, h2, h3⟩, okF_mono (by omega) h4, fun y hy => ?_⟩
      cases l with
      | nil => cases hy
      | cons z l => cases hy; have := h4.1; omega
theorem okF_len : ∀ {s : List Sp} {lo : Int}, 0 ≤ lo → okF lo s → lo + 2 * (s.length : Int) ≤ 10002 ∨ s = []
  | [], _, _, _ => .inr rfl
  | x :: l, lo, hl, ⟨h1, h2, h3, h4⟩ => by
    left
    rcases okF_len (by omega) h4 with h | h
    · simp only [List.length_cons]; omega
    · subst h; simp only [List.length_cons, List.length_nil]; omega
def put (x : Sp) : List Sp → List Sp
  | [] => [x]
  | y :: l => if y.2.1 + 1 < x.1 then y :: put x l else if y.1 > x.2.1 + 1 then x :: y :: l else put (mnI x.1 y.1, mxI x.2.1 y.2.1, ()) l
theorem put_ok : ∀ {s : List Sp} {lo : Int} {x : Sp}, okF lo s → lo ≤ x.1 → x.1 ≤ x.2.1 → x.2.1 ≤ 9999 → okF lo (put x s)
  | [], lo, x, _, h1, h2, h3 => ⟨h1, h2, h3, trivial⟩
  | y :: l, lo, x, ⟨g1, g2, g3, g4⟩, h1, h2, h3 => by
    unfold put
    split
    · exact ⟨g1, g2, g3, put_ok g4 (by omega) h2 h3⟩
    · split
      · exact ⟨h1, h2, h3, by omega, g2, g3, g4⟩
      · refine put_ok (okF_mono (by omega) g4) ?_ ?_ ?_ <;> simp only [mnI, mxI] <;> split <;> (try split) <;> omega
theorem put_mem : ∀ {s : List Sp} {x : Sp} {n : Int}, x.1 ≤ x.2.1 → (∀ y ∈ s, y.1 ≤ y.2.1) → (memS (put x s) n ↔ memS s n ∨ (x.1 ≤ n ∧ n ≤ x.2.1))
  | [], x, n, h, _ => by
    rw [put, memS_cons]
    exact ⟨fun h => h.elim .inr (fun h => absurd h memS_nil), fun h => h.elim (fun h => absurd h memS_nil) .inl⟩
  | y :: l, x, n, h, hs => by
    have hy := hs y (by simp)
    have hl : ∀ z ∈ l, z.1 ≤ z.2.1 := fun z hz => hs z (by simp [hz])
    unfold put
    split
    · rw [memS_cons, memS_cons, put_mem h hl]
      constructor
      · rintro (h | h | h)
        · exact .inl (.inl h)
        · exact .inl (.inr h)
        · exact .inr h
      · rintro ((h | h) | h)
        · exact .inl h
        · exact .inr (.inl h)
        · exact .inr (.inr h)
    · split
      · rw [memS_cons]
        exact Or.comm
      · have hm : (mnI x.1 y.1 : Int) ≤ mxI x.2.1 y.2.1 := by unfold mnI mxI; split <;> split <;> omega
        rw [put_mem (x := (mnI x.1 y.1, mxI x.2.1 y.2.1, ())) hm hl, memS_cons]
        have e : (mnI x.1 y.1 ≤ n ∧ n ≤ mxI x.2.1 y.2.1) ↔ (x.1 ≤ n ∧ n ≤ x.2.1) ∨ (y.1 ≤ n ∧ n ≤ y.2.1) := by
          unfold mnI mxI
          split <;> split <;> omega
        show memS l n ∨ (mnI x.1 y.1 ≤ n ∧ n ≤ mxI x.2.1 y.2.1) ↔ _
        rw [e]
        constructor
        · rintro (h | h | h)
          · exact .inl (.inr h)
          · exact .inr h
          · exact .inl (.inl h)
        · rintro ((h | h) | h)
          · exact .inr (.inr h)
          · exact .inl h
          · exact .inr (.inl h)
def joinS (a b : List Sp) : List Sp := b.foldl (fun s x => put x s) a
theorem joinS_ok : ∀ {b a : List Sp} {lo : Int}, okF lo a → (∀ x ∈ b, lo ≤ x.1 ∧ x.1 ≤ x.2.1 ∧ x.2.1 ≤ 9999) → okF lo (joinS a b)
  | [], a, lo, h, _ => h
  | x :: b, a, lo, h, hb => by
    obtain ⟨h1, h2, h3⟩ := hb x (by simp)
    exact joinS_ok (b := b) (a := put x a) (put_ok h h1 h2 h3) (fun y hy => hb y (by simp [hy]))
theorem joinS_mem : ∀ {b a : List Sp} {lo n : Int}, okF lo a → (∀ x ∈ b, lo ≤ x.1 ∧ x.1 ≤ x.2.1 ∧ x.2.1 ≤ 9999) → (memS (joinS a b) n ↔ memS a n ∨ memS b n)
  | [], a, lo, n, h, _ => ⟨.inl, fun h => h.elim id (fun h => absurd h memS_nil)⟩
  | x :: b, a, lo, n, h, hb => by
    obtain ⟨h1, h2, h3⟩ := hb x (by simp)
    have := joinS_mem (b := b) (a := put x a) (n := n) (put_ok h h1 h2 h3) (fun y hy => hb y (by simp [hy]))
    show memS (joinS (put x a) b) n ↔ _
    rw [this, put_mem h2 (fun y hy => (okF_all h y hy).2.1), memS_cons, or_assoc]
def runS (c : Sp) : List Sp → List Sp
  | [] => [c]
  | x :: l => if x.1 ≤ c.2.1 + 1 then runS (c.1, mxI c.2.1 x.2.1, ()) l else c :: runS x l
def uniS : List Sp → List Sp
  | [] => []
  | x :: l => runS x l
theorem runS_ok : ∀ {l : List Sp} {c : Sp} {lo : Int}, lo ≤ c.1 → c.1 ≤ c.2.1 → c.2.1 ≤ 9999 → (∀ x ∈ l, x.1 ≤ x.2.1 ∧ x.2.1 ≤ 9999 ∧ c.1 ≤ x.1) → l.Pairwise (fun x y => x.1 ≤ y.1) → okF lo (runS c l)
  | [], c, lo, h1, h2, h3, _, _ => ⟨h1, h2, h3, trivial⟩
  | x :: l, c, lo, h1, h2, h3, hl, hp => by
    obtain ⟨g1, g2, g3⟩ := hl x (by simp)
    obtain ⟨p1, p2⟩ := List.pairwise_cons.1 hp
    unfold runS
    split
    · refine runS_ok (c := (c.1, mxI c.2.1 x.2.1, ())) h1 ?_ ?_ (fun y hy => hl y (by simp [hy])) p2 <;> simp only [mxI] <;> split <;> omega
    · exact ⟨h1, h2, h3, runS_ok (by omega) g1 g2 (fun y hy => ⟨(hl y (by simp [hy])).1, (hl y (by simp [hy])).2.1, p1 y hy⟩) p2⟩
theorem runS_mem : ∀ {l : List Sp} {c : Sp} {n : Int}, c.1 ≤ c.2.1 → (∀ x ∈ l, x.1 ≤ x.2.1 ∧ c.1 ≤ x.1) → l.Pairwise (fun x y => x.1 ≤ y.1) → (memS (runS c l) n ↔ (c.1 ≤ n ∧ n ≤ c.2.1) ∨ memS l n)
  | [], c, n, _, _, _ => memS_cons
  | x :: l, c, n, h, hl, hp => by
    obtain ⟨g1, g3⟩ := hl x (by simp)
    obtain ⟨p1, p2⟩ := List.pairwise_cons.1 hp
    unfold runS
    split
    · have hm : c.1 ≤ mxI c.2.1 x.2.1 := by unfold mxI; split <;> omega
      rw [runS_mem (c := (c.1, mxI c.2.1 x.2.1, ())) hm (fun y hy => hl y (by simp [hy])) p2, memS_cons]
      have e : (c.1 ≤ n ∧ n ≤ mxI c.2.1 x.2.1) ↔ (c.1 ≤ n ∧ n ≤ c.2.1) ∨ (x.1 ≤ n ∧ n ≤ x.2.1) := by
        unfold mxI
        split <;> omega
      show (c.1 ≤ n ∧ n ≤ mxI c.2.1 x.2.1) ∨ _ ↔ _
      rw [e, or_assoc]
    · rw [memS_cons, runS_mem g1 (fun y hy => ⟨(hl y (by simp [hy])).1, p1 y hy⟩) p2, memS_cons]
theorem uniS_ok {l : List Sp} {lo : Int} (hl : ∀ x ∈ l, lo ≤ x.1 ∧ x.1 ≤ x.2.1 ∧ x.2.1 ≤ 9999) (hp : l.Pairwise (fun x y => x.1 ≤ y.1)) : okF lo (uniS l) := by
  cases l with
  | nil => trivial
  | cons x l =>
    obtain ⟨h1, h2, h3⟩ := hl x (by simp)
    obtain ⟨p1, p2⟩ := List.pairwise_cons.1 hp
    exact runS_ok h1 h2 h3 (fun y hy => ⟨(hl y (by simp [hy])).2.1, (hl y (by simp [hy])).2.2, p1 y hy⟩) p2
theorem uniS_mem {l : List Sp} {n : Int} (hl : ∀ x ∈ l, x.1 ≤ x.2.1) (hp : l.Pairwise (fun x y => x.1 ≤ y.1)) : memS (uniS l) n ↔ memS l n := by
  cases l with
  | nil => exact Iff.rfl
  | cons x l =>
    obtain ⟨p1, p2⟩ := List.pairwise_cons.1 hp
    rw [uniS, runS_mem (hl x (by simp)) (fun y hy => ⟨hl y (by simp [hy]), p1 y hy⟩) p2, memS_cons]
theorem memS_perm {a b : List Sp} (h : a.Perm b) {n : Int} : memS a n ↔ memS b n :=
  ⟨fun ⟨x, hx, g⟩ => ⟨x, h.mem_iff.1 hx, g⟩, fun ⟨x, hx, g⟩ => ⟨x, h.mem_iff.2 hx, g⟩⟩
theorem uni_join {a b s : List Sp} (ha : okF 0 a) (hb : ∀ x ∈ b, 0 ≤ x.1 ∧ x.1 ≤ x.2.1 ∧ x.2.1 ≤ 9999) (hs : s.Perm (a ++ b)) (hp : s.Pairwise (fun x y => x.1 ≤ y.1)) : uniS s = joinS a b := by
  have hall : ∀ x ∈ s, 0 ≤ x.1 ∧ x.1 ≤ x.2.1 ∧ x.2.1 ≤ 9999 := fun x hx => by
    rcases List.mem_append.1 (hs.mem_iff.1 hx) with h | h
    · exact okF_all ha x h
    · exact hb x h
  refine okF_ext (uniS_ok hall hp) (joinS_ok ha hb) (fun n => ?_)
  rw [uniS_mem (fun x hx => (hall x hx).2.1) hp, memS_perm hs, memS_append, joinS_mem ha hb]
theorem l1Min_eq (a b : Int) : F.spec_l1Min a b = some (mnI a b) := by
  unfold F.spec_l1Min mnI
  by_cases h : a < b
  · rw [decide_eq_true h]; simp only [cond_true]; split <;> congr 1 <;> omega
  · rw [decide_eq_false h]; simp only [cond_false]; split <;> congr 1 <;> omega
theorem l1Max_eq (a b : Int) : F.spec_l1Max a b = some (mxI a b) := by
  unfold F.spec_l1Max mxI
  by_cases h : a > b
  · rw [decide_eq_true h]; simp only [cond_true]; split <;> congr 1 <;> omega
  · rw [decide_eq_false h]; simp only [cond_false]; split <;> congr 1 <;> omega
theorem put_step (a acc : List Sp) (p : Bool) (c : Sp) (i : Nat) (hk : i < a.length) (h : a.length ≤ 1048576) (hl : acc.length ≤ 1048577) : F.spec_l5Put.s4 (a, acc, p, (i : Int), c, ()) = some (.again
    (if w64 (a[i].2.1 + 1) < c.1 then (a, acc ++ [a[i]], p, ((i + 1 : Nat) : Int), c, ()) else if a[i].1 > w64 (c.2.1 + 1) then (a, (if p then acc else acc ++ [c]) ++ [a[i]], true, ((i + 1 : Nat) : Int), c, ()) else (a, acc, p, ((i + 1 : Nat) : Int), (mnI c.1 a[i].1, mxI c.2.1 a[i].2.1, ()), ()))) := by
  unfold F.spec_l5Put.s4
  simp only
  rw [lt_len hk, inb_nat hk, Int.toNat_natCast, getD_at hk, w64_nat (by omega)]
  simp only [cond_true, chk_true, l1Min_eq, l1Max_eq, Option.bind_some, List.length_append, List.length_cons, List.length_nil]
  rw [fits_of (n := acc.length + (0 + 1)) (by omega), fits_of (n := acc.length + (0 + 1) + (0 + 1)) (by omega)]
  simp only [chk_true]
  by_cases h1 : w64 (a[i].2.1 + 1) < c.1
  · rw [decide_eq_true h1, if_pos h1]; rfl
  · rw [decide_eq_false h1, if_neg h1]
    by_cases h2 : a[i].1 > w64 (c.2.1 + 1)
    · rw [decide_eq_true h2, if_pos h2]
      cases p <;> rfl
    · rw [decide_eq_false h2, if_neg h2]; rfl
theorem l5Put_any (a : List Sp) (x : Sp) (h : a.length ≤ 1048576) : ∃ r, F.spec_l5Put a x = some r ∧ r.length ≤ a.length + 1 := by
  unfold F.spec_l5Put
  have key : ∀ (n i : Nat) (acc : List Sp) (p : Bool) (c : Sp), a.length - i = n → i ≤ a.length → acc.length ≤ i + (if p then 1 else 0) → ∃ acc' p' c', iterO F.spec_l5Put.s4 (n + 1) (a, acc, p, (i : Int), c, ()) = some (.inl (a, acc', p', ((a.length : Nat) : Int), c', ())) ∧ acc'.length ≤ a.length + (if p' then 1 else 0) := by
    intro n
    induction n with
    | zero =>
      intro i acc p c hi hle hl
      have hi' : i = a.length := by omega
      subst hi'
      refine ⟨acc, p, c, ?_, hl⟩
      unfold iterO F.spec_l5Put.s4
      simp only [ge_len, cond_false]
    | succ n ih =>
      intro i acc p c hi hle hl
      have hk : i < a.length := by omega
      have hl2 : acc.length ≤ i + 1 := by cases p <;> simp at hl <;> omega
      rw [iterO, put_step a acc p c i hk h (by omega)]
      simp only
      split
      · exact ih (i + 1) _ p c (by omega) (by omega) (by rw [List.length_append, List.length_singleton]; omega)
      · split
        · refine ih (i + 1) _ true c (by omega) (by omega) ?_
          rw [List.length_append, List.length_singleton]
          cases p <;> simp at hl ⊢ <;> omega
        · exact ih (i + 1) _ p _ (by omega) (by omega) (by omega)
  obtain ⟨acc', p', c', h1, h2⟩ := key a.length 0 [] false x (by omega) (by omega) (by simp)
  have h1' : loopO F.spec_l5Put.s4 (a, [], false, 0, x, ()) = _ := loopO_of h1
  rw [h1']
  simp only [afterO]
  cases p' with
  | true => exact ⟨_, rfl, by simpa using h2⟩
  | false =>
    simp at h2
    simp only [Bool.not_false, cond_true, List.length_cons, List.length_nil]
    rw [fits_of (by omega)]
    exact ⟨_, rfl, by simp; omega⟩
theorem l5Put_eq (a : List Sp) (x : Sp) (h : a.length ≤ 1048576) {lo : Int} (hlo : 0 ≤ lo) (ha : okF lo a) (h0 : 0 ≤ x.1) (h1 : x.1 ≤ x.2.1) (h2 : x.2.1 ≤ 9999) : F.spec_l5Put a x = some (put x a) := by
  unfold F.spec_l5Put
  -- behind it: all the rest is kept
  have key1 : ∀ (m p acc : List Sp) (c : Sp) (l : Int), a = p ++ m → acc.length ≤ p.length + 1 → okF l m → c.2.1 + 1 < l → 0 ≤ c.1 → c.1 ≤ c.2.1 → c.2.1 ≤ 9999 →
      iterO F.spec_l5Put.s4 (m.length + 1) (a, acc, true, ((p.length : Nat) : Int), c, ()) = some (.inl (a, acc ++ m, true, ((a.length : Nat) : Int), c, ())) := by
    intro m
    induction m with
    | nil =>
      intro p acc c l hp hl hok hc g0 g1 g2
      have hpl : p.length = a.length := by rw [hp]; simp
      unfold iterO F.spec_l5Put.s4
      simp only [hpl, ge_len, cond_false, List.append_nil]
    | cons y m ih =>
      intro p acc c l hp hl hok hc g0 g1 g2
      obtain ⟨k1, k2, k3, k4⟩ := hok
      have hk : p.length < a.length := by rw [hp]; simp
      have hg : a[p.length] = y := by simp [hp]
      rw [List.length_cons, iterO, put_step a acc true c p.length hk h (by omega), hg, w64_id (by omega) (by omega), w64_id (by omega) (by omega), if_neg (by omega), if_pos (by omega)]
      simp only [if_true]
      have := ih (p ++ [y]) (acc ++ [y]) c (y.2.1 + 2) (by simp [hp]) (by simp; omega) k4 (by omega) g0 g1 g2
      rw [List.length_append] at this
      simp only [List.append_assoc, List.singleton_append] at this
      exact this
  have key2 : ∀ (m p acc : List Sp) (c : Sp) (l : Int), a = p ++ m → acc.length ≤ p.length → 0 ≤ l → okF l m → 0 ≤ c.1 → c.1 ≤ c.2.1 → c.2.1 ≤ 9999 →
      ∃ acc' p' c', iterO F.spec_l5Put.s4 (m.length + 1) (a, acc, false, ((p.length : Nat) : Int), c, ()) = some (.inl (a, acc', p', ((a.length : Nat) : Int), c', ())) ∧ (if p' then acc' else acc' ++ [c']) = acc ++ put c m ∧ (p' = false → acc'.length ≤ a.length) := by
    intro m
    induction m with
    | nil =>
      intro p acc c l hp hl hl0 hok g0 g1 g2
      have hpl : p.length = a.length := by rw [hp]; simp
      refine ⟨acc, false, c, ?_, rfl, fun _ => by omega⟩
      unfold iterO F.spec_l5Put.s4
      simp only [hpl, ge_len, cond_false]
    | cons y m ih =>
      intro p acc c l hp hl hl0 hok g0 g1 g2
      obtain ⟨k1, k2, k3, k4⟩ := hok
      have hk : p.length < a.length := by rw [hp]; simp
      have hg : a[p.length] = y := by simp [hp]
      rw [List.length_cons, iterO, put_step a acc false c p.length hk h (by omega), hg, w64_id (by omega) (by omega), w64_id (by omega) (by omega), put]
      simp only [Bool.false_eq_true, if_false]
      by_cases c1 : y.2.1 + 1 < c.1
      · rw [if_pos c1, if_pos c1]
        obtain ⟨acc', p', c', e1, e2, e3⟩ := ih (p ++ [y]) (acc ++ [y]) c (y.2.1 + 2) (by simp [hp]) (by simp; omega) (by omega) k4 g0 g1 g2
        rw [List.length_append] at e1
        refine ⟨acc', p', c', e1, ?_, e3⟩
        rw [e2]; simp
      · rw [if_neg c1, if_neg c1]
        by_cases c2 : y.1 > c.2.1 + 1
        · rw [if_pos c2, if_pos c2]
          have := key1 m (p ++ [y]) ((acc ++ [c]) ++ [y]) c (y.2.1 + 2) (by simp [hp]) (by simp; omega) k4 (by omega) g0 g1 g2
          rw [List.length_append] at this
          refine ⟨_, true, c, this, by simp, fun h => by cases h⟩
        · rw [if_neg c2, if_neg c2]
          obtain ⟨acc', p', c', e1, e2, e3⟩ := ih (p ++ [y]) acc (mnI c.1 y.1, mxI c.2.1 y.2.1, ()) (y.2.1 + 2) (by simp [hp]) (by simp; omega) (by omega) k4 (by simp only [mnI]; split <;> omega) (by simp only [mnI, mxI]; split <;> split <;> omega) (by simp only [mxI]; split <;> omega)
          rw [List.length_append] at e1
          exact ⟨acc', p', c', e1, e2, e3⟩
  obtain ⟨acc', p', c', e1, e2, e3⟩ := key2 a [] [] x lo rfl (by simp) hlo ha h0 h1 h2
  have h1' : loopO F.spec_l5Put.s4 (a, [], false, 0, x, ()) = _ := loopO_of e1
  rw [h1']
  simp only [afterO]
  cases p' with
  | true => simpa using e2
  | false =>
    have := e3 rfl
    simp only [Bool.not_false, cond_true, List.length_cons, List.length_nil]
    rw [fits_of (by omega)]
    simpa [chk_true] using e2
def adI (a b : Int) : Int := mnI (a + b) 1000000000
def rg (x : Int) : Prop := 0 ≤ x ∧ x ≤ 1000000000
theorem adI_rg {a b : Int} (ha : rg a) (hb : rg b) : rg (adI a b) := by
  unfold rg adI mnI at *
  split <;> simp_all <;> omega
theorem clipR {a : Int} (ha : rg a) : mxI 0 (mnI a 1000000000) = a := by
  unfold rg at ha
  unfold mxI mnI
  (repeat' split) <;> simp_all <;> omega
theorem clip_eq (a b : Int) : F.spec_l2Clip a b = some (mxI 0 (mnI a b)) := by
  unfold F.spec_l2Clip
  simp only [l1Min_eq, l1Max_eq, Option.bind_some]
theorem specAdd_eq {a b : Int} (ha : rg a) (hb : rg b) : F.spec_Add a b = some (adI a b) := by
  unfold F.spec_Add adI
  simp only [clip_eq, l1Min_eq, Option.bind_some, clipR ha, clipR hb]
  unfold rg at ha hb
  rw [w64_id (by omega) (by omega)]
theorem limitedR {a : Int} (ha : rg a) : F.impl_limited a 0 1000000000 = some a := by
  unfold F.impl_limited
  unfold rg at ha
  refine congrArg some ?_
  unfold mxI mnI
  (repeat' split) <;> simp_all <;> omega
theorem implAdd_eq {a b : Int} (ha : rg a) (hb : rg b) : F.impl_Add a b = some (adI a b) := by
  unfold F.impl_Add adI
  simp only [limitedR ha, limitedR hb, Option.bind_some]
  unfold rg at ha hb
  rw [w64_id (by omega) (by omega)]
def mz (f : Int → Int → Int) (m l : List Int) (i : Nat) : List Int := List.zipWith f (m.take i) (l.take i) ++ m.drop i
theorem mz_zero (f : Int → Int → Int) (m l : List Int) : mz f m l 0 = m := by simp [mz]
theorem mz_end (f : Int → Int → Int) (m l : List Int) (h : m.length = l.length) : mz f m l l.length = List.zipWith f m l := by
  unfold mz
  rw [List.take_length, List.take_of_length_le (by omega), List.drop_eq_nil_of_le (by omega), List.append_nil]
theorem mz_pre {f : Int → Int → Int} {m l : List Int} {i : Nat} (h : m.length = l.length) (hi : i < m.length) : (List.zipWith f (m.take i) (l.take i)).length = i := by
  rw [List.length_zipWith, List.length_take, List.length_take]; omega
theorem mz_len {f : Int → Int → Int} {m l : List Int} {i : Nat} (h : m.length = l.length) : (mz f m l i).length = m.length := by
  unfold mz
  rw [List.length_append, List.length_zipWith, List.length_take, List.length_take, List.length_drop]; omega
theorem mz_get {f : Int → Int → Int} {m l : List Int} {i : Nat} (h : m.length = l.length) (hi : i < m.length) : (mz f m l i).getD i 0 = m[i] := by
  unfold mz
  rw [List.getD_eq_getElem?_getD, List.getElem?_append_right (by rw [mz_pre h hi]; omega), mz_pre h hi, Nat.sub_self, List.getElem?_drop, Nat.add_zero, List.getElem?_eq_getElem hi]; rfl
theorem zip_snoc {f : Int → Int → Int} {m l : List Int} {i : Nat} (hi : i < m.length) (hl : i < l.length) : List.zipWith f (m.take i) (l.take i) ++ [f m[i] l[i]] = List.zipWith f (m.take (i + 1)) (l.take (i + 1)) := by
  rw [← take_snoc hi, ← take_snoc hl, List.zipWith_append (by rw [List.length_take, List.length_take]; omega)]; rfl
theorem mz_step {f : Int → Int → Int} {m l : List Int} {i : Nat} (h : m.length = l.length) (hi : i < m.length) : (mz f m l i).set i (f m[i] (l[i]'(by omega))) = mz f m l (i + 1) := by
  unfold mz
  rw [List.set_append_right _ _ (by rw [mz_pre h hi]; omega), mz_pre h hi, Nat.sub_self, List.drop_eq_getElem_cons hi, List.set_cons_zero, ← zip_snoc hi (by omega), List.append_assoc]; rfl
def rgs (l : List Int) : Prop := ∀ x ∈ l, rg x
theorem l3Sum_eq (a b : List Int) (ha : rgs a) (hb : rgs b) (h : a.length = b.length) (hl : a.length ≤ 1048576) : F.spec_l3Sum a b = some (List.zipWith adI a b) := by
  unfold F.spec_l3Sum
  have hh := loop_run (step := F.spec_l3Sum.s3) (fun i => (a, b, List.zipWith adI (a.take i) (b.take i), (i : Int), ())) a.length (fun i hi => by
    have hb2 : i < b.length := by omega
    unfold F.spec_l3Sum.s3
    simp only
    rw [lt_len hi, inb_nat hi, inb_nat hb2, Int.toNat_natCast, getD_at hi, getD_at hb2, specAdd_eq (ha _ (List.getElem_mem hi)) (hb _ (List.getElem_mem hb2)), w64_nat (by omega)]
    simp only [cond_true, chk_true, Option.bind_some, List.length_cons, List.length_nil, mz_pre h hi]
    rw [fits_of (by omega), zip_snoc hi hb2]; rfl) (l := .exit (a, b, List.zipWith adI (a.take a.length) (b.take a.length), (a.length : Int), ())) (by
    unfold F.spec_l3Sum.s3
    simp only [ge_len, cond_false]) rfl
  rw [List.take_length, List.take_of_length_le (show b.length ≤ a.length by omega)] at hh
  exact (congrArg (fun z => afterO z _) hh).trans rfl
def mergeS (a b : DSketch) : DSketch :=
  (adI a.1 b.1, adI a.2.1 b.2.1, if b.1 = 0 then a.2.2.1 else if a.1 = 0 then b.2.2.1 else mnI a.2.2.1 b.2.2.1, mxI a.2.2.2.1 b.2.2.2.1, List.zipWith adI a.2.2.2.2.1 b.2.2.2.2.1, List.zipWith mxI a.2.2.2.2.2.1 b.2.2.2.2.2.1,
    [List.zipWith adI (a.2.2.2.2.2.2.1.getD 0 []) (b.2.2.2.2.2.2.1.getD 0 []), List.zipWith adI (a.2.2.2.2.2.2.1.getD 1 []) (b.2.2.2.2.2.2.1.getD 1 [])], ())
theorem regs_loop (a b t : DSketch) (c su mn mx : Int) (hi : List Int) (ro : List (List Int)) (ha : a.2.2.2.2.2.1.length = 8) (hb : b.2.2.2.2.2.1.length = 8) :
    loopO F.spec_l3Merge.s7 (0, a, b, t, (c, su, mn, mx, hi, [], ro, ()), ()) = some (.inl (8, a, b, t, (c, su, mn, mx, hi, List.zipWith mxI a.2.2.2.2.2.1 b.2.2.2.2.2.1, ro, ()), ())) := by
  have hh := loop_run (step := F.spec_l3Merge.s7) (fun i => ((i : Int), a, b, t, (c, su, mn, mx, hi, List.zipWith mxI (a.2.2.2.2.2.1.take i) (b.2.2.2.2.2.1.take i), ro, ()), ())) 8 (fun i hi' => by
    have h1 : i < a.2.2.2.2.2.1.length := by omega
    have h2 : i < b.2.2.2.2.2.1.length := by omega
    unfold F.spec_l3Merge.s7
    simp only
    rw [show decide ((i : Int) < 8) = true from decide_eq_true (by omega), inb_nat h1, inb_nat h2, Int.toNat_natCast, getD_at h1, getD_at h2, l1Max_eq, w64_nat (by omega)]
    simp only [cond_true, chk_true, Option.bind_some, List.length_cons, List.length_nil, mz_pre (show a.2.2.2.2.2.1.length = b.2.2.2.2.2.1.length by omega) h1]
    rw [fits_of (by omega), zip_snoc h1 h2]; rfl) (l := .exit (8, a, b, t, (c, su, mn, mx, hi, List.zipWith mxI (a.2.2.2.2.2.1.take 8) (b.2.2.2.2.2.1.take 8), ro, ()), ())) (by
    unfold F.spec_l3Merge.s7; rfl) rfl
  rw [List.take_of_length_le (show a.2.2.2.2.2.1.length ≤ 8 by omega), List.take_of_length_le (show b.2.2.2.2.2.1.length ≤ 8 by omega)] at hh
  exact hh
theorem skR_len {s : DSketch} (h : SkR s) : ∃ r0 r1, s.2.2.2.2.2.2.1 = [r0, r1] ∧ r0.length = 4 ∧ r1.length = 4 ∧ rgs r0 ∧ rgs r1 ∧ rgs s.2.2.2.2.1 ∧ s.2.2.2.2.1.length = 8 ∧ s.2.2.2.2.2.1.length = 8 := by
  obtain ⟨r0, r1, e, ⟨l0, g0⟩, ⟨l1, g1⟩⟩ := h.rows
  exact ⟨r0, r1, e, l0, l1, fun x hx => (g0 x hx).1, fun x hx => (g1 x hx).1, fun x hx => (h.hist.2 x hx).1, h.hist.1, h.regs.1⟩
theorem l3Merge_eq (a b : DSketch) (ha : SkR a) (hb : SkR b) : F.spec_l3Merge a b = some (mergeS a b) := by
  obtain ⟨p0, p1, ep, lp0, lp1, gp0, gp1, gph, lph, lpr⟩ := skR_len ha
  obtain ⟨q0, q1, eq, lq0, lq1, gq0, gq1, gqh, lqh, lqr⟩ := skR_len hb
  unfold F.spec_l3Merge mergeS
  rw [specAdd_eq ha.cnt hb.cnt, specAdd_eq ha.sum hb.sum]
  simp only [l1Min_eq, l1Max_eq, Option.bind_some, ep, eq, List.getD_cons_zero, List.getD_cons_succ]
  rw [l3Sum_eq _ _ gph gqh (by omega) (by omega), l3Sum_eq p0 q0 gp0 gq0 (by omega) (by omega), l3Sum_eq p1 q1 gp1 gq1 (by omega) (by omega)]
  simp only [Option.bind_some, show inb 0 [p0, p1].length = true from rfl, show inb 0 [q0, q1].length = true from rfl, show inb 1 [p0, p1].length = true from rfl, show inb 1 [q0, q1].length = true from rfl, chk_true]
  have L := fun (mn : Int) => regs_loop a b (0, 0, 0, 0, [], [], [], ()) (adI a.1 b.1) (adI a.2.1 b.2.1) mn (mxI a.2.2.2.1 b.2.2.2.1) (List.zipWith adI a.2.2.2.2.1 b.2.2.2.2.1) [List.zipWith adI p0 q0, List.zipWith adI p1 q1] lpr lqr
  by_cases h1 : a.1 = 0
  · rw [show (a.1 == 0) = true by simp [h1]]
    by_cases h2 : b.1 = 0
    · rw [show (b.1 == 0) = true by simp [h2], if_pos h2]
      simp only [cond_true]
      exact (congrArg (fun z => afterO z _) (L _)).trans rfl
    · rw [show (b.1 == 0) = false by simp [h2], if_neg h2, if_pos h1]
      simp only [cond_true, cond_false]
      exact (congrArg (fun z => afterO z _) (L _)).trans rfl
  · rw [show (a.1 == 0) = false by simp [h1]]
    by_cases h2 : b.1 = 0
    · rw [show (b.1 == 0) = true by simp [h2], if_pos h2]
      simp only [cond_true, cond_false]
      exact (congrArg (fun z => afterO z _) (L _)).trans rfl
    · rw [show (b.1 == 0) = false by simp [h2], if_neg h2, if_neg h1]
      simp only [cond_false]
      exact (congrArg (fun z => afterO z _) (L _)).trans rfl
theorem iHist_loop (l : List Int) (b t : DSketch) (c su mn mx : Int) (hi re : List Int) (ro : List (List Int)) (u : Unit) (hh : rgs hi) (hl : rgs l) (h : hi.length = l.length) (h8 : l.length ≤ 8) :
    loopO F.impl_Merge.s10 (l, len l, 0, b, t, (c, su, mn, mx, hi, re, ro, u), ()) = some (.inl (l, len l, (l.length : Int), b, t, (c, su, mn, mx, List.zipWith adI hi l, re, ro, u), ())) := by
  have hh := loop_run (step := F.impl_Merge.s10) (fun i => (l, len l, (i : Int), b, t, (c, su, mn, mx, mz adI hi l i, re, ro, u), ())) l.length (fun i hi' => by
    have h1 : i < hi.length := by omega
    unfold F.impl_Merge.s10
    simp only
    rw [lt_len hi', inb_nat hi', inb_nat (show i < (mz adI hi l i).length by rw [mz_len h]; exact h1), Int.toNat_natCast, mz_get h h1, getD_at hi', implAdd_eq (hh _ (List.getElem_mem h1)) (hl _ (List.getElem_mem hi')), w64_nat (by omega)]
    simp only [cond_true, chk_true, Option.bind_some]
    rw [mz_step h h1]) (l := .exit (l, len l, (l.length : Int), b, t, (c, su, mn, mx, mz adI hi l l.length, re, ro, u), ())) (by
    unfold F.impl_Merge.s10
    simp only [ge_len, cond_false]) rfl
  rw [mz_end adI hi l h] at hh
  have hh : loopO F.impl_Merge.s10 (l, len l, ((0 : Nat) : Int), b, t, (c, su, mn, mx, mz adI hi l 0, re, ro, u), ()) = _ := hh
  rw [mz_zero] at hh
  exact hh
theorem iRegs_loop (l : List Int) (b t : DSketch) (c su mn mx : Int) (hi re : List Int) (ro : List (List Int)) (u : Unit) (h : re.length = l.length) (h8 : l.length ≤ 8) :
    loopO F.impl_Merge.s15 (l, len l, 0, b, t, (c, su, mn, mx, hi, re, ro, u), ()) = some (.inl (l, len l, (l.length : Int), b, t, (c, su, mn, mx, hi, List.zipWith mxI re l, ro, u), ())) := by
  have hh := loop_run (step := F.impl_Merge.s15) (fun i => (l, len l, (i : Int), b, t, (c, su, mn, mx, hi, mz mxI re l i, ro, u), ())) l.length (fun i hi' => by
    have h1 : i < re.length := by omega
    unfold F.impl_Merge.s15
    simp only
    rw [lt_len hi', inb_nat hi', inb_nat (show i < (mz mxI re l i).length by rw [mz_len h]; exact h1), Int.toNat_natCast, mz_get h h1, getD_at hi', w64_nat (by omega)]
    simp only [cond_true, chk_true, Option.bind_some]
    rw [mz_step h h1]) (l := .exit (l, len l, (l.length : Int), b, t, (c, su, mn, mx, hi, mz mxI re l l.length, ro, u), ())) (by
    unfold F.impl_Merge.s15
    simp only [ge_len, cond_false]) rfl
  rw [mz_end mxI re l h] at hh
  have hh : loopO F.impl_Merge.s15 (l, len l, ((0 : Nat) : Int), b, t, (c, su, mn, mx, hi, mz mxI re l 0, ro, u), ()) = _ := hh
  rw [mz_zero] at hh
  exact hh
theorem setD_self {α : Type} {R : List α} {k : Nat} {x d : α} (h : k < R.length) : (R.set k x).getD k d = x := by
  rw [List.getD_eq_getElem?_getD, List.getElem?_set_self h]; rfl
theorem iRow_loop (k : Nat) (Rl : List (List Int)) (n : Int) (l m : List Int) (b : DSketch) (c su mn mx : Int) (hi re : List Int) (R : List (List Int)) (u : Unit) (hk : k < R.length) (hm : R.getD k [] = m) (gm : rgs m) (gl : rgs l) (h : m.length = l.length) (h8 : l.length ≤ 8) (t : DSketch) :
    loopO F.impl_Merge.s23 ((k : Int), Rl, n, (k : Int), l, len l, 0, t, (c, su, mn, mx, hi, re, R, u), ()) = some (.inl ((k : Int), Rl, n, (k : Int), l, len l, (l.length : Int), t, (c, su, mn, mx, hi, re, R.set k (List.zipWith adI m l), u), ())) := by
  have hR0 : R.set k (mz adI m l 0) = R := by
    rw [mz_zero, ← hm, getD_at hk, List.set_getElem_self]
  have hh := loop_run (step := F.impl_Merge.s23) (fun i => ((k : Int), Rl, n, (k : Int), l, len l, (i : Int), t, (c, su, mn, mx, hi, re, R.set k (mz adI m l i), u), ())) l.length (fun i hi' => by
    have h1 : i < m.length := by omega
    unfold F.impl_Merge.s23
    simp only
    rw [lt_len hi', inb_nat hi', inb_nat (show k < (R.set k (mz adI m l i)).length by rw [List.length_set]; exact hk), Int.toNat_natCast, Int.toNat_natCast, setD_self hk, inb_nat (show i < (mz adI m l i).length by rw [mz_len h]; exact h1), mz_get h h1, getD_at hi', implAdd_eq (gm _ (List.getElem_mem h1)) (gl _ (List.getElem_mem hi')), w64_nat (by omega)]
    simp only [cond_true, chk_true, Option.bind_some]
    rw [mz_step h h1, List.set_set]) (l := .exit ((k : Int), Rl, n, (k : Int), l, len l, (l.length : Int), t, (c, su, mn, mx, hi, re, R.set k (mz adI m l l.length), u), ())) (by
    unfold F.impl_Merge.s23
    simp only [ge_len, cond_false]) rfl
  rw [mz_end adI m l h] at hh
  have hh : loopO F.impl_Merge.s23 ((k : Int), Rl, n, (k : Int), l, len l, ((0 : Nat) : Int), t, (c, su, mn, mx, hi, re, R.set k (mz adI m l 0), u), ()) = _ := hh
  rw [hR0] at hh
  exact hh
theorem iRows_loop (p0 p1 q0 q1 : List Int) (t : DSketch) (c su mn mx : Int) (hi re : List Int) (u : Unit) (gp0 : rgs p0) (gp1 : rgs p1) (gq0 : rgs q0) (gq1 : rgs q1) (h0 : p0.length = q0.length) (h1 : p1.length = q1.length) (h8 : q0.length ≤ 8) (h9 : q1.length ≤ 8) :
    ∃ e, loopO F.impl_Merge.s20 ([q0, q1], len [q0, q1], 0, t, (c, su, mn, mx, hi, re, [p0, p1], u), ()) = some (.inl ([q0, q1], len [q0, q1], e, t, (c, su, mn, mx, hi, re, [List.zipWith adI p0 q0, List.zipWith adI p1 q1], u), ())) := by
  have r0 := iRow_loop 0 [q0, q1] (len [q0, q1]) q0 p0 t c su mn mx hi re [p0, p1] u (by simp) rfl gp0 gq0 h0 h8 t
  have r1 := iRow_loop 1 [q0, q1] (len [q0, q1]) q1 p1 t c su mn mx hi re [List.zipWith adI p0 q0, p1] u (by simp) rfl gp1 gq1 h1 h9 t
  refine ⟨2, loopO_of (n := 3) ?_⟩
  have s0 : F.impl_Merge.s20 ([q0, q1], len [q0, q1], 0, t, (c, su, mn, mx, hi, re, [p0, p1], u), ()) = some (.again ([q0, q1], len [q0, q1], 1, t, (c, su, mn, mx, hi, re, [List.zipWith adI p0 q0, p1], u), ())) := by
    unfold F.impl_Merge.s20
    simp only
    rw [show decide ((0 : Int) < len [q0, q1]) = true from rfl, show inb 0 [q0, q1].length = true from rfl]
    simp only [cond_true, chk_true, Int.toNat_zero, List.getD_cons_zero]
    exact (congrArg (fun z => afterO z _) r0).trans rfl
  have s1 : F.impl_Merge.s20 ([q0, q1], len [q0, q1], 1, t, (c, su, mn, mx, hi, re, [List.zipWith adI p0 q0, p1], u), ()) = some (.again ([q0, q1], len [q0, q1], 2, t, (c, su, mn, mx, hi, re, [List.zipWith adI p0 q0, List.zipWith adI p1 q1], u), ())) := by
    unfold F.impl_Merge.s20
    simp only
    rw [show decide ((1 : Int) < len [q0, q1]) = true from rfl, show inb 1 [q0, q1].length = true from rfl]
    simp only [cond_true, chk_true, show (1 : Int).toNat = 1 from rfl, List.getD_cons_succ, List.getD_cons_zero]
    exact (congrArg (fun z => afterO z _) r1).trans rfl
  have s2 : F.impl_Merge.s20 ([q0, q1], len [q0, q1], 2, t, (c, su, mn, mx, hi, re, [List.zipWith adI p0 q0, List.zipWith adI p1 q1], u), ()) = some (.exit ([q0, q1], len [q0, q1], 2, t, (c, su, mn, mx, hi, re, [List.zipWith adI p0 q0, List.zipWith adI p1 q1], u), ())) := rfl
  rw [iterO, s0]
  simp only
  rw [iterO, s1]
  simp only
  rw [iterO, s2]
theorem zSkR {s : DSketch} (h : SkR s) : zSketch s = 26 := by
  obtain ⟨r0, r1, e, l0, l1, _, _, _, l2, l3⟩ := skR_len h
  unfold zSketch zIntSS zIntS
  rw [e, l2, l3]
  simp [l0, l1, zIntS]
theorem implMerge_eq (a b : DSketch) (ha : SkR a) (hb : SkR b) : F.impl_Merge a b = some (mergeS a b, true) := by
  have za := zSkR ha
  have zb := zSkR hb
  unfold F.impl_Merge
  rw [implSk_dec a (by omega), implSk_dec b (by omega), decB_pos ha, decB_pos hb, copySketch_eq a (by omega)]
  simp only [Option.bind_some, Bool.not_true, cond_false]
  obtain ⟨p0, p1, ep, lp0, lp1, gp0, gp1, gph, lph, lpr⟩ := skR_len ha
  obtain ⟨q0, q1, eq, lq0, lq1, gq0, gq1, gqh, lqh, lqr⟩ := skR_len hb
  rw [implAdd_eq ha.cnt hb.cnt, implAdd_eq ha.sum hb.sum]
  simp only [Option.bind_some]
  have main : ∀ mn : Int, (afterO (loopO F.impl_Merge.s10 (b.2.2.2.2.1, len b.2.2.2.2.1, 0, b, (0, 0, 0, 0, ([] : List Int), ([] : List Int), ([] : List (List Int)), ()), (adI a.1 b.1, adI a.2.1 b.2.1, mn, mxI a.2.2.2.1 b.2.2.2.1, a.2.2.2.2), ())) fun (x13, x14, x15, x16, x17, x18, _) =>
      afterO (loopO F.impl_Merge.s15 (x16.2.2.2.2.2.1, len x16.2.2.2.2.2.1, 0, x16, x17, x18, ())) fun (x26, x27, x28, x29, x30, x31, _) =>
      afterO (loopO F.impl_Merge.s20 (x29.2.2.2.2.2.2.1, len x29.2.2.2.2.2.2.1, 0, x30, x31, ())) fun (x57, x58, x59, x60, x61, _) =>
      some (x61, true)) = some ((adI a.1 b.1, adI a.2.1 b.2.1, mn, mxI a.2.2.2.1 b.2.2.2.1, List.zipWith adI a.2.2.2.2.1 b.2.2.2.2.1, List.zipWith mxI a.2.2.2.2.2.1 b.2.2.2.2.2.1, [List.zipWith adI p0 q0, List.zipWith adI p1 q1], ()), true) := fun mn => by
    have h1 := iHist_loop b.2.2.2.2.1 b (0, 0, 0, 0, [], [], [], ()) (adI a.1 b.1) (adI a.2.1 b.2.1) mn (mxI a.2.2.2.1 b.2.2.2.1) a.2.2.2.2.1 a.2.2.2.2.2.1 a.2.2.2.2.2.2.1 a.2.2.2.2.2.2.2 gph gqh (by omega) (by omega)
    refine (congrArg (fun z => afterO z _) h1).trans ?_
    have h2 := iRegs_loop b.2.2.2.2.2.1 b (0, 0, 0, 0, [], [], [], ()) (adI a.1 b.1) (adI a.2.1 b.2.1) mn (mxI a.2.2.2.1 b.2.2.2.1) (List.zipWith adI a.2.2.2.2.1 b.2.2.2.2.1) a.2.2.2.2.2.1 a.2.2.2.2.2.2.1 a.2.2.2.2.2.2.2 (by omega) (by omega)
    simp only [afterO]
    rw [h2]
    obtain ⟨e, h3⟩ := iRows_loop p0 p1 q0 q1 (0, 0, 0, 0, [], [], [], ()) (adI a.1 b.1) (adI a.2.1 b.2.1) mn (mxI a.2.2.2.1 b.2.2.2.1) (List.zipWith adI a.2.2.2.2.1 b.2.2.2.2.1) (List.zipWith mxI a.2.2.2.2.2.1 b.2.2.2.2.2.1) () gp0 gp1 gq0 gq1 (by omega) (by omega) (by omega) (by omega)
    simp only [ep, eq]
    rw [h3]
  have fin : ∀ mn : Int, mn = (if b.1 = 0 then a.2.2.1 else if a.1 = 0 then b.2.2.1 else mnI a.2.2.1 b.2.2.1) → some (((adI a.1 b.1, adI a.2.1 b.2.1, mn, mxI a.2.2.2.1 b.2.2.2.1, List.zipWith adI a.2.2.2.2.1 b.2.2.2.2.1, List.zipWith mxI a.2.2.2.2.2.1 b.2.2.2.2.2.1, [List.zipWith adI p0 q0, List.zipWith adI p1 q1], ()) : DSketch), true) = some (mergeS a b, true) := fun mn e => by
    subst e
    unfold mergeS
    rw [ep, eq]; rfl
  have b0 := hb.cnt
  by_cases h1 : a.1 = 0
  · rw [show (a.1 == 0) = true by simp [h1]]
    refine (main _).trans (fin _ ?_)
    by_cases h2 : b.1 = 0
    · rw [if_pos h2]
      have e1 := (ha.zero h1).2; have e2 := (hb.zero h2).2
      have := ha.mn; have := ha.mm; have := hb.mn; have := hb.mm
      omega
    · rw [if_neg h2, if_pos h1]
  · rw [show (a.1 == 0) = false by simp [h1]]
    simp only [cond_false]
    by_cases h2 : b.1 = 0
    · rw [show decide (b.1 > 0) = false from decide_eq_false (by omega)]
      exact (main _).trans (fin _ (by rw [if_pos h2]))
    · rw [show decide (b.1 > 0) = true from decide_eq_true (by omega)]
      simp only [cond_true]
      by_cases h3 : b.2.2.1 < a.2.2.1
      · rw [decide_eq_true h3]
        refine (main _).trans (fin _ ?_)
        rw [if_neg h2, if_neg h1]
        unfold mnI
        rw [if_pos h3]
      · rw [decide_eq_false h3]
        refine (main _).trans (fin _ ?_)
        rw [if_neg h2, if_neg h1]
        unfold mnI
        rw [if_neg h3]
theorem zipM_all {f : Int → Int → Int} {P : Int → Prop} : ∀ {a b : List Int}, (∀ x ∈ a, ∀ y ∈ b, P (f x y)) → ∀ z ∈ List.zipWith f a b, P z
  | [], _, _, z, hz => by simp at hz
  | _ :: _, [], _, z, hz => by simp at hz
  | x :: a, y :: b, h, z, hz => by
    rw [List.zipWith_cons_cons] at hz
    rcases List.mem_cons.1 hz with rfl | hz
    · exact h x (by simp) y (by simp)
    · exact zipM_all (fun x hx y hy => h x (by simp [hx]) y (by simp [hy])) z hz
theorem adI_zero {a b : Int} (ha : rg a) (hb : rg b) : adI a b = 0 ↔ a = 0 ∧ b = 0 := by
  unfold rg adI mnI at *
  split <;> simp_all <;> omega
theorem zipAd {c d : Int} (hc : rg c) (hd : rg d) {a b : List Int} (ha : ∀ x ∈ a, (0 ≤ x ∧ x ≤ 1000000000) ∧ (c = 0 → x = 0)) (hb : ∀ x ∈ b, (0 ≤ x ∧ x ≤ 1000000000) ∧ (d = 0 → x = 0)) :
    ∀ z ∈ List.zipWith adI a b, (0 ≤ z ∧ z ≤ 1000000000) ∧ (adI c d = 0 → z = 0) :=
  zipM_all (P := fun z => (0 ≤ z ∧ z ≤ 1000000000) ∧ (adI c d = 0 → z = 0)) fun x hx y hy => ⟨adI_rg (ha x hx).1 (hb y hy).1, fun e => by
    obtain ⟨e1, e2⟩ := (adI_zero hc hd).1 e
    exact (adI_zero (ha x hx).1 (hb y hy).1).2 ⟨(ha x hx).2 e1, (hb y hy).2 e2⟩⟩
theorem mxI_cases (a b : Int) : mxI a b = a ∨ mxI a b = b := by
  unfold mxI
  split
  · first | exact .inl rfl | exact .inr rfl
  · first | exact .inr rfl | exact .inl rfl
theorem mxI_ge (a b : Int) : a ≤ mxI a b ∧ b ≤ mxI a b := by
  unfold mxI
  split <;> simp_all <;> omega
theorem mnI_cases (a b : Int) : mnI a b = a ∨ mnI a b = b := by
  unfold mnI
  split
  · first | exact .inl rfl | exact .inr rfl
  · first | exact .inr rfl | exact .inl rfl
theorem mnI_le (a b : Int) : mnI a b ≤ a ∧ mnI a b ≤ b := by
  unfold mnI
  split <;> simp_all <;> omega
theorem mergeS_ok {a b : DSketch} (ha : SkR a) (hb : SkR b) : SkR (mergeS a b) := by
  obtain ⟨p0, p1, ep, ⟨lp0, gp0⟩, ⟨lp1, gp1⟩⟩ := ha.rows
  obtain ⟨q0, q1, eq, ⟨lq0, gq0⟩, ⟨lq1, gq1⟩⟩ := hb.rows
  have hm := mxI_ge a.2.2.2.1 b.2.2.2.1
  have hc := mxI_cases a.2.2.2.1 b.2.2.2.1
  have hn := mnI_le a.2.2.1 b.2.2.1
  have hnc := mnI_cases a.2.2.1 b.2.2.1
  have a1 := ha.mn; have a2 := ha.mm; have a3 := ha.mx
  have b1 := hb.mn; have b2 := hb.mm; have b3 := hb.mx
  refine ⟨adI_rg ha.cnt hb.cnt, adI_rg ha.sum hb.sum, ?_, ?_, ?_, fun e => ?_, ⟨?_, zipAd ha.cnt hb.cnt ha.hist.2 hb.hist.2⟩, ⟨?_, ?_⟩, ⟨List.zipWith adI p0 q0, List.zipWith adI p1 q1, ?_, ⟨?_, zipAd ha.cnt hb.cnt gp0 gq0⟩, ⟨?_, zipAd ha.cnt hb.cnt gp1 gq1⟩⟩⟩
  · show 0 ≤ (if b.1 = 0 then a.2.2.1 else if a.1 = 0 then b.2.2.1 else mnI a.2.2.1 b.2.2.1)
    (repeat' split) <;> omega
  · show (if b.1 = 0 then a.2.2.1 else if a.1 = 0 then b.2.2.1 else mnI a.2.2.1 b.2.2.1) ≤ mxI a.2.2.2.1 b.2.2.2.1
    (repeat' split) <;> omega
  · show mxI a.2.2.2.1 b.2.2.2.1 ≤ 1000000
    omega
  · obtain ⟨e1, e2⟩ := (adI_zero ha.cnt hb.cnt).1 (show adI a.1 b.1 = 0 from e)
    have z1 := ha.zero e1; have z2 := hb.zero e2
    refine ⟨(adI_zero ha.sum hb.sum).2 ⟨z1.1, z2.1⟩, ?_⟩
    show mxI a.2.2.2.1 b.2.2.2.1 = 0
    omega
  · show (List.zipWith adI a.2.2.2.2.1 b.2.2.2.2.1).length = 8
    rw [List.length_zipWith, ha.hist.1, hb.hist.1]; rfl
  · show (List.zipWith mxI a.2.2.2.2.2.1 b.2.2.2.2.2.1).length = 8
    rw [List.length_zipWith, ha.regs.1, hb.regs.1]; rfl
  · exact zipM_all (P := fun z => (0 ≤ z ∧ z ≤ 17) ∧ (adI a.1 b.1 = 0 → z = 0)) fun x hx y hy => by
      have := mxI_cases x y
      have h1 := ha.regs.2 x hx; have h2 := hb.regs.2 y hy
      refine ⟨by omega, fun e => ?_⟩
      obtain ⟨e1, e2⟩ := (adI_zero ha.cnt hb.cnt).1 e
      have := h1.2 e1; have := h2.2 e2
      omega
  · show [List.zipWith adI (a.2.2.2.2.2.2.1.getD 0 []) (b.2.2.2.2.2.2.1.getD 0 []), List.zipWith adI (a.2.2.2.2.2.2.1.getD 1 []) (b.2.2.2.2.2.2.1.getD 1 [])] = _
    rw [ep, eq]; rfl
  · rw [List.length_zipWith, lp0, lq0]; rfl
  · rw [List.length_zipWith, lp1, lq1]; rfl
def hasB (a : List Sp) (n : Int) : Bool := a.any fun x => inR x.1 x.2.1 n
def ends (l : List Sp) : Prop := ∀ x ∈ l, 0 ≤ x.1 ∧ x.1 ≤ x.2.1 ∧ x.2.1 ≤ 9999
theorem copySet_big (a : List DSpan) (h : a.length ≤ 4194304) : F.impl_copySet a = some a := by
  unfold F.impl_copySet
  rw [fits_of (by omega)]; rfl
theorem union_loop (s : List Sp) (h : s.length ≤ 4194304) (he : ends s) : ∃ e1 e2 e3, loopO F.impl_union.s5 ([], s, len s, 0, ()) = some (.inl (uniS s, e1, e2, e3, ())) := by
  have key : ∀ (m p pre : List Sp) (c : Sp), s = p ++ m → pre.length + 1 ≤ p.length → 0 ≤ c.2.1 ∧ c.2.1 ≤ 9999 →
      iterO F.impl_union.s5 (m.length + 1) (pre ++ [c], s, len s, ((p.length : Nat) : Int), ()) = some (.inl (pre ++ runS c m, s, len s, ((s.length : Nat) : Int), ())) := by
    intro m
    induction m with
    | nil =>
      intro p pre c hp hl hc
      have hpl : p.length = s.length := by rw [hp]; simp
      unfold iterO F.impl_union.s5
      simp only [hpl, ge_len, cond_false, runS]
    | cons y m ih =>
      intro p pre c hp hl hc
      have hk : p.length < s.length := by rw [hp]; simp
      have hg : s[p.length] = y := by simp [hp]
      have hy := he y (by rw [hp]; simp)
      have hst : F.impl_union.s5 (pre ++ [c], s, len s, ((p.length : Nat) : Int), ()) = some (.again (if y.1 ≤ c.2.1 + 1 then (pre ++ [(c.1, mxI c.2.1 y.2.1, ())], s, len s, ((p.length + 1 : Nat) : Int), ()) else ((pre ++ [c]) ++ [y], s, len s, ((p.length + 1 : Nat) : Int), ()))) := by
        unfold F.impl_union.s5
        have hln : len (pre ++ [c]) = ((pre.length : Nat) : Int) + 1 := by simp [len]
        have hpr : pre.length < (pre ++ [c]).length := by simp
        simp only
        rw [lt_len hk, inb_nat hk, Int.toNat_natCast, getD_at hk, w64_nat (by omega), hg, hln, show decide (((pre.length : Nat) : Int) + 1 > 0) = true from decide_eq_true (by omega), w64_id (x := ((pre.length : Nat) : Int) + 1 - 1) (by omega) (by omega), show ((pre.length : Nat) : Int) + 1 - 1 = ((pre.length : Nat) : Int) by omega, inb_nat hpr, Int.toNat_natCast, getD_mid, set_mid, w64_id (by omega) (by omega)]
        simp only [cond_true, chk_true, List.length_append, List.length_cons, List.length_nil, Option.bind_some]
        rw [fits_of (by omega)]
        by_cases hc1 : y.1 ≤ c.2.1 + 1
        · rw [decide_eq_true hc1, if_pos hc1]; rfl
        · rw [decide_eq_false hc1, if_neg hc1]; rfl
      rw [List.length_cons, iterO, hst, runS]
      simp only
      by_cases hc1 : y.1 ≤ c.2.1 + 1
      · rw [if_pos hc1, if_pos hc1]
        have := ih (p ++ [y]) pre (c.1, mxI c.2.1 y.2.1, ()) (by simp [hp]) (by simp; omega) (by simp only [mxI]; split <;> omega)
        rw [List.length_append] at this
        exact this
      · rw [if_neg hc1, if_neg hc1]
        have := ih (p ++ [y]) (pre ++ [c]) y (by simp [hp]) (by simp; omega) ⟨by omega, by omega⟩
        rw [List.length_append] at this
        simp only [List.append_assoc] at this ⊢
        exact this
  cases hs : s with
  | nil => exact ⟨_, _, _, loopO_of (n := 1) (by unfold iterO F.impl_union.s5; rfl)⟩
  | cons x l =>
    rw [← hs]
    have hk : 0 < s.length := by rw [hs]; simp
    have hg : s[0] = x := by simp [hs]
    have hx := he x (by rw [hs]; simp)
    have hst : F.impl_union.s5 ([], s, len s, 0, ()) = some (.again ([x], s, len s, 1, ())) := by
      unfold F.impl_union.s5
      simp only
      have h0 := lt_len hk
      have h1 := inb_nat hk
      simp only [Int.natCast_zero] at h0 h1
      rw [h0, h1, show (0 : Int).toNat = 0 from rfl, getD_at hk, hg]
      simp only [cond_true, chk_true, show decide (len ([] : List Sp) > 0) = false from rfl, cond_false, List.length_cons, List.length_nil]
      rw [fits_of (by omega)]; rfl
    have := key l [x] [] x (by rw [hs]; rfl) (by simp) ⟨by omega, by omega⟩
    refine ⟨s, len s, ((s.length : Nat) : Int), loopO_of (n := l.length + 1 + 1) ?_⟩
    rw [iterO, hst]
    rw [hs] at this ⊢
    exact this
theorem ends_perm {a b : List Sp} (h : a.Perm b) (hb : ends b) : ends a := fun x hx => hb x (h.mem_iff.1 hx)
theorem sortS_ends {l : List Sp} (h : ends l) : ends (sortS l) := ends_perm (sortS_perm l) h
theorem union_eq (l : List Sp) (h : l.length ≤ 4194304) (he : ends l) : F.impl_union l = some (uniS (sortS l)) := by
  unfold F.impl_union F.slices_SortFunc_Span__impl_union_1
  rw [copySet_big l h]
  simp only [Option.bind_some]
  rw [show decide (l.length ≤ 4000000000000) = true from decide_eq_true (by omega)]
  have hl : (sortS l).length = l.length := (sortS_perm l).length_eq
  obtain ⟨e1, e2, e3, hh⟩ := union_loop (sortS l) (by omega) (sortS_ends he)
  simp only [chk_true, Option.bind_some, hh, afterO]
theorem okF_ends {s : List Sp} (h : okF 0 s) : ends s := fun x hx => okF_all h x hx
theorem okF_small {s : List Sp} (h : okF 0 s) : s.length ≤ 5001 := by
  rcases okF_len (Int.le_refl 0) h with e | e
  · omega
  · rw [e]; simp
theorem union_join (a b : List Sp) (h : (a ++ b).length ≤ 4194304) (ha : okF 0 a) (hb : ends b) : F.impl_union (a ++ b) = some (joinS a b) := by
  rw [union_eq _ h (fun x hx => (List.mem_append.1 hx).elim (okF_ends ha x) (hb x)), uni_join ha hb (sortS_perm _) (sortS_sorted _)]
theorem l5Join_eq (a b : List Sp) (ha : okF 0 a) (hb : ends b) (hl : b.length ≤ 1000000) : F.spec_l5Join a b = some (joinS a b) := by
  have hs := okF_small ha
  unfold F.spec_l5Join
  rw [l5Copy_eq a (by omega)]
  simp only [Option.bind_some]
  have hh := loop_foldP (step := F.spec_l5Join.s3) b (fun (i : Nat) (s : List Sp) => (b, s, (i : Int), ())) (fun s x => put x s) (fun _ s => okF 0 s) (fun i s hi hp => by
    have hx := hb _ (List.getElem_mem hi)
    have := okF_small hp
    refine ⟨?_, put_ok hp hx.1 hx.2.1 hx.2.2⟩
    unfold F.spec_l5Join.s3
    simp only
    rw [lt_len hi, inb_nat hi, Int.toNat_natCast, getD_at hi, w64_nat (by omega), l5Put_eq s b[i] (by omega) (Int.le_refl 0) hp hx.1 hx.2.1 hx.2.2]
    rfl) (fun s hp => by
    unfold F.spec_l5Join.s3
    simp only [ge_len, cond_false]) (s := a) ha
  have h1 : loopO F.spec_l5Join.s3 (b, a, 0, ()) = _ := hh.1
  rw [h1]
  rfl
def idsL (l : List DEntry) : List Sp := l.flatMap fun e => e.2.2.1
theorem spSet_eq (a : List DSpan) (h : a.length ≤ 1048576) : F.spec_l5Copy a = some a := by
  unfold F.spec_l5Copy
  simp only [List.length_nil, List.nil_append, Nat.zero_add]
  rw [fits_of (by omega)]; rfl
theorem imSet_eq (a : List DSpan) (h : a.length ≤ 1048576) : F.impl_copySet a = some a := by
  unfold F.impl_copySet
  rw [fits_of (by omega)]; rfl
theorem l6Copy_eq (e : DEntry) (h : zEntry e ≤ 1048576) : F.spec_l6Copy e = some e := by
  have hz : e.2.2.1.length + zSketch e.2.2.2.1 ≤ 1048576 := h
  unfold F.spec_l6Copy
  rw [spSet_eq _ (by omega), l3Copy_eq _ (by omega)]; rfl
theorem copyEntry_eq (e : DEntry) (h : zEntry e ≤ 1048576) : F.impl_copyEntry e = some e := by
  have hz : e.2.2.1.length + zSketch e.2.2.2.1 ≤ 1048576 := h
  unfold F.impl_copyEntry
  rw [imSet_eq _ (by omega), copySketch_eq _ (by omega)]; rfl
theorem zEnR {e : DEntry} (h : EnR e) : zEntry e ≤ 5027 := by
  have h1 : e.2.2.1.length ≤ 5001 := okF_small (good_ok.1 h.ids)
  have h2 := zSkR h.sk
  show e.2.2.1.length + zSketch e.2.2.2.1 ≤ 5027
  omega
def addE (a b : DEntry) : DEntry := (a.1, a.2.1, joinS a.2.2.1 b.2.2.1, mergeS a.2.2.2.1 b.2.2.2.1, ())
theorem joinS_ne {a b : List Sp} (ha : Good a) (hb : Good b) (h0 : a ≠ []) : joinS a b ≠ [] := by
  intro e
  cases a with
  | nil => exact h0 rfl
  | cons x l =>
    have hx := okF_all (good_ok.1 ha) x (by simp)
    have := (joinS_mem (n := x.1) (good_ok.1 ha) (okF_ends (good_ok.1 hb))).2 (.inl ⟨x, by simp, Int.le_refl _, hx.2.1⟩)
    rw [e] at this
    exact memS_nil this
theorem addE_ok {a b : DEntry} (ha : EnR a) (hb : EnR b) : EnR (addE a b) :=
  ⟨ha.key, ha.win, good_ok.2 (joinS_ok (good_ok.1 ha.ids) (okF_ends (good_ok.1 hb.ids))), joinS_ne ha.ids hb.ids ha.some, mergeS_ok ha.sk hb.sk⟩
theorem l6Add_eq {a b : DEntry} (ha : EnR a) (hb : EnR b) : F.spec_l6Add a b = some (addE a b) := by
  have h2 : b.2.2.1.length ≤ 5001 := okF_small (good_ok.1 hb.ids)
  unfold F.spec_l6Add
  rw [l5Join_eq _ _ (good_ok.1 ha.ids) (okF_ends (good_ok.1 hb.ids)) (by omega), l3Merge_eq _ _ ha.sk hb.sk]; rfl
theorem apB_iff {a b : List Sp} (ha : ∀ x ∈ a, x.1 ≤ x.2.1) (hb : ∀ y ∈ b, y.1 ≤ y.2.1) : apB a b = true ↔ ∀ n, memS a n → ¬ memS b n := by
  unfold apB
  rw [List.all_eq_true]
  constructor
  · rintro h n ⟨x, hx, h1, h2⟩ ⟨y, hy, h3, h4⟩
    have := h x hx
    rw [List.all_eq_true] at this
    have := this y hy
    unfold ap1 at this
    rw [show decide (x.1 ≤ y.2.1) = true from decide_eq_true (by omega), show decide (y.1 ≤ x.2.1) = true from decide_eq_true (by omega)] at this
    cases this
  · intro h x hx
    rw [List.all_eq_true]
    intro y hy
    unfold ap1
    have h1 := ha x hx
    have h2 := hb y hy
    by_cases c1 : x.1 ≤ y.2.1
    · by_cases c2 : y.1 ≤ x.2.1
      · exfalso
        rcases Int.le_total x.1 y.1 with c | c
        · exact h y.1 ⟨x, hx, c, c2⟩ ⟨y, hy, Int.le_refl _, h2⟩
        · exact h x.1 ⟨x, hx, Int.le_refl _, h1⟩ ⟨y, hy, c, c1⟩
      · rw [decide_eq_false c2, Bool.and_false]; rfl
    · rw [decide_eq_false c1]; rfl
theorem good_le {a : List Sp} (h : Good a) : ∀ x ∈ a, x.1 ≤ x.2.1 := fun x hx => (okF_all (good_ok.1 h) x hx).2.1
def apRow (l : List DEntry) (ids : List Sp) : Bool := l.all fun x => apB x.2.2.1 ids
theorem l10Apart_eq (r : DRow) (e : DEntry) (hr : RoR r) (he : EnR e) : F.spec_l10Apart r e.2.2.1 = some (apRow r.1 e.2.2.1) := by
  unfold F.spec_l10Apart
  have hf := hr.few
  have h2 : e.2.2.1.length ≤ 5001 := okF_small (good_ok.1 he.ids)
  have hh := loop_all (step := F.spec_l10Apart.s2) r.1 (fun i => (e.2.2.1, (i : Int), r, ())) (fun x => apB x.2.2.1 e.2.2.1) false (fun i hi => by
    have hx := hr.ok.all _ (List.getElem_mem hi)
    have h1 : r.1[i].2.2.1.length ≤ 5001 := okF_small (good_ok.1 hx.ids)
    unfold F.spec_l10Apart.s2
    simp only
    rw [lt_len hi, inb_nat hi, Int.toNat_natCast, getD_at hi, specApart_eq _ _ (by omega) (by omega), decB_pos hx.ids, decB_pos he.ids, w64_nat (by omega)]
    simp only [cond_true, chk_true, Option.bind_some, Bool.true_and]
    cases apB r.1[i].2.2.1 e.2.2.1 <;> rfl) (by
    unfold F.spec_l10Apart.s2
    simp only [ge_len, cond_false])
  refine (congrArg (fun z => afterO z _) hh).trans ?_
  unfold apRow
  cases r.1.all (fun x => apB x.2.2.1 e.2.2.1) <;> rfl
def atP (k w : Int) (x : DEntry) : Bool := x.1 == k && x.2.1 == w
theorem placeOf_eq (l : List DEntry) (k w : Int) (hn : l.length ≤ 1048576) : F.impl_placeOf l k w = some (match l.findIdx? (atP k w) with
    | some i => (i : Int)
    | none => -1) := by
  unfold F.impl_placeOf F.slices_IndexFunc_Entry__impl_placeOf_1
  have step : ∀ i (hi : i < l.length), F.slices_IndexFunc_Entry__impl_placeOf_1.s2 (l, (k, w, ()), len l, (i : Int), ()) = some (if atP k w l[i] = true then .ret (i : Int) else .again (l, (k, w, ()), len l, ((i + 1 : Nat) : Int), ())) := fun i hi => by
    unfold F.slices_IndexFunc_Entry__impl_placeOf_1.s2 F.impl_placeOf_1
    simp only
    rw [lt_len hi, inb_nat hi, Int.toNat_natCast, getD_at hi, w64_nat (by omega)]
    simp only [cond_true, chk_true]
    unfold atP
    cases (l[i].1 == k) <;> cases (l[i].2.1 == w) <;> rfl
  have key : ∀ (m p : List DEntry), p ++ m = l → iterO F.slices_IndexFunc_Entry__impl_placeOf_1.s2 (m.length + 1) (l, (k, w, ()), len l, (p.length : Int), ()) = some (match m.findIdx? (atP k w) with
      | some i => .inr ((p.length + i : Nat) : Int)
      | none => .inl (l, (k, w, ()), len l, (l.length : Int), ())) := by
    intro m
    induction m with
    | nil =>
      intro p hp
      have hp : p = l := by simpa using hp
      subst hp
      have : F.slices_IndexFunc_Entry__impl_placeOf_1.s2 (p, (k, w, ()), len p, (p.length : Int), ()) = some (.exit (p, (k, w, ()), len p, (p.length : Int), ())) := by
        unfold F.slices_IndexFunc_Entry__impl_placeOf_1.s2
        simp only [ge_len, cond_false]
      rw [iterO, this]; rfl
    | cons x m ih =>
      intro p hp
      have hi : p.length < l.length := by rw [← hp]; simp
      have hx : l[p.length] = x := by subst hp; simp
      rw [iterO, step _ hi, hx, List.findIdx?_cons]
      cases h : atP k w x with
      | true => simp
      | false =>
        have q := ih (p ++ [x]) (by rw [← hp]; simp)
        rw [List.length_append] at q
        simp only [Bool.false_eq_true, if_false, List.length_cons]
        rw [show ((p.length + 1 : Nat) : Int) = ((p.length + [x].length : Nat) : Int) from rfl, q]
        cases List.findIdx? (atP k w) m with
        | none => rfl
        | some i =>
          simp only [Option.map_some, List.length_cons, List.length_nil]
          congr 2; omega
  have hh := loopO_of (key l [] rfl)
  have hh : loopO F.slices_IndexFunc_Entry__impl_placeOf_1.s2 (l, (k, w, ()), len l, 0, ()) = _ := hh
  simp only
  rw [hh]
  cases l.findIdx? (atP k w) with
  | none => rfl
  | some i => simp [afterO]
theorem atP_iff {k w : Int} {x : DEntry} : atP k w x = true ↔ x.1 = k ∧ x.2.1 = w := by
  unfold atP
  rw [Bool.and_eq_true, beq_iff_eq, beq_iff_eq]
theorem entryAdd_eq {a b : DEntry} (ha : EnR a) (hb : EnR b) (h1 : a.1 = b.1) (h2 : a.2.1 = b.2.1) : F.impl_EntryAdd a b = some (bif apB a.2.2.1 b.2.2.1 then (addE a b, true) else ((0, 0, [], (0, 0, 0, 0, [], [], [], ()), ()), false)) := by
  have za := zEnR ha
  have zb := zEnR hb
  have la : a.2.2.1.length ≤ 5001 := okF_small (good_ok.1 ha.ids)
  have lb : b.2.2.1.length ≤ 5001 := okF_small (good_ok.1 hb.ids)
  unfold F.impl_EntryAdd
  rw [implEn_dec a (by omega), implEn_dec b (by omega), decB_pos ha, decB_pos hb, show (a.1 != b.1) = false by simp [h1], show (a.2.1 != b.2.1) = false by simp [h2], implApart_eq _ _ (by omega) (by omega), decB_pos ha.ids, decB_pos hb.ids]
  simp only [Option.bind_some, Bool.not_true, cond_false, Bool.true_and]
  cases apB a.2.2.1 b.2.2.1 with
  | false => rfl
  | true =>
    have hj : F.impl_SetJoin a.2.2.1 b.2.2.1 = some (joinS a.2.2.1 b.2.2.1, true) := by
      unfold F.impl_SetJoin
      rw [implSet_dec _ (by omega), implSet_dec _ (by omega), decB_pos ha.ids, decB_pos hb.ids, copySet_big _ (by omega)]
      simp only [Option.bind_some, Bool.not_true, cond_false]
      rw [fits_of (by omega), union_join _ _ (by rw [List.length_append]; omega) (good_ok.1 ha.ids) (okF_ends (good_ok.1 hb.ids))]
      rfl
    simp only [Bool.not_true, cond_false, hj, implMerge_eq _ _ ha.sk hb.sk, Option.bind_some]
    rfl
theorem zEnL : ∀ m : List DEntry, (∀ x ∈ m, EnR x) → zEntryS m ≤ 5028 * m.length := by
  intro m
  unfold zEntryS
  induction m with
  | nil => intro _; simp
  | cons x m ih =>
    intro h
    have h1 := zEnR (h x (by simp))
    have h2 := ih (fun y hy => h y (by simp [hy]))
    simp only [List.map_cons, List.sum_cons, List.length_cons]
    omega
theorem l10Copy_eq (r : DRow) (h : zRow r ≤ 1048576) : F.spec_l10Copy r = some r := by
  have hz : zEntryS r.1 ≤ 1048576 := h
  have hn : r.1.length ≤ 1048576 := by unfold zEntryS at hz; omega
  unfold F.spec_l10Copy
  have hh := loop_run (step := F.spec_l10Copy.s3) (fun i => ((i : Int), r, ([], ()), (r.1.take i, ()), ())) r.1.length (fun i hi => by
    unfold F.spec_l10Copy.s3
    simp only
    rw [lt_len hi, inb_nat hi, Int.toNat_natCast, getD_at hi, l6Copy_eq _ (zE_mem hz (List.getElem_mem hi)), w64_nat (by omega)]
    simp only [cond_true, chk_true, Option.bind_some, List.length_cons, List.length_nil, List.length_take]
    rw [fits_of (by omega), take_snoc hi]; rfl) (l := .exit (((r.1.length : Nat) : Int), r, ([], ()), (r.1.take r.1.length, ()), ())) (by
    unfold F.spec_l10Copy.s3
    simp only [ge_len, cond_false]) rfl
  rw [List.take_length] at hh
  exact (congrArg (fun z => afterO z _) hh).trans rfl
theorem copyRow_eq (r : DRow) (h : zRow r ≤ 1048576) : F.impl_copyRow r = some r := by
  have hz : zEntryS r.1 ≤ 1048576 := h
  have hn : r.1.length ≤ 1048576 := by unfold zEntryS at hz; omega
  unfold F.impl_copyRow
  have hc : F.impl_copyEntries r.1 = some r.1 := by
    unfold F.impl_copyEntries
    have hh := loop_run (step := F.impl_copyEntries.s3) (fun i => (r.1.take i, r.1, len r.1, (i : Int), ())) r.1.length (fun i hi => by
      unfold F.impl_copyEntries.s3
      simp only
      rw [lt_len hi, inb_nat hi, Int.toNat_natCast, getD_at hi, copyEntry_eq _ (zE_mem hz (List.getElem_mem hi)), w64_nat (by omega)]
      simp only [cond_true, chk_true, Option.bind_some, List.length_cons, List.length_nil, List.length_take]
      rw [fits_of (by omega), take_snoc hi]; rfl) (l := .exit (r.1.take r.1.length, r.1, len r.1, ((r.1.length : Nat) : Int), ())) (by
      unfold F.impl_copyEntries.s3
      simp only [ge_len, cond_false]) rfl
    rw [List.take_length] at hh
    exact (congrArg (fun z => afterO z _) hh).trans rfl
  rw [hc]; rfl
def pushed (r : DRow) (e : DEntry) (j : Bool) : DRow × Bool := match (bif j then r.1.findIdx? (atP e.1 e.2.1) else none) with
  | some k => ((r.1.set k (addE (r.1.getD k e) e), r.2), true)
  | none => if r.1.length = 24 then (r, false) else ((r.1 ++ [e], r.2), true)
theorem push_loop (r : DRow) (e : DEntry) (hr : RoR r) (he : EnR e) (t : DRow) : loopO F.spec_RowPush.s5 (true, 0, r, e, t, r, ()) = some (match r.1.findIdx? (atP e.1 e.2.1) with
    | some k => .inr ((r.1.set k (addE (r.1.getD k e) e), r.2), true)
    | none => .inl (true, (r.1.length : Int), r, e, t, r, ())) := by
  have hf := hr.few
  have step : ∀ i (hi : i < r.1.length), F.spec_RowPush.s5 (true, (i : Int), r, e, t, r, ()) = some (if atP e.1 e.2.1 r.1[i] = true then .ret ((r.1.set i (addE r.1[i] e), r.2), true) else .again (true, ((i + 1 : Nat) : Int), r, e, t, r, ())) := fun i hi => by
    have hx := hr.ok.all _ (List.getElem_mem hi)
    unfold F.spec_RowPush.s5
    simp only
    rw [lt_len hi, inb_nat hi, Int.toNat_natCast, getD_at hi, w64_nat (by omega), l6Add_eq hx he]
    simp only [cond_true, chk_true, Option.bind_some]
    unfold atP
    cases (r.1[i].1 == e.1) <;> cases (r.1[i].2.1 == e.2.1) <;> rfl
  have key : ∀ (m p : List DEntry), p ++ m = r.1 → iterO F.spec_RowPush.s5 (m.length + 1) (true, (p.length : Int), r, e, t, r, ()) = some (match m.findIdx? (atP e.1 e.2.1) with
      | some k => .inr ((r.1.set (p.length + k) (addE (r.1.getD (p.length + k) e) e), r.2), true)
      | none => .inl (true, (r.1.length : Int), r, e, t, r, ())) := by
    intro m
    induction m with
    | nil =>
      intro p hp
      have hp : p = r.1 := by simpa using hp
      have : F.spec_RowPush.s5 (true, (p.length : Int), r, e, t, r, ()) = some (.exit (true, (r.1.length : Int), r, e, t, r, ())) := by
        rw [hp]
        unfold F.spec_RowPush.s5
        simp only [ge_len, cond_false]
      rw [List.length_nil, iterO, this]; rfl
    | cons x m ih =>
      intro p hp
      have hi : p.length < r.1.length := by rw [← hp]; simp
      have hx : r.1[p.length] = x := by
        have : r.1[p.length]'hi = (p ++ x :: m)[p.length]'(by simp) := by congr 1; exact hp.symm
        rw [this]; simp
      rw [iterO, step _ hi, hx, List.findIdx?_cons]
      cases h : atP e.1 e.2.1 x with
      | true =>
        simp only [if_true, Nat.add_zero]
        rw [getD_at hi, hx]
      | false =>
        have q := ih (p ++ [x]) (by rw [← hp]; simp)
        rw [List.length_append] at q
        simp only [Bool.false_eq_true, if_false, List.length_cons]
        rw [show ((p.length + 1 : Nat) : Int) = ((p.length + [x].length : Nat) : Int) from rfl, q]
        cases List.findIdx? (atP e.1 e.2.1) m with
        | none => rfl
        | some i =>
          simp only [Option.map_some, List.length_cons, List.length_nil]
          rw [show p.length + (0 + 1) + i = p.length + (i + 1) by omega]
  have hh := loopO_of (key r.1 [] rfl)
  have hh : loopO F.spec_RowPush.s5 (true, 0, r, e, t, r, ()) = _ := hh
  rw [hh]
  cases r.1.findIdx? (atP e.1 e.2.1) with
  | none => rfl
  | some k => simp
theorem find_at {l : List DEntry} {k w : Int} {i : Nat} (h : l.findIdx? (atP k w) = some i) : ∃ hi : i < l.length, l[i].1 = k ∧ l[i].2.1 = w := by
  obtain ⟨hi, h1, _⟩ := List.findIdx?_eq_some_iff_getElem.1 h
  exact ⟨hi, atP_iff.1 h1⟩
theorem specPush_eq (r : DRow) (e : DEntry) (j : Bool) (h : zRow r ≤ 1048576) (h' : zEntry e ≤ 1048576) : F.spec_RowPush r e j = some (bif decB (RoR r ∧ EnR e ∧ apRow r.1 e.2.2.1 = true) then pushed r e j else (r, false)) := by
  unfold F.spec_RowPush
  rw [l10Copy_eq r h, specRow_dec r h, specEn_dec e h']
  simp only [Option.bind_some]
  by_cases hr : RoR r
  case neg => rw [decB_neg hr, decB_neg (show ¬ (RoR r ∧ EnR e ∧ apRow r.1 e.2.2.1 = true) from fun hh => hr hh.1)]; rfl
  by_cases he : EnR e
  case neg => rw [decB_pos hr, decB_neg he, decB_neg (show ¬ (RoR r ∧ EnR e ∧ apRow r.1 e.2.2.1 = true) from fun hh => he hh.2.1)]; rfl
  rw [decB_pos hr, decB_pos he, l10Apart_eq r e hr he]
  simp only [Option.bind_some, Bool.not_true, cond_false]
  cases ha : apRow r.1 e.2.2.1 with
  | false => rw [decB_neg (fun hh => by cases hh.2.2)]; rfl
  | true =>
    rw [decB_pos ⟨hr, he, rfl⟩]
    have hf := hr.few
    have tail : (bif (len r.1 == 24) then some (r, false) else (F.spec_l6Copy e).bind fun r18 => chk (fits (List.length r.1 + List.length ([r18])) 144) <| some ((r.1 ++ ([r18]), r.2), true)) = some (if r.1.length = 24 then (r, false) else ((r.1 ++ [e], r.2), true)) := by
      rw [l6Copy_eq e h']
      by_cases h24 : r.1.length = 24
      · rw [show (len r.1 == 24) = true by simp [len, h24], if_pos h24]; rfl
      · rw [show (len r.1 == 24) = false by simp only [len, beq_eq_false_iff_ne, ne_eq]; omega, if_neg h24]
        simp only [cond_false, Option.bind_some, List.length_cons, List.length_nil]
        rw [fits_of (by omega)]; rfl
    simp only [Bool.not_true, cond_false, cond_true]
    unfold pushed
    cases j with
    | true =>
      rw [push_loop r e hr he ([], ())]
      simp only [cond_true]
      cases r.1.findIdx? (atP e.1 e.2.1) with
      | some k => rfl
      | none => exact tail
    | false =>
      simp only [cond_false]
      have hex : F.spec_RowPush.s5 (false, 0, r, e, ([], ()), r, ()) = some (.exit (false, 0, r, e, ([], ()), r, ())) := by
        unfold F.spec_RowPush.s5
        simp only
        cases decide ((0 : Int) < len r.1) <;> rfl
      have hh : loopO F.spec_RowPush.s5 (false, 0, r, e, ([], ()), r, ()) = some (.inl (false, 0, r, e, ([], ()), r, ())) := loopO_of (n := 1) (by rw [iterO, hex])
      rw [hh]
      exact tail
theorem loop_find {X A α : Type} {step : X → Option (Lp X A)} (l : List α) (mk : Nat → X) (p : α → Bool) (a : Nat → A)
    (h : ∀ i (hi : i < l.length), step (mk i) = some (bif p l[i] then .ret (a i) else .again (mk (i + 1))))
    (he : step (mk l.length) = some (.exit (mk l.length))) :
    loopO step (mk 0) = some (match l.findIdx? p with
      | some i => .inr (a i)
      | none => .inl (mk l.length)) := by
  have key : ∀ (m q : List α), q ++ m = l → iterO step (m.length + 1) (mk q.length) = some (match m.findIdx? p with
      | some i => .inr (a (q.length + i))
      | none => .inl (mk l.length)) := by
    intro m
    induction m with
    | nil =>
      intro q hq
      have hq : q = l := by simpa using hq
      subst hq
      rw [List.length_nil, iterO, he]; rfl
    | cons x m ih =>
      intro q hq
      have hi : q.length < l.length := by rw [← hq]; simp
      have hx : l[q.length] = x := by subst hq; simp
      rw [iterO, h _ hi, hx, List.findIdx?_cons]
      cases hp : p x with
      | true => simp
      | false =>
        have z := ih (q ++ [x]) (by rw [← hq]; simp)
        rw [List.length_append] at z
        simp only [cond_false, Bool.false_eq_true, if_false, List.length_cons]
        rw [show q.length + 1 = q.length + [x].length from rfl, z]
        cases List.findIdx? p m with
        | none => rfl
        | some i =>
          simp only [Option.map_some, List.length_cons, List.length_nil]
          rw [show q.length + (0 + 1) + i = q.length + (i + 1) by omega]
  have := loopO_of (key l [] rfl)
  simp only [List.length_nil, Nat.zero_add] at this
  exact this
def runD {S A : Type} (g : Nat → S → S ⊕ A) : Nat → S → S ⊕ A
  | 0, s => .inl s
  | n + 1, s => match g n s with
    | .inl s' => runD g n s'
    | .inr a => .inr a
theorem loop_down {X A S : Type} {step : X → Option (Lp X A)} (mk : Int → S → X) (g : Nat → S → S ⊕ A) : ∀ (n : Nat),
    (∀ i s, i < n → step (mk (i : Int) s) = some (again (mk ((i : Int) - 1)) (g i s))) → (∀ s, step (mk (-1) s) = some (.exit (mk (-1) s))) →
    ∀ s, loopO step (mk ((n : Int) - 1) s) = some (Sum.map (mk (-1)) id (runD g n s)) := by
  intro n h he s
  have key : ∀ k s, k ≤ n → iterO step (k + 1) (mk ((k : Int) - 1) s) = some (Sum.map (mk (-1)) id (runD g k s)) := by
    intro k
    induction k with
    | zero =>
      intro s _
      rw [show ((0 : Nat) : Int) - 1 = -1 by omega, iterO, he s]; rfl
    | succ k ih =>
      intro s hk
      rw [show ((k + 1 : Nat) : Int) - 1 = (k : Int) by omega, iterO, h k s (by omega)]
      cases hg : g k s with
      | inl s' =>
        simp only [again, runD, hg]
        exact ih s' (by omega)
      | inr a =>
        simp only [again, runD, hg]
        rfl
  exact loopO_of (key n s (Nat.le_refl _))
theorem findIdx_snoc {α : Type} (p : α → Bool) (l : List α) {n : Nat} (h : n < l.length) : (l.take (n + 1)).findIdx? p = match (l.take n).findIdx? p with
    | some k => some k
    | none => if p l[n] then some n else none := by
  rw [List.take_succ_eq_append_getElem h, List.findIdx?_append]
  cases hq : (l.take n).findIdx? p with
  | some k => rfl
  | none =>
    simp only [List.findIdx?_cons, List.findIdx?_nil, List.length_take, Nat.min_eq_left (Nat.le_of_lt h)]
    cases p l[n] <;> simp
theorem runD_find {A α : Type} (p : α → Bool) (l : List α) (d : α) : ∀ (n : Nat) (c : Int), n ≤ l.length → runD (A := A) (fun i s => .inl (if p (l.getD i d) then (i : Int) else s)) n c = .inl (match (l.take n).findIdx? p with
    | some k => (k : Int)
    | none => c)
  | 0, c, h => rfl
  | n + 1, c, h => by
    have hn : n < l.length := by omega
    show runD (A := A) (fun i s => .inl (if p (l.getD i d) then (i : Int) else s)) n (if p (l.getD n d) then (n : Int) else c) = _
    rw [runD_find p l d n _ (by omega), findIdx_snoc p l hn, getD_at hn]
    cases hq : (l.take n).findIdx? p with
    | some k => rfl
    | none => cases p l[n] <;> rfl
theorem runD_all {A α : Type} (ok p : α → Bool) (l : List α) (d : α) (a : A) : ∀ (n : Nat) (c : Int), n ≤ l.length → runD (fun i s => if ok (l.getD i d) then .inl (if p (l.getD i d) then (i : Int) else s) else .inr a) n c = bif (l.take n).all ok then .inl (match (l.take n).findIdx? p with
    | some k => (k : Int)
    | none => c) else .inr a
  | 0, c, h => rfl
  | n + 1, c, h => by
    have hn : n < l.length := by omega
    rw [runD, findIdx_snoc p l hn, getD_at hn, show (l.take (n + 1)).all ok = ((l.take n).all ok && ok l[n]) by rw [List.take_succ_eq_append_getElem hn, List.all_append]; simp]
    cases ho : ok l[n] with
    | false => simp
    | true =>
      simp only [if_true, Bool.and_true]
      rw [runD_all ok p l d a n _ (by omega)]
      cases hq : (l.take n).findIdx? p with
      | some k => rfl
      | none => cases p l[n] <;> rfl
def aftP (e x : DEntry) : Bool := decide (e.1 < x.1) || (e.1 == x.1 && decide (e.2.1 < x.2.1))
def laid (e : DEntry) (l : List DEntry) : List DEntry := match l.findIdx? (aftP e) with
  | some k => l.take k ++ ([e] ++ l.drop k)
  | none => l ++ [e]
def added (l : List DEntry) (e : DEntry) : List DEntry × Bool := match l.findIdx? (atP e.1 e.2.1) with
  | some k => bif apB (l.getD k e).2.2.1 e.2.2.1 then (l.set k (addE (l.getD k e) e), true) else (l, false)
  | none => (laid e l, true)
def RootR (l : List DEntry) (e : DEntry) : Prop := EnR e ∧ ∀ x ∈ l, EnR x
theorem copyEs_eq (l : List DEntry) (hz : zEntryS l ≤ 1048576) : F.impl_copyEntries l = some l := by
  have := copyRow_eq (l, ()) hz
  unfold F.impl_copyRow at this
  cases hc : F.impl_copyEntries l with
  | none => rw [hc] at this; cases this
  | some q =>
    rw [hc] at this
    have h2 : some ((q, ()) : DRow) = some (l, ()) := this
    injection h2 with h3
    injection h3 with h4
    rw [h4]
theorem l14Es_eq (l : List DEntry) (hz : zEntryS l ≤ 1048576) : F.spec_l14Entries l = some l := by
  have hn : l.length ≤ 1048576 := by unfold zEntryS at hz; omega
  unfold F.spec_l14Entries
  have hh := loop_run (step := F.spec_l14Entries.s3) (fun i => (l, l.take i, (i : Int), ())) l.length (fun i hi => by
    unfold F.spec_l14Entries.s3
    simp only
    rw [lt_len hi, inb_nat hi, Int.toNat_natCast, getD_at hi, l6Copy_eq _ (zE_mem hz (List.getElem_mem hi)), w64_nat (by omega)]
    simp only [cond_true, chk_true, Option.bind_some, List.length_cons, List.length_nil, List.length_take]
    rw [fits_of (by omega), take_snoc hi]; rfl) (l := .exit (l, l.take l.length, ((l.length : Nat) : Int), ())) (by
    unfold F.spec_l14Entries.s3
    simp only [ge_len, cond_false]) rfl
  rw [List.take_length] at hh
  exact (congrArg (fun z => afterO z _) hh).trans rfl
theorem find_none {α : Type} {p : α → Bool} {l : List α} : l.findIdx? p = none ↔ ∀ x ∈ l, p x = false := List.findIdx?_eq_none_iff
theorem badFind_eq (l : List DEntry) (hz : zEntryS l ≤ 1048576) : F.slices_ContainsFunc_Entry__impl_RootAdd_1 l () = some (!decB (∀ x ∈ l, EnR x)) := by
  have hn : l.length ≤ 1048576 := by unfold zEntryS at hz; omega
  unfold F.slices_ContainsFunc_Entry__impl_RootAdd_1 F.slices_IndexFunc_Entry__impl_RootAdd_1
  have hh := loop_find (step := F.slices_IndexFunc_Entry__impl_RootAdd_1.s2) l (fun i => (l, (), len l, (i : Int), ())) (fun x => !decB (EnR x)) (fun i => (i : Int)) (fun i hi => by
    unfold F.slices_IndexFunc_Entry__impl_RootAdd_1.s2 F.impl_RootAdd_1
    simp only
    rw [lt_len hi, inb_nat hi, Int.toNat_natCast, getD_at hi, implEn_dec _ (zE_mem hz (List.getElem_mem hi)), w64_nat (by omega)]
    simp only [cond_true, chk_true, Option.bind_some]
    cases decB (EnR l[i]) <;> rfl) (by
    unfold F.slices_IndexFunc_Entry__impl_RootAdd_1.s2
    simp only [ge_len, cond_false])
  have hh : loopO F.slices_IndexFunc_Entry__impl_RootAdd_1.s2 (l, (), len l, 0, ()) = _ := hh
  rw [hh]
  cases hq : l.findIdx? (fun x => !decB (EnR x)) with
  | none =>
    have : ∀ x ∈ l, EnR x := fun x hx => by
      have := find_none.1 hq x hx
      simpa [decB] using this
    rw [decB_pos this]; rfl
  | some k =>
    have : ¬ ∀ x ∈ l, EnR x := fun h => by
      have := (find_none (p := fun x => !decB (EnR x)) (l := l)).2 (fun x hx => by simp only [decB_pos (h x hx)]; rfl)
      rw [hq] at this; cases this
    rw [decB_neg this]
    show some (decide ((k : Int) ≥ 0)) = _
    rw [decide_eq_true (by omega)]; rfl
theorem ahead_eq (a b : DEntry) : F.impl_ahead a b = some (aftP a b) := by
  unfold F.impl_ahead aftP
  cases decide (a.1 < b.1) <;> cases (a.1 == b.1) <;> rfl
theorem aftFind_eq (l : List DEntry) (e : DEntry) (hn : l.length ≤ 1048576) : F.slices_IndexFunc_Entry__impl_RootAdd_2 l (e, ()) = some (match l.findIdx? (aftP e) with
    | some i => (i : Int)
    | none => -1) := by
  unfold F.slices_IndexFunc_Entry__impl_RootAdd_2
  have hh := loop_find (step := F.slices_IndexFunc_Entry__impl_RootAdd_2.s2) l (fun i => (l, (e, ()), len l, (i : Int), ())) (aftP e) (fun i => (i : Int)) (fun i hi => by
    unfold F.slices_IndexFunc_Entry__impl_RootAdd_2.s2 F.impl_RootAdd_2
    simp only
    rw [lt_len hi, inb_nat hi, Int.toNat_natCast, getD_at hi, ahead_eq, w64_nat (by omega)]
    simp only [cond_true, chk_true, Option.bind_some]
    cases aftP e l[i] <;> rfl) (by
    unfold F.slices_IndexFunc_Entry__impl_RootAdd_2.s2
    simp only [ge_len, cond_false])
  have hh : loopO F.slices_IndexFunc_Entry__impl_RootAdd_2.s2 (l, (e, ()), len l, 0, ()) = _ := hh
  simp only
  rw [hh]
  cases l.findIdx? (aftP e) <;> rfl
theorem insert_eq (l : List DEntry) (k : Nat) (e : DEntry) (hk : k ≤ l.length) (hn : l.length ≤ 1048576) : F.slices_Insert_Entry l (k : Int) [e] = some (l.take k ++ ([e] ++ l.drop k)) := by
  unfold F.slices_Insert_Entry
  rw [show decide (0 ≤ (k : Int)) = true from decide_eq_true (by omega), show decide ((k : Int) ≤ (l.length : Int)) = true from decide_eq_true (by omega), show Nat.beq [e].length 1 = true from rfl, fits_of (by omega), Int.toNat_natCast]
  rfl
theorem implRoot_eq (l : List DEntry) (e : DEntry) (h : zEntryS l ≤ 1048576) (h' : zEntry e ≤ 1048576) : F.impl_RootAdd l e = some (bif decB (RootR l e) then added l e else (l, false)) := by
  have hn : l.length ≤ 1048576 := by unfold zEntryS at h; omega
  unfold F.impl_RootAdd
  rw [copyEs_eq l h, implEn_dec e h', badFind_eq l h]
  simp only [Option.bind_some]
  by_cases he : EnR e
  case neg => rw [decB_neg he, decB_neg (show ¬ RootR l e from fun hh => he hh.1)]; rfl
  by_cases hl : ∀ x ∈ l, EnR x
  case neg => rw [decB_pos he, decB_neg hl, decB_neg (show ¬ RootR l e from fun hh => hl hh.2)]; rfl
  rw [decB_pos he, decB_pos hl, decB_pos (show RootR l e from ⟨he, hl⟩), placeOf_eq l _ _ hn, aftFind_eq l e hn, copyEntry_eq e h']
  simp only [Option.bind_some, Bool.not_true, cond_false, cond_true]
  unfold added
  cases hk : l.findIdx? (atP e.1 e.2.1) with
  | some k =>
    obtain ⟨hi, h1, h2⟩ := find_at hk
    have hek := hl _ (List.getElem_mem hi)
    simp only
    rw [show decide (((k : Nat) : Int) ≥ 0) = true from decide_eq_true (by omega), inb_nat hi, Int.toNat_natCast, getD_at hi, getD_at hi, entryAdd_eq hek he h1 h2]
    simp only [cond_true, chk_true, Option.bind_some]
    cases apB l[k].2.2.1 e.2.2.1 <;> rfl
  | none =>
    simp only
    rw [show decide ((-1 : Int) ≥ 0) = false from rfl]
    simp only [cond_false]
    unfold laid
    cases hq : l.findIdx? (aftP e) with
    | none =>
      simp only
      rw [show decide ((-1 : Int) < 0) = true from rfl]
      simp only [cond_true]
      have := insert_eq l l.length e (Nat.le_refl _) hn
      rw [List.take_length, List.drop_length, List.append_nil] at this
      have : F.slices_Insert_Entry l (len l) [e] = some (l ++ [e]) := this
      rw [this]; rfl
    | some k =>
      obtain ⟨hi, _, _⟩ := List.findIdx?_eq_some_iff_getElem.1 hq
      simp only
      rw [show decide (((k : Nat) : Int) < 0) = false from decide_eq_false (by omega), insert_eq l k e (by omega) hn]
      rfl
theorem specRoot_scan (l out : List DEntry) (e : DEntry) (h : zEntryS l ≤ 1048576) : loopO F.spec_RootAdd.s6 (l, out, -1, w64 ((len l) - 1), e, ()) = some (bif decB (∀ x ∈ l, EnR x) then .inl (l, out, (match l.findIdx? (atP e.1 e.2.1) with
    | some k => (k : Int)
    | none => -1), -1, e, ()) else .inr (out, false)) := by
  have hn : l.length ≤ 1048576 := by unfold zEntryS at h; omega
  rw [show w64 (len l - 1) = (l.length : Int) - 1 from w64_id (by simp only [len]; omega) (by simp only [len]; omega)]
  have hh := loop_down (step := F.spec_RootAdd.s6) (fun i s => (l, out, s, i, e, ())) (fun i s => if decB (EnR (l.getD i (0, 0, [], (0, 0, 0, 0, [], [], [], ()), ()))) then .inl (if atP e.1 e.2.1 (l.getD i (0, 0, [], (0, 0, 0, 0, [], [], [], ()), ())) then (i : Int) else s) else .inr (out, false)) l.length (fun i s hi => by
    unfold F.spec_RootAdd.s6
    simp only
    rw [show decide ((i : Int) ≥ 0) = true from decide_eq_true (by omega), inb_nat hi, Int.toNat_natCast, getD_at hi, specEn_dec _ (zE_mem h (List.getElem_mem hi)), show w64 ((i : Int) - 1) = (i : Int) - 1 from w64_id (by omega) (by omega)]
    simp only [cond_true, chk_true, Option.bind_some]
    unfold atP
    cases decB (EnR l[i]) with
    | false => rfl
    | true => cases (l[i].1 == e.1) <;> cases (l[i].2.1 == e.2.1) <;> rfl) (fun s => by
    unfold F.spec_RootAdd.s6
    rfl) (-1)
  rw [hh, runD_all (fun x => decB (EnR x)) (atP e.1 e.2.1) l (0, 0, [], (0, 0, 0, 0, [], [], [], ()), ()) (out, false) l.length (-1) (Nat.le_refl _), List.take_length]
  have : l.all (fun x => decB (EnR x)) = decB (∀ x ∈ l, EnR x) := by
    by_cases hl : ∀ x ∈ l, EnR x
    · rw [decB_pos hl, List.all_eq_true]; exact fun x hx => decB_pos (hl x hx)
    · rw [decB_neg hl, Bool.eq_false_iff]
      intro hc
      exact hl fun x hx => decB_iff.1 (List.all_eq_true.1 hc x hx)
  rw [this]
  cases decB (∀ x ∈ l, EnR x) <;> rfl
theorem aft_def (e x : DEntry) : aftP e x = (decide (x.1 > e.1) || (x.1 == e.1 && decide (x.2.1 > e.2.1))) := by
  unfold aftP
  rw [show (e.1 == x.1) = (x.1 == e.1) from Bool.eq_iff_iff.2 (by rw [beq_iff_eq, beq_iff_eq]; exact eq_comm)]
theorem specRoot_place (l out : List DEntry) (e : DEntry) (hn : l.length ≤ 1048576) : loopO F.spec_RootAdd.s20 (l, out, len l, w64 ((len l) - 1), e, ()) = some (.inl (l, out, (match l.findIdx? (aftP e) with
    | some k => (k : Int)
    | none => len l), -1, e, ())) := by
  rw [show w64 (len l - 1) = (l.length : Int) - 1 from w64_id (by simp only [len]; omega) (by simp only [len]; omega)]
  have hh := loop_down (step := F.spec_RootAdd.s20) (fun i s => (l, out, s, i, e, ())) (fun i s => .inl (if aftP e (l.getD i (0, 0, [], (0, 0, 0, 0, [], [], [], ()), ())) then (i : Int) else s)) l.length (fun i s hi => by
    unfold F.spec_RootAdd.s20
    simp only
    rw [show decide ((i : Int) ≥ 0) = true from decide_eq_true (by omega), inb_nat hi, Int.toNat_natCast, getD_at hi, aft_def, show w64 ((i : Int) - 1) = (i : Int) - 1 from w64_id (by omega) (by omega)]
    simp only [cond_true, chk_true]
    cases decide (l[i].1 > e.1) <;> cases (l[i].1 == e.1) <;> cases decide (l[i].2.1 > e.2.1) <;> rfl) (fun s => by
    unfold F.spec_RootAdd.s20
    rfl) (len l)
  rw [hh, runD_find (aftP e) l (0, 0, [], (0, 0, 0, 0, [], [], [], ()), ()) l.length (len l) (Nat.le_refl _), List.take_length]
  rfl
theorem specRoot_eq (l : List DEntry) (e : DEntry) (h : zEntryS l ≤ 1048576) (h' : zEntry e ≤ 1048576) : F.spec_RootAdd l e = some (bif decB (RootR l e) then added l e else (l, false)) := by
  have hn : l.length ≤ 1048576 := by unfold zEntryS at h; omega
  unfold F.spec_RootAdd
  rw [l14Es_eq l h, specEn_dec e h']
  simp only [Option.bind_some]
  by_cases he : EnR e
  case neg => rw [decB_neg he, decB_neg (show ¬ RootR l e from fun hh => he hh.1)]; rfl
  rw [decB_pos he, specRoot_scan l l e h]
  by_cases hl : ∀ x ∈ l, EnR x
  case neg => rw [decB_neg hl, decB_neg (show ¬ RootR l e from fun hh => hl hh.2)]; rfl
  rw [decB_pos hl, decB_pos (show RootR l e from ⟨he, hl⟩)]
  simp only [Bool.not_true, cond_false, cond_true, afterO]
  unfold added
  cases hk : l.findIdx? (atP e.1 e.2.1) with
  | some k =>
    obtain ⟨hi, h1, h2⟩ := find_at hk
    have hek := hl _ (List.getElem_mem hi)
    have za := zEnR hek
    have ze := zEnR he
    have la : l[k].2.2.1.length ≤ 5001 := okF_small (good_ok.1 hek.ids)
    have lb : e.2.2.1.length ≤ 5001 := okF_small (good_ok.1 he.ids)
    have hadd : F.spec_EntryAdd l[k] e = some (bif apB l[k].2.2.1 e.2.2.1 then (addE l[k] e, true) else ((0, 0, [], (0, 0, 0, 0, [], [], [], ()), ()), false)) := by
      unfold F.spec_EntryAdd
      rw [specEn_dec _ (by omega), specEn_dec _ h', decB_pos hek, decB_pos he, show (l[k].1 != e.1) = false by simp [h1], show (l[k].2.1 != e.2.1) = false by simp [h2], specApart_eq _ _ (by omega) (by omega), decB_pos hek.ids, decB_pos he.ids, l6Add_eq hek he]
      simp only [Option.bind_some, Bool.not_true, cond_false, Bool.true_and]
      cases apB l[k].2.2.1 e.2.2.1 <;> rfl
    simp only
    rw [show decide (((k : Nat) : Int) ≥ 0) = true from decide_eq_true (by omega), inb_nat hi, Int.toNat_natCast, getD_at hi, getD_at hi, hadd]
    simp only [cond_true, chk_true, Option.bind_some]
    cases apB l[k].2.2.1 e.2.2.1 <;> rfl
  | none =>
    simp only
    rw [show decide ((-1 : Int) ≥ 0) = false from rfl, specRoot_place l l e hn]
    simp only [cond_false, l6Copy_eq e h', Option.bind_some]
    have tail : ∀ k : Nat, k ≤ l.length → (chk (cutOk 0 (k : Int) l.length) <|
        chk (fits (List.length ([] : List DEntry) + List.length (List.take ((Int.toNat (k : Int)) - 0) (List.drop 0 l))) 144) <|
        chk (fits (List.length (([] : List DEntry) ++ (List.take ((Int.toNat (k : Int)) - 0) (List.drop 0 l))) + List.length ([e])) 144) <|
        chk (cutOk (k : Int) (len l) l.length) <|
        chk (fits (List.length ((([] : List DEntry) ++ (List.take ((Int.toNat (k : Int)) - 0) (List.drop 0 l))) ++ ([e])) + List.length (List.take ((Int.toNat (len l)) - (Int.toNat (k : Int))) (List.drop (Int.toNat (k : Int)) l))) 144) <|
        some (((([] : List DEntry) ++ (List.take ((Int.toNat (k : Int)) - 0) (List.drop 0 l))) ++ ([e])) ++ (List.take ((Int.toNat (len l)) - (Int.toNat (k : Int))) (List.drop (Int.toNat (k : Int)) l)), true)) = some (l.take k ++ ([e] ++ l.drop k), true) := by
      intro k hk
      have hd : List.take (l.length - k) (List.drop k l) = List.drop k l := List.take_of_length_le (by rw [List.length_drop]; omega)
      have hc1 : cutOk 0 (k : Int) l.length = true := by
        unfold cutOk
        rw [decide_eq_true (by omega), decide_eq_true (by omega), decide_eq_true (by omega)]; rfl
      have hc2 : cutOk (k : Int) (len l) l.length = true := by
        unfold cutOk
        rw [decide_eq_true (by omega), decide_eq_true (by simp only [len]; omega), decide_eq_true (by simp only [len]; omega)]; rfl
      simp only [len, Int.toNat_natCast, Nat.sub_zero, List.drop_zero, List.nil_append, hd, hc1, hc2, List.length_nil, List.length_append, List.length_take, List.length_drop, List.length_cons, chk_true, List.append_assoc] at *
      rw [fits_of (by omega), fits_of (by omega), fits_of (by omega)]
      rfl
    unfold laid
    cases hq : l.findIdx? (aftP e) with
    | none =>
      have := tail l.length (Nat.le_refl _)
      rw [List.take_length, List.drop_length, List.append_nil] at this
      exact this
    | some k =>
      obtain ⟨hi, _, _⟩ := List.findIdx?_eq_some_iff_getElem.1 hq
      exact tail k (by omega)
theorem laid_mem {e : DEntry} {l : List DEntry} {x : DEntry} : x ∈ laid e l ↔ x ∈ l ∨ x = e := by
  unfold laid
  cases l.findIdx? (aftP e) with
  | none => simp
  | some k =>
    have h := List.mem_append (a := x) (s := l.take k) (t := l.drop k)
    rw [List.take_append_drop] at h
    simp only [List.mem_append, List.mem_singleton, h]
    constructor
    · rintro (h | h | h)
      · exact .inl (.inl h)
      · exact .inr h
      · exact .inl (.inr h)
    · rintro ((h | h) | h)
      · exact .inl h
      · exact .inr (.inr h)
      · exact .inr (.inl h)
theorem laid_len (e : DEntry) (l : List DEntry) : (laid e l).length = l.length + 1 := by
  unfold laid
  cases hq : l.findIdx? (aftP e) with
  | none => simp
  | some k =>
    obtain ⟨hi, _, _⟩ := List.findIdx?_eq_some_iff_getElem.1 hq
    simp only [List.length_append, List.length_take, List.length_drop, List.length_cons, List.length_nil]
    omega
theorem added_ok {l : List DEntry} {e : DEntry} (h : RootR l e) : (∀ x ∈ (added l e).1, EnR x) ∧ (added l e).1.length ≤ l.length + 1 ∧ l.length ≤ (added l e).1.length := by
  unfold added
  cases hk : l.findIdx? (atP e.1 e.2.1) with
  | none =>
    refine ⟨fun x hx => ?_, by show (laid e l).length ≤ _; rw [laid_len]; exact Nat.le_refl _, by show _ ≤ (laid e l).length; rw [laid_len]; omega⟩
    rcases laid_mem.1 hx with hx | rfl
    · exact h.2 x hx
    · exact h.1
  | some k =>
    obtain ⟨hi, _, _⟩ := find_at hk
    simp only
    cases apB (l.getD k e).2.2.1 e.2.2.1 with
    | false => exact ⟨h.2, by simp only [cond_false]; omega, Nat.le_refl _⟩
    | true =>
      refine ⟨fun x hx => ?_, by simp only [cond_true, List.length_set]; omega, by simp only [cond_true, List.length_set]; omega⟩
      rcases List.mem_or_eq_of_mem_set hx with hx | rfl
      · exact h.2 x hx
      · rw [getD_at hi]; exact addE_ok (h.2 _ (List.getElem_mem hi)) h.1
def plc (e : DEntry) : Int := e.1 * 21 + e.2.1
def ins (e : DEntry) : List DEntry → List DEntry
  | [] => [e]
  | x :: l => if plc x = plc e then addE x e :: l else if plc x < plc e then x :: ins e l else e :: x :: l
def totO : List DEntry → Option DEntry
  | [] => none
  | e :: l => some (l.foldl addE e)
def ofP (p : Int) (l : List DEntry) : List DEntry := l.filter fun e => decide (plc e = p)
def smL (ps : List Int) (l : List DEntry) : List DEntry := ps.filterMap fun p => totO (ofP p l)
theorem fold_plc : ∀ (l : List DEntry) (e : DEntry), plc (l.foldl addE e) = plc e
  | [], e => rfl
  | x :: l, e => by rw [List.foldl_cons, fold_plc l]; rfl
theorem totO_plc {p : Int} {l : List DEntry} {t : DEntry} (h : totO (ofP p l) = some t) : plc t = p := by
  cases hl : ofP p l with
  | nil => rw [hl] at h; cases h
  | cons e r =>
    rw [hl] at h
    cases h
    rw [fold_plc]
    have : e ∈ ofP p l := by rw [hl]; simp
    exact of_decide_eq_true (List.mem_filter.1 this).2
theorem ofP_snoc (p : Int) (l : List DEntry) (e : DEntry) : ofP p (l ++ [e]) = ofP p l ++ (if plc e = p then [e] else []) := by
  unfold ofP
  rw [List.filter_append]
  by_cases h : plc e = p
  · simp [h]
  · simp [h]
theorem totO_snoc {l : List DEntry} {e : DEntry} : totO (l ++ [e]) = some (match totO l with
    | none => e
    | some t => addE t e) := by
  cases l with
  | nil => rfl
  | cons x l => simp only [List.cons_append, totO, List.foldl_append, List.foldl_cons, List.foldl_nil]
theorem smL_plc {ps : List Int} {l : List DEntry} {t : DEntry} (h : t ∈ smL ps l) : plc t ∈ ps := by
  obtain ⟨p, hp, ht⟩ := List.mem_filterMap.1 h
  rw [totO_plc ht]; exact hp
theorem smL_none : ∀ {ps : List Int} {l : List DEntry} {e : DEntry}, plc e ∉ ps → smL ps (l ++ [e]) = smL ps l
  | [], l, e, _ => rfl
  | p :: ps, l, e, h => by
    have hne : plc e ≠ p := fun h1 => h (by rw [h1]; simp)
    have ih := smL_none (ps := ps) (l := l) (e := e) (fun h1 => h (by simp [h1]))
    unfold smL at ih ⊢
    rw [List.filterMap_cons, List.filterMap_cons, ofP_snoc, if_neg hne, List.append_nil, ih]
theorem ins_front {e : DEntry} : ∀ {l : List DEntry}, (∀ x ∈ l, plc e < plc x) → ins e l = e :: l
  | [], _ => rfl
  | x :: l, h => by
    have := h x (by simp)
    unfold ins
    rw [if_neg (by omega), if_neg (by omega)]
theorem smL_ins : ∀ {ps : List Int} (l : List DEntry) (e : DEntry), ps.Pairwise (· < ·) → plc e ∈ ps → smL ps (l ++ [e]) = ins e (smL ps l)
  | [], l, e, _, h => by cases h
  | p :: ps, l, e, hp, h => by
    obtain ⟨h1, h2⟩ := List.pairwise_cons.1 hp
    have cons : ∀ m, smL (p :: ps) m = (match totO (ofP p m) with
        | none => smL ps m
        | some t => t :: smL ps m) := fun m => by
      unfold smL
      rw [List.filterMap_cons]
      cases totO (ofP p m) <;> rfl
    rw [cons, cons, ofP_snoc]
    by_cases hq : plc e = p
    · have hn : plc e ∉ ps := fun h3 => by have := h1 _ h3; omega
      rw [if_pos hq, totO_snoc, smL_none hn]
      cases ht : totO (ofP p l) with
      | none =>
        simp only
        rw [ins_front]
        intro x hx
        have := h1 _ (smL_plc hx)
        omega
      | some t =>
        simp only
        unfold ins
        rw [if_pos (by rw [totO_plc ht, hq])]
    · have hin : plc e ∈ ps := (List.mem_cons.1 h).resolve_left hq
      have hlt := h1 _ hin
      rw [if_neg hq, List.append_nil, smL_ins l e h2 hin]
      cases ht : totO (ofP p l) with
      | none => rfl
      | some t =>
        simp only
        have := totO_plc ht
        conv => rhs; unfold ins
        rw [if_neg (by omega), if_pos (by omega)]
def places : List Int := (List.range 105).map fun n => ((n : Nat) : Int)
theorem places_up : places.Pairwise (· < ·) := by
  unfold places
  rw [List.pairwise_map]
  exact List.Pairwise.imp (fun h => by omega) List.pairwise_lt_range
theorem place_in {e : DEntry} (h : EnR e) : plc e ∈ places := by
  have h1 := h.key; have h2 := h.win
  refine List.mem_map.2 ⟨(plc e).toNat, List.mem_range.2 ?_, ?_⟩
  · unfold plc; omega
  · unfold plc; omega
theorem smL_nil : smL places [] = [] := by
  unfold smL
  rw [List.filterMap_eq_nil_iff]
  intro p _; rfl
theorem fold_ok : ∀ (l : List DEntry) (e : DEntry), EnR e → (∀ x ∈ l, EnR x) → EnR (l.foldl addE e)
  | [], e, h, _ => h
  | x :: l, e, h, hl => fold_ok l (addE e x) (addE_ok h (hl x (by simp))) (fun y hy => hl y (by simp [hy]))
theorem smL_ok {ps : List Int} {l : List DEntry} (h : ∀ x ∈ l, EnR x) : ∀ x ∈ smL ps l, EnR x := by
  intro x hx
  obtain ⟨p, _, ht⟩ := List.mem_filterMap.1 hx
  have hs : ∀ y ∈ ofP p l, EnR y := fun y hy => h y (List.mem_filter.1 hy).1
  cases hl : ofP p l with
  | nil => rw [hl] at ht; cases ht
  | cons e r =>
    rw [hl] at ht hs
    cases ht
    exact fold_ok r e (hs e (by simp)) (fun y hy => hs y (by simp [hy]))
def upP (l : List DEntry) : Prop := l.Pairwise fun x y => plc x < plc y
theorem smL_up : ∀ {ps : List Int} {l : List DEntry}, ps.Pairwise (· < ·) → upP (smL ps l)
  | [], l, _ => List.Pairwise.nil
  | p :: ps, l, h => by
    obtain ⟨h1, h2⟩ := List.pairwise_cons.1 h
    unfold upP smL
    rw [List.filterMap_cons]
    cases ht : totO (ofP p l) with
    | none => exact smL_up h2
    | some t =>
      refine List.Pairwise.cons (fun x hx => ?_) (smL_up h2)
      have := h1 _ (smL_plc hx)
      rw [totO_plc ht]; exact this
theorem smL_len (ps : List Int) (l : List DEntry) : (smL ps l).length ≤ ps.length := List.length_filterMap_le _ _
theorem iter_again {X A : Type} {step : X → Option (Lp X A)} (st : Nat → X) (m : Nat) : ∀ n, (∀ k, k < n → step (st k) = some (.again (st (k + 1)))) → iterO step (n + m) (st 0) = iterO step m (st n) := by
  intro n
  induction n generalizing m with
  | zero => intro _; rw [Nat.zero_add]
  | succ n ih =>
    intro h
    rw [show n + 1 + m = n + (m + 1) by omega, ih (m + 1) (fun k hk => h k (by omega)), iterO, h n (by omega)]
theorem plc_cmp {x e : DEntry} (hx : EnR x) (he : EnR e) : (plc x = plc e ↔ x.1 = e.1 ∧ x.2.1 = e.2.1) ∧ (plc x > plc e ↔ x.1 > e.1 ∨ (x.1 = e.1 ∧ x.2.1 > e.2.1)) := by
  have a := hx.key; have b := hx.win; have c := he.key; have d := he.win
  unfold plc
  omega
theorem into_step (S : List DEntry) (at_ : Int) (i : Nat) (e : DEntry) (hi : i < S.length) (hl : S.length ≤ 1048576) (hx : EnR S[i]) (he : EnR e) :
    F.spec_l10Into.s3 (S, at_, (i : Int), e, ()) = some (if plc S[i] = plc e then .ret (S.set i (addE S[i] e)) else if plc S[i] > plc e then .again (S, (i : Int), (i : Int) - 1, e, ()) else .again (S, at_, (i : Int) - 1, e, ())) := by
  obtain ⟨c1, c2⟩ := plc_cmp hx he
  unfold F.spec_l10Into.s3
  simp only
  rw [show decide ((i : Int) ≥ 0) = true from decide_eq_true (by omega), inb_nat hi, Int.toNat_natCast, getD_at hi, l6Add_eq hx he, w64_id (x := (i : Int) - 1) (by omega) (by omega)]
  simp only [cond_true, chk_true, Option.bind_some]
  by_cases h1 : S[i].1 = e.1
  · rw [show (S[i].1 == e.1) = true by simp [h1], show decide (S[i].1 > e.1) = false from decide_eq_false (by omega)]
    by_cases h2 : S[i].2.1 = e.2.1
    · rw [show (S[i].2.1 == e.2.1) = true by simp [h2], if_pos (c1.2 ⟨h1, h2⟩)]; rfl
    · rw [show (S[i].2.1 == e.2.1) = false by simp [h2], if_neg (fun h => h2 (c1.1 h).2)]
      by_cases h3 : S[i].2.1 > e.2.1
      · rw [decide_eq_true h3, if_pos (c2.2 (.inr ⟨h1, h3⟩))]; rfl
      · rw [decide_eq_false h3, if_neg (fun h => by rcases c2.1 h with h | h <;> omega)]; rfl
  · rw [show (S[i].1 == e.1) = false by simp [h1], if_neg (fun h => h1 (c1.1 h).1)]
    by_cases h3 : S[i].1 > e.1
    · rw [decide_eq_true h3, if_pos (c2.2 (.inl h3))]; rfl
    · rw [decide_eq_false h3, if_neg (fun h => by rcases c2.1 h with h | h <;> omega)]; rfl
theorem into_eq (S : List DEntry) (e : DEntry) (hl : S.length ≤ 200) (hS : ∀ x ∈ S, EnR x) (he : EnR e) (hu : upP S) : F.spec_l10Into S e = some (ins e S) := by
  -- parted at the entry's place
  have part : ∀ T : List DEntry, upP T → ∃ L R, T = L ++ R ∧ (∀ x ∈ L, plc x < plc e) ∧ ((∃ x R', R = x :: R' ∧ plc x = plc e ∧ (∀ y ∈ R', plc e < plc y) ∧ ins e T = L ++ addE x e :: R') ∨ ((∀ y ∈ R, plc e < plc y) ∧ ins e T = L ++ e :: R)) := by
    intro T
    induction T with
    | nil => intro _; exact ⟨[], [], rfl, (fun x hx => by cases hx), .inr ⟨(fun x hx => by cases hx), rfl⟩⟩
    | cons x T ih =>
      intro h
      obtain ⟨h1, h2⟩ := List.pairwise_cons.1 h
      by_cases a1 : plc x = plc e
      · refine ⟨[], x :: T, rfl, (fun x hx => by cases hx), .inl ⟨x, T, rfl, a1, fun y hy => by have := h1 y hy; omega, ?_⟩⟩
        unfold ins
        rw [if_pos a1]; rfl
      · by_cases a2 : plc x < plc e
        · obtain ⟨L, R, e1, e2, e3⟩ := ih h2
          refine ⟨x :: L, R, by rw [e1]; rfl, fun y hy => ?_, ?_⟩
          · rcases List.mem_cons.1 hy with rfl | hy
            · exact a2
            · exact e2 y hy
          · have hi : ins e (x :: T) = x :: ins e T := by
              conv => lhs; unfold ins
              rw [if_neg a1, if_pos a2]
            rcases e3 with ⟨y, R', f1, f2, f3, f4⟩ | ⟨f1, f2⟩
            · exact .inl ⟨y, R', f1, f2, f3, by rw [hi, f4]; rfl⟩
            · exact .inr ⟨f1, by rw [hi, f2]; rfl⟩
        · refine ⟨[], x :: T, rfl, (fun x hx => by cases hx), .inr ⟨fun y hy => ?_, ?_⟩⟩
          · rcases List.mem_cons.1 hy with rfl | hy
            · omega
            · have := h1 y hy; omega
          · unfold ins
            rw [if_neg a1, if_neg a2]; rfl
  obtain ⟨L, R, e1, e2, e3⟩ := part S hu
  -- those behind are passed
  have pass : ∀ (A Q : List DEntry) (m : Nat), S = A ++ Q → (∀ y ∈ Q, plc e < plc y) → iterO F.spec_l10Into.s3 (Q.length + m) (S, len S, len S - 1, e, ()) = iterO F.spec_l10Into.s3 m (S, (A.length : Int), (A.length : Int) - 1, e, ()) := by
    intro A Q m hs hq
    have hsl : S.length = A.length + Q.length := by rw [hs, List.length_append]
    have := iter_again (step := F.spec_l10Into.s3) (fun k => (S, (S.length : Int) - (k : Int), (S.length : Int) - (k : Int) - 1, e, ())) m Q.length (fun k hk => by
      have hi : S.length - k - 1 < S.length := by omega
      have hq2 : plc e < plc S[S.length - k - 1] := by
        refine hq _ ?_
        have : S[S.length - k - 1]'hi = (A ++ Q)[S.length - k - 1]'(by rw [← hs]; exact hi) := by congr 1
        rw [this, List.getElem_append_right (by omega)]
        exact List.getElem_mem _
      have hst := into_step S ((S.length : Int) - (k : Int)) (S.length - k - 1) e hi (by omega) (hS _ (List.getElem_mem hi)) he
      rw [if_neg (by omega), if_pos (by omega)] at hst
      have i1 : ((S.length - k - 1 : Nat) : Int) = (S.length : Int) - (k : Int) - 1 := by omega
      rw [i1] at hst
      rw [hst]
      have i2 : (S.length : Int) - ((k + 1 : Nat) : Int) = (S.length : Int) - (k : Int) - 1 := by omega
      rw [i2])
    have e0 : (S.length : Int) - ((0 : Nat) : Int) = len S := by simp [len]
    rw [e0] at this
    have ea : (S.length : Int) - (Q.length : Int) = (A.length : Int) := by omega
    rw [ea] at this
    exact this
  have hw : w64 (len S - 1) = len S - 1 := w64_id (by simp only [len]; omega) (by simp only [len]; omega)
  unfold F.spec_l10Into
  rw [hw]
  rcases e3 with ⟨x, R', f1, f2, f3, f4⟩ | ⟨f1, f2⟩
  · have hs : S = (L ++ [x]) ++ R' := by rw [e1, f1]; simp
    have hi : L.length < S.length := by rw [hs]; simp
    have hx : S[L.length] = x := by
      have : S[L.length]'hi = ((L ++ [x]) ++ R')[L.length]'(by rw [← hs]; exact hi) := by congr 1
      rw [this, List.getElem_append_left (by simp), List.getElem_append_right (Nat.le_refl _)]
      simp
    have p := pass (L ++ [x]) R' 1 hs f3
    have hst := into_step S ((L ++ [x]).length : Int) L.length e hi (by omega) (hS _ (List.getElem_mem hi)) he
    rw [hx, if_pos f2] at hst
    have hlen : (((L ++ [x]).length : Nat) : Int) - 1 = (L.length : Int) := by rw [List.length_append]; simp only [List.length_cons, List.length_nil]; omega
    rw [hlen] at p
    have p2 : iterO F.spec_l10Into.s3 1 (S, ((L ++ [x]).length : Int), (L.length : Int), e, ()) = some (.inr (S.set L.length (addE x e))) := by rw [iterO, hst]
    rw [p2] at p
    rw [show loopO F.spec_l10Into.s3 (S, len S, len S - 1, e, ()) = _ from loopO_of p]
    have hset : S.set L.length (addE x e) = ins e S := by
      rw [f4, hs, List.append_assoc, List.set_append_right _ _ (Nat.le_refl _), Nat.sub_self]; rfl
    rw [hset]; rfl
  · have p := pass L R (L.length + 1) e1 f1
    have hsl : S.length = L.length + R.length := by rw [e1, List.length_append]
    have q := iter_again (step := F.spec_l10Into.s3) (fun k => (S, (L.length : Int), (L.length : Int) - 1 - (k : Int), e, ())) 1 L.length (fun k hk => by
      have hi : L.length - 1 - k < S.length := by omega
      have hq2 : plc S[L.length - 1 - k] < plc e := by
        refine e2 _ ?_
        have : S[L.length - 1 - k]'hi = (L ++ R)[L.length - 1 - k]'(by rw [← e1]; exact hi) := by congr 1
        rw [this, List.getElem_append_left (by omega)]
        exact List.getElem_mem _
      have hst := into_step S (L.length : Int) (L.length - 1 - k) e hi (by omega) (hS _ (List.getElem_mem hi)) he
      rw [if_neg (by omega), if_neg (by omega)] at hst
      have i1 : ((L.length - 1 - k : Nat) : Int) = (L.length : Int) - 1 - (k : Int) := by omega
      rw [i1] at hst
      rw [hst]
      have i2 : (L.length : Int) - 1 - ((k + 1 : Nat) : Int) = (L.length : Int) - 1 - (k : Int) - 1 := by omega
      rw [i2])
    have e0 : (L.length : Int) - 1 - ((0 : Nat) : Int) = (L.length : Int) - 1 := by omega
    rw [e0] at q
    rw [q] at p
    have hend : F.spec_l10Into.s3 (S, (L.length : Int), (L.length : Int) - 1 - (L.length : Int), e, ()) = some (.exit (S, (L.length : Int), (L.length : Int) - 1 - (L.length : Int), e, ())) := by
      unfold F.spec_l10Into.s3
      simp only
      rw [show decide ((L.length : Int) - 1 - (L.length : Int) ≥ 0) = false from decide_eq_false (by omega)]; rfl
    have p2 : iterO F.spec_l10Into.s3 1 (S, (L.length : Int), (L.length : Int) - 1 - (L.length : Int), e, ()) = some (.inl (S, (L.length : Int), (L.length : Int) - 1 - (L.length : Int), e, ())) := by rw [iterO, hend]
    rw [p2] at p
    rw [show loopO F.spec_l10Into.s3 (S, len S, len S - 1, e, ()) = _ from loopO_of p]
    have hz := zEnR he
    simp only [afterO, Int.toNat_natCast, Nat.sub_zero, List.drop_zero, List.nil_append, List.length_nil, Nat.zero_add]
    have t1 : S.take L.length = L := by rw [e1, List.take_left]
    have t2 : List.take (S.length - L.length) (S.drop L.length) = R := by
      rw [e1, List.drop_left]
      refine List.take_of_length_le ?_
      rw [List.length_append]; omega
    rw [t1, t2, l6Copy_eq e (by omega)]
    rw [show cutOk 0 (L.length : Int) S.length = true by simp [cutOk]; omega, show cutOk (L.length : Int) (len S) S.length = true by simp [cutOk, len]; omega, fits_of (by omega)]
    simp only [chk_true, Option.bind_some, List.length_append, List.length_cons, List.length_nil]
    rw [fits_of (by omega), fits_of (by omega), f2]
    simp [chk_true]
theorem specSum_eq (r : DRow) (h : zRow r ≤ 1048576) (hr : RoR r) : F.spec_RowSum r = some (smL places r.1) := by
  unfold F.spec_RowSum
  rw [specRow_dec r h, decB_pos hr]
  simp only [Option.bind_some, Bool.not_true, cond_false]
  have hall := hr.ok.all
  have key : ∀ i, i ≤ r.1.length → ∀ x ∈ r.1.take i, EnR x := fun i _ x hx => hall x (List.mem_of_mem_take hx)
  have hh := loop_run (step := F.spec_RowSum.s5) (fun i => (smL places (r.1.take i), (i : Int), r, ())) r.1.length (fun i hi => by
    have hlen := smL_len places (r.1.take i)
    have hpl : places.length = 105 := by unfold places; simp
    have hx := hall _ (List.getElem_mem hi)
    have hf := hr.few
    unfold F.spec_RowSum.s5
    simp only
    rw [lt_len hi, inb_nat hi, Int.toNat_natCast, getD_at hi, into_eq _ _ (by omega) (smL_ok (key i (by omega))) hx (smL_up places_up), w64_nat (by omega)]
    simp only [cond_true, chk_true, Option.bind_some]
    rw [← smL_ins _ _ places_up (place_in hx), take_snoc hi]) (l := .exit (smL places (r.1.take r.1.length), ((r.1.length : Nat) : Int), r, ())) (by
    unfold F.spec_RowSum.s5
    simp only [ge_len, cond_false]) rfl
  rw [List.take_length] at hh
  have hh : loopO F.spec_RowSum.s5 (smL places [], 0, r, ()) = _ := hh
  rw [smL_nil] at hh
  exact (congrArg (fun z => afterO z _) hh).trans rfl
def pls (n : Nat) : List Int := (List.range n).map fun n => ((n : Nat) : Int)
theorem mn3 (a b : Int) : mnI a b ≤ a ∧ mnI a b ≤ b ∧ (mnI a b = a ∨ mnI a b = b) := by
  unfold mnI
  split <;> omega
def blk (S : List Sp) (b : Int) (n : Nat) : Nat := (List.range n).countP fun (k : Nat) => hasB S (b + (k : Int))
def ofS (S : List Sp) (a : Int) : Int := (S.map fun x => mxI (mnI x.2.1 (100 * a + 60) - mxI x.1 (100 * a + 1) + 1) 0).sum
def szS (S : List Sp) : Int := (S.map fun x => x.2.1 - x.1 + 1).sum
def Rng (S : List Sp) (lo hi : Int) : Prop := ∀ x ∈ S, lo ≤ x.1 ∧ x.2.1 ≤ hi
theorem adI_def (a b : Int) : adI a b = if a + b ≤ 1000000000 then a + b else 1000000000 := by
  unfold adI
  have h1 := mn3 (a + b) 1000000000
  split <;> omega
theorem apB_mem {a b : List Sp} (ha : Good a) (hb : Good b) : apB a b = true ↔ ∀ n, memS a n → ¬ memS b n := apB_iff (good_le ha) (good_le hb)
theorem and_small (x : Int) (m : Nat) (hm : m < 9223372036854775808) : 0 ≤ ibits .and .i64 x (m : Int) ∧ ibits .and .i64 x (m : Int) ≤ (m : Int) := by
  have h : ((BitVec.ofInt IntKind.i64.bits x) &&& (BitVec.ofInt IntKind.i64.bits (m : Int))).toNat ≤ m := by
    rw [BitVec.toNat_and]
    refine Nat.le_trans Nat.and_le_right ?_
    have : (BitVec.ofInt IntKind.i64.bits (m : Int)).toNat = m % 2 ^ 64 := by simp [IntKind.bits]
    rw [this]
    exact Nat.mod_le _ _
  unfold ibits
  simp only
  generalize ((BitVec.ofInt IntKind.i64.bits x) &&& (BitVec.ofInt IntKind.i64.bits (m : Int))).toNat = k at h
  have hw : IntKind.wrap .i64 (k : Int) = (k : Int) := w64_id (by omega) (by omega)
  rw [hw]
  omega
def srcOk (s : List Int × Int × Int × Unit) : Prop := s.1.length ≤ 1048576 ∧ 0 ≤ s.2.1 ∧ s.2.1 ≤ 9000000000000000000
theorem l1New_ok (a : List Int) (h : a.length ≤ 1048576) : ∃ s, F.spec_l1New a = some s ∧ srcOk s := by
  unfold F.spec_l1New
  obtain ⟨y, h1, h2⟩ := loopO_rule (step := F.spec_l1New.s3) (fun x => x.1 = a ∧ 0 ≤ x.2.2.1 ∧ x.2.2.1 ≤ a.length) (fun y => ∃ b c, y = .inl (a, b, c, ()))
    (fun x => a.length - x.2.2.1.toNat) (fun x hx => by
      obtain ⟨x1, x2, x3, u⟩ := x
      obtain ⟨rfl, g1, g2⟩ := hx
      simp only at g1 g2
      have h : x1.length ≤ 1048576 := h
      unfold F.spec_l1New.s3
      simp only
      by_cases hlt : x3 < (x1.length : Int)
      · rw [show decide (x3 < len x1) = true from decide_eq_true hlt]
        cases h4 : decide (x3 < 4000) with
        | false => exact ⟨.exit (x1, x2, x3, ()), rfl, _, _, rfl⟩
        | true =>
          rw [inb_of g1 hlt]
          refine ⟨_, rfl, ⟨rfl, ?_, ?_⟩, ?_⟩
          all_goals simp only
          all_goals rw [w64_id (by omega) (by omega)]
          · omega
          · omega
          · omega
      · refine ⟨.exit (x1, x2, x3, ()), ?_, _, _, rfl⟩
        rw [show decide (x3 < len x1) = false from decide_eq_false hlt]; rfl) (x := (a, w64 (26583 + len a), 0, ())) ⟨rfl, Int.le_refl 0, by simp⟩
  obtain ⟨b, c, rfl⟩ := h2
  rw [h1]
  exact ⟨_, rfl, h, Int.le_refl 0, by show (0 : Int) ≤ 9000000000000000000; omega⟩
theorem l1Byte_ok (s : List Int × Int × Int × Unit) (hs : srcOk s) : ∃ v s', F.spec_l1Byte s = some (v, s') ∧ 0 ≤ v ∧ v ≤ 255 ∧ srcOk s' := by
  obtain ⟨a, p, q, u⟩ := s
  obtain ⟨g1, g2, g3⟩ := hs
  simp only at g1 g2 g3
  unfold F.spec_l1Byte
  simp only
  by_cases hlt : p < (a.length : Int)
  · rw [show decide (p < len a) = true from decide_eq_true hlt, inb_of g2 hlt]
    refine ⟨_, _, rfl, (and_small _ 255 (by omega)).1, (and_small _ 255 (by omega)).2, g1, ?_, ?_⟩
    all_goals simp only
    all_goals rw [w64_id (by omega) (by omega)]
    · omega
    · omega
  · rw [show decide (p < len a) = false from decide_eq_false hlt]
    exact ⟨_, _, rfl, (and_small _ 255 (by omega)).1, (and_small _ 255 (by omega)).2, g1, g2, g3⟩
theorem l1Below_ok (s : List Int × Int × Int × Unit) (hs : srcOk s) (n : Int) (h0 : 0 < n) (h1 : n ≤ 256) : ∃ v s', F.spec_l1Below s n = some (v, s') ∧ 0 ≤ v ∧ v < n ∧ srcOk s' := by
  unfold F.spec_l1Below
  rw [show decide (n ≤ 0) = false from decide_eq_false (by omega), show decide (n ≤ 256) = true from decide_eq_true h1]
  obtain ⟨v, s', e, g1, g2, g3⟩ := l1Byte_ok s hs
  simp only [cond_false, cond_true, e, Option.bind_some]
  rw [show (n == 0) = false by simp; omega]
  refine ⟨_, s', rfl, Int.tmod_nonneg _ g1, ?_, g3⟩
  have := Int.tmod_lt_of_pos v h0
  exact this
theorem l1Once_ok (s : List Int × Int × Int × Unit) (hs : srcOk s) (n : Int) (h0 : 0 < n) (h1 : n ≤ 256) : ∃ b s', F.spec_l1Once s n = some (b, s') ∧ srcOk s' := by
  unfold F.spec_l1Once
  obtain ⟨v, s', e, _, _, g3⟩ := l1Below_ok s hs n h0 h1
  rw [e]
  exact ⟨_, _, rfl, g3⟩
theorem l1Pick_ok (s : List Int × Int × Int × Unit) (hs : srcOk s) (l : List Int) (h0 : 0 < l.length) (h1 : l.length ≤ 256) : ∃ v s', F.spec_l1PickInt s l = some (v, s') ∧ v ∈ l ∧ srcOk s' := by
  unfold F.spec_l1PickInt
  obtain ⟨v, s', e, g1, g2, g3⟩ := l1Below_ok s hs (len l) (by show 0 < (l.length : Int); omega) (by show (l.length : Int) ≤ 256; omega)
  rw [e]
  have hlt : v < (l.length : Int) := g2
  have hi : v.toNat < l.length := by omega
  simp only [Option.bind_some]
  rw [inb_of g1 hlt, getD_at hi]
  exact ⟨_, _, rfl, List.getElem_mem hi, g3⟩
def numP : Nat → Int → List Int → Int × List Int
  | 0, x, acc => (x, acc)
  | f + 1, x, acc => if x > 127 then numP f (x / 128) (acc ++ [IntKind.wrap .u8 (x % 128 + 128)]) else (x, acc)
def numB (x : Int) : List Int := if 0 ≤ x ∧ x ≤ 2147483647 then (numP 4 x []).2 ++ [IntKind.wrap .u8 (numP 4 x []).1] else []
def numsB (l : List Int) : List Int := l.flatMap numB
def spansB (l : List DSpan) : List Int := l.flatMap fun x => numB x.1 ++ numB x.2.1
def bytes (l : List Int) : Prop := ∀ b ∈ l, 0 ≤ b ∧ b < 256
theorem xor_nat (n m : Nat) (hn : n < 4294967296) (hm : m < 4294967296) : ibits .xor .i64 (n : Int) (m : Int) = ((n ^^^ m : Nat) : Int) ∧ n ^^^ m < 4294967296 := by
  have hx : n ^^^ m < 4294967296 := Nat.xor_lt_two_pow (n := 32) hn hm
  refine ⟨?_, hx⟩
  unfold ibits
  simp only
  have e : ∀ k : Nat, k < 4294967296 → (BitVec.ofInt IntKind.i64.bits (k : Int)).toNat = k := fun k hk => by simp [IntKind.bits]; omega
  rw [BitVec.toNat_xor, e n hn, e m hm]
  exact w64_id (by omega) (by omega)
def crc1 (x : Nat) : Nat := if x % 2 = 1 then (x / 2) ^^^ 3988292384 else x / 2
def crcK : Nat → Nat → Nat
  | 0, c => c
  | k + 1, c => crc1 (crcK k c)
def crcL (c : Nat) (l : List Int) : Nat := l.foldl (fun c b => crcK 8 (c ^^^ b.toNat)) c
def crcB (l : List Int) : Nat := (crcL 4294967295 l) ^^^ 4294967295
def sumB (l : List Int) : List Int := [((crcB l : Nat) : Int) / 16777216 % 256, ((crcB l : Nat) : Int) / 65536 % 256, ((crcB l : Nat) : Int) / 256 % 256, ((crcB l : Nat) : Int) % 256]
def skSh (s : DSketch) : Prop := s.2.2.2.2.1.length = 8 ∧ s.2.2.2.2.2.1.length = 8 ∧ ∃ a b, s.2.2.2.2.2.2.1 = [a, b] ∧ a.length = 4 ∧ b.length = 4
theorem skSh_z {s : DSketch} (h : skSh s) : zSketch s ≤ 26 := by
  obtain ⟨h1, h2, a, b, h3, h4, h5⟩ := h
  unfold zSketch zIntSS zIntS
  rw [h1, h2, h3]
  simp [h4, h5, zIntS]
theorem l2Clip_eq (a b : Int) : F.spec_l2Clip a b = some (mxI 0 (mnI a b)) := by
  unfold F.spec_l2Clip
  simp only [l1Min_eq, l1Max_eq, Option.bind_some]
theorem clip_in (a b : Int) (hb : 0 ≤ b) : 0 ≤ mxI 0 (mnI a b) ∧ mxI 0 (mnI a b) ≤ b := by
  unfold mxI mnI
  constructor <;> (repeat' split) <;> simp_all <;> omega
theorem specAdd_any (a b : Int) : ∃ r, F.spec_Add a b = some r := by
  unfold F.spec_Add
  simp only [l2Clip_eq, l1Min_eq, Option.bind_some]
  exact ⟨_, rfl⟩
theorem half_pow {x : Int} {j : Nat} (h0 : 0 < x) (h : x < ((2 ^ (20 - j) : Nat) : Int)) : j < 20 ∧ x / 2 < ((2 ^ (20 - (j + 1)) : Nat) : Int) ∧ x < 1048576 := by
  have hj : j < 20 := by
    rcases Nat.lt_or_ge j 20 with h1 | h1
    · exact h1
    · rw [show 20 - j = 0 by omega] at h
      simp at h
      omega
  have hp : (2 : Nat) ^ (20 - j) ≤ 2 ^ 20 := Nat.pow_le_pow_right (by omega) (by omega)
  have hq : (2 : Nat) ^ (20 - j) = 2 ^ (20 - (j + 1)) * 2 := by rw [show 20 - j = (20 - (j + 1)) + 1 by omega, Nat.pow_succ]
  rw [show (2 : Nat) ^ 20 = 1048576 from rfl] at hp
  rw [hq] at h hp
  generalize (2 : Nat) ^ (20 - (j + 1)) = k at *
  omega
theorem specBucket_any (v : Int) : ∃ r, F.spec_BucketOf v = some r ∧ 0 ≤ r ∧ r < 8 := by
  unfold F.spec_BucketOf
  simp only [l2Clip_eq, Option.bind_some]
  have hc := clip_in v 1000000 (by omega)
  generalize mxI 0 (mnI v 1000000) = n at hc
  obtain ⟨y, h1, z, rfl, h2, h3⟩ := loopO_rule (step := F.spec_BucketOf.s3) (fun x => 0 ≤ x.1 ∧ ∃ j : Nat, x.2.1 = (j : Int) ∧ j ≤ 20 ∧ x.1 < ((2 ^ (20 - j) : Nat) : Int))
    (fun y => ∃ z : Int × Int × Unit, y = .inl z ∧ 0 ≤ z.2.1 ∧ z.2.1 ≤ 20) (fun x => x.1.toNat) (fun x hx => by
      obtain ⟨x2, x3, u⟩ := x
      obtain ⟨g1, j, g2, g3, g4⟩ := hx
      simp only at g1 g2 g4
      subst g2
      unfold F.spec_BucketOf.s3
      simp only
      by_cases hlt : 0 < x2
      · rw [show decide (x2 > 0) = true from decide_eq_true hlt]
        obtain ⟨k1, k2, hb⟩ := half_pow hlt g4
        have e : w64 (Int.tdiv x2 2) = x2 / 2 := by rw [Int.tdiv_eq_ediv_of_nonneg g1, w64_id (by omega) (by omega)]
        refine ⟨_, rfl, ⟨?_, j + 1, ?_, by omega, ?_⟩, ?_⟩
        all_goals simp only [e, w64_nat (show j < 9223372036854775807 by omega)]
        · omega
        · exact k2
        · omega
      · rw [show decide (x2 > 0) = false from decide_eq_false hlt]
        exact ⟨_, rfl, _, rfl, by simp only; omega, by simp only; omega⟩) (x := (n, 0, ())) ⟨hc.1, 0, rfl, by omega, by have := hc.2; show n < ((1048576 : Nat) : Int); omega⟩
  rw [h1]
  obtain ⟨z1, z2, u⟩ := z
  simp only at h2 h3
  simp only [afterO]
  refine ⟨_, rfl, ?_, ?_⟩
  all_goals rw [w64_id (x := z2 + 2) (by omega) (by omega), Int.tdiv_eq_ediv_of_nonneg (by omega), w64_id (by omega) (by omega)]
  all_goals omega
theorem specMix_any (v : Int) : ∃ m : Nat, F.spec_Mix v = some ((m : Nat) : Int) ∧ m < 4294967296 := by
  unfold F.spec_Mix
  simp only [l2Clip_eq, Option.bind_some]
  have hc := clip_in v 1000000 (by omega)
  generalize mxI 0 (mnI v 1000000) = n at hc
  have e1 : w64 (n * 40503) = n * 40503 := w64_id (by omega) (by omega)
  have e2 : w64 (n * 40503 + 12345) = n * 40503 + 12345 := w64_id (by omega) (by omega)
  rw [e1, e2]
  have e3 : Int.tmod (n * 40503 + 12345) 65536 = (n * 40503 + 12345) % 65536 := Int.tmod_eq_emod_of_nonneg (by omega)
  rw [e3]
  have hp0 : 0 ≤ (n * 40503 + 12345) % 65536 ∧ (n * 40503 + 12345) % 65536 < 65536 := by omega
  generalize (n * 40503 + 12345) % 65536 = p at hp0
  obtain ⟨q, rfl⟩ : ∃ q : Nat, p = (q : Int) := ⟨p.toNat, by omega⟩
  have e4 : w64 (Int.tdiv (q : Int) 256) = ((q / 256 : Nat) : Int) := by
    rw [Int.tdiv_eq_ediv_of_nonneg (by omega), w64_id (by omega) (by omega)]; omega
  rw [e4]
  obtain ⟨x1, x2⟩ := xor_nat q (q / 256) (by omega) (by omega)
  exact ⟨_, congrArg some x1, x2⟩
theorem specRank_any (v : Int) : ∃ r, F.spec_RankOf v = some r := by
  unfold F.spec_RankOf
  obtain ⟨m, hm, hlt⟩ := specMix_any v
  simp only [hm, Option.bind_some]
  by_cases h0 : m = 0
  · subst h0; exact ⟨17, rfl⟩
  rw [show ((m : Int) == 0) = false by rw [beq_eq_false_iff_ne]; omega]
  simp only [cond_false]
  obtain ⟨y, h1, z, rfl⟩ := loopO_rule (step := F.spec_RankOf.s5) (fun x => 0 < x.1 ∧ x.1 < 4294967296) (fun y => ∃ z : Int × Int × Unit, y = .inl z) (fun x => x.1.toNat) (fun x hx => by
      obtain ⟨x2, x3, u⟩ := x
      obtain ⟨g1, g2⟩ := hx
      simp only at g1 g2
      unfold F.spec_RankOf.s5
      simp only
      cases hb : (Int.tmod x2 2 == 0) with
      | false => exact ⟨_, rfl, _, rfl⟩
      | true =>
        have hm2 : x2 % 2 = 0 := by
          rw [beq_iff_eq, Int.tmod_eq_emod_of_nonneg (by omega)] at hb; exact hb
        have e : w64 (Int.tdiv x2 2) = x2 / 2 := by rw [Int.tdiv_eq_ediv_of_nonneg (by omega), w64_id (by omega) (by omega)]
        refine ⟨_, rfl, ⟨?_, ?_⟩, ?_⟩
        all_goals simp only [e]
        all_goals omega) (x := ((m : Int), 1, ())) ⟨by simp only; omega, by simp only; omega⟩
  rw [h1]
  exact ⟨_, rfl⟩
theorem skNew_eq : F.spec_SketchNew = some ((0, 0, 0, 0, List.replicate 8 0, List.replicate 8 0, [List.replicate 4 0, List.replicate 4 0], ()) : DSketch) := by
  unfold F.spec_SketchNew
  rw [show mk 8 8 8 = true from by decide, show mk 8 4 4 = true from by decide]; rfl
theorem mod_in {m : Nat} {n : Int} (h : 0 < n) : 0 ≤ Int.tmod (m : Int) n ∧ Int.tmod (m : Int) n < n := ⟨Int.tmod_nonneg _ (by omega), Int.tmod_lt_of_pos _ h⟩
theorem insLoop (v : Int) (t : DSketch) (s : DSketch) (h : skSh s) : ∃ z : Int × Int × DSketch × DSketch × Unit, loopO F.spec_Insert.s14 (v, 0, t, s, ()) = some (.inl z) ∧ skSh z.2.2.2.1 := by
  obtain ⟨y, h1, z, rfl, h2⟩ := loopO_rule (step := F.spec_Insert.s14) (fun x => x.1 = v ∧ 0 ≤ x.2.1 ∧ x.2.1 ≤ 2 ∧ skSh x.2.2.2.1)
    (fun y => ∃ z : Int × Int × DSketch × DSketch × Unit, y = .inl z ∧ skSh z.2.2.2.1) (fun x => 3 - x.2.1.toNat) (fun x hx => by
      obtain ⟨x14, x15, x16, x17, u⟩ := x
      obtain ⟨rfl, g1, g2, g3⟩ := hx
      simp only at g1 g2 g3
      unfold F.spec_Insert.s14
      simp only
      by_cases hlt : x15 < 2
      · obtain ⟨m, hm, hml⟩ := specMix_any x14
        obtain ⟨k1, k2, a, b, k3, k4, k5⟩ := g3
        have hw : w64 ((m : Int) + x15) = ((m + x15.toNat : Nat) : Int) := by rw [w64_id (by omega) (by omega)]; omega
        obtain ⟨c1, c2⟩ := mod_in (m := m + x15.toNat) (n := 4) (by omega)
        simp only [decide_eq_true hlt, cond_true, hm, Option.bind_some, hw, k3]
        generalize Int.tmod ((m + x15.toNat : Nat) : Int) 4 = c at c1 c2
        rw [inb_of (i := x15) (n := [a, b].length) g1 (by simp only [List.length_cons, List.length_nil]; omega)]
        have hx : x15 = 0 ∨ x15 = 1 := by omega
        rcases hx with rfl | rfl
        · obtain ⟨q, hq⟩ := specAdd_any (a.getD c.toNat 0) 1
          simp only [chk_true, Int.toNat_zero, List.getD_cons_zero]
          rw [inb_of c1 (by rw [k4]; omega), hq]
          refine ⟨_, rfl, ⟨rfl, (show (0 : Int) ≤ w64 (0 + 1) by decide), (show w64 (0 + 1) ≤ 2 by decide), k1, k2, a.set c.toNat q, b, rfl, by rw [List.length_set, k4], k5⟩, (show 3 - (w64 (0 + 1)).toNat < 3 - (0 : Int).toNat by decide)⟩
        · obtain ⟨q, hq⟩ := specAdd_any (b.getD c.toNat 0) 1
          have e1 : (1 : Int).toNat = 1 := rfl
          simp only [chk_true, e1, List.getD_cons_succ, List.getD_cons_zero]
          rw [inb_of c1 (by rw [k5]; omega), hq]
          refine ⟨_, rfl, ⟨rfl, (show (0 : Int) ≤ w64 (1 + 1) by decide), (show w64 (1 + 1) ≤ 2 by decide), k1, k2, a, b.set c.toNat q, rfl, k4, by rw [List.length_set, k5]⟩, (show 3 - (w64 (1 + 1)).toNat < 3 - (1 : Int).toNat by decide)⟩
      · rw [show decide (x15 < 2) = false from decide_eq_false hlt]
        exact ⟨_, rfl, _, rfl, g3⟩) (x := (v, 0, t, s, ())) ⟨rfl, by simp only; omega, by simp only; omega, h⟩
  exact ⟨z, h1, h2⟩
theorem specInsert_any (s : DSketch) (v : Int) (h : skSh s) : ∃ r : DSketch × Bool, F.spec_Insert s v = some r ∧ skSh r.1 := by
  have hz := skSh_z h
  obtain ⟨b, hb, _, _⟩ := skOk_same s (by omega)
  unfold F.spec_Insert
  simp only [l3Copy_eq s (by omega), hb, l1In_eq, Option.bind_some]
  cases b with
  | false => exact ⟨_, rfl, h⟩
  | true =>
    cases inR 0 1000000 v with
    | false => exact ⟨_, rfl, h⟩
    | true =>
      obtain ⟨a1, e1⟩ := specAdd_any s.1 1
      obtain ⟨a2, e2⟩ := specAdd_any s.2.1 v
      obtain ⟨k, e3, k0, k1⟩ := specBucket_any v
      obtain ⟨a3, e4⟩ := specAdd_any (s.2.2.2.2.1.getD k.toNat 0) 1
      obtain ⟨m, e5, hm⟩ := specMix_any v
      obtain ⟨ra, e6⟩ := specRank_any v
      obtain ⟨c1, c2⟩ := mod_in (m := m) (n := 8) (by omega)
      have i1 : inb k (List.length s.2.2.2.2.1) = true := inb_of k0 (by rw [h.1]; omega)
      have i2 : inb (Int.tmod (m : Int) 8) (List.length s.2.2.2.2.2.1) = true := inb_of c1 (by rw [h.2.1]; omega)
      simp only [Bool.not_true, cond_false, e1, e2, e3, e4, e5, e6, l1Min_eq, l1Max_eq, Option.bind_some, i1, i2, chk_true]
      have sh : ∀ w1 w2 w3 w4 w5 w6 : Int, skSh (w1, w2, w3, w4, s.2.2.2.2.1.set k.toNat w5, s.2.2.2.2.2.1.set (Int.tmod (m : Int) 8).toNat w6, s.2.2.2.2.2.2.1, s.2.2.2.2.2.2.2) := fun w1 w2 w3 w4 w5 w6 => by
        obtain ⟨h1, h2, h3⟩ := h
        exact ⟨by simp only [List.length_set]; exact h1, by simp only [List.length_set]; exact h2, h3⟩
      cases (s.1 == 0) with
      | true =>
        obtain ⟨z, f1, f2⟩ := insLoop v (0, 0, 0, 0, [], [], [], ()) _ (sh a1 a2 v (mxI s.2.2.2.1 v) a3 (mxI (List.getD s.2.2.2.2.2.1 (Int.tmod (m : Int) 8).toNat 0) ra))
        simp only [cond_true]
        refine ⟨(z.2.2.2.1, true), (congrArg (fun z => afterO z _) f1).trans rfl, f2⟩
      | false =>
        obtain ⟨z, f1, f2⟩ := insLoop v (0, 0, 0, 0, [], [], [], ()) _ (sh a1 a2 (mnI s.2.2.1 v) (mxI s.2.2.2.1 v) a3 (mxI (List.getD s.2.2.2.2.2.1 (Int.tmod (m : Int) 8).toNat 0) ra))
        simp only [cond_false]
        refine ⟨(z.2.2.2.1, true), (congrArg (fun z => afterO z _) f1).trans rfl, f2⟩
theorem specSketched_any (l : List Int) (hl : l.length ≤ 1048576) : ∃ s : DSketch, F.spec_Sketched l = some s ∧ skSh s := by
  unfold F.spec_Sketched
  simp only [skNew_eq, Option.bind_some]
  obtain ⟨y, h1, z, rfl, h2⟩ := loopO_rule (step := F.spec_Sketched.s3) (fun x => x.1 = l ∧ 0 ≤ x.2.1 ∧ x.2.1 ≤ (l.length : Int) ∧ skSh x.2.2.2.1)
    (fun y => ∃ z : List Int × Int × DSketch × DSketch × Unit, y = .inl z ∧ skSh z.2.2.2.1) (fun x => l.length + 1 - x.2.1.toNat) (fun x hx => by
      obtain ⟨x2, x3, x4, x5, u⟩ := x
      obtain ⟨rfl, g1, g2, g3⟩ := hx
      simp only at g1 g2 g3
      have hl : x2.length ≤ 1048576 := hl
      unfold F.spec_Sketched.s3
      simp only
      by_cases hlt : x3 < (x2.length : Int)
      · rw [show decide (x3 < len x2) = true from decide_eq_true hlt, inb_of g1 hlt]
        obtain ⟨r, hr, hs⟩ := specInsert_any x5 (x2.getD x3.toNat 0) g3
        simp only [cond_true, chk_true, hr, Option.bind_some]
        refine ⟨_, rfl, ⟨rfl, ?_, ?_, hs⟩, ?_⟩
        all_goals simp only
        all_goals rw [w64_id (by omega) (by omega)]
        · omega
        · omega
        · omega
      · rw [show decide (x3 < len x2) = false from decide_eq_false hlt]
        exact ⟨_, rfl, _, rfl, g3⟩) (x := (l, 0, (0, 0, 0, 0, [], [], [], ()), (0, 0, 0, 0, List.replicate 8 0, List.replicate 8 0, [List.replicate 4 0, List.replicate 4 0], ()), ())) ⟨rfl, by simp only; omega, by simp only; omega, by simp, by simp, _, _, rfl, by simp, by simp⟩
  refine ⟨z.2.2.2.1, (congrArg (fun z => afterO z _) h1).trans rfl, h2⟩
theorem l3Values_ok (s : DL1Cur) (hs : srcOk s) : ∃ r : List Int × DL1Cur, F.spec_l3Values s = some r ∧ r.1.length ≤ 10 ∧ srcOk r.2 := by
  unfold F.spec_l3Values
  obtain ⟨v1, s1, e1, a1, b1, k1⟩ := l1Below_ok s hs 6 (by omega) (by omega)
  simp only [e1, Option.bind_some]
  obtain ⟨y, h1, z, rfl, h2, h3⟩ := loopO_rule (step := F.spec_l3Values.s4) (fun x => 0 ≤ x.2.2.1 ∧ x.2.1 ≤ 6 ∧ x.2.2.1 ≤ 7 ∧ srcOk x.2.2.2.1 ∧ (x.1.length : Int) ≤ x.2.2.1)
    (fun y => ∃ z : List Int × Int × Int × DL1Cur × Unit, y = .inl z ∧ srcOk z.2.2.2.1 ∧ z.1.length ≤ 10) (fun x => 8 - x.2.2.1.toNat) (fun x hx => by
      obtain ⟨x2, x3, x4, x5, u⟩ := x
      obtain ⟨g1, g2, g3, g4, g5⟩ := hx
      simp only at g1 g2 g3 g4 g5
      unfold F.spec_l3Values.s4
      simp only
      by_cases hlt : x4 < x3
      · rw [decide_eq_true hlt]
        obtain ⟨w1, t1, f1, _, _, j1⟩ := l1Byte_ok x5 g4
        obtain ⟨w2, t2, f2, _, j2⟩ := l1Pick_ok t1 j1 [0, 1, 7, 8, 100, 5000, 1000000, w1, 1000001, -1] (by simp) (by simp)
        simp only [cond_true, f1, f2, Option.bind_some, List.length_cons, List.length_nil]
        rw [fits_of (by omega)]
        refine ⟨_, rfl, ⟨?_, g2, ?_, j2, ?_⟩, ?_⟩
        all_goals simp only [List.length_append, List.length_cons, List.length_nil]
        all_goals rw [w64_id (by omega) (by omega)]
        · omega
        · omega
        · omega
        · omega
      · rw [decide_eq_false hlt]
        exact ⟨_, rfl, _, rfl, g4, by simp only; omega⟩) (x := ([], v1, 0, s1, ())) ⟨Int.le_refl 0, by simp only; omega, by simp, k1, by simp⟩
  refine ⟨(z.1, z.2.2.2.1), (congrArg (fun z => afterO z _) h1).trans rfl, h3, h2⟩
theorem l3Right_ok (s : DL1Cur) (hs : srcOk s) : ∃ r : DSketch × DL1Cur, F.spec_l3Right s = some r ∧ skSh r.1 ∧ srcOk r.2 := by
  unfold F.spec_l3Right
  obtain ⟨r, e1, l1, k1⟩ := l3Values_ok s hs
  obtain ⟨sk, e2, h2⟩ := specSketched_any r.1 (by omega)
  obtain ⟨b, s3, e3, k3⟩ := l1Once_ok r.2 k1 16 (by omega) (by omega)
  simp only [e1, e2, e3, Option.bind_some]
  cases b with
  | false => exact ⟨_, rfl, h2, k3⟩
  | true =>
    cases decide (sk.1 > 0) with
    | false => exact ⟨_, rfl, h2, k3⟩
    | true =>
      obtain ⟨v4, s4, e4, _, _, k4⟩ := l1Below_ok s3 k3 2 (by omega) (by omega)
      simp only [cond_true, e4, Option.bind_some]
      rw [inb_of (i := 3) (by omega) (by rw [h2.1]; omega)]
      refine ⟨_, rfl, ⟨by simp only [List.length_set]; exact h2.1, h2.2.1, h2.2.2⟩, k4⟩
theorem l3Draw_ok (s : DL1Cur) (hs : srcOk s) : ∃ r : DSketch × DL1Cur, F.spec_l3Draw s = some r ∧ zSketch r.1 ≤ 40 ∧ srcOk r.2 := by
  unfold F.spec_l3Draw
  obtain ⟨r, e1, h1, k1⟩ := l3Right_ok s hs
  obtain ⟨v2, s2, e2, a2, b2, k2⟩ := l1Below_ok r.2 k1 16 (by omega) (by omega)
  have hz := skSh_z h1
  obtain ⟨⟨c, su, mn, mx, hi, re, ro, u⟩, cu⟩ := r
  obtain ⟨g1, g2, a, b, g3, g4, g5⟩ := h1
  simp only at g1 g2 g3 e2 k2
  subst g3
  have zz : ∀ (c su mn mx : Int) (hi re : List Int) (ro : List (List Int)), zSketch (c, su, mn, mx, hi, re, ro, u) = hi.length + re.length + (ro.length + (ro.map List.length).sum) := fun _ _ _ _ _ _ _ => rfl
  simp only [e1, e2, Option.bind_some]
  cases (v2 == 0) with
  | true =>
    obtain ⟨v3, s3, e3, _, k3⟩ := l1Pick_ok s2 k2 [-1, 1000001, 500] (by simp) (by simp)
    simp only [cond_true, e3, Option.bind_some]
    exact ⟨_, rfl, by simp only [zz, g1, g2, g4, g5, List.length_cons, List.length_nil, List.map_cons, List.map_nil, List.sum_cons, List.sum_nil]; omega, k3⟩
  | false =>
  simp only [cond_false]
  cases (v2 == 1) with
  | true =>
    obtain ⟨v3, s3, e3, a3, b3, k3⟩ := l1Below_ok s2 k2 8 (by omega) (by omega)
    obtain ⟨v4, s4, e4, _, k4⟩ := l1Pick_ok s3 k3 [-1, 17, 18] (by simp) (by simp)
    simp only [cond_true, e3, e4, Option.bind_some]
    rw [inb_of a3 (by rw [g2]; omega)]
    exact ⟨_, rfl, by simp only [zz, g1, g2, g4, g5, List.length_set, List.length_cons, List.length_nil, List.map_cons, List.map_nil, List.sum_cons, List.sum_nil]; omega, k4⟩
  | false =>
  simp only [cond_false]
  cases (v2 == 2) with
  | true =>
    simp only [cond_true, List.length_cons, List.length_nil]
    rw [fits_of (by omega)]
    exact ⟨_, rfl, by simp only [zz, g1, g2, g4, g5, List.length_append, List.length_cons, List.length_nil, List.map_cons, List.map_nil, List.sum_cons, List.sum_nil]; omega, k2⟩
  | false =>
  simp only [cond_false]
  cases (v2 == 3) with
  | true =>
    simp only [cond_true]
    exact ⟨_, rfl, by simp only [zz, g1, g2, g4, g5, List.drop_zero, List.take_succ_cons, List.take_zero, Nat.sub_zero, List.length_cons, List.length_nil, List.map_cons, List.map_nil, List.sum_cons, List.sum_nil]; omega, k2⟩
  | false =>
  simp only [cond_false]
  cases (v2 == 4) with
  | true =>
    obtain ⟨v3, s3, e3, _, k3⟩ := l1Pick_ok s2 k2 [0, -1, 1000000001] (by simp) (by simp)
    simp only [cond_true, e3, Option.bind_some]
    exact ⟨_, rfl, by simp only [zz, g1, g2, g4, g5, List.length_cons, List.length_nil, List.map_cons, List.map_nil, List.sum_cons, List.sum_nil]; omega, k3⟩
  | false =>
  simp only [cond_false]
  cases (v2 == 5) with
  | true =>
    obtain ⟨v3, s3, e3, _, k3⟩ := l1Pick_ok s2 k2 [-1, 3, 1000000001] (by simp) (by simp)
    simp only [cond_true, e3, Option.bind_some]
    rw [show inb 1 [a, b].length = true from rfl]
    simp only [chk_true, List.getD_cons_succ, List.getD_cons_zero]
    rw [inb_of (i := 2) (by omega) (by rw [g5]; omega)]
    exact ⟨_, rfl, by simp only [zz, g1, g2, g4, g5, List.set_cons_succ, List.set_cons_zero, List.length_set, List.length_cons, List.length_nil, List.map_cons, List.map_nil, List.sum_cons, List.sum_nil]; omega, k3⟩
  | false =>
    exact ⟨_, rfl, by simp only [zz, g1, g2, g4, g5, List.length_cons, List.length_nil, List.map_cons, List.map_nil, List.sum_cons, List.sum_nil]; omega, k2⟩
theorem l6Right_ok (s : DL1Cur) (hs : srcOk s) : ∃ r : DItem × DL1Cur, F.spec_l6Right s = some r ∧ skSh r.1.2.2.2.2.1 ∧ srcOk r.2 := by
  unfold F.spec_l6Right
  obtain ⟨v1, s1, e1, _, _, k1⟩ := l1Below_ok s hs 8 (by omega) (by omega)
  obtain ⟨v2, s2, e2, _, _, k2⟩ := l1Below_ok s1 k1 2 (by omega) (by omega)
  obtain ⟨v3, s3, e3, _, _, k3⟩ := l1Below_ok s2 k2 2 (by omega) (by omega)
  obtain ⟨v4, s4, e4, _, _, k4⟩ := l1Below_ok s3 k3 3 (by omega) (by omega)
  obtain ⟨r, e5, h5, k5⟩ := l3Values_ok s4 k4
  obtain ⟨sk, e6, h6⟩ := specSketched_any r.1 (by omega)
  simp only [e1, e2, e3, e4, e5, e6, Option.bind_some]
  exact ⟨_, rfl, h6, k5⟩
theorem l5Right_ok (s : DL1Cur) (hs : srcOk s) : ∃ r : List DSpan × DL1Cur, F.spec_l5Right s = some r ∧ r.1.length ≤ 10 ∧ srcOk r.2 := by
  unfold F.spec_l5Right
  obtain ⟨v1, s1, e1, a1, b1, k1⟩ := l1Below_ok s hs 7 (by omega) (by omega)
  simp only [e1, Option.bind_some]
  obtain ⟨y, h1, z, rfl, h2, h3⟩ := loopO_rule (step := F.spec_l5Right.s4) (fun x => 0 ≤ x.2.2.1 ∧ x.2.1 ≤ 6 ∧ x.2.2.1 ≤ 7 ∧ srcOk x.2.2.2.1 ∧ (x.1.length : Int) ≤ x.2.2.1)
    (fun y => ∃ z : List DSpan × Int × Int × DL1Cur × Unit, y = .inl z ∧ srcOk z.2.2.2.1 ∧ z.1.length ≤ 10)
    (fun x => 8 - x.2.2.1.toNat) (fun x hx => by
      obtain ⟨x2, x3, x4, x5, u⟩ := x
      obtain ⟨g1, g2, g3, g4, g5⟩ := hx
      simp only at g1 g2 g3 g4 g5
      unfold F.spec_l5Right.s4
      simp only
      by_cases hlt : x4 < x3
      · rw [decide_eq_true hlt]
        obtain ⟨w1, t1, f1, _, _, j1⟩ := l1Below_ok x5 g4 20 (by omega) (by omega)
        obtain ⟨w2, t2, f2, _, _, j2⟩ := l1Below_ok t1 j1 20 (by omega) (by omega)
        obtain ⟨w3, t3, f3, _, _, j3⟩ := l1Below_ok t2 j2 10 (by omega) (by omega)
        obtain ⟨w4, t4, f4, _, j4⟩ := l1Pick_ok t3 j3 [w1, w2, w64 (9990 + w3)] (by simp) (by simp)
        obtain ⟨w5, t5, f5, _, _, j5⟩ := l1Below_ok t4 j4 3 (by omega) (by omega)
        obtain ⟨q, fq, hq⟩ := l5Put_any x2 (w4, mnI 9999 (w64 (w4 + w5)), ()) (by omega)
        simp only [cond_true, f1, f2, f3, f4, f5, l1Min_eq, Option.bind_some]
        obtain ⟨q, fq, hq⟩ := l5Put_any x2 (w4, mnI (w64 (w4 + w5)) 9999, ()) (by omega)
        simp only [fq, Option.bind_some]
        refine ⟨_, rfl, ⟨?_, g2, ?_, j5, ?_⟩, ?_⟩
        all_goals simp only
        all_goals rw [w64_id (by omega) (by omega)]
        · omega
        · omega
        · omega
        · omega
      · rw [decide_eq_false hlt]
        exact ⟨_, rfl, _, rfl, g4, by simp only; omega⟩) (x := ([], v1, 0, s1, ())) ⟨Int.le_refl 0, by simp only; omega, by simp, k1, by simp⟩
  rw [h1]
  obtain ⟨z4, z5, z6, z7, u⟩ := z
  exact ⟨_, rfl, h3, h2⟩
theorem l5Draw_ok (s : DL1Cur) (hs : srcOk s) : ∃ r : List DSpan × DL1Cur, F.spec_l5Draw s = some r ∧ r.1.length ≤ 11 ∧ srcOk r.2 := by
  unfold F.spec_l5Draw
  obtain ⟨r, e1, hr, k1⟩ := l5Right_ok s hs
  obtain ⟨b, s2, e2, k2⟩ := l1Once_ok r.2 k1 8 (by omega) (by omega)
  simp only [e1, e2, Option.bind_some]
  cases b with
  | false => exact ⟨_, rfl, by simp only; omega, k2⟩
  | true =>
    obtain ⟨v3, s3, e3, _, k3⟩ := l1Pick_ok s2 k2 [-1, 3, 10000] (by simp) (by simp)
    obtain ⟨v4, s4, e4, _, k4⟩ := l1Pick_ok s3 k3 [5, 10000, 9223372036854775807] (by simp) (by simp)
    simp only [cond_true, e3, e4, Option.bind_some, List.length_cons, List.length_nil]
    rw [fits_of (by omega)]
    exact ⟨_, rfl, by simp; omega, k4⟩
theorem zEnt (e : DEntry) : zEntry e = e.2.2.1.length + zSketch e.2.2.2.1 := rfl
theorem zRo (r : DRow) : zRow r = zEntryS r.1 := rfl
theorem zEn_app' (l m : List DEntry) : zEntryS (l ++ m) = zEntryS l + zEntryS m := by
  unfold zEntryS
  rw [List.length_append, List.map_append, List.sum_append]
  omega
theorem zEn_one (e : DEntry) : zEntryS [e] = 1 + zEntry e := by simp [zEntryS]
theorem specItem_any (x : DItem) (h : zSketch x.2.2.2.2.1 ≤ 1048576) : ∃ b, F.spec_ItemOk x = some b := by
  unfold F.spec_ItemOk F.spec_l6Place
  simp only [l1In_eq, specSk_dec _ h, Option.bind_some]
  cases inR 1 60 x.1 <;> cases inR 0 1 x.2.1 <;> cases inR 0 4 x.2.2.1 <;> cases inR 0 20 x.2.2.2.1 <;> exact ⟨_, rfl⟩
theorem specEntryOf_any (a : Int) (x : DItem) (h : zSketch x.2.2.2.2.1 ≤ 1000) : ∃ r : DEntry × Bool, F.spec_EntryOf a x = some r ∧ zEntry r.1 ≤ 1001 := by
  obtain ⟨i, hi⟩ : ∃ i, F.spec_IdOf a x.1 = some i := by
    unfold F.spec_IdOf F.spec_l6Agent
    simp only [l1In_eq, Option.bind_some]
    cases inR 0 2 a <;> cases inR 1 60 x.1 <;> exact ⟨_, rfl⟩
  obtain ⟨b, hb⟩ := specItem_any x (by omega)
  unfold F.spec_EntryOf
  rw [hi, hb]
  simp only [Option.bind_some]
  cases b with
  | false => exact ⟨_, rfl, by simp [zEnt, zSketch, zIntS, zIntSS]⟩
  | true =>
    cases decide (i < 0) with
    | true => exact ⟨_, rfl, by simp [zEnt, zSketch, zIntS, zIntSS]⟩
    | false =>
      simp only [Bool.not_true, cond_false]
      rw [l3Copy_eq _ (by omega)]
      exact ⟨_, rfl, by rw [zEnt]; simp only [List.length_cons, List.length_nil]; omega⟩
theorem l6Entry_ok (s : DL1Cur) (hs : srcOk s) : ∃ r : DEntry × DL1Cur, F.spec_l6Entry s = some r ∧ zEntry r.1 ≤ 1100 ∧ srcOk r.2 := by
  unfold F.spec_l6Entry
  obtain ⟨v1, s1, e1, _, _, k1⟩ := l1Below_ok s hs 3 (by omega) (by omega)
  obtain ⟨⟨x, s2⟩, e2, h2, k2⟩ := l6Right_ok s1 k1
  have hz := skSh_z h2
  obtain ⟨⟨e, ok⟩, e3, h3⟩ := specEntryOf_any v1 x (by simp only at hz; omega)
  obtain ⟨b4, s4, e4, k4⟩ := l1Once_ok s2 k2 4 (by omega) (by omega)
  simp only at h3
  rw [zEnt] at h3
  simp only [e1, e2, e3, e4, Option.bind_some]
  cases b4 with
  | true =>
    obtain ⟨⟨t, s5⟩, e5, h5, k5⟩ := l5Draw_ok s4 k4
    obtain ⟨b6, s6, e6, k6⟩ := l1Once_ok s5 k5 14 (by omega) (by omega)
    simp only at h5
    simp only [cond_true, e5, e6, Option.bind_some]
    cases b6 with
    | true =>
      obtain ⟨⟨sk, s7⟩, e7, h7, k7⟩ := l3Draw_ok s6 k6
      obtain ⟨b8, s8, e8, k8⟩ := l1Once_ok s7 k7 20 (by omega) (by omega)
      simp only at h7
      simp only [cond_true, e7, e8, Option.bind_some]
      cases b8 with
      | true =>
        obtain ⟨v9, s9, e9, _, k9⟩ := l1Pick_ok s8 k8 [-1, 5] (by simp) (by simp)
        simp only [cond_true, e9, Option.bind_some]
        exact ⟨_, rfl, by rw [zEnt]; simp only; omega, k9⟩
      | false => exact ⟨_, rfl, by rw [zEnt]; simp only; omega, k8⟩
    | false =>
      obtain ⟨b8, s8, e8, k8⟩ := l1Once_ok s6 k6 20 (by omega) (by omega)
      simp only [cond_false, e8, Option.bind_some]
      cases b8 with
      | true =>
        obtain ⟨v9, s9, e9, _, k9⟩ := l1Pick_ok s8 k8 [-1, 5] (by simp) (by simp)
        simp only [cond_true, e9, Option.bind_some]
        exact ⟨_, rfl, by rw [zEnt]; simp only; omega, k9⟩
      | false => exact ⟨_, rfl, by rw [zEnt]; simp only; omega, k8⟩
  | false =>
    obtain ⟨b6, s6, e6, k6⟩ := l1Once_ok s4 k4 14 (by omega) (by omega)
    simp only [cond_false, e6, Option.bind_some]
    cases b6 with
    | true =>
      obtain ⟨⟨sk, s7⟩, e7, h7, k7⟩ := l3Draw_ok s6 k6
      obtain ⟨b8, s8, e8, k8⟩ := l1Once_ok s7 k7 20 (by omega) (by omega)
      simp only at h7
      simp only [cond_true, e7, e8, Option.bind_some]
      cases b8 with
      | true =>
        obtain ⟨v9, s9, e9, _, k9⟩ := l1Pick_ok s8 k8 [-1, 5] (by simp) (by simp)
        simp only [cond_true, e9, Option.bind_some]
        exact ⟨_, rfl, by rw [zEnt]; simp only; omega, k9⟩
      | false => exact ⟨_, rfl, by rw [zEnt]; simp only; omega, k8⟩
    | false =>
      obtain ⟨b8, s8, e8, k8⟩ := l1Once_ok s6 k6 20 (by omega) (by omega)
      simp only [cond_false, e8, Option.bind_some]
      cases b8 with
      | true =>
        obtain ⟨v9, s9, e9, _, k9⟩ := l1Pick_ok s8 k8 [-1, 5] (by simp) (by simp)
        simp only [cond_true, e9, Option.bind_some]
        exact ⟨_, rfl, by rw [zEnt]; simp only; omega, k9⟩
      | false => exact ⟨_, rfl, by rw [zEnt]; simp only; omega, k8⟩
theorem specPush_any (r : DRow) (e : DEntry) (j : Bool) (h : zRow r ≤ 1048576) (h' : zEntry e ≤ 1048576) : ∃ q : DRow × Bool, F.spec_RowPush r e j = some q ∧ q.1.1.length ≤ r.1.length + 1 ∧ (zRow q.1 ≤ 130000 ∨ q.1 = r) := by
  refine ⟨_, specPush_eq r e j h h', ?_⟩
  by_cases hc : RoR r ∧ EnR e ∧ apRow r.1 e.2.2.1 = true
  case neg => rw [decB_neg hc]; exact ⟨by simp only [cond_false]; omega, .inr rfl⟩
  rw [decB_pos hc]
  obtain ⟨hr, he, ha⟩ := hc
  have hf := hr.few
  simp only [cond_true]
  unfold pushed
  split
  · rename_i k hk
    have hk : r.1.findIdx? (atP e.1 e.2.1) = some k := by cases j <;> simp_all
    obtain ⟨hi, _⟩ := find_at hk
    have hek := hr.ok.all _ (List.getElem_mem hi)
    have := zEnL (r.1.set k (addE (r.1.getD k e) e)) (fun x hx => by
      rcases List.mem_or_eq_of_mem_set hx with h1 | rfl
      · exact hr.ok.all x h1
      · rw [getD_at hi]; exact addE_ok hek he)
    rw [List.length_set] at this
    refine ⟨by simp only [List.length_set]; omega, .inl ?_⟩
    show zEntryS (r.1.set k (addE (r.1.getD k e) e)) ≤ _
    omega
  · split
    · exact ⟨by simp only; omega, .inr rfl⟩
    · have := zEnL (r.1 ++ [e]) (fun x hx => by
        rcases List.mem_append.1 hx with h1 | h1
        · exact hr.ok.all x h1
        · rw [List.mem_singleton.1 h1]; exact he)
      rw [List.length_append] at this
      simp only [List.length_cons, List.length_nil] at this
      refine ⟨by simp, .inl ?_⟩
      show zEntryS (r.1 ++ [e]) ≤ _
      omega
theorem l10Right_ok (s : DL1Cur) (hs : srcOk s) : ∃ r : DRow × DL1Cur, F.spec_l10Right s = some r ∧ r.1.1.length ≤ 5 ∧ zRow r.1 ≤ 130000 ∧ srcOk r.2 := by
  unfold F.spec_l10Right
  obtain ⟨v1, s1, e1, a1, b1, k1⟩ := l1Below_ok s hs 6 (by omega) (by omega)
  obtain ⟨v2, s2, e2, _, _, k2⟩ := l1Below_ok s1 k1 3 (by omega) (by omega)
  simp only [e1, e2, Option.bind_some]
  obtain ⟨y, l1, z, rfl, l2, l3, l4⟩ := loopO_rule (step := F.spec_l10Right.s5) (fun x => x.1 ≤ 5 ∧ 0 ≤ x.2.2.1 ∧ x.2.2.1 ≤ x.1 ∧ srcOk x.2.2.2.1 ∧ (x.2.2.2.2.2.1.1.length : Int) ≤ x.2.2.1 ∧ zRow x.2.2.2.2.2.1 ≤ 130000)
    (fun y => ∃ z : Int × Int × Int × DL1Cur × DRow × DRow × Unit, y = .inl z ∧ srcOk z.2.2.2.1 ∧ z.2.2.2.2.2.1.1.length ≤ 5 ∧ zRow z.2.2.2.2.2.1 ≤ 130000) (fun x => 8 - x.2.2.1.toNat) (fun x hx => by
      obtain ⟨x3, x4, x5, x6, x7, x8, u⟩ := x
      obtain ⟨g1, g2, g3, g4, g5, g6⟩ := hx
      simp only at g1 g2 g3 g4 g5 g6
      unfold F.spec_l10Right.s5
      simp only
      by_cases hlt : x5 < x3
      · rw [decide_eq_true hlt]
        obtain ⟨⟨q, t1⟩, f1, hq, j1⟩ := l6Right_ok x6 g4
        have hz := skSh_z hq
        obtain ⟨w2, t2, f2, _, _, j2⟩ := l1Below_ok t1 j1 30 (by omega) (by omega)
        obtain ⟨⟨e, ok⟩, f3, h3⟩ := specEntryOf_any x4 (w64 (1 + w2), q.2) (by simp only at hz ⊢; omega)
        obtain ⟨b4, t4, f4, j4⟩ := l1Once_ok t2 j2 3 (by omega) (by omega)
        simp only at h3
        obtain ⟨p, fp, hp1, hp2⟩ := specPush_any x8 e b4 (by omega) (by omega)
        simp only [cond_true, f1, f2, f3, f4, fp, Option.bind_some]
        have hp3 : zRow p.1 ≤ 130000 := by
          rcases hp2 with h | h
          · exact h
          · rw [h]; exact g6
        refine ⟨_, rfl, ⟨g1, ?_, ?_, j4, ?_, hp3⟩, ?_⟩
        all_goals simp only
        all_goals rw [w64_id (by omega) (by omega)]
        all_goals omega
      · rw [decide_eq_false hlt]
        exact ⟨_, rfl, _, rfl, g4, by simp only; omega, by simp only; omega⟩) (x := (v1, v2, 0, s2, ([], ()), ([], ()), ())) ⟨by simp only; omega, by simp, by simp only; omega, k2, by simp, by simp [zRow, zEntryS]⟩
  obtain ⟨z1, z2, z3, z4, z5, z6, u⟩ := z
  rw [l1]
  exact ⟨_, rfl, l3, l4, l2⟩
theorem l10Draw_ok (s : DL1Cur) (hs : srcOk s) : ∃ r : DRow × DL1Cur, F.spec_l10Draw s = some r ∧ r.1.1.length ≤ 6 ∧ zRow r.1 ≤ 300000 ∧ srcOk r.2 := by
  unfold F.spec_l10Draw
  obtain ⟨⟨r, s1⟩, e1, h1, z1, k1⟩ := l10Right_ok s hs
  obtain ⟨v2, s2, e2, _, _, k2⟩ := l1Below_ok s1 k1 10 (by omega) (by omega)
  simp only at h1 z1
  rw [zRo] at z1
  simp only [e1, e2, Option.bind_some]
  cases (v2 == 0) with
  | true =>
    obtain ⟨⟨e, s3⟩, e3, h3, k3⟩ := l6Entry_ok s2 k2
    simp only at h3
    simp only [cond_true, e3, Option.bind_some, List.length_cons, List.length_nil]
    rw [fits_of (by omega)]
    exact ⟨_, rfl, by simp; omega, by rw [zRo]; simp only; rw [zEn_app', zEn_one]; omega, k3⟩
  | false =>
  simp only [cond_false]
  cases (v2 == 1) with
  | true =>
    simp only [cond_true]
    cases hl : r.1 with
    | nil =>
      rw [show decide (len ([] : List DEntry) > 0) = false from rfl]
      exact ⟨_, rfl, by simp only; omega, by rw [zRo]; simp only; omega, k2⟩
    | cons x l =>
      rw [hl] at h1 z1
      have hx : zEntry x ≤ 130000 := by
        have := zE_mem z1 (List.mem_cons_self ..)
        omega
      rw [show decide (len (x :: l) > 0) = true from decide_eq_true (by simp only [len, List.length_cons]; omega), show inb 0 (x :: l).length = true from inb_nat (i := 0) (by simp)]
      simp only [cond_true, chk_true]
      rw [show (x :: l).getD 0 (0, 0, ([] : List DSpan), (0, 0, 0, 0, ([] : List Int), ([] : List Int), ([] : List (List Int)), ()), ()) = x from rfl, l6Copy_eq x (by omega)]
      simp only [Option.bind_some, List.length_cons, List.length_nil]
      rw [fits_of (by simp only [List.length_cons] at h1; omega)]
      refine ⟨_, rfl, by simp only [List.length_cons] at h1; simp; omega, ?_, k2⟩
      rw [zRo]
      simp only
      rw [zEn_app', zEn_one]; omega
  | false => exact ⟨_, rfl, by simp only; omega, by rw [zRo]; simp only; omega, k2⟩
theorem specSum_any (r : DRow) (h : zRow r ≤ 1048576) : ∃ q, F.spec_RowSum r = some q ∧ ((RoR r ∧ q = smL places r.1) ∨ q = []) := by
  by_cases hr : RoR r
  · exact ⟨_, specSum_eq r h hr, .inl ⟨hr, rfl⟩⟩
  · refine ⟨[], ?_, .inr rfl⟩
    unfold F.spec_RowSum
    rw [specRow_dec r h, decB_neg hr]; rfl
theorem drawRoot_ok (c : List Int) (hc : c.length ≤ 1048576) : ∃ q : List DEntry × DEntry, F.spec_DrawRootAdd c = some q ∧ q.1.length ≤ 106 ∧ zEntryS q.1 ≤ 600000 ∧ zEntry q.2 ≤ 1100 := by
  unfold F.spec_DrawRootAdd
  obtain ⟨s0, e0, k0⟩ := l1New_ok c hc
  obtain ⟨⟨r, s1⟩, e1, h1, z1, k1⟩ := l10Draw_ok s0 k0
  obtain ⟨⟨e, s2⟩, e2, z2, k2⟩ := l6Entry_ok s1 k1
  obtain ⟨b, s3, e3, k3⟩ := l1Once_ok s2 k2 12 (by omega) (by omega)
  obtain ⟨⟨e', s4⟩, e4, z4, k4⟩ := l6Entry_ok s3 k3
  simp only at h1 z1 z2 z4
  obtain ⟨q, hs, hq⟩ := specSum_any r (by omega)
  have hz : zEntryS q ≤ 527940 ∧ q.length ≤ 105 := by
    rcases hq with ⟨hr, rfl⟩ | rfl
    · have hlen := smL_len places r.1
      have hp : places.length = 105 := by unfold places; simp
      have := zEnL _ (smL_ok (ps := places) hr.ok.all)
      omega
    · simp [zEntryS]
  simp only [e0, e1, hs, e2, e3, Option.bind_some]
  cases b with
  | false => exact ⟨_, rfl, by simp only; omega, by simp only; omega, z2⟩
  | true =>
    simp only [cond_true, e4, Option.bind_some, List.length_cons, List.length_nil]
    rw [fits_of (by omega)]
    refine ⟨_, rfl, by simp only [List.length_append, List.length_cons, List.length_nil]; omega, ?_, z2⟩
    rw [zEn_app', zEn_one]
    omega
theorem not_apart {a b : List Sp} (ha : Good a) (hb : Good b) (h0 : b ≠ []) (h : ∀ n, memS b n → memS a n) : apB a b = false := by
  rw [Bool.eq_false_iff]
  intro hc
  obtain ⟨x, l, rfl⟩ := List.exists_cons_of_ne_nil h0
  have hx := good_le hb x (by simp)
  have hm : memS (x :: l) x.1 := ⟨x, by simp, Int.le_refl _, hx⟩
  exact (apB_mem ha hb).1 hc x.1 (h _ hm) hm
theorem added_at {l : List DEntry} {e : DEntry} (h : RootR l e) (ho : (added l e).2 = true) : ∃ k x, (added l e).1.findIdx? (atP e.1 e.2.1) = some k ∧ (added l e).1[k]? = some x ∧ EnR x ∧ (∀ n, memS e.2.2.1 n → memS x.2.2.1 n) ∧ e.2.2.2.1.1 ≤ x.2.2.2.1.1 := by
  have hat : atP e.1 e.2.1 e = true := atP_iff.2 ⟨rfl, rfl⟩
  unfold added at ho ⊢
  cases hk : l.findIdx? (atP e.1 e.2.1) with
  | some k =>
    rw [hk] at ho
    obtain ⟨hi, h1, h2⟩ := find_at hk
    simp only at ho ⊢
    rw [getD_at hi] at ho ⊢
    cases hap : apB l[k].2.2.1 e.2.2.1 with
    | false => rw [hap] at ho; cases ho
    | true =>
      have hek := h.2 _ (List.getElem_mem hi)
      simp only [cond_true]
      have hlk : k < (l.set k (addE l[k] e)).length := by rw [List.length_set]; exact hi
      refine ⟨k, addE l[k] e, ?_, by rw [List.getElem?_set_self hi], addE_ok hek h.1, fun n hn => ?_, ?_⟩
      · rw [List.findIdx?_eq_some_iff_getElem] at hk ⊢
        obtain ⟨_, g1, g2⟩ := hk
        refine ⟨hlk, ?_, fun j hj => ?_⟩
        · rw [List.getElem_set_self]; exact atP_iff.2 ⟨h1, h2⟩
        · have := g2 j hj
          rw [List.getElem_set_ne (by omega)]
          exact this
      · exact (joinS_mem (good_ok.1 hek.ids) (okF_ends (good_ok.1 h.1.ids))).2 (.inr hn)
      · obtain ⟨c0, c1⟩ := hek.sk.cnt
        obtain ⟨d0, d1⟩ := h.1.sk.cnt
        show e.2.2.2.1.1 ≤ adI l[k].2.2.2.1.1 e.2.2.2.1.1
        rw [adI_def]
        split <;> omega
  | none =>
    simp only
    have hno := List.findIdx?_eq_none_iff.1 hk
    have key : ∀ A B : List DEntry, (∀ x ∈ A, atP e.1 e.2.1 x = false) → (A ++ (e :: B)).findIdx? (atP e.1 e.2.1) = some A.length ∧ (A ++ (e :: B))[A.length]? = some e := by
      intro A B hA
      refine ⟨?_, by simp⟩
      rw [List.findIdx?_append, List.findIdx?_eq_none_iff.2 hA, List.findIdx?_cons, hat]
      simp
    unfold laid
    cases hq : l.findIdx? (aftP e) with
    | none =>
      obtain ⟨g1, g2⟩ := key l [] hno
      exact ⟨_, e, g1, g2, h.1, fun _ hn => hn, Int.le_refl _⟩
    | some k =>
      obtain ⟨g1, g2⟩ := key (l.take k) (l.drop k) (fun x hx => hno x (List.mem_of_mem_take hx))
      exact ⟨_, e, g1, g2, h.1, fun _ hn => hn, Int.le_refl _⟩
theorem added_twice {l : List DEntry} {e : DEntry} (h : RootR l e) (ho : (added l e).2 = true) : (added (added l e).1 e).2 = false := by
  obtain ⟨k, x, h1, h2, hx, h3, _⟩ := added_at h ho
  unfold added at h1 h2 ⊢
  obtain ⟨hi, hxx⟩ := List.getElem?_eq_some_iff.1 h2
  rw [h1]
  simp only
  rw [getD_at hi, hxx, not_apart hx.ids h.1.ids h.1.some h3]
  rfl
theorem foldl_or {α : Type} (p : α → Bool) : ∀ (l : List α) (s : Bool), l.foldl (fun s x => s || p x) s = (s || l.any p)
  | [], s => by simp
  | x :: l, s => by rw [List.foldl_cons, foldl_or p l, List.any_cons, Bool.or_assoc]
def hitP (e y : DEntry) : Bool := y.1 == e.1 && (y.2.1 == e.2.1 && decide (y.2.2.2.1.1 ≥ e.2.2.2.1.1))
theorem hit_loop (l x : List DEntry) (t : Bool) (e : DEntry) (hn : x.length ≤ 1048576) : loopO F.laws_FnRootAdded.s13 (l, x, t, false, 0, e, ()) = some (.inl (l, x, t, x.any (hitP e), ((x.length : Nat) : Int), e, ())) := by
  have hh := loop_fold (step := F.laws_FnRootAdded.s13) x (fun i s => (l, x, t, s, (i : Int), e, ())) (fun s y => s || hitP e y) (fun i s hi => by
    unfold F.laws_FnRootAdded.s13
    simp only
    rw [lt_len hi, inb_nat hi, Int.toNat_natCast, getD_at hi, w64_nat (by omega)]
    simp only [cond_true, chk_true]
    unfold hitP
    cases s with
    | true => rfl
    | false => cases (x[i].1 == e.1) <;> cases (x[i].2.1 == e.2.1) <;> rfl) (fun s => by
    unfold F.laws_FnRootAdded.s13
    simp only [ge_len, cond_false]) false
  rw [foldl_or, Bool.false_or] at hh
  exact hh
theorem fnRootAdded_law (c : List Int) : F.laws_FnRootAdded c = some true := by
  unfold F.laws_FnRootAdded F.laws_big
  simp only [Option.bind_some]
  by_cases hc : len c > 1048576
  · rw [decide_eq_true hc]; rfl
  rw [decide_eq_false hc]
  obtain ⟨⟨l, e⟩, e1, h1, z1, z2⟩ := drawRoot_ok c (by simp only [len] at hc; omega)
  simp only at h1 z1 z2
  simp only [cond_false, e1, Option.bind_some]
  rw [implRoot_eq l e (by omega) (by omega), specRoot_eq l e (by omega) (by omega)]
  simp only [Option.bind_some, beq_self_eq_true, Bool.not_true, cond_false]
  by_cases hr : RootR l e
  case neg =>
    rw [decB_neg hr]
    simp only [cond_false, Bool.not_false, cond_true, beq_self_eq_true]
  rw [decB_pos hr]
  simp only [cond_true]
  cases ho : (added l e).2 with
  | false =>
    simp only [Bool.not_false, cond_true]
    unfold added at ho ⊢
    cases hk : l.findIdx? (atP e.1 e.2.1) with
    | none => rw [hk] at ho; cases ho
    | some k =>
      rw [hk] at ho
      simp only at ho ⊢
      cases hap : apB (l.getD k e).2.2.1 e.2.2.1 with
      | true => rw [hap] at ho; cases ho
      | false => simp only [cond_false, beq_self_eq_true]
  | true =>
    obtain ⟨g1, g2, g3⟩ := added_ok hr
    have hz : zEntryS (added l e).1 ≤ 600000 := by
      have := zEnL _ g1
      omega
    have hR2 : RootR (added l e).1 e := ⟨hr.1, g1⟩
    simp only [Bool.not_true, cond_false]
    rw [implRoot_eq _ e (by omega) (by omega), decB_pos hR2]
    simp only [cond_true, Option.bind_some]
    rw [hit_loop _ _ _ _ (by omega), added_twice hr ho]
    have hhit : (added l e).1.any (hitP e) = true := by
      obtain ⟨k, x, q1, q2, _, _, q5⟩ := added_at hr ho
      obtain ⟨hi, hp, _⟩ := List.findIdx?_eq_some_iff_getElem.1 q1
      obtain ⟨_, hx⟩ := List.getElem?_eq_some_iff.1 q2
      rw [List.any_eq_true]
      refine ⟨x, List.mem_of_getElem? q2, ?_⟩
      rw [hx] at hp
      obtain ⟨a1, a2⟩ := atP_iff.1 hp
      unfold hitP
      rw [a1, a2]
      simp only [beq_self_eq_true, Bool.true_and, decide_eq_true_eq]
      exact q5
    rw [hhit]
    simp only [afterO, Bool.not_false, cond_true]
    rw [show w64 (len l + 1) = len l + 1 from w64_id (by simp only [len]; omega) (by simp only [len]; omega), show decide (len (added l e).1 ≤ len l + 1) = true from decide_eq_true (by simp only [len]; omega), show decide (len (added l e).1 ≥ len l) = true from decide_eq_true (by simp only [len]; omega)]
    rfl
end Go.Proofs.YtipaepbmdooekaaGreat.Vm
