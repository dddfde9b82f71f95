/- Loops by rounds: a loop over a list (or over so many rounds) is a plain recursion. -/
import Derived.Test.YtabjfkongckhaaaV3
namespace Go.Proofs.Ytabjfkongckhaaa.Vm
open Go Go.RowKit
set_option linter.unusedVariables false

/-- The rounds over a list: from place i on. -/
def runL {α S A : Type} (g : Nat → S → α → S ⊕ A) : Nat → List α → S → S ⊕ A
  | _, [], s => .inl s
  | i, x :: l, s => match g i s x with
    | .inl s' => runL g (i + 1) l s'
    | .inr a => .inr a
/-- So many rounds. -/
def runN {S A : Type} (g : Nat → S → S ⊕ A) : Nat → Nat → S → S ⊕ A
  | 0, _, s => .inl s
  | k + 1, i, s => match g i s with
    | .inl s' => runN g k (i + 1) s'
    | .inr a => .inr a
def again {X A S : Type} (mk : S → X) : S ⊕ A → Lp X A
  | .inl s => .again (mk s)
  | .inr a => .ret a
theorem loop_n {X A S : Type} {step : X → Option (Lp X A)} (n : Nat) (mk : Nat → S → X) (g : Nat → S → S ⊕ A) (P : Nat → S → Prop)
    (h : ∀ i s, i < n → P i s → step (mk i s) = some (again (mk (i + 1)) (g i s)) ∧ ∀ s', g i s = .inl s' → P (i + 1) s')
    (he : ∀ s, P n s → step (mk n s) = some (.exit (mk n s))) {s : S} (h0 : P 0 s) :
    loopO step (mk 0 s) = some (Sum.map (mk n) id (runN g n 0 s)) ∧ ∀ s', runN g n 0 s = .inl s' → P n s' := by
  have key : ∀ k i s, i + k = n → P i s → iterO step (k + 1) (mk i s) = some (Sum.map (mk n) id (runN g k i s)) ∧ ∀ s', runN g k i s = .inl s' → P n s' := by
    intro k
    induction k with
    | zero =>
      intro i s hi hp
      have hi : i = n := by omega
      subst hi
      refine ⟨?_, fun s' hs => by cases hs; exact hp⟩
      simp only [iterO, he s hp]; rfl
    | succ k ih =>
      intro i s hi hp
      obtain ⟨h1, h2⟩ := h i s (by omega) hp
      rw [iterO, h1]
      cases hg : g i s with
      | inl s' =>
        simp only [again, runN, hg]
        exact ih (i + 1) s' (by omega) (h2 s' hg)
      | inr a =>
        simp only [again, runN, hg]
        exact ⟨rfl, fun s' hs => by cases hs⟩
  obtain ⟨k1, k2⟩ := key n 0 s (by omega) h0
  exact ⟨loopO_of k1, k2⟩
theorem runN_list {α S A : Type} (g : Nat → S → α → S ⊕ A) (d : α) (l : List α) (s : S) : runN (fun i s => g i s (l.getD i d)) l.length 0 s = runL g 0 l s := by
  have key : ∀ (m : List α) (i : Nat) (s : S), l.drop i = m → runN (fun i s => g i s (l.getD i d)) m.length i s = runL g i m s := by
    intro m
    induction m with
    | nil => intro i s _; rfl
    | cons x m ih =>
      intro i s h
      have hx : l.getD i d = x := by
        rw [List.getD_eq_getElem?_getD, show l[i]? = some x by rw [← List.head?_drop, h]; rfl]; rfl
      simp only [List.length_cons, runN, runL, hx]
      cases g i s x with
      | inl s' => exact ih (i + 1) s' (by rw [← List.drop_drop, h]; rfl)
      | inr a => rfl
  exact key l 0 s rfl
theorem loop_l {X A S α : Type} {step : X → Option (Lp X A)} (l : List α) (mk : Nat → S → X) (g : Nat → S → α → S ⊕ A) (P : Nat → S → Prop)
    (h : ∀ i s (hi : i < l.length), P i s → step (mk i s) = some (again (mk (i + 1)) (g i s l[i])) ∧ ∀ s', g i s l[i] = .inl s' → P (i + 1) s')
    (he : ∀ s, P l.length s → step (mk l.length s) = some (.exit (mk l.length s))) {s : S} (h0 : P 0 s) :
    loopO step (mk 0 s) = some (Sum.map (mk l.length) id (runL g 0 l s)) ∧ ∀ s', runL g 0 l s = .inl s' → P l.length s' := by
  cases l with
  | nil =>
    obtain ⟨h1, h2⟩ := loop_n (step := step) 0 mk (fun _ s => .inl s) P (fun i s hi => by omega) he h0
    exact ⟨h1, h2⟩
  | cons x l =>
    obtain ⟨h1, h2⟩ := loop_n (step := step) (x :: l).length mk (fun i s => g i s ((x :: l).getD i x)) P (fun i s hi hp => by
      rw [getD_at hi]; exact h i s hi hp) he h0
    rw [runN_list] at h1 h2
    exact ⟨h1, h2⟩
/-- Without an invariant. -/
theorem loop_l0 {X A S α : Type} {step : X → Option (Lp X A)} (l : List α) (mk : Nat → S → X) (g : Nat → S → α → S ⊕ A)
    (h : ∀ i s (hi : i < l.length), step (mk i s) = some (again (mk (i + 1)) (g i s l[i])))
    (he : ∀ s, step (mk l.length s) = some (.exit (mk l.length s))) (s : S) :
    loopO step (mk 0 s) = some (Sum.map (mk l.length) id (runL g 0 l s)) :=
  (loop_l l mk g (fun _ _ => True) (fun i s hi _ => ⟨h i s hi, fun _ _ => trivial⟩) (fun s _ => he s) (s := s) trivial).1
/-- It ends at the first that is not so. -/
theorem loop_all {X A α : Type} {step : X → Option (Lp X A)} (l : List α) (mk : Nat → X) (p : α → Bool) (a : A)
    (h : ∀ i (hi : i < l.length), step (mk i) = some (bif p l[i] then .again (mk (i + 1)) else .ret a))
    (he : step (mk l.length) = some (.exit (mk l.length))) :
    loopO step (mk 0) = some (bif l.all p then .inl (mk l.length) else .inr a) := by
  have := loop_l0 (step := step) l (fun i (_ : Unit) => mk i) (fun _ _ x => bif p x then .inl () else .inr a) (fun i s hi => by
    rw [h i hi]; cases p l[i] <;> rfl) (fun _ => he) ()
  rw [this]
  have key : ∀ (m : List α) (i : Nat), Sum.map (fun (_ : Unit) => mk l.length) id (runL (fun _ _ x => bif p x then (.inl () : Unit ⊕ A) else .inr a) i m ()) = bif m.all p then .inl (mk l.length) else .inr a := by
    intro m
    induction m with
    | nil => intro i; rfl
    | cons x m ih =>
      intro i
      simp only [runL, List.all_cons]
      cases p x with
      | false => rfl
      | true => exact ih (i + 1)
  rw [key l 0]
theorem loop_any {X A α : Type} {step : X → Option (Lp X A)} (l : List α) (mk : Nat → X) (p : α → Bool) (a : A)
    (h : ∀ i (hi : i < l.length), step (mk i) = some (bif p l[i] then .ret a else .again (mk (i + 1))))
    (he : step (mk l.length) = some (.exit (mk l.length))) :
    loopO step (mk 0) = some (bif l.any p then .inr a else .inl (mk l.length)) := by
  have := loop_all (step := step) l mk (fun x => !p x) a (fun i hi => by rw [h i hi]; cases p l[i] <;> rfl) he
  rw [this]
  have e : ∀ m : List α, m.all (fun x => !p x) = !m.any p := by
    intro m
    induction m with
    | nil => rfl
    | cons x m ih => rw [List.all_cons, List.any_cons, ih]; cases p x <;> rfl
  rw [e]
  cases l.any p <;> rfl
/-- It gathers. -/
theorem loop_fold {X A S α : Type} {step : X → Option (Lp X A)} (l : List α) (mk : Nat → S → X) (f : S → α → S)
    (h : ∀ i s (hi : i < l.length), step (mk i s) = some (.again (mk (i + 1) (f s l[i]))))
    (he : ∀ s, step (mk l.length s) = some (.exit (mk l.length s))) (s : S) :
    loopO step (mk 0 s) = some (.inl (mk l.length (l.foldl f s))) := by
  have := loop_l0 (step := step) l mk (fun _ s x => .inl (f s x)) (fun i s hi => h i s hi) he s
  rw [this]
  have key : ∀ (m : List α) (i : Nat) (s : S), runL (fun _ s x => (.inl (f s x) : S ⊕ A)) i m s = .inl (m.foldl f s) := by
    intro m
    induction m with
    | nil => intro i s; rfl
    | cons x m ih => intro i s; exact ih (i + 1) (f s x)
  rw [key l 0 s]; rfl
/-- It gathers, and keeps what it is asked to keep. -/
theorem loop_foldP {X A S α : Type} {step : X → Option (Lp X A)} (l : List α) (mk : Nat → S → X) (f : S → α → S) (P : Nat → S → Prop)
    (h : ∀ i s (hi : i < l.length), P i s → step (mk i s) = some (.again (mk (i + 1) (f s l[i]))) ∧ P (i + 1) (f s l[i]))
    (he : ∀ s, P l.length s → step (mk l.length s) = some (.exit (mk l.length s))) {s : S} (h0 : P 0 s) :
    loopO step (mk 0 s) = some (.inl (mk l.length (l.foldl f s))) ∧ P l.length (l.foldl f s) := by
  obtain ⟨h1, h2⟩ := loop_l (step := step) l mk (fun _ s x => .inl (f s x)) P (fun i s hi hp => ⟨(h i s hi hp).1, fun s' e => by cases e; exact (h i s hi hp).2⟩) he h0
  have key : ∀ (m : List α) (i : Nat) (s : S), runL (fun _ s x => (.inl (f s x) : S ⊕ A)) i m s = .inl (m.foldl f s) := by
    intro m
    induction m with
    | nil => intro i s; rfl
    | cons x m ih => intro i s; exact ih (i + 1) (f s x)
  rw [key l 0 s] at h1 h2
  exact ⟨h1, h2 _ rfl⟩
theorem fits_of {n b : Nat} (h : n * b ≤ 140737488355328) : fits n b = true := decide_eq_true h
theorem foldl_snoc {α β : Type} (f : α → β) : ∀ (l : List α) (acc : List β), l.foldl (fun s x => s ++ [f x]) acc = acc ++ l.map f
  | [], acc => by simp
  | x :: l, acc => by rw [List.foldl_cons, foldl_snoc f l]; simp
theorem foldl_app {α β : Type} (f : α → List β) : ∀ (l : List α) (acc : List β), l.foldl (fun s x => s ++ f x) acc = acc ++ l.flatMap f
  | [], acc => by simp
  | x :: l, acc => by rw [List.foldl_cons, foldl_app f l]; simp
end Go.Proofs.Ytabjfkongckhaaa.Vm
