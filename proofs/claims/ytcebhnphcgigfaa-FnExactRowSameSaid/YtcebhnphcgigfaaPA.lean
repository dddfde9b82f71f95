import Derived.Test.YtcebhnphcgigfaaGf
import Derived.Test.YtcebhnphcgigfaaV3
namespace Go.Proofs.Ytcebhnphcgigfaa.Vm
open Go Go.RowKit
set_option linter.unusedVariables false
/- Loops by rounds: a loop over a list (or over so many rounds) is a plain recursion. -/

/-- The rounds over a list: from place i on. -/
def runL {α S A : Type} (g : Nat → S → α → S ⊕ A) : Nat → List α → S → S ⊕ A
  | _, [], s => .inl s
  | i, x :: l, s => match g i s x with
    | .inl s' => runL g (i + 1) l s'
    | .inr a => .inr a
/-- So many rounds. -/
def runN {S A : Type} (g : Nat → S → S ⊕ A) : Nat → Nat → S → S ⊕ A
  | 0, _, s => .inl s
  | k + 1, i, s => match g i s with
    | .inl s' => runN g k (i + 1) s'
    | .inr a => .inr a
def again {X A S : Type} (mk : S → X) : S ⊕ A → Lp X A
  | .inl s => .again (mk s)
  | .inr a => .ret a
theorem loop_n {X A S : Type} {step : X → Option (Lp X A)} (n : Nat) (mk : Nat → S → X) (g : Nat → S → S ⊕ A) (P : Nat → S → Prop)
    (h : ∀ i s, i < n → P i s → step (mk i s) = some (again (mk (i + 1)) (g i s)) ∧ ∀ s', g i s = .inl s' → P (i + 1) s')
    (he : ∀ s, P n s → step (mk n s) = some (.exit (mk n s))) {s : S} (h0 : P 0 s) :
    loopO step (mk 0 s) = some (Sum.map (mk n) id (runN g n 0 s)) ∧ ∀ s', runN g n 0 s = .inl s' → P n s' := by
  have key : ∀ k i s, i + k = n → P i s → iterO step (k + 1) (mk i s) = some (Sum.map (mk n) id (runN g k i s)) ∧ ∀ s', runN g k i s = .inl s' → P n s' := by
    intro k
    induction k with
    | zero =>
      intro i s hi hp
      have hi : i = n := by omega
      subst hi
      refine ⟨?_, fun s' hs => by cases hs; exact hp⟩
      simp only [iterO, he s hp]; rfl
    | succ k ih =>
      intro i s hi hp
      obtain ⟨h1, h2⟩ := h i s (by omega) hp
      rw [iterO, h1]
      cases hg : g i s with
      | inl s' =>
        simp only [again, runN, hg]
        exact ih (i + 1) s' (by omega) (h2 s' hg)
      | inr a =>
        simp only [again, runN, hg]
        exact ⟨rfl, fun s' hs => by cases hs⟩
  obtain ⟨k1, k2⟩ := key n 0 s (by omega) h0
  exact ⟨loopO_of k1, k2⟩
theorem runN_list {α S A : Type} (g : Nat → S → α → S ⊕ A) (d : α) (l : List α) (s : S) : runN (fun i s => g i s (l.getD i d)) l.length 0 s = runL g 0 l s := by
  have key : ∀ (m : List α) (i : Nat) (s : S), l.drop i = m → runN (fun i s => g i s (l.getD i d)) m.length i s = runL g i m s := by
    intro m
    induction m with
    | nil => intro i s _; rfl
    | cons x m ih =>
      intro i s h
      have hx : l.getD i d = x := by
        rw [List.getD_eq_getElem?_getD, show l[i]? = some x by rw [← List.head?_drop, h]; rfl]; rfl
      simp only [List.length_cons, runN, runL, hx]
      cases g i s x with
      | inl s' => exact ih (i + 1) s' (by rw [← List.drop_drop, h]; rfl)
      | inr a => rfl
  exact key l 0 s rfl
theorem loop_l {X A S α : Type} {step : X → Option (Lp X A)} (l : List α) (mk : Nat → S → X) (g : Nat → S → α → S ⊕ A) (P : Nat → S → Prop)
    (h : ∀ i s (hi : i < l.length), P i s → step (mk i s) = some (again (mk (i + 1)) (g i s l[i])) ∧ ∀ s', g i s l[i] = .inl s' → P (i + 1) s')
    (he : ∀ s, P l.length s → step (mk l.length s) = some (.exit (mk l.length s))) {s : S} (h0 : P 0 s) :
    loopO step (mk 0 s) = some (Sum.map (mk l.length) id (runL g 0 l s)) ∧ ∀ s', runL g 0 l s = .inl s' → P l.length s' := by
  cases l with
  | nil =>
    obtain ⟨h1, h2⟩ := loop_n (step := step) 0 mk (fun _ s => .inl s) P (fun i s hi => by omega) he h0
    exact ⟨h1, h2⟩
  | cons x l =>
    obtain ⟨h1, h2⟩ := loop_n (step := step) (x :: l).length mk (fun i s => g i s ((x :: l).getD i x)) P (fun i s hi hp => by
      rw [getD_at hi]; exact h i s hi hp) he h0
    rw [runN_list] at h1 h2
    exact ⟨h1, h2⟩
/-- Without an invariant. -/
theorem loop_l0 {X A S α : Type} {step : X → Option (Lp X A)} (l : List α) (mk : Nat → S → X) (g : Nat → S → α → S ⊕ A)
    (h : ∀ i s (hi : i < l.length), step (mk i s) = some (again (mk (i + 1)) (g i s l[i])))
    (he : ∀ s, step (mk l.length s) = some (.exit (mk l.length s))) (s : S) :
    loopO step (mk 0 s) = some (Sum.map (mk l.length) id (runL g 0 l s)) :=
  (loop_l l mk g (fun _ _ => True) (fun i s hi _ => ⟨h i s hi, fun _ _ => trivial⟩) (fun s _ => he s) (s := s) trivial).1
/-- It ends at the first that is not so. -/
theorem loop_all {X A α : Type} {step : X → Option (Lp X A)} (l : List α) (mk : Nat → X) (p : α → Bool) (a : A)
    (h : ∀ i (hi : i < l.length), step (mk i) = some (bif p l[i] then .again (mk (i + 1)) else .ret a))
    (he : step (mk l.length) = some (.exit (mk l.length))) :
    loopO step (mk 0) = some (bif l.all p then .inl (mk l.length) else .inr a) := by
  have := loop_l0 (step := step) l (fun i (_ : Unit) => mk i) (fun _ _ x => bif p x then .inl () else .inr a) (fun i s hi => by
    rw [h i hi]; cases p l[i] <;> rfl) (fun _ => he) ()
  rw [this]
  have key : ∀ (m : List α) (i : Nat), Sum.map (fun (_ : Unit) => mk l.length) id (runL (fun _ _ x => bif p x then (.inl () : Unit ⊕ A) else .inr a) i m ()) = bif m.all p then .inl (mk l.length) else .inr a := by
    intro m
    induction m with
    | nil => intro i; rfl
    | cons x m ih =>
      intro i
      simp only [runL, List.all_cons]
      cases p x with
      | false => rfl
      | true => exact ih (i + 1)
  rw [key l 0]
theorem loop_any {X A α : Type} {step : X → Option (Lp X A)} (l : List α) (mk : Nat → X) (p : α → Bool) (a : A)
    (h : ∀ i (hi : i < l.length), step (mk i) = some (bif p l[i] then .ret a else .again (mk (i + 1))))
    (he : step (mk l.length) = some (.exit (mk l.length))) :
    loopO step (mk 0) = some (bif l.any p then .inr a else .inl (mk l.length)) := by
  have := loop_all (step := step) l mk (fun x => !p x) a (fun i hi => by rw [h i hi]; cases p l[i] <;> rfl) he
  rw [this]
  have e : ∀ m : List α, m.all (fun x => !p x) = !m.any p := by
    intro m
    induction m with
    | nil => rfl
    | cons x m ih => rw [List.all_cons, List.any_cons, ih]; cases p x <;> rfl
  rw [e]
  cases l.any p <;> rfl
/-- It gathers. -/
theorem loop_fold {X A S α : Type} {step : X → Option (Lp X A)} (l : List α) (mk : Nat → S → X) (f : S → α → S)
    (h : ∀ i s (hi : i < l.length), step (mk i s) = some (.again (mk (i + 1) (f s l[i]))))
    (he : ∀ s, step (mk l.length s) = some (.exit (mk l.length s))) (s : S) :
    loopO step (mk 0 s) = some (.inl (mk l.length (l.foldl f s))) := by
  have := loop_l0 (step := step) l mk (fun _ s x => .inl (f s x)) (fun i s hi => h i s hi) he s
  rw [this]
  have key : ∀ (m : List α) (i : Nat) (s : S), runL (fun _ s x => (.inl (f s x) : S ⊕ A)) i m s = .inl (m.foldl f s) := by
    intro m
    induction m with
    | nil => intro i s; rfl
    | cons x m ih => intro i s; exact ih (i + 1) (f s x)
  rw [key l 0 s]; rfl
/-- It gathers, and keeps what it is asked to keep. -/
theorem loop_foldP {X A S α : Type} {step : X → Option (Lp X A)} (l : List α) (mk : Nat → S → X) (f : S → α → S) (P : Nat → S → Prop)
    (h : ∀ i s (hi : i < l.length), P i s → step (mk i s) = some (.again (mk (i + 1) (f s l[i]))) ∧ P (i + 1) (f s l[i]))
    (he : ∀ s, P l.length s → step (mk l.length s) = some (.exit (mk l.length s))) {s : S} (h0 : P 0 s) :
    loopO step (mk 0 s) = some (.inl (mk l.length (l.foldl f s))) ∧ P l.length (l.foldl f s) := by
  obtain ⟨h1, h2⟩ := loop_l (step := step) l mk (fun _ s x => .inl (f s x)) P (fun i s hi hp => ⟨(h i s hi hp).1, fun s' e => by cases e; exact (h i s hi hp).2⟩) he h0
  have key : ∀ (m : List α) (i : Nat) (s : S), runL (fun _ s x => (.inl (f s x) : S ⊕ A)) i m s = .inl (m.foldl f s) := by
    intro m
    induction m with
    | nil => intro i s; rfl
    | cons x m ih => intro i s; exact ih (i + 1) (f s x)
  rw [key l 0 s] at h1 h2
  exact ⟨h1, h2 _ rfl⟩
theorem fits_of {n b : Nat} (h : n * b ≤ 140737488355328) : fits n b = true := decide_eq_true h
theorem foldl_snoc {α β : Type} (f : α → β) : ∀ (l : List α) (acc : List β), l.foldl (fun s x => s ++ [f x]) acc = acc ++ l.map f
  | [], acc => by simp
  | x :: l, acc => by rw [List.foldl_cons, foldl_snoc f l]; simp
theorem foldl_app {α β : Type} (f : α → List β) : ∀ (l : List α) (acc : List β), l.foldl (fun s x => s ++ f x) acc = acc ++ l.flatMap f
  | [], acc => by simp
  | x :: l, acc => by rw [List.foldl_cons, foldl_app f l]; simp
/- Lists that are copied, compared, counted, marked: loops of one shape each. -/

theorem getD_set_self {α : Type} {l : List α} {i : Nat} {x d : α} (h : i < l.length) : (l.set i x).getD i d = x := by
  rw [List.getD_eq_getElem?_getD, List.getElem?_set_self h]; rfl
theorem getD_mid {α : Type} {p : List α} {x d : α} {l : List α} : (p ++ x :: l).getD p.length d = x := by
  rw [List.getD_eq_getElem?_getD, List.getElem?_append_right (Nat.le_refl _), Nat.sub_self]; rfl
theorem set_mid {α : Type} {p : List α} {x y : α} {l : List α} : (p ++ x :: l).set p.length y = p ++ y :: l := by
  rw [List.set_append_right _ _ (Nat.le_refl _), Nat.sub_self]; rfl
theorem mid_app {α : Type} {p : List α} {y : α} {l : List α} : p ++ y :: l = (p ++ [y]) ++ l := by simp
section
variable {α A : Type}
theorem loop_of_iter {X A : Type} {step : X → Option (Lp X A)} {n : Nat} {x : X} {y : X ⊕ A} (h : iterO step n x = some y) : loopO step x = some y := loopO_of h
/-- Copied, element by element. -/
theorem loop_to {step : (List α × List α × Int × Unit) → Option (Lp (List α × List α × Int × Unit) A)} (l : List α) (d : α)
    (hs : ∀ i (m : List α) (hi : i < l.length), i < m.length → step (l, m, (i : Int), ()) = some (.again (l, m.set i l[i], ((i + 1 : Nat) : Int), ())))
    (he : ∀ m, step (l, m, ((l.length : Nat) : Int), ()) = some (.exit (l, m, ((l.length : Nat) : Int), ()))) :
    loopO step (l, List.replicate l.length d, 0, ()) = some (.inl (l, l, ((l.length : Nat) : Int), ())) := by
  have h := loop_run (step := step) (fun i => (l, mid d l i, (i : Int), ())) l.length (fun i hi => by
    rw [hs i _ hi (by rw [mid_len (by omega)]; exact hi)]
    have := copy_step d l hi
    rw [getD_at hi] at this
    unfold mid
    rw [this]) (l := .exit (l, l, ((l.length : Nat) : Int), ())) (y := .inl (l, l, ((l.length : Nat) : Int), ())) (by
      have e : mid d l l.length = l := by simp [mid]
      show step (l, mid d l l.length, ((l.length : Nat) : Int), ()) = _
      rw [e]; exact he l) rfl
  have e : mid d l 0 = List.replicate l.length d := by simp [mid]
  have h : loopO step (l, mid d l 0, ((0 : Nat) : Int), ()) = _ := h
  rw [e] at h
  exact h
/-- Each is what it is. -/
theorem loop_eq {step : (List α × List α × Int × Unit) → Option (Lp (List α × List α × Int × Unit) A)} (l : List α)
    (hs : ∀ i (hi : i < l.length), step (l, l, (i : Int), ()) = some (.again (l, l, ((i + 1 : Nat) : Int), ())))
    (he : step (l, l, ((l.length : Nat) : Int), ()) = some (.exit (l, l, ((l.length : Nat) : Int), ()))) :
    loopO step (l, l, 0, ()) = some (.inl (l, l, ((l.length : Nat) : Int), ())) :=
  loop_run (step := step) (fun i => (l, l, (i : Int), ())) l.length hs he rfl
/-- Counted down. -/
theorem loop_sz {step : (List α × Int × Int × Unit) → Option (Lp (List α × Int × Int × Unit) Int)} (sz : α → Nat) (l : List α) (n : Int) (h0 : 0 ≤ n)
    (hs : ∀ i (k : Int) (hi : i < l.length), 0 ≤ k → k ≤ n → step (l, k, (i : Int), ()) = some (if (sz l[i] : Int) ≤ k then .again (l, k - (sz l[i] : Int), ((i + 1 : Nat) : Int), ()) else .ret (-1)))
    (he : ∀ k, step (l, k, ((l.length : Nat) : Int), ()) = some (.exit (l, k, ((l.length : Nat) : Int), ()))) :
    loopO step (l, n, 0, ()) = some (if (((l.map sz).sum : Nat) : Int) ≤ n then .inl (l, n - ((l.map sz).sum : Nat), ((l.length : Nat) : Int), ()) else .inr (-1)) := by
  have key : ∀ (m p : List α) (k : Int), p ++ m = l → 0 ≤ k → k ≤ n → iterO step (m.length + 1) (l, k, ((p.length : Nat) : Int), ()) = some (if (((m.map sz).sum : Nat) : Int) ≤ k then .inl (l, k - ((m.map sz).sum : Nat), ((l.length : Nat) : Int), ()) else .inr (-1)) := by
    intro m
    induction m with
    | nil =>
      intro p k hp hk _
      have hp : p = l := by simpa using hp
      subst hp
      simp [iterO, he, hk]
    | cons x m ih =>
      intro p k hp hk hkn
      have hi : p.length < l.length := by rw [← hp]; simp
      have hx : l[p.length] = x := by subst hp; simp
      rw [iterO, hs p.length k hi hk hkn, hx]
      by_cases hle : (sz x : Int) ≤ k
      · rw [if_pos hle]
        simp only
        have := ih (p ++ [x]) (k - sz x) (by rw [← hp]; simp) (by omega) (by omega)
        rw [List.length_append] at this
        rw [show ((p.length + 1 : Nat) : Int) = ((p.length + [x].length : Nat) : Int) from rfl, List.length_cons, this]
        congr 1
        simp only [List.map_cons, List.sum_cons]
        by_cases h2 : (((m.map sz).sum : Nat) : Int) ≤ k - sz x
        · rw [if_pos h2, if_pos (by omega)]
          congr 3; omega
        · rw [if_neg h2, if_neg (by omega)]
      · rw [if_neg hle]
        simp only [List.map_cons, List.sum_cons]
        rw [if_neg (by omega)]
  exact loopO_of (key l [] n rfl h0 (Int.le_refl _))
/-- Marked. -/
theorem loop_mark1 {mstep : (Int × Int × List α × Unit) → Option (Lp (Int × Int × List α × Unit) (Int × List α))} (d : α) (cnt : α → Nat) (B : Int) (l : List α) (k : Int) (hk : 0 ≤ k) (hB : k + (((l.map cnt).sum : Nat) : Int) ≤ B)
    (hel : ∀ x ∈ l, ∀ k : Int, 0 ≤ k → k + (cnt x : Int) ≤ B → ∃ x',
      (∀ (i : Nat) (m : List α), i < m.length → m.length = l.length → m.getD i d = x → mstep (k, (i : Int), m, ()) = some (.again (k + cnt x, ((i + 1 : Nat) : Int), m.set i x', ()))))
    (hm : ∀ (m : List α) (k : Int), mstep (k, ((m.length : Nat) : Int), m, ()) = some (.exit (k, ((m.length : Nat) : Int), m, ()))) :
    ∃ l', loopO mstep (k, 0, l, ()) = some (.inl (k + ((l.map cnt).sum : Nat), ((l.length : Nat) : Int), l', ())) := by
  have key : ∀ (m p : List α) (k : Int), (∀ x ∈ m, x ∈ l) → p.length + m.length = l.length → 0 ≤ k → k + (((m.map cnt).sum : Nat) : Int) ≤ B → ∃ m', m'.length = m.length ∧
      iterO mstep (m.length + 1) (k, ((p.length : Nat) : Int), p ++ m, ()) = some (.inl (k + ((m.map cnt).sum : Nat), ((l.length : Nat) : Int), p ++ m', ())) := by
    intro m
    induction m with
    | nil =>
      intro p k _ hp _ _
      have hp : p.length = l.length := by simpa using hp
      refine ⟨[], rfl, ?_⟩
      have := hm p k
      simp [iterO, hp]
      rw [hp] at this
      simp [this]
    | cons x m ih =>
      intro p k hmem hp hk hB
      simp only [List.map_cons, List.sum_cons] at hB
      obtain ⟨x', h1⟩ := hel x (hmem x (by simp)) k hk (by omega)
      obtain ⟨m', g0, g1⟩ := ih (p ++ [x']) (k + cnt x) (fun y hy => hmem y (by simp [hy])) (by simp at hp ⊢; omega) (by omega) (by omega)
      refine ⟨x' :: m', by simp [g0], ?_⟩
      rw [iterO, h1 p.length (p ++ x :: m) (by simp) (by simp at hp ⊢; omega) getD_mid, set_mid]
      simp only
      rw [show p ++ x' :: m = (p ++ [x']) ++ m by simp, show p ++ x' :: m' = (p ++ [x']) ++ m' by simp, List.length_cons]
      rw [List.length_append] at g1
      refine g1.trans ?_
      simp only [List.map_cons, List.sum_cons]
      congr 3; omega
  obtain ⟨l', _, h1⟩ := key l [] k (fun _ h => h) (by simp) hk hB
  exact ⟨l', loopO_of h1⟩
/-- Marked, and found as marked. -/
theorem loop_mark {mstep : (Int × Int × List α × Unit) → Option (Lp (Int × Int × List α × Unit) (Int × List α))} {hstep : (List α × Int × Int × Unit) → Option (Lp (List α × Int × Int × Unit) Int)} (d : α) (cnt : α → Nat) (B : Int) (l : List α) (k : Int) (hk : 0 ≤ k) (hB : k + (((l.map cnt).sum : Nat) : Int) ≤ B)
    (hel : ∀ x ∈ l, ∀ k : Int, 0 ≤ k → k + (cnt x : Int) ≤ B → ∃ x',
      (∀ (i : Nat) (m : List α), i < m.length → m.length = l.length → m.getD i d = x → mstep (k, (i : Int), m, ()) = some (.again (k + cnt x, ((i + 1 : Nat) : Int), m.set i x', ()))) ∧
      (∀ (i : Nat) (m : List α), i < m.length → m.length = l.length → m.getD i d = x' → hstep (m, k, (i : Int), ()) = some (.again (m, k + cnt x, ((i + 1 : Nat) : Int), ()))))
    (hm : ∀ (m : List α) (k : Int), mstep (k, ((m.length : Nat) : Int), m, ()) = some (.exit (k, ((m.length : Nat) : Int), m, ())))
    (hh : ∀ (m : List α) (k : Int), hstep (m, k, ((m.length : Nat) : Int), ()) = some (.exit (m, k, ((m.length : Nat) : Int), ()))) :
    ∃ l', loopO mstep (k, 0, l, ()) = some (.inl (k + ((l.map cnt).sum : Nat), ((l.length : Nat) : Int), l', ())) ∧ loopO hstep (l', k, 0, ()) = some (.inl (l', k + ((l.map cnt).sum : Nat), ((l.length : Nat) : Int), ())) := by
  have key : ∀ (m p : List α) (k : Int), (∀ x ∈ m, x ∈ l) → p.length + m.length = l.length → 0 ≤ k → k + (((m.map cnt).sum : Nat) : Int) ≤ B → ∃ m', m'.length = m.length ∧
      iterO mstep (m.length + 1) (k, ((p.length : Nat) : Int), p ++ m, ()) = some (.inl (k + ((m.map cnt).sum : Nat), ((l.length : Nat) : Int), p ++ m', ())) ∧
      ∀ q : List α, q.length = p.length → iterO hstep (m.length + 1) (q ++ m', k, ((p.length : Nat) : Int), ()) = some (.inl (q ++ m', k + ((m.map cnt).sum : Nat), ((l.length : Nat) : Int), ())) := by
    intro m
    induction m with
    | nil =>
      intro p k _ hp _ _
      have hp : p.length = l.length := by simpa using hp
      refine ⟨[], rfl, ?_, fun q hq => ?_⟩
      · have := hm p k
        simp [iterO, hp]
        rw [hp] at this
        simp [this]
      · have := hh q k
        rw [hq, hp] at this
        simp [iterO, hp, this]
    | cons x m ih =>
      intro p k hmem hp hk hB
      simp only [List.map_cons, List.sum_cons] at hB
      obtain ⟨x', h1, h2⟩ := hel x (hmem x (by simp)) k hk (by omega)
      obtain ⟨m', g0, g1, g2⟩ := ih (p ++ [x']) (k + cnt x) (fun y hy => hmem y (by simp [hy])) (by simp at hp ⊢; omega) (by omega) (by omega)
      refine ⟨x' :: m', by simp [g0], ?_, fun q hq => ?_⟩
      · rw [iterO, h1 p.length (p ++ x :: m) (by simp) (by simp at hp ⊢; omega) getD_mid, set_mid]
        simp only
        rw [show p ++ x' :: m = (p ++ [x']) ++ m by simp, show p ++ x' :: m' = (p ++ [x']) ++ m' by simp, List.length_cons]
        rw [List.length_append] at g1
        refine g1.trans ?_
        simp only [List.map_cons, List.sum_cons]
        congr 3; omega
      · rw [iterO, show ((p.length : Nat) : Int) = ((q.length : Nat) : Int) by rw [hq], h2 q.length (q ++ x' :: m') (by simp) (by simp at hp ⊢; omega) getD_mid]
        simp only
        have := g2 (q ++ [x']) (by simp [hq])
        rw [List.length_append] at this
        rw [mid_app, List.length_cons, hq]
        refine this.trans ?_
        simp only [List.map_cons, List.sum_cons]
        congr 4; omega
  obtain ⟨l', _, h1, h2⟩ := key l [] k (fun _ h => h) (by simp) hk hB
  exact ⟨l', loopO_of h1, loopO_of (h2 [] rfl)⟩
end
/- What tells lists alike, compared with equality. -/

open Classical in
/-- Are they equal? -/
noncomputable def eqd {α : Type} (a b : α) : Bool := decide (a = b)
theorem eqd_true {α : Type} {a b : α} : eqd a b = true ↔ a = b := by simp [eqd]
theorem eqd_self {α : Type} (a : α) : eqd a a = true := by simp [eqd]
theorem eqd_ne {α : Type} {a b : α} (h : a ≠ b) : eqd a b = false := by simp [eqd, h]
theorem zip_all {α : Type} : ∀ {a b : List α}, a.length = b.length → (a.zip b).all (fun q => eqd q.1 q.2) = eqd a b
  | [], [], _ => by simp [eqd]
  | x :: a, y :: b, h => by
    rw [List.zip_cons_cons, List.all_cons, zip_all (by simpa using h)]
    by_cases h1 : x = y <;> by_cases h2 : a = b <;> simp [eqd, h1, h2]
  | [], _ :: _, h => by simp at h
  | _ :: _, [], h => by simp at h
/-- It ends at the first place where they differ. -/
theorem loop_dec {X α : Type} {step : X → Option (Lp X Bool)} (a b : List α) (mk : Nat → X) (hl : a.length = b.length)
    (h : ∀ i (ha : i < a.length) (hb : i < b.length), step (mk i) = some (bif eqd a[i] b[i] then .again (mk (i + 1)) else .ret false))
    (he : step (mk a.length) = some (.exit (mk a.length))) :
    loopO step (mk 0) = some (bif eqd a b then .inl (mk a.length) else .inr false) := by
  have hz : (a.zip b).length = a.length := by rw [List.length_zip]; omega
  have := loop_all (step := step) (a.zip b) mk (fun q => eqd q.1 q.2) false (fun i hi => by
    rw [h i (by omega) (by omega), List.getElem_zip]) (by rw [hz]; exact he)
  rw [this, zip_all hl, hz]
theorem beq_dec {α : Type} [BEq α] [LawfulBEq α] (x y : α) : (x == y) = eqd x y := by by_cases h : x = y <;> simp [eqd, h]
theorem bne_dec (x y : Int) : (x != y) = !eqd x y := by by_cases h : x = y <;> simp [eqd, h, bne]
theorem eqX_dec (a b : Int × Int × Unit) : Ty.eqX (.cons (.int .i64) (.cons (.int .i64) .nil)) a b = eqd a b := by
  obtain ⟨a0, a1, u⟩ := a
  obtain ⟨b0, b1, v⟩ := b
  by_cases h0 : a0 = b0 <;> by_cases h1 : a1 = b1 <;> simp [Ty.eqX, eqd, h0, h1]
/- Numbers alike. -/

theorem spec_l1Same_dec (a b : List Int) (h : a.length ≤ 1099511627776) : F.spec_l1Same a b = some (eqd a b) := by
  unfold F.spec_l1Same
  by_cases hl : a.length = b.length
  · rw [show (len a != len b) = false by simp only [len, hl, bne_self_eq_false]]
    have := loop_dec (step := F.spec_l1Same.s4) a b (fun i => (a, b, (i : Int), ())) hl (fun i ha hb => by
      unfold F.spec_l1Same.s4
      simp only
      rw [lt_len ha, inb_nat ha, inb_nat hb, Int.toNat_natCast, w64_nat (by omega), getD_at ha, getD_at hb]
      simp only [cond_true, chk_true, bne_dec]
      generalize eqd a[i] b[i] = d
      cases d <;> rfl) (by
      unfold F.spec_l1Same.s4
      simp only [ge_len, cond_false])
    simp only [cond_false]
    refine (congrArg (fun z => afterO z _) this).trans ?_
    cases eqd a b <;> rfl
  · rw [show (len a != len b) = true by simp only [len, bne_iff_ne, ne_eq]; omega, eqd_ne (fun e => hl (congrArg List.length e))]; rfl
theorem slices_Equal_int_dec (a b : List Int) (h : a.length ≤ 1099511627776) : F.slices_Equal_int a b = some (eqd a b) := by
  unfold F.slices_Equal_int
  by_cases hl : a.length = b.length
  · rw [show (len a != len b) = false by simp only [len, hl, bne_self_eq_false]]
    have := loop_dec (step := F.slices_Equal_int.s4) a b (fun i => (a, b, len a, (i : Int), ())) hl (fun i ha hb => by
      unfold F.slices_Equal_int.s4
      simp only
      rw [lt_len ha, inb_nat ha, inb_nat hb, Int.toNat_natCast, w64_nat (by omega), getD_at ha, getD_at hb]
      simp only [cond_true, chk_true, bne_dec]
      generalize eqd a[i] b[i] = d
      cases d <;> rfl) (by
      unfold F.slices_Equal_int.s4
      simp only [ge_len, cond_false])
    simp only [cond_false]
    refine (congrArg (fun z => afterO z _) this).trans ?_
    cases eqd a b <;> rfl
  · rw [show (len a != len b) = true by simp only [len, bne_iff_ne, ne_eq]; omega, eqd_ne (fun e => hl (congrArg List.length e))]; rfl
/- Sums over lists. -/

theorem sum_mem {α : Type} {f : α → Nat} {l : List α} {x : α} (h : x ∈ l) : f x ≤ (l.map f).sum := by
  induction l with
  | nil => cases h
  | cons y l ih =>
    simp only [List.map_cons, List.sum_cons]
    rcases List.mem_cons.1 h with rfl | h
    · omega
    · have := ih h; omega
theorem sum_le {α : Type} {f g : α → Nat} {n : Nat} : ∀ {l : List α}, (∀ x ∈ l, f x ≤ n + 10 * g x) → (l.map f).sum ≤ n * l.length + 10 * (l.map g).sum
  | [], _ => by simp
  | x :: l, h => by
    have h1 := h x (by simp)
    have h2 := sum_le (l := l) (fun y hy => h y (by simp [hy]))
    simp only [List.map_cons, List.sum_cons, List.length_cons, Nat.mul_add]
    omega
/- IntS: copied, compared, counted. -/

def zIntS (l : List Int) : Nat := l.length
def fIntS (l : List Int) : Prop := l.length ≤ maxLen
theorem toIntS (l : List Int) (h : zIntS l ≤ 1048576) : F.laws_toIntS l = some l := by
  have hl : l.length ≤ 1048576 := by unfold zIntS at h; omega
  unfold F.laws_toIntS
  rw [mk_ok (by omega), chk_true, show Int.toNat (len l) = l.length from Int.toNat_natCast _]
  have hh := loop_to (step := F.laws_toIntS.s3) l 0 (fun i m hi hm => by
    unfold F.laws_toIntS.s3
    simp only
    rw [lt_len hi, inb_nat hi, inb_nat hm, Int.toNat_natCast, w64_nat (by omega), getD_at hi]
    simp only [cond_true, chk_true]) (fun m => by
    unfold F.laws_toIntS.s3
    simp only [ge_len, cond_false])
  simp only [hh, afterO]
theorem eqIntS (l : List Int) (h : zIntS l ≤ 1099511627776) : F.laws_eqIntS l l = some true := by
  have hl : l.length ≤ 1099511627776 := by unfold zIntS at h; omega
  unfold F.laws_eqIntS
  rw [show (len l != len l) = false by simp]
  have hh := loop_eq (step := F.laws_eqIntS.s4) l (fun i hi => by
    unfold F.laws_eqIntS.s4
    simp only
    rw [lt_len hi, inb_nat hi, Int.toNat_natCast, w64_nat (by omega), bne_self_eq_false]
    simp only [cond_true, cond_false, chk_true]) (by
    unfold F.laws_eqIntS.s4
    simp only [ge_len, cond_false])
  simp only [cond_false, hh, afterO]
theorem szIntS (l : List Int) (n : Int) (hf : fIntS l) (h0 : 0 ≤ n) (h1 : n ≤ 1048576) : F.laws_szIntS l n = some (if (zIntS l : Int) ≤ n then n - (zIntS l : Int) else -1) := by
  have hf' : l.length ≤ 9223372036854775807 := hf
  have hz : zIntS l = l.length := rfl
  unfold F.laws_szIntS
  rw [show len l = (l.length : Int) from rfl, w64_id (by omega) (by omega), hz]
  by_cases hle : (l.length : Int) ≤ n
  · rw [if_pos hle, show decide (n - (l.length : Int) < 0) = false from decide_eq_false (by omega)]; rfl
  · rw [if_neg hle, show decide (n - (l.length : Int) < 0) = true from decide_eq_true (by omega)]; rfl
/- IntSS: copied, compared, counted. -/

def zIntSS (l : List (List Int)) : Nat := l.length + (l.map zIntS).sum
def fIntSS (l : List (List Int)) : Prop := l.length ≤ maxLen ∧ ∀ x ∈ l, fIntS x
theorem toIntSS (l : List (List Int)) (h : zIntSS l ≤ 1048576) : F.laws_toIntSS l = some l := by
  have hl : l.length ≤ 1048576 := by unfold zIntSS at h; omega
  have hel : ∀ x ∈ l, zIntS x ≤ 1048576 := fun x hm => (Nat.le_trans (sum_mem hm) (by unfold zIntSS at h; omega))
  unfold F.laws_toIntSS
  rw [mk_ok (by omega), chk_true, show Int.toNat (len l) = l.length from Int.toNat_natCast _]
  have hh := loop_to (step := F.laws_toIntSS.s3) l ([] : List Int) (fun i m hi hm => by
    unfold F.laws_toIntSS.s3
    simp only
    rw [lt_len hi, inb_nat hi, inb_nat hm, Int.toNat_natCast, w64_nat (by omega), getD_at hi]
    simp only [cond_true, chk_true, Option.bind_some, toIntS l[i] (hel l[i] (List.getElem_mem hi))]) (fun m => by
    unfold F.laws_toIntSS.s3
    simp only [ge_len, cond_false])
  simp only [hh, afterO]
theorem eqIntSS (l : List (List Int)) (h : zIntSS l ≤ 1099511627776) : F.laws_eqIntSS l l = some true := by
  have hl : l.length ≤ 1099511627776 := by unfold zIntSS at h; omega
  have hel : ∀ x ∈ l, zIntS x ≤ 1099511627776 := fun x hm => (Nat.le_trans (sum_mem hm) (by unfold zIntSS at h; omega))
  unfold F.laws_eqIntSS
  rw [show (len l != len l) = false by simp]
  have hh := loop_eq (step := F.laws_eqIntSS.s4) l (fun i hi => by
    unfold F.laws_eqIntSS.s4
    simp only
    rw [lt_len hi, inb_nat hi, Int.toNat_natCast, w64_nat (by omega), getD_at hi]
    simp only [cond_true, cond_false, chk_true, Option.bind_some, Bool.not_true, eqIntS l[i] (hel l[i] (List.getElem_mem hi))]) (by
    unfold F.laws_eqIntSS.s4
    simp only [ge_len, cond_false])
  simp only [cond_false, hh, afterO]
theorem szIntSS (l : List (List Int)) (n : Int) (hf : fIntSS l) (h0 : 0 ≤ n) (h1 : n ≤ 1048576) : F.laws_szIntSS l n = some (if (zIntSS l : Int) ≤ n then n - (zIntSS l : Int) else -1) := by
  obtain ⟨hf', hfe⟩ := hf
  have hf' : l.length ≤ 9223372036854775807 := hf'
  have hz : zIntSS l = l.length + (l.map zIntS).sum := rfl
  unfold F.laws_szIntSS
  rw [show len l = (l.length : Int) from rfl, w64_id (by omega) (by omega), hz]
  by_cases hle : (l.length : Int) ≤ n
  · rw [show decide (n - (l.length : Int) < 0) = false from decide_eq_false (by omega)]
    have hh := loop_sz (step := F.laws_szIntSS.s5) zIntS l (n - (l.length : Int)) (by omega) (fun i k hi hk hkn => by
      unfold F.laws_szIntSS.s5
      simp only
      rw [lt_len hi, inb_nat hi, Int.toNat_natCast, w64_nat (by omega), getD_at hi]
      simp only [cond_true, chk_true, szIntS l[i] k (hfe _ (List.getElem_mem hi)) hk (by omega), Option.bind_some]
      by_cases hx : (zIntS l[i] : Int) ≤ k
      · rw [if_pos hx, if_pos hx, show decide (k - (zIntS l[i] : Int) < 0) = false from decide_eq_false (by omega)]; rfl
      · rw [if_neg hx, if_neg hx]; rfl) (fun k => by
      unfold F.laws_szIntSS.s5
      simp only [ge_len, cond_false])
    simp only [cond_false, hh]
    by_cases hs : (((l.map zIntS).sum : Nat) : Int) ≤ n - (l.length : Int)
    · rw [if_pos hs, if_pos (by omega)]
      simp only [afterO]
      congr 1; omega
    · rw [if_neg hs, if_neg (by omega)]; rfl
  · rw [if_neg (by omega), show decide (n - (l.length : Int) < 0) = true from decide_eq_true (by omega)]; rfl
/- Sketch: copied, compared, counted. -/

def zSketch (a : DSketch) : Nat := zIntS a.2.2.2.2.1 + zIntS a.2.2.2.2.2.1 + zIntSS a.2.2.2.2.2.2.1
def fSketch (a : DSketch) : Prop := fIntS a.2.2.2.2.1 ∧ fIntS a.2.2.2.2.2.1 ∧ fIntSS a.2.2.2.2.2.2.1
theorem toSketch (a : DSketch) (h : zSketch a ≤ 1048576) : F.laws_toSketch a = some a := by
  unfold F.laws_toSketch
  simp only [toIntS a.2.2.2.2.1 (by unfold zSketch at h; omega), toIntS a.2.2.2.2.2.1 (by unfold zSketch at h; omega), toIntSS a.2.2.2.2.2.2.1 (by unfold zSketch at h; omega), Option.bind_some]
theorem eqSketch (a : DSketch) (h : zSketch a ≤ 1099511627776) : F.laws_eqSketch a a = some true := by
  unfold F.laws_eqSketch
  simp only [bne_self_eq_false, cond_false, Bool.not_true, Option.bind_some, eqIntS a.2.2.2.2.1 (by unfold zSketch at h; omega), eqIntS a.2.2.2.2.2.1 (by unfold zSketch at h; omega), eqIntSS a.2.2.2.2.2.2.1 (by unfold zSketch at h; omega)]
theorem szSketch (a : DSketch) (n : Int) (hf : fSketch a) (h0 : 0 ≤ n) (h1 : n ≤ 1048576) : F.laws_szSketch a n = some (if (zSketch a : Int) ≤ n then n - (zSketch a : Int) else -1) := by
  have hz : zSketch a = zIntS a.2.2.2.2.1 + zIntS a.2.2.2.2.2.1 + zIntSS a.2.2.2.2.2.2.1 := rfl
  unfold F.laws_szSketch
  unfold fSketch at hf
  rw [szIntS a.2.2.2.2.1 n hf.1 h0 h1]
  by_cases c0 : (zIntS a.2.2.2.2.1 : Int) ≤ n
  case neg => rw [if_neg c0, if_neg (by omega)]; rfl
  rw [if_pos c0]
  simp only [Option.bind_some]
  rw [show decide (n - (zIntS a.2.2.2.2.1 : Int) < 0) = false from decide_eq_false (by omega)]
  simp only [cond_false]
  rw [szIntS a.2.2.2.2.2.1 (n - (zIntS a.2.2.2.2.1 : Int)) hf.2.1 (by omega) (by omega)]
  by_cases c1 : (zIntS a.2.2.2.2.2.1 : Int) ≤ n - (zIntS a.2.2.2.2.1 : Int)
  case neg => rw [if_neg c1, if_neg (by omega)]; rfl
  rw [if_pos c1]
  simp only [Option.bind_some]
  rw [show decide (n - (zIntS a.2.2.2.2.1 : Int) - (zIntS a.2.2.2.2.2.1 : Int) < 0) = false from decide_eq_false (by omega)]
  simp only [cond_false]
  rw [szIntSS a.2.2.2.2.2.2.1 (n - (zIntS a.2.2.2.2.1 : Int) - (zIntS a.2.2.2.2.2.1 : Int)) hf.2.2 (by omega) (by omega)]
  by_cases c2 : (zIntSS a.2.2.2.2.2.2.1 : Int) ≤ n - (zIntS a.2.2.2.2.1 : Int) - (zIntS a.2.2.2.2.2.1 : Int)
  case neg => rw [if_neg c2, if_neg (by omega)]; rfl
  rw [if_pos c2]
  simp only [Option.bind_some]
  rw [show decide (n - (zIntS a.2.2.2.2.1 : Int) - (zIntS a.2.2.2.2.2.1 : Int) - (zIntSS a.2.2.2.2.2.2.1 : Int) < 0) = false from decide_eq_false (by omega)]
  simp only [cond_false]
  rw [if_pos (by omega)]
  first | rfl | (congr 1; omega)
/- Item: copied, compared, counted. -/

def zItem (a : DItem) : Nat := zSketch a.2.2.2.2.1
def fItem (a : DItem) : Prop := fSketch a.2.2.2.2.1
theorem toItem (a : DItem) (h : zItem a ≤ 1048576) : F.laws_toItem a = some a := by
  unfold F.laws_toItem
  simp only [toSketch a.2.2.2.2.1 (by unfold zItem at h; omega), Option.bind_some]
theorem eqItem (a : DItem) (h : zItem a ≤ 1099511627776) : F.laws_eqItem a a = some true := by
  unfold F.laws_eqItem
  simp only [bne_self_eq_false, cond_false, Bool.not_true, Option.bind_some, eqSketch a.2.2.2.2.1 (by unfold zItem at h; omega)]
theorem szItem (a : DItem) (n : Int) (hf : fItem a) (h0 : 0 ≤ n) (h1 : n ≤ 1048576) : F.laws_szItem a n = some (if (zItem a : Int) ≤ n then n - (zItem a : Int) else -1) := by
  have hz : zItem a = zSketch a.2.2.2.2.1 := rfl
  unfold F.laws_szItem
  unfold fItem at hf
  rw [szSketch a.2.2.2.2.1 n hf h0 h1]
  by_cases c0 : (zSketch a.2.2.2.2.1 : Int) ≤ n
  case neg => rw [if_neg c0, if_neg (by omega)]; rfl
  rw [if_pos c0]
  simp only [Option.bind_some]
  rw [show decide (n - (zSketch a.2.2.2.2.1 : Int) < 0) = false from decide_eq_false (by omega)]
  simp only [cond_false]
  rw [if_pos (by omega)]
  first | rfl | (congr 1; omega)
/- Sketches and items alike. -/

theorem slices_EqualFunc_SSint__slices_Equal_int_dec (a b : List (List Int)) (h : a.length ≤ 1099511627776) (hs : ∀ x ∈ a, x.length ≤ 1099511627776) : F.slices_EqualFunc_SSint__slices_Equal_int a b () = some (eqd a b) := by
  unfold F.slices_EqualFunc_SSint__slices_Equal_int
  by_cases hl : a.length = b.length
  · rw [show (len a != len b) = false by simp only [len, hl, bne_self_eq_false]]
    have := loop_dec (step := F.slices_EqualFunc_SSint__slices_Equal_int.s4) a b (fun i => (b, (), a, len a, (i : Int), ())) hl (fun i ha hb => by
      unfold F.slices_EqualFunc_SSint__slices_Equal_int.s4
      simp only
      rw [lt_len ha, inb_nat ha, inb_nat hb, Int.toNat_natCast, w64_nat (by omega), getD_at ha, getD_at hb]
      simp only [cond_true, chk_true, slices_Equal_int_dec _ _ (hs _ (List.getElem_mem ha)), Option.bind_some]
      generalize eqd a[i] b[i] = d
      cases d <;> rfl) (by
      unfold F.slices_EqualFunc_SSint__slices_Equal_int.s4
      simp only [ge_len, cond_false])
    simp only [cond_false]
    refine (congrArg (fun z => afterO z _) this).trans ?_
    cases eqd a b <;> rfl
  · rw [show (len a != len b) = true by simp only [len, bne_iff_ne, ne_eq]; omega, eqd_ne (fun e => hl (congrArg List.length e))]; rfl
theorem sketchRows_dec (a b : DSketch) (hl : a.2.2.2.2.2.2.1.length = b.2.2.2.2.2.2.1.length) (h : a.2.2.2.2.2.2.1.length ≤ 1099511627776) (hs : ∀ x ∈ a.2.2.2.2.2.2.1, x.length ≤ 1099511627776) : loopO F.spec_SketchSame.s4 (0, a, b, ()) = some (bif eqd a.2.2.2.2.2.2.1 b.2.2.2.2.2.2.1 then .inl ((a.2.2.2.2.2.2.1.length : Int), a, b, ()) else .inr false) := by
  have := loop_dec (step := F.spec_SketchSame.s4) a.2.2.2.2.2.2.1 b.2.2.2.2.2.2.1 (fun i => ((i : Int), a, b, ())) hl (fun i ha hb => by
    unfold F.spec_SketchSame.s4
    simp only
    rw [lt_len ha, inb_nat ha, inb_nat hb, Int.toNat_natCast, w64_nat (by omega), getD_at ha, getD_at hb, spec_l1Same_dec _ _ (hs _ (List.getElem_mem ha))]
    simp only [cond_true, chk_true, Option.bind_some]
    generalize eqd a.2.2.2.2.2.2.1[i] b.2.2.2.2.2.2.1[i] = d
    cases d <;> rfl) (by
    unfold F.spec_SketchSame.s4
    simp only [ge_len, cond_false])
  exact this
theorem spec_SketchSame_dec (a b : DSketch) (h : zSketch a ≤ 1099511627776) : F.spec_SketchSame a b = some (eqd a b) := by
  have hh : a.2.2.2.2.1.length ≤ 1099511627776 ∧ a.2.2.2.2.2.1.length ≤ 1099511627776 ∧ a.2.2.2.2.2.2.1.length ≤ 1099511627776 ∧ ∀ x ∈ a.2.2.2.2.2.2.1, x.length ≤ 1099511627776 := by
    unfold zSketch zIntS zIntSS at h
    exact ⟨by omega, by omega, by omega, fun x hx => by have := sum_mem (f := zIntS) hx; unfold zIntS at this; unfold zIntS at h; omega⟩
  obtain ⟨g1, g2, g3, g4⟩ := hh
  unfold F.spec_SketchSame
  simp only [bne_dec, spec_l1Same_dec _ _ g1, spec_l1Same_dec _ _ g2, Option.bind_some]
  obtain ⟨a0, a1, a2, a3, a4, a5, a6, u⟩ := a
  obtain ⟨b0, b1, b2, b3, b4, b5, b6, v⟩ := b
  by_cases h0 : a0 = b0
  case neg => simp [eqd, h0]
  subst h0
  by_cases h1 : a1 = b1
  case neg => simp [eqd, h1]
  subst h1
  by_cases h2 : a2 = b2
  case neg => simp [eqd, h2]
  subst h2
  by_cases h3 : a3 = b3
  case neg => simp [eqd, h3]
  subst h3
  by_cases h4 : a4 = b4
  case neg => simp [eqd, h4]
  subst h4
  by_cases h5 : a5 = b5
  case neg => simp [eqd, h5]
  subst h5
  by_cases hl : a6.length = b6.length
  case neg =>
    have hne : a6 ≠ b6 := fun e => hl (congrArg List.length e)
    have hl2 : eqd (len a6) (len b6) = false := eqd_ne (fun e => hl (Int.ofNat.inj e))
    simp [hl2, eqd_self, show eqd (a0, a1, a2, a3, a4, a5, a6, u) (a0, a1, a2, a3, a4, a5, b6, v) = false from eqd_ne (by simp [hne])]
  have hr := sketchRows_dec (a0, a1, a2, a3, a4, a5, a6, u) (a0, a1, a2, a3, a4, a5, b6, v) hl g3 g4
  simp only at hr
  simp only [eqd_self, Bool.not_true, cond_false, show eqd (len a6) (len b6) = true from eqd_true.2 (by simp [len, hl]), hr]
  by_cases h6 : a6 = b6
  · subst h6; simp [eqd, afterO]
  · simp [eqd, h6, afterO]
theorem impl_SketchSame_dec (a b : DSketch) (h : zSketch a ≤ 1099511627776) : F.impl_SketchSame a b = some (eqd a b) := by
  have hh : a.2.2.2.2.1.length ≤ 1099511627776 ∧ a.2.2.2.2.2.1.length ≤ 1099511627776 ∧ a.2.2.2.2.2.2.1.length ≤ 1099511627776 ∧ ∀ x ∈ a.2.2.2.2.2.2.1, x.length ≤ 1099511627776 := by
    unfold zSketch zIntS zIntSS at h
    exact ⟨by omega, by omega, by omega, fun x hx => by have := sum_mem (f := zIntS) hx; unfold zIntS at this; unfold zIntS at h; omega⟩
  obtain ⟨g1, g2, g3, g4⟩ := hh
  unfold F.impl_SketchSame
  simp only [beq_dec, slices_Equal_int_dec _ _ g1, slices_Equal_int_dec _ _ g2, slices_EqualFunc_SSint__slices_Equal_int_dec _ _ g3 g4, Option.bind_some]
  obtain ⟨a0, a1, a2, a3, a4, a5, a6, u⟩ := a
  obtain ⟨b0, b1, b2, b3, b4, b5, b6, v⟩ := b
  by_cases h0 : a0 = b0
  case neg => simp [eqd, h0]
  subst h0
  by_cases h1 : a1 = b1
  case neg => simp [eqd, h1]
  subst h1
  by_cases h2 : a2 = b2
  case neg => simp [eqd, h2]
  subst h2
  by_cases h3 : a3 = b3
  case neg => simp [eqd, h3]
  subst h3
  by_cases h4 : a4 = b4
  case neg => simp [eqd, h4]
  subst h4
  by_cases h5 : a5 = b5
  case neg => simp [eqd, h5]
  subst h5
  by_cases h6 : a6 = b6
  case neg => simp [eqd, h6]
  subst h6
  simp [eqd]
theorem spec_l7Item_dec (a b : DItem) (h : zItem a ≤ 1099511627776) : F.spec_l7Item a b = some (eqd a b) := by
  obtain ⟨a0, a1, a2, a3, a4, u⟩ := a
  obtain ⟨b0, b1, b2, b3, b4, v⟩ := b
  unfold F.spec_l7Item
  simp only [beq_dec, spec_SketchSame_dec _ _ h, Option.bind_some]
  by_cases h0 : a0 = b0
  case neg => simp [eqd, h0]
  subst h0
  by_cases h1 : a1 = b1
  case neg => simp [eqd, h1]
  subst h1
  by_cases h2 : a2 = b2
  case neg => simp [eqd, h2]
  subst h2
  by_cases h3 : a3 = b3
  case neg => simp [eqd, h3]
  subst h3
  by_cases h4 : a4 = b4
  case neg => simp [eqd, h4]
  subst h4
  simp [eqd]
theorem impl_itemSame_dec (a b : DItem) (h : zItem a ≤ 1099511627776) : F.impl_itemSame a b = some (eqd a b) := by
  obtain ⟨a0, a1, a2, a3, a4, u⟩ := a
  obtain ⟨b0, b1, b2, b3, b4, v⟩ := b
  unfold F.impl_itemSame
  simp only [beq_dec, impl_SketchSame_dec _ _ h, Option.bind_some]
  by_cases h0 : a0 = b0
  case neg => simp [eqd, h0]
  subst h0
  by_cases h1 : a1 = b1
  case neg => simp [eqd, h1]
  subst h1
  by_cases h2 : a2 = b2
  case neg => simp [eqd, h2]
  subst h2
  by_cases h3 : a3 = b3
  case neg => simp [eqd, h3]
  subst h3
  by_cases h4 : a4 = b4
  case neg => simp [eqd, h4]
  subst h4
  simp [eqd]
/- Spans alike. -/

theorem spec_l5Same_dec (a b : List DSpan) (h : a.length ≤ 1099511627776) : F.spec_l5Same a b = some (eqd a b) := by
  unfold F.spec_l5Same
  by_cases hl : a.length = b.length
  · rw [show (len a != len b) = false by simp only [len, hl, bne_self_eq_false]]
    have := loop_dec (step := F.spec_l5Same.s4) a b (fun i => (a, b, (i : Int), ())) hl (fun i ha hb => by
      unfold F.spec_l5Same.s4
      simp only
      rw [lt_len ha, inb_nat ha, inb_nat hb, Int.toNat_natCast, w64_nat (by omega), getD_at ha, getD_at hb]
      simp only [cond_true, chk_true, eqX_dec]
      generalize eqd a[i] b[i] = d
      cases d <;> rfl) (by
      unfold F.spec_l5Same.s4
      simp only [ge_len, cond_false])
    simp only [cond_false]
    refine (congrArg (fun z => afterO z _) this).trans ?_
    cases eqd a b <;> rfl
  · rw [show (len a != len b) = true by simp only [len, bne_iff_ne, ne_eq]; omega, eqd_ne (fun e => hl (congrArg List.length e))]; rfl
theorem slices_Equal_Span_dec (a b : List DSpan) (h : a.length ≤ 1099511627776) : F.slices_Equal_Span a b = some (eqd a b) := by
  unfold F.slices_Equal_Span
  by_cases hl : a.length = b.length
  · rw [show (len a != len b) = false by simp only [len, hl, bne_self_eq_false]]
    have := loop_dec (step := F.slices_Equal_Span.s4) a b (fun i => (a, b, len a, (i : Int), ())) hl (fun i ha hb => by
      unfold F.slices_Equal_Span.s4
      simp only
      rw [lt_len ha, inb_nat ha, inb_nat hb, Int.toNat_natCast, w64_nat (by omega), getD_at ha, getD_at hb]
      simp only [cond_true, chk_true, eqX_dec]
      generalize eqd a[i] b[i] = d
      cases d <;> rfl) (by
      unfold F.slices_Equal_Span.s4
      simp only [ge_len, cond_false])
    simp only [cond_false]
    refine (congrArg (fun z => afterO z _) this).trans ?_
    cases eqd a b <;> rfl
  · rw [show (len a != len b) = true by simp only [len, bne_iff_ne, ne_eq]; omega, eqd_ne (fun e => hl (congrArg List.length e))]; rfl
/- Span: copied, compared, counted. -/

theorem toSpan (a : DSpan) : F.laws_toSpan a = some a := rfl
theorem eqSpan (a : DSpan) : F.laws_eqSpan a a = some true := by
  unfold F.laws_eqSpan
  simp only [bne_self_eq_false, cond_false]
/- SpanS: copied, compared, counted. -/

def zSpanS (l : List DSpan) : Nat := l.length
def fSpanS (l : List DSpan) : Prop := l.length ≤ maxLen
theorem toSpanS (l : List DSpan) (h : zSpanS l ≤ 1048576) : F.laws_toSpanS l = some l := by
  have hl : l.length ≤ 1048576 := by unfold zSpanS at h; omega
  unfold F.laws_toSpanS
  rw [mk_ok (by omega), chk_true, show Int.toNat (len l) = l.length from Int.toNat_natCast _]
  have hh := loop_to (step := F.laws_toSpanS.s3) l (0, 0, ()) (fun i m hi hm => by
    unfold F.laws_toSpanS.s3
    simp only
    rw [lt_len hi, inb_nat hi, inb_nat hm, Int.toNat_natCast, w64_nat (by omega), getD_at hi]
    simp only [cond_true, chk_true, Option.bind_some, toSpan l[i]]) (fun m => by
    unfold F.laws_toSpanS.s3
    simp only [ge_len, cond_false])
  simp only [hh, afterO]
theorem eqSpanS (l : List DSpan) (h : zSpanS l ≤ 1099511627776) : F.laws_eqSpanS l l = some true := by
  have hl : l.length ≤ 1099511627776 := by unfold zSpanS at h; omega
  unfold F.laws_eqSpanS
  rw [show (len l != len l) = false by simp]
  have hh := loop_eq (step := F.laws_eqSpanS.s4) l (fun i hi => by
    unfold F.laws_eqSpanS.s4
    simp only
    rw [lt_len hi, inb_nat hi, Int.toNat_natCast, w64_nat (by omega), getD_at hi]
    simp only [cond_true, cond_false, chk_true, Option.bind_some, Bool.not_true, eqSpan l[i]]) (by
    unfold F.laws_eqSpanS.s4
    simp only [ge_len, cond_false])
  simp only [cond_false, hh, afterO]
theorem szSpanS (l : List DSpan) (n : Int) (hf : fSpanS l) (h0 : 0 ≤ n) (h1 : n ≤ 1048576) : F.laws_szSpanS l n = some (if (zSpanS l : Int) ≤ n then n - (zSpanS l : Int) else -1) := by
  have hf' : l.length ≤ 9223372036854775807 := hf
  have hz : zSpanS l = l.length := rfl
  unfold F.laws_szSpanS
  rw [show len l = (l.length : Int) from rfl, w64_id (by omega) (by omega), hz]
  by_cases hle : (l.length : Int) ≤ n
  · rw [if_pos hle, show decide (n - (l.length : Int) < 0) = false from decide_eq_false (by omega)]; rfl
  · rw [if_neg hle, show decide (n - (l.length : Int) < 0) = true from decide_eq_true (by omega)]; rfl
/- Entry: copied, compared, counted. -/

def zEntry (a : DEntry) : Nat := zSpanS a.2.2.1 + zSketch a.2.2.2.1
def fEntry (a : DEntry) : Prop := fSpanS a.2.2.1 ∧ fSketch a.2.2.2.1
theorem toEntry (a : DEntry) (h : zEntry a ≤ 1048576) : F.laws_toEntry a = some a := by
  unfold F.laws_toEntry
  simp only [toSpanS a.2.2.1 (by unfold zEntry at h; omega), toSketch a.2.2.2.1 (by unfold zEntry at h; omega), Option.bind_some]
theorem eqEntry (a : DEntry) (h : zEntry a ≤ 1099511627776) : F.laws_eqEntry a a = some true := by
  unfold F.laws_eqEntry
  simp only [bne_self_eq_false, cond_false, Bool.not_true, Option.bind_some, eqSpanS a.2.2.1 (by unfold zEntry at h; omega), eqSketch a.2.2.2.1 (by unfold zEntry at h; omega)]
theorem szEntry (a : DEntry) (n : Int) (hf : fEntry a) (h0 : 0 ≤ n) (h1 : n ≤ 1048576) : F.laws_szEntry a n = some (if (zEntry a : Int) ≤ n then n - (zEntry a : Int) else -1) := by
  have hz : zEntry a = zSpanS a.2.2.1 + zSketch a.2.2.2.1 := rfl
  unfold F.laws_szEntry
  unfold fEntry at hf
  rw [szSpanS a.2.2.1 n hf.1 h0 h1]
  by_cases c0 : (zSpanS a.2.2.1 : Int) ≤ n
  case neg => rw [if_neg c0, if_neg (by omega)]; rfl
  rw [if_pos c0]
  simp only [Option.bind_some]
  rw [show decide (n - (zSpanS a.2.2.1 : Int) < 0) = false from decide_eq_false (by omega)]
  simp only [cond_false]
  rw [szSketch a.2.2.2.1 (n - (zSpanS a.2.2.1 : Int)) hf.2 (by omega) (by omega)]
  by_cases c1 : (zSketch a.2.2.2.1 : Int) ≤ n - (zSpanS a.2.2.1 : Int)
  case neg => rw [if_neg c1, if_neg (by omega)]; rfl
  rw [if_pos c1]
  simp only [Option.bind_some]
  rw [show decide (n - (zSpanS a.2.2.1 : Int) - (zSketch a.2.2.2.1 : Int) < 0) = false from decide_eq_false (by omega)]
  simp only [cond_false]
  rw [if_pos (by omega)]
  first | rfl | (congr 1; omega)
/- EntryS: copied, compared, counted. -/

def zEntryS (l : List DEntry) : Nat := l.length + (l.map zEntry).sum
def fEntryS (l : List DEntry) : Prop := l.length ≤ maxLen ∧ ∀ x ∈ l, fEntry x
theorem toEntryS (l : List DEntry) (h : zEntryS l ≤ 1048576) : F.laws_toEntryS l = some l := by
  have hl : l.length ≤ 1048576 := by unfold zEntryS at h; omega
  have hel : ∀ x ∈ l, zEntry x ≤ 1048576 := fun x hm => (Nat.le_trans (sum_mem hm) (by unfold zEntryS at h; omega))
  unfold F.laws_toEntryS
  rw [mk_ok (by omega), chk_true, show Int.toNat (len l) = l.length from Int.toNat_natCast _]
  have hh := loop_to (step := F.laws_toEntryS.s3) l (0, 0, ([] : List DSpan), (0, 0, 0, 0, ([] : List Int), ([] : List Int), ([] : List (List Int)), ()), ()) (fun i m hi hm => by
    unfold F.laws_toEntryS.s3
    simp only
    rw [lt_len hi, inb_nat hi, inb_nat hm, Int.toNat_natCast, w64_nat (by omega), getD_at hi]
    simp only [cond_true, chk_true, Option.bind_some, toEntry l[i] (hel l[i] (List.getElem_mem hi))]) (fun m => by
    unfold F.laws_toEntryS.s3
    simp only [ge_len, cond_false])
  simp only [hh, afterO]
theorem eqEntryS (l : List DEntry) (h : zEntryS l ≤ 1099511627776) : F.laws_eqEntryS l l = some true := by
  have hl : l.length ≤ 1099511627776 := by unfold zEntryS at h; omega
  have hel : ∀ x ∈ l, zEntry x ≤ 1099511627776 := fun x hm => (Nat.le_trans (sum_mem hm) (by unfold zEntryS at h; omega))
  unfold F.laws_eqEntryS
  rw [show (len l != len l) = false by simp]
  have hh := loop_eq (step := F.laws_eqEntryS.s4) l (fun i hi => by
    unfold F.laws_eqEntryS.s4
    simp only
    rw [lt_len hi, inb_nat hi, Int.toNat_natCast, w64_nat (by omega), getD_at hi]
    simp only [cond_true, cond_false, chk_true, Option.bind_some, Bool.not_true, eqEntry l[i] (hel l[i] (List.getElem_mem hi))]) (by
    unfold F.laws_eqEntryS.s4
    simp only [ge_len, cond_false])
  simp only [cond_false, hh, afterO]
theorem szEntryS (l : List DEntry) (n : Int) (hf : fEntryS l) (h0 : 0 ≤ n) (h1 : n ≤ 1048576) : F.laws_szEntryS l n = some (if (zEntryS l : Int) ≤ n then n - (zEntryS l : Int) else -1) := by
  obtain ⟨hf', hfe⟩ := hf
  have hf' : l.length ≤ 9223372036854775807 := hf'
  have hz : zEntryS l = l.length + (l.map zEntry).sum := rfl
  unfold F.laws_szEntryS
  rw [show len l = (l.length : Int) from rfl, w64_id (by omega) (by omega), hz]
  by_cases hle : (l.length : Int) ≤ n
  · rw [show decide (n - (l.length : Int) < 0) = false from decide_eq_false (by omega)]
    have hh := loop_sz (step := F.laws_szEntryS.s5) zEntry l (n - (l.length : Int)) (by omega) (fun i k hi hk hkn => by
      unfold F.laws_szEntryS.s5
      simp only
      rw [lt_len hi, inb_nat hi, Int.toNat_natCast, w64_nat (by omega), getD_at hi]
      simp only [cond_true, chk_true, szEntry l[i] k (hfe _ (List.getElem_mem hi)) hk (by omega), Option.bind_some]
      by_cases hx : (zEntry l[i] : Int) ≤ k
      · rw [if_pos hx, if_pos hx, show decide (k - (zEntry l[i] : Int) < 0) = false from decide_eq_false (by omega)]; rfl
      · rw [if_neg hx, if_neg hx]; rfl) (fun k => by
      unfold F.laws_szEntryS.s5
      simp only [ge_len, cond_false])
    simp only [cond_false, hh]
    by_cases hs : (((l.map zEntry).sum : Nat) : Int) ≤ n - (l.length : Int)
    · rw [if_pos hs, if_pos (by omega)]
      simp only [afterO]
      congr 1; omega
    · rw [if_neg hs, if_neg (by omega)]; rfl
  · rw [if_neg (by omega), show decide (n - (l.length : Int) < 0) = true from decide_eq_true (by omega)]; rfl
/- Row: copied, compared, counted. -/

def zRow (a : DRow) : Nat := zEntryS a.1
def fRow (a : DRow) : Prop := fEntryS a.1
theorem toRow (a : DRow) (h : zRow a ≤ 1048576) : F.laws_toRow a = some a := by
  unfold F.laws_toRow
  simp only [toEntryS a.1 (by unfold zRow at h; omega), Option.bind_some]
theorem eqRow (a : DRow) (h : zRow a ≤ 1099511627776) : F.laws_eqRow a a = some true := by
  unfold F.laws_eqRow
  simp only [cond_false, Bool.not_true, Option.bind_some, eqEntryS a.1 (by unfold zRow at h; omega)]
theorem szRow (a : DRow) (n : Int) (hf : fRow a) (h0 : 0 ≤ n) (h1 : n ≤ 1048576) : F.laws_szRow a n = some (if (zRow a : Int) ≤ n then n - (zRow a : Int) else -1) := by
  have hz : zRow a = zEntryS a.1 := rfl
  unfold F.laws_szRow
  unfold fRow at hf
  rw [szEntryS a.1 n hf h0 h1]
  by_cases c0 : (zEntryS a.1 : Int) ≤ n
  case neg => rw [if_neg c0, if_neg (by omega)]; rfl
  rw [if_pos c0]
  simp only [Option.bind_some]
  rw [show decide (n - (zEntryS a.1 : Int) < 0) = false from decide_eq_false (by omega)]
  simp only [cond_false]
  rw [if_pos (by omega)]
  first | rfl | (congr 1; omega)
/- Rows alike. -/

theorem spec_EntrySame_dec (a b : DEntry) (h : zEntry a ≤ 1099511627776) : F.spec_EntrySame a b = some (eqd a b) := by
  obtain ⟨a0, a1, a2, a3, u⟩ := a
  obtain ⟨b0, b1, b2, b3, v⟩ := b
  unfold F.spec_EntrySame
  simp only [beq_dec, spec_l5Same_dec _ _ (show List.length a2 ≤ 1099511627776 by have h : zSpanS a2 + zSketch a3 ≤ 1099511627776 := h; unfold zSpanS at h; omega), spec_SketchSame_dec a3 b3 (by have h : zSpanS a2 + zSketch a3 ≤ 1099511627776 := h; omega), Option.bind_some]
  by_cases h0 : a0 = b0
  case neg => simp [eqd, h0]
  subst h0
  by_cases h1 : a1 = b1
  case neg => simp [eqd, h1]
  subst h1
  by_cases h2 : a2 = b2
  case neg => simp [eqd, h2]
  subst h2
  by_cases h3 : a3 = b3
  case neg => simp [eqd, h3]
  subst h3
  simp [eqd]
theorem impl_EntrySame_dec (a b : DEntry) (h : zEntry a ≤ 1099511627776) : F.impl_EntrySame a b = some (eqd a b) := by
  obtain ⟨a0, a1, a2, a3, u⟩ := a
  obtain ⟨b0, b1, b2, b3, v⟩ := b
  unfold F.impl_EntrySame
  simp only [beq_dec, slices_Equal_Span_dec _ _ (show List.length a2 ≤ 1099511627776 by have h : zSpanS a2 + zSketch a3 ≤ 1099511627776 := h; unfold zSpanS at h; omega), impl_SketchSame_dec a3 b3 (by have h : zSpanS a2 + zSketch a3 ≤ 1099511627776 := h; omega), Option.bind_some]
  by_cases h0 : a0 = b0
  case neg => simp [eqd, h0]
  subst h0
  by_cases h1 : a1 = b1
  case neg => simp [eqd, h1]
  subst h1
  by_cases h2 : a2 = b2
  case neg => simp [eqd, h2]
  subst h2
  by_cases h3 : a3 = b3
  case neg => simp [eqd, h3]
  subst h3
  simp [eqd]
theorem spec_l10Entries_dec (a b : List DEntry) (h : a.length ≤ 1099511627776) (hs : ∀ x ∈ a, zEntry x ≤ 1099511627776) : F.spec_l10Entries a b = some (eqd a b) := by
  unfold F.spec_l10Entries
  by_cases hl : a.length = b.length
  · rw [show (len a != len b) = false by simp only [len, hl, bne_self_eq_false]]
    have := loop_dec (step := F.spec_l10Entries.s4) a b (fun i => (a, b, (i : Int), ())) hl (fun i ha hb => by
      unfold F.spec_l10Entries.s4
      simp only
      rw [lt_len ha, inb_nat ha, inb_nat hb, Int.toNat_natCast, w64_nat (by omega), getD_at ha, getD_at hb]
      simp only [cond_true, chk_true, spec_EntrySame_dec _ _ (hs _ (List.getElem_mem ha)), Option.bind_some]
      generalize eqd a[i] b[i] = d
      cases d <;> rfl) (by
      unfold F.spec_l10Entries.s4
      simp only [ge_len, cond_false])
    simp only [cond_false]
    refine (congrArg (fun z => afterO z _) this).trans ?_
    cases eqd a b <;> rfl
  · rw [show (len a != len b) = true by simp only [len, bne_iff_ne, ne_eq]; omega, eqd_ne (fun e => hl (congrArg List.length e))]; rfl
theorem slices_EqualFunc_SimplEntry__impl_EntrySame_dec (a b : List DEntry) (h : a.length ≤ 1099511627776) (hs : ∀ x ∈ a, zEntry x ≤ 1099511627776) : F.slices_EqualFunc_SimplEntry__impl_EntrySame a b () = some (eqd a b) := by
  unfold F.slices_EqualFunc_SimplEntry__impl_EntrySame
  by_cases hl : a.length = b.length
  · rw [show (len a != len b) = false by simp only [len, hl, bne_self_eq_false]]
    have := loop_dec (step := F.slices_EqualFunc_SimplEntry__impl_EntrySame.s4) a b (fun i => (b, (), a, len a, (i : Int), ())) hl (fun i ha hb => by
      unfold F.slices_EqualFunc_SimplEntry__impl_EntrySame.s4
      simp only
      rw [lt_len ha, inb_nat ha, inb_nat hb, Int.toNat_natCast, w64_nat (by omega), getD_at ha, getD_at hb]
      simp only [cond_true, chk_true, impl_EntrySame_dec _ _ (hs _ (List.getElem_mem ha)), Option.bind_some]
      generalize eqd a[i] b[i] = d
      cases d <;> rfl) (by
      unfold F.slices_EqualFunc_SimplEntry__impl_EntrySame.s4
      simp only [ge_len, cond_false])
    simp only [cond_false]
    refine (congrArg (fun z => afterO z _) this).trans ?_
    cases eqd a b <;> rfl
  · rw [show (len a != len b) = true by simp only [len, bne_iff_ne, ne_eq]; omega, eqd_ne (fun e => hl (congrArg List.length e))]; rfl
theorem spec_RowSame_dec (a b : DRow) (h : zRow a ≤ 1099511627776) : F.spec_RowSame a b = some (eqd a b) := by
  have h : a.1.length + (a.1.map zEntry).sum ≤ 1099511627776 := h
  unfold F.spec_RowSame
  rw [spec_l10Entries_dec a.1 b.1 (by omega) (fun x hx => by have := sum_mem (f := zEntry) hx; omega)]
  obtain ⟨a, u⟩ := a
  obtain ⟨b, v⟩ := b
  simp [eqd]
theorem impl_RowSame_dec (a b : DRow) (h : zRow a ≤ 1099511627776) : F.impl_RowSame a b = some (eqd a b) := by
  have h : a.1.length + (a.1.map zEntry).sum ≤ 1099511627776 := h
  unfold F.impl_RowSame
  rw [slices_EqualFunc_SimplEntry__impl_EntrySame_dec a.1 b.1 (by omega) (fun x hx => by have := sum_mem (f := zEntry) hx; omega)]
  obtain ⟨a, u⟩ := a
  obtain ⟨b, v⟩ := b
  simp [eqd]
theorem rowSame_same (a b : DRow) (h : zRow a ≤ 1048576) (_ : zRow b ≤ 1048576) : ∃ r, F.spec_RowSame a b = some r ∧ F.impl_RowSame a b = some r ∧ True :=
  ⟨_, spec_RowSame_dec a b (by omega), impl_RowSame_dec a b (by omega), trivial⟩
/- The law FnExactRowSame, on the printed functions alone. -/

theorem fnExactRowSame_law (a : DRow) (b : DRow) (fa : fRow a) (fb : fRow b) : F.laws_FnExactRowSame a b = some true := by
  unfold F.laws_FnExactRowSame
  rw [szRow a (1048576) fa (by omega) (by omega)]
  by_cases ga : (zRow a : Int) ≤ (1048576 : Int)
  case neg => rw [if_neg ga]; rfl
  rw [if_pos ga]
  simp only [Option.bind_some]
  rw [show decide ((1048576 : Int) - (zRow a : Int) < 0) = false from decide_eq_false (by omega)]
  simp only [cond_false]
  rw [szRow b ((1048576 : Int) - (zRow a : Int)) fb (by omega) (by omega)]
  by_cases gb : (zRow b : Int) ≤ (1048576 : Int) - (zRow a : Int)
  case neg => rw [if_neg gb]; rfl
  rw [if_pos gb]
  simp only [Option.bind_some]
  rw [show decide ((1048576 : Int) - (zRow a : Int) - (zRow b : Int) < 0) = false from decide_eq_false (by omega)]
  simp only [cond_false]
  obtain ⟨r, hs, hi, hz⟩ := rowSame_same a b (by omega) (by omega)
  simp only [hs, hi, Option.bind_some, bne_self_eq_false, beq_self_eq_true, Bool.not_true, cond_false, toRow a (by omega), eqRow a (by omega), toRow b (by omega), eqRow b (by omega)]
end Go.Proofs.Ytcebhnphcgigfaa.Vm
