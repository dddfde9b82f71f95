import Derived.Test.YtadaiilmjchnmaaGf
import Derived.Test.YtadaiilmjchnmaaV3
namespace Go.Proofs.Ytadaiilmjchnmaa.Vm
open Go Go.RowKit
set_option linter.unusedVariables false
/- Loops by rounds: a loop over a list (or over so many rounds) is a plain recursion. -/

/-- The rounds over a list: from place i on. -/
def runL {α S A : Type} (g : Nat → S → α → S ⊕ A) : Nat → List α → S → S ⊕ A
  | _, [], s => .inl s
  | i, x :: l, s => match g i s x with
    | .inl s' => runL g (i + 1) l s'
    | .inr a => .inr a
/-- So many rounds. -/
def runN {S A : Type} (g : Nat → S → S ⊕ A) : Nat → Nat → S → S ⊕ A
  | 0, _, s => .inl s
  | k + 1, i, s => match g i s with
    | .inl s' => runN g k (i + 1) s'
    | .inr a => .inr a
def again {X A S : Type} (mk : S → X) : S ⊕ A → Lp X A
  | .inl s => .again (mk s)
  | .inr a => .ret a
theorem loop_n {X A S : Type} {step : X → Option (Lp X A)} (n : Nat) (mk : Nat → S → X) (g : Nat → S → S ⊕ A) (P : Nat → S → Prop)
    (h : ∀ i s, i < n → P i s → step (mk i s) = some (again (mk (i + 1)) (g i s)) ∧ ∀ s', g i s = .inl s' → P (i + 1) s')
    (he : ∀ s, P n s → step (mk n s) = some (.exit (mk n s))) {s : S} (h0 : P 0 s) :
    loopO step (mk 0 s) = some (Sum.map (mk n) id (runN g n 0 s)) ∧ ∀ s', runN g n 0 s = .inl s' → P n s' := by
  have key : ∀ k i s, i + k = n → P i s → iterO step (k + 1) (mk i s) = some (Sum.map (mk n) id (runN g k i s)) ∧ ∀ s', runN g k i s = .inl s' → P n s' := by
    intro k
    induction k with
    | zero =>
      intro i s hi hp
      have hi : i = n := by omega
      subst hi
      refine ⟨?_, fun s' hs => by cases hs; exact hp⟩
      simp only [iterO, he s hp]; rfl
    | succ k ih =>
      intro i s hi hp
      obtain ⟨h1, h2⟩ := h i s (by omega) hp
      rw [iterO, h1]
      cases hg : g i s with
      | inl s' =>
        simp only [again, runN, hg]
        exact ih (i + 1) s' (by omega) (h2 s' hg)
      | inr a =>
        simp only [again, runN, hg]
        exact ⟨rfl, fun s' hs => by cases hs⟩
  obtain ⟨k1, k2⟩ := key n 0 s (by omega) h0
  exact ⟨loopO_of k1, k2⟩
theorem runN_list {α S A : Type} (g : Nat → S → α → S ⊕ A) (d : α) (l : List α) (s : S) : runN (fun i s => g i s (l.getD i d)) l.length 0 s = runL g 0 l s := by
  have key : ∀ (m : List α) (i : Nat) (s : S), l.drop i = m → runN (fun i s => g i s (l.getD i d)) m.length i s = runL g i m s := by
    intro m
    induction m with
    | nil => intro i s _; rfl
    | cons x m ih =>
      intro i s h
      have hx : l.getD i d = x := by
        rw [List.getD_eq_getElem?_getD, show l[i]? = some x by rw [← List.head?_drop, h]; rfl]; rfl
      simp only [List.length_cons, runN, runL, hx]
      cases g i s x with
      | inl s' => exact ih (i + 1) s' (by rw [← List.drop_drop, h]; rfl)
      | inr a => rfl
  exact key l 0 s rfl
theorem loop_l {X A S α : Type} {step : X → Option (Lp X A)} (l : List α) (mk : Nat → S → X) (g : Nat → S → α → S ⊕ A) (P : Nat → S → Prop)
    (h : ∀ i s (hi : i < l.length), P i s → step (mk i s) = some (again (mk (i + 1)) (g i s l[i])) ∧ ∀ s', g i s l[i] = .inl s' → P (i + 1) s')
    (he : ∀ s, P l.length s → step (mk l.length s) = some (.exit (mk l.length s))) {s : S} (h0 : P 0 s) :
    loopO step (mk 0 s) = some (Sum.map (mk l.length) id (runL g 0 l s)) ∧ ∀ s', runL g 0 l s = .inl s' → P l.length s' := by
  cases l with
  | nil =>
    obtain ⟨h1, h2⟩ := loop_n (step := step) 0 mk (fun _ s => .inl s) P (fun i s hi => by omega) he h0
    exact ⟨h1, h2⟩
  | cons x l =>
    obtain ⟨h1, h2⟩ := loop_n (step := step) (x :: l).length mk (fun i s => g i s ((x :: l).getD i x)) P (fun i s hi hp => by
      rw [getD_at hi]; exact h i s hi hp) he h0
    rw [runN_list] at h1 h2
    exact ⟨h1, h2⟩
/-- Without an invariant. -/
theorem loop_l0 {X A S α : Type} {step : X → Option (Lp X A)} (l : List α) (mk : Nat → S → X) (g : Nat → S → α → S ⊕ A)
    (h : ∀ i s (hi : i < l.length), step (mk i s) = some (again (mk (i + 1)) (g i s l[i])))
    (he : ∀ s, step (mk l.length s) = some (.exit (mk l.length s))) (s : S) :
    loopO step (mk 0 s) = some (Sum.map (mk l.length) id (runL g 0 l s)) :=
  (loop_l l mk g (fun _ _ => True) (fun i s hi _ => ⟨h i s hi, fun _ _ => trivial⟩) (fun s _ => he s) (s := s) trivial).1
/-- It ends at the first that is not so. -/
theorem loop_all {X A α : Type} {step : X → Option (Lp X A)} (l : List α) (mk : Nat → X) (p : α → Bool) (a : A)
    (h : ∀ i (hi : i < l.length), step (mk i) = some (bif p l[i] then .again (mk (i + 1)) else .ret a))
    (he : step (mk l.length) = some (.exit (mk l.length))) :
    loopO step (mk 0) = some (bif l.all p then .inl (mk l.length) else .inr a) := by
  have := loop_l0 (step := step) l (fun i (_ : Unit) => mk i) (fun _ _ x => bif p x then .inl () else .inr a) (fun i s hi => by
    rw [h i hi]; cases p l[i] <;> rfl) (fun _ => he) ()
  rw [this]
  have key : ∀ (m : List α) (i : Nat), Sum.map (fun (_ : Unit) => mk l.length) id (runL (fun _ _ x => bif p x then (.inl () : Unit ⊕ A) else .inr a) i m ()) = bif m.all p then .inl (mk l.length) else .inr a := by
    intro m
    induction m with
    | nil => intro i; rfl
    | cons x m ih =>
      intro i
      simp only [runL, List.all_cons]
      cases p x with
      | false => rfl
      | true => exact ih (i + 1)
  rw [key l 0]
theorem loop_any {X A α : Type} {step : X → Option (Lp X A)} (l : List α) (mk : Nat → X) (p : α → Bool) (a : A)
    (h : ∀ i (hi : i < l.length), step (mk i) = some (bif p l[i] then .ret a else .again (mk (i + 1))))
    (he : step (mk l.length) = some (.exit (mk l.length))) :
    loopO step (mk 0) = some (bif l.any p then .inr a else .inl (mk l.length)) := by
  have := loop_all (step := step) l mk (fun x => !p x) a (fun i hi => by rw [h i hi]; cases p l[i] <;> rfl) he
  rw [this]
  have e : ∀ m : List α, m.all (fun x => !p x) = !m.any p := by
    intro m
    induction m with
    | nil => rfl
    | cons x m ih => rw [List.all_cons, List.any_cons, ih]; cases p x <;> rfl
  rw [e]
  cases l.any p <;> rfl
/-- It gathers. -/
theorem loop_fold {X A S α : Type} {step : X → Option (Lp X A)} (l : List α) (mk : Nat → S → X) (f : S → α → S)
    (h : ∀ i s (hi : i < l.length), step (mk i s) = some (.again (mk (i + 1) (f s l[i]))))
    (he : ∀ s, step (mk l.length s) = some (.exit (mk l.length s))) (s : S) :
    loopO step (mk 0 s) = some (.inl (mk l.length (l.foldl f s))) := by
  have := loop_l0 (step := step) l mk (fun _ s x => .inl (f s x)) (fun i s hi => h i s hi) he s
  rw [this]
  have key : ∀ (m : List α) (i : Nat) (s : S), runL (fun _ s x => (.inl (f s x) : S ⊕ A)) i m s = .inl (m.foldl f s) := by
    intro m
    induction m with
    | nil => intro i s; rfl
    | cons x m ih => intro i s; exact ih (i + 1) (f s x)
  rw [key l 0 s]; rfl
/-- It gathers, and keeps what it is asked to keep. -/
theorem loop_foldP {X A S α : Type} {step : X → Option (Lp X A)} (l : List α) (mk : Nat → S → X) (f : S → α → S) (P : Nat → S → Prop)
    (h : ∀ i s (hi : i < l.length), P i s → step (mk i s) = some (.again (mk (i + 1) (f s l[i]))) ∧ P (i + 1) (f s l[i]))
    (he : ∀ s, P l.length s → step (mk l.length s) = some (.exit (mk l.length s))) {s : S} (h0 : P 0 s) :
    loopO step (mk 0 s) = some (.inl (mk l.length (l.foldl f s))) ∧ P l.length (l.foldl f s) := by
  obtain ⟨h1, h2⟩ := loop_l (step := step) l mk (fun _ s x => .inl (f s x)) P (fun i s hi hp => ⟨(h i s hi hp).1, fun s' e => by cases e; exact (h i s hi hp).2⟩) he h0
  have key : ∀ (m : List α) (i : Nat) (s : S), runL (fun _ s x => (.inl (f s x) : S ⊕ A)) i m s = .inl (m.foldl f s) := by
    intro m
    induction m with
    | nil => intro i s; rfl
    | cons x m ih => intro i s; exact ih (i + 1) (f s x)
  rw [key l 0 s] at h1 h2
  exact ⟨h1, h2 _ rfl⟩
theorem fits_of {n b : Nat} (h : n * b ≤ 140737488355328) : fits n b = true := decide_eq_true h
theorem foldl_snoc {α β : Type} (f : α → β) : ∀ (l : List α) (acc : List β), l.foldl (fun s x => s ++ [f x]) acc = acc ++ l.map f
  | [], acc => by simp
  | x :: l, acc => by rw [List.foldl_cons, foldl_snoc f l]; simp
theorem foldl_app {α β : Type} (f : α → List β) : ∀ (l : List α) (acc : List β), l.foldl (fun s x => s ++ f x) acc = acc ++ l.flatMap f
  | [], acc => by simp
  | x :: l, acc => by rw [List.foldl_cons, foldl_app f l]; simp
/- Lists that are copied, compared, counted, marked: loops of one shape each. -/

theorem getD_set_self {α : Type} {l : List α} {i : Nat} {x d : α} (h : i < l.length) : (l.set i x).getD i d = x := by
  rw [List.getD_eq_getElem?_getD, List.getElem?_set_self h]; rfl
theorem getD_mid {α : Type} {p : List α} {x d : α} {l : List α} : (p ++ x :: l).getD p.length d = x := by
  rw [List.getD_eq_getElem?_getD, List.getElem?_append_right (Nat.le_refl _), Nat.sub_self]; rfl
theorem set_mid {α : Type} {p : List α} {x y : α} {l : List α} : (p ++ x :: l).set p.length y = p ++ y :: l := by
  rw [List.set_append_right _ _ (Nat.le_refl _), Nat.sub_self]; rfl
theorem mid_app {α : Type} {p : List α} {y : α} {l : List α} : p ++ y :: l = (p ++ [y]) ++ l := by simp
section
variable {α A : Type}
theorem loop_of_iter {X A : Type} {step : X → Option (Lp X A)} {n : Nat} {x : X} {y : X ⊕ A} (h : iterO step n x = some y) : loopO step x = some y := loopO_of h
/-- Copied, element by element. -/
theorem loop_to {step : (List α × List α × Int × Unit) → Option (Lp (List α × List α × Int × Unit) A)} (l : List α) (d : α)
    (hs : ∀ i (m : List α) (hi : i < l.length), i < m.length → step (l, m, (i : Int), ()) = some (.again (l, m.set i l[i], ((i + 1 : Nat) : Int), ())))
    (he : ∀ m, step (l, m, ((l.length : Nat) : Int), ()) = some (.exit (l, m, ((l.length : Nat) : Int), ()))) :
    loopO step (l, List.replicate l.length d, 0, ()) = some (.inl (l, l, ((l.length : Nat) : Int), ())) := by
  have h := loop_run (step := step) (fun i => (l, mid d l i, (i : Int), ())) l.length (fun i hi => by
    rw [hs i _ hi (by rw [mid_len (by omega)]; exact hi)]
    have := copy_step d l hi
    rw [getD_at hi] at this
    unfold mid
    rw [this]) (l := .exit (l, l, ((l.length : Nat) : Int), ())) (y := .inl (l, l, ((l.length : Nat) : Int), ())) (by
      have e : mid d l l.length = l := by simp [mid]
      show step (l, mid d l l.length, ((l.length : Nat) : Int), ()) = _
      rw [e]; exact he l) rfl
  have e : mid d l 0 = List.replicate l.length d := by simp [mid]
  have h : loopO step (l, mid d l 0, ((0 : Nat) : Int), ()) = _ := h
  rw [e] at h
  exact h
/-- Each is what it is. -/
theorem loop_eq {step : (List α × List α × Int × Unit) → Option (Lp (List α × List α × Int × Unit) A)} (l : List α)
    (hs : ∀ i (hi : i < l.length), step (l, l, (i : Int), ()) = some (.again (l, l, ((i + 1 : Nat) : Int), ())))
    (he : step (l, l, ((l.length : Nat) : Int), ()) = some (.exit (l, l, ((l.length : Nat) : Int), ()))) :
    loopO step (l, l, 0, ()) = some (.inl (l, l, ((l.length : Nat) : Int), ())) :=
  loop_run (step := step) (fun i => (l, l, (i : Int), ())) l.length hs he rfl
/-- Counted down. -/
theorem loop_sz {step : (List α × Int × Int × Unit) → Option (Lp (List α × Int × Int × Unit) Int)} (sz : α → Nat) (l : List α) (n : Int) (h0 : 0 ≤ n)
    (hs : ∀ i (k : Int) (hi : i < l.length), 0 ≤ k → k ≤ n → step (l, k, (i : Int), ()) = some (if (sz l[i] : Int) ≤ k then .again (l, k - (sz l[i] : Int), ((i + 1 : Nat) : Int), ()) else .ret (-1)))
    (he : ∀ k, step (l, k, ((l.length : Nat) : Int), ()) = some (.exit (l, k, ((l.length : Nat) : Int), ()))) :
    loopO step (l, n, 0, ()) = some (if (((l.map sz).sum : Nat) : Int) ≤ n then .inl (l, n - ((l.map sz).sum : Nat), ((l.length : Nat) : Int), ()) else .inr (-1)) := by
  have key : ∀ (m p : List α) (k : Int), p ++ m = l → 0 ≤ k → k ≤ n → iterO step (m.length + 1) (l, k, ((p.length : Nat) : Int), ()) = some (if (((m.map sz).sum : Nat) : Int) ≤ k then .inl (l, k - ((m.map sz).sum : Nat), ((l.length : Nat) : Int), ()) else .inr (-1)) := by
    intro m
    induction m with
    | nil =>
      intro p k hp hk _
      have hp : p = l := by simpa using hp
      subst hp
      simp [iterO, he, hk]
    | cons x m ih =>
      intro p k hp hk hkn
      have hi : p.length < l.length := by rw [← hp]; simp
      have hx : l[p.length] = x := by subst hp; simp
      rw [iterO, hs p.length k hi hk hkn, hx]
      by_cases hle : (sz x : Int) ≤ k
      · rw [if_pos hle]
        simp only
        have := ih (p ++ [x]) (k - sz x) (by rw [← hp]; simp) (by omega) (by omega)
        rw [List.length_append] at this
        rw [show ((p.length + 1 : Nat) : Int) = ((p.length + [x].length : Nat) : Int) from rfl, List.length_cons, this]
        congr 1
        simp only [List.map_cons, List.sum_cons]
        by_cases h2 : (((m.map sz).sum : Nat) : Int) ≤ k - sz x
        · rw [if_pos h2, if_pos (by omega)]
          congr 3; omega
        · rw [if_neg h2, if_neg (by omega)]
      · rw [if_neg hle]
        simp only [List.map_cons, List.sum_cons]
        rw [if_neg (by omega)]
  exact loopO_of (key l [] n rfl h0 (Int.le_refl _))
/-- Marked. -/
theorem loop_mark1 {mstep : (Int × Int × List α × Unit) → Option (Lp (Int × Int × List α × Unit) (Int × List α))} (d : α) (cnt : α → Nat) (B : Int) (l : List α) (k : Int) (hk : 0 ≤ k) (hB : k + (((l.map cnt).sum : Nat) : Int) ≤ B)
    (hel : ∀ x ∈ l, ∀ k : Int, 0 ≤ k → k + (cnt x : Int) ≤ B → ∃ x',
      (∀ (i : Nat) (m : List α), i < m.length → m.length = l.length → m.getD i d = x → mstep (k, (i : Int), m, ()) = some (.again (k + cnt x, ((i + 1 : Nat) : Int), m.set i x', ()))))
    (hm : ∀ (m : List α) (k : Int), mstep (k, ((m.length : Nat) : Int), m, ()) = some (.exit (k, ((m.length : Nat) : Int), m, ()))) :
    ∃ l', loopO mstep (k, 0, l, ()) = some (.inl (k + ((l.map cnt).sum : Nat), ((l.length : Nat) : Int), l', ())) := by
  have key : ∀ (m p : List α) (k : Int), (∀ x ∈ m, x ∈ l) → p.length + m.length = l.length → 0 ≤ k → k + (((m.map cnt).sum : Nat) : Int) ≤ B → ∃ m', m'.length = m.length ∧
      iterO mstep (m.length + 1) (k, ((p.length : Nat) : Int), p ++ m, ()) = some (.inl (k + ((m.map cnt).sum : Nat), ((l.length : Nat) : Int), p ++ m', ())) := by
    intro m
    induction m with
    | nil =>
      intro p k _ hp _ _
      have hp : p.length = l.length := by simpa using hp
      refine ⟨[], rfl, ?_⟩
      have := hm p k
      simp [iterO, hp]
      rw [hp] at this
      simp [this]
    | cons x m ih =>
      intro p k hmem hp hk hB
      simp only [List.map_cons, List.sum_cons] at hB
      obtain ⟨x', h1⟩ := hel x (hmem x (by simp)) k hk (by omega)
      obtain ⟨m', g0, g1⟩ := ih (p ++ [x']) (k + cnt x) (fun y hy => hmem y (by simp [hy])) (by simp at hp ⊢; omega) (by omega) (by omega)
      refine ⟨x' :: m', by simp [g0], ?_⟩
      rw [iterO, h1 p.length (p ++ x :: m) (by simp) (by simp at hp ⊢; omega) getD_mid, set_mid]
      simp only
      rw [show p ++ x' :: m = (p ++ [x']) ++ m by simp, show p ++ x' :: m' = (p ++ [x']) ++ m' by simp, List.length_cons]
      rw [List.length_append] at g1
      refine g1.trans ?_
      simp only [List.map_cons, List.sum_cons]
      congr 3; omega
  obtain ⟨l', _, h1⟩ := key l [] k (fun _ h => h) (by simp) hk hB
  exact ⟨l', loopO_of h1⟩
/-- Marked, and found as marked. -/
theorem loop_mark {mstep : (Int × Int × List α × Unit) → Option (Lp (Int × Int × List α × Unit) (Int × List α))} {hstep : (List α × Int × Int × Unit) → Option (Lp (List α × Int × Int × Unit) Int)} (d : α) (cnt : α → Nat) (B : Int) (l : List α) (k : Int) (hk : 0 ≤ k) (hB : k + (((l.map cnt).sum : Nat) : Int) ≤ B)
    (hel : ∀ x ∈ l, ∀ k : Int, 0 ≤ k → k + (cnt x : Int) ≤ B → ∃ x',
      (∀ (i : Nat) (m : List α), i < m.length → m.length = l.length → m.getD i d = x → mstep (k, (i : Int), m, ()) = some (.again (k + cnt x, ((i + 1 : Nat) : Int), m.set i x', ()))) ∧
      (∀ (i : Nat) (m : List α), i < m.length → m.length = l.length → m.getD i d = x' → hstep (m, k, (i : Int), ()) = some (.again (m, k + cnt x, ((i + 1 : Nat) : Int), ()))))
    (hm : ∀ (m : List α) (k : Int), mstep (k, ((m.length : Nat) : Int), m, ()) = some (.exit (k, ((m.length : Nat) : Int), m, ())))
    (hh : ∀ (m : List α) (k : Int), hstep (m, k, ((m.length : Nat) : Int), ()) = some (.exit (m, k, ((m.length : Nat) : Int), ()))) :
    ∃ l', loopO mstep (k, 0, l, ()) = some (.inl (k + ((l.map cnt).sum : Nat), ((l.length : Nat) : Int), l', ())) ∧ loopO hstep (l', k, 0, ()) = some (.inl (l', k + ((l.map cnt).sum : Nat), ((l.length : Nat) : Int), ())) := by
  have key : ∀ (m p : List α) (k : Int), (∀ x ∈ m, x ∈ l) → p.length + m.length = l.length → 0 ≤ k → k + (((m.map cnt).sum : Nat) : Int) ≤ B → ∃ m', m'.length = m.length ∧
      iterO mstep (m.length + 1) (k, ((p.length : Nat) : Int), p ++ m, ()) = some (.inl (k + ((m.map cnt).sum : Nat), ((l.length : Nat) : Int), p ++ m', ())) ∧
      ∀ q : List α, q.length = p.length → iterO hstep (m.length + 1) (q ++ m', k, ((p.length : Nat) : Int), ()) = some (.inl (q ++ m', k + ((m.map cnt).sum : Nat), ((l.length : Nat) : Int), ())) := by
    intro m
    induction m with
    | nil =>
      intro p k _ hp _ _
      have hp : p.length = l.length := by simpa using hp
      refine ⟨[], rfl, ?_, fun q hq => ?_⟩
      · have := hm p k
        simp [iterO, hp]
        rw [hp] at this
        simp [this]
      · have := hh q k
        rw [hq, hp] at this
        simp [iterO, hp, this]
    | cons x m ih =>
      intro p k hmem hp hk hB
      simp only [List.map_cons, List.sum_cons] at hB
      obtain ⟨x', h1, h2⟩ := hel x (hmem x (by simp)) k hk (by omega)
      obtain ⟨m', g0, g1, g2⟩ := ih (p ++ [x']) (k + cnt x) (fun y hy => hmem y (by simp [hy])) (by simp at hp ⊢; omega) (by omega) (by omega)
      refine ⟨x' :: m', by simp [g0], ?_, fun q hq => ?_⟩
      · rw [iterO, h1 p.length (p ++ x :: m) (by simp) (by simp at hp ⊢; omega) getD_mid, set_mid]
        simp only
        rw [show p ++ x' :: m = (p ++ [x']) ++ m by simp, show p ++ x' :: m' = (p ++ [x']) ++ m' by simp, List.length_cons]
        rw [List.length_append] at g1
        refine g1.trans ?_
        simp only [List.map_cons, List.sum_cons]
        congr 3; omega
      · rw [iterO, show ((p.length : Nat) : Int) = ((q.length : Nat) : Int) by rw [hq], h2 q.length (q ++ x' :: m') (by simp) (by simp at hp ⊢; omega) getD_mid]
        simp only
        have := g2 (q ++ [x']) (by simp [hq])
        rw [List.length_append] at this
        rw [mid_app, List.length_cons, hq]
        refine this.trans ?_
        simp only [List.map_cons, List.sum_cons]
        congr 4; omega
  obtain ⟨l', _, h1, h2⟩ := key l [] k (fun _ h => h) (by simp) hk hB
  exact ⟨l', loopO_of h1, loopO_of (h2 [] rfl)⟩
end
/- What tells lists alike, compared with equality. -/

open Classical in
/-- Are they equal? -/
noncomputable def eqd {α : Type} (a b : α) : Bool := decide (a = b)
theorem eqd_true {α : Type} {a b : α} : eqd a b = true ↔ a = b := by simp [eqd]
theorem eqd_self {α : Type} (a : α) : eqd a a = true := by simp [eqd]
theorem eqd_ne {α : Type} {a b : α} (h : a ≠ b) : eqd a b = false := by simp [eqd, h]
theorem zip_all {α : Type} : ∀ {a b : List α}, a.length = b.length → (a.zip b).all (fun q => eqd q.1 q.2) = eqd a b
  | [], [], _ => by simp [eqd]
  | x :: a, y :: b, h => by
    rw [List.zip_cons_cons, List.all_cons, zip_all (by simpa using h)]
    by_cases h1 : x = y <;> by_cases h2 : a = b <;> simp [eqd, h1, h2]
  | [], _ :: _, h => by simp at h
  | _ :: _, [], h => by simp at h
/-- It ends at the first place where they differ. -/
theorem loop_dec {X α : Type} {step : X → Option (Lp X Bool)} (a b : List α) (mk : Nat → X) (hl : a.length = b.length)
    (h : ∀ i (ha : i < a.length) (hb : i < b.length), step (mk i) = some (bif eqd a[i] b[i] then .again (mk (i + 1)) else .ret false))
    (he : step (mk a.length) = some (.exit (mk a.length))) :
    loopO step (mk 0) = some (bif eqd a b then .inl (mk a.length) else .inr false) := by
  have hz : (a.zip b).length = a.length := by rw [List.length_zip]; omega
  have := loop_all (step := step) (a.zip b) mk (fun q => eqd q.1 q.2) false (fun i hi => by
    rw [h i (by omega) (by omega), List.getElem_zip]) (by rw [hz]; exact he)
  rw [this, zip_all hl, hz]
theorem beq_dec {α : Type} [BEq α] [LawfulBEq α] (x y : α) : (x == y) = eqd x y := by by_cases h : x = y <;> simp [eqd, h]
theorem bne_dec (x y : Int) : (x != y) = !eqd x y := by by_cases h : x = y <;> simp [eqd, h, bne]
theorem eqX_dec (a b : Int × Int × Unit) : Ty.eqX (.cons (.int .i64) (.cons (.int .i64) .nil)) a b = eqd a b := by
  obtain ⟨a0, a1, u⟩ := a
  obtain ⟨b0, b1, v⟩ := b
  by_cases h0 : a0 = b0 <;> by_cases h1 : a1 = b1 <;> simp [Ty.eqX, eqd, h0, h1]
/- Numbers alike. -/

theorem spec_l1Same_dec (a b : List Int) (h : a.length ≤ 1099511627776) : F.spec_l1Same a b = some (eqd a b) := by
  unfold F.spec_l1Same
  by_cases hl : a.length = b.length
  · rw [show (len a != len b) = false by simp only [len, hl, bne_self_eq_false]]
    have := loop_dec (step := F.spec_l1Same.s4) a b (fun i => (a, b, (i : Int), ())) hl (fun i ha hb => by
      unfold F.spec_l1Same.s4
      simp only
      rw [lt_len ha, inb_nat ha, inb_nat hb, Int.toNat_natCast, w64_nat (by omega), getD_at ha, getD_at hb]
      simp only [cond_true, chk_true, bne_dec]
      generalize eqd a[i] b[i] = d
      cases d <;> rfl) (by
      unfold F.spec_l1Same.s4
      simp only [ge_len, cond_false])
    simp only [cond_false]
    refine (congrArg (fun z => afterO z _) this).trans ?_
    cases eqd a b <;> rfl
  · rw [show (len a != len b) = true by simp only [len, bne_iff_ne, ne_eq]; omega, eqd_ne (fun e => hl (congrArg List.length e))]; rfl
theorem slices_Equal_int_dec (a b : List Int) (h : a.length ≤ 1099511627776) : F.slices_Equal_int a b = some (eqd a b) := by
  unfold F.slices_Equal_int
  by_cases hl : a.length = b.length
  · rw [show (len a != len b) = false by simp only [len, hl, bne_self_eq_false]]
    have := loop_dec (step := F.slices_Equal_int.s4) a b (fun i => (a, b, len a, (i : Int), ())) hl (fun i ha hb => by
      unfold F.slices_Equal_int.s4
      simp only
      rw [lt_len ha, inb_nat ha, inb_nat hb, Int.toNat_natCast, w64_nat (by omega), getD_at ha, getD_at hb]
      simp only [cond_true, chk_true, bne_dec]
      generalize eqd a[i] b[i] = d
      cases d <;> rfl) (by
      unfold F.slices_Equal_int.s4
      simp only [ge_len, cond_false])
    simp only [cond_false]
    refine (congrArg (fun z => afterO z _) this).trans ?_
    cases eqd a b <;> rfl
  · rw [show (len a != len b) = true by simp only [len, bne_iff_ne, ne_eq]; omega, eqd_ne (fun e => hl (congrArg List.length e))]; rfl
/- Sums over lists. -/

theorem sum_mem {α : Type} {f : α → Nat} {l : List α} {x : α} (h : x ∈ l) : f x ≤ (l.map f).sum := by
  induction l with
  | nil => cases h
  | cons y l ih =>
    simp only [List.map_cons, List.sum_cons]
    rcases List.mem_cons.1 h with rfl | h
    · omega
    · have := ih h; omega
theorem sum_le {α : Type} {f g : α → Nat} {n : Nat} : ∀ {l : List α}, (∀ x ∈ l, f x ≤ n + 10 * g x) → (l.map f).sum ≤ n * l.length + 10 * (l.map g).sum
  | [], _ => by simp
  | x :: l, h => by
    have h1 := h x (by simp)
    have h2 := sum_le (l := l) (fun y hy => h y (by simp [hy]))
    simp only [List.map_cons, List.sum_cons, List.length_cons, Nat.mul_add]
    omega
/- IntS: copied, compared, counted. -/

def zIntS (l : List Int) : Nat := l.length
def fIntS (l : List Int) : Prop := l.length ≤ maxLen
theorem toIntS (l : List Int) (h : zIntS l ≤ 1048576) : F.laws_toIntS l = some l := by
  have hl : l.length ≤ 1048576 := by unfold zIntS at h; omega
  unfold F.laws_toIntS
  rw [mk_ok (by omega), chk_true, show Int.toNat (len l) = l.length from Int.toNat_natCast _]
  have hh := loop_to (step := F.laws_toIntS.s3) l 0 (fun i m hi hm => by
    unfold F.laws_toIntS.s3
    simp only
    rw [lt_len hi, inb_nat hi, inb_nat hm, Int.toNat_natCast, w64_nat (by omega), getD_at hi]
    simp only [cond_true, chk_true]) (fun m => by
    unfold F.laws_toIntS.s3
    simp only [ge_len, cond_false])
  simp only [hh, afterO]
theorem eqIntS (l : List Int) (h : zIntS l ≤ 1099511627776) : F.laws_eqIntS l l = some true := by
  have hl : l.length ≤ 1099511627776 := by unfold zIntS at h; omega
  unfold F.laws_eqIntS
  rw [show (len l != len l) = false by simp]
  have hh := loop_eq (step := F.laws_eqIntS.s4) l (fun i hi => by
    unfold F.laws_eqIntS.s4
    simp only
    rw [lt_len hi, inb_nat hi, Int.toNat_natCast, w64_nat (by omega), bne_self_eq_false]
    simp only [cond_true, cond_false, chk_true]) (by
    unfold F.laws_eqIntS.s4
    simp only [ge_len, cond_false])
  simp only [cond_false, hh, afterO]
theorem szIntS (l : List Int) (n : Int) (hf : fIntS l) (h0 : 0 ≤ n) (h1 : n ≤ 1048576) : F.laws_szIntS l n = some (if (zIntS l : Int) ≤ n then n - (zIntS l : Int) else -1) := by
  have hf' : l.length ≤ 9223372036854775807 := hf
  have hz : zIntS l = l.length := rfl
  unfold F.laws_szIntS
  rw [show len l = (l.length : Int) from rfl, w64_id (by omega) (by omega), hz]
  by_cases hle : (l.length : Int) ≤ n
  · rw [if_pos hle, show decide (n - (l.length : Int) < 0) = false from decide_eq_false (by omega)]; rfl
  · rw [if_neg hle, show decide (n - (l.length : Int) < 0) = true from decide_eq_true (by omega)]; rfl
/- IntSS: copied, compared, counted. -/

def zIntSS (l : List (List Int)) : Nat := l.length + (l.map zIntS).sum
def fIntSS (l : List (List Int)) : Prop := l.length ≤ maxLen ∧ ∀ x ∈ l, fIntS x
theorem toIntSS (l : List (List Int)) (h : zIntSS l ≤ 1048576) : F.laws_toIntSS l = some l := by
  have hl : l.length ≤ 1048576 := by unfold zIntSS at h; omega
  have hel : ∀ x ∈ l, zIntS x ≤ 1048576 := fun x hm => (Nat.le_trans (sum_mem hm) (by unfold zIntSS at h; omega))
  unfold F.laws_toIntSS
  rw [mk_ok (by omega), chk_true, show Int.toNat (len l) = l.length from Int.toNat_natCast _]
  have hh := loop_to (step := F.laws_toIntSS.s3) l ([] : List Int) (fun i m hi hm => by
    unfold F.laws_toIntSS.s3
    simp only
    rw [lt_len hi, inb_nat hi, inb_nat hm, Int.toNat_natCast, w64_nat (by omega), getD_at hi]
    simp only [cond_true, chk_true, Option.bind_some, toIntS l[i] (hel l[i] (List.getElem_mem hi))]) (fun m => by
    unfold F.laws_toIntSS.s3
    simp only [ge_len, cond_false])
  simp only [hh, afterO]
theorem eqIntSS (l : List (List Int)) (h : zIntSS l ≤ 1099511627776) : F.laws_eqIntSS l l = some true := by
  have hl : l.length ≤ 1099511627776 := by unfold zIntSS at h; omega
  have hel : ∀ x ∈ l, zIntS x ≤ 1099511627776 := fun x hm => (Nat.le_trans (sum_mem hm) (by unfold zIntSS at h; omega))
  unfold F.laws_eqIntSS
  rw [show (len l != len l) = false by simp]
  have hh := loop_eq (step := F.laws_eqIntSS.s4) l (fun i hi => by
    unfold F.laws_eqIntSS.s4
    simp only
    rw [lt_len hi, inb_nat hi, Int.toNat_natCast, w64_nat (by omega), getD_at hi]
    simp only [cond_true, cond_false, chk_true, Option.bind_some, Bool.not_true, eqIntS l[i] (hel l[i] (List.getElem_mem hi))]) (by
    unfold F.laws_eqIntSS.s4
    simp only [ge_len, cond_false])
  simp only [cond_false, hh, afterO]
theorem szIntSS (l : List (List Int)) (n : Int) (hf : fIntSS l) (h0 : 0 ≤ n) (h1 : n ≤ 1048576) : F.laws_szIntSS l n = some (if (zIntSS l : Int) ≤ n then n - (zIntSS l : Int) else -1) := by
  obtain ⟨hf', hfe⟩ := hf
  have hf' : l.length ≤ 9223372036854775807 := hf'
  have hz : zIntSS l = l.length + (l.map zIntS).sum := rfl
  unfold F.laws_szIntSS
  rw [show len l = (l.length : Int) from rfl, w64_id (by omega) (by omega), hz]
  by_cases hle : (l.length : Int) ≤ n
  · rw [show decide (n - (l.length : Int) < 0) = false from decide_eq_false (by omega)]
    have hh := loop_sz (step := F.laws_szIntSS.s5) zIntS l (n - (l.length : Int)) (by omega) (fun i k hi hk hkn => by
      unfold F.laws_szIntSS.s5
      simp only
      rw [lt_len hi, inb_nat hi, Int.toNat_natCast, w64_nat (by omega), getD_at hi]
      simp only [cond_true, chk_true, szIntS l[i] k (hfe _ (List.getElem_mem hi)) hk (by omega), Option.bind_some]
      by_cases hx : (zIntS l[i] : Int) ≤ k
      · rw [if_pos hx, if_pos hx, show decide (k - (zIntS l[i] : Int) < 0) = false from decide_eq_false (by omega)]; rfl
      · rw [if_neg hx, if_neg hx]; rfl) (fun k => by
      unfold F.laws_szIntSS.s5
      simp only [ge_len, cond_false])
    simp only [cond_false, hh]
    by_cases hs : (((l.map zIntS).sum : Nat) : Int) ≤ n - (l.length : Int)
    · rw [if_pos hs, if_pos (by omega)]
      simp only [afterO]
      congr 1; omega
    · rw [if_neg hs, if_neg (by omega)]; rfl
  · rw [if_neg (by omega), show decide (n - (l.length : Int) < 0) = true from decide_eq_true (by omega)]; rfl
/- Sketch: copied, compared, counted. -/

def zSketch (a : DSketch) : Nat := zIntS a.2.2.2.2.1 + zIntS a.2.2.2.2.2.1 + zIntSS a.2.2.2.2.2.2.1
def fSketch (a : DSketch) : Prop := fIntS a.2.2.2.2.1 ∧ fIntS a.2.2.2.2.2.1 ∧ fIntSS a.2.2.2.2.2.2.1
theorem toSketch (a : DSketch) (h : zSketch a ≤ 1048576) : F.laws_toSketch a = some a := by
  unfold F.laws_toSketch
  simp only [toIntS a.2.2.2.2.1 (by unfold zSketch at h; omega), toIntS a.2.2.2.2.2.1 (by unfold zSketch at h; omega), toIntSS a.2.2.2.2.2.2.1 (by unfold zSketch at h; omega), Option.bind_some]
theorem eqSketch (a : DSketch) (h : zSketch a ≤ 1099511627776) : F.laws_eqSketch a a = some true := by
  unfold F.laws_eqSketch
  simp only [bne_self_eq_false, cond_false, Bool.not_true, Option.bind_some, eqIntS a.2.2.2.2.1 (by unfold zSketch at h; omega), eqIntS a.2.2.2.2.2.1 (by unfold zSketch at h; omega), eqIntSS a.2.2.2.2.2.2.1 (by unfold zSketch at h; omega)]
theorem szSketch (a : DSketch) (n : Int) (hf : fSketch a) (h0 : 0 ≤ n) (h1 : n ≤ 1048576) : F.laws_szSketch a n = some (if (zSketch a : Int) ≤ n then n - (zSketch a : Int) else -1) := by
  have hz : zSketch a = zIntS a.2.2.2.2.1 + zIntS a.2.2.2.2.2.1 + zIntSS a.2.2.2.2.2.2.1 := rfl
  unfold F.laws_szSketch
  unfold fSketch at hf
  rw [szIntS a.2.2.2.2.1 n hf.1 h0 h1]
  by_cases c0 : (zIntS a.2.2.2.2.1 : Int) ≤ n
  case neg => rw [if_neg c0, if_neg (by omega)]; rfl
  rw [if_pos c0]
  simp only [Option.bind_some]
  rw [show decide (n - (zIntS a.2.2.2.2.1 : Int) < 0) = false from decide_eq_false (by omega)]
  simp only [cond_false]
  rw [szIntS a.2.2.2.2.2.1 (n - (zIntS a.2.2.2.2.1 : Int)) hf.2.1 (by omega) (by omega)]
  by_cases c1 : (zIntS a.2.2.2.2.2.1 : Int) ≤ n - (zIntS a.2.2.2.2.1 : Int)
  case neg => rw [if_neg c1, if_neg (by omega)]; rfl
  rw [if_pos c1]
  simp only [Option.bind_some]
  rw [show decide (n - (zIntS a.2.2.2.2.1 : Int) - (zIntS a.2.2.2.2.2.1 : Int) < 0) = false from decide_eq_false (by omega)]
  simp only [cond_false]
  rw [szIntSS a.2.2.2.2.2.2.1 (n - (zIntS a.2.2.2.2.1 : Int) - (zIntS a.2.2.2.2.2.1 : Int)) hf.2.2 (by omega) (by omega)]
  by_cases c2 : (zIntSS a.2.2.2.2.2.2.1 : Int) ≤ n - (zIntS a.2.2.2.2.1 : Int) - (zIntS a.2.2.2.2.2.1 : Int)
  case neg => rw [if_neg c2, if_neg (by omega)]; rfl
  rw [if_pos c2]
  simp only [Option.bind_some]
  rw [show decide (n - (zIntS a.2.2.2.2.1 : Int) - (zIntS a.2.2.2.2.2.1 : Int) - (zIntSS a.2.2.2.2.2.2.1 : Int) < 0) = false from decide_eq_false (by omega)]
  simp only [cond_false]
  rw [if_pos (by omega)]
  first | rfl | (congr 1; omega)
/- Item: copied, compared, counted. -/

def zItem (a : DItem) : Nat := zSketch a.2.2.2.2.1
def fItem (a : DItem) : Prop := fSketch a.2.2.2.2.1
theorem toItem (a : DItem) (h : zItem a ≤ 1048576) : F.laws_toItem a = some a := by
  unfold F.laws_toItem
  simp only [toSketch a.2.2.2.2.1 (by unfold zItem at h; omega), Option.bind_some]
theorem eqItem (a : DItem) (h : zItem a ≤ 1099511627776) : F.laws_eqItem a a = some true := by
  unfold F.laws_eqItem
  simp only [bne_self_eq_false, cond_false, Bool.not_true, Option.bind_some, eqSketch a.2.2.2.2.1 (by unfold zItem at h; omega)]
theorem szItem (a : DItem) (n : Int) (hf : fItem a) (h0 : 0 ≤ n) (h1 : n ≤ 1048576) : F.laws_szItem a n = some (if (zItem a : Int) ≤ n then n - (zItem a : Int) else -1) := by
  have hz : zItem a = zSketch a.2.2.2.2.1 := rfl
  unfold F.laws_szItem
  unfold fItem at hf
  rw [szSketch a.2.2.2.2.1 n hf h0 h1]
  by_cases c0 : (zSketch a.2.2.2.2.1 : Int) ≤ n
  case neg => rw [if_neg c0, if_neg (by omega)]; rfl
  rw [if_pos c0]
  simp only [Option.bind_some]
  rw [show decide (n - (zSketch a.2.2.2.2.1 : Int) < 0) = false from decide_eq_false (by omega)]
  simp only [cond_false]
  rw [if_pos (by omega)]
  first | rfl | (congr 1; omega)
/- Sketches and items alike. -/

theorem slices_EqualFunc_SSint__slices_Equal_int_dec (a b : List (List Int)) (h : a.length ≤ 1099511627776) (hs : ∀ x ∈ a, x.length ≤ 1099511627776) : F.slices_EqualFunc_SSint__slices_Equal_int a b () = some (eqd a b) := by
  unfold F.slices_EqualFunc_SSint__slices_Equal_int
  by_cases hl : a.length = b.length
  · rw [show (len a != len b) = false by simp only [len, hl, bne_self_eq_false]]
    have := loop_dec (step := F.slices_EqualFunc_SSint__slices_Equal_int.s4) a b (fun i => (b, (), a, len a, (i : Int), ())) hl (fun i ha hb => by
      unfold F.slices_EqualFunc_SSint__slices_Equal_int.s4
      simp only
      rw [lt_len ha, inb_nat ha, inb_nat hb, Int.toNat_natCast, w64_nat (by omega), getD_at ha, getD_at hb]
      simp only [cond_true, chk_true, slices_Equal_int_dec _ _ (hs _ (List.getElem_mem ha)), Option.bind_some]
      generalize eqd a[i] b[i] = d
      cases d <;> rfl) (by
      unfold F.slices_EqualFunc_SSint__slices_Equal_int.s4
      simp only [ge_len, cond_false])
    simp only [cond_false]
    refine (congrArg (fun z => afterO z _) this).trans ?_
    cases eqd a b <;> rfl
  · rw [show (len a != len b) = true by simp only [len, bne_iff_ne, ne_eq]; omega, eqd_ne (fun e => hl (congrArg List.length e))]; rfl
theorem sketchRows_dec (a b : DSketch) (hl : a.2.2.2.2.2.2.1.length = b.2.2.2.2.2.2.1.length) (h : a.2.2.2.2.2.2.1.length ≤ 1099511627776) (hs : ∀ x ∈ a.2.2.2.2.2.2.1, x.length ≤ 1099511627776) : loopO F.spec_SketchSame.s4 (0, a, b, ()) = some (bif eqd a.2.2.2.2.2.2.1 b.2.2.2.2.2.2.1 then .inl ((a.2.2.2.2.2.2.1.length : Int), a, b, ()) else .inr false) := by
  have := loop_dec (step := F.spec_SketchSame.s4) a.2.2.2.2.2.2.1 b.2.2.2.2.2.2.1 (fun i => ((i : Int), a, b, ())) hl (fun i ha hb => by
    unfold F.spec_SketchSame.s4
    simp only
    rw [lt_len ha, inb_nat ha, inb_nat hb, Int.toNat_natCast, w64_nat (by omega), getD_at ha, getD_at hb, spec_l1Same_dec _ _ (hs _ (List.getElem_mem ha))]
    simp only [cond_true, chk_true, Option.bind_some]
    generalize eqd a.2.2.2.2.2.2.1[i] b.2.2.2.2.2.2.1[i] = d
    cases d <;> rfl) (by
    unfold F.spec_SketchSame.s4
    simp only [ge_len, cond_false])
  exact this
theorem spec_SketchSame_dec (a b : DSketch) (h : zSketch a ≤ 1099511627776) : F.spec_SketchSame a b = some (eqd a b) := by
  have hh : a.2.2.2.2.1.length ≤ 1099511627776 ∧ a.2.2.2.2.2.1.length ≤ 1099511627776 ∧ a.2.2.2.2.2.2.1.length ≤ 1099511627776 ∧ ∀ x ∈ a.2.2.2.2.2.2.1, x.length ≤ 1099511627776 := by
    unfold zSketch zIntS zIntSS at h
    exact ⟨by omega, by omega, by omega, fun x hx => by have := sum_mem (f := zIntS) hx; unfold zIntS at this; unfold zIntS at h; omega⟩
  obtain ⟨g1, g2, g3, g4⟩ := hh
  unfold F.spec_SketchSame
  simp only [bne_dec, spec_l1Same_dec _ _ g1, spec_l1Same_dec _ _ g2, Option.bind_some]
  obtain ⟨a0, a1, a2, a3, a4, a5, a6, u⟩ := a
  obtain ⟨b0, b1, b2, b3, b4, b5, b6, v⟩ := b
  by_cases h0 : a0 = b0
  case neg => simp [eqd, h0]
  subst h0
  by_cases h1 : a1 = b1
  case neg => simp [eqd, h1]
  subst h1
  by_cases h2 : a2 = b2
  case neg => simp [eqd, h2]
  subst h2
  by_cases h3 : a3 = b3
  case neg => simp [eqd, h3]
  subst h3
  by_cases h4 : a4 = b4
  case neg => simp [eqd, h4]
  subst h4
  by_cases h5 : a5 = b5
  case neg => simp [eqd, h5]
  subst h5
  by_cases hl : a6.length = b6.length
  case neg =>
    have hne : a6 ≠ b6 := fun e => hl (congrArg List.length e)
    have hl2 : eqd (len a6) (len b6) = false := eqd_ne (fun e => hl (Int.ofNat.inj e))
    simp [hl2, eqd_self, show eqd (a0, a1, a2, a3, a4, a5, a6, u) (a0, a1, a2, a3, a4, a5, b6, v) = false from eqd_ne (by simp [hne])]
  have hr := sketchRows_dec (a0, a1, a2, a3, a4, a5, a6, u) (a0, a1, a2, a3, a4, a5, b6, v) hl g3 g4
  simp only at hr
  simp only [eqd_self, Bool.not_true, cond_false, show eqd (len a6) (len b6) = true from eqd_true.2 (by simp [len, hl]), hr]
  by_cases h6 : a6 = b6
  · subst h6; simp [eqd, afterO]
  · simp [eqd, h6, afterO]
theorem impl_SketchSame_dec (a b : DSketch) (h : zSketch a ≤ 1099511627776) : F.impl_SketchSame a b = some (eqd a b) := by
  have hh : a.2.2.2.2.1.length ≤ 1099511627776 ∧ a.2.2.2.2.2.1.length ≤ 1099511627776 ∧ a.2.2.2.2.2.2.1.length ≤ 1099511627776 ∧ ∀ x ∈ a.2.2.2.2.2.2.1, x.length ≤ 1099511627776 := by
    unfold zSketch zIntS zIntSS at h
    exact ⟨by omega, by omega, by omega, fun x hx => by have := sum_mem (f := zIntS) hx; unfold zIntS at this; unfold zIntS at h; omega⟩
  obtain ⟨g1, g2, g3, g4⟩ := hh
  unfold F.impl_SketchSame
  simp only [beq_dec, slices_Equal_int_dec _ _ g1, slices_Equal_int_dec _ _ g2, slices_EqualFunc_SSint__slices_Equal_int_dec _ _ g3 g4, Option.bind_some]
  obtain ⟨a0, a1, a2, a3, a4, a5, a6, u⟩ := a
  obtain ⟨b0, b1, b2, b3, b4, b5, b6, v⟩ := b
  by_cases h0 : a0 = b0
  case neg => simp [eqd, h0]
  subst h0
  by_cases h1 : a1 = b1
  case neg => simp [eqd, h1]
  subst h1
  by_cases h2 : a2 = b2
  case neg => simp [eqd, h2]
  subst h2
  by_cases h3 : a3 = b3
  case neg => simp [eqd, h3]
  subst h3
  by_cases h4 : a4 = b4
  case neg => simp [eqd, h4]
  subst h4
  by_cases h5 : a5 = b5
  case neg => simp [eqd, h5]
  subst h5
  by_cases h6 : a6 = b6
  case neg => simp [eqd, h6]
  subst h6
  simp [eqd]
theorem spec_l7Item_dec (a b : DItem) (h : zItem a ≤ 1099511627776) : F.spec_l7Item a b = some (eqd a b) := by
  obtain ⟨a0, a1, a2, a3, a4, u⟩ := a
  obtain ⟨b0, b1, b2, b3, b4, v⟩ := b
  unfold F.spec_l7Item
  simp only [beq_dec, spec_SketchSame_dec _ _ h, Option.bind_some]
  by_cases h0 : a0 = b0
  case neg => simp [eqd, h0]
  subst h0
  by_cases h1 : a1 = b1
  case neg => simp [eqd, h1]
  subst h1
  by_cases h2 : a2 = b2
  case neg => simp [eqd, h2]
  subst h2
  by_cases h3 : a3 = b3
  case neg => simp [eqd, h3]
  subst h3
  by_cases h4 : a4 = b4
  case neg => simp [eqd, h4]
  subst h4
  simp [eqd]
theorem impl_itemSame_dec (a b : DItem) (h : zItem a ≤ 1099511627776) : F.impl_itemSame a b = some (eqd a b) := by
  obtain ⟨a0, a1, a2, a3, a4, u⟩ := a
  obtain ⟨b0, b1, b2, b3, b4, v⟩ := b
  unfold F.impl_itemSame
  simp only [beq_dec, impl_SketchSame_dec _ _ h, Option.bind_some]
  by_cases h0 : a0 = b0
  case neg => simp [eqd, h0]
  subst h0
  by_cases h1 : a1 = b1
  case neg => simp [eqd, h1]
  subst h1
  by_cases h2 : a2 = b2
  case neg => simp [eqd, h2]
  subst h2
  by_cases h3 : a3 = b3
  case neg => simp [eqd, h3]
  subst h3
  by_cases h4 : a4 = b4
  case neg => simp [eqd, h4]
  subst h4
  simp [eqd]
/- Spans alike. -/

theorem spec_l5Same_dec (a b : List DSpan) (h : a.length ≤ 1099511627776) : F.spec_l5Same a b = some (eqd a b) := by
  unfold F.spec_l5Same
  by_cases hl : a.length = b.length
  · rw [show (len a != len b) = false by simp only [len, hl, bne_self_eq_false]]
    have := loop_dec (step := F.spec_l5Same.s4) a b (fun i => (a, b, (i : Int), ())) hl (fun i ha hb => by
      unfold F.spec_l5Same.s4
      simp only
      rw [lt_len ha, inb_nat ha, inb_nat hb, Int.toNat_natCast, w64_nat (by omega), getD_at ha, getD_at hb]
      simp only [cond_true, chk_true, eqX_dec]
      generalize eqd a[i] b[i] = d
      cases d <;> rfl) (by
      unfold F.spec_l5Same.s4
      simp only [ge_len, cond_false])
    simp only [cond_false]
    refine (congrArg (fun z => afterO z _) this).trans ?_
    cases eqd a b <;> rfl
  · rw [show (len a != len b) = true by simp only [len, bne_iff_ne, ne_eq]; omega, eqd_ne (fun e => hl (congrArg List.length e))]; rfl
theorem slices_Equal_Span_dec (a b : List DSpan) (h : a.length ≤ 1099511627776) : F.slices_Equal_Span a b = some (eqd a b) := by
  unfold F.slices_Equal_Span
  by_cases hl : a.length = b.length
  · rw [show (len a != len b) = false by simp only [len, hl, bne_self_eq_false]]
    have := loop_dec (step := F.slices_Equal_Span.s4) a b (fun i => (a, b, len a, (i : Int), ())) hl (fun i ha hb => by
      unfold F.slices_Equal_Span.s4
      simp only
      rw [lt_len ha, inb_nat ha, inb_nat hb, Int.toNat_natCast, w64_nat (by omega), getD_at ha, getD_at hb]
      simp only [cond_true, chk_true, eqX_dec]
      generalize eqd a[i] b[i] = d
      cases d <;> rfl) (by
      unfold F.slices_Equal_Span.s4
      simp only [ge_len, cond_false])
    simp only [cond_false]
    refine (congrArg (fun z => afterO z _) this).trans ?_
    cases eqd a b <;> rfl
  · rw [show (len a != len b) = true by simp only [len, bne_iff_ne, ne_eq]; omega, eqd_ne (fun e => hl (congrArg List.length e))]; rfl
/- Span: copied, compared, counted. -/

theorem toSpan (a : DSpan) : F.laws_toSpan a = some a := rfl
theorem eqSpan (a : DSpan) : F.laws_eqSpan a a = some true := by
  unfold F.laws_eqSpan
  simp only [bne_self_eq_false, cond_false]
/- SpanS: copied, compared, counted. -/

def zSpanS (l : List DSpan) : Nat := l.length
def fSpanS (l : List DSpan) : Prop := l.length ≤ maxLen
theorem toSpanS (l : List DSpan) (h : zSpanS l ≤ 1048576) : F.laws_toSpanS l = some l := by
  have hl : l.length ≤ 1048576 := by unfold zSpanS at h; omega
  unfold F.laws_toSpanS
  rw [mk_ok (by omega), chk_true, show Int.toNat (len l) = l.length from Int.toNat_natCast _]
  have hh := loop_to (step := F.laws_toSpanS.s3) l (0, 0, ()) (fun i m hi hm => by
    unfold F.laws_toSpanS.s3
    simp only
    rw [lt_len hi, inb_nat hi, inb_nat hm, Int.toNat_natCast, w64_nat (by omega), getD_at hi]
    simp only [cond_true, chk_true, Option.bind_some, toSpan l[i]]) (fun m => by
    unfold F.laws_toSpanS.s3
    simp only [ge_len, cond_false])
  simp only [hh, afterO]
theorem eqSpanS (l : List DSpan) (h : zSpanS l ≤ 1099511627776) : F.laws_eqSpanS l l = some true := by
  have hl : l.length ≤ 1099511627776 := by unfold zSpanS at h; omega
  unfold F.laws_eqSpanS
  rw [show (len l != len l) = false by simp]
  have hh := loop_eq (step := F.laws_eqSpanS.s4) l (fun i hi => by
    unfold F.laws_eqSpanS.s4
    simp only
    rw [lt_len hi, inb_nat hi, Int.toNat_natCast, w64_nat (by omega), getD_at hi]
    simp only [cond_true, cond_false, chk_true, Option.bind_some, Bool.not_true, eqSpan l[i]]) (by
    unfold F.laws_eqSpanS.s4
    simp only [ge_len, cond_false])
  simp only [cond_false, hh, afterO]
theorem szSpanS (l : List DSpan) (n : Int) (hf : fSpanS l) (h0 : 0 ≤ n) (h1 : n ≤ 1048576) : F.laws_szSpanS l n = some (if (zSpanS l : Int) ≤ n then n - (zSpanS l : Int) else -1) := by
  have hf' : l.length ≤ 9223372036854775807 := hf
  have hz : zSpanS l = l.length := rfl
  unfold F.laws_szSpanS
  rw [show len l = (l.length : Int) from rfl, w64_id (by omega) (by omega), hz]
  by_cases hle : (l.length : Int) ≤ n
  · rw [if_pos hle, show decide (n - (l.length : Int) < 0) = false from decide_eq_false (by omega)]; rfl
  · rw [if_neg hle, show decide (n - (l.length : Int) < 0) = true from decide_eq_true (by omega)]; rfl
/- Entry: copied, compared, counted. -/

def zEntry (a : DEntry) : Nat := zSpanS a.2.2.1 + zSketch a.2.2.2.1
def fEntry (a : DEntry) : Prop := fSpanS a.2.2.1 ∧ fSketch a.2.2.2.1
theorem toEntry (a : DEntry) (h : zEntry a ≤ 1048576) : F.laws_toEntry a = some a := by
  unfold F.laws_toEntry
  simp only [toSpanS a.2.2.1 (by unfold zEntry at h; omega), toSketch a.2.2.2.1 (by unfold zEntry at h; omega), Option.bind_some]
theorem eqEntry (a : DEntry) (h : zEntry a ≤ 1099511627776) : F.laws_eqEntry a a = some true := by
  unfold F.laws_eqEntry
  simp only [bne_self_eq_false, cond_false, Bool.not_true, Option.bind_some, eqSpanS a.2.2.1 (by unfold zEntry at h; omega), eqSketch a.2.2.2.1 (by unfold zEntry at h; omega)]
theorem szEntry (a : DEntry) (n : Int) (hf : fEntry a) (h0 : 0 ≤ n) (h1 : n ≤ 1048576) : F.laws_szEntry a n = some (if (zEntry a : Int) ≤ n then n - (zEntry a : Int) else -1) := by
  have hz : zEntry a = zSpanS a.2.2.1 + zSketch a.2.2.2.1 := rfl
  unfold F.laws_szEntry
  unfold fEntry at hf
  rw [szSpanS a.2.2.1 n hf.1 h0 h1]
  by_cases c0 : (zSpanS a.2.2.1 : Int) ≤ n
  case neg => rw [if_neg c0, if_neg (by omega)]; rfl
  rw [if_pos c0]
  simp only [Option.bind_some]
  rw [show decide (n - (zSpanS a.2.2.1 : Int) < 0) = false from decide_eq_false (by omega)]
  simp only [cond_false]
  rw [szSketch a.2.2.2.1 (n - (zSpanS a.2.2.1 : Int)) hf.2 (by omega) (by omega)]
  by_cases c1 : (zSketch a.2.2.2.1 : Int) ≤ n - (zSpanS a.2.2.1 : Int)
  case neg => rw [if_neg c1, if_neg (by omega)]; rfl
  rw [if_pos c1]
  simp only [Option.bind_some]
  rw [show decide (n - (zSpanS a.2.2.1 : Int) - (zSketch a.2.2.2.1 : Int) < 0) = false from decide_eq_false (by omega)]
  simp only [cond_false]
  rw [if_pos (by omega)]
  first | rfl | (congr 1; omega)
/- EntryS: copied, compared, counted. -/

def zEntryS (l : List DEntry) : Nat := l.length + (l.map zEntry).sum
def fEntryS (l : List DEntry) : Prop := l.length ≤ maxLen ∧ ∀ x ∈ l, fEntry x
theorem toEntryS (l : List DEntry) (h : zEntryS l ≤ 1048576) : F.laws_toEntryS l = some l := by
  have hl : l.length ≤ 1048576 := by unfold zEntryS at h; omega
  have hel : ∀ x ∈ l, zEntry x ≤ 1048576 := fun x hm => (Nat.le_trans (sum_mem hm) (by unfold zEntryS at h; omega))
  unfold F.laws_toEntryS
  rw [mk_ok (by omega), chk_true, show Int.toNat (len l) = l.length from Int.toNat_natCast _]
  have hh := loop_to (step := F.laws_toEntryS.s3) l (0, 0, ([] : List DSpan), (0, 0, 0, 0, ([] : List Int), ([] : List Int), ([] : List (List Int)), ()), ()) (fun i m hi hm => by
    unfold F.laws_toEntryS.s3
    simp only
    rw [lt_len hi, inb_nat hi, inb_nat hm, Int.toNat_natCast, w64_nat (by omega), getD_at hi]
    simp only [cond_true, chk_true, Option.bind_some, toEntry l[i] (hel l[i] (List.getElem_mem hi))]) (fun m => by
    unfold F.laws_toEntryS.s3
    simp only [ge_len, cond_false])
  simp only [hh, afterO]
theorem eqEntryS (l : List DEntry) (h : zEntryS l ≤ 1099511627776) : F.laws_eqEntryS l l = some true := by
  have hl : l.length ≤ 1099511627776 := by unfold zEntryS at h; omega
  have hel : ∀ x ∈ l, zEntry x ≤ 1099511627776 := fun x hm => (Nat.le_trans (sum_mem hm) (by unfold zEntryS at h; omega))
  unfold F.laws_eqEntryS
  rw [show (len l != len l) = false by simp]
  have hh := loop_eq (step := F.laws_eqEntryS.s4) l (fun i hi => by
    unfold F.laws_eqEntryS.s4
    simp only
    rw [lt_len hi, inb_nat hi, Int.toNat_natCast, w64_nat (by omega), getD_at hi]
    simp only [cond_true, cond_false, chk_true, Option.bind_some, Bool.not_true, eqEntry l[i] (hel l[i] (List.getElem_mem hi))]) (by
    unfold F.laws_eqEntryS.s4
    simp only [ge_len, cond_false])
  simp only [cond_false, hh, afterO]
theorem szEntryS (l : List DEntry) (n : Int) (hf : fEntryS l) (h0 : 0 ≤ n) (h1 : n ≤ 1048576) : F.laws_szEntryS l n = some (if (zEntryS l : Int) ≤ n then n - (zEntryS l : Int) else -1) := by
  obtain ⟨hf', hfe⟩ := hf
  have hf' : l.length ≤ 9223372036854775807 := hf'
  have hz : zEntryS l = l.length + (l.map zEntry).sum := rfl
  unfold F.laws_szEntryS
  rw [show len l = (l.length : Int) from rfl, w64_id (by omega) (by omega), hz]
  by_cases hle : (l.length : Int) ≤ n
  · rw [show decide (n - (l.length : Int) < 0) = false from decide_eq_false (by omega)]
    have hh := loop_sz (step := F.laws_szEntryS.s5) zEntry l (n - (l.length : Int)) (by omega) (fun i k hi hk hkn => by
      unfold F.laws_szEntryS.s5
      simp only
      rw [lt_len hi, inb_nat hi, Int.toNat_natCast, w64_nat (by omega), getD_at hi]
      simp only [cond_true, chk_true, szEntry l[i] k (hfe _ (List.getElem_mem hi)) hk (by omega), Option.bind_some]
      by_cases hx : (zEntry l[i] : Int) ≤ k
      · rw [if_pos hx, if_pos hx, show decide (k - (zEntry l[i] : Int) < 0) = false from decide_eq_false (by omega)]; rfl
      · rw [if_neg hx, if_neg hx]; rfl) (fun k => by
      unfold F.laws_szEntryS.s5
      simp only [ge_len, cond_false])
    simp only [cond_false, hh]
    by_cases hs : (((l.map zEntry).sum : Nat) : Int) ≤ n - (l.length : Int)
    · rw [if_pos hs, if_pos (by omega)]
      simp only [afterO]
      congr 1; omega
    · rw [if_neg hs, if_neg (by omega)]; rfl
  · rw [if_neg (by omega), show decide (n - (l.length : Int) < 0) = true from decide_eq_true (by omega)]; rfl
/- Row: copied, compared, counted. -/

def zRow (a : DRow) : Nat := zEntryS a.1
def fRow (a : DRow) : Prop := fEntryS a.1
theorem toRow (a : DRow) (h : zRow a ≤ 1048576) : F.laws_toRow a = some a := by
  unfold F.laws_toRow
  simp only [toEntryS a.1 (by unfold zRow at h; omega), Option.bind_some]
theorem eqRow (a : DRow) (h : zRow a ≤ 1099511627776) : F.laws_eqRow a a = some true := by
  unfold F.laws_eqRow
  simp only [cond_false, Bool.not_true, Option.bind_some, eqEntryS a.1 (by unfold zRow at h; omega)]
theorem szRow (a : DRow) (n : Int) (hf : fRow a) (h0 : 0 ≤ n) (h1 : n ≤ 1048576) : F.laws_szRow a n = some (if (zRow a : Int) ≤ n then n - (zRow a : Int) else -1) := by
  have hz : zRow a = zEntryS a.1 := rfl
  unfold F.laws_szRow
  unfold fRow at hf
  rw [szEntryS a.1 n hf h0 h1]
  by_cases c0 : (zEntryS a.1 : Int) ≤ n
  case neg => rw [if_neg c0, if_neg (by omega)]; rfl
  rw [if_pos c0]
  simp only [Option.bind_some]
  rw [show decide (n - (zEntryS a.1 : Int) < 0) = false from decide_eq_false (by omega)]
  simp only [cond_false]
  rw [if_pos (by omega)]
  first | rfl | (congr 1; omega)
/- Rows alike. -/

theorem spec_EntrySame_dec (a b : DEntry) (h : zEntry a ≤ 1099511627776) : F.spec_EntrySame a b = some (eqd a b) := by
  obtain ⟨a0, a1, a2, a3, u⟩ := a
  obtain ⟨b0, b1, b2, b3, v⟩ := b
  unfold F.spec_EntrySame
  simp only [beq_dec, spec_l5Same_dec _ _ (show List.length a2 ≤ 1099511627776 by have h : zSpanS a2 + zSketch a3 ≤ 1099511627776 := h; unfold zSpanS at h; omega), spec_SketchSame_dec a3 b3 (by have h : zSpanS a2 + zSketch a3 ≤ 1099511627776 := h; omega), Option.bind_some]
  by_cases h0 : a0 = b0
  case neg => simp [eqd, h0]
  subst h0
  by_cases h1 : a1 = b1
  case neg => simp [eqd, h1]
  subst h1
  by_cases h2 : a2 = b2
  case neg => simp [eqd, h2]
  subst h2
  by_cases h3 : a3 = b3
  case neg => simp [eqd, h3]
  subst h3
  simp [eqd]
theorem impl_EntrySame_dec (a b : DEntry) (h : zEntry a ≤ 1099511627776) : F.impl_EntrySame a b = some (eqd a b) := by
  obtain ⟨a0, a1, a2, a3, u⟩ := a
  obtain ⟨b0, b1, b2, b3, v⟩ := b
  unfold F.impl_EntrySame
  simp only [beq_dec, slices_Equal_Span_dec _ _ (show List.length a2 ≤ 1099511627776 by have h : zSpanS a2 + zSketch a3 ≤ 1099511627776 := h; unfold zSpanS at h; omega), impl_SketchSame_dec a3 b3 (by have h : zSpanS a2 + zSketch a3 ≤ 1099511627776 := h; omega), Option.bind_some]
  by_cases h0 : a0 = b0
  case neg => simp [eqd, h0]
  subst h0
  by_cases h1 : a1 = b1
  case neg => simp [eqd, h1]
  subst h1
  by_cases h2 : a2 = b2
  case neg => simp [eqd, h2]
  subst h2
  by_cases h3 : a3 = b3
  case neg => simp [eqd, h3]
  subst h3
  simp [eqd]
theorem spec_l10Entries_dec (a b : List DEntry) (h : a.length ≤ 1099511627776) (hs : ∀ x ∈ a, zEntry x ≤ 1099511627776) : F.spec_l10Entries a b = some (eqd a b) := by
  unfold F.spec_l10Entries
  by_cases hl : a.length = b.length
  · rw [show (len a != len b) = false by simp only [len, hl, bne_self_eq_false]]
    have := loop_dec (step := F.spec_l10Entries.s4) a b (fun i => (a, b, (i : Int), ())) hl (fun i ha hb => by
      unfold F.spec_l10Entries.s4
      simp only
      rw [lt_len ha, inb_nat ha, inb_nat hb, Int.toNat_natCast, w64_nat (by omega), getD_at ha, getD_at hb]
      simp only [cond_true, chk_true, spec_EntrySame_dec _ _ (hs _ (List.getElem_mem ha)), Option.bind_some]
      generalize eqd a[i] b[i] = d
      cases d <;> rfl) (by
      unfold F.spec_l10Entries.s4
      simp only [ge_len, cond_false])
    simp only [cond_false]
    refine (congrArg (fun z => afterO z _) this).trans ?_
    cases eqd a b <;> rfl
  · rw [show (len a != len b) = true by simp only [len, bne_iff_ne, ne_eq]; omega, eqd_ne (fun e => hl (congrArg List.length e))]; rfl
theorem slices_EqualFunc_SimplEntry__impl_EntrySame_dec (a b : List DEntry) (h : a.length ≤ 1099511627776) (hs : ∀ x ∈ a, zEntry x ≤ 1099511627776) : F.slices_EqualFunc_SimplEntry__impl_EntrySame a b () = some (eqd a b) := by
  unfold F.slices_EqualFunc_SimplEntry__impl_EntrySame
  by_cases hl : a.length = b.length
  · rw [show (len a != len b) = false by simp only [len, hl, bne_self_eq_false]]
    have := loop_dec (step := F.slices_EqualFunc_SimplEntry__impl_EntrySame.s4) a b (fun i => (b, (), a, len a, (i : Int), ())) hl (fun i ha hb => by
      unfold F.slices_EqualFunc_SimplEntry__impl_EntrySame.s4
      simp only
      rw [lt_len ha, inb_nat ha, inb_nat hb, Int.toNat_natCast, w64_nat (by omega), getD_at ha, getD_at hb]
      simp only [cond_true, chk_true, impl_EntrySame_dec _ _ (hs _ (List.getElem_mem ha)), Option.bind_some]
      generalize eqd a[i] b[i] = d
      cases d <;> rfl) (by
      unfold F.slices_EqualFunc_SimplEntry__impl_EntrySame.s4
      simp only [ge_len, cond_false])
    simp only [cond_false]
    refine (congrArg (fun z => afterO z _) this).trans ?_
    cases eqd a b <;> rfl
  · rw [show (len a != len b) = true by simp only [len, bne_iff_ne, ne_eq]; omega, eqd_ne (fun e => hl (congrArg List.length e))]; rfl
theorem spec_RowSame_dec (a b : DRow) (h : zRow a ≤ 1099511627776) : F.spec_RowSame a b = some (eqd a b) := by
  have h : a.1.length + (a.1.map zEntry).sum ≤ 1099511627776 := h
  unfold F.spec_RowSame
  rw [spec_l10Entries_dec a.1 b.1 (by omega) (fun x hx => by have := sum_mem (f := zEntry) hx; omega)]
  obtain ⟨a, u⟩ := a
  obtain ⟨b, v⟩ := b
  simp [eqd]
theorem impl_RowSame_dec (a b : DRow) (h : zRow a ≤ 1099511627776) : F.impl_RowSame a b = some (eqd a b) := by
  have h : a.1.length + (a.1.map zEntry).sum ≤ 1099511627776 := h
  unfold F.impl_RowSame
  rw [slices_EqualFunc_SimplEntry__impl_EntrySame_dec a.1 b.1 (by omega) (fun x hx => by have := sum_mem (f := zEntry) hx; omega)]
  obtain ⟨a, u⟩ := a
  obtain ⟨b, v⟩ := b
  simp [eqd]
theorem rowSame_same (a b : DRow) (h : zRow a ≤ 1048576) (_ : zRow b ≤ 1048576) : ∃ r, F.spec_RowSame a b = some r ∧ F.impl_RowSame a b = some r ∧ True :=
  ⟨_, spec_RowSame_dec a b (by omega), impl_RowSame_dec a b (by omega), trivial⟩
/- Conf: copied, compared, counted. -/

def zConf (a : DConf) : Nat := zIntS a.2.2.2.1
def fConf (a : DConf) : Prop := fIntS a.2.2.2.1
theorem toConf (a : DConf) (h : zConf a ≤ 1048576) : F.laws_toConf a = some a := by
  unfold F.laws_toConf
  simp only [toIntS a.2.2.2.1 (by unfold zConf at h; omega), Option.bind_some]
theorem eqConf (a : DConf) (h : zConf a ≤ 1099511627776) : F.laws_eqConf a a = some true := by
  unfold F.laws_eqConf
  simp only [bne_self_eq_false, cond_false, Bool.not_true, Option.bind_some, eqIntS a.2.2.2.1 (by unfold zConf at h; omega)]
theorem szConf (a : DConf) (n : Int) (hf : fConf a) (h0 : 0 ≤ n) (h1 : n ≤ 1048576) : F.laws_szConf a n = some (if (zConf a : Int) ≤ n then n - (zConf a : Int) else -1) := by
  have hz : zConf a = zIntS a.2.2.2.1 := rfl
  unfold F.laws_szConf
  unfold fConf at hf
  rw [szIntS a.2.2.2.1 n hf h0 h1]
  by_cases c0 : (zIntS a.2.2.2.1 : Int) ≤ n
  case neg => rw [if_neg c0, if_neg (by omega)]; rfl
  rw [if_pos c0]
  simp only [Option.bind_some]
  rw [show decide (n - (zIntS a.2.2.2.1 : Int) < 0) = false from decide_eq_false (by omega)]
  simp only [cond_false]
  rw [if_pos (by omega)]
  first | rfl | (congr 1; omega)
/- Seat: copied, compared, counted. -/

def zSeat (a : DSeat) : Nat := zSpanS a.2.2.1
def fSeat (a : DSeat) : Prop := fSpanS a.2.2.1
theorem toSeat (a : DSeat) (h : zSeat a ≤ 1048576) : F.laws_toSeat a = some a := by
  unfold F.laws_toSeat
  simp only [toSpanS a.2.2.1 (by unfold zSeat at h; omega), Option.bind_some]
theorem eqSeat (a : DSeat) (h : zSeat a ≤ 1099511627776) : F.laws_eqSeat a a = some true := by
  unfold F.laws_eqSeat
  simp only [bne_self_eq_false, cond_false, Bool.not_true, Option.bind_some, eqSpanS a.2.2.1 (by unfold zSeat at h; omega)]
theorem szSeat (a : DSeat) (n : Int) (hf : fSeat a) (h0 : 0 ≤ n) (h1 : n ≤ 1048576) : F.laws_szSeat a n = some (if (zSeat a : Int) ≤ n then n - (zSeat a : Int) else -1) := by
  have hz : zSeat a = zSpanS a.2.2.1 := rfl
  unfold F.laws_szSeat
  unfold fSeat at hf
  rw [szSpanS a.2.2.1 n hf h0 h1]
  by_cases c0 : (zSpanS a.2.2.1 : Int) ≤ n
  case neg => rw [if_neg c0, if_neg (by omega)]; rfl
  rw [if_pos c0]
  simp only [Option.bind_some]
  rw [show decide (n - (zSpanS a.2.2.1 : Int) < 0) = false from decide_eq_false (by omega)]
  simp only [cond_false]
  rw [if_pos (by omega)]
  first | rfl | (congr 1; omega)
/- SeatS: copied, compared, counted. -/

def zSeatS (l : List DSeat) : Nat := l.length + (l.map zSeat).sum
def fSeatS (l : List DSeat) : Prop := l.length ≤ maxLen ∧ ∀ x ∈ l, fSeat x
theorem toSeatS (l : List DSeat) (h : zSeatS l ≤ 1048576) : F.laws_toSeatS l = some l := by
  have hl : l.length ≤ 1048576 := by unfold zSeatS at h; omega
  have hel : ∀ x ∈ l, zSeat x ≤ 1048576 := fun x hm => (Nat.le_trans (sum_mem hm) (by unfold zSeatS at h; omega))
  unfold F.laws_toSeatS
  rw [mk_ok (by omega), chk_true, show Int.toNat (len l) = l.length from Int.toNat_natCast _]
  have hh := loop_to (step := F.laws_toSeatS.s3) l (0, 0, ([] : List DSpan), 0, 0, ()) (fun i m hi hm => by
    unfold F.laws_toSeatS.s3
    simp only
    rw [lt_len hi, inb_nat hi, inb_nat hm, Int.toNat_natCast, w64_nat (by omega), getD_at hi]
    simp only [cond_true, chk_true, Option.bind_some, toSeat l[i] (hel l[i] (List.getElem_mem hi))]) (fun m => by
    unfold F.laws_toSeatS.s3
    simp only [ge_len, cond_false])
  simp only [hh, afterO]
theorem eqSeatS (l : List DSeat) (h : zSeatS l ≤ 1099511627776) : F.laws_eqSeatS l l = some true := by
  have hl : l.length ≤ 1099511627776 := by unfold zSeatS at h; omega
  have hel : ∀ x ∈ l, zSeat x ≤ 1099511627776 := fun x hm => (Nat.le_trans (sum_mem hm) (by unfold zSeatS at h; omega))
  unfold F.laws_eqSeatS
  rw [show (len l != len l) = false by simp]
  have hh := loop_eq (step := F.laws_eqSeatS.s4) l (fun i hi => by
    unfold F.laws_eqSeatS.s4
    simp only
    rw [lt_len hi, inb_nat hi, Int.toNat_natCast, w64_nat (by omega), getD_at hi]
    simp only [cond_true, cond_false, chk_true, Option.bind_some, Bool.not_true, eqSeat l[i] (hel l[i] (List.getElem_mem hi))]) (by
    unfold F.laws_eqSeatS.s4
    simp only [ge_len, cond_false])
  simp only [cond_false, hh, afterO]
theorem szSeatS (l : List DSeat) (n : Int) (hf : fSeatS l) (h0 : 0 ≤ n) (h1 : n ≤ 1048576) : F.laws_szSeatS l n = some (if (zSeatS l : Int) ≤ n then n - (zSeatS l : Int) else -1) := by
  obtain ⟨hf', hfe⟩ := hf
  have hf' : l.length ≤ 9223372036854775807 := hf'
  have hz : zSeatS l = l.length + (l.map zSeat).sum := rfl
  unfold F.laws_szSeatS
  rw [show len l = (l.length : Int) from rfl, w64_id (by omega) (by omega), hz]
  by_cases hle : (l.length : Int) ≤ n
  · rw [show decide (n - (l.length : Int) < 0) = false from decide_eq_false (by omega)]
    have hh := loop_sz (step := F.laws_szSeatS.s5) zSeat l (n - (l.length : Int)) (by omega) (fun i k hi hk hkn => by
      unfold F.laws_szSeatS.s5
      simp only
      rw [lt_len hi, inb_nat hi, Int.toNat_natCast, w64_nat (by omega), getD_at hi]
      simp only [cond_true, chk_true, szSeat l[i] k (hfe _ (List.getElem_mem hi)) hk (by omega), Option.bind_some]
      by_cases hx : (zSeat l[i] : Int) ≤ k
      · rw [if_pos hx, if_pos hx, show decide (k - (zSeat l[i] : Int) < 0) = false from decide_eq_false (by omega)]; rfl
      · rw [if_neg hx, if_neg hx]; rfl) (fun k => by
      unfold F.laws_szSeatS.s5
      simp only [ge_len, cond_false])
    simp only [cond_false, hh]
    by_cases hs : (((l.map zSeat).sum : Nat) : Int) ≤ n - (l.length : Int)
    · rw [if_pos hs, if_pos (by omega)]
      simp only [afterO]
      congr 1; omega
    · rw [if_neg hs, if_neg (by omega)]; rfl
  · rw [if_neg (by omega), show decide (n - (l.length : Int) < 0) = true from decide_eq_true (by omega)]; rfl
/- RowS: copied, compared, counted. -/

def zRowS (l : List DRow) : Nat := l.length + (l.map zRow).sum
def fRowS (l : List DRow) : Prop := l.length ≤ maxLen ∧ ∀ x ∈ l, fRow x
theorem toRowS (l : List DRow) (h : zRowS l ≤ 1048576) : F.laws_toRowS l = some l := by
  have hl : l.length ≤ 1048576 := by unfold zRowS at h; omega
  have hel : ∀ x ∈ l, zRow x ≤ 1048576 := fun x hm => (Nat.le_trans (sum_mem hm) (by unfold zRowS at h; omega))
  unfold F.laws_toRowS
  rw [mk_ok (by omega), chk_true, show Int.toNat (len l) = l.length from Int.toNat_natCast _]
  have hh := loop_to (step := F.laws_toRowS.s3) l (([] : List DEntry), ()) (fun i m hi hm => by
    unfold F.laws_toRowS.s3
    simp only
    rw [lt_len hi, inb_nat hi, inb_nat hm, Int.toNat_natCast, w64_nat (by omega), getD_at hi]
    simp only [cond_true, chk_true, Option.bind_some, toRow l[i] (hel l[i] (List.getElem_mem hi))]) (fun m => by
    unfold F.laws_toRowS.s3
    simp only [ge_len, cond_false])
  simp only [hh, afterO]
theorem eqRowS (l : List DRow) (h : zRowS l ≤ 1099511627776) : F.laws_eqRowS l l = some true := by
  have hl : l.length ≤ 1099511627776 := by unfold zRowS at h; omega
  have hel : ∀ x ∈ l, zRow x ≤ 1099511627776 := fun x hm => (Nat.le_trans (sum_mem hm) (by unfold zRowS at h; omega))
  unfold F.laws_eqRowS
  rw [show (len l != len l) = false by simp]
  have hh := loop_eq (step := F.laws_eqRowS.s4) l (fun i hi => by
    unfold F.laws_eqRowS.s4
    simp only
    rw [lt_len hi, inb_nat hi, Int.toNat_natCast, w64_nat (by omega), getD_at hi]
    simp only [cond_true, cond_false, chk_true, Option.bind_some, Bool.not_true, eqRow l[i] (hel l[i] (List.getElem_mem hi))]) (by
    unfold F.laws_eqRowS.s4
    simp only [ge_len, cond_false])
  simp only [cond_false, hh, afterO]
theorem szRowS (l : List DRow) (n : Int) (hf : fRowS l) (h0 : 0 ≤ n) (h1 : n ≤ 1048576) : F.laws_szRowS l n = some (if (zRowS l : Int) ≤ n then n - (zRowS l : Int) else -1) := by
  obtain ⟨hf', hfe⟩ := hf
  have hf' : l.length ≤ 9223372036854775807 := hf'
  have hz : zRowS l = l.length + (l.map zRow).sum := rfl
  unfold F.laws_szRowS
  rw [show len l = (l.length : Int) from rfl, w64_id (by omega) (by omega), hz]
  by_cases hle : (l.length : Int) ≤ n
  · rw [show decide (n - (l.length : Int) < 0) = false from decide_eq_false (by omega)]
    have hh := loop_sz (step := F.laws_szRowS.s5) zRow l (n - (l.length : Int)) (by omega) (fun i k hi hk hkn => by
      unfold F.laws_szRowS.s5
      simp only
      rw [lt_len hi, inb_nat hi, Int.toNat_natCast, w64_nat (by omega), getD_at hi]
      simp only [cond_true, chk_true, szRow l[i] k (hfe _ (List.getElem_mem hi)) hk (by omega), Option.bind_some]
      by_cases hx : (zRow l[i] : Int) ≤ k
      · rw [if_pos hx, if_pos hx, show decide (k - (zRow l[i] : Int) < 0) = false from decide_eq_false (by omega)]; rfl
      · rw [if_neg hx, if_neg hx]; rfl) (fun k => by
      unfold F.laws_szRowS.s5
      simp only [ge_len, cond_false])
    simp only [cond_false, hh]
    by_cases hs : (((l.map zRow).sum : Nat) : Int) ≤ n - (l.length : Int)
    · rw [if_pos hs, if_pos (by omega)]
      simp only [afterO]
      congr 1; omega
    · rw [if_neg hs, if_neg (by omega)]; rfl
  · rw [if_neg (by omega), show decide (n - (l.length : Int) < 0) = true from decide_eq_true (by omega)]; rfl
/- RowSS: copied, compared, counted. -/

def zRowSS (l : List (List DRow)) : Nat := l.length + (l.map zRowS).sum
def fRowSS (l : List (List DRow)) : Prop := l.length ≤ maxLen ∧ ∀ x ∈ l, fRowS x
theorem toRowSS (l : List (List DRow)) (h : zRowSS l ≤ 1048576) : F.laws_toRowSS l = some l := by
  have hl : l.length ≤ 1048576 := by unfold zRowSS at h; omega
  have hel : ∀ x ∈ l, zRowS x ≤ 1048576 := fun x hm => (Nat.le_trans (sum_mem hm) (by unfold zRowSS at h; omega))
  unfold F.laws_toRowSS
  rw [mk_ok (by omega), chk_true, show Int.toNat (len l) = l.length from Int.toNat_natCast _]
  have hh := loop_to (step := F.laws_toRowSS.s3) l ([] : List DRow) (fun i m hi hm => by
    unfold F.laws_toRowSS.s3
    simp only
    rw [lt_len hi, inb_nat hi, inb_nat hm, Int.toNat_natCast, w64_nat (by omega), getD_at hi]
    simp only [cond_true, chk_true, Option.bind_some, toRowS l[i] (hel l[i] (List.getElem_mem hi))]) (fun m => by
    unfold F.laws_toRowSS.s3
    simp only [ge_len, cond_false])
  simp only [hh, afterO]
theorem eqRowSS (l : List (List DRow)) (h : zRowSS l ≤ 1099511627776) : F.laws_eqRowSS l l = some true := by
  have hl : l.length ≤ 1099511627776 := by unfold zRowSS at h; omega
  have hel : ∀ x ∈ l, zRowS x ≤ 1099511627776 := fun x hm => (Nat.le_trans (sum_mem hm) (by unfold zRowSS at h; omega))
  unfold F.laws_eqRowSS
  rw [show (len l != len l) = false by simp]
  have hh := loop_eq (step := F.laws_eqRowSS.s4) l (fun i hi => by
    unfold F.laws_eqRowSS.s4
    simp only
    rw [lt_len hi, inb_nat hi, Int.toNat_natCast, w64_nat (by omega), getD_at hi]
    simp only [cond_true, cond_false, chk_true, Option.bind_some, Bool.not_true, eqRowS l[i] (hel l[i] (List.getElem_mem hi))]) (by
    unfold F.laws_eqRowSS.s4
    simp only [ge_len, cond_false])
  simp only [cond_false, hh, afterO]
theorem szRowSS (l : List (List DRow)) (n : Int) (hf : fRowSS l) (h0 : 0 ≤ n) (h1 : n ≤ 1048576) : F.laws_szRowSS l n = some (if (zRowSS l : Int) ≤ n then n - (zRowSS l : Int) else -1) := by
  obtain ⟨hf', hfe⟩ := hf
  have hf' : l.length ≤ 9223372036854775807 := hf'
  have hz : zRowSS l = l.length + (l.map zRowS).sum := rfl
  unfold F.laws_szRowSS
  rw [show len l = (l.length : Int) from rfl, w64_id (by omega) (by omega), hz]
  by_cases hle : (l.length : Int) ≤ n
  · rw [show decide (n - (l.length : Int) < 0) = false from decide_eq_false (by omega)]
    have hh := loop_sz (step := F.laws_szRowSS.s5) zRowS l (n - (l.length : Int)) (by omega) (fun i k hi hk hkn => by
      unfold F.laws_szRowSS.s5
      simp only
      rw [lt_len hi, inb_nat hi, Int.toNat_natCast, w64_nat (by omega), getD_at hi]
      simp only [cond_true, chk_true, szRowS l[i] k (hfe _ (List.getElem_mem hi)) hk (by omega), Option.bind_some]
      by_cases hx : (zRowS l[i] : Int) ≤ k
      · rw [if_pos hx, if_pos hx, show decide (k - (zRowS l[i] : Int) < 0) = false from decide_eq_false (by omega)]; rfl
      · rw [if_neg hx, if_neg hx]; rfl) (fun k => by
      unfold F.laws_szRowSS.s5
      simp only [ge_len, cond_false])
    simp only [cond_false, hh]
    by_cases hs : (((l.map zRowS).sum : Nat) : Int) ≤ n - (l.length : Int)
    · rw [if_pos hs, if_pos (by omega)]
      simp only [afterO]
      congr 1; omega
    · rw [if_neg hs, if_neg (by omega)]; rfl
  · rw [if_neg (by omega), show decide (n - (l.length : Int) < 0) = true from decide_eq_true (by omega)]; rfl
/- Turn: copied, compared, counted. -/

def zTurn (a : DTurn) : Nat := zIntS a.2.2.1
def fTurn (a : DTurn) : Prop := fIntS a.2.2.1
theorem toTurn (a : DTurn) (h : zTurn a ≤ 1048576) : F.laws_toTurn a = some a := by
  unfold F.laws_toTurn
  simp only [toIntS a.2.2.1 (by unfold zTurn at h; omega), Option.bind_some]
theorem eqTurn (a : DTurn) (h : zTurn a ≤ 1099511627776) : F.laws_eqTurn a a = some true := by
  unfold F.laws_eqTurn
  simp only [bne_self_eq_false, beq_self_eq_true, cond_false, Bool.not_true, Option.bind_some, eqIntS a.2.2.1 (by unfold zTurn at h; omega)]
theorem szTurn (a : DTurn) (n : Int) (hf : fTurn a) (h0 : 0 ≤ n) (h1 : n ≤ 1048576) : F.laws_szTurn a n = some (if (zTurn a : Int) ≤ n then n - (zTurn a : Int) else -1) := by
  have hz : zTurn a = zIntS a.2.2.1 := rfl
  unfold F.laws_szTurn
  unfold fTurn at hf
  rw [szIntS a.2.2.1 n hf h0 h1]
  by_cases c0 : (zIntS a.2.2.1 : Int) ≤ n
  case neg => rw [if_neg c0, if_neg (by omega)]; rfl
  rw [if_pos c0]
  simp only [Option.bind_some]
  rw [show decide (n - (zIntS a.2.2.1 : Int) < 0) = false from decide_eq_false (by omega)]
  simp only [cond_false]
  rw [if_pos (by omega)]
  first | rfl | (congr 1; omega)
/- TurnS: copied, compared, counted. -/

def zTurnS (l : List DTurn) : Nat := l.length + (l.map zTurn).sum
def fTurnS (l : List DTurn) : Prop := l.length ≤ maxLen ∧ ∀ x ∈ l, fTurn x
theorem toTurnS (l : List DTurn) (h : zTurnS l ≤ 1048576) : F.laws_toTurnS l = some l := by
  have hl : l.length ≤ 1048576 := by unfold zTurnS at h; omega
  have hel : ∀ x ∈ l, zTurn x ≤ 1048576 := fun x hm => (Nat.le_trans (sum_mem hm) (by unfold zTurnS at h; omega))
  unfold F.laws_toTurnS
  rw [mk_ok (by omega), chk_true, show Int.toNat (len l) = l.length from Int.toNat_natCast _]
  have hh := loop_to (step := F.laws_toTurnS.s3) l (0, false, ([] : List Int), ()) (fun i m hi hm => by
    unfold F.laws_toTurnS.s3
    simp only
    rw [lt_len hi, inb_nat hi, inb_nat hm, Int.toNat_natCast, w64_nat (by omega), getD_at hi]
    simp only [cond_true, chk_true, Option.bind_some, toTurn l[i] (hel l[i] (List.getElem_mem hi))]) (fun m => by
    unfold F.laws_toTurnS.s3
    simp only [ge_len, cond_false])
  simp only [hh, afterO]
theorem eqTurnS (l : List DTurn) (h : zTurnS l ≤ 1099511627776) : F.laws_eqTurnS l l = some true := by
  have hl : l.length ≤ 1099511627776 := by unfold zTurnS at h; omega
  have hel : ∀ x ∈ l, zTurn x ≤ 1099511627776 := fun x hm => (Nat.le_trans (sum_mem hm) (by unfold zTurnS at h; omega))
  unfold F.laws_eqTurnS
  rw [show (len l != len l) = false by simp]
  have hh := loop_eq (step := F.laws_eqTurnS.s4) l (fun i hi => by
    unfold F.laws_eqTurnS.s4
    simp only
    rw [lt_len hi, inb_nat hi, Int.toNat_natCast, w64_nat (by omega), getD_at hi]
    simp only [cond_true, cond_false, chk_true, Option.bind_some, Bool.not_true, eqTurn l[i] (hel l[i] (List.getElem_mem hi))]) (by
    unfold F.laws_eqTurnS.s4
    simp only [ge_len, cond_false])
  simp only [cond_false, hh, afterO]
theorem szTurnS (l : List DTurn) (n : Int) (hf : fTurnS l) (h0 : 0 ≤ n) (h1 : n ≤ 1048576) : F.laws_szTurnS l n = some (if (zTurnS l : Int) ≤ n then n - (zTurnS l : Int) else -1) := by
  obtain ⟨hf', hfe⟩ := hf
  have hf' : l.length ≤ 9223372036854775807 := hf'
  have hz : zTurnS l = l.length + (l.map zTurn).sum := rfl
  unfold F.laws_szTurnS
  rw [show len l = (l.length : Int) from rfl, w64_id (by omega) (by omega), hz]
  by_cases hle : (l.length : Int) ≤ n
  · rw [show decide (n - (l.length : Int) < 0) = false from decide_eq_false (by omega)]
    have hh := loop_sz (step := F.laws_szTurnS.s5) zTurn l (n - (l.length : Int)) (by omega) (fun i k hi hk hkn => by
      unfold F.laws_szTurnS.s5
      simp only
      rw [lt_len hi, inb_nat hi, Int.toNat_natCast, w64_nat (by omega), getD_at hi]
      simp only [cond_true, chk_true, szTurn l[i] k (hfe _ (List.getElem_mem hi)) hk (by omega), Option.bind_some]
      by_cases hx : (zTurn l[i] : Int) ≤ k
      · rw [if_pos hx, if_pos hx, show decide (k - (zTurn l[i] : Int) < 0) = false from decide_eq_false (by omega)]; rfl
      · rw [if_neg hx, if_neg hx]; rfl) (fun k => by
      unfold F.laws_szTurnS.s5
      simp only [ge_len, cond_false])
    simp only [cond_false, hh]
    by_cases hs : (((l.map zTurn).sum : Nat) : Int) ≤ n - (l.length : Int)
    · rw [if_pos hs, if_pos (by omega)]
      simp only [afterO]
      congr 1; omega
    · rw [if_neg hs, if_neg (by omega)]; rfl
  · rw [if_neg (by omega), show decide (n - (l.length : Int) < 0) = true from decide_eq_true (by omega)]; rfl
/- Out: copied, compared, counted. -/

def zOut (a : DOut) : Nat := zEntry a.2.1
def fOut (a : DOut) : Prop := fEntry a.2.1
theorem toOut (a : DOut) (h : zOut a ≤ 1048576) : F.laws_toOut a = some a := by
  unfold F.laws_toOut
  simp only [toEntry a.2.1 (by unfold zOut at h; omega), Option.bind_some]
theorem eqOut (a : DOut) (h : zOut a ≤ 1099511627776) : F.laws_eqOut a a = some true := by
  unfold F.laws_eqOut
  simp only [bne_self_eq_false, cond_false, Bool.not_true, Option.bind_some, eqEntry a.2.1 (by unfold zOut at h; omega)]
theorem szOut (a : DOut) (n : Int) (hf : fOut a) (h0 : 0 ≤ n) (h1 : n ≤ 1048576) : F.laws_szOut a n = some (if (zOut a : Int) ≤ n then n - (zOut a : Int) else -1) := by
  have hz : zOut a = zEntry a.2.1 := rfl
  unfold F.laws_szOut
  unfold fOut at hf
  rw [szEntry a.2.1 n hf h0 h1]
  by_cases c0 : (zEntry a.2.1 : Int) ≤ n
  case neg => rw [if_neg c0, if_neg (by omega)]; rfl
  rw [if_pos c0]
  simp only [Option.bind_some]
  rw [show decide (n - (zEntry a.2.1 : Int) < 0) = false from decide_eq_false (by omega)]
  simp only [cond_false]
  rw [if_pos (by omega)]
  first | rfl | (congr 1; omega)
/- OutS: copied, compared, counted. -/

def zOutS (l : List DOut) : Nat := l.length + (l.map zOut).sum
def fOutS (l : List DOut) : Prop := l.length ≤ maxLen ∧ ∀ x ∈ l, fOut x
theorem toOutS (l : List DOut) (h : zOutS l ≤ 1048576) : F.laws_toOutS l = some l := by
  have hl : l.length ≤ 1048576 := by unfold zOutS at h; omega
  have hel : ∀ x ∈ l, zOut x ≤ 1048576 := fun x hm => (Nat.le_trans (sum_mem hm) (by unfold zOutS at h; omega))
  unfold F.laws_toOutS
  rw [mk_ok (by omega), chk_true, show Int.toNat (len l) = l.length from Int.toNat_natCast _]
  have hh := loop_to (step := F.laws_toOutS.s3) l (0, (0, 0, ([] : List DSpan), (0, 0, 0, 0, ([] : List Int), ([] : List Int), ([] : List (List Int)), ()), ()), ()) (fun i m hi hm => by
    unfold F.laws_toOutS.s3
    simp only
    rw [lt_len hi, inb_nat hi, inb_nat hm, Int.toNat_natCast, w64_nat (by omega), getD_at hi]
    simp only [cond_true, chk_true, Option.bind_some, toOut l[i] (hel l[i] (List.getElem_mem hi))]) (fun m => by
    unfold F.laws_toOutS.s3
    simp only [ge_len, cond_false])
  simp only [hh, afterO]
theorem eqOutS (l : List DOut) (h : zOutS l ≤ 1099511627776) : F.laws_eqOutS l l = some true := by
  have hl : l.length ≤ 1099511627776 := by unfold zOutS at h; omega
  have hel : ∀ x ∈ l, zOut x ≤ 1099511627776 := fun x hm => (Nat.le_trans (sum_mem hm) (by unfold zOutS at h; omega))
  unfold F.laws_eqOutS
  rw [show (len l != len l) = false by simp]
  have hh := loop_eq (step := F.laws_eqOutS.s4) l (fun i hi => by
    unfold F.laws_eqOutS.s4
    simp only
    rw [lt_len hi, inb_nat hi, Int.toNat_natCast, w64_nat (by omega), getD_at hi]
    simp only [cond_true, cond_false, chk_true, Option.bind_some, Bool.not_true, eqOut l[i] (hel l[i] (List.getElem_mem hi))]) (by
    unfold F.laws_eqOutS.s4
    simp only [ge_len, cond_false])
  simp only [cond_false, hh, afterO]
theorem szOutS (l : List DOut) (n : Int) (hf : fOutS l) (h0 : 0 ≤ n) (h1 : n ≤ 1048576) : F.laws_szOutS l n = some (if (zOutS l : Int) ≤ n then n - (zOutS l : Int) else -1) := by
  obtain ⟨hf', hfe⟩ := hf
  have hf' : l.length ≤ 9223372036854775807 := hf'
  have hz : zOutS l = l.length + (l.map zOut).sum := rfl
  unfold F.laws_szOutS
  rw [show len l = (l.length : Int) from rfl, w64_id (by omega) (by omega), hz]
  by_cases hle : (l.length : Int) ≤ n
  · rw [show decide (n - (l.length : Int) < 0) = false from decide_eq_false (by omega)]
    have hh := loop_sz (step := F.laws_szOutS.s5) zOut l (n - (l.length : Int)) (by omega) (fun i k hi hk hkn => by
      unfold F.laws_szOutS.s5
      simp only
      rw [lt_len hi, inb_nat hi, Int.toNat_natCast, w64_nat (by omega), getD_at hi]
      simp only [cond_true, chk_true, szOut l[i] k (hfe _ (List.getElem_mem hi)) hk (by omega), Option.bind_some]
      by_cases hx : (zOut l[i] : Int) ≤ k
      · rw [if_pos hx, if_pos hx, show decide (k - (zOut l[i] : Int) < 0) = false from decide_eq_false (by omega)]; rfl
      · rw [if_neg hx, if_neg hx]; rfl) (fun k => by
      unfold F.laws_szOutS.s5
      simp only [ge_len, cond_false])
    simp only [cond_false, hh]
    by_cases hs : (((l.map zOut).sum : Nat) : Int) ≤ n - (l.length : Int)
    · rw [if_pos hs, if_pos (by omega)]
      simp only [afterO]
      congr 1; omega
    · rw [if_neg hs, if_neg (by omega)]; rfl
  · rw [if_neg (by omega), show decide (n - (l.length : Int) < 0) = true from decide_eq_true (by omega)]; rfl
/- House: copied, compared, counted. -/

def zHouse (a : DHouse) : Nat := zConf a.1 + zSeatS a.2.2.2.1 + zRowSS a.2.2.2.2.1 + zTurnS a.2.2.2.2.2.1 + zEntryS a.2.2.2.2.2.2.2.1 + zOutS a.2.2.2.2.2.2.2.2.1
def fHouse (a : DHouse) : Prop := fConf a.1 ∧ fSeatS a.2.2.2.1 ∧ fRowSS a.2.2.2.2.1 ∧ fTurnS a.2.2.2.2.2.1 ∧ fEntryS a.2.2.2.2.2.2.2.1 ∧ fOutS a.2.2.2.2.2.2.2.2.1
theorem toHouse (a : DHouse) (h : zHouse a ≤ 1048576) : F.laws_toHouse a = some a := by
  unfold F.laws_toHouse
  simp only [toConf a.1 (by unfold zHouse at h; omega), toSeatS a.2.2.2.1 (by unfold zHouse at h; omega), toRowSS a.2.2.2.2.1 (by unfold zHouse at h; omega), toTurnS a.2.2.2.2.2.1 (by unfold zHouse at h; omega), toEntryS a.2.2.2.2.2.2.2.1 (by unfold zHouse at h; omega), toOutS a.2.2.2.2.2.2.2.2.1 (by unfold zHouse at h; omega), Option.bind_some]
theorem eqHouse (a : DHouse) (h : zHouse a ≤ 1099511627776) : F.laws_eqHouse a a = some true := by
  unfold F.laws_eqHouse
  simp only [bne_self_eq_false, beq_self_eq_true, cond_false, Bool.not_true, Option.bind_some, eqConf a.1 (by unfold zHouse at h; omega), eqSeatS a.2.2.2.1 (by unfold zHouse at h; omega), eqRowSS a.2.2.2.2.1 (by unfold zHouse at h; omega), eqTurnS a.2.2.2.2.2.1 (by unfold zHouse at h; omega), eqEntryS a.2.2.2.2.2.2.2.1 (by unfold zHouse at h; omega), eqOutS a.2.2.2.2.2.2.2.2.1 (by unfold zHouse at h; omega)]
theorem szHouse (a : DHouse) (n : Int) (hf : fHouse a) (h0 : 0 ≤ n) (h1 : n ≤ 1048576) : F.laws_szHouse a n = some (if (zHouse a : Int) ≤ n then n - (zHouse a : Int) else -1) := by
  have hz : zHouse a = zConf a.1 + zSeatS a.2.2.2.1 + zRowSS a.2.2.2.2.1 + zTurnS a.2.2.2.2.2.1 + zEntryS a.2.2.2.2.2.2.2.1 + zOutS a.2.2.2.2.2.2.2.2.1 := rfl
  unfold F.laws_szHouse
  unfold fHouse at hf
  rw [szConf a.1 n hf.1 h0 h1]
  by_cases c0 : (zConf a.1 : Int) ≤ n
  case neg => rw [if_neg c0, if_neg (by omega)]; rfl
  rw [if_pos c0]
  simp only [Option.bind_some]
  rw [show decide (n - (zConf a.1 : Int) < 0) = false from decide_eq_false (by omega)]
  simp only [cond_false]
  rw [szSeatS a.2.2.2.1 (n - (zConf a.1 : Int)) hf.2.1 (by omega) (by omega)]
  by_cases c1 : (zSeatS a.2.2.2.1 : Int) ≤ n - (zConf a.1 : Int)
  case neg => rw [if_neg c1, if_neg (by omega)]; rfl
  rw [if_pos c1]
  simp only [Option.bind_some]
  rw [show decide (n - (zConf a.1 : Int) - (zSeatS a.2.2.2.1 : Int) < 0) = false from decide_eq_false (by omega)]
  simp only [cond_false]
  rw [szRowSS a.2.2.2.2.1 (n - (zConf a.1 : Int) - (zSeatS a.2.2.2.1 : Int)) hf.2.2.1 (by omega) (by omega)]
  by_cases c2 : (zRowSS a.2.2.2.2.1 : Int) ≤ n - (zConf a.1 : Int) - (zSeatS a.2.2.2.1 : Int)
  case neg => rw [if_neg c2, if_neg (by omega)]; rfl
  rw [if_pos c2]
  simp only [Option.bind_some]
  rw [show decide (n - (zConf a.1 : Int) - (zSeatS a.2.2.2.1 : Int) - (zRowSS a.2.2.2.2.1 : Int) < 0) = false from decide_eq_false (by omega)]
  simp only [cond_false]
  rw [szTurnS a.2.2.2.2.2.1 (n - (zConf a.1 : Int) - (zSeatS a.2.2.2.1 : Int) - (zRowSS a.2.2.2.2.1 : Int)) hf.2.2.2.1 (by omega) (by omega)]
  by_cases c3 : (zTurnS a.2.2.2.2.2.1 : Int) ≤ n - (zConf a.1 : Int) - (zSeatS a.2.2.2.1 : Int) - (zRowSS a.2.2.2.2.1 : Int)
  case neg => rw [if_neg c3, if_neg (by omega)]; rfl
  rw [if_pos c3]
  simp only [Option.bind_some]
  rw [show decide (n - (zConf a.1 : Int) - (zSeatS a.2.2.2.1 : Int) - (zRowSS a.2.2.2.2.1 : Int) - (zTurnS a.2.2.2.2.2.1 : Int) < 0) = false from decide_eq_false (by omega)]
  simp only [cond_false]
  rw [szEntryS a.2.2.2.2.2.2.2.1 (n - (zConf a.1 : Int) - (zSeatS a.2.2.2.1 : Int) - (zRowSS a.2.2.2.2.1 : Int) - (zTurnS a.2.2.2.2.2.1 : Int)) hf.2.2.2.2.1 (by omega) (by omega)]
  by_cases c4 : (zEntryS a.2.2.2.2.2.2.2.1 : Int) ≤ n - (zConf a.1 : Int) - (zSeatS a.2.2.2.1 : Int) - (zRowSS a.2.2.2.2.1 : Int) - (zTurnS a.2.2.2.2.2.1 : Int)
  case neg => rw [if_neg c4, if_neg (by omega)]; rfl
  rw [if_pos c4]
  simp only [Option.bind_some]
  rw [show decide (n - (zConf a.1 : Int) - (zSeatS a.2.2.2.1 : Int) - (zRowSS a.2.2.2.2.1 : Int) - (zTurnS a.2.2.2.2.2.1 : Int) - (zEntryS a.2.2.2.2.2.2.2.1 : Int) < 0) = false from decide_eq_false (by omega)]
  simp only [cond_false]
  rw [szOutS a.2.2.2.2.2.2.2.2.1 (n - (zConf a.1 : Int) - (zSeatS a.2.2.2.1 : Int) - (zRowSS a.2.2.2.2.1 : Int) - (zTurnS a.2.2.2.2.2.1 : Int) - (zEntryS a.2.2.2.2.2.2.2.1 : Int)) hf.2.2.2.2.2 (by omega) (by omega)]
  by_cases c5 : (zOutS a.2.2.2.2.2.2.2.2.1 : Int) ≤ n - (zConf a.1 : Int) - (zSeatS a.2.2.2.1 : Int) - (zRowSS a.2.2.2.2.1 : Int) - (zTurnS a.2.2.2.2.2.1 : Int) - (zEntryS a.2.2.2.2.2.2.2.1 : Int)
  case neg => rw [if_neg c5, if_neg (by omega)]; rfl
  rw [if_pos c5]
  simp only [Option.bind_some]
  rw [show decide (n - (zConf a.1 : Int) - (zSeatS a.2.2.2.1 : Int) - (zRowSS a.2.2.2.2.1 : Int) - (zTurnS a.2.2.2.2.2.1 : Int) - (zEntryS a.2.2.2.2.2.2.2.1 : Int) - (zOutS a.2.2.2.2.2.2.2.2.1 : Int) < 0) = false from decide_eq_false (by omega)]
  simp only [cond_false]
  rw [if_pos (by omega)]
  first | rfl | (congr 1; omega)
/- Houses alike. -/

theorem spec_l12Seat_dec (a b : DSeat) (h : zSeat a ≤ 1099511627776) : F.spec_l12Seat a b = some (eqd a b) := by
  obtain ⟨a0, a1, a2, a3, a4, u⟩ := a
  obtain ⟨b0, b1, b2, b3, b4, v⟩ := b
  unfold F.spec_l12Seat
  simp only [beq_dec, spec_l5Same_dec _ _ (show List.length a2 ≤ 1099511627776 from h), Option.bind_some]
  by_cases h0 : a0 = b0
  case neg => simp [eqd, h0]
  subst h0
  by_cases h1 : a1 = b1
  case neg => simp [eqd, h1]
  subst h1
  by_cases h2 : a2 = b2
  case neg => simp [eqd, h2]
  subst h2
  by_cases h3 : a3 = b3
  case neg => simp [eqd, h3]
  subst h3
  by_cases h4 : a4 = b4
  case neg => simp [eqd, h4]
  subst h4
  simp [eqd]
theorem impl_seatSame_dec (a b : DSeat) (h : zSeat a ≤ 1099511627776) : F.impl_seatSame a b = some (eqd a b) := by
  obtain ⟨a0, a1, a2, a3, a4, u⟩ := a
  obtain ⟨b0, b1, b2, b3, b4, v⟩ := b
  unfold F.impl_seatSame
  simp only [beq_dec, slices_Equal_Span_dec _ _ (show List.length a2 ≤ 1099511627776 from h), Option.bind_some]
  by_cases h0 : a0 = b0
  case neg => simp [eqd, h0]
  subst h0
  by_cases h1 : a1 = b1
  case neg => simp [eqd, h1]
  subst h1
  by_cases h2 : a2 = b2
  case neg => simp [eqd, h2]
  subst h2
  by_cases h3 : a3 = b3
  case neg => simp [eqd, h3]
  subst h3
  by_cases h4 : a4 = b4
  case neg => simp [eqd, h4]
  subst h4
  simp [eqd]
theorem spec_l12Confs_dec (a b : DConf) (h : zConf a ≤ 1099511627776) : F.spec_l12Confs a b = some (eqd a b) := by
  obtain ⟨a0, a1, a2, a3, a4, a5, a6, a7, u⟩ := a
  obtain ⟨b0, b1, b2, b3, b4, b5, b6, b7, v⟩ := b
  unfold F.spec_l12Confs
  simp only [beq_dec, spec_l1Same_dec _ _ (show List.length a3 ≤ 1099511627776 from h), Option.bind_some]
  by_cases h0 : a0 = b0
  case neg => simp [eqd, h0]
  subst h0
  by_cases h1 : a1 = b1
  case neg => simp [eqd, h1]
  subst h1
  by_cases h2 : a2 = b2
  case neg => simp [eqd, h2]
  subst h2
  by_cases h3 : a3 = b3
  case neg => simp [eqd, h3]
  subst h3
  by_cases h4 : a4 = b4
  case neg => simp [eqd, h4]
  subst h4
  by_cases h5 : a5 = b5
  case neg => simp [eqd, h5]
  subst h5
  by_cases h6 : a6 = b6
  case neg => simp [eqd, h6]
  subst h6
  by_cases h7 : a7 = b7
  case neg => simp [eqd, h7]
  subst h7
  simp [eqd]
theorem impl_confSame_dec (a b : DConf) (h : zConf a ≤ 1099511627776) : F.impl_confSame a b = some (eqd a b) := by
  obtain ⟨a0, a1, a2, a3, a4, a5, a6, a7, u⟩ := a
  obtain ⟨b0, b1, b2, b3, b4, b5, b6, b7, v⟩ := b
  unfold F.impl_confSame
  simp only [beq_dec, slices_Equal_int_dec _ _ (show List.length a3 ≤ 1099511627776 from h), Option.bind_some]
  by_cases h0 : a0 = b0
  case neg => simp [eqd, h0]
  subst h0
  by_cases h1 : a1 = b1
  case neg => simp [eqd, h1]
  subst h1
  by_cases h2 : a2 = b2
  case neg => simp [eqd, h2]
  subst h2
  by_cases h3 : a3 = b3
  case neg => simp [eqd, h3]
  subst h3
  by_cases h4 : a4 = b4
  case neg => simp [eqd, h4]
  subst h4
  by_cases h5 : a5 = b5
  case neg => simp [eqd, h5]
  subst h5
  by_cases h6 : a6 = b6
  case neg => simp [eqd, h6]
  subst h6
  by_cases h7 : a7 = b7
  case neg => simp [eqd, h7]
  subst h7
  simp [eqd]
theorem impl_turnSame_dec (a b : DTurn) (h : zTurn a ≤ 1099511627776) : F.impl_turnSame a b = some (eqd a b) := by
  obtain ⟨a0, a1, a2, u⟩ := a
  obtain ⟨b0, b1, b2, v⟩ := b
  unfold F.impl_turnSame
  simp only [beq_dec, slices_Equal_int_dec _ _ (show List.length a2 ≤ 1099511627776 from h), Option.bind_some]
  by_cases h0 : a0 = b0
  case neg => simp [eqd, h0]
  subst h0
  by_cases h1 : a1 = b1
  case neg => simp [eqd, h1]
  subst h1
  by_cases h2 : a2 = b2
  case neg => simp [eqd, h2]
  subst h2
  simp [eqd]
theorem impl_outSame_dec (a b : DOut) (h : zOut a ≤ 1099511627776) : F.impl_outSame a b = some (eqd a b) := by
  obtain ⟨a0, a1, u⟩ := a
  obtain ⟨b0, b1, v⟩ := b
  unfold F.impl_outSame
  simp only [beq_dec, impl_EntrySame_dec a1 b1 h, Option.bind_some]
  by_cases h0 : a0 = b0
  case neg => simp [eqd, h0]
  subst h0
  by_cases h1 : a1 = b1
  case neg => simp [eqd, h1]
  subst h1
  simp [eqd]
theorem slices_EqualFunc_SimplSeat__impl_seatSame_dec (a b : List DSeat) (h : a.length ≤ 1099511627776) (hs : ∀ x ∈ a, zSeat x ≤ 1099511627776) : F.slices_EqualFunc_SimplSeat__impl_seatSame a b () = some (eqd a b) := by
  unfold F.slices_EqualFunc_SimplSeat__impl_seatSame
  by_cases hl : a.length = b.length
  · rw [show (len a != len b) = false by simp only [len, hl, bne_self_eq_false]]
    have := loop_dec (step := F.slices_EqualFunc_SimplSeat__impl_seatSame.s4) a b (fun i => (b, (), a, len a, (i : Int), ())) hl (fun i ha hb => by
      unfold F.slices_EqualFunc_SimplSeat__impl_seatSame.s4
      simp only
      rw [lt_len ha, inb_nat ha, inb_nat hb, Int.toNat_natCast, w64_nat (by omega), getD_at ha, getD_at hb]
      simp only [cond_true, chk_true, impl_seatSame_dec _ _ (hs _ (List.getElem_mem ha)), Option.bind_some]
      generalize eqd a[i] b[i] = d
      cases d <;> rfl) (by
      unfold F.slices_EqualFunc_SimplSeat__impl_seatSame.s4
      simp only [ge_len, cond_false])
    simp only [cond_false]
    refine (congrArg (fun z => afterO z _) this).trans ?_
    cases eqd a b <;> rfl
  · rw [show (len a != len b) = true by simp only [len, bne_iff_ne, ne_eq]; omega, eqd_ne (fun e => hl (congrArg List.length e))]; rfl
theorem slices_EqualFunc_SimplTurn__impl_turnSame_dec (a b : List DTurn) (h : a.length ≤ 1099511627776) (hs : ∀ x ∈ a, zTurn x ≤ 1099511627776) : F.slices_EqualFunc_SimplTurn__impl_turnSame a b () = some (eqd a b) := by
  unfold F.slices_EqualFunc_SimplTurn__impl_turnSame
  by_cases hl : a.length = b.length
  · rw [show (len a != len b) = false by simp only [len, hl, bne_self_eq_false]]
    have := loop_dec (step := F.slices_EqualFunc_SimplTurn__impl_turnSame.s4) a b (fun i => (b, (), a, len a, (i : Int), ())) hl (fun i ha hb => by
      unfold F.slices_EqualFunc_SimplTurn__impl_turnSame.s4
      simp only
      rw [lt_len ha, inb_nat ha, inb_nat hb, Int.toNat_natCast, w64_nat (by omega), getD_at ha, getD_at hb]
      simp only [cond_true, chk_true, impl_turnSame_dec _ _ (hs _ (List.getElem_mem ha)), Option.bind_some]
      generalize eqd a[i] b[i] = d
      cases d <;> rfl) (by
      unfold F.slices_EqualFunc_SimplTurn__impl_turnSame.s4
      simp only [ge_len, cond_false])
    simp only [cond_false]
    refine (congrArg (fun z => afterO z _) this).trans ?_
    cases eqd a b <;> rfl
  · rw [show (len a != len b) = true by simp only [len, bne_iff_ne, ne_eq]; omega, eqd_ne (fun e => hl (congrArg List.length e))]; rfl
theorem slices_EqualFunc_SimplOut__impl_outSame_dec (a b : List DOut) (h : a.length ≤ 1099511627776) (hs : ∀ x ∈ a, zOut x ≤ 1099511627776) : F.slices_EqualFunc_SimplOut__impl_outSame a b () = some (eqd a b) := by
  unfold F.slices_EqualFunc_SimplOut__impl_outSame
  by_cases hl : a.length = b.length
  · rw [show (len a != len b) = false by simp only [len, hl, bne_self_eq_false]]
    have := loop_dec (step := F.slices_EqualFunc_SimplOut__impl_outSame.s4) a b (fun i => (b, (), a, len a, (i : Int), ())) hl (fun i ha hb => by
      unfold F.slices_EqualFunc_SimplOut__impl_outSame.s4
      simp only
      rw [lt_len ha, inb_nat ha, inb_nat hb, Int.toNat_natCast, w64_nat (by omega), getD_at ha, getD_at hb]
      simp only [cond_true, chk_true, impl_outSame_dec _ _ (hs _ (List.getElem_mem ha)), Option.bind_some]
      generalize eqd a[i] b[i] = d
      cases d <;> rfl) (by
      unfold F.slices_EqualFunc_SimplOut__impl_outSame.s4
      simp only [ge_len, cond_false])
    simp only [cond_false]
    refine (congrArg (fun z => afterO z _) this).trans ?_
    cases eqd a b <;> rfl
  · rw [show (len a != len b) = true by simp only [len, bne_iff_ne, ne_eq]; omega, eqd_ne (fun e => hl (congrArg List.length e))]; rfl
theorem slices_EqualFunc_SimplRow__impl_RowSame_dec (a b : List DRow) (h : a.length ≤ 1099511627776) (hs : ∀ x ∈ a, zRow x ≤ 1099511627776) : F.slices_EqualFunc_SimplRow__impl_RowSame a b () = some (eqd a b) := by
  unfold F.slices_EqualFunc_SimplRow__impl_RowSame
  by_cases hl : a.length = b.length
  · rw [show (len a != len b) = false by simp only [len, hl, bne_self_eq_false]]
    have := loop_dec (step := F.slices_EqualFunc_SimplRow__impl_RowSame.s4) a b (fun i => (b, (), a, len a, (i : Int), ())) hl (fun i ha hb => by
      unfold F.slices_EqualFunc_SimplRow__impl_RowSame.s4
      simp only
      rw [lt_len ha, inb_nat ha, inb_nat hb, Int.toNat_natCast, w64_nat (by omega), getD_at ha, getD_at hb]
      simp only [cond_true, chk_true, impl_RowSame_dec _ _ (hs _ (List.getElem_mem ha)), Option.bind_some]
      generalize eqd a[i] b[i] = d
      cases d <;> rfl) (by
      unfold F.slices_EqualFunc_SimplRow__impl_RowSame.s4
      simp only [ge_len, cond_false])
    simp only [cond_false]
    refine (congrArg (fun z => afterO z _) this).trans ?_
    cases eqd a b <;> rfl
  · rw [show (len a != len b) = true by simp only [len, bne_iff_ne, ne_eq]; omega, eqd_ne (fun e => hl (congrArg List.length e))]; rfl
theorem impl_HouseSame_1_dec (a b : List DRow) (h : zRowS a ≤ 1099511627776) : F.impl_HouseSame_1 a b = some (eqd a b) := by
  have h : a.length + (a.map zRow).sum ≤ 1099511627776 := h
  unfold F.impl_HouseSame_1
  rw [slices_EqualFunc_SimplRow__impl_RowSame_dec a b (by omega) (fun x hx => by have := sum_mem (f := zRow) hx; omega)]; rfl
theorem slices_EqualFunc_SSimplRow__impl_HouseSame_1_dec (a b : List (List DRow)) (h : a.length ≤ 1099511627776) (hs : ∀ x ∈ a, zRowS x ≤ 1099511627776) : F.slices_EqualFunc_SSimplRow__impl_HouseSame_1 a b () = some (eqd a b) := by
  unfold F.slices_EqualFunc_SSimplRow__impl_HouseSame_1
  by_cases hl : a.length = b.length
  · rw [show (len a != len b) = false by simp only [len, hl, bne_self_eq_false]]
    have := loop_dec (step := F.slices_EqualFunc_SSimplRow__impl_HouseSame_1.s4) a b (fun i => (b, (), a, len a, (i : Int), ())) hl (fun i ha hb => by
      unfold F.slices_EqualFunc_SSimplRow__impl_HouseSame_1.s4
      simp only
      rw [lt_len ha, inb_nat ha, inb_nat hb, Int.toNat_natCast, w64_nat (by omega), getD_at ha, getD_at hb]
      simp only [cond_true, chk_true, impl_HouseSame_1_dec _ _ (hs _ (List.getElem_mem ha)), Option.bind_some]
      generalize eqd a[i] b[i] = d
      cases d <;> rfl) (by
      unfold F.slices_EqualFunc_SSimplRow__impl_HouseSame_1.s4
      simp only [ge_len, cond_false])
    simp only [cond_false]
    refine (congrArg (fun z => afterO z _) this).trans ?_
    cases eqd a b <;> rfl
  · rw [show (len a != len b) = true by simp only [len, bne_iff_ne, ne_eq]; omega, eqd_ne (fun e => hl (congrArg List.length e))]; rfl
/-- It ends at the first place where they differ, with any answer. -/
theorem loop_decA {X α A : Type} {step : X → Option (Lp X A)} (r : A) (a b : List α) (mk : Nat → X) (hl : a.length = b.length)
    (h : ∀ i (ha : i < a.length) (hb : i < b.length), step (mk i) = some (bif eqd a[i] b[i] then .again (mk (i + 1)) else .ret r))
    (he : step (mk a.length) = some (.exit (mk a.length))) :
    loopO step (mk 0) = some (bif eqd a b then .inl (mk a.length) else .inr r) := by
  have hz : (a.zip b).length = a.length := by rw [List.length_zip]; omega
  have := loop_all (step := step) (a.zip b) mk (fun q => eqd q.1 q.2) r (fun i hi => by
    rw [h i (by omega) (by omega), List.getElem_zip]) (by rw [hz]; exact he)
  rw [this, zip_all hl, hz]
theorem l12Rows_in (a b : List (List DRow)) (k : Nat) (hk : k < a.length) (hk2 : k < b.length) (hl : a[k].length = b[k].length) (h : zRowS a[k] ≤ 1099511627776) : loopO F.spec_l12Rows.s9 (a, b, (k : Int), 0, ()) = some (bif eqd a[k] b[k] then .inl (a, b, (k : Int), (a[k].length : Int), ()) else .inr (.ret false)) := by
  have h : a[k].length + (a[k].map zRow).sum ≤ 1099511627776 := h
  exact loop_decA (step := F.spec_l12Rows.s9) (.ret false) a[k] b[k] (fun i => (a, b, (k : Int), (i : Int), ())) hl (fun i ha hb => by
    unfold F.spec_l12Rows.s9
    simp only
    rw [inb_nat hk, inb_nat hk2, Int.toNat_natCast, getD_at hk, getD_at hk2, lt_len ha, inb_nat ha, inb_nat hb, Int.toNat_natCast, w64_nat (by omega), getD_at ha, getD_at hb]
    simp only [cond_true, chk_true, spec_RowSame_dec _ _ (show zRow a[k][i] ≤ 1099511627776 by have := sum_mem (f := zRow) (List.getElem_mem ha); omega), Option.bind_some]
    generalize eqd a[k][i] b[k][i] = d
    cases d <;> rfl) (by
    unfold F.spec_l12Rows.s9
    simp only
    rw [inb_nat hk, inb_nat hk2, Int.toNat_natCast, getD_at hk]
    simp only [chk_true, ge_len, cond_false])
theorem spec_l12Rows_dec (a b : List (List DRow)) (h : a.length ≤ 1099511627776) (hs : ∀ x ∈ a, zRowS x ≤ 1099511627776) : F.spec_l12Rows a b = some (eqd a b) := by
  unfold F.spec_l12Rows
  by_cases hl : a.length = b.length
  · rw [show (len a != len b) = false by simp only [len, hl, bne_self_eq_false]]
    have := loop_dec (step := F.spec_l12Rows.s4) a b (fun i => (a, b, (i : Int), ())) hl (fun i ha hb => by
      unfold F.spec_l12Rows.s4
      simp only
      rw [lt_len ha, inb_nat ha, inb_nat hb, Int.toNat_natCast, getD_at ha, getD_at hb]
      simp only [cond_true, chk_true]
      by_cases hn : a[i].length = b[i].length
      · rw [show (len a[i] != len b[i]) = false by simp only [len, hn, bne_self_eq_false], l12Rows_in a b i ha hb hn (hs _ (List.getElem_mem ha))]
        have hw := w64_nat (i := i) (by omega)
        generalize eqd a[i] b[i] = d
        cases d with
        | false => rfl
        | true => simp only [cond_false, cond_true, afterO, hw]
      · rw [show (len a[i] != len b[i]) = true by simp only [len, bne_iff_ne, ne_eq]; omega, eqd_ne (fun e => hn (congrArg List.length e))]; rfl) (by
      unfold F.spec_l12Rows.s4
      simp only [ge_len, cond_false])
    simp only [cond_false]
    refine (congrArg (fun z => afterO z _) this).trans ?_
    cases eqd a b <;> rfl
  · rw [show (len a != len b) = true by simp only [len, bne_iff_ne, ne_eq]; omega, eqd_ne (fun e => hl (congrArg List.length e))]; rfl
theorem spec_HouseSame_s4_dec (a b : DHouse) (hl : a.2.2.2.1.length = b.2.2.2.1.length) (h : a.2.2.2.1.length ≤ 1099511627776) (hs : ∀ x ∈ a.2.2.2.1, zSeat x ≤ 1099511627776) : loopO F.spec_HouseSame.s4 (0, a, b, ()) = some (bif eqd a.2.2.2.1 b.2.2.2.1 then .inl ((a.2.2.2.1.length : Int), a, b, ()) else .inr false) := by
  have := loop_dec (step := F.spec_HouseSame.s4) a.2.2.2.1 b.2.2.2.1 (fun i => ((i : Int), a, b, ())) hl (fun i ha hb => by
    unfold F.spec_HouseSame.s4
    simp only
    rw [lt_len ha, inb_nat ha, inb_nat hb, Int.toNat_natCast, w64_nat (by omega), getD_at ha, getD_at hb]
    simp only [cond_true, chk_true, spec_l12Seat_dec _ _ (hs _ (List.getElem_mem ha)), Option.bind_some]
    generalize eqd a.2.2.2.1[i] b.2.2.2.1[i] = d
    cases d <;> rfl) (by
    unfold F.spec_HouseSame.s4
    simp only [ge_len, cond_false])
  exact this
theorem spec_HouseSame_s9_dec (a b : DHouse) (hl : a.2.2.2.2.2.1.length = b.2.2.2.2.2.1.length) (h : a.2.2.2.2.2.1.length ≤ 1099511627776) (hs : ∀ x ∈ a.2.2.2.2.2.1, zTurn x ≤ 1099511627776) : loopO F.spec_HouseSame.s9 (0, a, b, ()) = some (bif eqd a.2.2.2.2.2.1 b.2.2.2.2.2.1 then .inl ((a.2.2.2.2.2.1.length : Int), a, b, ()) else .inr false) := by
  have := loop_dec (step := F.spec_HouseSame.s9) a.2.2.2.2.2.1 b.2.2.2.2.2.1 (fun i => ((i : Int), a, b, ())) hl (fun i ha hb => by
    unfold F.spec_HouseSame.s9
    simp only
    rw [lt_len ha, inb_nat ha, inb_nat hb, Int.toNat_natCast, w64_nat (by omega), getD_at ha, getD_at hb]
    simp only [cond_true, chk_true, bne_dec, beq_dec, spec_l1Same_dec _ _ (show a.2.2.2.2.2.1[i].2.2.1.length ≤ 1099511627776 from hs _ (List.getElem_mem ha)), Option.bind_some]
    obtain ⟨x0, x1, x2, u⟩ := a.2.2.2.2.2.1[i]
    obtain ⟨y0, y1, y2, v⟩ := b.2.2.2.2.2.1[i]
    by_cases h0 : x0 = y0
    case neg => simp [eqd, h0]
    subst h0
    by_cases h1 : x1 = y1
    case neg => simp [eqd, h1]
    subst h1
    by_cases h2 : x2 = y2
    case neg => simp [eqd, h2]
    subst h2
    simp [eqd]) (by
    unfold F.spec_HouseSame.s9
    simp only [ge_len, cond_false])
  exact this
theorem spec_HouseSame_s14_dec (a b : DHouse) (hl : a.2.2.2.2.2.2.2.2.1.length = b.2.2.2.2.2.2.2.2.1.length) (h : a.2.2.2.2.2.2.2.2.1.length ≤ 1099511627776) (hs : ∀ x ∈ a.2.2.2.2.2.2.2.2.1, zOut x ≤ 1099511627776) : loopO F.spec_HouseSame.s14 (0, a, b, ()) = some (bif eqd a.2.2.2.2.2.2.2.2.1 b.2.2.2.2.2.2.2.2.1 then .inl ((a.2.2.2.2.2.2.2.2.1.length : Int), a, b, ()) else .inr false) := by
  have := loop_dec (step := F.spec_HouseSame.s14) a.2.2.2.2.2.2.2.2.1 b.2.2.2.2.2.2.2.2.1 (fun i => ((i : Int), a, b, ())) hl (fun i ha hb => by
    unfold F.spec_HouseSame.s14
    simp only
    rw [lt_len ha, inb_nat ha, inb_nat hb, Int.toNat_natCast, w64_nat (by omega), getD_at ha, getD_at hb]
    simp only [cond_true, chk_true, bne_dec, spec_EntrySame_dec _ _ (show zEntry a.2.2.2.2.2.2.2.2.1[i].2.1 ≤ 1099511627776 from hs _ (List.getElem_mem ha)), Option.bind_some]
    obtain ⟨x0, x1, u⟩ := a.2.2.2.2.2.2.2.2.1[i]
    obtain ⟨y0, y1, v⟩ := b.2.2.2.2.2.2.2.2.1[i]
    by_cases h0 : x0 = y0
    case neg => simp [eqd, h0]
    subst h0
    by_cases h1 : x1 = y1
    case neg => simp [eqd, h1]
    subst h1
    simp [eqd]) (by
    unfold F.spec_HouseSame.s14
    simp only [ge_len, cond_false])
  exact this
/-- What a house's bound gives for its parts. -/
structure HouB (a : DHouse) : Prop where
  cf : zConf a.1 ≤ 1099511627776
  se : a.2.2.2.1.length ≤ 1099511627776 ∧ ∀ x ∈ a.2.2.2.1, zSeat x ≤ 1099511627776
  ro : a.2.2.2.2.1.length ≤ 1099511627776 ∧ ∀ x ∈ a.2.2.2.2.1, zRowS x ≤ 1099511627776
  tu : a.2.2.2.2.2.1.length ≤ 1099511627776 ∧ ∀ x ∈ a.2.2.2.2.2.1, zTurn x ≤ 1099511627776
  en : a.2.2.2.2.2.2.2.1.length ≤ 1099511627776 ∧ ∀ x ∈ a.2.2.2.2.2.2.2.1, zEntry x ≤ 1099511627776
  ou : a.2.2.2.2.2.2.2.2.1.length ≤ 1099511627776 ∧ ∀ x ∈ a.2.2.2.2.2.2.2.2.1, zOut x ≤ 1099511627776
theorem houB (a : DHouse) (h : zHouse a ≤ 1099511627776) : HouB a := by
  unfold zHouse zSeatS zRowSS zTurnS zEntryS zOutS at h
  exact ⟨by omega, ⟨by omega, fun x hx => by have := sum_mem (f := zSeat) hx; omega⟩, ⟨by omega, fun x hx => by have := sum_mem (f := zRowS) hx; omega⟩, ⟨by omega, fun x hx => by have := sum_mem (f := zTurn) hx; omega⟩, ⟨by omega, fun x hx => by have := sum_mem (f := zEntry) hx; omega⟩, ⟨by omega, fun x hx => by have := sum_mem (f := zOut) hx; omega⟩⟩
theorem impl_HouseSame_dec (a b : DHouse) (h : zHouse a ≤ 1099511627776) : F.impl_HouseSame a b = some (eqd a b) := by
  obtain ⟨q1, q2, q3, q4, q5, q6⟩ := houB a h
  unfold F.impl_HouseSame
  simp only [beq_dec, impl_confSame_dec a.1 b.1 q1, slices_EqualFunc_SimplSeat__impl_seatSame_dec _ b.2.2.2.1 q2.1 q2.2, slices_EqualFunc_SSimplRow__impl_HouseSame_1_dec _ b.2.2.2.2.1 q3.1 q3.2, slices_EqualFunc_SimplTurn__impl_turnSame_dec _ b.2.2.2.2.2.1 q4.1 q4.2, slices_EqualFunc_SimplEntry__impl_EntrySame_dec _ b.2.2.2.2.2.2.2.1 q5.1 q5.2, slices_EqualFunc_SimplOut__impl_outSame_dec _ b.2.2.2.2.2.2.2.2.1 q6.1 q6.2, Option.bind_some]
  obtain ⟨a0, a1, a2, a3, a4, a5, a6, a7, a8, u⟩ := a
  obtain ⟨b0, b1, b2, b3, b4, b5, b6, b7, b8, v⟩ := b
  by_cases h0 : a0 = b0
  case neg => simp [eqd, h0]
  subst h0
  by_cases h1 : a1 = b1
  case neg => simp [eqd, h1]
  subst h1
  by_cases h2 : a2 = b2
  case neg => simp [eqd, h2]
  subst h2
  by_cases h3 : a3 = b3
  case neg => simp [eqd, h3]
  subst h3
  by_cases h4 : a4 = b4
  case neg => simp [eqd, h4]
  subst h4
  by_cases h5 : a5 = b5
  case neg => simp [eqd, h5]
  subst h5
  by_cases h6 : a6 = b6
  case neg => simp [eqd, h6]
  subst h6
  by_cases h7 : a7 = b7
  case neg => simp [eqd, h7]
  subst h7
  by_cases h8 : a8 = b8
  case neg => simp [eqd, h8]
  subst h8
  simp [eqd]
theorem spec_HouseSame_dec (a b : DHouse) (h : zHouse a ≤ 1099511627776) : F.spec_HouseSame a b = some (eqd a b) := by
  obtain ⟨q1, q2, q3, q4, q5, q6⟩ := houB a h
  unfold F.spec_HouseSame
  simp only [bne_dec, beq_dec, spec_l12Confs_dec a.1 b.1 q1, spec_l12Rows_dec _ b.2.2.2.2.1 q3.1 q3.2, spec_l10Entries_dec _ b.2.2.2.2.2.2.2.1 q5.1 q5.2, Option.bind_some]
  obtain ⟨a0, a1, a2, a3, a4, a5, a6, a7, a8, u⟩ := a
  obtain ⟨b0, b1, b2, b3, b4, b5, b6, b7, b8, v⟩ := b
  by_cases h0 : a0 = b0
  case neg => simp [eqd, h0]
  subst h0
  by_cases h1 : a1 = b1
  case neg => simp [eqd, h1]
  subst h1
  by_cases h2 : a2 = b2
  case neg => simp [eqd, h2]
  subst h2
  by_cases h6 : a6 = b6
  case neg => simp [eqd, h6]
  subst h6
  by_cases l3 : a3.length = b3.length
  case neg =>
    have hne : a3 ≠ b3 := fun e => l3 (congrArg List.length e)
    have hl2 : eqd (len a3) (len b3) = false := eqd_ne (fun e => l3 (Int.ofNat.inj e))
    rw [eqd_ne (a := (_ : DHouse)) (fun e => hne (by simp only [Prod.mk.injEq] at e; simp [e]))]
    simp [hl2, eqd_self]
  by_cases l5 : a5.length = b5.length
  case neg =>
    have hne : a5 ≠ b5 := fun e => l5 (congrArg List.length e)
    have hl2 : eqd (len a5) (len b5) = false := eqd_ne (fun e => l5 (Int.ofNat.inj e))
    rw [eqd_ne (a := (_ : DHouse)) (fun e => hne (by simp only [Prod.mk.injEq] at e; simp [e]))]
    simp [hl2, eqd_self]
  by_cases l8 : a8.length = b8.length
  case neg =>
    have hne : a8 ≠ b8 := fun e => l8 (congrArg List.length e)
    have hl2 : eqd (len a8) (len b8) = false := eqd_ne (fun e => l8 (Int.ofNat.inj e))
    rw [eqd_ne (a := (_ : DHouse)) (fun e => hne (by simp only [Prod.mk.injEq] at e; simp [e]))]
    simp [hl2, eqd_self]
  have e3 := spec_HouseSame_s4_dec (a0, a1, a2, a3, a4, a5, a6, a7, a8, u) (a0, a1, a2, b3, b4, b5, a6, b7, b8, v) l3 q2.1 q2.2
  have e5 := spec_HouseSame_s9_dec (a0, a1, a2, a3, a4, a5, a6, a7, a8, u) (a0, a1, a2, b3, b4, b5, a6, b7, b8, v) l5 q4.1 q4.2
  have e8 := spec_HouseSame_s14_dec (a0, a1, a2, a3, a4, a5, a6, a7, a8, u) (a0, a1, a2, b3, b4, b5, a6, b7, b8, v) l8 q6.1 q6.2
  simp only at e3 e5 e8
  simp only [eqd_self, Bool.not_true, cond_false, show eqd (len a3) (len b3) = true from eqd_true.2 (by simp [len, l3]), show eqd (len a5) (len b5) = true from eqd_true.2 (by simp [len, l5]), show eqd (len a8) (len b8) = true from eqd_true.2 (by simp [len, l8]), e3]
  by_cases h4 : a4 = b4
  case neg => simp [eqd, h4, afterO]
  subst h4
  by_cases h7 : a7 = b7
  case neg => simp [eqd, h7, afterO]
  subst h7
  by_cases h3 : a3 = b3
  case neg => simp [eqd, h3, afterO]
  subst h3
  simp only [eqd_self, Bool.not_true, cond_false, cond_true, afterO, e5]
  by_cases h5 : a5 = b5
  case neg => simp [eqd, h5]
  subst h5
  simp only [eqd_self, cond_true, e8]
  by_cases h8 : a8 = b8
  case neg => simp [eqd, h8]
  subst h8
  simp [eqd]
theorem houseSame_same (a b : DHouse) (h : zHouse a ≤ 1048576) (_ : zHouse b ≤ 1048576) : ∃ r, F.spec_HouseSame a b = some r ∧ F.impl_HouseSame a b = some r ∧ True :=
  ⟨_, spec_HouseSame_dec a b (by omega), impl_HouseSame_dec a b (by omega), trivial⟩
/- The law FnExactHouseSame, on the printed functions alone. -/

theorem fnExactHouseSame_law (a : DHouse) (b : DHouse) (fa : fHouse a) (fb : fHouse b) : F.laws_FnExactHouseSame a b = some true := by
  unfold F.laws_FnExactHouseSame
  rw [szHouse a (1048576) fa (by omega) (by omega)]
  by_cases ga : (zHouse a : Int) ≤ (1048576 : Int)
  case neg => rw [if_neg ga]; rfl
  rw [if_pos ga]
  simp only [Option.bind_some]
  rw [show decide ((1048576 : Int) - (zHouse a : Int) < 0) = false from decide_eq_false (by omega)]
  simp only [cond_false]
  rw [szHouse b ((1048576 : Int) - (zHouse a : Int)) fb (by omega) (by omega)]
  by_cases gb : (zHouse b : Int) ≤ (1048576 : Int) - (zHouse a : Int)
  case neg => rw [if_neg gb]; rfl
  rw [if_pos gb]
  simp only [Option.bind_some]
  rw [show decide ((1048576 : Int) - (zHouse a : Int) - (zHouse b : Int) < 0) = false from decide_eq_false (by omega)]
  simp only [cond_false]
  obtain ⟨r, hs, hi, hz⟩ := houseSame_same a b (by omega) (by omega)
  simp only [hs, hi, Option.bind_some, bne_self_eq_false, beq_self_eq_true, Bool.not_true, cond_false, toHouse a (by omega), eqHouse a (by omega), toHouse b (by omega), eqHouse b (by omega)]
end Go.Proofs.Ytadaiilmjchnmaa.Vm
