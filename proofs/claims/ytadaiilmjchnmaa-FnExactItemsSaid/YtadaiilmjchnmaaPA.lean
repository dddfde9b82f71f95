import Derived.Test.YtadaiilmjchnmaaGf
import Derived.Test.YtadaiilmjchnmaaV3
namespace Go.Proofs.Ytadaiilmjchnmaa.Vm
open Go Go.RowKit
set_option linter.unusedVariables false
/- Loops by rounds: a loop over a list (or over so many rounds) is a plain recursion. -/

/-- The rounds over a list: from place i on. -/
def runL {α S A : Type} (g : Nat → S → α → S ⊕ A) : Nat → List α → S → S ⊕ A
  | _, [], s => .inl s
  | i, x :: l, s => match g i s x with
    | .inl s' => runL g (i + 1) l s'
    | .inr a => .inr a
/-- So many rounds. -/
def runN {S A : Type} (g : Nat → S → S ⊕ A) : Nat → Nat → S → S ⊕ A
  | 0, _, s => .inl s
  | k + 1, i, s => match g i s with
    | .inl s' => runN g k (i + 1) s'
    | .inr a => .inr a
def again {X A S : Type} (mk : S → X) : S ⊕ A → Lp X A
  | .inl s => .again (mk s)
  | .inr a => .ret a
theorem loop_n {X A S : Type} {step : X → Option (Lp X A)} (n : Nat) (mk : Nat → S → X) (g : Nat → S → S ⊕ A) (P : Nat → S → Prop)
    (h : ∀ i s, i < n → P i s → step (mk i s) = some (again (mk (i + 1)) (g i s)) ∧ ∀ s', g i s = .inl s' → P (i + 1) s')
    (he : ∀ s, P n s → step (mk n s) = some (.exit (mk n s))) {s : S} (h0 : P 0 s) :
    loopO step (mk 0 s) = some (Sum.map (mk n) id (runN g n 0 s)) ∧ ∀ s', runN g n 0 s = .inl s' → P n s' := by
  have key : ∀ k i s, i + k = n → P i s → iterO step (k + 1) (mk i s) = some (Sum.map (mk n) id (runN g k i s)) ∧ ∀ s', runN g k i s = .inl s' → P n s' := by
    intro k
    induction k with
    | zero =>
      intro i s hi hp
      have hi : i = n := by omega
      subst hi
      refine ⟨?_, fun s' hs => by cases hs; exact hp⟩
      simp only [iterO, he s hp]; rfl
    | succ k ih =>
      intro i s hi hp
      obtain ⟨h1, h2⟩ := h i s (by omega) hp
      rw [iterO, h1]
      cases hg : g i s with
      | inl s' =>
        simp only [again, runN, hg]
        exact ih (i + 1) s' (by omega) (h2 s' hg)
      | inr a =>
        simp only [again, runN, hg]
        exact ⟨rfl, fun s' hs => by cases hs⟩
  obtain ⟨k1, k2⟩ := key n 0 s (by omega) h0
  exact ⟨loopO_of k1, k2⟩
theorem runN_list {α S A : Type} (g : Nat → S → α → S ⊕ A) (d : α) (l : List α) (s : S) : runN (fun i s => g i s (l.getD i d)) l.length 0 s = runL g 0 l s := by
  have key : ∀ (m : List α) (i : Nat) (s : S), l.drop i = m → runN (fun i s => g i s (l.getD i d)) m.length i s = runL g i m s := by
    intro m
    induction m with
    | nil => intro i s _; rfl
    | cons x m ih =>
      intro i s h
      have hx : l.getD i d = x := by
        rw [List.getD_eq_getElem?_getD, show l[i]? = some x by rw [← List.head?_drop, h]; rfl]; rfl
      simp only [List.length_cons, runN, runL, hx]
      cases g i s x with
      | inl s' => exact ih (i + 1) s' (by rw [← List.drop_drop, h]; rfl)
      | inr a => rfl
  exact key l 0 s rfl
theorem loop_l {X A S α : Type} {step : X → Option (Lp X A)} (l : List α) (mk : Nat → S → X) (g : Nat → S → α → S ⊕ A) (P : Nat → S → Prop)
    (h : ∀ i s (hi : i < l.length), P i s → step (mk i s) = some (again (mk (i + 1)) (g i s l[i])) ∧ ∀ s', g i s l[i] = .inl s' → P (i + 1) s')
    (he : ∀ s, P l.length s → step (mk l.length s) = some (.exit (mk l.length s))) {s : S} (h0 : P 0 s) :
    loopO step (mk 0 s) = some (Sum.map (mk l.length) id (runL g 0 l s)) ∧ ∀ s', runL g 0 l s = .inl s' → P l.length s' := by
  cases l with
  | nil =>
    obtain ⟨h1, h2⟩ := loop_n (step := step) 0 mk (fun _ s => .inl s) P (fun i s hi => by omega) he h0
    exact ⟨h1, h2⟩
  | cons x l =>
    obtain ⟨h1, h2⟩ := loop_n (step := step) (x :: l).length mk (fun i s => g i s ((x :: l).getD i x)) P (fun i s hi hp => by
      rw [getD_at hi]; exact h i s hi hp) he h0
    rw [runN_list] at h1 h2
    exact ⟨h1, h2⟩
/-- Without an invariant. -/
theorem loop_l0 {X A S α : Type} {step : X → Option (Lp X A)} (l : List α) (mk : Nat → S → X) (g : Nat → S → α → S ⊕ A)
    (h : ∀ i s (hi : i < l.length), step (mk i s) = some (again (mk (i + 1)) (g i s l[i])))
    (he : ∀ s, step (mk l.length s) = some (.exit (mk l.length s))) (s : S) :
    loopO step (mk 0 s) = some (Sum.map (mk l.length) id (runL g 0 l s)) :=
  (loop_l l mk g (fun _ _ => True) (fun i s hi _ => ⟨h i s hi, fun _ _ => trivial⟩) (fun s _ => he s) (s := s) trivial).1
/-- It ends at the first that is not so. -/
theorem loop_all {X A α : Type} {step : X → Option (Lp X A)} (l : List α) (mk : Nat → X) (p : α → Bool) (a : A)
    (h : ∀ i (hi : i < l.length), step (mk i) = some (bif p l[i] then .again (mk (i + 1)) else .ret a))
    (he : step (mk l.length) = some (.exit (mk l.length))) :
    loopO step (mk 0) = some (bif l.all p then .inl (mk l.length) else .inr a) := by
  have := loop_l0 (step := step) l (fun i (_ : Unit) => mk i) (fun _ _ x => bif p x then .inl () else .inr a) (fun i s hi => by
    rw [h i hi]; cases p l[i] <;> rfl) (fun _ => he) ()
  rw [this]
  have key : ∀ (m : List α) (i : Nat), Sum.map (fun (_ : Unit) => mk l.length) id (runL (fun _ _ x => bif p x then (.inl () : Unit ⊕ A) else .inr a) i m ()) = bif m.all p then .inl (mk l.length) else .inr a := by
    intro m
    induction m with
    | nil => intro i; rfl
    | cons x m ih =>
      intro i
      simp only [runL, List.all_cons]
      cases p x with
      | false => rfl
      | true => exact ih (i + 1)
  rw [key l 0]
theorem loop_any {X A α : Type} {step : X → Option (Lp X A)} (l : List α) (mk : Nat → X) (p : α → Bool) (a : A)
    (h : ∀ i (hi : i < l.length), step (mk i) = some (bif p l[i] then .ret a else .again (mk (i + 1))))
    (he : step (mk l.length) = some (.exit (mk l.length))) :
    loopO step (mk 0) = some (bif l.any p then .inr a else .inl (mk l.length)) := by
  have := loop_all (step := step) l mk (fun x => !p x) a (fun i hi => by rw [h i hi]; cases p l[i] <;> rfl) he
  rw [this]
  have e : ∀ m : List α, m.all (fun x => !p x) = !m.any p := by
    intro m
    induction m with
    | nil => rfl
    | cons x m ih => rw [List.all_cons, List.any_cons, ih]; cases p x <;> rfl
  rw [e]
  cases l.any p <;> rfl
/-- It gathers. -/
theorem loop_fold {X A S α : Type} {step : X → Option (Lp X A)} (l : List α) (mk : Nat → S → X) (f : S → α → S)
    (h : ∀ i s (hi : i < l.length), step (mk i s) = some (.again (mk (i + 1) (f s l[i]))))
    (he : ∀ s, step (mk l.length s) = some (.exit (mk l.length s))) (s : S) :
    loopO step (mk 0 s) = some (.inl (mk l.length (l.foldl f s))) := by
  have := loop_l0 (step := step) l mk (fun _ s x => .inl (f s x)) (fun i s hi => h i s hi) he s
  rw [this]
  have key : ∀ (m : List α) (i : Nat) (s : S), runL (fun _ s x => (.inl (f s x) : S ⊕ A)) i m s = .inl (m.foldl f s) := by
    intro m
    induction m with
    | nil => intro i s; rfl
    | cons x m ih => intro i s; exact ih (i + 1) (f s x)
  rw [key l 0 s]; rfl
/-- It gathers, and keeps what it is asked to keep. -/
theorem loop_foldP {X A S α : Type} {step : X → Option (Lp X A)} (l : List α) (mk : Nat → S → X) (f : S → α → S) (P : Nat → S → Prop)
    (h : ∀ i s (hi : i < l.length), P i s → step (mk i s) = some (.again (mk (i + 1) (f s l[i]))) ∧ P (i + 1) (f s l[i]))
    (he : ∀ s, P l.length s → step (mk l.length s) = some (.exit (mk l.length s))) {s : S} (h0 : P 0 s) :
    loopO step (mk 0 s) = some (.inl (mk l.length (l.foldl f s))) ∧ P l.length (l.foldl f s) := by
  obtain ⟨h1, h2⟩ := loop_l (step := step) l mk (fun _ s x => .inl (f s x)) P (fun i s hi hp => ⟨(h i s hi hp).1, fun s' e => by cases e; exact (h i s hi hp).2⟩) he h0
  have key : ∀ (m : List α) (i : Nat) (s : S), runL (fun _ s x => (.inl (f s x) : S ⊕ A)) i m s = .inl (m.foldl f s) := by
    intro m
    induction m with
    | nil => intro i s; rfl
    | cons x m ih => intro i s; exact ih (i + 1) (f s x)
  rw [key l 0 s] at h1 h2
  exact ⟨h1, h2 _ rfl⟩
theorem fits_of {n b : Nat} (h : n * b ≤ 140737488355328) : fits n b = true := decide_eq_true h
theorem foldl_snoc {α β : Type} (f : α → β) : ∀ (l : List α) (acc : List β), l.foldl (fun s x => s ++ [f x]) acc = acc ++ l.map f
  | [], acc => by simp
  | x :: l, acc => by rw [List.foldl_cons, foldl_snoc f l]; simp
theorem foldl_app {α β : Type} (f : α → List β) : ∀ (l : List α) (acc : List β), l.foldl (fun s x => s ++ f x) acc = acc ++ l.flatMap f
  | [], acc => by simp
  | x :: l, acc => by rw [List.foldl_cons, foldl_app f l]; simp
/- Lists that are copied, compared, counted, marked: loops of one shape each. -/

theorem getD_set_self {α : Type} {l : List α} {i : Nat} {x d : α} (h : i < l.length) : (l.set i x).getD i d = x := by
  rw [List.getD_eq_getElem?_getD, List.getElem?_set_self h]; rfl
theorem getD_mid {α : Type} {p : List α} {x d : α} {l : List α} : (p ++ x :: l).getD p.length d = x := by
  rw [List.getD_eq_getElem?_getD, List.getElem?_append_right (Nat.le_refl _), Nat.sub_self]; rfl
theorem set_mid {α : Type} {p : List α} {x y : α} {l : List α} : (p ++ x :: l).set p.length y = p ++ y :: l := by
  rw [List.set_append_right _ _ (Nat.le_refl _), Nat.sub_self]; rfl
theorem mid_app {α : Type} {p : List α} {y : α} {l : List α} : p ++ y :: l = (p ++ [y]) ++ l := by simp
section
variable {α A : Type}
theorem loop_of_iter {X A : Type} {step : X → Option (Lp X A)} {n : Nat} {x : X} {y : X ⊕ A} (h : iterO step n x = some y) : loopO step x = some y := loopO_of h
/-- Copied, element by element. -/
theorem loop_to {step : (List α × List α × Int × Unit) → Option (Lp (List α × List α × Int × Unit) A)} (l : List α) (d : α)
    (hs : ∀ i (m : List α) (hi : i < l.length), i < m.length → step (l, m, (i : Int), ()) = some (.again (l, m.set i l[i], ((i + 1 : Nat) : Int), ())))
    (he : ∀ m, step (l, m, ((l.length : Nat) : Int), ()) = some (.exit (l, m, ((l.length : Nat) : Int), ()))) :
    loopO step (l, List.replicate l.length d, 0, ()) = some (.inl (l, l, ((l.length : Nat) : Int), ())) := by
  have h := loop_run (step := step) (fun i => (l, mid d l i, (i : Int), ())) l.length (fun i hi => by
    rw [hs i _ hi (by rw [mid_len (by omega)]; exact hi)]
    have := copy_step d l hi
    rw [getD_at hi] at this
    unfold mid
    rw [this]) (l := .exit (l, l, ((l.length : Nat) : Int), ())) (y := .inl (l, l, ((l.length : Nat) : Int), ())) (by
      have e : mid d l l.length = l := by simp [mid]
      show step (l, mid d l l.length, ((l.length : Nat) : Int), ()) = _
      rw [e]; exact he l) rfl
  have e : mid d l 0 = List.replicate l.length d := by simp [mid]
  have h : loopO step (l, mid d l 0, ((0 : Nat) : Int), ()) = _ := h
  rw [e] at h
  exact h
/-- Each is what it is. -/
theorem loop_eq {step : (List α × List α × Int × Unit) → Option (Lp (List α × List α × Int × Unit) A)} (l : List α)
    (hs : ∀ i (hi : i < l.length), step (l, l, (i : Int), ()) = some (.again (l, l, ((i + 1 : Nat) : Int), ())))
    (he : step (l, l, ((l.length : Nat) : Int), ()) = some (.exit (l, l, ((l.length : Nat) : Int), ()))) :
    loopO step (l, l, 0, ()) = some (.inl (l, l, ((l.length : Nat) : Int), ())) :=
  loop_run (step := step) (fun i => (l, l, (i : Int), ())) l.length hs he rfl
/-- Counted down. -/
theorem loop_sz {step : (List α × Int × Int × Unit) → Option (Lp (List α × Int × Int × Unit) Int)} (sz : α → Nat) (l : List α) (n : Int) (h0 : 0 ≤ n)
    (hs : ∀ i (k : Int) (hi : i < l.length), 0 ≤ k → k ≤ n → step (l, k, (i : Int), ()) = some (if (sz l[i] : Int) ≤ k then .again (l, k - (sz l[i] : Int), ((i + 1 : Nat) : Int), ()) else .ret (-1)))
    (he : ∀ k, step (l, k, ((l.length : Nat) : Int), ()) = some (.exit (l, k, ((l.length : Nat) : Int), ()))) :
    loopO step (l, n, 0, ()) = some (if (((l.map sz).sum : Nat) : Int) ≤ n then .inl (l, n - ((l.map sz).sum : Nat), ((l.length : Nat) : Int), ()) else .inr (-1)) := by
  have key : ∀ (m p : List α) (k : Int), p ++ m = l → 0 ≤ k → k ≤ n → iterO step (m.length + 1) (l, k, ((p.length : Nat) : Int), ()) = some (if (((m.map sz).sum : Nat) : Int) ≤ k then .inl (l, k - ((m.map sz).sum : Nat), ((l.length : Nat) : Int), ()) else .inr (-1)) := by
    intro m
    induction m with
    | nil =>
      intro p k hp hk _
      have hp : p = l := by simpa using hp
      subst hp
      simp [iterO, he, hk]
    | cons x m ih =>
      intro p k hp hk hkn
      have hi : p.length < l.length := by rw [← hp]; simp
      have hx : l[p.length] = x := by subst hp; simp
      rw [iterO, hs p.length k hi hk hkn, hx]
      by_cases hle : (sz x : Int) ≤ k
      · rw [if_pos hle]
        simp only
        have := ih (p ++ [x]) (k - sz x) (by rw [← hp]; simp) (by omega) (by omega)
        rw [List.length_append] at this
        rw [show ((p.length + 1 : Nat) : Int) = ((p.length + [x].length : Nat) : Int) from rfl, List.length_cons, this]
        congr 1
        simp only [List.map_cons, List.sum_cons]
        by_cases h2 : (((m.map sz).sum : Nat) : Int) ≤ k - sz x
        · rw [if_pos h2, if_pos (by omega)]
          congr 3; omega
        · rw [if_neg h2, if_neg (by omega)]
      · rw [if_neg hle]
        simp only [List.map_cons, List.sum_cons]
        rw [if_neg (by omega)]
  exact loopO_of (key l [] n rfl h0 (Int.le_refl _))
/-- Marked. -/
theorem loop_mark1 {mstep : (Int × Int × List α × Unit) → Option (Lp (Int × Int × List α × Unit) (Int × List α))} (d : α) (cnt : α → Nat) (B : Int) (l : List α) (k : Int) (hk : 0 ≤ k) (hB : k + (((l.map cnt).sum : Nat) : Int) ≤ B)
    (hel : ∀ x ∈ l, ∀ k : Int, 0 ≤ k → k + (cnt x : Int) ≤ B → ∃ x',
      (∀ (i : Nat) (m : List α), i < m.length → m.length = l.length → m.getD i d = x → mstep (k, (i : Int), m, ()) = some (.again (k + cnt x, ((i + 1 : Nat) : Int), m.set i x', ()))))
    (hm : ∀ (m : List α) (k : Int), mstep (k, ((m.length : Nat) : Int), m, ()) = some (.exit (k, ((m.length : Nat) : Int), m, ()))) :
    ∃ l', loopO mstep (k, 0, l, ()) = some (.inl (k + ((l.map cnt).sum : Nat), ((l.length : Nat) : Int), l', ())) := by
  have key : ∀ (m p : List α) (k : Int), (∀ x ∈ m, x ∈ l) → p.length + m.length = l.length → 0 ≤ k → k + (((m.map cnt).sum : Nat) : Int) ≤ B → ∃ m', m'.length = m.length ∧
      iterO mstep (m.length + 1) (k, ((p.length : Nat) : Int), p ++ m, ()) = some (.inl (k + ((m.map cnt).sum : Nat), ((l.length : Nat) : Int), p ++ m', ())) := by
    intro m
    induction m with
    | nil =>
      intro p k _ hp _ _
      have hp : p.length = l.length := by simpa using hp
      refine ⟨[], rfl, ?_⟩
      have := hm p k
      simp [iterO, hp]
      rw [hp] at this
      simp [this]
    | cons x m ih =>
      intro p k hmem hp hk hB
      simp only [List.map_cons, List.sum_cons] at hB
      obtain ⟨x', h1⟩ := hel x (hmem x (by simp)) k hk (by omega)
      obtain ⟨m', g0, g1⟩ := ih (p ++ [x']) (k + cnt x) (fun y hy => hmem y (by simp [hy])) (by simp at hp ⊢; omega) (by omega) (by omega)
      refine ⟨x' :: m', by simp [g0], ?_⟩
      rw [iterO, h1 p.length (p ++ x :: m) (by simp) (by simp at hp ⊢; omega) getD_mid, set_mid]
      simp only
      rw [show p ++ x' :: m = (p ++ [x']) ++ m by simp, show p ++ x' :: m' = (p ++ [x']) ++ m' by simp, List.length_cons]
      rw [List.length_append] at g1
      refine g1.trans ?_
      simp only [List.map_cons, List.sum_cons]
      congr 3; omega
  obtain ⟨l', _, h1⟩ := key l [] k (fun _ h => h) (by simp) hk hB
  exact ⟨l', loopO_of h1⟩
/-- Marked, and found as marked. -/
theorem loop_mark {mstep : (Int × Int × List α × Unit) → Option (Lp (Int × Int × List α × Unit) (Int × List α))} {hstep : (List α × Int × Int × Unit) → Option (Lp (List α × Int × Int × Unit) Int)} (d : α) (cnt : α → Nat) (B : Int) (l : List α) (k : Int) (hk : 0 ≤ k) (hB : k + (((l.map cnt).sum : Nat) : Int) ≤ B)
    (hel : ∀ x ∈ l, ∀ k : Int, 0 ≤ k → k + (cnt x : Int) ≤ B → ∃ x',
      (∀ (i : Nat) (m : List α), i < m.length → m.length = l.length → m.getD i d = x → mstep (k, (i : Int), m, ()) = some (.again (k + cnt x, ((i + 1 : Nat) : Int), m.set i x', ()))) ∧
      (∀ (i : Nat) (m : List α), i < m.length → m.length = l.length → m.getD i d = x' → hstep (m, k, (i : Int), ()) = some (.again (m, k + cnt x, ((i + 1 : Nat) : Int), ()))))
    (hm : ∀ (m : List α) (k : Int), mstep (k, ((m.length : Nat) : Int), m, ()) = some (.exit (k, ((m.length : Nat) : Int), m, ())))
    (hh : ∀ (m : List α) (k : Int), hstep (m, k, ((m.length : Nat) : Int), ()) = some (.exit (m, k, ((m.length : Nat) : Int), ()))) :
    ∃ l', loopO mstep (k, 0, l, ()) = some (.inl (k + ((l.map cnt).sum : Nat), ((l.length : Nat) : Int), l', ())) ∧ loopO hstep (l', k, 0, ()) = some (.inl (l', k + ((l.map cnt).sum : Nat), ((l.length : Nat) : Int), ())) := by
  have key : ∀ (m p : List α) (k : Int), (∀ x ∈ m, x ∈ l) → p.length + m.length = l.length → 0 ≤ k → k + (((m.map cnt).sum : Nat) : Int) ≤ B → ∃ m', m'.length = m.length ∧
      iterO mstep (m.length + 1) (k, ((p.length : Nat) : Int), p ++ m, ()) = some (.inl (k + ((m.map cnt).sum : Nat), ((l.length : Nat) : Int), p ++ m', ())) ∧
      ∀ q : List α, q.length = p.length → iterO hstep (m.length + 1) (q ++ m', k, ((p.length : Nat) : Int), ()) = some (.inl (q ++ m', k + ((m.map cnt).sum : Nat), ((l.length : Nat) : Int), ())) := by
    intro m
    induction m with
    | nil =>
      intro p k _ hp _ _
      have hp : p.length = l.length := by simpa using hp
      refine ⟨[], rfl, ?_, fun q hq => ?_⟩
      · have := hm p k
        simp [iterO, hp]
        rw [hp] at this
        simp [this]
      · have := hh q k
        rw [hq, hp] at this
        simp [iterO, hp, this]
    | cons x m ih =>
      intro p k hmem hp hk hB
      simp only [List.map_cons, List.sum_cons] at hB
      obtain ⟨x', h1, h2⟩ := hel x (hmem x (by simp)) k hk (by omega)
      obtain ⟨m', g0, g1, g2⟩ := ih (p ++ [x']) (k + cnt x) (fun y hy => hmem y (by simp [hy])) (by simp at hp ⊢; omega) (by omega) (by omega)
      refine ⟨x' :: m', by simp [g0], ?_, fun q hq => ?_⟩
      · rw [iterO, h1 p.length (p ++ x :: m) (by simp) (by simp at hp ⊢; omega) getD_mid, set_mid]
        simp only
        rw [show p ++ x' :: m = (p ++ [x']) ++ m by simp, show p ++ x' :: m' = (p ++ [x']) ++ m' by simp, List.length_cons]
        rw [List.length_append] at g1
        refine g1.trans ?_
        simp only [List.map_cons, List.sum_cons]
        congr 3; omega
      · rw [iterO, show ((p.length : Nat) : Int) = ((q.length : Nat) : Int) by rw [hq], h2 q.length (q ++ x' :: m') (by simp) (by simp at hp ⊢; omega) getD_mid]
        simp only
        have := g2 (q ++ [x']) (by simp [hq])
        rw [List.length_append] at this
        rw [mid_app, List.length_cons, hq]
        refine this.trans ?_
        simp only [List.map_cons, List.sum_cons]
        congr 4; omega
  obtain ⟨l', _, h1, h2⟩ := key l [] k (fun _ h => h) (by simp) hk hB
  exact ⟨l', loopO_of h1, loopO_of (h2 [] rfl)⟩
end
/- Sums over lists. -/

theorem sum_mem {α : Type} {f : α → Nat} {l : List α} {x : α} (h : x ∈ l) : f x ≤ (l.map f).sum := by
  induction l with
  | nil => cases h
  | cons y l ih =>
    simp only [List.map_cons, List.sum_cons]
    rcases List.mem_cons.1 h with rfl | h
    · omega
    · have := ih h; omega
theorem sum_le {α : Type} {f g : α → Nat} {n : Nat} : ∀ {l : List α}, (∀ x ∈ l, f x ≤ n + 10 * g x) → (l.map f).sum ≤ n * l.length + 10 * (l.map g).sum
  | [], _ => by simp
  | x :: l, h => by
    have h1 := h x (by simp)
    have h2 := sum_le (l := l) (fun y hy => h y (by simp [hy]))
    simp only [List.map_cons, List.sum_cons, List.length_cons, Nat.mul_add]
    omega
/- IntS: copied, compared, counted. -/

def zIntS (l : List Int) : Nat := l.length
def fIntS (l : List Int) : Prop := l.length ≤ maxLen
theorem toIntS (l : List Int) (h : zIntS l ≤ 1048576) : F.laws_toIntS l = some l := by
  have hl : l.length ≤ 1048576 := by unfold zIntS at h; omega
  unfold F.laws_toIntS
  rw [mk_ok (by omega), chk_true, show Int.toNat (len l) = l.length from Int.toNat_natCast _]
  have hh := loop_to (step := F.laws_toIntS.s3) l 0 (fun i m hi hm => by
    unfold F.laws_toIntS.s3
    simp only
    rw [lt_len hi, inb_nat hi, inb_nat hm, Int.toNat_natCast, w64_nat (by omega), getD_at hi]
    simp only [cond_true, chk_true]) (fun m => by
    unfold F.laws_toIntS.s3
    simp only [ge_len, cond_false])
  simp only [hh, afterO]
theorem eqIntS (l : List Int) (h : zIntS l ≤ 1099511627776) : F.laws_eqIntS l l = some true := by
  have hl : l.length ≤ 1099511627776 := by unfold zIntS at h; omega
  unfold F.laws_eqIntS
  rw [show (len l != len l) = false by simp]
  have hh := loop_eq (step := F.laws_eqIntS.s4) l (fun i hi => by
    unfold F.laws_eqIntS.s4
    simp only
    rw [lt_len hi, inb_nat hi, Int.toNat_natCast, w64_nat (by omega), bne_self_eq_false]
    simp only [cond_true, cond_false, chk_true]) (by
    unfold F.laws_eqIntS.s4
    simp only [ge_len, cond_false])
  simp only [cond_false, hh, afterO]
theorem szIntS (l : List Int) (n : Int) (hf : fIntS l) (h0 : 0 ≤ n) (h1 : n ≤ 1048576) : F.laws_szIntS l n = some (if (zIntS l : Int) ≤ n then n - (zIntS l : Int) else -1) := by
  have hf' : l.length ≤ 9223372036854775807 := hf
  have hz : zIntS l = l.length := rfl
  unfold F.laws_szIntS
  rw [show len l = (l.length : Int) from rfl, w64_id (by omega) (by omega), hz]
  by_cases hle : (l.length : Int) ≤ n
  · rw [if_pos hle, show decide (n - (l.length : Int) < 0) = false from decide_eq_false (by omega)]; rfl
  · rw [if_neg hle, show decide (n - (l.length : Int) < 0) = true from decide_eq_true (by omega)]; rfl
/- IntSS: copied, compared, counted. -/

def zIntSS (l : List (List Int)) : Nat := l.length + (l.map zIntS).sum
def fIntSS (l : List (List Int)) : Prop := l.length ≤ maxLen ∧ ∀ x ∈ l, fIntS x
theorem toIntSS (l : List (List Int)) (h : zIntSS l ≤ 1048576) : F.laws_toIntSS l = some l := by
  have hl : l.length ≤ 1048576 := by unfold zIntSS at h; omega
  have hel : ∀ x ∈ l, zIntS x ≤ 1048576 := fun x hm => (Nat.le_trans (sum_mem hm) (by unfold zIntSS at h; omega))
  unfold F.laws_toIntSS
  rw [mk_ok (by omega), chk_true, show Int.toNat (len l) = l.length from Int.toNat_natCast _]
  have hh := loop_to (step := F.laws_toIntSS.s3) l ([] : List Int) (fun i m hi hm => by
    unfold F.laws_toIntSS.s3
    simp only
    rw [lt_len hi, inb_nat hi, inb_nat hm, Int.toNat_natCast, w64_nat (by omega), getD_at hi]
    simp only [cond_true, chk_true, Option.bind_some, toIntS l[i] (hel l[i] (List.getElem_mem hi))]) (fun m => by
    unfold F.laws_toIntSS.s3
    simp only [ge_len, cond_false])
  simp only [hh, afterO]
theorem eqIntSS (l : List (List Int)) (h : zIntSS l ≤ 1099511627776) : F.laws_eqIntSS l l = some true := by
  have hl : l.length ≤ 1099511627776 := by unfold zIntSS at h; omega
  have hel : ∀ x ∈ l, zIntS x ≤ 1099511627776 := fun x hm => (Nat.le_trans (sum_mem hm) (by unfold zIntSS at h; omega))
  unfold F.laws_eqIntSS
  rw [show (len l != len l) = false by simp]
  have hh := loop_eq (step := F.laws_eqIntSS.s4) l (fun i hi => by
    unfold F.laws_eqIntSS.s4
    simp only
    rw [lt_len hi, inb_nat hi, Int.toNat_natCast, w64_nat (by omega), getD_at hi]
    simp only [cond_true, cond_false, chk_true, Option.bind_some, Bool.not_true, eqIntS l[i] (hel l[i] (List.getElem_mem hi))]) (by
    unfold F.laws_eqIntSS.s4
    simp only [ge_len, cond_false])
  simp only [cond_false, hh, afterO]
theorem szIntSS (l : List (List Int)) (n : Int) (hf : fIntSS l) (h0 : 0 ≤ n) (h1 : n ≤ 1048576) : F.laws_szIntSS l n = some (if (zIntSS l : Int) ≤ n then n - (zIntSS l : Int) else -1) := by
  obtain ⟨hf', hfe⟩ := hf
  have hf' : l.length ≤ 9223372036854775807 := hf'
  have hz : zIntSS l = l.length + (l.map zIntS).sum := rfl
  unfold F.laws_szIntSS
  rw [show len l = (l.length : Int) from rfl, w64_id (by omega) (by omega), hz]
  by_cases hle : (l.length : Int) ≤ n
  · rw [show decide (n - (l.length : Int) < 0) = false from decide_eq_false (by omega)]
    have hh := loop_sz (step := F.laws_szIntSS.s5) zIntS l (n - (l.length : Int)) (by omega) (fun i k hi hk hkn => by
      unfold F.laws_szIntSS.s5
      simp only
      rw [lt_len hi, inb_nat hi, Int.toNat_natCast, w64_nat (by omega), getD_at hi]
      simp only [cond_true, chk_true, szIntS l[i] k (hfe _ (List.getElem_mem hi)) hk (by omega), Option.bind_some]
      by_cases hx : (zIntS l[i] : Int) ≤ k
      · rw [if_pos hx, if_pos hx, show decide (k - (zIntS l[i] : Int) < 0) = false from decide_eq_false (by omega)]; rfl
      · rw [if_neg hx, if_neg hx]; rfl) (fun k => by
      unfold F.laws_szIntSS.s5
      simp only [ge_len, cond_false])
    simp only [cond_false, hh]
    by_cases hs : (((l.map zIntS).sum : Nat) : Int) ≤ n - (l.length : Int)
    · rw [if_pos hs, if_pos (by omega)]
      simp only [afterO]
      congr 1; omega
    · rw [if_neg hs, if_neg (by omega)]; rfl
  · rw [if_neg (by omega), show decide (n - (l.length : Int) < 0) = true from decide_eq_true (by omega)]; rfl
/- Sketch: copied, compared, counted. -/

def zSketch (a : DSketch) : Nat := zIntS a.2.2.2.2.1 + zIntS a.2.2.2.2.2.1 + zIntSS a.2.2.2.2.2.2.1
def fSketch (a : DSketch) : Prop := fIntS a.2.2.2.2.1 ∧ fIntS a.2.2.2.2.2.1 ∧ fIntSS a.2.2.2.2.2.2.1
theorem toSketch (a : DSketch) (h : zSketch a ≤ 1048576) : F.laws_toSketch a = some a := by
  unfold F.laws_toSketch
  simp only [toIntS a.2.2.2.2.1 (by unfold zSketch at h; omega), toIntS a.2.2.2.2.2.1 (by unfold zSketch at h; omega), toIntSS a.2.2.2.2.2.2.1 (by unfold zSketch at h; omega), Option.bind_some]
theorem eqSketch (a : DSketch) (h : zSketch a ≤ 1099511627776) : F.laws_eqSketch a a = some true := by
  unfold F.laws_eqSketch
  simp only [bne_self_eq_false, cond_false, Bool.not_true, Option.bind_some, eqIntS a.2.2.2.2.1 (by unfold zSketch at h; omega), eqIntS a.2.2.2.2.2.1 (by unfold zSketch at h; omega), eqIntSS a.2.2.2.2.2.2.1 (by unfold zSketch at h; omega)]
theorem szSketch (a : DSketch) (n : Int) (hf : fSketch a) (h0 : 0 ≤ n) (h1 : n ≤ 1048576) : F.laws_szSketch a n = some (if (zSketch a : Int) ≤ n then n - (zSketch a : Int) else -1) := by
  have hz : zSketch a = zIntS a.2.2.2.2.1 + zIntS a.2.2.2.2.2.1 + zIntSS a.2.2.2.2.2.2.1 := rfl
  unfold F.laws_szSketch
  unfold fSketch at hf
  rw [szIntS a.2.2.2.2.1 n hf.1 h0 h1]
  by_cases c0 : (zIntS a.2.2.2.2.1 : Int) ≤ n
  case neg => rw [if_neg c0, if_neg (by omega)]; rfl
  rw [if_pos c0]
  simp only [Option.bind_some]
  rw [show decide (n - (zIntS a.2.2.2.2.1 : Int) < 0) = false from decide_eq_false (by omega)]
  simp only [cond_false]
  rw [szIntS a.2.2.2.2.2.1 (n - (zIntS a.2.2.2.2.1 : Int)) hf.2.1 (by omega) (by omega)]
  by_cases c1 : (zIntS a.2.2.2.2.2.1 : Int) ≤ n - (zIntS a.2.2.2.2.1 : Int)
  case neg => rw [if_neg c1, if_neg (by omega)]; rfl
  rw [if_pos c1]
  simp only [Option.bind_some]
  rw [show decide (n - (zIntS a.2.2.2.2.1 : Int) - (zIntS a.2.2.2.2.2.1 : Int) < 0) = false from decide_eq_false (by omega)]
  simp only [cond_false]
  rw [szIntSS a.2.2.2.2.2.2.1 (n - (zIntS a.2.2.2.2.1 : Int) - (zIntS a.2.2.2.2.2.1 : Int)) hf.2.2 (by omega) (by omega)]
  by_cases c2 : (zIntSS a.2.2.2.2.2.2.1 : Int) ≤ n - (zIntS a.2.2.2.2.1 : Int) - (zIntS a.2.2.2.2.2.1 : Int)
  case neg => rw [if_neg c2, if_neg (by omega)]; rfl
  rw [if_pos c2]
  simp only [Option.bind_some]
  rw [show decide (n - (zIntS a.2.2.2.2.1 : Int) - (zIntS a.2.2.2.2.2.1 : Int) - (zIntSS a.2.2.2.2.2.2.1 : Int) < 0) = false from decide_eq_false (by omega)]
  simp only [cond_false]
  rw [if_pos (by omega)]
  first | rfl | (congr 1; omega)
/- Item: copied, compared, counted. -/

def zItem (a : DItem) : Nat := zSketch a.2.2.2.2.1
def fItem (a : DItem) : Prop := fSketch a.2.2.2.2.1
theorem toItem (a : DItem) (h : zItem a ≤ 1048576) : F.laws_toItem a = some a := by
  unfold F.laws_toItem
  simp only [toSketch a.2.2.2.2.1 (by unfold zItem at h; omega), Option.bind_some]
theorem eqItem (a : DItem) (h : zItem a ≤ 1099511627776) : F.laws_eqItem a a = some true := by
  unfold F.laws_eqItem
  simp only [bne_self_eq_false, cond_false, Bool.not_true, Option.bind_some, eqSketch a.2.2.2.2.1 (by unfold zItem at h; omega)]
theorem szItem (a : DItem) (n : Int) (hf : fItem a) (h0 : 0 ≤ n) (h1 : n ≤ 1048576) : F.laws_szItem a n = some (if (zItem a : Int) ≤ n then n - (zItem a : Int) else -1) := by
  have hz : zItem a = zSketch a.2.2.2.2.1 := rfl
  unfold F.laws_szItem
  unfold fItem at hf
  rw [szSketch a.2.2.2.2.1 n hf h0 h1]
  by_cases c0 : (zSketch a.2.2.2.2.1 : Int) ≤ n
  case neg => rw [if_neg c0, if_neg (by omega)]; rfl
  rw [if_pos c0]
  simp only [Option.bind_some]
  rw [show decide (n - (zSketch a.2.2.2.2.1 : Int) < 0) = false from decide_eq_false (by omega)]
  simp only [cond_false]
  rw [if_pos (by omega)]
  first | rfl | (congr 1; omega)
/- ItemS: copied, compared, counted. -/

def zItemS (l : List DItem) : Nat := l.length + (l.map zItem).sum
def fItemS (l : List DItem) : Prop := l.length ≤ maxLen ∧ ∀ x ∈ l, fItem x
theorem toItemS (l : List DItem) (h : zItemS l ≤ 1048576) : F.laws_toItemS l = some l := by
  have hl : l.length ≤ 1048576 := by unfold zItemS at h; omega
  have hel : ∀ x ∈ l, zItem x ≤ 1048576 := fun x hm => (Nat.le_trans (sum_mem hm) (by unfold zItemS at h; omega))
  unfold F.laws_toItemS
  rw [mk_ok (by omega), chk_true, show Int.toNat (len l) = l.length from Int.toNat_natCast _]
  have hh := loop_to (step := F.laws_toItemS.s3) l (0, 0, 0, 0, (0, 0, 0, 0, ([] : List Int), ([] : List Int), ([] : List (List Int)), ()), ()) (fun i m hi hm => by
    unfold F.laws_toItemS.s3
    simp only
    rw [lt_len hi, inb_nat hi, inb_nat hm, Int.toNat_natCast, w64_nat (by omega), getD_at hi]
    simp only [cond_true, chk_true, Option.bind_some, toItem l[i] (hel l[i] (List.getElem_mem hi))]) (fun m => by
    unfold F.laws_toItemS.s3
    simp only [ge_len, cond_false])
  simp only [hh, afterO]
theorem eqItemS (l : List DItem) (h : zItemS l ≤ 1099511627776) : F.laws_eqItemS l l = some true := by
  have hl : l.length ≤ 1099511627776 := by unfold zItemS at h; omega
  have hel : ∀ x ∈ l, zItem x ≤ 1099511627776 := fun x hm => (Nat.le_trans (sum_mem hm) (by unfold zItemS at h; omega))
  unfold F.laws_eqItemS
  rw [show (len l != len l) = false by simp]
  have hh := loop_eq (step := F.laws_eqItemS.s4) l (fun i hi => by
    unfold F.laws_eqItemS.s4
    simp only
    rw [lt_len hi, inb_nat hi, Int.toNat_natCast, w64_nat (by omega), getD_at hi]
    simp only [cond_true, cond_false, chk_true, Option.bind_some, Bool.not_true, eqItem l[i] (hel l[i] (List.getElem_mem hi))]) (by
    unfold F.laws_eqItemS.s4
    simp only [ge_len, cond_false])
  simp only [cond_false, hh, afterO]
theorem szItemS (l : List DItem) (n : Int) (hf : fItemS l) (h0 : 0 ≤ n) (h1 : n ≤ 1048576) : F.laws_szItemS l n = some (if (zItemS l : Int) ≤ n then n - (zItemS l : Int) else -1) := by
  obtain ⟨hf', hfe⟩ := hf
  have hf' : l.length ≤ 9223372036854775807 := hf'
  have hz : zItemS l = l.length + (l.map zItem).sum := rfl
  unfold F.laws_szItemS
  rw [show len l = (l.length : Int) from rfl, w64_id (by omega) (by omega), hz]
  by_cases hle : (l.length : Int) ≤ n
  · rw [show decide (n - (l.length : Int) < 0) = false from decide_eq_false (by omega)]
    have hh := loop_sz (step := F.laws_szItemS.s5) zItem l (n - (l.length : Int)) (by omega) (fun i k hi hk hkn => by
      unfold F.laws_szItemS.s5
      simp only
      rw [lt_len hi, inb_nat hi, Int.toNat_natCast, w64_nat (by omega), getD_at hi]
      simp only [cond_true, chk_true, szItem l[i] k (hfe _ (List.getElem_mem hi)) hk (by omega), Option.bind_some]
      by_cases hx : (zItem l[i] : Int) ≤ k
      · rw [if_pos hx, if_pos hx, show decide (k - (zItem l[i] : Int) < 0) = false from decide_eq_false (by omega)]; rfl
      · rw [if_neg hx, if_neg hx]; rfl) (fun k => by
      unfold F.laws_szItemS.s5
      simp only [ge_len, cond_false])
    simp only [cond_false, hh]
    by_cases hs : (((l.map zItem).sum : Nat) : Int) ≤ n - (l.length : Int)
    · rw [if_pos hs, if_pos (by omega)]
      simp only [afterO]
      congr 1; omega
    · rw [if_neg hs, if_neg (by omega)]; rfl
  · rw [if_neg (by omega), show decide (n - (l.length : Int) < 0) = true from decide_eq_true (by omega)]; rfl
/- Span: copied, compared, counted. -/

theorem toSpan (a : DSpan) : F.laws_toSpan a = some a := rfl
theorem eqSpan (a : DSpan) : F.laws_eqSpan a a = some true := by
  unfold F.laws_eqSpan
  simp only [bne_self_eq_false, cond_false]
/- SpanS: copied, compared, counted. -/

def zSpanS (l : List DSpan) : Nat := l.length
def fSpanS (l : List DSpan) : Prop := l.length ≤ maxLen
theorem toSpanS (l : List DSpan) (h : zSpanS l ≤ 1048576) : F.laws_toSpanS l = some l := by
  have hl : l.length ≤ 1048576 := by unfold zSpanS at h; omega
  unfold F.laws_toSpanS
  rw [mk_ok (by omega), chk_true, show Int.toNat (len l) = l.length from Int.toNat_natCast _]
  have hh := loop_to (step := F.laws_toSpanS.s3) l (0, 0, ()) (fun i m hi hm => by
    unfold F.laws_toSpanS.s3
    simp only
    rw [lt_len hi, inb_nat hi, inb_nat hm, Int.toNat_natCast, w64_nat (by omega), getD_at hi]
    simp only [cond_true, chk_true, Option.bind_some, toSpan l[i]]) (fun m => by
    unfold F.laws_toSpanS.s3
    simp only [ge_len, cond_false])
  simp only [hh, afterO]
theorem eqSpanS (l : List DSpan) (h : zSpanS l ≤ 1099511627776) : F.laws_eqSpanS l l = some true := by
  have hl : l.length ≤ 1099511627776 := by unfold zSpanS at h; omega
  unfold F.laws_eqSpanS
  rw [show (len l != len l) = false by simp]
  have hh := loop_eq (step := F.laws_eqSpanS.s4) l (fun i hi => by
    unfold F.laws_eqSpanS.s4
    simp only
    rw [lt_len hi, inb_nat hi, Int.toNat_natCast, w64_nat (by omega), getD_at hi]
    simp only [cond_true, cond_false, chk_true, Option.bind_some, Bool.not_true, eqSpan l[i]]) (by
    unfold F.laws_eqSpanS.s4
    simp only [ge_len, cond_false])
  simp only [cond_false, hh, afterO]
theorem szSpanS (l : List DSpan) (n : Int) (hf : fSpanS l) (h0 : 0 ≤ n) (h1 : n ≤ 1048576) : F.laws_szSpanS l n = some (if (zSpanS l : Int) ≤ n then n - (zSpanS l : Int) else -1) := by
  have hf' : l.length ≤ 9223372036854775807 := hf
  have hz : zSpanS l = l.length := rfl
  unfold F.laws_szSpanS
  rw [show len l = (l.length : Int) from rfl, w64_id (by omega) (by omega), hz]
  by_cases hle : (l.length : Int) ≤ n
  · rw [if_pos hle, show decide (n - (l.length : Int) < 0) = false from decide_eq_false (by omega)]; rfl
  · rw [if_neg hle, show decide (n - (l.length : Int) < 0) = true from decide_eq_true (by omega)]; rfl
/- Entry: copied, compared, counted. -/

def zEntry (a : DEntry) : Nat := zSpanS a.2.2.1 + zSketch a.2.2.2.1
def fEntry (a : DEntry) : Prop := fSpanS a.2.2.1 ∧ fSketch a.2.2.2.1
theorem toEntry (a : DEntry) (h : zEntry a ≤ 1048576) : F.laws_toEntry a = some a := by
  unfold F.laws_toEntry
  simp only [toSpanS a.2.2.1 (by unfold zEntry at h; omega), toSketch a.2.2.2.1 (by unfold zEntry at h; omega), Option.bind_some]
theorem eqEntry (a : DEntry) (h : zEntry a ≤ 1099511627776) : F.laws_eqEntry a a = some true := by
  unfold F.laws_eqEntry
  simp only [bne_self_eq_false, cond_false, Bool.not_true, Option.bind_some, eqSpanS a.2.2.1 (by unfold zEntry at h; omega), eqSketch a.2.2.2.1 (by unfold zEntry at h; omega)]
theorem szEntry (a : DEntry) (n : Int) (hf : fEntry a) (h0 : 0 ≤ n) (h1 : n ≤ 1048576) : F.laws_szEntry a n = some (if (zEntry a : Int) ≤ n then n - (zEntry a : Int) else -1) := by
  have hz : zEntry a = zSpanS a.2.2.1 + zSketch a.2.2.2.1 := rfl
  unfold F.laws_szEntry
  unfold fEntry at hf
  rw [szSpanS a.2.2.1 n hf.1 h0 h1]
  by_cases c0 : (zSpanS a.2.2.1 : Int) ≤ n
  case neg => rw [if_neg c0, if_neg (by omega)]; rfl
  rw [if_pos c0]
  simp only [Option.bind_some]
  rw [show decide (n - (zSpanS a.2.2.1 : Int) < 0) = false from decide_eq_false (by omega)]
  simp only [cond_false]
  rw [szSketch a.2.2.2.1 (n - (zSpanS a.2.2.1 : Int)) hf.2 (by omega) (by omega)]
  by_cases c1 : (zSketch a.2.2.2.1 : Int) ≤ n - (zSpanS a.2.2.1 : Int)
  case neg => rw [if_neg c1, if_neg (by omega)]; rfl
  rw [if_pos c1]
  simp only [Option.bind_some]
  rw [show decide (n - (zSpanS a.2.2.1 : Int) - (zSketch a.2.2.2.1 : Int) < 0) = false from decide_eq_false (by omega)]
  simp only [cond_false]
  rw [if_pos (by omega)]
  first | rfl | (congr 1; omega)
/- EntryS: copied, compared, counted. -/

def zEntryS (l : List DEntry) : Nat := l.length + (l.map zEntry).sum
def fEntryS (l : List DEntry) : Prop := l.length ≤ maxLen ∧ ∀ x ∈ l, fEntry x
theorem toEntryS (l : List DEntry) (h : zEntryS l ≤ 1048576) : F.laws_toEntryS l = some l := by
  have hl : l.length ≤ 1048576 := by unfold zEntryS at h; omega
  have hel : ∀ x ∈ l, zEntry x ≤ 1048576 := fun x hm => (Nat.le_trans (sum_mem hm) (by unfold zEntryS at h; omega))
  unfold F.laws_toEntryS
  rw [mk_ok (by omega), chk_true, show Int.toNat (len l) = l.length from Int.toNat_natCast _]
  have hh := loop_to (step := F.laws_toEntryS.s3) l (0, 0, ([] : List DSpan), (0, 0, 0, 0, ([] : List Int), ([] : List Int), ([] : List (List Int)), ()), ()) (fun i m hi hm => by
    unfold F.laws_toEntryS.s3
    simp only
    rw [lt_len hi, inb_nat hi, inb_nat hm, Int.toNat_natCast, w64_nat (by omega), getD_at hi]
    simp only [cond_true, chk_true, Option.bind_some, toEntry l[i] (hel l[i] (List.getElem_mem hi))]) (fun m => by
    unfold F.laws_toEntryS.s3
    simp only [ge_len, cond_false])
  simp only [hh, afterO]
theorem eqEntryS (l : List DEntry) (h : zEntryS l ≤ 1099511627776) : F.laws_eqEntryS l l = some true := by
  have hl : l.length ≤ 1099511627776 := by unfold zEntryS at h; omega
  have hel : ∀ x ∈ l, zEntry x ≤ 1099511627776 := fun x hm => (Nat.le_trans (sum_mem hm) (by unfold zEntryS at h; omega))
  unfold F.laws_eqEntryS
  rw [show (len l != len l) = false by simp]
  have hh := loop_eq (step := F.laws_eqEntryS.s4) l (fun i hi => by
    unfold F.laws_eqEntryS.s4
    simp only
    rw [lt_len hi, inb_nat hi, Int.toNat_natCast, w64_nat (by omega), getD_at hi]
    simp only [cond_true, cond_false, chk_true, Option.bind_some, Bool.not_true, eqEntry l[i] (hel l[i] (List.getElem_mem hi))]) (by
    unfold F.laws_eqEntryS.s4
    simp only [ge_len, cond_false])
  simp only [cond_false, hh, afterO]
theorem szEntryS (l : List DEntry) (n : Int) (hf : fEntryS l) (h0 : 0 ≤ n) (h1 : n ≤ 1048576) : F.laws_szEntryS l n = some (if (zEntryS l : Int) ≤ n then n - (zEntryS l : Int) else -1) := by
  obtain ⟨hf', hfe⟩ := hf
  have hf' : l.length ≤ 9223372036854775807 := hf'
  have hz : zEntryS l = l.length + (l.map zEntry).sum := rfl
  unfold F.laws_szEntryS
  rw [show len l = (l.length : Int) from rfl, w64_id (by omega) (by omega), hz]
  by_cases hle : (l.length : Int) ≤ n
  · rw [show decide (n - (l.length : Int) < 0) = false from decide_eq_false (by omega)]
    have hh := loop_sz (step := F.laws_szEntryS.s5) zEntry l (n - (l.length : Int)) (by omega) (fun i k hi hk hkn => by
      unfold F.laws_szEntryS.s5
      simp only
      rw [lt_len hi, inb_nat hi, Int.toNat_natCast, w64_nat (by omega), getD_at hi]
      simp only [cond_true, chk_true, szEntry l[i] k (hfe _ (List.getElem_mem hi)) hk (by omega), Option.bind_some]
      by_cases hx : (zEntry l[i] : Int) ≤ k
      · rw [if_pos hx, if_pos hx, show decide (k - (zEntry l[i] : Int) < 0) = false from decide_eq_false (by omega)]; rfl
      · rw [if_neg hx, if_neg hx]; rfl) (fun k => by
      unfold F.laws_szEntryS.s5
      simp only [ge_len, cond_false])
    simp only [cond_false, hh]
    by_cases hs : (((l.map zEntry).sum : Nat) : Int) ≤ n - (l.length : Int)
    · rw [if_pos hs, if_pos (by omega)]
      simp only [afterO]
      congr 1; omega
    · rw [if_neg hs, if_neg (by omega)]; rfl
  · rw [if_neg (by omega), show decide (n - (l.length : Int) < 0) = true from decide_eq_true (by omega)]; rfl
/- Numbers between bounds. -/

def inR (lo hi x : Int) : Bool := decide (x ≥ lo) && decide (x ≤ hi)
theorem l1In_eq (x lo hi : Int) : F.spec_l1In x lo hi = some (inR lo hi x) := by
  unfold F.spec_l1In inR
  cases decide (x ≥ lo) <;> rfl
theorem within_eq (x lo hi : Int) : F.impl_within x lo hi = some (inR lo hi x) := by
  unfold F.impl_within inR
  cases decide (x ≥ lo) <;> rfl
theorem inR_iff {lo hi x : Int} : inR lo hi x = true ↔ lo ≤ x ∧ x ≤ hi := by simp [inR]
/- Sets of spans: both tests answer alike. -/

abbrev Sp := Int × Int × Unit
/-- Span i stands well, behind the one ahead of it. -/
def okAt (a : List Sp) (i : Nat) (h : i < a.length) : Prop := inR 0 9999 a[i].1 = true ∧ inR a[i].1 9999 a[i].2.1 = true ∧ ∀ h0 : 0 < i, ¬ (a[i].1 ≤ (a[i - 1]'(by omega)).2.1 + 1)
def Good (a : List Sp) : Prop := ∀ (i : Nat) (h : i < a.length), okAt a i h
theorem specSet_ok (a : List Sp) (h : a.length ≤ 1048576) : (F.spec_SetOk a = some true ∧ Good a) ∨ (F.spec_SetOk a = some false ∧ ¬ Good a) := by
  unfold F.spec_SetOk
  obtain ⟨y, h1, h2⟩ := loopO_rule (step := F.spec_SetOk.s2) (fun x => x.1 = a ∧ 0 ≤ x.2.1 ∧ x.2.1 ≤ a.length ∧ ∀ (i : Nat) (hi : i < a.length), (i : Int) < x.2.1 → okAt a i hi) (fun y => (∃ i, y = .inl i ∧ Good a) ∨ (y = .inr false ∧ ¬ Good a))
    (fun x => a.length - x.2.1.toNat) (fun x hx => by
      obtain ⟨x1, x2, u⟩ := x
      obtain ⟨rfl, g1, g2, g3⟩ := hx
      simp only at g1 g2 g3
      have h : x1.length ≤ 1048576 := h
      unfold F.spec_SetOk.s2
      simp only
      by_cases hlt : x2 < (x1.length : Int)
      · have hin : x2.toNat < x1.length := by omega
        have again : okAt x1 x2.toNat hin → (x1 = x1 ∧ 0 ≤ w64 (x2 + 1) ∧ w64 (x2 + 1) ≤ x1.length ∧ ∀ (i : Nat) (hi : i < x1.length), (i : Int) < w64 (x2 + 1) → okAt x1 i hi) ∧ x1.length - (w64 (x2 + 1)).toNat < x1.length - x2.toNat := by
          intro hok
          refine ⟨⟨rfl, ?_, ?_, ?_⟩, ?_⟩
          all_goals rw [w64_id (by omega) (by omega)]
          · omega
          · omega
          · intro i hi hlt'
            by_cases e : i = x2.toNat
            · subst e; exact hok
            · exact g3 i hi (by omega)
          · omega
        rw [show decide (x2 < len x1) = true from decide_eq_true hlt, inb_of g1 hlt, l1In_eq, l1In_eq, getD_at hin]
        simp only [chk_true, cond_true, Option.bind_some]
        cases hr : inR 0 9999 x1[x2.toNat].1 with
        | false => exact ⟨.ret false, rfl, .inr ⟨rfl, fun hg => by have := (hg _ hin).1; rw [hr] at this; cases this⟩⟩
        | true =>
          simp only [Bool.not_true, cond_false]
          cases hr2 : inR x1[x2.toNat].1 9999 x1[x2.toNat].2.1 with
          | false => exact ⟨.ret false, rfl, .inr ⟨rfl, fun hg => by have := (hg _ hin).2.1; rw [hr2] at this; cases this⟩⟩
          | true =>
            simp only [Bool.not_true, cond_false]
            by_cases hp : x2 > 0
            · have hin2 : x2.toNat - 1 < x1.length := by omega
              have hb := (g3 (x2.toNat - 1) hin2 (by omega))
              have hb1 := inR_iff.1 hb.1
              have hb2 := inR_iff.1 hb.2.1
              rw [show decide (x2 > 0) = true from decide_eq_true hp, w64_id (x := x2 - 1) (by omega) (by omega), inb_of (i := x2 - 1) (by omega) (by omega), show (x2 - 1).toNat = x2.toNat - 1 by omega, getD_at hin2, w64_id (x := x1[x2.toNat - 1].2.1 + 1) (by omega) (by omega)]
              simp only [chk_true, cond_true]
              by_cases hle : x1[x2.toNat].1 ≤ x1[x2.toNat - 1].2.1 + 1
              · rw [show decide (x1[x2.toNat].1 ≤ x1[x2.toNat - 1].2.1 + 1) = true from decide_eq_true hle]
                exact ⟨.ret false, rfl, .inr ⟨rfl, fun hg => (hg _ hin).2.2 (by omega) hle⟩⟩
              · rw [show decide (x1[x2.toNat].1 ≤ x1[x2.toNat - 1].2.1 + 1) = false from decide_eq_false hle]
                exact ⟨.again (x1, w64 (x2 + 1), ()), rfl, again ⟨hr, hr2, fun _ => hle⟩⟩
            · rw [show decide (x2 > 0) = false from decide_eq_false hp]
              exact ⟨.again (x1, w64 (x2 + 1), ()), rfl, again ⟨hr, hr2, fun h0 => by omega⟩⟩
      · refine ⟨.exit (x1, x2, ()), ?_, .inl ⟨_, rfl, fun i hi => g3 i hi (by omega)⟩⟩
        rw [show decide (x2 < len x1) = false from decide_eq_false hlt]; rfl) (x := (a, 0, ())) ⟨rfl, Int.le_refl 0, by simp, fun i hi h => by
          have h : (i : Int) < 0 := h
          omega⟩
  rw [h1]
  rcases h2 with ⟨i, rfl, hg⟩ | ⟨rfl, hg⟩
  · exact .inl ⟨rfl, hg⟩
  · exact .inr ⟨rfl, hg⟩
theorem implSet_ok (a : List Sp) (h : a.length ≤ 1048576) : (F.impl_SetOk a = some true ∧ Good a) ∨ (F.impl_SetOk a = some false ∧ ¬ Good a) := by
  unfold F.impl_SetOk
  obtain ⟨y, h1, h2⟩ := loopO_rule (step := F.impl_SetOk.s2) (fun x => x.1 = a ∧ x.2.1 = a ∧ x.2.2.1 = len a ∧ 0 ≤ x.2.2.2.1 ∧ x.2.2.2.1 ≤ a.length ∧ ∀ (i : Nat) (hi : i < a.length), (i : Int) < x.2.2.2.1 → okAt a i hi) (fun y => (∃ i, y = .inl i ∧ Good a) ∨ (y = .inr false ∧ ¬ Good a))
    (fun x => a.length - x.2.2.2.1.toNat) (fun x hx => by
      obtain ⟨x1, xa, xl, x2, u⟩ := x
      obtain ⟨rfl, ea, el, g1, g2, g3⟩ := hx
      simp only at g1 g2 g3 ea el
      subst ea; subst el
      have h : xa.length ≤ 1048576 := h
      unfold F.impl_SetOk.s2
      simp only
      by_cases hlt : x2 < (xa.length : Int)
      · have hin : x2.toNat < xa.length := by omega
        have again : okAt xa x2.toNat hin → (xa = xa ∧ xa = xa ∧ len xa = len xa ∧ 0 ≤ w64 (x2 + 1) ∧ w64 (x2 + 1) ≤ xa.length ∧ ∀ (i : Nat) (hi : i < xa.length), (i : Int) < w64 (x2 + 1) → okAt xa i hi) ∧ xa.length - (w64 (x2 + 1)).toNat < xa.length - x2.toNat := by
          intro hok
          refine ⟨⟨rfl, rfl, rfl, ?_, ?_, ?_⟩, ?_⟩
          all_goals rw [w64_id (by omega) (by omega)]
          · omega
          · omega
          · intro i hi hlt'
            by_cases e : i = x2.toNat
            · subst e; exact hok
            · exact g3 i hi (by omega)
          · omega
        rw [show decide (x2 < len xa) = true from decide_eq_true hlt, inb_of g1 hlt, within_eq, within_eq, getD_at hin]
        simp only [chk_true, cond_true, Option.bind_some]
        cases hr : inR 0 9999 xa[x2.toNat].1 with
        | false => exact ⟨.ret false, rfl, .inr ⟨rfl, fun hg => by have := (hg _ hin).1; rw [hr] at this; cases this⟩⟩
        | true =>
          simp only [Bool.not_true, cond_false]
          cases hr2 : inR xa[x2.toNat].1 9999 xa[x2.toNat].2.1 with
          | false => exact ⟨.ret false, rfl, .inr ⟨rfl, fun hg => by have := (hg _ hin).2.1; rw [hr2] at this; cases this⟩⟩
          | true =>
            simp only [Bool.not_true, cond_false]
            by_cases hp : x2 > 0
            · have hin2 : x2.toNat - 1 < xa.length := by omega
              have hb := (g3 (x2.toNat - 1) hin2 (by omega))
              have hb1 := inR_iff.1 hb.1
              have hb2 := inR_iff.1 hb.2.1
              rw [show decide (x2 > 0) = true from decide_eq_true hp, w64_id (x := x2 - 1) (by omega) (by omega), inb_of (i := x2 - 1) (by omega) (by omega), show (x2 - 1).toNat = x2.toNat - 1 by omega, getD_at hin2, w64_id (x := xa[x2.toNat - 1].2.1 + 1) (by omega) (by omega)]
              simp only [chk_true, cond_true]
              by_cases hle : xa[x2.toNat].1 ≤ xa[x2.toNat - 1].2.1 + 1
              · rw [show decide (xa[x2.toNat].1 ≤ xa[x2.toNat - 1].2.1 + 1) = true from decide_eq_true hle]
                exact ⟨.ret false, rfl, .inr ⟨rfl, fun hg => (hg _ hin).2.2 (by omega) hle⟩⟩
              · rw [show decide (xa[x2.toNat].1 ≤ xa[x2.toNat - 1].2.1 + 1) = false from decide_eq_false hle]
                exact ⟨.again (xa, xa, len xa, w64 (x2 + 1), ()), rfl, again ⟨hr, hr2, fun _ => hle⟩⟩
            · rw [show decide (x2 > 0) = false from decide_eq_false hp]
              exact ⟨.again (xa, xa, len xa, w64 (x2 + 1), ()), rfl, again ⟨hr, hr2, fun h0 => by omega⟩⟩
      · refine ⟨.exit (xa, xa, len xa, x2, ()), ?_, .inl ⟨_, rfl, fun i hi => g3 i hi (by omega)⟩⟩
        rw [show decide (x2 < len xa) = false from decide_eq_false hlt]; rfl) (x := (a, a, len a, 0, ())) ⟨rfl, rfl, rfl, Int.le_refl 0, by simp, fun i hi h => by
          have h : (i : Int) < 0 := h
          omega⟩
  rw [h1]
  rcases h2 with ⟨i, rfl, hg⟩ | ⟨rfl, hg⟩
  · exact .inl ⟨rfl, hg⟩
  · exact .inr ⟨rfl, hg⟩
/-- The spans go up. -/
theorem good_up {a : List Sp} (hg : Good a) : ∀ (k i : Nat) (hi : i + k < a.length), (a[i]'(by omega)).1 ≤ (a[i + k]).1 ∧ (a[i]'(by omega)).2.1 ≤ (a[i + k]).2.1
  | 0, i, hi => ⟨Int.le_refl _, Int.le_refl _⟩
  | k + 1, i, hi => by
    obtain ⟨g1, g2⟩ := good_up hg k i (by omega)
    have h1 := hg (i + k) (by omega)
    have h2 := hg (i + (k + 1)) hi
    have h3 := inR_iff.1 h1.2.1
    have h4 := inR_iff.1 h2.2.1
    have h5 := h2.2.2 (by omega)
    have e : (a[i + (k + 1) - 1]'(by omega)) = a[i + k] := by congr 1
    rw [e] at h5
    exact ⟨by omega, by omega⟩
/- Sets within bounds: both tests answer alike. -/

def Within (a : List Sp) (n : Int) : Prop := ∀ (i : Nat) (h : i < a.length), 1 ≤ a[i].1 ∧ a[i].2.1 ≤ n
theorem below_loop (a : List Sp) (n : Int) (h : a.length ≤ 1048576) : ∃ y, loopO F.spec_l8Below.s4 (a, n, 0, ()) = some y ∧ ((∃ i, y = .inl i ∧ Within a n) ∨ (y = .inr false ∧ ¬ Within a n)) :=
  loopO_rule (step := F.spec_l8Below.s4) (fun x => x.1 = a ∧ x.2.1 = n ∧ 0 ≤ x.2.2.1 ∧ x.2.2.1 ≤ a.length ∧ ∀ (i : Nat) (hi : i < a.length), (i : Int) < x.2.2.1 → 1 ≤ a[i].1 ∧ a[i].2.1 ≤ n) (fun y => (∃ i, y = .inl i ∧ Within a n) ∨ (y = .inr false ∧ ¬ Within a n))
    (fun x => a.length - x.2.2.1.toNat) (fun x hx => by
      obtain ⟨x1, x3, x2, u⟩ := x
      obtain ⟨rfl, e3, g1, g2, g3⟩ := hx
      simp only at g1 g2 g3 e3
      subst e3
      have h : x1.length ≤ 1048576 := h
      unfold F.spec_l8Below.s4
      simp only
      by_cases hlt : x2 < (x1.length : Int)
      · have hin : x2.toNat < x1.length := by omega
        rw [show decide (x2 < len x1) = true from decide_eq_true hlt, inb_of g1 hlt, getD_at hin]
        simp only [chk_true, cond_true]
        by_cases ha : x1[x2.toNat].1 < 1
        · rw [show decide (x1[x2.toNat].1 < 1) = true from decide_eq_true ha]
          exact ⟨.ret false, rfl, .inr ⟨rfl, fun hg => by have := (hg _ hin).1; omega⟩⟩
        · rw [show decide (x1[x2.toNat].1 < 1) = false from decide_eq_false ha]
          simp only [cond_false]
          by_cases hb : x1[x2.toNat].2.1 > x3
          · rw [show decide (x1[x2.toNat].2.1 > x3) = true from decide_eq_true hb]
            exact ⟨.ret false, rfl, .inr ⟨rfl, fun hg => by have := (hg _ hin).2; omega⟩⟩
          · rw [show decide (x1[x2.toNat].2.1 > x3) = false from decide_eq_false hb]
            refine ⟨.again (x1, x3, w64 (x2 + 1), ()), rfl, ⟨rfl, rfl, ?_, ?_, ?_⟩, ?_⟩
            all_goals simp only
            all_goals rw [w64_id (by omega) (by omega)]
            · omega
            · omega
            · intro i hi hlt'
              by_cases e : i = x2.toNat
              · subst e; exact ⟨by omega, by omega⟩
              · exact g3 i hi (by omega)
            · omega
      · refine ⟨.exit (x1, x3, x2, ()), ?_, .inl ⟨_, rfl, fun i hi => g3 i hi (by omega)⟩⟩
        rw [show decide (x2 < len x1) = false from decide_eq_false hlt]; rfl) (x := (a, n, 0, ())) ⟨rfl, rfl, Int.le_refl 0, by simp, fun i hi h => by
          have h : (i : Int) < 0 := h
          omega⟩
theorem below_same (a : List Sp) (n : Int) (h : a.length ≤ 1048576) : (F.spec_l8Below a n = some true ∧ F.impl_allIn a 1 n = some true ∧ Good a) ∨ (F.spec_l8Below a n = some false ∧ F.impl_allIn a 1 n = some false) := by
  unfold F.spec_l8Below F.impl_allIn
  rcases specSet_ok a h with ⟨e1, hg⟩ | ⟨e1, hg⟩ <;> rcases implSet_ok a h with ⟨e2, hg2⟩ | ⟨e2, hg2⟩
  · rw [e1, e2]
    obtain ⟨y, h1, h2⟩ := below_loop a n h
    simp only [Option.bind_some, Bool.not_true, cond_false, cond_true, h1]
    cases a with
    | nil =>
      rcases h2 with ⟨i, rfl, hw⟩ | ⟨rfl, hw⟩
      · exact .inl ⟨rfl, rfl, hg⟩
      · exact absurd (fun i hi => by cases hi) hw
    | cons s l =>
      have hn : (len (s :: l) == 0) = false := by simp [len]; omega
      rw [hn]
      have hlast : (w64 (len (s :: l) - 1)).toNat = l.length := by
        rw [w64_id (by simp only [len, List.length_cons]; omega) (by simp only [len, List.length_cons] at h ⊢; omega)]
        simp [len]
      have hin1 : inb 0 (s :: l).length = true := inb_of (by omega) (by simp only [List.length_cons]; omega)
      have hin2 : inb (w64 (len (s :: l) - 1)) (s :: l).length = true := by
        rw [w64_id (by simp only [len, List.length_cons]; omega) (by simp only [len, List.length_cons] at h ⊢; omega)]
        exact inb_of (by simp only [len, List.length_cons]; omega) (by simp only [len, List.length_cons]; omega)
      rw [hin1, hin2, hlast, getD_at (l := s :: l) (i := 0) (by simp), getD_at (l := s :: l) (i := l.length) (by simp)]
      simp only [chk_true, cond_false]
      have key : ((s :: l)[0].1 ≥ 1 ∧ ((s :: l)[l.length]'(by simp)).2.1 ≤ n) ↔ Within (s :: l) n := by
        constructor
        · rintro ⟨k1, k2⟩ i hi
          have u1 := (good_up hg i 0 (by simpa using hi)).1
          have u2 := (good_up hg (l.length - i) i (by simp at hi ⊢; omega)).2
          have e3 : i + (l.length - i) = l.length := by simp at hi; omega
          simp only [Nat.zero_add, e3] at u1 u2
          exact ⟨by omega, by omega⟩
        · intro hw
          exact ⟨(hw 0 (by simp)).1, (hw l.length (by simp)).2⟩
      rcases h2 with ⟨i, rfl, hw⟩ | ⟨rfl, hw⟩
      · obtain ⟨k1, k2⟩ := key.2 hw
        refine .inl ⟨rfl, ?_, hg⟩
        rw [show decide ((s :: l)[0].1 ≥ 1) = true from decide_eq_true k1, show decide (((s :: l)[l.length]'(by simp)).2.1 ≤ n) = true from decide_eq_true k2]; rfl
      · refine .inr ⟨rfl, ?_⟩
        by_cases k1 : (s :: l)[0].1 ≥ 1
        · have k2 : ¬ ((s :: l)[l.length]'(by simp)).2.1 ≤ n := fun k2 => hw (key.1 ⟨k1, k2⟩)
          rw [show decide ((s :: l)[0].1 ≥ 1) = true from decide_eq_true k1, show decide (((s :: l)[l.length]'(by simp)).2.1 ≤ n) = false from decide_eq_false k2]; rfl
        · rw [show decide ((s :: l)[0].1 ≥ 1) = false from decide_eq_false k1]; rfl
  · exact absurd hg hg2
  · exact absurd hg2 hg
  · rw [e1, e2]; exact .inr ⟨rfl, rfl⟩
/- How many numbers a set has: both answer alike. -/

theorem w64_step (x h l : Int) : w64 (w64 (w64 (x + h) - l) + 1) = w64 (x + w64 (w64 (h - l) + 1)) := by
  unfold w64 IntKind.wrap
  simp [IntKind.bits, IntKind.signed]
  omega
def accS (a : List Sp) : Nat → Int
  | 0 => 0
  | i + 1 => w64 (w64 (w64 (accS a i + (List.getD a i (0, 0, ())).2.1) - (List.getD a i (0, 0, ())).1) + 1)
theorem size_same (a : List Sp) (h : a.length ≤ 1048576) : ∃ r, F.spec_SetSize a = some r ∧ F.impl_SetSize a = some r := by
  unfold F.spec_SetSize F.impl_SetSize
  rcases specSet_ok a h with ⟨e1, hg⟩ | ⟨e1, hg⟩ <;> rcases implSet_ok a h with ⟨e2, hg2⟩ | ⟨e2, hg2⟩
  · rw [e1, e2]
    have l1 := loop_run (step := F.spec_SetSize.s5) (fun i => (a, accS a i, (i : Int), ())) a.length (fun i hi => by
      unfold F.spec_SetSize.s5
      simp only
      rw [lt_len hi, inb_nat hi, w64_nat (by omega), Int.toNat_natCast]
      rfl) (l := .exit (a, accS a a.length, (a.length : Int), ())) (y := .inl (a, accS a a.length, (a.length : Int), ())) (by
      unfold F.spec_SetSize.s5
      simp only
      rw [ge_len]
      rfl) rfl
    have l2 := loop_run (step := F.impl_SetSize.s5) (fun i => (accS a i, a, len a, (i : Int), ())) a.length (fun i hi => by
      unfold F.impl_SetSize.s5
      simp only
      rw [lt_len hi, inb_nat hi, w64_nat (by omega), Int.toNat_natCast]
      simp only [chk_true, cond_true, accS]
      rw [w64_step]) (l := .exit (accS a a.length, a, len a, (a.length : Int), ())) (y := .inl (accS a a.length, a, len a, (a.length : Int), ())) (by
      unfold F.impl_SetSize.s5
      simp only
      rw [ge_len]
      rfl) rfl
    have l1 : loopO F.spec_SetSize.s5 (a, 0, 0, ()) = _ := l1
    have l2 : loopO F.impl_SetSize.s5 (0, a, len a, 0, ()) = _ := l2
    simp only [Option.bind_some, Bool.not_true, cond_false, l1, l2]
    exact ⟨_, rfl, rfl⟩
  · exact absurd hg hg2
  · exact absurd hg2 hg
  · rw [e1, e2]; exact ⟨0, rfl, rfl⟩
/- Seat: copied, compared, counted. -/

def zSeat (a : DSeat) : Nat := zSpanS a.2.2.1
def fSeat (a : DSeat) : Prop := fSpanS a.2.2.1
theorem toSeat (a : DSeat) (h : zSeat a ≤ 1048576) : F.laws_toSeat a = some a := by
  unfold F.laws_toSeat
  simp only [toSpanS a.2.2.1 (by unfold zSeat at h; omega), Option.bind_some]
theorem eqSeat (a : DSeat) (h : zSeat a ≤ 1099511627776) : F.laws_eqSeat a a = some true := by
  unfold F.laws_eqSeat
  simp only [bne_self_eq_false, cond_false, Bool.not_true, Option.bind_some, eqSpanS a.2.2.1 (by unfold zSeat at h; omega)]
theorem szSeat (a : DSeat) (n : Int) (hf : fSeat a) (h0 : 0 ≤ n) (h1 : n ≤ 1048576) : F.laws_szSeat a n = some (if (zSeat a : Int) ≤ n then n - (zSeat a : Int) else -1) := by
  have hz : zSeat a = zSpanS a.2.2.1 := rfl
  unfold F.laws_szSeat
  unfold fSeat at hf
  rw [szSpanS a.2.2.1 n hf h0 h1]
  by_cases c0 : (zSpanS a.2.2.1 : Int) ≤ n
  case neg => rw [if_neg c0, if_neg (by omega)]; rfl
  rw [if_pos c0]
  simp only [Option.bind_some]
  rw [show decide (n - (zSpanS a.2.2.1 : Int) < 0) = false from decide_eq_false (by omega)]
  simp only [cond_false]
  rw [if_pos (by omega)]
  first | rfl | (congr 1; omega)
/- Seats: whether one is right; copies; credit given; added up; given back. -/

/-- A right seat. -/
structure SeatR (s : DSeat) (n : Int) : Prop where
  per : 1 ≤ n ∧ n ≤ 8
  ep : 0 ≤ s.1 ∧ s.1 ≤ 1000
  gr : 0 ≤ s.2.1 ∧ s.2.1 ≤ 60
  good : Good s.2.2.1
theorem seatOk_same (a : DSeat) (n : Int) (h : a.2.2.1.length ≤ 1048576) : ∃ b, F.spec_SeatOk a n = some b ∧ F.impl_SeatOk a n = some b ∧ (b = true → SeatR a n) := by
  obtain ⟨a0, a1, a2, a3, a4, u⟩ := a
  obtain ⟨z, z1, z2⟩ := size_same a2 h
  unfold F.spec_SeatOk F.impl_SeatOk
  rcases below_same a2 a1 h with ⟨b1, b2, hg⟩ | ⟨b1, b2⟩
  all_goals simp only [l1In_eq, within_eq, z1, z2, b1, b2, Option.bind_some]
  all_goals cases h1 : inR 1 8 n with
    | false => exact ⟨_, rfl, rfl, fun h => by cases h⟩
    | true => cases h2 : inR 0 1000 a0 with
      | false => exact ⟨_, rfl, rfl, fun h => by cases h⟩
      | true => cases h3 : inR 0 60 a1 with
        | false => exact ⟨_, rfl, rfl, fun h => by cases h⟩
        | true => first
          | exact ⟨_, rfl, rfl, fun h => by cases h⟩
          | (cases inR 0 z a3 with
            | false => exact ⟨_, rfl, rfl, fun h => by cases h⟩
            | true => cases decide (a1 ≤ w64 (a3 + n)) with
              | false => exact ⟨_, rfl, rfl, fun h => by cases h⟩
              | true => exact ⟨_, rfl, rfl, fun _ => ⟨inR_iff.1 h1, inR_iff.1 h2, inR_iff.1 h3, hg⟩⟩)
theorem l5Copy_eq (a : List DSpan) (h : a.length ≤ 1048576) : F.spec_l5Copy a = some a := by
  unfold F.spec_l5Copy
  rw [fits_of (by simp; omega)]; rfl
theorem copySet_eq (a : List DSpan) (h : a.length ≤ 1048576) : F.impl_copySet a = some a := by
  unfold F.impl_copySet
  rw [fits_of (by omega)]; rfl
theorem l9Copy_eq (a : DSeat) (h : a.2.2.1.length ≤ 1048576) : F.spec_l9Copy a = some a := by
  unfold F.spec_l9Copy
  rw [l5Copy_eq _ h]; rfl
theorem copySeat_eq (a : DSeat) (h : a.2.2.1.length ≤ 1048576) : F.impl_copySeat a = some a := by
  unfold F.impl_copySeat
  rw [copySet_eq _ h]; rfl
/- What is copied is as it was. -/

theorem take_snoc {α : Type} {l : List α} {i : Nat} (h : i < l.length) : l.take i ++ [l[i]] = l.take (i + 1) := by
  rw [List.take_add_one, List.getElem?_eq_getElem h]; rfl
theorem zIS_mem {l : List (List Int)} {e : List Int} {n : Nat} (h : zIntSS l ≤ n) (he : e ∈ l) : e.length ≤ n := by
  have := sum_mem (f := zIntS) he
  unfold zIntSS at h
  unfold zIntS at this
  unfold zIntS at h
  omega
theorem copyInts_eq (a : List Int) (h : a.length ≤ 1048576) : F.impl_copyInts a = some a := by
  unfold F.impl_copyInts
  rw [fits_of (by omega)]; rfl
theorem l3Copy_eq (s : DSketch) (h : zSketch s ≤ 1048576) : F.spec_l3Copy s = some s := by
  obtain ⟨a, b, c, d, hi, re, rs, u⟩ := s
  have hz : zIntS hi + zIntS re + zIntSS rs ≤ 1048576 := h
  have h1 : hi.length ≤ 1048576 := by unfold zIntS at hz; omega
  have h2 : re.length ≤ 1048576 := by unfold zIntS at hz; omega
  have h3 : rs.length ≤ 1048576 := by unfold zIntSS at hz; omega
  unfold F.spec_l3Copy
  simp only [List.nil_append, List.length_nil]
  rw [fits_of (by omega), fits_of (by omega)]
  simp only [chk_true]
  have hh := loop_run (step := F.spec_l3Copy.s6) (fun i => ((i : Int), (a, b, c, d, hi, re, rs, u), (0, 0, 0, 0, [], [], [], ()), (a, b, c, d, hi, re, rs.take i, u), ())) rs.length (fun i hi => by
    have he : rs[i].length ≤ 1048576 := zIS_mem (n := 1048576) (by omega) (List.getElem_mem hi)
    unfold F.spec_l3Copy.s6
    simp only [len]
    rw [show decide ((i : Int) < ((rs.length : Nat) : Int)) = true from decide_eq_true (by omega), inb_nat hi, Int.toNat_natCast, w64_nat (by omega), getD_at hi]
    simp only [cond_true, chk_true, List.nil_append, List.length_nil, List.length_take, List.length_cons]
    rw [fits_of (by omega), fits_of (by omega), take_snoc hi]; rfl) (l := .exit (((rs.length : Nat) : Int), (a, b, c, d, hi, re, rs, u), (0, 0, 0, 0, [], [], [], ()), (a, b, c, d, hi, re, rs.take rs.length, u), ())) (by
    unfold F.spec_l3Copy.s6
    simp only [len]
    rw [show decide (((rs.length : Nat) : Int) < ((rs.length : Nat) : Int)) = false from decide_eq_false (by omega)]; rfl) rfl
  refine (congrArg (fun z => afterO z _) hh).trans ?_
  simp only [afterO, List.take_length]
theorem copySketch_eq (s : DSketch) (h : zSketch s ≤ 1048576) : F.impl_copySketch s = some s := by
  obtain ⟨a, b, c, d, hi, re, rs, u⟩ := s
  have hz : zIntS hi + zIntS re + zIntSS rs ≤ 1048576 := h
  have h1 : hi.length ≤ 1048576 := by unfold zIntS at hz; omega
  have h2 : re.length ≤ 1048576 := by unfold zIntS at hz; omega
  have h3 : rs.length ≤ 1048576 := by unfold zIntSS at hz; omega
  unfold F.impl_copySketch
  rw [copyInts_eq _ h1, copyInts_eq _ h2]
  simp only [Option.bind_some]
  have hh := loop_run (step := F.impl_copySketch.s6) (fun i => (rs, len rs, (i : Int), (0, 0, 0, 0, [], [], [], ()), (a, b, c, d, hi, re, rs.take i, u), ())) rs.length (fun i hi => by
    have he : rs[i].length ≤ 1048576 := zIS_mem (n := 1048576) (by omega) (List.getElem_mem hi)
    unfold F.impl_copySketch.s6
    simp only [len]
    rw [show decide ((i : Int) < ((rs.length : Nat) : Int)) = true from decide_eq_true (by omega), inb_nat hi, Int.toNat_natCast, w64_nat (by omega), getD_at hi, copyInts_eq _ he]
    simp only [cond_true, chk_true, Option.bind_some, List.nil_append, List.length_nil, List.length_take, List.length_cons]
    rw [fits_of (by omega), take_snoc hi]; rfl) (l := .exit (rs, len rs, ((rs.length : Nat) : Int), (0, 0, 0, 0, [], [], [], ()), (a, b, c, d, hi, re, rs.take rs.length, u), ())) (by
    unfold F.impl_copySketch.s6
    simp only [len]
    rw [show decide (((rs.length : Nat) : Int) < ((rs.length : Nat) : Int)) = false from decide_eq_false (by omega)]; rfl) rfl
  refine (congrArg (fun z => afterO z _) hh).trans ?_
  simp only [afterO, List.take_length]
theorem l6Item_eq (x : DItem) (h : zItem x ≤ 1048576) : F.spec_l6Item x = some x := by
  unfold F.spec_l6Item
  rw [l3Copy_eq _ h]; rfl
theorem copyItem_eq (x : DItem) (h : zItem x ≤ 1048576) : F.impl_copyItem x = some x := by
  unfold F.impl_copyItem
  rw [copySketch_eq _ h]; rfl
theorem zItS_mem {l : List DItem} {e : DItem} {n : Nat} (h : zItemS l ≤ n) (he : e ∈ l) : zItem e ≤ n := by
  have := sum_mem (f := zItem) he
  unfold zItemS at h
  omega
/- Conf: copied, compared, counted. -/

def zConf (a : DConf) : Nat := zIntS a.2.2.2.1
def fConf (a : DConf) : Prop := fIntS a.2.2.2.1
theorem toConf (a : DConf) (h : zConf a ≤ 1048576) : F.laws_toConf a = some a := by
  unfold F.laws_toConf
  simp only [toIntS a.2.2.2.1 (by unfold zConf at h; omega), Option.bind_some]
theorem eqConf (a : DConf) (h : zConf a ≤ 1099511627776) : F.laws_eqConf a a = some true := by
  unfold F.laws_eqConf
  simp only [bne_self_eq_false, cond_false, Bool.not_true, Option.bind_some, eqIntS a.2.2.2.1 (by unfold zConf at h; omega)]
theorem szConf (a : DConf) (n : Int) (hf : fConf a) (h0 : 0 ≤ n) (h1 : n ≤ 1048576) : F.laws_szConf a n = some (if (zConf a : Int) ≤ n then n - (zConf a : Int) else -1) := by
  have hz : zConf a = zIntS a.2.2.2.1 := rfl
  unfold F.laws_szConf
  unfold fConf at hf
  rw [szIntS a.2.2.2.1 n hf h0 h1]
  by_cases c0 : (zIntS a.2.2.2.1 : Int) ≤ n
  case neg => rw [if_neg c0, if_neg (by omega)]; rfl
  rw [if_pos c0]
  simp only [Option.bind_some]
  rw [show decide (n - (zIntS a.2.2.2.1 : Int) < 0) = false from decide_eq_false (by omega)]
  simp only [cond_false]
  rw [if_pos (by omega)]
  first | rfl | (congr 1; omega)
/- SeatS: copied, compared, counted. -/

def zSeatS (l : List DSeat) : Nat := l.length + (l.map zSeat).sum
def fSeatS (l : List DSeat) : Prop := l.length ≤ maxLen ∧ ∀ x ∈ l, fSeat x
theorem toSeatS (l : List DSeat) (h : zSeatS l ≤ 1048576) : F.laws_toSeatS l = some l := by
  have hl : l.length ≤ 1048576 := by unfold zSeatS at h; omega
  have hel : ∀ x ∈ l, zSeat x ≤ 1048576 := fun x hm => (Nat.le_trans (sum_mem hm) (by unfold zSeatS at h; omega))
  unfold F.laws_toSeatS
  rw [mk_ok (by omega), chk_true, show Int.toNat (len l) = l.length from Int.toNat_natCast _]
  have hh := loop_to (step := F.laws_toSeatS.s3) l (0, 0, ([] : List DSpan), 0, 0, ()) (fun i m hi hm => by
    unfold F.laws_toSeatS.s3
    simp only
    rw [lt_len hi, inb_nat hi, inb_nat hm, Int.toNat_natCast, w64_nat (by omega), getD_at hi]
    simp only [cond_true, chk_true, Option.bind_some, toSeat l[i] (hel l[i] (List.getElem_mem hi))]) (fun m => by
    unfold F.laws_toSeatS.s3
    simp only [ge_len, cond_false])
  simp only [hh, afterO]
theorem eqSeatS (l : List DSeat) (h : zSeatS l ≤ 1099511627776) : F.laws_eqSeatS l l = some true := by
  have hl : l.length ≤ 1099511627776 := by unfold zSeatS at h; omega
  have hel : ∀ x ∈ l, zSeat x ≤ 1099511627776 := fun x hm => (Nat.le_trans (sum_mem hm) (by unfold zSeatS at h; omega))
  unfold F.laws_eqSeatS
  rw [show (len l != len l) = false by simp]
  have hh := loop_eq (step := F.laws_eqSeatS.s4) l (fun i hi => by
    unfold F.laws_eqSeatS.s4
    simp only
    rw [lt_len hi, inb_nat hi, Int.toNat_natCast, w64_nat (by omega), getD_at hi]
    simp only [cond_true, cond_false, chk_true, Option.bind_some, Bool.not_true, eqSeat l[i] (hel l[i] (List.getElem_mem hi))]) (by
    unfold F.laws_eqSeatS.s4
    simp only [ge_len, cond_false])
  simp only [cond_false, hh, afterO]
theorem szSeatS (l : List DSeat) (n : Int) (hf : fSeatS l) (h0 : 0 ≤ n) (h1 : n ≤ 1048576) : F.laws_szSeatS l n = some (if (zSeatS l : Int) ≤ n then n - (zSeatS l : Int) else -1) := by
  obtain ⟨hf', hfe⟩ := hf
  have hf' : l.length ≤ 9223372036854775807 := hf'
  have hz : zSeatS l = l.length + (l.map zSeat).sum := rfl
  unfold F.laws_szSeatS
  rw [show len l = (l.length : Int) from rfl, w64_id (by omega) (by omega), hz]
  by_cases hle : (l.length : Int) ≤ n
  · rw [show decide (n - (l.length : Int) < 0) = false from decide_eq_false (by omega)]
    have hh := loop_sz (step := F.laws_szSeatS.s5) zSeat l (n - (l.length : Int)) (by omega) (fun i k hi hk hkn => by
      unfold F.laws_szSeatS.s5
      simp only
      rw [lt_len hi, inb_nat hi, Int.toNat_natCast, w64_nat (by omega), getD_at hi]
      simp only [cond_true, chk_true, szSeat l[i] k (hfe _ (List.getElem_mem hi)) hk (by omega), Option.bind_some]
      by_cases hx : (zSeat l[i] : Int) ≤ k
      · rw [if_pos hx, if_pos hx, show decide (k - (zSeat l[i] : Int) < 0) = false from decide_eq_false (by omega)]; rfl
      · rw [if_neg hx, if_neg hx]; rfl) (fun k => by
      unfold F.laws_szSeatS.s5
      simp only [ge_len, cond_false])
    simp only [cond_false, hh]
    by_cases hs : (((l.map zSeat).sum : Nat) : Int) ≤ n - (l.length : Int)
    · rw [if_pos hs, if_pos (by omega)]
      simp only [afterO]
      congr 1; omega
    · rw [if_neg hs, if_neg (by omega)]; rfl
  · rw [if_neg (by omega), show decide (n - (l.length : Int) < 0) = true from decide_eq_true (by omega)]; rfl
/- Row: copied, compared, counted. -/

def zRow (a : DRow) : Nat := zEntryS a.1
def fRow (a : DRow) : Prop := fEntryS a.1
theorem toRow (a : DRow) (h : zRow a ≤ 1048576) : F.laws_toRow a = some a := by
  unfold F.laws_toRow
  simp only [toEntryS a.1 (by unfold zRow at h; omega), Option.bind_some]
theorem eqRow (a : DRow) (h : zRow a ≤ 1099511627776) : F.laws_eqRow a a = some true := by
  unfold F.laws_eqRow
  simp only [cond_false, Bool.not_true, Option.bind_some, eqEntryS a.1 (by unfold zRow at h; omega)]
theorem szRow (a : DRow) (n : Int) (hf : fRow a) (h0 : 0 ≤ n) (h1 : n ≤ 1048576) : F.laws_szRow a n = some (if (zRow a : Int) ≤ n then n - (zRow a : Int) else -1) := by
  have hz : zRow a = zEntryS a.1 := rfl
  unfold F.laws_szRow
  unfold fRow at hf
  rw [szEntryS a.1 n hf h0 h1]
  by_cases c0 : (zEntryS a.1 : Int) ≤ n
  case neg => rw [if_neg c0, if_neg (by omega)]; rfl
  rw [if_pos c0]
  simp only [Option.bind_some]
  rw [show decide (n - (zEntryS a.1 : Int) < 0) = false from decide_eq_false (by omega)]
  simp only [cond_false]
  rw [if_pos (by omega)]
  first | rfl | (congr 1; omega)
/- RowS: copied, compared, counted. -/

def zRowS (l : List DRow) : Nat := l.length + (l.map zRow).sum
def fRowS (l : List DRow) : Prop := l.length ≤ maxLen ∧ ∀ x ∈ l, fRow x
theorem toRowS (l : List DRow) (h : zRowS l ≤ 1048576) : F.laws_toRowS l = some l := by
  have hl : l.length ≤ 1048576 := by unfold zRowS at h; omega
  have hel : ∀ x ∈ l, zRow x ≤ 1048576 := fun x hm => (Nat.le_trans (sum_mem hm) (by unfold zRowS at h; omega))
  unfold F.laws_toRowS
  rw [mk_ok (by omega), chk_true, show Int.toNat (len l) = l.length from Int.toNat_natCast _]
  have hh := loop_to (step := F.laws_toRowS.s3) l (([] : List DEntry), ()) (fun i m hi hm => by
    unfold F.laws_toRowS.s3
    simp only
    rw [lt_len hi, inb_nat hi, inb_nat hm, Int.toNat_natCast, w64_nat (by omega), getD_at hi]
    simp only [cond_true, chk_true, Option.bind_some, toRow l[i] (hel l[i] (List.getElem_mem hi))]) (fun m => by
    unfold F.laws_toRowS.s3
    simp only [ge_len, cond_false])
  simp only [hh, afterO]
theorem eqRowS (l : List DRow) (h : zRowS l ≤ 1099511627776) : F.laws_eqRowS l l = some true := by
  have hl : l.length ≤ 1099511627776 := by unfold zRowS at h; omega
  have hel : ∀ x ∈ l, zRow x ≤ 1099511627776 := fun x hm => (Nat.le_trans (sum_mem hm) (by unfold zRowS at h; omega))
  unfold F.laws_eqRowS
  rw [show (len l != len l) = false by simp]
  have hh := loop_eq (step := F.laws_eqRowS.s4) l (fun i hi => by
    unfold F.laws_eqRowS.s4
    simp only
    rw [lt_len hi, inb_nat hi, Int.toNat_natCast, w64_nat (by omega), getD_at hi]
    simp only [cond_true, cond_false, chk_true, Option.bind_some, Bool.not_true, eqRow l[i] (hel l[i] (List.getElem_mem hi))]) (by
    unfold F.laws_eqRowS.s4
    simp only [ge_len, cond_false])
  simp only [cond_false, hh, afterO]
theorem szRowS (l : List DRow) (n : Int) (hf : fRowS l) (h0 : 0 ≤ n) (h1 : n ≤ 1048576) : F.laws_szRowS l n = some (if (zRowS l : Int) ≤ n then n - (zRowS l : Int) else -1) := by
  obtain ⟨hf', hfe⟩ := hf
  have hf' : l.length ≤ 9223372036854775807 := hf'
  have hz : zRowS l = l.length + (l.map zRow).sum := rfl
  unfold F.laws_szRowS
  rw [show len l = (l.length : Int) from rfl, w64_id (by omega) (by omega), hz]
  by_cases hle : (l.length : Int) ≤ n
  · rw [show decide (n - (l.length : Int) < 0) = false from decide_eq_false (by omega)]
    have hh := loop_sz (step := F.laws_szRowS.s5) zRow l (n - (l.length : Int)) (by omega) (fun i k hi hk hkn => by
      unfold F.laws_szRowS.s5
      simp only
      rw [lt_len hi, inb_nat hi, Int.toNat_natCast, w64_nat (by omega), getD_at hi]
      simp only [cond_true, chk_true, szRow l[i] k (hfe _ (List.getElem_mem hi)) hk (by omega), Option.bind_some]
      by_cases hx : (zRow l[i] : Int) ≤ k
      · rw [if_pos hx, if_pos hx, show decide (k - (zRow l[i] : Int) < 0) = false from decide_eq_false (by omega)]; rfl
      · rw [if_neg hx, if_neg hx]; rfl) (fun k => by
      unfold F.laws_szRowS.s5
      simp only [ge_len, cond_false])
    simp only [cond_false, hh]
    by_cases hs : (((l.map zRow).sum : Nat) : Int) ≤ n - (l.length : Int)
    · rw [if_pos hs, if_pos (by omega)]
      simp only [afterO]
      congr 1; omega
    · rw [if_neg hs, if_neg (by omega)]; rfl
  · rw [if_neg (by omega), show decide (n - (l.length : Int) < 0) = true from decide_eq_true (by omega)]; rfl
/- RowSS: copied, compared, counted. -/

def zRowSS (l : List (List DRow)) : Nat := l.length + (l.map zRowS).sum
def fRowSS (l : List (List DRow)) : Prop := l.length ≤ maxLen ∧ ∀ x ∈ l, fRowS x
theorem toRowSS (l : List (List DRow)) (h : zRowSS l ≤ 1048576) : F.laws_toRowSS l = some l := by
  have hl : l.length ≤ 1048576 := by unfold zRowSS at h; omega
  have hel : ∀ x ∈ l, zRowS x ≤ 1048576 := fun x hm => (Nat.le_trans (sum_mem hm) (by unfold zRowSS at h; omega))
  unfold F.laws_toRowSS
  rw [mk_ok (by omega), chk_true, show Int.toNat (len l) = l.length from Int.toNat_natCast _]
  have hh := loop_to (step := F.laws_toRowSS.s3) l ([] : List DRow) (fun i m hi hm => by
    unfold F.laws_toRowSS.s3
    simp only
    rw [lt_len hi, inb_nat hi, inb_nat hm, Int.toNat_natCast, w64_nat (by omega), getD_at hi]
    simp only [cond_true, chk_true, Option.bind_some, toRowS l[i] (hel l[i] (List.getElem_mem hi))]) (fun m => by
    unfold F.laws_toRowSS.s3
    simp only [ge_len, cond_false])
  simp only [hh, afterO]
theorem eqRowSS (l : List (List DRow)) (h : zRowSS l ≤ 1099511627776) : F.laws_eqRowSS l l = some true := by
  have hl : l.length ≤ 1099511627776 := by unfold zRowSS at h; omega
  have hel : ∀ x ∈ l, zRowS x ≤ 1099511627776 := fun x hm => (Nat.le_trans (sum_mem hm) (by unfold zRowSS at h; omega))
  unfold F.laws_eqRowSS
  rw [show (len l != len l) = false by simp]
  have hh := loop_eq (step := F.laws_eqRowSS.s4) l (fun i hi => by
    unfold F.laws_eqRowSS.s4
    simp only
    rw [lt_len hi, inb_nat hi, Int.toNat_natCast, w64_nat (by omega), getD_at hi]
    simp only [cond_true, cond_false, chk_true, Option.bind_some, Bool.not_true, eqRowS l[i] (hel l[i] (List.getElem_mem hi))]) (by
    unfold F.laws_eqRowSS.s4
    simp only [ge_len, cond_false])
  simp only [cond_false, hh, afterO]
theorem szRowSS (l : List (List DRow)) (n : Int) (hf : fRowSS l) (h0 : 0 ≤ n) (h1 : n ≤ 1048576) : F.laws_szRowSS l n = some (if (zRowSS l : Int) ≤ n then n - (zRowSS l : Int) else -1) := by
  obtain ⟨hf', hfe⟩ := hf
  have hf' : l.length ≤ 9223372036854775807 := hf'
  have hz : zRowSS l = l.length + (l.map zRowS).sum := rfl
  unfold F.laws_szRowSS
  rw [show len l = (l.length : Int) from rfl, w64_id (by omega) (by omega), hz]
  by_cases hle : (l.length : Int) ≤ n
  · rw [show decide (n - (l.length : Int) < 0) = false from decide_eq_false (by omega)]
    have hh := loop_sz (step := F.laws_szRowSS.s5) zRowS l (n - (l.length : Int)) (by omega) (fun i k hi hk hkn => by
      unfold F.laws_szRowSS.s5
      simp only
      rw [lt_len hi, inb_nat hi, Int.toNat_natCast, w64_nat (by omega), getD_at hi]
      simp only [cond_true, chk_true, szRowS l[i] k (hfe _ (List.getElem_mem hi)) hk (by omega), Option.bind_some]
      by_cases hx : (zRowS l[i] : Int) ≤ k
      · rw [if_pos hx, if_pos hx, show decide (k - (zRowS l[i] : Int) < 0) = false from decide_eq_false (by omega)]; rfl
      · rw [if_neg hx, if_neg hx]; rfl) (fun k => by
      unfold F.laws_szRowSS.s5
      simp only [ge_len, cond_false])
    simp only [cond_false, hh]
    by_cases hs : (((l.map zRowS).sum : Nat) : Int) ≤ n - (l.length : Int)
    · rw [if_pos hs, if_pos (by omega)]
      simp only [afterO]
      congr 1; omega
    · rw [if_neg hs, if_neg (by omega)]; rfl
  · rw [if_neg (by omega), show decide (n - (l.length : Int) < 0) = true from decide_eq_true (by omega)]; rfl
/- Turn: copied, compared, counted. -/

def zTurn (a : DTurn) : Nat := zIntS a.2.2.1
def fTurn (a : DTurn) : Prop := fIntS a.2.2.1
theorem toTurn (a : DTurn) (h : zTurn a ≤ 1048576) : F.laws_toTurn a = some a := by
  unfold F.laws_toTurn
  simp only [toIntS a.2.2.1 (by unfold zTurn at h; omega), Option.bind_some]
theorem eqTurn (a : DTurn) (h : zTurn a ≤ 1099511627776) : F.laws_eqTurn a a = some true := by
  unfold F.laws_eqTurn
  simp only [bne_self_eq_false, beq_self_eq_true, cond_false, Bool.not_true, Option.bind_some, eqIntS a.2.2.1 (by unfold zTurn at h; omega)]
theorem szTurn (a : DTurn) (n : Int) (hf : fTurn a) (h0 : 0 ≤ n) (h1 : n ≤ 1048576) : F.laws_szTurn a n = some (if (zTurn a : Int) ≤ n then n - (zTurn a : Int) else -1) := by
  have hz : zTurn a = zIntS a.2.2.1 := rfl
  unfold F.laws_szTurn
  unfold fTurn at hf
  rw [szIntS a.2.2.1 n hf h0 h1]
  by_cases c0 : (zIntS a.2.2.1 : Int) ≤ n
  case neg => rw [if_neg c0, if_neg (by omega)]; rfl
  rw [if_pos c0]
  simp only [Option.bind_some]
  rw [show decide (n - (zIntS a.2.2.1 : Int) < 0) = false from decide_eq_false (by omega)]
  simp only [cond_false]
  rw [if_pos (by omega)]
  first | rfl | (congr 1; omega)
/- TurnS: copied, compared, counted. -/

def zTurnS (l : List DTurn) : Nat := l.length + (l.map zTurn).sum
def fTurnS (l : List DTurn) : Prop := l.length ≤ maxLen ∧ ∀ x ∈ l, fTurn x
theorem toTurnS (l : List DTurn) (h : zTurnS l ≤ 1048576) : F.laws_toTurnS l = some l := by
  have hl : l.length ≤ 1048576 := by unfold zTurnS at h; omega
  have hel : ∀ x ∈ l, zTurn x ≤ 1048576 := fun x hm => (Nat.le_trans (sum_mem hm) (by unfold zTurnS at h; omega))
  unfold F.laws_toTurnS
  rw [mk_ok (by omega), chk_true, show Int.toNat (len l) = l.length from Int.toNat_natCast _]
  have hh := loop_to (step := F.laws_toTurnS.s3) l (0, false, ([] : List Int), ()) (fun i m hi hm => by
    unfold F.laws_toTurnS.s3
    simp only
    rw [lt_len hi, inb_nat hi, inb_nat hm, Int.toNat_natCast, w64_nat (by omega), getD_at hi]
    simp only [cond_true, chk_true, Option.bind_some, toTurn l[i] (hel l[i] (List.getElem_mem hi))]) (fun m => by
    unfold F.laws_toTurnS.s3
    simp only [ge_len, cond_false])
  simp only [hh, afterO]
theorem eqTurnS (l : List DTurn) (h : zTurnS l ≤ 1099511627776) : F.laws_eqTurnS l l = some true := by
  have hl : l.length ≤ 1099511627776 := by unfold zTurnS at h; omega
  have hel : ∀ x ∈ l, zTurn x ≤ 1099511627776 := fun x hm => (Nat.le_trans (sum_mem hm) (by unfold zTurnS at h; omega))
  unfold F.laws_eqTurnS
  rw [show (len l != len l) = false by simp]
  have hh := loop_eq (step := F.laws_eqTurnS.s4) l (fun i hi => by
    unfold F.laws_eqTurnS.s4
    simp only
    rw [lt_len hi, inb_nat hi, Int.toNat_natCast, w64_nat (by omega), getD_at hi]
    simp only [cond_true, cond_false, chk_true, Option.bind_some, Bool.not_true, eqTurn l[i] (hel l[i] (List.getElem_mem hi))]) (by
    unfold F.laws_eqTurnS.s4
    simp only [ge_len, cond_false])
  simp only [cond_false, hh, afterO]
theorem szTurnS (l : List DTurn) (n : Int) (hf : fTurnS l) (h0 : 0 ≤ n) (h1 : n ≤ 1048576) : F.laws_szTurnS l n = some (if (zTurnS l : Int) ≤ n then n - (zTurnS l : Int) else -1) := by
  obtain ⟨hf', hfe⟩ := hf
  have hf' : l.length ≤ 9223372036854775807 := hf'
  have hz : zTurnS l = l.length + (l.map zTurn).sum := rfl
  unfold F.laws_szTurnS
  rw [show len l = (l.length : Int) from rfl, w64_id (by omega) (by omega), hz]
  by_cases hle : (l.length : Int) ≤ n
  · rw [show decide (n - (l.length : Int) < 0) = false from decide_eq_false (by omega)]
    have hh := loop_sz (step := F.laws_szTurnS.s5) zTurn l (n - (l.length : Int)) (by omega) (fun i k hi hk hkn => by
      unfold F.laws_szTurnS.s5
      simp only
      rw [lt_len hi, inb_nat hi, Int.toNat_natCast, w64_nat (by omega), getD_at hi]
      simp only [cond_true, chk_true, szTurn l[i] k (hfe _ (List.getElem_mem hi)) hk (by omega), Option.bind_some]
      by_cases hx : (zTurn l[i] : Int) ≤ k
      · rw [if_pos hx, if_pos hx, show decide (k - (zTurn l[i] : Int) < 0) = false from decide_eq_false (by omega)]; rfl
      · rw [if_neg hx, if_neg hx]; rfl) (fun k => by
      unfold F.laws_szTurnS.s5
      simp only [ge_len, cond_false])
    simp only [cond_false, hh]
    by_cases hs : (((l.map zTurn).sum : Nat) : Int) ≤ n - (l.length : Int)
    · rw [if_pos hs, if_pos (by omega)]
      simp only [afterO]
      congr 1; omega
    · rw [if_neg hs, if_neg (by omega)]; rfl
  · rw [if_neg (by omega), show decide (n - (l.length : Int) < 0) = true from decide_eq_true (by omega)]; rfl
/- Out: copied, compared, counted. -/

def zOut (a : DOut) : Nat := zEntry a.2.1
def fOut (a : DOut) : Prop := fEntry a.2.1
theorem toOut (a : DOut) (h : zOut a ≤ 1048576) : F.laws_toOut a = some a := by
  unfold F.laws_toOut
  simp only [toEntry a.2.1 (by unfold zOut at h; omega), Option.bind_some]
theorem eqOut (a : DOut) (h : zOut a ≤ 1099511627776) : F.laws_eqOut a a = some true := by
  unfold F.laws_eqOut
  simp only [bne_self_eq_false, cond_false, Bool.not_true, Option.bind_some, eqEntry a.2.1 (by unfold zOut at h; omega)]
theorem szOut (a : DOut) (n : Int) (hf : fOut a) (h0 : 0 ≤ n) (h1 : n ≤ 1048576) : F.laws_szOut a n = some (if (zOut a : Int) ≤ n then n - (zOut a : Int) else -1) := by
  have hz : zOut a = zEntry a.2.1 := rfl
  unfold F.laws_szOut
  unfold fOut at hf
  rw [szEntry a.2.1 n hf h0 h1]
  by_cases c0 : (zEntry a.2.1 : Int) ≤ n
  case neg => rw [if_neg c0, if_neg (by omega)]; rfl
  rw [if_pos c0]
  simp only [Option.bind_some]
  rw [show decide (n - (zEntry a.2.1 : Int) < 0) = false from decide_eq_false (by omega)]
  simp only [cond_false]
  rw [if_pos (by omega)]
  first | rfl | (congr 1; omega)
/- OutS: copied, compared, counted. -/

def zOutS (l : List DOut) : Nat := l.length + (l.map zOut).sum
def fOutS (l : List DOut) : Prop := l.length ≤ maxLen ∧ ∀ x ∈ l, fOut x
theorem toOutS (l : List DOut) (h : zOutS l ≤ 1048576) : F.laws_toOutS l = some l := by
  have hl : l.length ≤ 1048576 := by unfold zOutS at h; omega
  have hel : ∀ x ∈ l, zOut x ≤ 1048576 := fun x hm => (Nat.le_trans (sum_mem hm) (by unfold zOutS at h; omega))
  unfold F.laws_toOutS
  rw [mk_ok (by omega), chk_true, show Int.toNat (len l) = l.length from Int.toNat_natCast _]
  have hh := loop_to (step := F.laws_toOutS.s3) l (0, (0, 0, ([] : List DSpan), (0, 0, 0, 0, ([] : List Int), ([] : List Int), ([] : List (List Int)), ()), ()), ()) (fun i m hi hm => by
    unfold F.laws_toOutS.s3
    simp only
    rw [lt_len hi, inb_nat hi, inb_nat hm, Int.toNat_natCast, w64_nat (by omega), getD_at hi]
    simp only [cond_true, chk_true, Option.bind_some, toOut l[i] (hel l[i] (List.getElem_mem hi))]) (fun m => by
    unfold F.laws_toOutS.s3
    simp only [ge_len, cond_false])
  simp only [hh, afterO]
theorem eqOutS (l : List DOut) (h : zOutS l ≤ 1099511627776) : F.laws_eqOutS l l = some true := by
  have hl : l.length ≤ 1099511627776 := by unfold zOutS at h; omega
  have hel : ∀ x ∈ l, zOut x ≤ 1099511627776 := fun x hm => (Nat.le_trans (sum_mem hm) (by unfold zOutS at h; omega))
  unfold F.laws_eqOutS
  rw [show (len l != len l) = false by simp]
  have hh := loop_eq (step := F.laws_eqOutS.s4) l (fun i hi => by
    unfold F.laws_eqOutS.s4
    simp only
    rw [lt_len hi, inb_nat hi, Int.toNat_natCast, w64_nat (by omega), getD_at hi]
    simp only [cond_true, cond_false, chk_true, Option.bind_some, Bool.not_true, eqOut l[i] (hel l[i] (List.getElem_mem hi))]) (by
    unfold F.laws_eqOutS.s4
    simp only [ge_len, cond_false])
  simp only [cond_false, hh, afterO]
theorem szOutS (l : List DOut) (n : Int) (hf : fOutS l) (h0 : 0 ≤ n) (h1 : n ≤ 1048576) : F.laws_szOutS l n = some (if (zOutS l : Int) ≤ n then n - (zOutS l : Int) else -1) := by
  obtain ⟨hf', hfe⟩ := hf
  have hf' : l.length ≤ 9223372036854775807 := hf'
  have hz : zOutS l = l.length + (l.map zOut).sum := rfl
  unfold F.laws_szOutS
  rw [show len l = (l.length : Int) from rfl, w64_id (by omega) (by omega), hz]
  by_cases hle : (l.length : Int) ≤ n
  · rw [show decide (n - (l.length : Int) < 0) = false from decide_eq_false (by omega)]
    have hh := loop_sz (step := F.laws_szOutS.s5) zOut l (n - (l.length : Int)) (by omega) (fun i k hi hk hkn => by
      unfold F.laws_szOutS.s5
      simp only
      rw [lt_len hi, inb_nat hi, Int.toNat_natCast, w64_nat (by omega), getD_at hi]
      simp only [cond_true, chk_true, szOut l[i] k (hfe _ (List.getElem_mem hi)) hk (by omega), Option.bind_some]
      by_cases hx : (zOut l[i] : Int) ≤ k
      · rw [if_pos hx, if_pos hx, show decide (k - (zOut l[i] : Int) < 0) = false from decide_eq_false (by omega)]; rfl
      · rw [if_neg hx, if_neg hx]; rfl) (fun k => by
      unfold F.laws_szOutS.s5
      simp only [ge_len, cond_false])
    simp only [cond_false, hh]
    by_cases hs : (((l.map zOut).sum : Nat) : Int) ≤ n - (l.length : Int)
    · rw [if_pos hs, if_pos (by omega)]
      simp only [afterO]
      congr 1; omega
    · rw [if_neg hs, if_neg (by omega)]; rfl
  · rw [if_neg (by omega), show decide (n - (l.length : Int) < 0) = true from decide_eq_true (by omega)]; rfl
/- House: copied, compared, counted. -/

def zHouse (a : DHouse) : Nat := zConf a.1 + zSeatS a.2.2.2.1 + zRowSS a.2.2.2.2.1 + zTurnS a.2.2.2.2.2.1 + zEntryS a.2.2.2.2.2.2.2.1 + zOutS a.2.2.2.2.2.2.2.2.1
def fHouse (a : DHouse) : Prop := fConf a.1 ∧ fSeatS a.2.2.2.1 ∧ fRowSS a.2.2.2.2.1 ∧ fTurnS a.2.2.2.2.2.1 ∧ fEntryS a.2.2.2.2.2.2.2.1 ∧ fOutS a.2.2.2.2.2.2.2.2.1
theorem toHouse (a : DHouse) (h : zHouse a ≤ 1048576) : F.laws_toHouse a = some a := by
  unfold F.laws_toHouse
  simp only [toConf a.1 (by unfold zHouse at h; omega), toSeatS a.2.2.2.1 (by unfold zHouse at h; omega), toRowSS a.2.2.2.2.1 (by unfold zHouse at h; omega), toTurnS a.2.2.2.2.2.1 (by unfold zHouse at h; omega), toEntryS a.2.2.2.2.2.2.2.1 (by unfold zHouse at h; omega), toOutS a.2.2.2.2.2.2.2.2.1 (by unfold zHouse at h; omega), Option.bind_some]
theorem eqHouse (a : DHouse) (h : zHouse a ≤ 1099511627776) : F.laws_eqHouse a a = some true := by
  unfold F.laws_eqHouse
  simp only [bne_self_eq_false, beq_self_eq_true, cond_false, Bool.not_true, Option.bind_some, eqConf a.1 (by unfold zHouse at h; omega), eqSeatS a.2.2.2.1 (by unfold zHouse at h; omega), eqRowSS a.2.2.2.2.1 (by unfold zHouse at h; omega), eqTurnS a.2.2.2.2.2.1 (by unfold zHouse at h; omega), eqEntryS a.2.2.2.2.2.2.2.1 (by unfold zHouse at h; omega), eqOutS a.2.2.2.2.2.2.2.2.1 (by unfold zHouse at h; omega)]
theorem szHouse (a : DHouse) (n : Int) (hf : fHouse a) (h0 : 0 ≤ n) (h1 : n ≤ 1048576) : F.laws_szHouse a n = some (if (zHouse a : Int) ≤ n then n - (zHouse a : Int) else -1) := by
  have hz : zHouse a = zConf a.1 + zSeatS a.2.2.2.1 + zRowSS a.2.2.2.2.1 + zTurnS a.2.2.2.2.2.1 + zEntryS a.2.2.2.2.2.2.2.1 + zOutS a.2.2.2.2.2.2.2.2.1 := rfl
  unfold F.laws_szHouse
  unfold fHouse at hf
  rw [szConf a.1 n hf.1 h0 h1]
  by_cases c0 : (zConf a.1 : Int) ≤ n
  case neg => rw [if_neg c0, if_neg (by omega)]; rfl
  rw [if_pos c0]
  simp only [Option.bind_some]
  rw [show decide (n - (zConf a.1 : Int) < 0) = false from decide_eq_false (by omega)]
  simp only [cond_false]
  rw [szSeatS a.2.2.2.1 (n - (zConf a.1 : Int)) hf.2.1 (by omega) (by omega)]
  by_cases c1 : (zSeatS a.2.2.2.1 : Int) ≤ n - (zConf a.1 : Int)
  case neg => rw [if_neg c1, if_neg (by omega)]; rfl
  rw [if_pos c1]
  simp only [Option.bind_some]
  rw [show decide (n - (zConf a.1 : Int) - (zSeatS a.2.2.2.1 : Int) < 0) = false from decide_eq_false (by omega)]
  simp only [cond_false]
  rw [szRowSS a.2.2.2.2.1 (n - (zConf a.1 : Int) - (zSeatS a.2.2.2.1 : Int)) hf.2.2.1 (by omega) (by omega)]
  by_cases c2 : (zRowSS a.2.2.2.2.1 : Int) ≤ n - (zConf a.1 : Int) - (zSeatS a.2.2.2.1 : Int)
  case neg => rw [if_neg c2, if_neg (by omega)]; rfl
  rw [if_pos c2]
  simp only [Option.bind_some]
  rw [show decide (n - (zConf a.1 : Int) - (zSeatS a.2.2.2.1 : Int) - (zRowSS a.2.2.2.2.1 : Int) < 0) = false from decide_eq_false (by omega)]
  simp only [cond_false]
  rw [szTurnS a.2.2.2.2.2.1 (n - (zConf a.1 : Int) - (zSeatS a.2.2.2.1 : Int) - (zRowSS a.2.2.2.2.1 : Int)) hf.2.2.2.1 (by omega) (by omega)]
  by_cases c3 : (zTurnS a.2.2.2.2.2.1 : Int) ≤ n - (zConf a.1 : Int) - (zSeatS a.2.2.2.1 : Int) - (zRowSS a.2.2.2.2.1 : Int)
  case neg => rw [if_neg c3, if_neg (by omega)]; rfl
  rw [if_pos c3]
  simp only [Option.bind_some]
  rw [show decide (n - (zConf a.1 : Int) - (zSeatS a.2.2.2.1 : Int) - (zRowSS a.2.2.2.2.1 : Int) - (zTurnS a.2.2.2.2.2.1 : Int) < 0) = false from decide_eq_false (by omega)]
  simp only [cond_false]
  rw [szEntryS a.2.2.2.2.2.2.2.1 (n - (zConf a.1 : Int) - (zSeatS a.2.2.2.1 : Int) - (zRowSS a.2.2.2.2.1 : Int) - (zTurnS a.2.2.2.2.2.1 : Int)) hf.2.2.2.2.1 (by omega) (by omega)]
  by_cases c4 : (zEntryS a.2.2.2.2.2.2.2.1 : Int) ≤ n - (zConf a.1 : Int) - (zSeatS a.2.2.2.1 : Int) - (zRowSS a.2.2.2.2.1 : Int) - (zTurnS a.2.2.2.2.2.1 : Int)
  case neg => rw [if_neg c4, if_neg (by omega)]; rfl
  rw [if_pos c4]
  simp only [Option.bind_some]
  rw [show decide (n - (zConf a.1 : Int) - (zSeatS a.2.2.2.1 : Int) - (zRowSS a.2.2.2.2.1 : Int) - (zTurnS a.2.2.2.2.2.1 : Int) - (zEntryS a.2.2.2.2.2.2.2.1 : Int) < 0) = false from decide_eq_false (by omega)]
  simp only [cond_false]
  rw [szOutS a.2.2.2.2.2.2.2.2.1 (n - (zConf a.1 : Int) - (zSeatS a.2.2.2.1 : Int) - (zRowSS a.2.2.2.2.1 : Int) - (zTurnS a.2.2.2.2.2.1 : Int) - (zEntryS a.2.2.2.2.2.2.2.1 : Int)) hf.2.2.2.2.2 (by omega) (by omega)]
  by_cases c5 : (zOutS a.2.2.2.2.2.2.2.2.1 : Int) ≤ n - (zConf a.1 : Int) - (zSeatS a.2.2.2.1 : Int) - (zRowSS a.2.2.2.2.1 : Int) - (zTurnS a.2.2.2.2.2.1 : Int) - (zEntryS a.2.2.2.2.2.2.2.1 : Int)
  case neg => rw [if_neg c5, if_neg (by omega)]; rfl
  rw [if_pos c5]
  simp only [Option.bind_some]
  rw [show decide (n - (zConf a.1 : Int) - (zSeatS a.2.2.2.1 : Int) - (zRowSS a.2.2.2.2.1 : Int) - (zTurnS a.2.2.2.2.2.1 : Int) - (zEntryS a.2.2.2.2.2.2.2.1 : Int) - (zOutS a.2.2.2.2.2.2.2.2.1 : Int) < 0) = false from decide_eq_false (by omega)]
  simp only [cond_false]
  rw [if_pos (by omega)]
  first | rfl | (congr 1; omega)
/- How many items lie in the rows. -/

/-- How many entries rows have. -/
def cntR (l : List DRow) : Nat := (l.map fun x => x.1.length).sum
def cntRR (l : List (List DRow)) : Nat := (l.map cntR).sum
theorem cntR_le (l : List DRow) : cntR l ≤ zRowS l := by
  unfold cntR zRowS
  induction l with
  | nil => simp
  | cons x l ih =>
    have : x.1.length ≤ zRow x := by unfold zRow zEntryS; omega
    simp only [List.map_cons, List.sum_cons, List.length_cons] at *
    omega
theorem cntRR_le (l : List (List DRow)) : cntRR l ≤ zRowSS l := by
  unfold cntRR zRowSS
  induction l with
  | nil => simp
  | cons x l ih =>
    have := cntR_le x
    simp only [List.map_cons, List.sum_cons, List.length_cons] at *
    omega
theorem sum_take_le (l : List Nat) (i : Nat) : (l.take i).sum ≤ l.sum := by
  conv => rhs; rw [← List.take_append_drop i l, List.sum_append]
  omega
theorem cntR_take {l : List DRow} {i : Nat} (h : i < l.length) : cntR (l.take (i + 1)) = cntR (l.take i) + l[i].1.length := by
  unfold cntR
  rw [← take_snoc h, List.map_append, List.sum_append]; simp only [List.map_cons, List.map_nil, List.sum_cons, List.sum_nil, Nat.add_zero]
theorem cntRR_take {l : List (List DRow)} {i : Nat} (h : i < l.length) : cntRR (l.take (i + 1)) = cntRR (l.take i) + cntR l[i] := by
  unfold cntRR
  rw [← take_snoc h, List.map_append, List.sum_append]; simp only [List.map_cons, List.map_nil, List.sum_cons, List.sum_nil, Nat.add_zero]
theorem cntR_take_le (l : List DRow) (i : Nat) : cntR (l.take i) ≤ cntR l := by
  unfold cntR; rw [List.map_take]; exact sum_take_le ..
theorem cntRR_take_le (l : List (List DRow)) (i : Nat) : cntRR (l.take i) ≤ cntRR l := by
  unfold cntRR; rw [List.map_take]; exact sum_take_le ..
theorem specItems_in (a : DHouse) (c : Nat) (k : Nat) (hk : k < a.2.2.2.2.1.length) (hl : a.2.2.2.2.1[k].length ≤ 1048576) (hc : c + cntR a.2.2.2.2.1[k] ≤ 1048576) :
    ∃ y, loopO F.spec_Items.s6 ((c : Int), (k : Int), 0, a, ()) = some (.inl (((c + cntR a.2.2.2.2.1[k] : Nat) : Int), (k : Int), y, a, ())) := by
  have hh := loop_run (step := F.spec_Items.s6) (fun i => (((c + cntR (a.2.2.2.2.1[k].take i) : Nat) : Int), (k : Int), (i : Int), a, ())) a.2.2.2.2.1[k].length (fun i hi => by
    have ht := cntR_take_le a.2.2.2.2.1[k] (i + 1)
    have he := cntR_take hi
    unfold F.spec_Items.s6
    simp only
    rw [inb_nat hk, Int.toNat_natCast, getD_at hk, show decide ((i : Int) < len a.2.2.2.2.1[k]) = true from decide_eq_true (by simp only [len]; omega), inb_nat hi, Int.toNat_natCast, getD_at hi, w64_nat (by omega)]
    simp only [chk_true, cond_true, len]
    rw [w64_id (by omega) (by omega), he]
    congr 4
    omega) (l := .exit (((c + cntR (a.2.2.2.2.1[k].take a.2.2.2.2.1[k].length) : Nat) : Int), (k : Int), ((a.2.2.2.2.1[k].length : Nat) : Int), a, ())) (by
    unfold F.spec_Items.s6
    simp only
    rw [inb_nat hk, Int.toNat_natCast, getD_at hk, show decide (((a.2.2.2.2.1[k].length : Nat) : Int) < len a.2.2.2.2.1[k]) = false from decide_eq_false (by simp only [len]; omega)]; rfl) rfl
  rw [List.take_length] at hh
  exact ⟨_, hh⟩
theorem specItems_eq (a : DHouse) (h : zRowSS a.2.2.2.2.1 ≤ 1048576) : F.spec_Items a = some ((cntRR a.2.2.2.2.1 : Nat) : Int) := by
  have hm : ∀ k (hk : k < a.2.2.2.2.1.length), a.2.2.2.2.1[k].length ≤ 1048576 := fun k hk => by
    have := sum_mem (f := zRowS) (List.getElem_mem hk)
    unfold zRowSS at h
    have : a.2.2.2.2.1[k].length ≤ zRowS a.2.2.2.2.1[k] := by unfold zRowS; omega
    omega
  have hn : a.2.2.2.2.1.length ≤ 1048576 := by unfold zRowSS at h; omega
  have hc := cntRR_le a.2.2.2.2.1
  unfold F.spec_Items
  have hh := loop_run (step := F.spec_Items.s3) (fun i => (((cntRR (a.2.2.2.2.1.take i) : Nat) : Int), (i : Int), a, ())) a.2.2.2.2.1.length (fun i hi => by
    have ht := cntRR_take_le a.2.2.2.2.1 (i + 1)
    have he := cntRR_take hi
    obtain ⟨y, hy⟩ := specItems_in a (cntRR (a.2.2.2.2.1.take i)) i hi (hm i hi) (by omega)
    unfold F.spec_Items.s3
    simp only
    rw [show decide ((i : Int) < len a.2.2.2.2.1) = true from decide_eq_true (by simp only [len]; omega), hy]
    simp only [cond_true, afterO]
    rw [w64_nat (by omega), he]) (l := .exit (((cntRR (a.2.2.2.2.1.take a.2.2.2.2.1.length) : Nat) : Int), ((a.2.2.2.2.1.length : Nat) : Int), a, ())) (by
    unfold F.spec_Items.s3
    simp only
    rw [show decide (((a.2.2.2.2.1.length : Nat) : Int) < len a.2.2.2.2.1) = false from decide_eq_false (by simp only [len]; omega)]; rfl) rfl
  rw [List.take_length] at hh
  refine (congrArg (fun z => afterO z _) hh).trans ?_
  rfl
/-- All entries of rows. -/
def entR (l : List DRow) : List DEntry := l.flatMap fun x => x.1
def entRR (l : List (List DRow)) : List DEntry := l.flatMap entR
theorem entR_take {l : List DRow} {i : Nat} (h : i < l.length) : entR (l.take (i + 1)) = entR (l.take i) ++ l[i].1 := by
  unfold entR
  rw [← take_snoc h, List.flatMap_append]; simp only [List.flatMap_cons, List.flatMap_nil, List.append_nil]
theorem entRR_take {l : List (List DRow)} {i : Nat} (h : i < l.length) : entRR (l.take (i + 1)) = entRR (l.take i) ++ entR l[i] := by
  unfold entRR
  rw [← take_snoc h, List.flatMap_append]; simp only [List.flatMap_cons, List.flatMap_nil, List.append_nil]
theorem entR_len (l : List DRow) : (entR l).length = cntR l := by
  unfold entR cntR
  rw [List.length_flatMap]
theorem entRR_len (l : List (List DRow)) : (entRR l).length = cntRR l := by
  unfold entRR cntRR
  rw [List.length_flatMap]
  congr 1
  exact List.map_congr_left fun x _ => entR_len x
theorem rowEntries_in (c : List DEntry) (x y z : _) (l : List DRow) (hl : l.length ≤ 1048576) (hc : c.length + cntR l ≤ 1048576) :
    ∃ e1 e2 e3, loopO F.impl_rowEntries.s6 (c, x, y, z, l, len l, 0, ()) = some (.inl (c ++ entR l, x, y, z, e1, e2, e3, ())) := by
  have hh := loop_run (step := F.impl_rowEntries.s6) (fun i => (c ++ entR (l.take i), x, y, z, l, len l, (i : Int), ())) l.length (fun i hi => by
    have ht := cntR_take_le l (i + 1)
    have he := cntR_take hi
    have hg := entR_len (l.take i)
    unfold F.impl_rowEntries.s6
    simp only
    rw [show decide ((i : Int) < len l) = true from decide_eq_true (by simp only [len]; omega), inb_nat hi, Int.toNat_natCast, getD_at hi, w64_nat (by omega)]
    simp only [chk_true, cond_true]
    rw [fits_of (by rw [List.length_append]; omega), entR_take hi, List.append_assoc]; rfl) (l := .exit (c ++ entR (l.take l.length), x, y, z, l, len l, ((l.length : Nat) : Int), ())) (by
    unfold F.impl_rowEntries.s6
    simp only
    rw [show decide (((l.length : Nat) : Int) < len l) = false from decide_eq_false (by simp only [len]; omega)]; rfl) rfl
  rw [List.take_length] at hh
  have e0 : c ++ entR (l.take 0) = c := by simp [entR]
  rw [e0] at hh
  exact ⟨_, _, _, hh⟩
theorem rowEntries_eq (a : DHouse) (h : zRowSS a.2.2.2.2.1 ≤ 1048576) : F.impl_rowEntries a = some (entRR a.2.2.2.2.1) := by
  have hm : ∀ k (hk : k < a.2.2.2.2.1.length), a.2.2.2.2.1[k].length ≤ 1048576 := fun k hk => by
    have := sum_mem (f := zRowS) (List.getElem_mem hk)
    unfold zRowSS at h
    have : a.2.2.2.2.1[k].length ≤ zRowS a.2.2.2.2.1[k] := by unfold zRowS; omega
    omega
  have hn : a.2.2.2.2.1.length ≤ 1048576 := by unfold zRowSS at h; omega
  have hc := cntRR_le a.2.2.2.2.1
  unfold F.impl_rowEntries
  generalize a.2.2.2.2.1 = l at hm hn hc h
  have hh := loop_run (step := F.impl_rowEntries.s3) (fun i => (entRR (l.take i), l, len l, (i : Int), ())) l.length (fun i hi => by
    have ht := cntRR_take_le l (i + 1)
    have he := cntRR_take hi
    have hg := entRR_len (l.take i)
    obtain ⟨e1, e2, e3, hy⟩ := rowEntries_in (entRR (l.take i)) l (len l) (i : Int) l[i] (hm i hi) (by omega)
    unfold F.impl_rowEntries.s3
    simp only
    rw [show decide ((i : Int) < len l) = true from decide_eq_true (by simp only [len]; omega), inb_nat hi, Int.toNat_natCast, getD_at hi, hy]
    simp only [cond_true, chk_true, afterO]
    rw [w64_nat (by omega), entRR_take hi]) (l := .exit (entRR (l.take l.length), l, len l, ((l.length : Nat) : Int), ())) (by
    unfold F.impl_rowEntries.s3
    simp only
    rw [show decide (((l.length : Nat) : Int) < len l) = false from decide_eq_false (by simp only [len]; omega)]; rfl) rfl
  rw [List.take_length] at hh
  refine (congrArg (fun z => afterO z _) hh).trans ?_
  rfl
theorem items_same (a : DHouse) (h : zHouse a ≤ 1048576) : ∃ r, F.spec_Items a = some r ∧ F.impl_Items a = some r ∧ True := by
  have hz : zRowSS a.2.2.2.2.1 ≤ 1048576 := by unfold zHouse at h; omega
  refine ⟨_, specItems_eq a hz, ?_, trivial⟩
  unfold F.impl_Items
  rw [rowEntries_eq a hz]
  simp only [Option.bind_some, len, entRR_len]
/- The law FnExactItems, on the printed functions alone. -/

theorem fnExactItems_law (a : DHouse) (fa : fHouse a) : F.laws_FnExactItems a = some true := by
  unfold F.laws_FnExactItems
  rw [szHouse a (1048576) fa (by omega) (by omega)]
  by_cases ga : (zHouse a : Int) ≤ (1048576 : Int)
  case neg => rw [if_neg ga]; rfl
  rw [if_pos ga]
  simp only [Option.bind_some]
  rw [show decide ((1048576 : Int) - (zHouse a : Int) < 0) = false from decide_eq_false (by omega)]
  simp only [cond_false]
  obtain ⟨r, hs, hi, hz⟩ := items_same a (by omega)
  simp only [hs, hi, Option.bind_some, bne_self_eq_false, beq_self_eq_true, Bool.not_true, cond_false, toHouse a (by omega), eqHouse a (by omega)]
end Go.Proofs.Ytadaiilmjchnmaa.Vm
