import Derived.Test.YtnpmjlppjcemmaaGreatGf
import Derived.Test.YtnpmjlppjcemmaaGreatV3
namespace Go.Proofs.YtnpmjlppjcemmaaGreat.Vm
open Go Go.RowKit
set_option linter.unusedVariables false
/- Loops by rounds: a loop over a list (or over so many rounds) is a plain recursion. -/

/-- The rounds over a list: from place i on. -/
def runL {α S A : Type} (g : Nat → S → α → S ⊕ A) : Nat → List α → S → S ⊕ A
  | _, [], s => .inl s
  | i, x :: l, s => match g i s x with
    | .inl s' => runL g (i + 1) l s'
    | .inr a => .inr a
/-- So many rounds. -/
def runN {S A : Type} (g : Nat → S → S ⊕ A) : Nat → Nat → S → S ⊕ A
  | 0, _, s => .inl s
  | k + 1, i, s => match g i s with
    | .inl s' => runN g k (i + 1) s'
    | .inr a => .inr a
def again {X A S : Type} (mk : S → X) : S ⊕ A → Lp X A
  | .inl s => .again (mk s)
  | .inr a => .ret a
theorem loop_n {X A S : Type} {step : X → Option (Lp X A)} (n : Nat) (mk : Nat → S → X) (g : Nat → S → S ⊕ A) (P : Nat → S → Prop)
    (h : ∀ i s, i < n → P i s → step (mk i s) = some (again (mk (i + 1)) (g i s)) ∧ ∀ s', g i s = .inl s' → P (i + 1) s')
    (he : ∀ s, P n s → step (mk n s) = some (.exit (mk n s))) {s : S} (h0 : P 0 s) :
    loopO step (mk 0 s) = some (Sum.map (mk n) id (runN g n 0 s)) ∧ ∀ s', runN g n 0 s = .inl s' → P n s' := by
  have key : ∀ k i s, i + k = n → P i s → iterO step (k + 1) (mk i s) = some (Sum.map (mk n) id (runN g k i s)) ∧ ∀ s', runN g k i s = .inl s' → P n s' := by
    intro k
    induction k with
    | zero =>
      intro i s hi hp
      have hi : i = n := by omega
      subst hi
      refine ⟨?_, fun s' hs => by cases hs; exact hp⟩
      simp only [iterO, he s hp]; rfl
    | succ k ih =>
      intro i s hi hp
      obtain ⟨h1, h2⟩ := h i s (by omega) hp
      rw [iterO, h1]
      cases hg : g i s with
      | inl s' =>
        simp only [again, runN, hg]
        exact ih (i + 1) s' (by omega) (h2 s' hg)
      | inr a =>
        simp only [again, runN, hg]
        exact ⟨rfl, fun s' hs => by cases hs⟩
  obtain ⟨k1, k2⟩ := key n 0 s (by omega) h0
  exact ⟨loopO_of k1, k2⟩
theorem runN_list {α S A : Type} (g : Nat → S → α → S ⊕ A) (d : α) (l : List α) (s : S) : runN (fun i s => g i s (l.getD i d)) l.length 0 s = runL g 0 l s := by
  have key : ∀ (m : List α) (i : Nat) (s : S), l.drop i = m → runN (fun i s => g i s (l.getD i d)) m.length i s = runL g i m s := by
    intro m
    induction m with
    | nil => intro i s _; rfl
    | cons x m ih =>
      intro i s h
      have hx : l.getD i d = x := by
        rw [List.getD_eq_getElem?_getD, show l[i]? = some x by rw [← List.head?_drop, h]; rfl]; rfl
      simp only [List.length_cons, runN, runL, hx]
      cases g i s x with
      | inl s' => exact ih (i + 1) s' (by rw [← List.drop_drop, h]; rfl)
      | inr a => rfl
  exact key l 0 s rfl
theorem loop_l {X A S α : Type} {step : X → Option (Lp X A)} (l : List α) (mk : Nat → S → X) (g : Nat → S → α → S ⊕ A) (P : Nat → S → Prop)
    (h : ∀ i s (hi : i < l.length), P i s → step (mk i s) = some (again (mk (i + 1)) (g i s l[i])) ∧ ∀ s', g i s l[i] = .inl s' → P (i + 1) s')
    (he : ∀ s, P l.length s → step (mk l.length s) = some (.exit (mk l.length s))) {s : S} (h0 : P 0 s) :
    loopO step (mk 0 s) = some (Sum.map (mk l.length) id (runL g 0 l s)) ∧ ∀ s', runL g 0 l s = .inl s' → P l.length s' := by
  cases l with
  | nil =>
    obtain ⟨h1, h2⟩ := loop_n (step := step) 0 mk (fun _ s => .inl s) P (fun i s hi => by omega) he h0
    exact ⟨h1, h2⟩
  | cons x l =>
    obtain ⟨h1, h2⟩ := loop_n (step := step) (x :: l).length mk (fun i s => g i s ((x :: l).getD i x)) P (fun i s hi hp => by
      rw [getD_at hi]; exact h i s hi hp) he h0
    rw [runN_list] at h1 h2
    exact ⟨h1, h2⟩
/-- Without an invariant. -/
theorem loop_l0 {X A S α : Type} {step : X → Option (Lp X A)} (l : List α) (mk : Nat → S → X) (g : Nat → S → α → S ⊕ A)
    (h : ∀ i s (hi : i < l.length), step (mk i s) = some (again (mk (i + 1)) (g i s l[i])))
    (he : ∀ s, step (mk l.length s) = some (.exit (mk l.length s))) (s : S) :
    loopO step (mk 0 s) = some (Sum.map (mk l.length) id (runL g 0 l s)) :=
  (loop_l l mk g (fun _ _ => True) (fun i s hi _ => ⟨h i s hi, fun _ _ => trivial⟩) (fun s _ => he s) (s := s) trivial).1
/-- It ends at the first that is not so. -/
theorem loop_all {X A α : Type} {step : X → Option (Lp X A)} (l : List α) (mk : Nat → X) (p : α → Bool) (a : A)
    (h : ∀ i (hi : i < l.length), step (mk i) = some (bif p l[i] then .again (mk (i + 1)) else .ret a))
    (he : step (mk l.length) = some (.exit (mk l.length))) :
    loopO step (mk 0) = some (bif l.all p then .inl (mk l.length) else .inr a) := by
  have := loop_l0 (step := step) l (fun i (_ : Unit) => mk i) (fun _ _ x => bif p x then .inl () else .inr a) (fun i s hi => by
    rw [h i hi]; cases p l[i] <;> rfl) (fun _ => he) ()
  rw [this]
  have key : ∀ (m : List α) (i : Nat), Sum.map (fun (_ : Unit) => mk l.length) id (runL (fun _ _ x => bif p x then (.inl () : Unit ⊕ A) else .inr a) i m ()) = bif m.all p then .inl (mk l.length) else .inr a := by
    intro m
    induction m with
    | nil => intro i; rfl
    | cons x m ih =>
      intro i
      simp only [runL, List.all_cons]
      cases p x with
      | false => rfl
      | true => exact ih (i + 1)
  rw [key l 0]
theorem loop_any {X A α : Type} {step : X → Option (Lp X A)} (l : List α) (mk : Nat → X) (p : α → Bool) (a : A)
    (h : ∀ i (hi : i < l.length), step (mk i) = some (bif p l[i] then .ret a else .again (mk (i + 1))))
    (he : step (mk l.length) = some (.exit (mk l.length))) :
    loopO step (mk 0) = some (bif l.any p then .inr a else .inl (mk l.length)) := by
  have := loop_all (step := step) l mk (fun x => !p x) a (fun i hi => by rw [h i hi]; cases p l[i] <;> rfl) he
  rw [this]
  have e : ∀ m : List α, m.all (fun x => !p x) = !m.any p := by
    intro m
    induction m with
    | nil => rfl
    | cons x m ih => rw [List.all_cons, List.any_cons, ih]; cases p x <;> rfl
  rw [e]
  cases l.any p <;> rfl
/-- It gathers. -/
theorem loop_fold {X A S α : Type} {step : X → Option (Lp X A)} (l : List α) (mk : Nat → S → X) (f : S → α → S)
    (h : ∀ i s (hi : i < l.length), step (mk i s) = some (.again (mk (i + 1) (f s l[i]))))
    (he : ∀ s, step (mk l.length s) = some (.exit (mk l.length s))) (s : S) :
    loopO step (mk 0 s) = some (.inl (mk l.length (l.foldl f s))) := by
  have := loop_l0 (step := step) l mk (fun _ s x => .inl (f s x)) (fun i s hi => h i s hi) he s
  rw [this]
  have key : ∀ (m : List α) (i : Nat) (s : S), runL (fun _ s x => (.inl (f s x) : S ⊕ A)) i m s = .inl (m.foldl f s) := by
    intro m
    induction m with
    | nil => intro i s; rfl
    | cons x m ih => intro i s; exact ih (i + 1) (f s x)
  rw [key l 0 s]; rfl
/-- It gathers, and keeps what it is asked to keep. -/
theorem loop_foldP {X A S α : Type} {step : X → Option (Lp X A)} (l : List α) (mk : Nat → S → X) (f : S → α → S) (P : Nat → S → Prop)
    (h : ∀ i s (hi : i < l.length), P i s → step (mk i s) = some (.again (mk (i + 1) (f s l[i]))) ∧ P (i + 1) (f s l[i]))
    (he : ∀ s, P l.length s → step (mk l.length s) = some (.exit (mk l.length s))) {s : S} (h0 : P 0 s) :
    loopO step (mk 0 s) = some (.inl (mk l.length (l.foldl f s))) ∧ P l.length (l.foldl f s) := by
  obtain ⟨h1, h2⟩ := loop_l (step := step) l mk (fun _ s x => .inl (f s x)) P (fun i s hi hp => ⟨(h i s hi hp).1, fun s' e => by cases e; exact (h i s hi hp).2⟩) he h0
  have key : ∀ (m : List α) (i : Nat) (s : S), runL (fun _ s x => (.inl (f s x) : S ⊕ A)) i m s = .inl (m.foldl f s) := by
    intro m
    induction m with
    | nil => intro i s; rfl
    | cons x m ih => intro i s; exact ih (i + 1) (f s x)
  rw [key l 0 s] at h1 h2
  exact ⟨h1, h2 _ rfl⟩
theorem fits_of {n b : Nat} (h : n * b ≤ 140737488355328) : fits n b = true := decide_eq_true h
theorem foldl_snoc {α β : Type} (f : α → β) : ∀ (l : List α) (acc : List β), l.foldl (fun s x => s ++ [f x]) acc = acc ++ l.map f
  | [], acc => by simp
  | x :: l, acc => by rw [List.foldl_cons, foldl_snoc f l]; simp
theorem foldl_app {α β : Type} (f : α → List β) : ∀ (l : List α) (acc : List β), l.foldl (fun s x => s ++ f x) acc = acc ++ l.flatMap f
  | [], acc => by simp
  | x :: l, acc => by rw [List.foldl_cons, foldl_app f l]; simp
/- Lists that are copied, compared, counted, marked: loops of one shape each. -/

theorem getD_set_self {α : Type} {l : List α} {i : Nat} {x d : α} (h : i < l.length) : (l.set i x).getD i d = x := by
  rw [List.getD_eq_getElem?_getD, List.getElem?_set_self h]; rfl
theorem getD_mid {α : Type} {p : List α} {x d : α} {l : List α} : (p ++ x :: l).getD p.length d = x := by
  rw [List.getD_eq_getElem?_getD, List.getElem?_append_right (Nat.le_refl _), Nat.sub_self]; rfl
theorem set_mid {α : Type} {p : List α} {x y : α} {l : List α} : (p ++ x :: l).set p.length y = p ++ y :: l := by
  rw [List.set_append_right _ _ (Nat.le_refl _), Nat.sub_self]; rfl
theorem mid_app {α : Type} {p : List α} {y : α} {l : List α} : p ++ y :: l = (p ++ [y]) ++ l := by simp
section
variable {α A : Type}
theorem loop_of_iter {X A : Type} {step : X → Option (Lp X A)} {n : Nat} {x : X} {y : X ⊕ A} (h : iterO step n x = some y) : loopO step x = some y := loopO_of h
/-- Copied, element by element. -/
theorem loop_to {step : (List α × List α × Int × Unit) → Option (Lp (List α × List α × Int × Unit) A)} (l : List α) (d : α)
    (hs : ∀ i (m : List α) (hi : i < l.length), i < m.length → step (l, m, (i : Int), ()) = some (.again (l, m.set i l[i], ((i + 1 : Nat) : Int), ())))
    (he : ∀ m, step (l, m, ((l.length : Nat) : Int), ()) = some (.exit (l, m, ((l.length : Nat) : Int), ()))) :
    loopO step (l, List.replicate l.length d, 0, ()) = some (.inl (l, l, ((l.length : Nat) : Int), ())) := by
  have h := loop_run (step := step) (fun i => (l, mid d l i, (i : Int), ())) l.length (fun i hi => by
    rw [hs i _ hi (by rw [mid_len (by omega)]; exact hi)]
    have := copy_step d l hi
    rw [getD_at hi] at this
    unfold mid
    rw [this]) (l := .exit (l, l, ((l.length : Nat) : Int), ())) (y := .inl (l, l, ((l.length : Nat) : Int), ())) (by
      have e : mid d l l.length = l := by simp [mid]
      show step (l, mid d l l.length, ((l.length : Nat) : Int), ()) = _
      rw [e]; exact he l) rfl
  have e : mid d l 0 = List.replicate l.length d := by simp [mid]
  have h : loopO step (l, mid d l 0, ((0 : Nat) : Int), ()) = _ := h
  rw [e] at h
  exact h
/-- Each is what it is. -/
theorem loop_eq {step : (List α × List α × Int × Unit) → Option (Lp (List α × List α × Int × Unit) A)} (l : List α)
    (hs : ∀ i (hi : i < l.length), step (l, l, (i : Int), ()) = some (.again (l, l, ((i + 1 : Nat) : Int), ())))
    (he : step (l, l, ((l.length : Nat) : Int), ()) = some (.exit (l, l, ((l.length : Nat) : Int), ()))) :
    loopO step (l, l, 0, ()) = some (.inl (l, l, ((l.length : Nat) : Int), ())) :=
  loop_run (step := step) (fun i => (l, l, (i : Int), ())) l.length hs he rfl
/-- Counted down. -/
theorem loop_sz {step : (List α × Int × Int × Unit) → Option (Lp (List α × Int × Int × Unit) Int)} (sz : α → Nat) (l : List α) (n : Int) (h0 : 0 ≤ n)
    (hs : ∀ i (k : Int) (hi : i < l.length), 0 ≤ k → k ≤ n → step (l, k, (i : Int), ()) = some (if (sz l[i] : Int) ≤ k then .again (l, k - (sz l[i] : Int), ((i + 1 : Nat) : Int), ()) else .ret (-1)))
    (he : ∀ k, step (l, k, ((l.length : Nat) : Int), ()) = some (.exit (l, k, ((l.length : Nat) : Int), ()))) :
    loopO step (l, n, 0, ()) = some (if (((l.map sz).sum : Nat) : Int) ≤ n then .inl (l, n - ((l.map sz).sum : Nat), ((l.length : Nat) : Int), ()) else .inr (-1)) := by
  have key : ∀ (m p : List α) (k : Int), p ++ m = l → 0 ≤ k → k ≤ n → iterO step (m.length + 1) (l, k, ((p.length : Nat) : Int), ()) = some (if (((m.map sz).sum : Nat) : Int) ≤ k then .inl (l, k - ((m.map sz).sum : Nat), ((l.length : Nat) : Int), ()) else .inr (-1)) := by
    intro m
    induction m with
    | nil =>
      intro p k hp hk _
      have hp : p = l := by simpa using hp
      subst hp
      simp [iterO, he, hk]
    | cons x m ih =>
      intro p k hp hk hkn
      have hi : p.length < l.length := by rw [← hp]; simp
      have hx : l[p.length] = x := by subst hp; simp
      rw [iterO, hs p.length k hi hk hkn, hx]
      by_cases hle : (sz x : Int) ≤ k
      · rw [if_pos hle]
        simp only
        have := ih (p ++ [x]) (k - sz x) (by rw [← hp]; simp) (by omega) (by omega)
        rw [List.length_append] at this
        rw [show ((p.length + 1 : Nat) : Int) = ((p.length + [x].length : Nat) : Int) from rfl, List.length_cons, this]
        congr 1
        simp only [List.map_cons, List.sum_cons]
        by_cases h2 : (((m.map sz).sum : Nat) : Int) ≤ k - sz x
        · rw [if_pos h2, if_pos (by omega)]
          congr 3; omega
        · rw [if_neg h2, if_neg (by omega)]
      · rw [if_neg hle]
        simp only [List.map_cons, List.sum_cons]
        rw [if_neg (by omega)]
  exact loopO_of (key l [] n rfl h0 (Int.le_refl _))
/-- Marked. -/
theorem loop_mark1 {mstep : (Int × Int × List α × Unit) → Option (Lp (Int × Int × List α × Unit) (Int × List α))} (d : α) (cnt : α → Nat) (B : Int) (l : List α) (k : Int) (hk : 0 ≤ k) (hB : k + (((l.map cnt).sum : Nat) : Int) ≤ B)
    (hel : ∀ x ∈ l, ∀ k : Int, 0 ≤ k → k + (cnt x : Int) ≤ B → ∃ x',
      (∀ (i : Nat) (m : List α), i < m.length → m.length = l.length → m.getD i d = x → mstep (k, (i : Int), m, ()) = some (.again (k + cnt x, ((i + 1 : Nat) : Int), m.set i x', ()))))
    (hm : ∀ (m : List α) (k : Int), mstep (k, ((m.length : Nat) : Int), m, ()) = some (.exit (k, ((m.length : Nat) : Int), m, ()))) :
    ∃ l', loopO mstep (k, 0, l, ()) = some (.inl (k + ((l.map cnt).sum : Nat), ((l.length : Nat) : Int), l', ())) := by
  have key : ∀ (m p : List α) (k : Int), (∀ x ∈ m, x ∈ l) → p.length + m.length = l.length → 0 ≤ k → k + (((m.map cnt).sum : Nat) : Int) ≤ B → ∃ m', m'.length = m.length ∧
      iterO mstep (m.length + 1) (k, ((p.length : Nat) : Int), p ++ m, ()) = some (.inl (k + ((m.map cnt).sum : Nat), ((l.length : Nat) : Int), p ++ m', ())) := by
    intro m
    induction m with
    | nil =>
      intro p k _ hp _ _
      have hp : p.length = l.length := by simpa using hp
      refine ⟨[], rfl, ?_⟩
      have := hm p k
      simp [iterO, hp]
      rw [hp] at this
      simp [this]
    | cons x m ih =>
      intro p k hmem hp hk hB
      simp only [List.map_cons, List.sum_cons] at hB
      obtain ⟨x', h1⟩ := hel x (hmem x (by simp)) k hk (by omega)
      obtain ⟨m', g0, g1⟩ := ih (p ++ [x']) (k + cnt x) (fun y hy => hmem y (by simp [hy])) (by simp at hp ⊢; omega) (by omega) (by omega)
      refine ⟨x' :: m', by simp [g0], ?_⟩
      rw [iterO, h1 p.length (p ++ x :: m) (by simp) (by simp at hp ⊢; omega) getD_mid, set_mid]
      simp only
      rw [show p ++ x' :: m = (p ++ [x']) ++ m by simp, show p ++ x' :: m' = (p ++ [x']) ++ m' by simp, List.length_cons]
      rw [List.length_append] at g1
      refine g1.trans ?_
      simp only [List.map_cons, List.sum_cons]
      congr 3; omega
  obtain ⟨l', _, h1⟩ := key l [] k (fun _ h => h) (by simp) hk hB
  exact ⟨l', loopO_of h1⟩
/-- Marked, and found as marked. -/
theorem loop_mark {mstep : (Int × Int × List α × Unit) → Option (Lp (Int × Int × List α × Unit) (Int × List α))} {hstep : (List α × Int × Int × Unit) → Option (Lp (List α × Int × Int × Unit) Int)} (d : α) (cnt : α → Nat) (B : Int) (l : List α) (k : Int) (hk : 0 ≤ k) (hB : k + (((l.map cnt).sum : Nat) : Int) ≤ B)
    (hel : ∀ x ∈ l, ∀ k : Int, 0 ≤ k → k + (cnt x : Int) ≤ B → ∃ x',
      (∀ (i : Nat) (m : List α), i < m.length → m.length = l.length → m.getD i d = x → mstep (k, (i : Int), m, ()) = some (.again (k + cnt x, ((i + 1 : Nat) : Int), m.set i x', ()))) ∧
      (∀ (i : Nat) (m : List α), i < m.length → m.length = l.length → m.getD i d = x' → hstep (m, k, (i : Int), ()) = some (.again (m, k + cnt x, ((i + 1 : Nat) : Int), ()))))
    (hm : ∀ (m : List α) (k : Int), mstep (k, ((m.length : Nat) : Int), m, ()) = some (.exit (k, ((m.length : Nat) : Int), m, ())))
    (hh : ∀ (m : List α) (k : Int), hstep (m, k, ((m.length : Nat) : Int), ()) = some (.exit (m, k, ((m.length : Nat) : Int), ()))) :
    ∃ l', loopO mstep (k, 0, l, ()) = some (.inl (k + ((l.map cnt).sum : Nat), ((l.length : Nat) : Int), l', ())) ∧ loopO hstep (l', k, 0, ()) = some (.inl (l', k + ((l.map cnt).sum : Nat), ((l.length : Nat) : Int), ())) := by
  have key : ∀ (m p : List α) (k : Int), (∀ x ∈ m, x ∈ l) → p.length + m.length = l.length → 0 ≤ k → k + (((m.map cnt).sum : Nat) : Int) ≤ B → ∃ m', m'.length = m.length ∧
      iterO mstep (m.length + 1) (k, ((p.length : Nat) : Int), p ++ m, ()) = some (.inl (k + ((m.map cnt).sum : Nat), ((l.length : Nat) : Int), p ++ m', ())) ∧
      ∀ q : List α, q.length = p.length → iterO hstep (m.length + 1) (q ++ m', k, ((p.length : Nat) : Int), ()) = some (.inl (q ++ m', k + ((m.map cnt).sum : Nat), ((l.length : Nat) : Int), ())) := by
    intro m
    induction m with
    | nil =>
      intro p k _ hp _ _
      have hp : p.length = l.length := by simpa using hp
      refine ⟨[], rfl, ?_, fun q hq => ?_⟩
      · have := hm p k
        simp [iterO, hp]
        rw [hp] at this
        simp [this]
      · have := hh q k
        rw [hq, hp] at this
        simp [iterO, hp, this]
    | cons x m ih =>
      intro p k hmem hp hk hB
      simp only [List.map_cons, List.sum_cons] at hB
      obtain ⟨x', h1, h2⟩ := hel x (hmem x (by simp)) k hk (by omega)
      obtain ⟨m', g0, g1, g2⟩ := ih (p ++ [x']) (k + cnt x) (fun y hy => hmem y (by simp [hy])) (by simp at hp ⊢; omega) (by omega) (by omega)
      refine ⟨x' :: m', by simp [g0], ?_, fun q hq => ?_⟩
      · rw [iterO, h1 p.length (p ++ x :: m) (by simp) (by simp at hp ⊢; omega) getD_mid, set_mid]
        simp only
        rw [show p ++ x' :: m = (p ++ [x']) ++ m by simp, show p ++ x' :: m' = (p ++ [x']) ++ m' by simp, List.length_cons]
        rw [List.length_append] at g1
        refine g1.trans ?_
        simp only [List.map_cons, List.sum_cons]
        congr 3; omega
      · rw [iterO, show ((p.length : Nat) : Int) = ((q.length : Nat) : Int) by rw [hq], h2 q.length (q ++ x' :: m') (by simp) (by simp at hp ⊢; omega) getD_mid]
        simp only
        have := g2 (q ++ [x']) (by simp [hq])
        rw [List.length_append] at this
        rw [mid_app, List.length_cons, hq]
        refine this.trans ?_
        simp only [List.map_cons, List.sum_cons]
        congr 4; omega
  obtain ⟨l', _, h1, h2⟩ := key l [] k (fun _ h => h) (by simp) hk hB
  exact ⟨l', loopO_of h1, loopO_of (h2 [] rfl)⟩
end
/- Numbers between bounds. -/

def inR (lo hi x : Int) : Bool := decide (x ≥ lo) && decide (x ≤ hi)
theorem l1In_eq (x lo hi : Int) : F.spec_l1In x lo hi = some (inR lo hi x) := by
  unfold F.spec_l1In inR
  cases decide (x ≥ lo) <;> rfl
theorem within_eq (x lo hi : Int) : F.impl_within x lo hi = some (inR lo hi x) := by
  unfold F.impl_within inR
  cases decide (x ≥ lo) <;> rfl
theorem inR_iff {lo hi x : Int} : inR lo hi x = true ↔ lo ≤ x ∧ x ≤ hi := by simp [inR]
/- Sets of spans: both tests answer alike. -/

abbrev Sp := Int × Int × Unit
/-- Span i stands well, behind the one ahead of it. -/
def okAt (a : List Sp) (i : Nat) (h : i < a.length) : Prop := inR 0 9999 a[i].1 = true ∧ inR a[i].1 9999 a[i].2.1 = true ∧ ∀ h0 : 0 < i, ¬ (a[i].1 ≤ (a[i - 1]'(by omega)).2.1 + 1)
def Good (a : List Sp) : Prop := ∀ (i : Nat) (h : i < a.length), okAt a i h
theorem specSet_ok (a : List Sp) (h : a.length ≤ 1048576) : (F.spec_SetOk a = some true ∧ Good a) ∨ (F.spec_SetOk a = some false ∧ ¬ Good a) := by
  unfold F.spec_SetOk
  obtain ⟨y, h1, h2⟩ := loopO_rule (step := F.spec_SetOk.s2) (fun x => x.1 = a ∧ 0 ≤ x.2.1 ∧ x.2.1 ≤ a.length ∧ ∀ (i : Nat) (hi : i < a.length), (i : Int) < x.2.1 → okAt a i hi) (fun y => (∃ i, y = .inl i ∧ Good a) ∨ (y = .inr false ∧ ¬ Good a))
    (fun x => a.length - x.2.1.toNat) (fun x hx => by
      obtain ⟨x1, x2, u⟩ := x
      obtain ⟨rfl, g1, g2, g3⟩ := hx
      simp only at g1 g2 g3
      have h : x1.length ≤ 1048576 := h
      unfold F.spec_SetOk.s2
      simp only
      by_cases hlt : x2 < (x1.length : Int)
      · have hin : x2.toNat < x1.length := by omega
        have again : okAt x1 x2.toNat hin → (x1 = x1 ∧ 0 ≤ w64 (x2 + 1) ∧ w64 (x2 + 1) ≤ x1.length ∧ ∀ (i : Nat) (hi : i < x1.length), (i : Int) < w64 (x2 + 1) → okAt x1 i hi) ∧ x1.length - (w64 (x2 + 1)).toNat < x1.length - x2.toNat := by
          intro hok
          refine ⟨⟨rfl, ?_, ?_, ?_⟩, ?_⟩
          all_goals rw [w64_id (by omega) (by omega)]
          · omega
          · omega
          · intro i hi hlt'
            by_cases e : i = x2.toNat
            · subst e; exact hok
            · exact g3 i hi (by omega)
          · omega
        rw [show decide (x2 < len x1) = true from decide_eq_true hlt, inb_of g1 hlt, l1In_eq, l1In_eq, getD_at hin]
        simp only [chk_true, cond_true, Option.bind_some]
        cases hr : inR 0 9999 x1[x2.toNat].1 with
        | false => exact ⟨.ret false, rfl, .inr ⟨rfl, fun hg => by have := (hg _ hin).1; rw [hr] at this; cases this⟩⟩
        | true =>
          simp only [Bool.not_true, cond_false]
          cases hr2 : inR x1[x2.toNat].1 9999 x1[x2.toNat].2.1 with
          | false => exact ⟨.ret false, rfl, .inr ⟨rfl, fun hg => by have := (hg _ hin).2.1; rw [hr2] at this; cases this⟩⟩
          | true =>
            simp only [Bool.not_true, cond_false]
            by_cases hp : x2 > 0
            · have hin2 : x2.toNat - 1 < x1.length := by omega
              have hb := (g3 (x2.toNat - 1) hin2 (by omega))
              have hb1 := inR_iff.1 hb.1
              have hb2 := inR_iff.1 hb.2.1
              rw [show decide (x2 > 0) = true from decide_eq_true hp, w64_id (x := x2 - 1) (by omega) (by omega), inb_of (i := x2 - 1) (by omega) (by omega), show (x2 - 1).toNat = x2.toNat - 1 by omega, getD_at hin2, w64_id (x := x1[x2.toNat - 1].2.1 + 1) (by omega) (by omega)]
              simp only [chk_true, cond_true]
              by_cases hle : x1[x2.toNat].1 ≤ x1[x2.toNat - 1].2.1 + 1
              · rw [show decide (x1[x2.toNat].1 ≤ x1[x2.toNat - 1].2.1 + 1) = true from decide_eq_true hle]
                exact ⟨.ret false, rfl, .inr ⟨rfl, fun hg => (hg _ hin).2.2 (by omega) hle⟩⟩
              · rw [show decide (x1[x2.toNat].1 ≤ x1[x2.toNat - 1].2.1 + 1) = false from decide_eq_false hle]
                exact ⟨.again (x1, w64 (x2 + 1), ()), rfl, again ⟨hr, hr2, fun _ => hle⟩⟩
            · rw [show decide (x2 > 0) = false from decide_eq_false hp]
              exact ⟨.again (x1, w64 (x2 + 1), ()), rfl, again ⟨hr, hr2, fun h0 => by omega⟩⟩
      · refine ⟨.exit (x1, x2, ()), ?_, .inl ⟨_, rfl, fun i hi => g3 i hi (by omega)⟩⟩
        rw [show decide (x2 < len x1) = false from decide_eq_false hlt]; rfl) (x := (a, 0, ())) ⟨rfl, Int.le_refl 0, by simp, fun i hi h => by
          have h : (i : Int) < 0 := h
          omega⟩
  rw [h1]
  rcases h2 with ⟨i, rfl, hg⟩ | ⟨rfl, hg⟩
  · exact .inl ⟨rfl, hg⟩
  · exact .inr ⟨rfl, hg⟩
theorem implSet_ok (a : List Sp) (h : a.length ≤ 1048576) : (F.impl_SetOk a = some true ∧ Good a) ∨ (F.impl_SetOk a = some false ∧ ¬ Good a) := by
  unfold F.impl_SetOk
  obtain ⟨y, h1, h2⟩ := loopO_rule (step := F.impl_SetOk.s2) (fun x => x.1 = a ∧ x.2.1 = a ∧ x.2.2.1 = len a ∧ 0 ≤ x.2.2.2.1 ∧ x.2.2.2.1 ≤ a.length ∧ ∀ (i : Nat) (hi : i < a.length), (i : Int) < x.2.2.2.1 → okAt a i hi) (fun y => (∃ i, y = .inl i ∧ Good a) ∨ (y = .inr false ∧ ¬ Good a))
    (fun x => a.length - x.2.2.2.1.toNat) (fun x hx => by
      obtain ⟨x1, xa, xl, x2, u⟩ := x
      obtain ⟨rfl, ea, el, g1, g2, g3⟩ := hx
      simp only at g1 g2 g3 ea el
      subst ea; subst el
      have h : xa.length ≤ 1048576 := h
      unfold F.impl_SetOk.s2
      simp only
      by_cases hlt : x2 < (xa.length : Int)
      · have hin : x2.toNat < xa.length := by omega
        have again : okAt xa x2.toNat hin → (xa = xa ∧ xa = xa ∧ len xa = len xa ∧ 0 ≤ w64 (x2 + 1) ∧ w64 (x2 + 1) ≤ xa.length ∧ ∀ (i : Nat) (hi : i < xa.length), (i : Int) < w64 (x2 + 1) → okAt xa i hi) ∧ xa.length - (w64 (x2 + 1)).toNat < xa.length - x2.toNat := by
          intro hok
          refine ⟨⟨rfl, rfl, rfl, ?_, ?_, ?_⟩, ?_⟩
          all_goals rw [w64_id (by omega) (by omega)]
          · omega
          · omega
          · intro i hi hlt'
            by_cases e : i = x2.toNat
            · subst e; exact hok
            · exact g3 i hi (by omega)
          · omega
        rw [show decide (x2 < len xa) = true from decide_eq_true hlt, inb_of g1 hlt, within_eq, within_eq, getD_at hin]
        simp only [chk_true, cond_true, Option.bind_some]
        cases hr : inR 0 9999 xa[x2.toNat].1 with
        | false => exact ⟨.ret false, rfl, .inr ⟨rfl, fun hg => by have := (hg _ hin).1; rw [hr] at this; cases this⟩⟩
        | true =>
          simp only [Bool.not_true, cond_false]
          cases hr2 : inR xa[x2.toNat].1 9999 xa[x2.toNat].2.1 with
          | false => exact ⟨.ret false, rfl, .inr ⟨rfl, fun hg => by have := (hg _ hin).2.1; rw [hr2] at this; cases this⟩⟩
          | true =>
            simp only [Bool.not_true, cond_false]
            by_cases hp : x2 > 0
            · have hin2 : x2.toNat - 1 < xa.length := by omega
              have hb := (g3 (x2.toNat - 1) hin2 (by omega))
              have hb1 := inR_iff.1 hb.1
              have hb2 := inR_iff.1 hb.2.1
              rw [show decide (x2 > 0) = true from decide_eq_true hp, w64_id (x := x2 - 1) (by omega) (by omega), inb_of (i := x2 - 1) (by omega) (by omega), show (x2 - 1).toNat = x2.toNat - 1 by omega, getD_at hin2, w64_id (x := xa[x2.toNat - 1].2.1 + 1) (by omega) (by omega)]
              simp only [chk_true, cond_true]
              by_cases hle : xa[x2.toNat].1 ≤ xa[x2.toNat - 1].2.1 + 1
              · rw [show decide (xa[x2.toNat].1 ≤ xa[x2.toNat - 1].2.1 + 1) = true from decide_eq_true hle]
                exact ⟨.ret false, rfl, .inr ⟨rfl, fun hg => (hg _ hin).2.2 (by omega) hle⟩⟩
              · rw [show decide (xa[x2.toNat].1 ≤ xa[x2.toNat - 1].2.1 + 1) = false from decide_eq_false hle]
                exact ⟨.again (xa, xa, len xa, w64 (x2 + 1), ()), rfl, again ⟨hr, hr2, fun _ => hle⟩⟩
            · rw [show decide (x2 > 0) = false from decide_eq_false hp]
              exact ⟨.again (xa, xa, len xa, w64 (x2 + 1), ()), rfl, again ⟨hr, hr2, fun h0 => by omega⟩⟩
      · refine ⟨.exit (xa, xa, len xa, x2, ()), ?_, .inl ⟨_, rfl, fun i hi => g3 i hi (by omega)⟩⟩
        rw [show decide (x2 < len xa) = false from decide_eq_false hlt]; rfl) (x := (a, a, len a, 0, ())) ⟨rfl, rfl, rfl, Int.le_refl 0, by simp, fun i hi h => by
          have h : (i : Int) < 0 := h
          omega⟩
  rw [h1]
  rcases h2 with ⟨i, rfl, hg⟩ | ⟨rfl, hg⟩
  · exact .inl ⟨rfl, hg⟩
  · exact .inr ⟨rfl, hg⟩
/-- The spans go up. -/
theorem good_up {a : List Sp} (hg : Good a) : ∀ (k i : Nat) (hi : i + k < a.length), (a[i]'(by omega)).1 ≤ (a[i + k]).1 ∧ (a[i]'(by omega)).2.1 ≤ (a[i + k]).2.1
  | 0, i, hi => ⟨Int.le_refl _, Int.le_refl _⟩
  | k + 1, i, hi => by
    obtain ⟨g1, g2⟩ := good_up hg k i (by omega)
    have h1 := hg (i + k) (by omega)
    have h2 := hg (i + (k + 1)) hi
    have h3 := inR_iff.1 h1.2.1
    have h4 := inR_iff.1 h2.2.1
    have h5 := h2.2.2 (by omega)
    have e : (a[i + (k + 1) - 1]'(by omega)) = a[i + k] := by congr 1
    rw [e] at h5
    exact ⟨by omega, by omega⟩
/- Questions as Bools. -/

open Classical in
/-- Is it so? -/
noncomputable def decB (p : Prop) : Bool := decide p
theorem decB_iff {p : Prop} : decB p = true ↔ p := by simp [decB]
theorem decB_pos {p : Prop} (h : p) : decB p = true := decB_iff.2 h
theorem decB_neg {p : Prop} (h : ¬ p) : decB p = false := by simp [decB, h]
theorem decB_eq {p : Prop} {b : Bool} (h : b = true ↔ p) : b = decB p := by
  rw [Bool.eq_iff_iff, h, decB_iff]
theorem decB_and {p q : Prop} : (decB p && decB q) = decB (p ∧ q) := by
  rw [Bool.eq_iff_iff, Bool.and_eq_true, decB_iff, decB_iff, decB_iff]
theorem decB_congr {p q : Prop} (h : p ↔ q) : decB p = decB q := by
  rw [Bool.eq_iff_iff, decB_iff, decB_iff, h]
/-- It ends at the first round that is not so; those ahead were. -/
theorem loop_allN {X A : Type} {step : X → Option (Lp X A)} (n : Nat) (mk : Nat → X) (c : Nat → Bool) (a : A)
    (h : ∀ i, i < n → (∀ j, j < i → c j = true) → step (mk i) = some (bif c i then .again (mk (i + 1)) else .ret a))
    (he : step (mk n) = some (.exit (mk n))) :
    loopO step (mk 0) = some (bif (List.range n).all c then .inl (mk n) else .inr a) := by
  obtain ⟨h1, _⟩ := loop_n (step := step) n (fun i (_ : Unit) => mk i) (fun i _ => bif c i then .inl () else .inr a) (fun i _ => ∀ j, j < i → c j = true) (fun i s hi hp => by
    refine ⟨?_, fun s' e j hj => ?_⟩
    · rw [h i hi hp]; cases c i <;> rfl
    · by_cases hji : j = i
      · subst hji
        cases hc : c j with
        | true => rfl
        | false => rw [hc] at e; cases e
      · exact hp j (by omega)) (fun _ _ => he) (s := ()) (fun j hj => by omega)
  rw [h1]
  have key : ∀ k i, Sum.map (fun (_ : Unit) => mk n) id (runN (fun i _ => bif c i then (.inl () : Unit ⊕ A) else .inr a) k i ()) = bif (List.range' i k).all c then .inl (mk n) else .inr a := by
    intro k
    induction k with
    | zero => intro i; rfl
    | succ k ih =>
      intro i
      simp only [runN, List.range'_succ, List.all_cons]
      cases c i with
      | false => rfl
      | true => exact ih (i + 1)
  rw [key n 0, List.range_eq_range']
theorem range_all {n : Nat} {c : Nat → Bool} : (List.range n).all c = true ↔ ∀ i, i < n → c i = true := by
  rw [List.all_eq_true]
  exact ⟨fun h i hi => h i (List.mem_range.2 hi), fun h i hi => h i (List.mem_range.1 hi)⟩
/- Sets that are apart: both answer alike. -/

theorem specSet_dec (a : List Sp) (h : a.length ≤ 1048576) : F.spec_SetOk a = some (decB (Good a)) := by
  rcases specSet_ok a h with ⟨e, g⟩ | ⟨e, g⟩
  · rw [e, decB_pos g]
  · rw [e, decB_neg g]
theorem implSet_dec (a : List Sp) (h : a.length ≤ 1048576) : F.impl_SetOk a = some (decB (Good a)) := by
  rcases implSet_ok a h with ⟨e, g⟩ | ⟨e, g⟩
  · rw [e, decB_pos g]
  · rw [e, decB_neg g]
/-- No two of them meet. -/
def ap1 (x y : Sp) : Bool := !(decide (x.1 ≤ y.2.1) && decide (y.1 ≤ x.2.1))
def apB (a b : List Sp) : Bool := a.all fun x => b.all fun y => ap1 x y
theorem specApart_in (a b : List Sp) (i : Nat) (hi : i < a.length) (hb : b.length ≤ 1048576) : loopO F.spec_SetApart.s7 (a, b, (i : Int), 0, ()) = some (bif b.all (ap1 a[i]) then .inl (a, b, (i : Int), ((b.length : Nat) : Int), ()) else .inr (.ret false)) :=
  loop_all (step := F.spec_SetApart.s7) b (fun k => (a, b, (i : Int), (k : Int), ())) (ap1 a[i]) (.ret false) (fun k hk => by
    unfold F.spec_SetApart.s7
    simp only
    rw [lt_len hk, inb_nat hi, inb_nat hk, Int.toNat_natCast, Int.toNat_natCast, w64_nat (by omega), getD_at hi, getD_at hk]
    simp only [cond_true, chk_true, ap1]
    cases decide (a[i].1 ≤ b[k].2.1) <;> cases decide (b[k].1 ≤ a[i].2.1) <;> rfl) (by
    unfold F.spec_SetApart.s7
    simp only [ge_len, cond_false])
theorem specApart_out (a b : List Sp) (ha : a.length ≤ 1048576) (hb : b.length ≤ 1048576) : loopO F.spec_SetApart.s4 (a, b, 0, ()) = some (bif apB a b then .inl (a, b, ((a.length : Nat) : Int), ()) else .inr false) :=
  loop_all (step := F.spec_SetApart.s4) a (fun k => (a, b, (k : Int), ())) (fun x => b.all (ap1 x)) false (fun k hk => by
    unfold F.spec_SetApart.s4
    simp only
    rw [lt_len hk, specApart_in a b k hk hb]
    simp only [cond_true]
    cases b.all (ap1 a[k]) with
    | false => rfl
    | true => simp only [cond_true, afterO]; rw [w64_nat (by omega)]) (by
    unfold F.spec_SetApart.s4
    simp only [ge_len, cond_false])
theorem implApart_in (a b : List Sp) (i : Nat) (x : Sp) (hb : b.length ≤ 1048576) : loopO F.impl_SetApart.s7 (b, a, len a, (i : Int), b, len b, 0, x, ()) = some (bif b.all (ap1 x) then .inl (b, a, len a, (i : Int), b, len b, ((b.length : Nat) : Int), x, ()) else .inr (.ret false)) :=
  loop_all (step := F.impl_SetApart.s7) b (fun k => (b, a, len a, (i : Int), b, len b, (k : Int), x, ())) (ap1 x) (.ret false) (fun k hk => by
    unfold F.impl_SetApart.s7
    simp only
    rw [lt_len hk, inb_nat hk, Int.toNat_natCast, w64_nat (by omega), getD_at hk]
    simp only [cond_true, chk_true, ap1]
    cases decide (x.1 ≤ b[k].2.1) <;> cases decide (b[k].1 ≤ x.2.1) <;> rfl) (by
    unfold F.impl_SetApart.s7
    simp only [ge_len, cond_false])
theorem implApart_out (a b : List Sp) (ha : a.length ≤ 1048576) (hb : b.length ≤ 1048576) : loopO F.impl_SetApart.s4 (b, a, len a, 0, ()) = some (bif apB a b then .inl (b, a, len a, ((a.length : Nat) : Int), ()) else .inr false) :=
  loop_all (step := F.impl_SetApart.s4) a (fun k => (b, a, len a, (k : Int), ())) (fun x => b.all (ap1 x)) false (fun k hk => by
    unfold F.impl_SetApart.s4
    simp only
    rw [lt_len hk, inb_nat hk, Int.toNat_natCast, getD_at hk, implApart_in a b k a[k] hb]
    simp only [cond_true, chk_true]
    cases b.all (ap1 a[k]) with
    | false => rfl
    | true => simp only [cond_true, afterO]; rw [w64_nat (by omega)]) (by
    unfold F.impl_SetApart.s4
    simp only [ge_len, cond_false])
theorem specApart_eq (a b : List Sp) (ha : a.length ≤ 1048576) (hb : b.length ≤ 1048576) : F.spec_SetApart a b = some (decB (Good a) && (decB (Good b) && apB a b)) := by
  unfold F.spec_SetApart
  simp only [specSet_dec a ha, specSet_dec b hb, Option.bind_some, specApart_out a b ha hb]
  cases decB (Good a) <;> cases decB (Good b) <;> cases apB a b <;> rfl
theorem implApart_eq (a b : List Sp) (ha : a.length ≤ 1048576) (hb : b.length ≤ 1048576) : F.impl_SetApart a b = some (decB (Good a) && (decB (Good b) && apB a b)) := by
  unfold F.impl_SetApart
  simp only [implSet_dec a ha, implSet_dec b hb, Option.bind_some, implApart_out a b ha hb]
  cases decB (Good a) <;> cases decB (Good b) <;> cases apB a b <;> rfl
theorem apB_comm (a b : List Sp) : apB a b = apB b a := by
  rw [Bool.eq_iff_iff]
  unfold apB
  simp only [List.all_eq_true]
  have : ∀ x y : Sp, ap1 x y = ap1 y x := fun x y => by unfold ap1; rw [Bool.and_comm]
  exact ⟨fun h y hy x hx => by rw [this]; exact h x hx y hy, fun h x hx y hy => by rw [this]; exact h y hy x hx⟩
/- Sums over lists. -/

theorem sum_mem {α : Type} {f : α → Nat} {l : List α} {x : α} (h : x ∈ l) : f x ≤ (l.map f).sum := by
  induction l with
  | nil => cases h
  | cons y l ih =>
    simp only [List.map_cons, List.sum_cons]
    rcases List.mem_cons.1 h with rfl | h
    · omega
    · have := ih h; omega
theorem sum_le {α : Type} {f g : α → Nat} {n : Nat} : ∀ {l : List α}, (∀ x ∈ l, f x ≤ n + 10 * g x) → (l.map f).sum ≤ n * l.length + 10 * (l.map g).sum
  | [], _ => by simp
  | x :: l, h => by
    have h1 := h x (by simp)
    have h2 := sum_le (l := l) (fun y hy => h y (by simp [hy]))
    simp only [List.map_cons, List.sum_cons, List.length_cons, Nat.mul_add]
    omega
/- IntS: copied, compared, counted. -/

def zIntS (l : List Int) : Nat := l.length
def fIntS (l : List Int) : Prop := l.length ≤ maxLen
/- IntSS: copied, compared, counted. -/

def zIntSS (l : List (List Int)) : Nat := l.length + (l.map zIntS).sum
def fIntSS (l : List (List Int)) : Prop := l.length ≤ maxLen ∧ ∀ x ∈ l, fIntS x
/- Sketch: copied, compared, counted. -/

def zSketch (a : DSketch) : Nat := zIntS a.2.2.2.2.1 + zIntS a.2.2.2.2.2.1 + zIntSS a.2.2.2.2.2.2.1
def fSketch (a : DSketch) : Prop := fIntS a.2.2.2.2.1 ∧ fIntS a.2.2.2.2.2.1 ∧ fIntSS a.2.2.2.2.2.2.1
/- Sketches: what a right one is; both tests ask for it. -/

/-- So many numbers, each from 0 to a most; all 0 where z. -/
def l3B (l : List Int) (n m : Int) (z : Bool) : Bool := (len l == n) && l.all (fun x => inR 0 m x && (!z || x == 0))
theorem l3List_eq (l : List Int) (n : Nat) (m : Int) (z : Bool) (h : l.length ≤ 1048576) : F.spec_l3List l n m z = some (l3B l n m z) := by
  unfold F.spec_l3List l3B
  by_cases hl : l.length = n
  · subst hl
    rw [show (len l != ((l.length : Nat) : Int)) = false by simp [len], show (len l == ((l.length : Nat) : Int)) = true by simp [len]]
    have hh := loop_all (step := F.spec_l3List.s4) l (fun i => (l, ((l.length : Nat) : Int), m, z, (i : Int), ())) (fun x => inR 0 m x && (!z || x == 0)) false (fun i hi => by
      unfold F.spec_l3List.s4
      simp only
      rw [show decide ((i : Int) < ((l.length : Nat) : Int)) = true from decide_eq_true (by omega), inb_nat hi, Int.toNat_natCast, w64_nat (by omega), getD_at hi, l1In_eq]
      simp only [cond_true, chk_true, Option.bind_some]
      cases inR 0 m l[i] with
      | false => rfl
      | true =>
        cases z with
        | false => rfl
        | true =>
          simp only [Bool.not_true, cond_false, cond_true, Bool.false_or, Bool.true_and]
          cases hx : (l[i] == 0) with
          | true => simp [bne, hx]
          | false => simp [bne, hx]) (by
      unfold F.spec_l3List.s4
      simp only
      rw [show decide (((l.length : Nat) : Int) < ((l.length : Nat) : Int)) = false from decide_eq_false (by omega)]; rfl)
    simp only [cond_false, Bool.true_and]
    refine (congrArg (fun z => afterO z _) hh).trans ?_
    cases l.all (fun x => inR 0 m x && (!z || x == 0)) <;> rfl
  · rw [show (len l != (n : Int)) = true by simp only [len, bne_iff_ne, ne_eq]; omega, show (len l == (n : Int)) = false by simp only [len, beq_eq_false_iff_ne, ne_eq]; omega]
    rfl
/-- A right sketch. -/
structure SkR (s : DSketch) : Prop where
  cnt : 0 ≤ s.1 ∧ s.1 ≤ 1000000000
  sum : 0 ≤ s.2.1 ∧ s.2.1 ≤ 1000000000
  mn : 0 ≤ s.2.2.1
  mm : s.2.2.1 ≤ s.2.2.2.1
  mx : s.2.2.2.1 ≤ 1000000
  zero : s.1 = 0 → s.2.1 = 0 ∧ s.2.2.2.1 = 0
  hist : s.2.2.2.2.1.length = 8 ∧ ∀ x ∈ s.2.2.2.2.1, (0 ≤ x ∧ x ≤ 1000000000) ∧ (s.1 = 0 → x = 0)
  regs : s.2.2.2.2.2.1.length = 8 ∧ ∀ x ∈ s.2.2.2.2.2.1, (0 ≤ x ∧ x ≤ 17) ∧ (s.1 = 0 → x = 0)
  rows : ∃ r0 r1, s.2.2.2.2.2.2.1 = [r0, r1] ∧ (r0.length = 4 ∧ ∀ x ∈ r0, (0 ≤ x ∧ x ≤ 1000000000) ∧ (s.1 = 0 → x = 0)) ∧ (r1.length = 4 ∧ ∀ x ∈ r1, (0 ≤ x ∧ x ≤ 1000000000) ∧ (s.1 = 0 → x = 0))
theorem l3B_iff {l : List Int} {n : Nat} {m : Int} {c : Int} : l3B l n m (c == 0) = true ↔ l.length = n ∧ ∀ x ∈ l, (0 ≤ x ∧ x ≤ m) ∧ (c = 0 → x = 0) := by
  unfold l3B
  rw [Bool.and_eq_true, List.all_eq_true, beq_iff_eq]
  constructor
  · rintro ⟨h1, h2⟩
    refine ⟨Int.ofNat.inj h1, fun x hx => ?_⟩
    have := h2 x hx
    rw [Bool.and_eq_true, inR_iff] at this
    refine ⟨this.1, fun hc => ?_⟩
    have h3 := this.2
    rw [show (c == 0) = true by simp [hc]] at h3
    simpa using h3
  · rintro ⟨h1, h2⟩
    refine ⟨congrArg Int.ofNat h1, fun x hx => ?_⟩
    obtain ⟨h3, h4⟩ := h2 x hx
    rw [Bool.and_eq_true, inR_iff]
    refine ⟨h3, ?_⟩
    by_cases hc : c = 0
    · simp [hc, h4 hc]
    · simp [hc]
def specB (c su mn mx : Int) (hi re r0 r1 : List Int) : Bool :=
  inR 0 1000000000 c && (inR 0 1000000000 su && (inR 0 1000000 mn && (inR 0 1000000 mx && (!decide (mn > mx) && ((!(c == 0) || (su == 0 && mx == 0)) && (l3B hi 8 1000000000 (c == 0) && (l3B re 8 17 (c == 0) && (l3B r0 4 1000000000 (c == 0) && l3B r1 4 1000000000 (c == 0)))))))))
theorem two_rows {l : List (List Int)} (h : l.length = 2) : ∃ a b, l = [a, b] := by
  match l, h with
  | [a, b], _ => exact ⟨a, b, rfl⟩
theorem specSk_eq (c su mn mx : Int) (hi re r0 r1 : List Int) (u : Unit) (h1 : hi.length ≤ 1048576) (h2 : re.length ≤ 1048576) (h3 : r0.length ≤ 1048576) (h4 : r1.length ≤ 1048576) : F.spec_SketchOk (c, su, mn, mx, hi, re, [r0, r1], u) = some (specB c su mn mx hi re r0 r1) := by
  unfold F.spec_SketchOk specB
  have e0 : F.spec_l3List hi 8 1000000000 (c == 0) = some (l3B hi 8 1000000000 (c == 0)) := l3List_eq hi 8 1000000000 (c == 0) h1
  have e1 : F.spec_l3List re 8 17 (c == 0) = some (l3B re 8 17 (c == 0)) := l3List_eq re 8 17 (c == 0) h2
  have e2 : F.spec_l3List r0 4 1000000000 (c == 0) = some (l3B r0 4 1000000000 (c == 0)) := l3List_eq r0 4 1000000000 (c == 0) h3
  have e3 : F.spec_l3List r1 4 1000000000 (c == 0) = some (l3B r1 4 1000000000 (c == 0)) := l3List_eq r1 4 1000000000 (c == 0) h4
  have i0 : inb 0 [r0, r1].length = true := rfl
  have i1 : inb 1 [r0, r1].length = true := rfl
  have il : (len [r0, r1] != 2) = false := rfl
  simp only [l1In_eq, Option.bind_some, e0, e1, i0, i1, il, chk_true, List.getD_cons_zero, List.getD_cons_succ, e2, e3]
  cases inR 0 1000000000 c with
  | false => rfl
  | true => cases inR 0 1000000000 su with
    | false => rfl
    | true => cases inR 0 1000000 mn with
      | false => rfl
      | true => cases inR 0 1000000 mx with
        | false => rfl
        | true => cases decide (mn > mx) with
          | true => rfl
          | false =>
            generalize l3B hi 8 1000000000 (c == 0) = b1
            generalize l3B re 8 17 (c == 0) = b2
            generalize l3B r0 4 1000000000 (c == 0) = b3
            generalize l3B r1 4 1000000000 (c == 0) = b4
            cases (c == 0) with
            | false => cases b1 <;> cases b2 <;> cases b3 <;> rfl
            | true =>
              cases hs : (su == 0) with
              | false => simp [bne, hs]
              | true => cases hm : (mx == 0) with
                | false => simp [bne, hs, hm]
                | true => simp only [bne, hs, hm]; cases b1 <;> cases b2 <;> cases b3 <;> rfl
theorem specB_iff {c su mn mx : Int} {hi re r0 r1 : List Int} {u : Unit} : specB c su mn mx hi re r0 r1 = true ↔ SkR (c, su, mn, mx, hi, re, [r0, r1], u) := by
  have g0 : l3B hi 8 1000000000 (c == 0) = true ↔ _ := @l3B_iff hi 8 1000000000 c
  have g1 : l3B re 8 17 (c == 0) = true ↔ _ := @l3B_iff re 8 17 c
  have g2 : l3B r0 4 1000000000 (c == 0) = true ↔ _ := @l3B_iff r0 4 1000000000 c
  have g3 : l3B r1 4 1000000000 (c == 0) = true ↔ _ := @l3B_iff r1 4 1000000000 c
  unfold specB
  simp only [Bool.and_eq_true, inR_iff, g0, g1, g2, g3, Bool.not_eq_true', decide_eq_false_iff_not, Bool.or_eq_true, beq_eq_false_iff_ne, beq_iff_eq]
  constructor
  · rintro ⟨a1, a2, a3, a4, a5, a6, a7, a8, a9, a10⟩
    exact ⟨a1, a2, a3.1, by simp only; omega, a4.2, fun hc => a6.resolve_left (fun h => h hc), a7, a8, r0, r1, rfl, a9, a10⟩
  · rintro ⟨a1, a2, a3, a4, a5, a6, a7, a8, s0, s1, hs, a9, a10⟩
    cases hs
    simp only at *
    refine ⟨a1, a2, ⟨by omega, by omega⟩, ⟨by omega, a5⟩, by omega, ?_, a7, a8, a9, a10⟩
    by_cases hc : c = 0
    · exact .inr (a6 hc)
    · exact .inl hc
/- Sketches: the program's test asks for the same. -/

theorem flat_len : ∀ (l : List (List Int)), l.flatten.length = (l.map List.length).sum
  | [] => rfl
  | x :: l => by simp [flat_len l]
theorem take_flat_le (l : List (List Int)) (i : Nat) : (l.take i).flatten.length ≤ l.flatten.length := by
  have h := congrArg (fun z : List (List Int) => z.flatten.length) (List.take_append_drop i l)
  simp only [List.flatten_append, List.length_append] at h
  omega
theorem counts_eq (s : DSketch) (h : zSketch s ≤ 1048576) : F.impl_counts s = some ((s.2.2.2.2.1 ++ s.2.2.2.2.2.1) ++ s.2.2.2.2.2.2.1.flatten) := by
  have hz : s.2.2.2.2.1.length + s.2.2.2.2.2.1.length + (s.2.2.2.2.2.2.1.length + s.2.2.2.2.2.2.1.flatten.length) ≤ 1048576 := by
    rw [flat_len]; exact h
  unfold F.impl_counts F.impl_copyInts
  rw [fits_of (by omega), chk_true, Option.bind_some, fits_of (by omega), chk_true]
  have hl := loop_run (step := F.impl_counts.s3) (fun i => ((s.2.2.2.2.1 ++ s.2.2.2.2.2.1) ++ (s.2.2.2.2.2.2.1.take i).flatten, s.2.2.2.2.2.2.1, len s.2.2.2.2.2.2.1, (i : Int), ())) s.2.2.2.2.2.2.1.length (fun i hi => by
    have h1 := take_flat_le s.2.2.2.2.2.2.1 (i + 1)
    have h2 : (s.2.2.2.2.2.2.1.take (i + 1)).flatten = (s.2.2.2.2.2.2.1.take i).flatten ++ s.2.2.2.2.2.2.1[i] := by
      rw [List.take_succ_eq_append_getElem hi, List.flatten_append]; simp
    rw [h2, List.length_append] at h1
    unfold F.impl_counts.s3
    simp only
    rw [lt_len hi, inb_nat hi, Int.toNat_natCast, w64_nat (by omega), getD_at hi, fits_of (by simp only [List.length_append]; omega), h2]
    simp only [cond_true, chk_true, List.append_assoc]) (l := .exit ((s.2.2.2.2.1 ++ s.2.2.2.2.2.1) ++ s.2.2.2.2.2.2.1.flatten, s.2.2.2.2.2.2.1, len s.2.2.2.2.2.2.1, ((s.2.2.2.2.2.2.1.length : Nat) : Int), ())) (y := .inl ((s.2.2.2.2.1 ++ s.2.2.2.2.2.1) ++ s.2.2.2.2.2.2.1.flatten, s.2.2.2.2.2.2.1, len s.2.2.2.2.2.2.1, ((s.2.2.2.2.2.2.1.length : Nat) : Int), ())) (by
    unfold F.impl_counts.s3
    simp only [ge_len, cond_false, List.take_length]) rfl
  have e0 : (s.2.2.2.2.1 ++ s.2.2.2.2.2.1) ++ (s.2.2.2.2.2.2.1.take 0).flatten = s.2.2.2.2.1 ++ s.2.2.2.2.2.1 := by simp
  have hl : loopO F.impl_counts.s3 ((s.2.2.2.2.1 ++ s.2.2.2.2.2.1) ++ (s.2.2.2.2.2.2.1.take 0).flatten, s.2.2.2.2.2.2.1, len s.2.2.2.2.2.2.1, 0, ()) = _ := hl
  rw [e0] at hl
  simp only [hl, afterO]
/-- All in bounds, and their sum. -/
theorem sum_loop (l : List Int) (s : DSketch) (h : l.length ≤ 1048576) : loopO F.impl_SketchOk.s5 (0, l, len l, 0, s, ()) = some (bif l.all (inR 0 1000000000) then .inl (l.sum, l, len l, ((l.length : Nat) : Int), s, ()) else .inr false) := by
  obtain ⟨h1, _⟩ := loop_l (step := F.impl_SketchOk.s5) l (fun i acc => (acc, l, len l, (i : Int), s, ())) (fun _ acc x => bif inR 0 1000000000 x then .inl (acc + x) else .inr false) (fun i acc => 0 ≤ acc ∧ acc ≤ (i : Int) * 1000000000) (fun i acc hi hp => by
    unfold F.impl_SketchOk.s5
    simp only
    rw [lt_len hi, inb_nat hi, Int.toNat_natCast, w64_nat (by omega), getD_at hi, within_eq]
    simp only [cond_true, chk_true, Option.bind_some]
    cases hx : inR 0 1000000000 l[i] with
    | false => exact ⟨rfl, fun s' e => by cases e⟩
    | true =>
      have hb := inR_iff.1 hx
      rw [w64_id (x := acc + l[i]) (by omega) (by omega)]
      refine ⟨rfl, fun s' e => ?_⟩
      cases e
      refine ⟨by omega, ?_⟩
      rw [show ((i + 1 : Nat) : Int) * 1000000000 = (i : Int) * 1000000000 + 1000000000 by omega]
      omega) (fun acc _ => by
    unfold F.impl_SketchOk.s5
    simp only [ge_len, cond_false]) (s := 0) ⟨Int.le_refl 0, by omega⟩
  refine h1.trans (congrArg some ?_)
  have key : ∀ (m : List Int) (i : Nat) (acc : Int), Sum.map (fun acc => (acc, l, len l, ((l.length : Nat) : Int), s, ())) id (runL (fun _ acc x => bif inR 0 1000000000 x then (.inl (acc + x) : Int ⊕ Bool) else .inr false) i m acc) = bif m.all (inR 0 1000000000) then .inl (acc + m.sum, l, len l, ((l.length : Nat) : Int), s, ()) else .inr false := by
    intro m
    induction m with
    | nil => intro i acc; simp [runL]
    | cons x m ih =>
      intro i acc
      simp only [runL, List.all_cons]
      cases inR 0 1000000000 x with
      | false => rfl
      | true =>
        simp only [cond_true, ih, Bool.true_and, List.sum_cons, Int.add_assoc]
  rw [key l 0 0, Int.zero_add]
theorem max_loop (l : List Int) (n : Int) (s : DSketch) (h : l.length ≤ 1048576) : loopO F.impl_SketchOk.s12 (n, l, len l, 0, s, ()) = some (bif l.all (fun x => !decide (x > 17)) then .inl (n, l, len l, ((l.length : Nat) : Int), s, ()) else .inr false) :=
  loop_all (step := F.impl_SketchOk.s12) l (fun i => (n, l, len l, (i : Int), s, ())) (fun x => !decide (x > 17)) false (fun i hi => by
    unfold F.impl_SketchOk.s12
    simp only
    rw [lt_len hi, inb_nat hi, Int.toNat_natCast, w64_nat (by omega), getD_at hi]
    simp only [cond_true, chk_true]
    cases decide (l[i] > 17) <;> rfl) (by
    unfold F.impl_SketchOk.s12
    simp only [ge_len, cond_false])
theorem sum_zero : ∀ {l : List Int}, (∀ x ∈ l, 0 ≤ x) → (0 ≤ l.sum ∧ (l.sum = 0 ↔ ∀ x ∈ l, x = 0))
  | [], _ => ⟨Int.le_refl 0, by simp⟩
  | x :: l, h => by
    obtain ⟨h1, h2⟩ := sum_zero (l := l) (fun y hy => h y (by simp [hy]))
    have h3 := h x (by simp)
    rw [List.sum_cons]
    refine ⟨by omega, ⟨fun e y hy => ?_, fun e => ?_⟩⟩
    · rcases List.mem_cons.1 hy with rfl | hy
      · omega
      · exact h2.1 (by omega) y hy
    · have := h2.2 (fun y hy => e y (by simp [hy]))
      have := e x (by simp)
      omega
def implB (c su mn mx : Int) (hi re r0 r1 : List Int) : Bool :=
  (((hi ++ re) ++ [r0, r1].flatten) ++ [c, su, mn, mx]).all (inR 0 1000000000) && (re.all (fun x => !decide (x > 17)) && (if c = 0 then (((hi ++ re) ++ [r0, r1].flatten) ++ [c, su, mn, mx]).sum == 0 else decide (mn ≤ mx) && decide (mx ≤ 1000000)))
theorem implSk_eq (c su mn mx : Int) (hi re r0 r1 : List Int) (u : Unit) (h : zSketch (c, su, mn, mx, hi, re, [r0, r1], u) ≤ 1048576) (h1 : hi.length = 8) (h2 : re.length = 8) (h3 : r0.length = 4) (h4 : r1.length = 4) : F.impl_SketchOk (c, su, mn, mx, hi, re, [r0, r1], u) = some (implB c su mn mx hi re r0 r1) := by
  unfold F.impl_SketchOk implB
  have hc := counts_eq (c, su, mn, mx, hi, re, [r0, r1], u) h
  simp only at hc
  have e1 : (len hi != 8) = false := by simp [len, h1]
  have e2 : (len re != 8) = false := by simp [len, h2]
  have e3 : (len [r0, r1] != 2) = false := rfl
  have e4 : (len r0 != 4) = false := by simp [len, h3]
  have e5 : (len r1 != 4) = false := by simp [len, h4]
  have i0 : inb 0 [r0, r1].length = true := rfl
  have i1 : inb 1 [r0, r1].length = true := rfl
  simp only [e1, e2, e3, i0, i1, chk_true, List.getD_cons_zero, List.getD_cons_succ, e4, e5, cond_false, hc, Option.bind_some]
  have hn : (((hi ++ re) ++ [r0, r1].flatten) ++ [c, su, mn, mx]).length = 28 := by simp [h1, h2, h3, h4]
  have hn2 : ((hi ++ re) ++ [r0, r1].flatten).length = 24 := by simp [h1, h2, h3, h4]
  rw [fits_of (by rw [hn2]; simp), chk_true, sum_loop _ _ (by rw [hn]; omega)]
  generalize ((hi ++ re) ++ [r0, r1].flatten) ++ [c, su, mn, mx] = nums at *
  cases nums.all (inR 0 1000000000) with
  | false => rfl
  | true =>
    simp only [cond_true, afterO, Bool.true_and]
    rw [max_loop _ _ _ (by omega)]
    cases re.all (fun x => !decide (x > 17)) with
    | false => rfl
    | true =>
      simp only [cond_true, Bool.true_and]
      by_cases hc0 : c = 0
      · rw [if_pos hc0, show (c == 0) = true by simp [hc0]]; rfl
      · rw [if_neg hc0, show (c == 0) = false by simp [hc0]]
        simp only [cond_false]
        cases decide (mn ≤ mx) <;> rfl
theorem implB_iff {c su mn mx : Int} {hi re r0 r1 : List Int} {u : Unit} (h1 : hi.length = 8) (h2 : re.length = 8) (h3 : r0.length = 4) (h4 : r1.length = 4) : implB c su mn mx hi re r0 r1 = true ↔ SkR (c, su, mn, mx, hi, re, [r0, r1], u) := by
  unfold implB
  have hall : (((hi ++ re) ++ [r0, r1].flatten) ++ [c, su, mn, mx]).all (inR 0 1000000000) = true ↔ ∀ x ∈ ((hi ++ re) ++ [r0, r1].flatten) ++ [c, su, mn, mx], 0 ≤ x ∧ x ≤ 1000000000 := by
    rw [List.all_eq_true]
    exact ⟨fun h x hx => inR_iff.1 (h x hx), fun h x hx => inR_iff.2 (h x hx)⟩
  have hmem : ∀ x, x ∈ ((hi ++ re) ++ [r0, r1].flatten) ++ [c, su, mn, mx] ↔ (x ∈ hi ∨ x ∈ re ∨ x ∈ r0 ∨ x ∈ r1 ∨ x = c ∨ x = su ∨ x = mn ∨ x = mx) := by
    intro x; simp
  have h17 : re.all (fun x => !decide (x > 17)) = true ↔ ∀ x ∈ re, x ≤ 17 := by
    rw [List.all_eq_true]
    refine ⟨fun h x hx => ?_, fun h x hx => ?_⟩
    · have := h x hx; simp at this; omega
    · have := h x hx; simp; omega
  rw [Bool.and_eq_true, Bool.and_eq_true, hall, h17]
  constructor
  · rintro ⟨a1, a2, a3⟩
    have q : ∀ x, (x ∈ hi ∨ x ∈ re ∨ x ∈ r0 ∨ x ∈ r1 ∨ x = c ∨ x = su ∨ x = mn ∨ x = mx) → 0 ≤ x ∧ x ≤ 1000000000 := fun x hx => a1 x ((hmem x).2 hx)
    have qc := q c (by simp)
    have qs := q su (by simp)
    have qn := q mn (by simp)
    have qx := q mx (by simp)
    by_cases hc : c = 0
    · rw [if_pos hc, beq_iff_eq] at a3
      have hz := (sum_zero (fun x hx => (a1 x hx).1)).2.1 a3
      have z : ∀ x, (x ∈ hi ∨ x ∈ re ∨ x ∈ r0 ∨ x ∈ r1 ∨ x = c ∨ x = su ∨ x = mn ∨ x = mx) → x = 0 := fun x hx => hz x ((hmem x).2 hx)
      have zs := z su (by simp)
      have zn := z mn (by simp)
      have zx := z mx (by simp)
      exact ⟨qc, qs, by simp only; omega, by simp only; omega, by simp only; omega, fun _ => ⟨zs, zx⟩, ⟨h1, fun x hx => ⟨q x (.inl hx), fun _ => z x (.inl hx)⟩⟩, ⟨h2, fun x hx => ⟨⟨(q x (.inr (.inl hx))).1, a2 x hx⟩, fun _ => z x (.inr (.inl hx))⟩⟩,
        r0, r1, rfl, ⟨h3, fun x hx => ⟨q x (by simp [hx]), fun _ => z x (by simp [hx])⟩⟩, ⟨h4, fun x hx => ⟨q x (by simp [hx]), fun _ => z x (by simp [hx])⟩⟩⟩
    · rw [if_neg hc, Bool.and_eq_true, decide_eq_true_eq, decide_eq_true_eq] at a3
      exact ⟨qc, qs, qn.1, a3.1, a3.2, fun h => absurd h hc, ⟨h1, fun x hx => ⟨q x (.inl hx), fun h => absurd h hc⟩⟩, ⟨h2, fun x hx => ⟨⟨(q x (.inr (.inl hx))).1, a2 x hx⟩, fun h => absurd h hc⟩⟩,
        r0, r1, rfl, ⟨h3, fun x hx => ⟨q x (by simp [hx]), fun h => absurd h hc⟩⟩, ⟨h4, fun x hx => ⟨q x (by simp [hx]), fun h => absurd h hc⟩⟩⟩
  · rintro ⟨b1, b2, b3, b4, b5, b6, b7, b8, s0, s1, hs, b9, b10⟩
    cases hs
    simp only at b1 b2 b3 b4 b5 b6 b7 b8 b9 b10
    refine ⟨fun x hx => ?_, fun x hx => (b8.2 x hx).1.2, ?_⟩
    · rcases (hmem x).1 hx with h | h | h | h | h | h | h | h
      · exact (b7.2 x h).1
      · have := (b8.2 x h).1; omega
      · exact (b9.2 x h).1
      · exact (b10.2 x h).1
      all_goals omega
    · by_cases hc : c = 0
      · rw [if_pos hc, beq_iff_eq]
        obtain ⟨z1, z2⟩ := b6 hc
        have hz : ∀ x ∈ ((hi ++ re) ++ [r0, r1].flatten) ++ [c, su, mn, mx], x = 0 := fun x hx => by
          rcases (hmem x).1 hx with h | h | h | h | h | h | h | h
          · exact (b7.2 x h).2 hc
          · exact (b8.2 x h).2 hc
          · exact (b9.2 x h).2 hc
          · exact (b10.2 x h).2 hc
          all_goals omega
        exact (sum_zero (fun x hx => by rw [hz x hx]; exact Int.le_refl 0)).2.2 hz
      · rw [if_neg hc, Bool.and_eq_true, decide_eq_true_eq, decide_eq_true_eq]
        exact ⟨b4, b5⟩
/-- Both tests of a sketch. -/
theorem skOk_same (s : DSketch) (h : zSketch s ≤ 1048576) : ∃ b, F.spec_SketchOk s = some b ∧ F.impl_SketchOk s = some b ∧ (b = true ↔ SkR s) := by
  obtain ⟨c, su, mn, mx, hi, re, ro, u⟩ := s
  have hz : hi.length + re.length + (ro.length + (ro.map List.length).sum) ≤ 1048576 := h
  by_cases hr : ro.length = 2
  · obtain ⟨r0, r1, rfl⟩ := two_rows hr
    simp only [List.map_cons, List.map_nil, List.sum_cons, List.sum_nil] at hz
    have hsp := specSk_eq c su mn mx hi re r0 r1 u (by omega) (by omega) (by omega) (by omega)
    by_cases hl : hi.length = 8 ∧ re.length = 8 ∧ r0.length = 4 ∧ r1.length = 4
    · obtain ⟨h1, h2, h3, h4⟩ := hl
      have him := implSk_eq c su mn mx hi re r0 r1 u h h1 h2 h3 h4
      have e : implB c su mn mx hi re r0 r1 = specB c su mn mx hi re r0 r1 := by
        rw [Bool.eq_iff_iff, implB_iff (u := u) h1 h2 h3 h4, specB_iff]
      exact ⟨_, hsp, him.trans (congrArg some e), specB_iff⟩
    · have hb : specB c su mn mx hi re r0 r1 = false := by
        cases hb : specB c su mn mx hi re r0 r1 with
        | false => rfl
        | true =>
          obtain ⟨_, _, _, _, _, _, b7, b8, s0, s1, hs, b9, b10⟩ := (specB_iff (u := u)).1 hb
          cases hs
          exact absurd ⟨b7.1, b8.1, b9.1, b10.1⟩ hl
      refine ⟨false, hsp.trans (congrArg some hb), ?_, ?_⟩
      · unfold F.impl_SketchOk
        have e3 : (len [r0, r1] != 2) = false := rfl
        have i0 : inb 0 [r0, r1].length = true := rfl
        have i1 : inb 1 [r0, r1].length = true := rfl
        simp only [e3, i0, i1, chk_true, List.getD_cons_zero, List.getD_cons_succ]
        by_cases h1 : hi.length = 8
        · rw [show (len hi != 8) = false by simp [len, h1]]
          by_cases h2 : re.length = 8
          · rw [show (len re != 8) = false by simp [len, h2]]
            by_cases h3 : r0.length = 4
            · rw [show (len r0 != 4) = false by simp [len, h3]]
              have h4 : r1.length ≠ 4 := fun h4 => hl ⟨h1, h2, h3, h4⟩
              rw [show (len r1 != 4) = true by simp only [len, bne_iff_ne, ne_eq]; omega]; rfl
            · rw [show (len r0 != 4) = true by simp only [len, bne_iff_ne, ne_eq]; omega]; rfl
          · rw [show (len re != 8) = true by simp only [len, bne_iff_ne, ne_eq]; omega]; rfl
        · rw [show (len hi != 8) = true by simp only [len, bne_iff_ne, ne_eq]; omega]; rfl
      · rw [← hb]; exact specB_iff
  · refine ⟨false, ?_, ?_, ⟨fun h => (by cases h), fun hs => ?_⟩⟩
    · unfold F.spec_SketchOk
      simp only [l1In_eq, Option.bind_some]
      rw [show (len ro != 2) = true by simp only [len, bne_iff_ne, ne_eq]; omega]
      cases inR 0 1000000000 c <;> cases inR 0 1000000000 su <;> cases inR 0 1000000 mn <;> cases inR 0 1000000 mx <;> cases decide (mn > mx) <;> rfl
    · unfold F.impl_SketchOk
      simp only
      rw [show (len ro != 2) = true by simp only [len, bne_iff_ne, ne_eq]; omega]
      cases (len hi != 8) <;> cases (len re != 8) <;> rfl
    · obtain ⟨r0, r1, hr', _⟩ := hs.rows
      have hr' : ro = [r0, r1] := hr'
      exact absurd (by rw [hr']; rfl) hr
/- Item: copied, compared, counted. -/

def zItem (a : DItem) : Nat := zSketch a.2.2.2.2.1
def fItem (a : DItem) : Prop := fSketch a.2.2.2.2.1
/- Items, and what is zero. -/

/-- A right item. -/
structure ItR (x : DItem) : Prop where
  seq : 1 ≤ x.1 ∧ x.1 ≤ 60
  cls : 0 ≤ x.2.1 ∧ x.2.1 ≤ 1
  key : 0 ≤ x.2.2.1 ∧ x.2.2.1 ≤ 4
  win : 0 ≤ x.2.2.2.1 ∧ x.2.2.2.1 ≤ 20
  sk : SkR x.2.2.2.2.1
theorem l6Place_eq (k w : Int) : F.spec_l6Place k w = some (inR 0 4 k && inR 0 20 w) := by
  unfold F.spec_l6Place
  simp only [l1In_eq, Option.bind_some]
  cases inR 0 4 k <;> rfl
/- Span: copied, compared, counted. -/

/- SpanS: copied, compared, counted. -/

def zSpanS (l : List DSpan) : Nat := l.length
def fSpanS (l : List DSpan) : Prop := l.length ≤ maxLen
/- Entry: copied, compared, counted. -/

def zEntry (a : DEntry) : Nat := zSpanS a.2.2.1 + zSketch a.2.2.2.1
def fEntry (a : DEntry) : Prop := fSpanS a.2.2.1 ∧ fSketch a.2.2.2.1
/- EntryS: copied, compared, counted. -/

def zEntryS (l : List DEntry) : Nat := l.length + (l.map zEntry).sum
def fEntryS (l : List DEntry) : Prop := l.length ≤ maxLen ∧ ∀ x ∈ l, fEntry x
/- Row: copied, compared, counted. -/

def zRow (a : DRow) : Nat := zEntryS a.1
def fRow (a : DRow) : Prop := fEntryS a.1
/- Entries and rows: what right ones are; both tests ask for it. -/

/-- A right entry. -/
structure EnR (e : DEntry) : Prop where
  key : 0 ≤ e.1 ∧ e.1 ≤ 4
  win : 0 ≤ e.2.1 ∧ e.2.1 ≤ 20
  ids : Good e.2.2.1
  some : e.2.2.1 ≠ []
  sk : SkR e.2.2.2.1
theorem specSk_dec (s : DSketch) (h : zSketch s ≤ 1048576) : F.spec_SketchOk s = some (decB (SkR s)) := by
  obtain ⟨b, h1, _, h3⟩ := skOk_same s h
  rw [h1, decB_eq h3]
theorem implSk_dec (s : DSketch) (h : zSketch s ≤ 1048576) : F.impl_SketchOk s = some (decB (SkR s)) := by
  obtain ⟨b, _, h1, h3⟩ := skOk_same s h
  rw [h1, decB_eq h3]
theorem len_pos {α : Type} (l : List α) : decide (len l > 0) = decB (l ≠ []) := by
  cases l with
  | nil => simp [len, decB]
  | cons x l => rw [decB_pos (by simp)]; simp [len]
theorem enR_and (e : DEntry) : (inR 0 4 e.1 && (inR 0 20 e.2.1 && (decB (Good e.2.2.1) && (decB (e.2.2.1 ≠ []) && decB (SkR e.2.2.2.1))))) = decB (EnR e) := by
  refine decB_eq ?_
  simp only [Bool.and_eq_true, inR_iff, decB_iff]
  exact ⟨fun ⟨a, b, c, d, f⟩ => ⟨a, b, c, d, f⟩, fun ⟨a, b, c, d, f⟩ => ⟨a, b, c, d, f⟩⟩
theorem specEn_dec (e : DEntry) (h : zEntry e ≤ 1048576) : F.spec_EntryOk e = some (decB (EnR e)) := by
  have hz : e.2.2.1.length + zSketch e.2.2.2.1 ≤ 1048576 := h
  unfold F.spec_EntryOk
  rw [← enR_and]
  simp only [l6Place_eq, specSet_dec _ (show e.2.2.1.length ≤ 1048576 by omega), specSk_dec _ (show zSketch e.2.2.2.1 ≤ 1048576 by omega), Option.bind_some, len_pos]
  cases inR 0 4 e.1 <;> cases inR 0 20 e.2.1 <;> cases decB (Good e.2.2.1) <;> cases decB (e.2.2.1 ≠ []) <;> rfl
theorem implEn_dec (e : DEntry) (h : zEntry e ≤ 1048576) : F.impl_EntryOk e = some (decB (EnR e)) := by
  have hz : e.2.2.1.length + zSketch e.2.2.2.1 ≤ 1048576 := h
  unfold F.impl_EntryOk
  rw [← enR_and]
  simp only [within_eq, implSet_dec _ (show e.2.2.1.length ≤ 1048576 by omega), implSk_dec _ (show zSketch e.2.2.2.1 ≤ 1048576 by omega), Option.bind_some, len_pos]
  cases inR 0 4 e.1 <;> cases inR 0 20 e.2.1 <;> cases decB (Good e.2.2.1) <;> cases decB (e.2.2.1 ≠ []) <;> rfl
/-- Right entries, no two of which share an id. -/
structure ApR (l : List DEntry) : Prop where
  all : ∀ e ∈ l, EnR e
  ap : l.Pairwise fun x y => apB y.2.2.1 x.2.2.1 = true
/-- Entry i is right, and apart from those ahead. -/
noncomputable def apAt (l : List DEntry) (i : Nat) : Bool := match l[i]? with
  | some e => decB (EnR e) && (l.take i).all fun x => apB e.2.2.1 x.2.2.1
  | none => true
theorem apAt_lt {l : List DEntry} {i : Nat} (h : i < l.length) : apAt l i = (decB (EnR l[i]) && (l.take i).all fun x => apB l[i].2.2.1 x.2.2.1) := by
  unfold apAt
  rw [List.getElem?_eq_getElem h]
theorem apAt_iff {l : List DEntry} : (List.range l.length).all (apAt l) = decB (ApR l) := by
  refine decB_eq ?_
  rw [range_all]
  constructor
  · intro h
    refine ⟨fun e he => ?_, List.pairwise_iff_getElem.2 fun i j hi hj hij => ?_⟩
    · obtain ⟨i, hi, rfl⟩ := List.getElem_of_mem he
      have := h i hi
      rw [apAt_lt hi, Bool.and_eq_true] at this
      exact decB_iff.1 this.1
    · have := h j hj
      rw [apAt_lt hj, Bool.and_eq_true, List.all_eq_true] at this
      exact this.2 _ (List.mem_take_iff_getElem.2 ⟨i, by omega, rfl⟩)
  · rintro ⟨h1, h2⟩ i hi
    rw [apAt_lt hi, Bool.and_eq_true, List.all_eq_true]
    refine ⟨decB_pos (h1 _ (List.getElem_mem hi)), fun x hx => ?_⟩
    obtain ⟨j, hj, rfl⟩ := List.mem_take_iff_getElem.1 hx
    exact List.pairwise_iff_getElem.1 h2 j i (by omega) hi (by omega)
theorem zE_mem {l : List DEntry} {e : DEntry} {n : Nat} (h : zEntryS l ≤ n) (he : e ∈ l) : zEntry e ≤ n := by
  have := sum_mem (f := zEntry) he
  unfold zEntryS at h
  omega
/-- Those ahead that are right. -/
theorem ahead_ok {l : List DEntry} {i : Nat} (hi : i < l.length) (hp : ∀ j, j < i → apAt l j = true) : ∀ k (hk : k < i), EnR (l[k]'(by omega)) := by
  intro k hk
  have := hp k hk
  rw [apAt_lt (by omega), Bool.and_eq_true] at this
  exact decB_iff.1 this.1
theorem implAp_in (l : List DEntry) (hl : zEntryS l ≤ 1048576) (i : Nat) (hi : i < l.length) (he : EnR l[i]) (hp : ∀ j, j < i → apAt l j = true) : loopO F.impl_apart.s7 (l, l, len l, (i : Int), l.take i, len (l.take i), 0, l[i], ()) = some (bif (l.take i).all (fun x => apB l[i].2.2.1 x.2.2.1) then .inl (l, l, len l, (i : Int), l.take i, len (l.take i), (((l.take i).length : Nat) : Int), l[i], ()) else .inr (.ret false)) := by
  have hlen : l.length ≤ 1048576 := by unfold zEntryS at hl; omega
  have htl : (l.take i).length = i := by rw [List.length_take]; omega
  exact loop_all (step := F.impl_apart.s7) (l.take i) (fun k => (l, l, len l, (i : Int), l.take i, len (l.take i), (k : Int), l[i], ())) (fun x => apB l[i].2.2.1 x.2.2.1) (.ret false) (fun k hk => by
    have hk' : k < l.length := by omega
    have hek := ahead_ok hi hp k (by omega)
    have z1 := zE_mem hl (List.getElem_mem hi)
    have z2 := zE_mem hl (List.getElem_mem hk')
    unfold zEntry zSpanS at z1 z2
    unfold F.impl_apart.s7
    simp only
    rw [lt_len hk, inb_nat hk, Int.toNat_natCast, w64_nat (by omega), getD_at hk, List.getElem_take, implApart_eq _ _ (by omega) (by omega), decB_pos he.ids, decB_pos hek.ids]
    simp only [cond_true, chk_true, Option.bind_some, Bool.true_and]
    cases apB l[i].2.2.1 l[k].2.2.1 <;> rfl) (by
    unfold F.impl_apart.s7
    simp only [ge_len, cond_false])
theorem implAp_eq (l : List DEntry) (hl : zEntryS l ≤ 1048576) : F.impl_apart l = some (decB (ApR l)) := by
  have hlen : l.length ≤ 1048576 := by unfold zEntryS at hl; omega
  unfold F.impl_apart
  have hh := loop_allN (step := F.impl_apart.s2) l.length (fun i => (l, l, len l, (i : Int), ())) (apAt l) false (fun i hi hp => by
    unfold F.impl_apart.s2
    simp only
    rw [lt_len hi, inb_nat hi, Int.toNat_natCast, getD_at hi, implEn_dec _ (zE_mem hl (List.getElem_mem hi)), apAt_lt hi]
    simp only [cond_true, chk_true, Option.bind_some]
    by_cases he : EnR l[i]
    · rw [decB_pos he, show cutOk 0 (i : Int) l.length = true by simp [cutOk]; omega, List.drop_zero, Nat.sub_zero, implAp_in l hl i hi he hp]
      simp only [Bool.not_true, cond_false, chk_true, Bool.true_and]
      cases (l.take i).all (fun x => apB l[i].2.2.1 x.2.2.1) with
      | false => rfl
      | true => simp only [cond_true, afterO]; rw [w64_nat (by omega)]
    · rw [decB_neg he]; rfl) (by
    unfold F.impl_apart.s2
    simp only [ge_len, cond_false])
  rw [show loopO F.impl_apart.s2 (l, l, len l, 0, ()) = _ from hh, apAt_iff]
  cases decB (ApR l) <;> rfl
/-- A right row. -/
structure RoR (r : DRow) : Prop where
  few : r.1.length ≤ 24
  ok : ApR r.1
theorem roR_and (r : DRow) : (!decide (len r.1 > 24) && decB (ApR r.1)) = decB (RoR r) := by
  refine decB_eq ?_
  rw [Bool.and_eq_true, decB_iff]
  constructor
  · rintro ⟨h1, h2⟩
    refine ⟨?_, h2⟩
    simp [len] at h1; omega
  · rintro ⟨h1, h2⟩
    refine ⟨?_, h2⟩
    simp [len]; omega
theorem implRow_dec (r : DRow) (h : zRow r ≤ 1048576) : F.impl_RowOk r = some (decB (RoR r)) := by
  have hl : zEntryS r.1 ≤ 1048576 := h
  unfold F.impl_RowOk
  rw [implAp_eq _ hl, ← roR_and]
  by_cases hd : len r.1 ≤ 24
  · rw [show decide (len r.1 ≤ 24) = true from decide_eq_true hd, show decide (len r.1 > 24) = false from decide_eq_false (by omega)]; rfl
  · rw [show decide (len r.1 ≤ 24) = false from decide_eq_false hd, show decide (len r.1 > 24) = true from decide_eq_true (by omega)]; rfl
theorem specRow_in (r : DRow) (hl : zEntryS r.1 ≤ 1048576) (i : Nat) (hi : i < r.1.length) (he : EnR r.1[i]) (hp : ∀ j, j < i → apAt r.1 j = true) : loopO F.spec_RowOk.s9 ((i : Int), 0, r, ()) = some (bif (r.1.take i).all (fun x => apB r.1[i].2.2.1 x.2.2.1) then .inl ((i : Int), (((r.1.take i).length : Nat) : Int), r, ()) else .inr (.ret false)) := by
  have hlen : r.1.length ≤ 1048576 := by unfold zEntryS at hl; omega
  have htl : (r.1.take i).length = i := by rw [List.length_take]; omega
  exact loop_all (step := F.spec_RowOk.s9) (r.1.take i) (fun k => ((i : Int), (k : Int), r, ())) (fun x => apB r.1[i].2.2.1 x.2.2.1) (.ret false) (fun k hk => by
    have hk' : k < r.1.length := by omega
    have hek := ahead_ok hi hp k (by omega)
    have z1 := zE_mem hl (List.getElem_mem hi)
    have z2 := zE_mem hl (List.getElem_mem hk')
    unfold zEntry zSpanS at z1 z2
    unfold F.spec_RowOk.s9
    simp only
    rw [show decide ((k : Int) < (i : Int)) = true from decide_eq_true (by omega), inb_nat hi, inb_nat hk', Int.toNat_natCast, Int.toNat_natCast, w64_nat (by omega), getD_at hi, getD_at hk', List.getElem_take, specApart_eq _ _ (by omega) (by omega), decB_pos he.ids, decB_pos hek.ids]
    simp only [cond_true, chk_true, Option.bind_some, Bool.true_and]
    cases apB r.1[i].2.2.1 r.1[k].2.2.1 <;> rfl) (by
    unfold F.spec_RowOk.s9
    simp only
    rw [htl, show decide ((i : Int) < (i : Int)) = false from decide_eq_false (by omega)]; rfl)
theorem specRow_dec (r : DRow) (h : zRow r ≤ 1048576) : F.spec_RowOk r = some (decB (RoR r)) := by
  have hl : zEntryS r.1 ≤ 1048576 := h
  have hlen : r.1.length ≤ 1048576 := by unfold zEntryS at hl; omega
  unfold F.spec_RowOk
  rw [← roR_and]
  have hh := loop_allN (step := F.spec_RowOk.s4) r.1.length (fun i => ((i : Int), r, ())) (apAt r.1) false (fun i hi hp => by
    unfold F.spec_RowOk.s4
    simp only
    rw [lt_len hi, inb_nat hi, Int.toNat_natCast, getD_at hi, specEn_dec _ (zE_mem hl (List.getElem_mem hi)), apAt_lt hi]
    simp only [cond_true, chk_true, Option.bind_some]
    by_cases he : EnR r.1[i]
    · rw [decB_pos he, specRow_in r hl i hi he hp]
      simp only [Bool.not_true, cond_false, Bool.true_and]
      cases (r.1.take i).all (fun x => apB r.1[i].2.2.1 x.2.2.1) with
      | false => rfl
      | true => simp only [cond_true, afterO]; rw [w64_nat (by omega)]
    · rw [decB_neg he]; rfl) (by
    unfold F.spec_RowOk.s4
    simp only [ge_len, cond_false])
  cases decide (len r.1 > 24) with
  | true => rfl
  | false =>
    simp only [cond_false]
    rw [show loopO F.spec_RowOk.s4 (0, r, ()) = _ from hh, apAt_iff]
    cases decB (ApR r.1) <;> rfl
theorem rowOk_same (r : DRow) (h : zRow r ≤ 1048576) : ∃ b, F.spec_RowOk r = some b ∧ F.impl_RowOk r = some b ∧ True :=
  ⟨_, specRow_dec r h, implRow_dec r h, trivial⟩
/- ItemS: copied, compared, counted. -/

def zItemS (l : List DItem) : Nat := l.length + (l.map zItem).sum
def fItemS (l : List DItem) : Prop := l.length ≤ maxLen ∧ ∀ x ∈ l, fItem x
/- Sets within bounds: both tests answer alike. -/

def Within (a : List Sp) (n : Int) : Prop := ∀ (i : Nat) (h : i < a.length), 1 ≤ a[i].1 ∧ a[i].2.1 ≤ n
/- How many numbers a set has: both answer alike. -/

theorem w64_step (x h l : Int) : w64 (w64 (w64 (x + h) - l) + 1) = w64 (x + w64 (w64 (h - l) + 1)) := by
  unfold w64 IntKind.wrap
  simp [IntKind.bits, IntKind.signed]
  omega
def accS (a : List Sp) : Nat → Int
  | 0 => 0
  | i + 1 => w64 (w64 (w64 (accS a i + (List.getD a i (0, 0, ())).2.1) - (List.getD a i (0, 0, ())).1) + 1)
/- Seat: copied, compared, counted. -/

/- Seats: whether one is right; copies; credit given; added up; given back. -/

theorem l5Copy_eq (a : List DSpan) (h : a.length ≤ 1048576) : F.spec_l5Copy a = some a := by
  unfold F.spec_l5Copy
  rw [fits_of (by simp; omega)]; rfl
theorem copySet_eq (a : List DSpan) (h : a.length ≤ 1048576) : F.impl_copySet a = some a := by
  unfold F.impl_copySet
  rw [fits_of (by omega)]; rfl
/- What is copied is as it was. -/

theorem take_snoc {α : Type} {l : List α} {i : Nat} (h : i < l.length) : l.take i ++ [l[i]] = l.take (i + 1) := by
  rw [List.take_add_one, List.getElem?_eq_getElem h]; rfl
theorem zIS_mem {l : List (List Int)} {e : List Int} {n : Nat} (h : zIntSS l ≤ n) (he : e ∈ l) : e.length ≤ n := by
  have := sum_mem (f := zIntS) he
  unfold zIntSS at h
  unfold zIntS at this
  unfold zIntS at h
  omega
theorem copyInts_eq (a : List Int) (h : a.length ≤ 1048576) : F.impl_copyInts a = some a := by
  unfold F.impl_copyInts
  rw [fits_of (by omega)]; rfl
theorem l3Copy_eq (s : DSketch) (h : zSketch s ≤ 1048576) : F.spec_l3Copy s = some s := by
  obtain ⟨a, b, c, d, hi, re, rs, u⟩ := s
  have hz : zIntS hi + zIntS re + zIntSS rs ≤ 1048576 := h
  have h1 : hi.length ≤ 1048576 := by unfold zIntS at hz; omega
  have h2 : re.length ≤ 1048576 := by unfold zIntS at hz; omega
  have h3 : rs.length ≤ 1048576 := by unfold zIntSS at hz; omega
  unfold F.spec_l3Copy
  simp only [List.nil_append, List.length_nil]
  rw [fits_of (by omega), fits_of (by omega)]
  simp only [chk_true]
  have hh := loop_run (step := F.spec_l3Copy.s6) (fun i => ((i : Int), (a, b, c, d, hi, re, rs, u), (0, 0, 0, 0, [], [], [], ()), (a, b, c, d, hi, re, rs.take i, u), ())) rs.length (fun i hi => by
    have he : rs[i].length ≤ 1048576 := zIS_mem (n := 1048576) (by omega) (List.getElem_mem hi)
    unfold F.spec_l3Copy.s6
    simp only [len]
    rw [show decide ((i : Int) < ((rs.length : Nat) : Int)) = true from decide_eq_true (by omega), inb_nat hi, Int.toNat_natCast, w64_nat (by omega), getD_at hi]
    simp only [cond_true, chk_true, List.nil_append, List.length_nil, List.length_take, List.length_cons]
    rw [fits_of (by omega), fits_of (by omega), take_snoc hi]; rfl) (l := .exit (((rs.length : Nat) : Int), (a, b, c, d, hi, re, rs, u), (0, 0, 0, 0, [], [], [], ()), (a, b, c, d, hi, re, rs.take rs.length, u), ())) (by
    unfold F.spec_l3Copy.s6
    simp only [len]
    rw [show decide (((rs.length : Nat) : Int) < ((rs.length : Nat) : Int)) = false from decide_eq_false (by omega)]; rfl) rfl
  refine (congrArg (fun z => afterO z _) hh).trans ?_
  simp only [afterO, List.take_length]
theorem copySketch_eq (s : DSketch) (h : zSketch s ≤ 1048576) : F.impl_copySketch s = some s := by
  obtain ⟨a, b, c, d, hi, re, rs, u⟩ := s
  have hz : zIntS hi + zIntS re + zIntSS rs ≤ 1048576 := h
  have h1 : hi.length ≤ 1048576 := by unfold zIntS at hz; omega
  have h2 : re.length ≤ 1048576 := by unfold zIntS at hz; omega
  have h3 : rs.length ≤ 1048576 := by unfold zIntSS at hz; omega
  unfold F.impl_copySketch
  rw [copyInts_eq _ h1, copyInts_eq _ h2]
  simp only [Option.bind_some]
  have hh := loop_run (step := F.impl_copySketch.s6) (fun i => (rs, len rs, (i : Int), (0, 0, 0, 0, [], [], [], ()), (a, b, c, d, hi, re, rs.take i, u), ())) rs.length (fun i hi => by
    have he : rs[i].length ≤ 1048576 := zIS_mem (n := 1048576) (by omega) (List.getElem_mem hi)
    unfold F.impl_copySketch.s6
    simp only [len]
    rw [show decide ((i : Int) < ((rs.length : Nat) : Int)) = true from decide_eq_true (by omega), inb_nat hi, Int.toNat_natCast, w64_nat (by omega), getD_at hi, copyInts_eq _ he]
    simp only [cond_true, chk_true, Option.bind_some, List.nil_append, List.length_nil, List.length_take, List.length_cons]
    rw [fits_of (by omega), take_snoc hi]; rfl) (l := .exit (rs, len rs, ((rs.length : Nat) : Int), (0, 0, 0, 0, [], [], [], ()), (a, b, c, d, hi, re, rs.take rs.length, u), ())) (by
    unfold F.impl_copySketch.s6
    simp only [len]
    rw [show decide (((rs.length : Nat) : Int) < ((rs.length : Nat) : Int)) = false from decide_eq_false (by omega)]; rfl) rfl
  refine (congrArg (fun z => afterO z _) hh).trans ?_
  simp only [afterO, List.take_length]
theorem zItS_mem {l : List DItem} {e : DItem} {n : Nat} (h : zItemS l ≤ n) (he : e ∈ l) : zItem e ≤ n := by
  have := sum_mem (f := zItem) he
  unfold zItemS at h
  omega
/- Sets of spans: a right one is told by its numbers; a span put into one; spans in order, joined. No program in sight. -/

def okF : Int → List Sp → Prop
  | _, [] => True
  | lo, x :: l => lo ≤ x.1 ∧ x.1 ≤ x.2.1 ∧ x.2.1 ≤ 9999 ∧ okF (x.2.1 + 2) l
/-- n is in s. -/
def memS (s : List Sp) (n : Int) : Prop := ∃ x ∈ s, x.1 ≤ n ∧ n ≤ x.2.1
theorem memS_nil {n : Int} : ¬ memS [] n := fun ⟨_, h, _⟩ => by cases h
theorem memS_cons {x : Sp} {l : List Sp} {n : Int} : memS (x :: l) n ↔ (x.1 ≤ n ∧ n ≤ x.2.1) ∨ memS l n := by
  constructor
  · rintro ⟨y, hy, h⟩
    rcases List.mem_cons.1 hy with rfl | hy
    · exact .inl h
    · exact .inr ⟨y, hy, h⟩
  · rintro (h | ⟨y, hy, h⟩)
    · exact ⟨x, by simp, h⟩
    · exact ⟨y, by simp [hy], h⟩
theorem memS_append {a b : List Sp} {n : Int} : memS (a ++ b) n ↔ memS a n ∨ memS b n := by
  constructor
  · rintro ⟨y, hy, h⟩
    rcases List.mem_append.1 hy with hy | hy
    · exact .inl ⟨y, hy, h⟩
    · exact .inr ⟨y, hy, h⟩
  · rintro (⟨y, hy, h⟩ | ⟨y, hy, h⟩)
    · exact ⟨y, by simp [hy], h⟩
    · exact ⟨y, by simp [hy], h⟩
theorem okF_lb : ∀ {s : List Sp} {lo n : Int}, okF lo s → memS s n → lo ≤ n ∧ n ≤ 9999
  | [], lo, n, _, h => absurd h memS_nil
  | x :: l, lo, n, ⟨h1, h2, h3, h4⟩, h => by
    rcases memS_cons.1 h with h | h
    · omega
    · have := okF_lb h4 h
      omega
theorem okF_mono : ∀ {s : List Sp} {lo lo' : Int}, lo' ≤ lo → okF lo s → okF lo' s
  | [], _, _, _, _ => trivial
  | x :: l, lo, lo', hl, ⟨h1, h2, h3, h4⟩ => ⟨by omega, h2, h3, h4⟩
theorem okF_all : ∀ {s : List Sp} {lo : Int}, okF lo s → ∀ x ∈ s, lo ≤ x.1 ∧ x.1 ≤ x.2.1 ∧ x.2.1 ≤ 9999
  | x :: l, lo, ⟨h1, h2, h3, h4⟩, y, hy => by
    rcases List.mem_cons.1 hy with rfl | hy
    · exact ⟨h1, h2, h3⟩
    · have := okF_all h4 y hy
      omega
/-- A right set is told by its numbers. -/
theorem okF_ext : ∀ {s t : List Sp} {lo lo' : Int}, okF lo s → okF lo' t → (∀ n, memS s n ↔ memS t n) → s = t
  | [], [], _, _, _, _, _ => rfl
  | [], y :: t, lo, lo', _, ⟨h1, h2, _⟩, h => absurd ((h y.1).2 (memS_cons.2 (.inl ⟨Int.le_refl _, h2⟩))) memS_nil
  | x :: s, [], lo, lo', ⟨h1, h2, _⟩, _, h => absurd ((h x.1).1 (memS_cons.2 (.inl ⟨Int.le_refl _, h2⟩))) memS_nil
  | x :: s, y :: t, lo, lo', ⟨h1, h2, h3, h4⟩, ⟨g1, g2, g3, g4⟩, h => by
    have e1 : x.1 = y.1 := by
      have a1 := okF_lb (s := y :: t) (lo := y.1) ⟨Int.le_refl _, g2, g3, g4⟩ ((h x.1).1 (memS_cons.2 (.inl ⟨Int.le_refl _, h2⟩)))
      have a2 := okF_lb (s := x :: s) (lo := x.1) ⟨Int.le_refl _, h2, h3, h4⟩ ((h y.1).2 (memS_cons.2 (.inl ⟨Int.le_refl _, g2⟩)))
      omega
    have e2 : x.2.1 = y.2.1 := by
      rcases Int.lt_trichotomy x.2.1 y.2.1 with hlt | heq | hlt
      · rcases memS_cons.1 ((h (x.2.1 + 1)).2 (memS_cons.2 (.inl ⟨by omega, by omega⟩))) with a | a
        · omega
        · have := okF_lb h4 a; omega
      · exact heq
      · rcases memS_cons.1 ((h (y.2.1 + 1)).1 (memS_cons.2 (.inl ⟨by omega, by omega⟩))) with a | a
        · omega
        · have := okF_lb g4 a; omega
    have e3 : s = t := okF_ext h4 g4 (fun n => by
      constructor
      · intro a
        have := okF_lb h4 a
        rcases memS_cons.1 ((h n).1 (memS_cons.2 (.inr a))) with b | b
        · omega
        · exact b
      · intro a
        have := okF_lb g4 a
        rcases memS_cons.1 ((h n).2 (memS_cons.2 (.inr a))) with b | b
        · omega
        · exact b)
    obtain ⟨x1, x2, u⟩ := x
    obtain ⟨y1, y2, v⟩ := y
    simp only at e1 e2
    rw [e1, e2, e3]
theorem good_cons {x : Sp} {l : List Sp} : Good (x :: l) ↔ (0 ≤ x.1 ∧ x.1 ≤ x.2.1 ∧ x.2.1 ≤ 9999) ∧ Good l ∧ ∀ y ∈ l.head?, x.2.1 + 1 < y.1 := by
  constructor
  · intro h
    have h0 := h 0 (by simp)
    have a1 := inR_iff.1 h0.1
    have a2 := inR_iff.1 h0.2.1
    simp only [List.getElem_cons_zero] at a1 a2
    refine ⟨⟨a1.1, a2.1, a2.2⟩, fun i hi => ?_, fun y hy => ?_⟩
    · have hh := h (i + 1) (by simpa using hi)
      refine ⟨hh.1, hh.2.1, fun h0 => ?_⟩
      have := hh.2.2 (by omega)
      have e : (x :: l)[i + 1 - 1]'(by simp; omega) = l[i - 1]'(by omega) := by
        obtain ⟨j, rfl⟩ : ∃ j, i = j + 1 := ⟨i - 1, by omega⟩
        simp
      rw [e] at this
      simpa using this
    · cases l with
      | nil => cases hy
      | cons z l =>
        cases hy
        have := (h 1 (by simp)).2.2 (by omega)
        simp only [List.getElem_cons_succ, List.getElem_cons_zero, Nat.sub_self] at this
        omega
  · rintro ⟨⟨h1, h2, h3⟩, hg, hh⟩ i hi
    cases i with
    | zero => exact ⟨inR_iff.2 ⟨h1, by simp only [List.getElem_cons_zero]; omega⟩, inR_iff.2 ⟨h2, h3⟩, fun h0 => by omega⟩
    | succ i =>
      have hi' : i < l.length := by simpa using hi
      obtain ⟨g1, g2, g3⟩ := hg i hi'
      refine ⟨g1, g2, fun _ => ?_⟩
      cases i with
      | zero =>
        cases l with
        | nil => simp at hi'
        | cons z l =>
          have := hh z rfl
          simp only [List.getElem_cons_succ, List.getElem_cons_zero, Nat.add_sub_cancel]
          omega
      | succ j => exact g3 (by omega)
theorem good_lo : ∀ {s : List Sp} {lo : Int}, okF lo s ↔ okF lo s := Iff.rfl
theorem good_ok : ∀ {s : List Sp}, Good s ↔ okF 0 s
  | [] => ⟨fun _ => trivial, fun _ i h => by cases h⟩
  | x :: l => by
    rw [good_cons, good_ok (s := l)]
    constructor
    · rintro ⟨⟨h1, h2, h3⟩, h4, h5⟩
      refine ⟨h1, h2, h3, ?_⟩
      cases l with
      | nil => trivial
      | cons y l =>
        have := h5 y rfl
        exact ⟨by omega, h4.2⟩
    · rintro ⟨h1, h2, h3, h4⟩
      refine ⟨⟨h1, h2, h3⟩, okF_mono (by omega) h4, fun y hy => ?_⟩
      cases l with
      | nil => cases hy
      | cons z l => cases hy; have := h4.1; omega
theorem okF_len : ∀ {s : List Sp} {lo : Int}, 0 ≤ lo → okF lo s → lo + 2 * (s.length : Int) ≤ 10002 ∨ s = []
  | [], _, _, _ => .inr rfl
  | x :: l, lo, hl, ⟨h1, h2, h3, h4⟩ => by
    left
    rcases okF_len (by omega) h4 with h | h
    · simp only [List.length_cons]; omega
    · subst h; simp only [List.length_cons, List.length_nil]; omega

/-! ### a span put into a set -/
def put (x : Sp) : List Sp → List Sp
  | [] => [x]
  | y :: l => if y.2.1 + 1 < x.1 then y :: put x l else if y.1 > x.2.1 + 1 then x :: y :: l else put (mnI x.1 y.1, mxI x.2.1 y.2.1, ()) l
theorem put_ok : ∀ {s : List Sp} {lo : Int} {x : Sp}, okF lo s → lo ≤ x.1 → x.1 ≤ x.2.1 → x.2.1 ≤ 9999 → okF lo (put x s)
  | [], lo, x, _, h1, h2, h3 => ⟨h1, h2, h3, trivial⟩
  | y :: l, lo, x, ⟨g1, g2, g3, g4⟩, h1, h2, h3 => by
    unfold put
    split
    · exact ⟨g1, g2, g3, put_ok g4 (by omega) h2 h3⟩
    · split
      · exact ⟨h1, h2, h3, by omega, g2, g3, g4⟩
      · refine put_ok (okF_mono (by omega) g4) ?_ ?_ ?_ <;> simp only [mnI, mxI] <;> split <;> (try split) <;> omega
theorem put_mem : ∀ {s : List Sp} {x : Sp} {n : Int}, x.1 ≤ x.2.1 → (∀ y ∈ s, y.1 ≤ y.2.1) → (memS (put x s) n ↔ memS s n ∨ (x.1 ≤ n ∧ n ≤ x.2.1))
  | [], x, n, h, _ => by
    rw [put, memS_cons]
    exact ⟨fun h => h.elim .inr (fun h => absurd h memS_nil), fun h => h.elim (fun h => absurd h memS_nil) .inl⟩
  | y :: l, x, n, h, hs => by
    have hy := hs y (by simp)
    have hl : ∀ z ∈ l, z.1 ≤ z.2.1 := fun z hz => hs z (by simp [hz])
    unfold put
    split
    · rw [memS_cons, memS_cons, put_mem h hl]
      constructor
      · rintro (h | h | h)
        · exact .inl (.inl h)
        · exact .inl (.inr h)
        · exact .inr h
      · rintro ((h | h) | h)
        · exact .inl h
        · exact .inr (.inl h)
        · exact .inr (.inr h)
    · split
      · rw [memS_cons]
        exact Or.comm
      · have hm : (mnI x.1 y.1 : Int) ≤ mxI x.2.1 y.2.1 := by unfold mnI mxI; split <;> split <;> omega
        rw [put_mem (x := (mnI x.1 y.1, mxI x.2.1 y.2.1, ())) hm hl, memS_cons]
        have e : (mnI x.1 y.1 ≤ n ∧ n ≤ mxI x.2.1 y.2.1) ↔ (x.1 ≤ n ∧ n ≤ x.2.1) ∨ (y.1 ≤ n ∧ n ≤ y.2.1) := by
          unfold mnI mxI
          split <;> split <;> omega
        show memS l n ∨ (mnI x.1 y.1 ≤ n ∧ n ≤ mxI x.2.1 y.2.1) ↔ _
        rw [e]
        constructor
        · rintro (h | h | h)
          · exact .inl (.inr h)
          · exact .inr h
          · exact .inl (.inl h)
        · rintro ((h | h) | h)
          · exact .inr (.inr h)
          · exact .inl h
          · exact .inr (.inl h)
theorem put_len : ∀ (s : List Sp) (x : Sp), (put x s).length ≤ s.length + 1
  | [], x => by simp [put]
  | y :: l, x => by
    unfold put
    split
    · have := put_len l x; simp only [List.length_cons]; omega
    · split
      · simp
      · have := put_len l (mnI x.1 y.1, mxI x.2.1 y.2.1, ()); simp only [List.length_cons]; omega
/-- All of b put into a. -/
def joinS (a b : List Sp) : List Sp := b.foldl (fun s x => put x s) a
theorem joinS_ok : ∀ {b a : List Sp} {lo : Int}, okF lo a → (∀ x ∈ b, lo ≤ x.1 ∧ x.1 ≤ x.2.1 ∧ x.2.1 ≤ 9999) → okF lo (joinS a b)
  | [], a, lo, h, _ => h
  | x :: b, a, lo, h, hb => by
    obtain ⟨h1, h2, h3⟩ := hb x (by simp)
    exact joinS_ok (b := b) (a := put x a) (put_ok h h1 h2 h3) (fun y hy => hb y (by simp [hy]))
theorem joinS_mem : ∀ {b a : List Sp} {lo n : Int}, okF lo a → (∀ x ∈ b, lo ≤ x.1 ∧ x.1 ≤ x.2.1 ∧ x.2.1 ≤ 9999) → (memS (joinS a b) n ↔ memS a n ∨ memS b n)
  | [], a, lo, n, h, _ => ⟨.inl, fun h => h.elim id (fun h => absurd h memS_nil)⟩
  | x :: b, a, lo, n, h, hb => by
    obtain ⟨h1, h2, h3⟩ := hb x (by simp)
    have := joinS_mem (b := b) (a := put x a) (n := n) (put_ok h h1 h2 h3) (fun y hy => hb y (by simp [hy]))
    show memS (joinS (put x a) b) n ↔ _
    rw [this, put_mem h2 (fun y hy => (okF_all h y hy).2.1), memS_cons, or_assoc]
theorem joinS_len : ∀ (b a : List Sp), (joinS a b).length ≤ a.length + b.length
  | [], a => by simp [joinS]
  | x :: b, a => by
    have h1 := joinS_len b (put x a)
    have h2 := put_len a x
    show (joinS (put x a) b).length ≤ _
    simp only [List.length_cons]; omega

/-! ### spans in order, joined -/
def runS (c : Sp) : List Sp → List Sp
  | [] => [c]
  | x :: l => if x.1 ≤ c.2.1 + 1 then runS (c.1, mxI c.2.1 x.2.1, ()) l else c :: runS x l
def uniS : List Sp → List Sp
  | [] => []
  | x :: l => runS x l
theorem runS_ok : ∀ {l : List Sp} {c : Sp} {lo : Int}, lo ≤ c.1 → c.1 ≤ c.2.1 → c.2.1 ≤ 9999 → (∀ x ∈ l, x.1 ≤ x.2.1 ∧ x.2.1 ≤ 9999 ∧ c.1 ≤ x.1) → l.Pairwise (fun x y => x.1 ≤ y.1) → okF lo (runS c l)
  | [], c, lo, h1, h2, h3, _, _ => ⟨h1, h2, h3, trivial⟩
  | x :: l, c, lo, h1, h2, h3, hl, hp => by
    obtain ⟨g1, g2, g3⟩ := hl x (by simp)
    obtain ⟨p1, p2⟩ := List.pairwise_cons.1 hp
    unfold runS
    split
    · refine runS_ok (c := (c.1, mxI c.2.1 x.2.1, ())) h1 ?_ ?_ (fun y hy => hl y (by simp [hy])) p2 <;> simp only [mxI] <;> split <;> omega
    · exact ⟨h1, h2, h3, runS_ok (by omega) g1 g2 (fun y hy => ⟨(hl y (by simp [hy])).1, (hl y (by simp [hy])).2.1, p1 y hy⟩) p2⟩
theorem runS_mem : ∀ {l : List Sp} {c : Sp} {n : Int}, c.1 ≤ c.2.1 → (∀ x ∈ l, x.1 ≤ x.2.1 ∧ c.1 ≤ x.1) → l.Pairwise (fun x y => x.1 ≤ y.1) → (memS (runS c l) n ↔ (c.1 ≤ n ∧ n ≤ c.2.1) ∨ memS l n)
  | [], c, n, _, _, _ => memS_cons
  | x :: l, c, n, h, hl, hp => by
    obtain ⟨g1, g3⟩ := hl x (by simp)
    obtain ⟨p1, p2⟩ := List.pairwise_cons.1 hp
    unfold runS
    split
    · have hm : c.1 ≤ mxI c.2.1 x.2.1 := by unfold mxI; split <;> omega
      rw [runS_mem (c := (c.1, mxI c.2.1 x.2.1, ())) hm (fun y hy => hl y (by simp [hy])) p2, memS_cons]
      have e : (c.1 ≤ n ∧ n ≤ mxI c.2.1 x.2.1) ↔ (c.1 ≤ n ∧ n ≤ c.2.1) ∨ (x.1 ≤ n ∧ n ≤ x.2.1) := by
        unfold mxI
        split <;> omega
      show (c.1 ≤ n ∧ n ≤ mxI c.2.1 x.2.1) ∨ _ ↔ _
      rw [e, or_assoc]
    · rw [memS_cons, runS_mem g1 (fun y hy => ⟨(hl y (by simp [hy])).1, p1 y hy⟩) p2, memS_cons]
theorem uniS_ok {l : List Sp} {lo : Int} (hl : ∀ x ∈ l, lo ≤ x.1 ∧ x.1 ≤ x.2.1 ∧ x.2.1 ≤ 9999) (hp : l.Pairwise (fun x y => x.1 ≤ y.1)) : okF lo (uniS l) := by
  cases l with
  | nil => trivial
  | cons x l =>
    obtain ⟨h1, h2, h3⟩ := hl x (by simp)
    obtain ⟨p1, p2⟩ := List.pairwise_cons.1 hp
    exact runS_ok h1 h2 h3 (fun y hy => ⟨(hl y (by simp [hy])).2.1, (hl y (by simp [hy])).2.2, p1 y hy⟩) p2
theorem uniS_mem {l : List Sp} {n : Int} (hl : ∀ x ∈ l, x.1 ≤ x.2.1) (hp : l.Pairwise (fun x y => x.1 ≤ y.1)) : memS (uniS l) n ↔ memS l n := by
  cases l with
  | nil => exact Iff.rfl
  | cons x l =>
    obtain ⟨p1, p2⟩ := List.pairwise_cons.1 hp
    rw [uniS, runS_mem (hl x (by simp)) (fun y hy => ⟨hl y (by simp [hy]), p1 y hy⟩) p2, memS_cons]
theorem runS_len : ∀ (l : List Sp) (c : Sp), (runS c l).length ≤ l.length + 1
  | [], c => by simp [runS]
  | x :: l, c => by
    unfold runS
    split
    · have := runS_len l (c.1, mxI c.2.1 x.2.1, ()); simp only [List.length_cons]; omega
    · have := runS_len l x; simp only [List.length_cons]; omega
theorem uniS_len (l : List Sp) : (uniS l).length ≤ l.length := by
  cases l with
  | nil => simp [uniS]
  | cons x l => exact runS_len l x
/-- Of numbers that are alike, the sets are. -/
theorem memS_perm {a b : List Sp} (h : a.Perm b) {n : Int} : memS a n ↔ memS b n :=
  ⟨fun ⟨x, hx, g⟩ => ⟨x, h.mem_iff.1 hx, g⟩, fun ⟨x, hx, g⟩ => ⟨x, h.mem_iff.2 hx, g⟩⟩
/-- Spans in order, joined, and spans put one by one: the same. -/
theorem uni_join {a b s : List Sp} (ha : okF 0 a) (hb : ∀ x ∈ b, 0 ≤ x.1 ∧ x.1 ≤ x.2.1 ∧ x.2.1 ≤ 9999) (hs : s.Perm (a ++ b)) (hp : s.Pairwise (fun x y => x.1 ≤ y.1)) : uniS s = joinS a b := by
  have hall : ∀ x ∈ s, 0 ≤ x.1 ∧ x.1 ≤ x.2.1 ∧ x.2.1 ≤ 9999 := fun x hx => by
    rcases List.mem_append.1 (hs.mem_iff.1 hx) with h | h
    · exact okF_all ha x h
    · exact hb x h
  refine okF_ext (uniS_ok hall hp) (joinS_ok ha hb) (fun n => ?_)
  rw [uniS_mem (fun x hx => (hall x hx).2.1) hp, memS_perm hs, memS_append, joinS_mem ha hb]
/- A span put into a set, by the reference's loop. -/

theorem l1Min_eq (a b : Int) : F.spec_l1Min a b = some (mnI a b) := by
  unfold F.spec_l1Min mnI
  by_cases h : a < b
  · rw [decide_eq_true h]; simp only [cond_true]; split <;> congr 1 <;> omega
  · rw [decide_eq_false h]; simp only [cond_false]; split <;> congr 1 <;> omega
theorem l1Max_eq (a b : Int) : F.spec_l1Max a b = some (mxI a b) := by
  unfold F.spec_l1Max mxI
  by_cases h : a > b
  · rw [decide_eq_true h]; simp only [cond_true]; split <;> congr 1 <;> omega
  · rw [decide_eq_false h]; simp only [cond_false]; split <;> congr 1 <;> omega
/-- One turn of the loop. -/
theorem put_step (a acc : List Sp) (p : Bool) (c : Sp) (i : Nat) (hk : i < a.length) (h : a.length ≤ 1048576) (hl : acc.length ≤ 1048577) : F.spec_l5Put.s4 (a, acc, p, (i : Int), c, ()) = some (.again
    (if w64 (a[i].2.1 + 1) < c.1 then (a, acc ++ [a[i]], p, ((i + 1 : Nat) : Int), c, ()) else if a[i].1 > w64 (c.2.1 + 1) then (a, (if p then acc else acc ++ [c]) ++ [a[i]], true, ((i + 1 : Nat) : Int), c, ()) else (a, acc, p, ((i + 1 : Nat) : Int), (mnI c.1 a[i].1, mxI c.2.1 a[i].2.1, ()), ()))) := by
  unfold F.spec_l5Put.s4
  simp only
  rw [lt_len hk, inb_nat hk, Int.toNat_natCast, getD_at hk, w64_nat (by omega)]
  simp only [cond_true, chk_true, l1Min_eq, l1Max_eq, Option.bind_some, List.length_append, List.length_cons, List.length_nil]
  rw [fits_of (n := acc.length + (0 + 1)) (by omega), fits_of (n := acc.length + (0 + 1) + (0 + 1)) (by omega)]
  simp only [chk_true]
  by_cases h1 : w64 (a[i].2.1 + 1) < c.1
  · rw [decide_eq_true h1, if_pos h1]; rfl
  · rw [decide_eq_false h1, if_neg h1]
    by_cases h2 : a[i].1 > w64 (c.2.1 + 1)
    · rw [decide_eq_true h2, if_pos h2]
      cases p <;> rfl
    · rw [decide_eq_false h2, if_neg h2]; rfl
/-- It answers whatever it is given. -/
theorem l5Put_any (a : List Sp) (x : Sp) (h : a.length ≤ 1048576) : ∃ r, F.spec_l5Put a x = some r ∧ r.length ≤ a.length + 1 := by
  unfold F.spec_l5Put
  have key : ∀ (n i : Nat) (acc : List Sp) (p : Bool) (c : Sp), a.length - i = n → i ≤ a.length → acc.length ≤ i + (if p then 1 else 0) → ∃ acc' p' c', iterO F.spec_l5Put.s4 (n + 1) (a, acc, p, (i : Int), c, ()) = some (.inl (a, acc', p', ((a.length : Nat) : Int), c', ())) ∧ acc'.length ≤ a.length + (if p' then 1 else 0) := by
    intro n
    induction n with
    | zero =>
      intro i acc p c hi hle hl
      have hi' : i = a.length := by omega
      subst hi'
      refine ⟨acc, p, c, ?_, hl⟩
      unfold iterO F.spec_l5Put.s4
      simp only [ge_len, cond_false]
    | succ n ih =>
      intro i acc p c hi hle hl
      have hk : i < a.length := by omega
      have hl2 : acc.length ≤ i + 1 := by cases p <;> simp at hl <;> omega
      rw [iterO, put_step a acc p c i hk h (by omega)]
      simp only
      split
      · exact ih (i + 1) _ p c (by omega) (by omega) (by rw [List.length_append, List.length_singleton]; omega)
      · split
        · refine ih (i + 1) _ true c (by omega) (by omega) ?_
          rw [List.length_append, List.length_singleton]
          cases p <;> simp at hl ⊢ <;> omega
        · exact ih (i + 1) _ p _ (by omega) (by omega) (by omega)
  obtain ⟨acc', p', c', h1, h2⟩ := key a.length 0 [] false x (by omega) (by omega) (by simp)
  have h1' : loopO F.spec_l5Put.s4 (a, [], false, 0, x, ()) = _ := loopO_of h1
  rw [h1']
  simp only [afterO]
  cases p' with
  | true => exact ⟨_, rfl, by simpa using h2⟩
  | false =>
    simp at h2
    simp only [Bool.not_false, cond_true, List.length_cons, List.length_nil]
    rw [fits_of (by omega)]
    exact ⟨_, rfl, by simp; omega⟩
/-- It is put as it should be. -/
theorem l5Put_eq (a : List Sp) (x : Sp) (h : a.length ≤ 1048576) {lo : Int} (hlo : 0 ≤ lo) (ha : okF lo a) (h0 : 0 ≤ x.1) (h1 : x.1 ≤ x.2.1) (h2 : x.2.1 ≤ 9999) : F.spec_l5Put a x = some (put x a) := by
  unfold F.spec_l5Put
  -- behind it: all the rest is kept
  have key1 : ∀ (m p acc : List Sp) (c : Sp) (l : Int), a = p ++ m → acc.length ≤ p.length + 1 → okF l m → c.2.1 + 1 < l → 0 ≤ c.1 → c.1 ≤ c.2.1 → c.2.1 ≤ 9999 →
      iterO F.spec_l5Put.s4 (m.length + 1) (a, acc, true, ((p.length : Nat) : Int), c, ()) = some (.inl (a, acc ++ m, true, ((a.length : Nat) : Int), c, ())) := by
    intro m
    induction m with
    | nil =>
      intro p acc c l hp hl hok hc g0 g1 g2
      have hpl : p.length = a.length := by rw [hp]; simp
      unfold iterO F.spec_l5Put.s4
      simp only [hpl, ge_len, cond_false, List.append_nil]
    | cons y m ih =>
      intro p acc c l hp hl hok hc g0 g1 g2
      obtain ⟨k1, k2, k3, k4⟩ := hok
      have hk : p.length < a.length := by rw [hp]; simp
      have hg : a[p.length] = y := by simp [hp]
      rw [List.length_cons, iterO, put_step a acc true c p.length hk h (by omega), hg, w64_id (by omega) (by omega), w64_id (by omega) (by omega), if_neg (by omega), if_pos (by omega)]
      simp only [if_true]
      have := ih (p ++ [y]) (acc ++ [y]) c (y.2.1 + 2) (by simp [hp]) (by simp; omega) k4 (by omega) g0 g1 g2
      rw [List.length_append] at this
      simp only [List.append_assoc, List.singleton_append] at this
      exact this
  have key2 : ∀ (m p acc : List Sp) (c : Sp) (l : Int), a = p ++ m → acc.length ≤ p.length → 0 ≤ l → okF l m → 0 ≤ c.1 → c.1 ≤ c.2.1 → c.2.1 ≤ 9999 →
      ∃ acc' p' c', iterO F.spec_l5Put.s4 (m.length + 1) (a, acc, false, ((p.length : Nat) : Int), c, ()) = some (.inl (a, acc', p', ((a.length : Nat) : Int), c', ())) ∧ (if p' then acc' else acc' ++ [c']) = acc ++ put c m ∧ (p' = false → acc'.length ≤ a.length) := by
    intro m
    induction m with
    | nil =>
      intro p acc c l hp hl hl0 hok g0 g1 g2
      have hpl : p.length = a.length := by rw [hp]; simp
      refine ⟨acc, false, c, ?_, rfl, fun _ => by omega⟩
      unfold iterO F.spec_l5Put.s4
      simp only [hpl, ge_len, cond_false]
    | cons y m ih =>
      intro p acc c l hp hl hl0 hok g0 g1 g2
      obtain ⟨k1, k2, k3, k4⟩ := hok
      have hk : p.length < a.length := by rw [hp]; simp
      have hg : a[p.length] = y := by simp [hp]
      rw [List.length_cons, iterO, put_step a acc false c p.length hk h (by omega), hg, w64_id (by omega) (by omega), w64_id (by omega) (by omega), put]
      simp only [Bool.false_eq_true, if_false]
      by_cases c1 : y.2.1 + 1 < c.1
      · rw [if_pos c1, if_pos c1]
        obtain ⟨acc', p', c', e1, e2, e3⟩ := ih (p ++ [y]) (acc ++ [y]) c (y.2.1 + 2) (by simp [hp]) (by simp; omega) (by omega) k4 g0 g1 g2
        rw [List.length_append] at e1
        refine ⟨acc', p', c', e1, ?_, e3⟩
        rw [e2]; simp
      · rw [if_neg c1, if_neg c1]
        by_cases c2 : y.1 > c.2.1 + 1
        · rw [if_pos c2, if_pos c2]
          have := key1 m (p ++ [y]) ((acc ++ [c]) ++ [y]) c (y.2.1 + 2) (by simp [hp]) (by simp; omega) k4 (by omega) g0 g1 g2
          rw [List.length_append] at this
          refine ⟨_, true, c, this, by simp, fun h => by cases h⟩
        · rw [if_neg c2, if_neg c2]
          obtain ⟨acc', p', c', e1, e2, e3⟩ := ih (p ++ [y]) acc (mnI c.1 y.1, mxI c.2.1 y.2.1, ()) (y.2.1 + 2) (by simp [hp]) (by simp; omega) (by omega) k4 (by simp only [mnI]; split <;> omega) (by simp only [mnI, mxI]; split <;> split <;> omega) (by simp only [mxI]; split <;> omega)
          rw [List.length_append] at e1
          exact ⟨acc', p', c', e1, e2, e3⟩
  obtain ⟨acc', p', c', e1, e2, e3⟩ := key2 a [] [] x lo rfl (by simp) hlo ha h0 h1 h2
  have h1' : loopO F.spec_l5Put.s4 (a, [], false, 0, x, ()) = _ := loopO_of e1
  rw [h1']
  simp only [afterO]
  cases p' with
  | true => simpa using e2
  | false =>
    have := e3 rfl
    simp only [Bool.not_false, cond_true, List.length_cons, List.length_nil]
    rw [fits_of (by omega)]
    simpa [chk_true] using e2
/- Right sketches merged: both ways alike. -/

/-- Added, no further than the top. -/
def adI (a b : Int) : Int := mnI (a + b) 1000000000
def rg (x : Int) : Prop := 0 ≤ x ∧ x ≤ 1000000000
theorem adI_rg {a b : Int} (ha : rg a) (hb : rg b) : rg (adI a b) := by
  unfold rg adI mnI at *
  split <;> simp_all <;> omega
theorem clipR {a : Int} (ha : rg a) : mxI 0 (mnI a 1000000000) = a := by
  unfold rg at ha
  unfold mxI mnI
  (repeat' split) <;> simp_all <;> omega
theorem clip_eq (a b : Int) : F.spec_l2Clip a b = some (mxI 0 (mnI a b)) := by
  unfold F.spec_l2Clip
  simp only [l1Min_eq, l1Max_eq, Option.bind_some]
theorem specAdd_eq {a b : Int} (ha : rg a) (hb : rg b) : F.spec_Add a b = some (adI a b) := by
  unfold F.spec_Add adI
  simp only [clip_eq, l1Min_eq, Option.bind_some, clipR ha, clipR hb]
  unfold rg at ha hb
  rw [w64_id (by omega) (by omega)]
theorem limitedR {a : Int} (ha : rg a) : F.impl_limited a 0 1000000000 = some a := by
  unfold F.impl_limited
  unfold rg at ha
  refine congrArg some ?_
  unfold mxI mnI
  (repeat' split) <;> simp_all <;> omega
theorem implAdd_eq {a b : Int} (ha : rg a) (hb : rg b) : F.impl_Add a b = some (adI a b) := by
  unfold F.impl_Add adI
  simp only [limitedR ha, limitedR hb, Option.bind_some]
  unfold rg at ha hb
  rw [w64_id (by omega) (by omega)]
/-- The first i places are done. -/
def mz (f : Int → Int → Int) (m l : List Int) (i : Nat) : List Int := List.zipWith f (m.take i) (l.take i) ++ m.drop i
theorem mz_zero (f : Int → Int → Int) (m l : List Int) : mz f m l 0 = m := by simp [mz]
theorem mz_end (f : Int → Int → Int) (m l : List Int) (h : m.length = l.length) : mz f m l l.length = List.zipWith f m l := by
  unfold mz
  rw [List.take_length, List.take_of_length_le (by omega), List.drop_eq_nil_of_le (by omega), List.append_nil]
theorem mz_pre {f : Int → Int → Int} {m l : List Int} {i : Nat} (h : m.length = l.length) (hi : i < m.length) : (List.zipWith f (m.take i) (l.take i)).length = i := by
  rw [List.length_zipWith, List.length_take, List.length_take]; omega
theorem mz_len {f : Int → Int → Int} {m l : List Int} {i : Nat} (h : m.length = l.length) : (mz f m l i).length = m.length := by
  unfold mz
  rw [List.length_append, List.length_zipWith, List.length_take, List.length_take, List.length_drop]; omega
theorem mz_get {f : Int → Int → Int} {m l : List Int} {i : Nat} (h : m.length = l.length) (hi : i < m.length) : (mz f m l i).getD i 0 = m[i] := by
  unfold mz
  rw [List.getD_eq_getElem?_getD, List.getElem?_append_right (by rw [mz_pre h hi]; omega), mz_pre h hi, Nat.sub_self, List.getElem?_drop, Nat.add_zero, List.getElem?_eq_getElem hi]; rfl
theorem zip_snoc {f : Int → Int → Int} {m l : List Int} {i : Nat} (hi : i < m.length) (hl : i < l.length) : List.zipWith f (m.take i) (l.take i) ++ [f m[i] l[i]] = List.zipWith f (m.take (i + 1)) (l.take (i + 1)) := by
  rw [← take_snoc hi, ← take_snoc hl, List.zipWith_append (by rw [List.length_take, List.length_take]; omega)]; rfl
theorem mz_step {f : Int → Int → Int} {m l : List Int} {i : Nat} (h : m.length = l.length) (hi : i < m.length) : (mz f m l i).set i (f m[i] (l[i]'(by omega))) = mz f m l (i + 1) := by
  unfold mz
  rw [List.set_append_right _ _ (by rw [mz_pre h hi]; omega), mz_pre h hi, Nat.sub_self, List.drop_eq_getElem_cons hi, List.set_cons_zero, ← zip_snoc hi (by omega), List.append_assoc]; rfl
def rgs (l : List Int) : Prop := ∀ x ∈ l, rg x
theorem l3Sum_eq (a b : List Int) (ha : rgs a) (hb : rgs b) (h : a.length = b.length) (hl : a.length ≤ 1048576) : F.spec_l3Sum a b = some (List.zipWith adI a b) := by
  unfold F.spec_l3Sum
  have hh := loop_run (step := F.spec_l3Sum.s3) (fun i => (a, b, List.zipWith adI (a.take i) (b.take i), (i : Int), ())) a.length (fun i hi => by
    have hb2 : i < b.length := by omega
    unfold F.spec_l3Sum.s3
    simp only
    rw [lt_len hi, inb_nat hi, inb_nat hb2, Int.toNat_natCast, getD_at hi, getD_at hb2, specAdd_eq (ha _ (List.getElem_mem hi)) (hb _ (List.getElem_mem hb2)), w64_nat (by omega)]
    simp only [cond_true, chk_true, Option.bind_some, List.length_cons, List.length_nil, mz_pre h hi]
    rw [fits_of (by omega), zip_snoc hi hb2]; rfl) (l := .exit (a, b, List.zipWith adI (a.take a.length) (b.take a.length), (a.length : Int), ())) (by
    unfold F.spec_l3Sum.s3
    simp only [ge_len, cond_false]) rfl
  rw [List.take_length, List.take_of_length_le (show b.length ≤ a.length by omega)] at hh
  exact (congrArg (fun z => afterO z _) hh).trans rfl
/-- Two right sketches, merged. -/
def mergeS (a b : DSketch) : DSketch :=
  (adI a.1 b.1, adI a.2.1 b.2.1, if b.1 = 0 then a.2.2.1 else if a.1 = 0 then b.2.2.1 else mnI a.2.2.1 b.2.2.1, mxI a.2.2.2.1 b.2.2.2.1, List.zipWith adI a.2.2.2.2.1 b.2.2.2.2.1, List.zipWith mxI a.2.2.2.2.2.1 b.2.2.2.2.2.1,
    [List.zipWith adI (a.2.2.2.2.2.2.1.getD 0 []) (b.2.2.2.2.2.2.1.getD 0 []), List.zipWith adI (a.2.2.2.2.2.2.1.getD 1 []) (b.2.2.2.2.2.2.1.getD 1 [])], ())
theorem regs_loop (a b t : DSketch) (c su mn mx : Int) (hi : List Int) (ro : List (List Int)) (ha : a.2.2.2.2.2.1.length = 8) (hb : b.2.2.2.2.2.1.length = 8) :
    loopO F.spec_l3Merge.s7 (0, a, b, t, (c, su, mn, mx, hi, [], ro, ()), ()) = some (.inl (8, a, b, t, (c, su, mn, mx, hi, List.zipWith mxI a.2.2.2.2.2.1 b.2.2.2.2.2.1, ro, ()), ())) := by
  have hh := loop_run (step := F.spec_l3Merge.s7) (fun i => ((i : Int), a, b, t, (c, su, mn, mx, hi, List.zipWith mxI (a.2.2.2.2.2.1.take i) (b.2.2.2.2.2.1.take i), ro, ()), ())) 8 (fun i hi' => by
    have h1 : i < a.2.2.2.2.2.1.length := by omega
    have h2 : i < b.2.2.2.2.2.1.length := by omega
    unfold F.spec_l3Merge.s7
    simp only
    rw [show decide ((i : Int) < 8) = true from decide_eq_true (by omega), inb_nat h1, inb_nat h2, Int.toNat_natCast, getD_at h1, getD_at h2, l1Max_eq, w64_nat (by omega)]
    simp only [cond_true, chk_true, Option.bind_some, List.length_cons, List.length_nil, mz_pre (show a.2.2.2.2.2.1.length = b.2.2.2.2.2.1.length by omega) h1]
    rw [fits_of (by omega), zip_snoc h1 h2]; rfl) (l := .exit (8, a, b, t, (c, su, mn, mx, hi, List.zipWith mxI (a.2.2.2.2.2.1.take 8) (b.2.2.2.2.2.1.take 8), ro, ()), ())) (by
    unfold F.spec_l3Merge.s7; rfl) rfl
  rw [List.take_of_length_le (show a.2.2.2.2.2.1.length ≤ 8 by omega), List.take_of_length_le (show b.2.2.2.2.2.1.length ≤ 8 by omega)] at hh
  exact hh
theorem skR_len {s : DSketch} (h : SkR s) : ∃ r0 r1, s.2.2.2.2.2.2.1 = [r0, r1] ∧ r0.length = 4 ∧ r1.length = 4 ∧ rgs r0 ∧ rgs r1 ∧ rgs s.2.2.2.2.1 ∧ s.2.2.2.2.1.length = 8 ∧ s.2.2.2.2.2.1.length = 8 := by
  obtain ⟨r0, r1, e, ⟨l0, g0⟩, ⟨l1, g1⟩⟩ := h.rows
  exact ⟨r0, r1, e, l0, l1, fun x hx => (g0 x hx).1, fun x hx => (g1 x hx).1, fun x hx => (h.hist.2 x hx).1, h.hist.1, h.regs.1⟩
theorem l3Merge_eq (a b : DSketch) (ha : SkR a) (hb : SkR b) : F.spec_l3Merge a b = some (mergeS a b) := by
  obtain ⟨p0, p1, ep, lp0, lp1, gp0, gp1, gph, lph, lpr⟩ := skR_len ha
  obtain ⟨q0, q1, eq, lq0, lq1, gq0, gq1, gqh, lqh, lqr⟩ := skR_len hb
  unfold F.spec_l3Merge mergeS
  rw [specAdd_eq ha.cnt hb.cnt, specAdd_eq ha.sum hb.sum]
  simp only [l1Min_eq, l1Max_eq, Option.bind_some, ep, eq, List.getD_cons_zero, List.getD_cons_succ]
  rw [l3Sum_eq _ _ gph gqh (by omega) (by omega), l3Sum_eq p0 q0 gp0 gq0 (by omega) (by omega), l3Sum_eq p1 q1 gp1 gq1 (by omega) (by omega)]
  simp only [Option.bind_some, show inb 0 [p0, p1].length = true from rfl, show inb 0 [q0, q1].length = true from rfl, show inb 1 [p0, p1].length = true from rfl, show inb 1 [q0, q1].length = true from rfl, chk_true]
  have L := fun (mn : Int) => regs_loop a b (0, 0, 0, 0, [], [], [], ()) (adI a.1 b.1) (adI a.2.1 b.2.1) mn (mxI a.2.2.2.1 b.2.2.2.1) (List.zipWith adI a.2.2.2.2.1 b.2.2.2.2.1) [List.zipWith adI p0 q0, List.zipWith adI p1 q1] lpr lqr
  by_cases h1 : a.1 = 0
  · rw [show (a.1 == 0) = true by simp [h1]]
    by_cases h2 : b.1 = 0
    · rw [show (b.1 == 0) = true by simp [h2], if_pos h2]
      simp only [cond_true]
      exact (congrArg (fun z => afterO z _) (L _)).trans rfl
    · rw [show (b.1 == 0) = false by simp [h2], if_neg h2, if_pos h1]
      simp only [cond_true, cond_false]
      exact (congrArg (fun z => afterO z _) (L _)).trans rfl
  · rw [show (a.1 == 0) = false by simp [h1]]
    by_cases h2 : b.1 = 0
    · rw [show (b.1 == 0) = true by simp [h2], if_pos h2]
      simp only [cond_true, cond_false]
      exact (congrArg (fun z => afterO z _) (L _)).trans rfl
    · rw [show (b.1 == 0) = false by simp [h2], if_neg h2, if_neg h1]
      simp only [cond_false]
      exact (congrArg (fun z => afterO z _) (L _)).trans rfl
theorem iHist_loop (l : List Int) (b t : DSketch) (c su mn mx : Int) (hi re : List Int) (ro : List (List Int)) (u : Unit) (hh : rgs hi) (hl : rgs l) (h : hi.length = l.length) (h8 : l.length ≤ 8) :
    loopO F.impl_Merge.s10 (l, len l, 0, b, t, (c, su, mn, mx, hi, re, ro, u), ()) = some (.inl (l, len l, (l.length : Int), b, t, (c, su, mn, mx, List.zipWith adI hi l, re, ro, u), ())) := by
  have hh := loop_run (step := F.impl_Merge.s10) (fun i => (l, len l, (i : Int), b, t, (c, su, mn, mx, mz adI hi l i, re, ro, u), ())) l.length (fun i hi' => by
    have h1 : i < hi.length := by omega
    unfold F.impl_Merge.s10
    simp only
    rw [lt_len hi', inb_nat hi', inb_nat (show i < (mz adI hi l i).length by rw [mz_len h]; exact h1), Int.toNat_natCast, mz_get h h1, getD_at hi', implAdd_eq (hh _ (List.getElem_mem h1)) (hl _ (List.getElem_mem hi')), w64_nat (by omega)]
    simp only [cond_true, chk_true, Option.bind_some]
    rw [mz_step h h1]) (l := .exit (l, len l, (l.length : Int), b, t, (c, su, mn, mx, mz adI hi l l.length, re, ro, u), ())) (by
    unfold F.impl_Merge.s10
    simp only [ge_len, cond_false]) rfl
  rw [mz_end adI hi l h] at hh
  have hh : loopO F.impl_Merge.s10 (l, len l, ((0 : Nat) : Int), b, t, (c, su, mn, mx, mz adI hi l 0, re, ro, u), ()) = _ := hh
  rw [mz_zero] at hh
  exact hh
theorem iRegs_loop (l : List Int) (b t : DSketch) (c su mn mx : Int) (hi re : List Int) (ro : List (List Int)) (u : Unit) (h : re.length = l.length) (h8 : l.length ≤ 8) :
    loopO F.impl_Merge.s15 (l, len l, 0, b, t, (c, su, mn, mx, hi, re, ro, u), ()) = some (.inl (l, len l, (l.length : Int), b, t, (c, su, mn, mx, hi, List.zipWith mxI re l, ro, u), ())) := by
  have hh := loop_run (step := F.impl_Merge.s15) (fun i => (l, len l, (i : Int), b, t, (c, su, mn, mx, hi, mz mxI re l i, ro, u), ())) l.length (fun i hi' => by
    have h1 : i < re.length := by omega
    unfold F.impl_Merge.s15
    simp only
    rw [lt_len hi', inb_nat hi', inb_nat (show i < (mz mxI re l i).length by rw [mz_len h]; exact h1), Int.toNat_natCast, mz_get h h1, getD_at hi', w64_nat (by omega)]
    simp only [cond_true, chk_true, Option.bind_some]
    rw [mz_step h h1]) (l := .exit (l, len l, (l.length : Int), b, t, (c, su, mn, mx, hi, mz mxI re l l.length, ro, u), ())) (by
    unfold F.impl_Merge.s15
    simp only [ge_len, cond_false]) rfl
  rw [mz_end mxI re l h] at hh
  have hh : loopO F.impl_Merge.s15 (l, len l, ((0 : Nat) : Int), b, t, (c, su, mn, mx, hi, mz mxI re l 0, ro, u), ()) = _ := hh
  rw [mz_zero] at hh
  exact hh
theorem setD_self {α : Type} {R : List α} {k : Nat} {x d : α} (h : k < R.length) : (R.set k x).getD k d = x := by
  rw [List.getD_eq_getElem?_getD, List.getElem?_set_self h]; rfl
theorem iRow_loop (k : Nat) (Rl : List (List Int)) (n : Int) (l m : List Int) (b : DSketch) (c su mn mx : Int) (hi re : List Int) (R : List (List Int)) (u : Unit) (hk : k < R.length) (hm : R.getD k [] = m) (gm : rgs m) (gl : rgs l) (h : m.length = l.length) (h8 : l.length ≤ 8) (t : DSketch) :
    loopO F.impl_Merge.s23 ((k : Int), Rl, n, (k : Int), l, len l, 0, t, (c, su, mn, mx, hi, re, R, u), ()) = some (.inl ((k : Int), Rl, n, (k : Int), l, len l, (l.length : Int), t, (c, su, mn, mx, hi, re, R.set k (List.zipWith adI m l), u), ())) := by
  have hR0 : R.set k (mz adI m l 0) = R := by
    rw [mz_zero, ← hm, getD_at hk, List.set_getElem_self]
  have hh := loop_run (step := F.impl_Merge.s23) (fun i => ((k : Int), Rl, n, (k : Int), l, len l, (i : Int), t, (c, su, mn, mx, hi, re, R.set k (mz adI m l i), u), ())) l.length (fun i hi' => by
    have h1 : i < m.length := by omega
    unfold F.impl_Merge.s23
    simp only
    rw [lt_len hi', inb_nat hi', inb_nat (show k < (R.set k (mz adI m l i)).length by rw [List.length_set]; exact hk), Int.toNat_natCast, Int.toNat_natCast, setD_self hk, inb_nat (show i < (mz adI m l i).length by rw [mz_len h]; exact h1), mz_get h h1, getD_at hi', implAdd_eq (gm _ (List.getElem_mem h1)) (gl _ (List.getElem_mem hi')), w64_nat (by omega)]
    simp only [cond_true, chk_true, Option.bind_some]
    rw [mz_step h h1, List.set_set]) (l := .exit ((k : Int), Rl, n, (k : Int), l, len l, (l.length : Int), t, (c, su, mn, mx, hi, re, R.set k (mz adI m l l.length), u), ())) (by
    unfold F.impl_Merge.s23
    simp only [ge_len, cond_false]) rfl
  rw [mz_end adI m l h] at hh
  have hh : loopO F.impl_Merge.s23 ((k : Int), Rl, n, (k : Int), l, len l, ((0 : Nat) : Int), t, (c, su, mn, mx, hi, re, R.set k (mz adI m l 0), u), ()) = _ := hh
  rw [hR0] at hh
  exact hh
theorem iRows_loop (p0 p1 q0 q1 : List Int) (t : DSketch) (c su mn mx : Int) (hi re : List Int) (u : Unit) (gp0 : rgs p0) (gp1 : rgs p1) (gq0 : rgs q0) (gq1 : rgs q1) (h0 : p0.length = q0.length) (h1 : p1.length = q1.length) (h8 : q0.length ≤ 8) (h9 : q1.length ≤ 8) :
    ∃ e, loopO F.impl_Merge.s20 ([q0, q1], len [q0, q1], 0, t, (c, su, mn, mx, hi, re, [p0, p1], u), ()) = some (.inl ([q0, q1], len [q0, q1], e, t, (c, su, mn, mx, hi, re, [List.zipWith adI p0 q0, List.zipWith adI p1 q1], u), ())) := by
  have r0 := iRow_loop 0 [q0, q1] (len [q0, q1]) q0 p0 t c su mn mx hi re [p0, p1] u (by simp) rfl gp0 gq0 h0 h8 t
  have r1 := iRow_loop 1 [q0, q1] (len [q0, q1]) q1 p1 t c su mn mx hi re [List.zipWith adI p0 q0, p1] u (by simp) rfl gp1 gq1 h1 h9 t
  refine ⟨2, loopO_of (n := 3) ?_⟩
  have s0 : F.impl_Merge.s20 ([q0, q1], len [q0, q1], 0, t, (c, su, mn, mx, hi, re, [p0, p1], u), ()) = some (.again ([q0, q1], len [q0, q1], 1, t, (c, su, mn, mx, hi, re, [List.zipWith adI p0 q0, p1], u), ())) := by
    unfold F.impl_Merge.s20
    simp only
    rw [show decide ((0 : Int) < len [q0, q1]) = true from rfl, show inb 0 [q0, q1].length = true from rfl]
    simp only [cond_true, chk_true, Int.toNat_zero, List.getD_cons_zero]
    exact (congrArg (fun z => afterO z _) r0).trans rfl
  have s1 : F.impl_Merge.s20 ([q0, q1], len [q0, q1], 1, t, (c, su, mn, mx, hi, re, [List.zipWith adI p0 q0, p1], u), ()) = some (.again ([q0, q1], len [q0, q1], 2, t, (c, su, mn, mx, hi, re, [List.zipWith adI p0 q0, List.zipWith adI p1 q1], u), ())) := by
    unfold F.impl_Merge.s20
    simp only
    rw [show decide ((1 : Int) < len [q0, q1]) = true from rfl, show inb 1 [q0, q1].length = true from rfl]
    simp only [cond_true, chk_true, show (1 : Int).toNat = 1 from rfl, List.getD_cons_succ, List.getD_cons_zero]
    exact (congrArg (fun z => afterO z _) r1).trans rfl
  have s2 : F.impl_Merge.s20 ([q0, q1], len [q0, q1], 2, t, (c, su, mn, mx, hi, re, [List.zipWith adI p0 q0, List.zipWith adI p1 q1], u), ()) = some (.exit ([q0, q1], len [q0, q1], 2, t, (c, su, mn, mx, hi, re, [List.zipWith adI p0 q0, List.zipWith adI p1 q1], u), ())) := rfl
  rw [iterO, s0]
  simp only
  rw [iterO, s1]
  simp only
  rw [iterO, s2]
theorem zSkR {s : DSketch} (h : SkR s) : zSketch s = 26 := by
  obtain ⟨r0, r1, e, l0, l1, _, _, _, l2, l3⟩ := skR_len h
  unfold zSketch zIntSS zIntS
  rw [e, l2, l3]
  simp [l0, l1, zIntS]
theorem implMerge_eq (a b : DSketch) (ha : SkR a) (hb : SkR b) : F.impl_Merge a b = some (mergeS a b, true) := by
  have za := zSkR ha
  have zb := zSkR hb
  unfold F.impl_Merge
  rw [implSk_dec a (by omega), implSk_dec b (by omega), decB_pos ha, decB_pos hb, copySketch_eq a (by omega)]
  simp only [Option.bind_some, Bool.not_true, cond_false]
  obtain ⟨p0, p1, ep, lp0, lp1, gp0, gp1, gph, lph, lpr⟩ := skR_len ha
  obtain ⟨q0, q1, eq, lq0, lq1, gq0, gq1, gqh, lqh, lqr⟩ := skR_len hb
  rw [implAdd_eq ha.cnt hb.cnt, implAdd_eq ha.sum hb.sum]
  simp only [Option.bind_some]
  have main : ∀ mn : Int, (afterO (loopO F.impl_Merge.s10 (b.2.2.2.2.1, len b.2.2.2.2.1, 0, b, (0, 0, 0, 0, ([] : List Int), ([] : List Int), ([] : List (List Int)), ()), (adI a.1 b.1, adI a.2.1 b.2.1, mn, mxI a.2.2.2.1 b.2.2.2.1, a.2.2.2.2), ())) fun (x13, x14, x15, x16, x17, x18, _) =>
      afterO (loopO F.impl_Merge.s15 (x16.2.2.2.2.2.1, len x16.2.2.2.2.2.1, 0, x16, x17, x18, ())) fun (x26, x27, x28, x29, x30, x31, _) =>
      afterO (loopO F.impl_Merge.s20 (x29.2.2.2.2.2.2.1, len x29.2.2.2.2.2.2.1, 0, x30, x31, ())) fun (x57, x58, x59, x60, x61, _) =>
      some (x61, true)) = some ((adI a.1 b.1, adI a.2.1 b.2.1, mn, mxI a.2.2.2.1 b.2.2.2.1, List.zipWith adI a.2.2.2.2.1 b.2.2.2.2.1, List.zipWith mxI a.2.2.2.2.2.1 b.2.2.2.2.2.1, [List.zipWith adI p0 q0, List.zipWith adI p1 q1], ()), true) := fun mn => by
    have h1 := iHist_loop b.2.2.2.2.1 b (0, 0, 0, 0, [], [], [], ()) (adI a.1 b.1) (adI a.2.1 b.2.1) mn (mxI a.2.2.2.1 b.2.2.2.1) a.2.2.2.2.1 a.2.2.2.2.2.1 a.2.2.2.2.2.2.1 a.2.2.2.2.2.2.2 gph gqh (by omega) (by omega)
    refine (congrArg (fun z => afterO z _) h1).trans ?_
    have h2 := iRegs_loop b.2.2.2.2.2.1 b (0, 0, 0, 0, [], [], [], ()) (adI a.1 b.1) (adI a.2.1 b.2.1) mn (mxI a.2.2.2.1 b.2.2.2.1) (List.zipWith adI a.2.2.2.2.1 b.2.2.2.2.1) a.2.2.2.2.2.1 a.2.2.2.2.2.2.1 a.2.2.2.2.2.2.2 (by omega) (by omega)
    simp only [afterO]
    rw [h2]
    obtain ⟨e, h3⟩ := iRows_loop p0 p1 q0 q1 (0, 0, 0, 0, [], [], [], ()) (adI a.1 b.1) (adI a.2.1 b.2.1) mn (mxI a.2.2.2.1 b.2.2.2.1) (List.zipWith adI a.2.2.2.2.1 b.2.2.2.2.1) (List.zipWith mxI a.2.2.2.2.2.1 b.2.2.2.2.2.1) () gp0 gp1 gq0 gq1 (by omega) (by omega) (by omega) (by omega)
    simp only [ep, eq]
    rw [h3]
  have fin : ∀ mn : Int, mn = (if b.1 = 0 then a.2.2.1 else if a.1 = 0 then b.2.2.1 else mnI a.2.2.1 b.2.2.1) → some (((adI a.1 b.1, adI a.2.1 b.2.1, mn, mxI a.2.2.2.1 b.2.2.2.1, List.zipWith adI a.2.2.2.2.1 b.2.2.2.2.1, List.zipWith mxI a.2.2.2.2.2.1 b.2.2.2.2.2.1, [List.zipWith adI p0 q0, List.zipWith adI p1 q1], ()) : DSketch), true) = some (mergeS a b, true) := fun mn e => by
    subst e
    unfold mergeS
    rw [ep, eq]; rfl
  have b0 := hb.cnt
  by_cases h1 : a.1 = 0
  · rw [show (a.1 == 0) = true by simp [h1]]
    refine (main _).trans (fin _ ?_)
    by_cases h2 : b.1 = 0
    · rw [if_pos h2]
      have e1 := (ha.zero h1).2; have e2 := (hb.zero h2).2
      have := ha.mn; have := ha.mm; have := hb.mn; have := hb.mm
      omega
    · rw [if_neg h2, if_pos h1]
  · rw [show (a.1 == 0) = false by simp [h1]]
    simp only [cond_false]
    by_cases h2 : b.1 = 0
    · rw [show decide (b.1 > 0) = false from decide_eq_false (by omega)]
      exact (main _).trans (fin _ (by rw [if_pos h2]))
    · rw [show decide (b.1 > 0) = true from decide_eq_true (by omega)]
      simp only [cond_true]
      by_cases h3 : b.2.2.1 < a.2.2.1
      · rw [decide_eq_true h3]
        refine (main _).trans (fin _ ?_)
        rw [if_neg h2, if_neg h1]
        unfold mnI
        rw [if_pos h3]
      · rw [decide_eq_false h3]
        refine (main _).trans (fin _ ?_)
        rw [if_neg h2, if_neg h1]
        unfold mnI
        rw [if_neg h3]
theorem zipM_all {f : Int → Int → Int} {P : Int → Prop} : ∀ {a b : List Int}, (∀ x ∈ a, ∀ y ∈ b, P (f x y)) → ∀ z ∈ List.zipWith f a b, P z
  | [], _, _, z, hz => by simp at hz
  | _ :: _, [], _, z, hz => by simp at hz
  | x :: a, y :: b, h, z, hz => by
    rw [List.zipWith_cons_cons] at hz
    rcases List.mem_cons.1 hz with rfl | hz
    · exact h x (by simp) y (by simp)
    · exact zipM_all (fun x hx y hy => h x (by simp [hx]) y (by simp [hy])) z hz
theorem adI_zero {a b : Int} (ha : rg a) (hb : rg b) : adI a b = 0 ↔ a = 0 ∧ b = 0 := by
  unfold rg adI mnI at *
  split <;> simp_all <;> omega
theorem zipAd {c d : Int} (hc : rg c) (hd : rg d) {a b : List Int} (ha : ∀ x ∈ a, (0 ≤ x ∧ x ≤ 1000000000) ∧ (c = 0 → x = 0)) (hb : ∀ x ∈ b, (0 ≤ x ∧ x ≤ 1000000000) ∧ (d = 0 → x = 0)) :
    ∀ z ∈ List.zipWith adI a b, (0 ≤ z ∧ z ≤ 1000000000) ∧ (adI c d = 0 → z = 0) :=
  zipM_all (P := fun z => (0 ≤ z ∧ z ≤ 1000000000) ∧ (adI c d = 0 → z = 0)) fun x hx y hy => ⟨adI_rg (ha x hx).1 (hb y hy).1, fun e => by
    obtain ⟨e1, e2⟩ := (adI_zero hc hd).1 e
    exact (adI_zero (ha x hx).1 (hb y hy).1).2 ⟨(ha x hx).2 e1, (hb y hy).2 e2⟩⟩
theorem mxI_cases (a b : Int) : mxI a b = a ∨ mxI a b = b := by
  unfold mxI
  split
  · first | exact .inl rfl | exact .inr rfl
  · first | exact .inr rfl | exact .inl rfl
theorem mxI_ge (a b : Int) : a ≤ mxI a b ∧ b ≤ mxI a b := by
  unfold mxI
  split <;> simp_all <;> omega
theorem mnI_cases (a b : Int) : mnI a b = a ∨ mnI a b = b := by
  unfold mnI
  split
  · first | exact .inl rfl | exact .inr rfl
  · first | exact .inr rfl | exact .inl rfl
theorem mnI_le (a b : Int) : mnI a b ≤ a ∧ mnI a b ≤ b := by
  unfold mnI
  split <;> simp_all <;> omega
/-- What is merged is right. -/
theorem mergeS_ok {a b : DSketch} (ha : SkR a) (hb : SkR b) : SkR (mergeS a b) := by
  obtain ⟨p0, p1, ep, ⟨lp0, gp0⟩, ⟨lp1, gp1⟩⟩ := ha.rows
  obtain ⟨q0, q1, eq, ⟨lq0, gq0⟩, ⟨lq1, gq1⟩⟩ := hb.rows
  have hm := mxI_ge a.2.2.2.1 b.2.2.2.1
  have hc := mxI_cases a.2.2.2.1 b.2.2.2.1
  have hn := mnI_le a.2.2.1 b.2.2.1
  have hnc := mnI_cases a.2.2.1 b.2.2.1
  have a1 := ha.mn; have a2 := ha.mm; have a3 := ha.mx
  have b1 := hb.mn; have b2 := hb.mm; have b3 := hb.mx
  refine ⟨adI_rg ha.cnt hb.cnt, adI_rg ha.sum hb.sum, ?_, ?_, ?_, fun e => ?_, ⟨?_, zipAd ha.cnt hb.cnt ha.hist.2 hb.hist.2⟩, ⟨?_, ?_⟩, ⟨List.zipWith adI p0 q0, List.zipWith adI p1 q1, ?_, ⟨?_, zipAd ha.cnt hb.cnt gp0 gq0⟩, ⟨?_, zipAd ha.cnt hb.cnt gp1 gq1⟩⟩⟩
  · show 0 ≤ (if b.1 = 0 then a.2.2.1 else if a.1 = 0 then b.2.2.1 else mnI a.2.2.1 b.2.2.1)
    (repeat' split) <;> omega
  · show (if b.1 = 0 then a.2.2.1 else if a.1 = 0 then b.2.2.1 else mnI a.2.2.1 b.2.2.1) ≤ mxI a.2.2.2.1 b.2.2.2.1
    (repeat' split) <;> omega
  · show mxI a.2.2.2.1 b.2.2.2.1 ≤ 1000000
    omega
  · obtain ⟨e1, e2⟩ := (adI_zero ha.cnt hb.cnt).1 (show adI a.1 b.1 = 0 from e)
    have z1 := ha.zero e1; have z2 := hb.zero e2
    refine ⟨(adI_zero ha.sum hb.sum).2 ⟨z1.1, z2.1⟩, ?_⟩
    show mxI a.2.2.2.1 b.2.2.2.1 = 0
    omega
  · show (List.zipWith adI a.2.2.2.2.1 b.2.2.2.2.1).length = 8
    rw [List.length_zipWith, ha.hist.1, hb.hist.1]; rfl
  · show (List.zipWith mxI a.2.2.2.2.2.1 b.2.2.2.2.2.1).length = 8
    rw [List.length_zipWith, ha.regs.1, hb.regs.1]; rfl
  · exact zipM_all (P := fun z => (0 ≤ z ∧ z ≤ 17) ∧ (adI a.1 b.1 = 0 → z = 0)) fun x hx y hy => by
      have := mxI_cases x y
      have h1 := ha.regs.2 x hx; have h2 := hb.regs.2 y hy
      refine ⟨by omega, fun e => ?_⟩
      obtain ⟨e1, e2⟩ := (adI_zero ha.cnt hb.cnt).1 e
      have := h1.2 e1; have := h2.2 e2
      omega
  · show [List.zipWith adI (a.2.2.2.2.2.2.1.getD 0 []) (b.2.2.2.2.2.2.1.getD 0 []), List.zipWith adI (a.2.2.2.2.2.2.1.getD 1 []) (b.2.2.2.2.2.2.1.getD 1 [])] = _
    rw [ep, eq]; rfl
  · rw [List.length_zipWith, lp0, lq0]; rfl
  · rw [List.length_zipWith, lp1, lq1]; rfl
/- Is a number in a set? -/

def hasB (a : List Sp) (n : Int) : Bool := a.any fun x => inR x.1 x.2.1 n
theorem indexFunc_eq {step : (List Sp × (Int × Unit) × Int × Int × Unit) → Option (Lp (List Sp × (Int × Unit) × Int × Int × Unit) Int)} (a : List Sp) (n : Int) (p : Sp → Bool) (h : a.length ≤ 1048576)
    (hs : ∀ i (hi : i < a.length), step (a, (n, ()), len a, (i : Int), ()) = some (bif p a[i] then .ret (i : Int) else .again (a, (n, ()), len a, ((i + 1 : Nat) : Int), ())))
    (he : step (a, (n, ()), len a, ((a.length : Nat) : Int), ()) = some (.exit (a, (n, ()), len a, ((a.length : Nat) : Int), ()))) :
    ∃ y, loopO step (a, (n, ()), len a, 0, ()) = some y ∧ ((y = .inl (a, (n, ()), len a, ((a.length : Nat) : Int), ()) ∧ a.any p = false) ∨ (∃ i : Nat, y = .inr (i : Int) ∧ a.any p = true)) := by
  have hl := loop_l0 (step := step) a (fun i (_ : Unit) => (a, (n, ()), len a, (i : Int), ())) (fun i _ x => bif p x then .inr (i : Int) else .inl ()) (fun i s hi => by
    rw [hs i hi]; cases p a[i] <;> rfl) (fun _ => he) ()
  refine ⟨_, hl, ?_⟩
  have key : ∀ (m : List Sp) (i : Nat), (runL (fun i _ x => bif p x then (.inr (i : Int) : Unit ⊕ Int) else .inl ()) i m () = .inl () ∧ m.any p = false) ∨ ∃ k : Nat, runL (fun i _ x => bif p x then (.inr (i : Int) : Unit ⊕ Int) else .inl ()) i m () = .inr (k : Int) ∧ m.any p = true := by
    intro m
    induction m with
    | nil => intro i; exact .inl ⟨rfl, rfl⟩
    | cons x m ih =>
      intro i
      simp only [runL, List.any_cons]
      cases p x with
      | true => exact .inr ⟨i, rfl, rfl⟩
      | false => exact ih (i + 1)
  rcases key a 0 with ⟨e, g⟩ | ⟨k, e, g⟩
  · rw [e]; exact .inl ⟨rfl, g⟩
  · rw [e]; exact .inr ⟨k, rfl, g⟩
theorem has_mem {a : List Sp} {n : Int} : hasB a n = true ↔ ∃ x ∈ a, x.1 ≤ n ∧ n ≤ x.2.1 := by
  unfold hasB
  rw [List.any_eq_true]
  exact ⟨fun ⟨x, hx, h⟩ => ⟨x, hx, inR_iff.1 h⟩, fun ⟨x, hx, h⟩ => ⟨x, hx, inR_iff.2 h⟩⟩
/- Spans in order, joined, by the program's loop; a number added to a set; sets joined. -/

/-- Spans whose ends are right. -/
def ends (l : List Sp) : Prop := ∀ x ∈ l, 0 ≤ x.1 ∧ x.1 ≤ x.2.1 ∧ x.2.1 ≤ 9999
theorem copySet_big (a : List DSpan) (h : a.length ≤ 4194304) : F.impl_copySet a = some a := by
  unfold F.impl_copySet
  rw [fits_of (by omega)]; rfl
theorem union_loop (s : List Sp) (h : s.length ≤ 4194304) (he : ends s) : ∃ e1 e2 e3, loopO F.impl_union.s5 ([], s, len s, 0, ()) = some (.inl (uniS s, e1, e2, e3, ())) := by
  have key : ∀ (m p pre : List Sp) (c : Sp), s = p ++ m → pre.length + 1 ≤ p.length → 0 ≤ c.2.1 ∧ c.2.1 ≤ 9999 →
      iterO F.impl_union.s5 (m.length + 1) (pre ++ [c], s, len s, ((p.length : Nat) : Int), ()) = some (.inl (pre ++ runS c m, s, len s, ((s.length : Nat) : Int), ())) := by
    intro m
    induction m with
    | nil =>
      intro p pre c hp hl hc
      have hpl : p.length = s.length := by rw [hp]; simp
      unfold iterO F.impl_union.s5
      simp only [hpl, ge_len, cond_false, runS]
    | cons y m ih =>
      intro p pre c hp hl hc
      have hk : p.length < s.length := by rw [hp]; simp
      have hg : s[p.length] = y := by simp [hp]
      have hy := he y (by rw [hp]; simp)
      have hst : F.impl_union.s5 (pre ++ [c], s, len s, ((p.length : Nat) : Int), ()) = some (.again (if y.1 ≤ c.2.1 + 1 then (pre ++ [(c.1, mxI c.2.1 y.2.1, ())], s, len s, ((p.length + 1 : Nat) : Int), ()) else ((pre ++ [c]) ++ [y], s, len s, ((p.length + 1 : Nat) : Int), ()))) := by
        unfold F.impl_union.s5
        have hln : len (pre ++ [c]) = ((pre.length : Nat) : Int) + 1 := by simp [len]
        have hpr : pre.length < (pre ++ [c]).length := by simp
        simp only
        rw [lt_len hk, inb_nat hk, Int.toNat_natCast, getD_at hk, w64_nat (by omega), hg, hln, show decide (((pre.length : Nat) : Int) + 1 > 0) = true from decide_eq_true (by omega), w64_id (x := ((pre.length : Nat) : Int) + 1 - 1) (by omega) (by omega), show ((pre.length : Nat) : Int) + 1 - 1 = ((pre.length : Nat) : Int) by omega, inb_nat hpr, Int.toNat_natCast, getD_mid, set_mid, w64_id (by omega) (by omega)]
        simp only [cond_true, chk_true, List.length_append, List.length_cons, List.length_nil, Option.bind_some]
        rw [fits_of (by omega)]
        by_cases hc1 : y.1 ≤ c.2.1 + 1
        · rw [decide_eq_true hc1, if_pos hc1]; rfl
        · rw [decide_eq_false hc1, if_neg hc1]; rfl
      rw [List.length_cons, iterO, hst, runS]
      simp only
      by_cases hc1 : y.1 ≤ c.2.1 + 1
      · rw [if_pos hc1, if_pos hc1]
        have := ih (p ++ [y]) pre (c.1, mxI c.2.1 y.2.1, ()) (by simp [hp]) (by simp; omega) (by simp only [mxI]; split <;> omega)
        rw [List.length_append] at this
        exact this
      · rw [if_neg hc1, if_neg hc1]
        have := ih (p ++ [y]) (pre ++ [c]) y (by simp [hp]) (by simp; omega) ⟨by omega, by omega⟩
        rw [List.length_append] at this
        simp only [List.append_assoc] at this ⊢
        exact this
  cases hs : s with
  | nil => exact ⟨_, _, _, loopO_of (n := 1) (by unfold iterO F.impl_union.s5; rfl)⟩
  | cons x l =>
    rw [← hs]
    have hk : 0 < s.length := by rw [hs]; simp
    have hg : s[0] = x := by simp [hs]
    have hx := he x (by rw [hs]; simp)
    have hst : F.impl_union.s5 ([], s, len s, 0, ()) = some (.again ([x], s, len s, 1, ())) := by
      unfold F.impl_union.s5
      simp only
      have h0 := lt_len hk
      have h1 := inb_nat hk
      simp only [Int.natCast_zero] at h0 h1
      rw [h0, h1, show (0 : Int).toNat = 0 from rfl, getD_at hk, hg]
      simp only [cond_true, chk_true, show decide (len ([] : List Sp) > 0) = false from rfl, cond_false, List.length_cons, List.length_nil]
      rw [fits_of (by omega)]; rfl
    have := key l [x] [] x (by rw [hs]; rfl) (by simp) ⟨by omega, by omega⟩
    refine ⟨s, len s, ((s.length : Nat) : Int), loopO_of (n := l.length + 1 + 1) ?_⟩
    rw [iterO, hst]
    rw [hs] at this ⊢
    exact this
theorem ends_perm {a b : List Sp} (h : a.Perm b) (hb : ends b) : ends a := fun x hx => hb x (h.mem_iff.1 hx)
theorem sortS_ends {l : List Sp} (h : ends l) : ends (sortS l) := ends_perm (sortS_perm l) h
theorem union_eq (l : List Sp) (h : l.length ≤ 4194304) (he : ends l) : F.impl_union l = some (uniS (sortS l)) := by
  unfold F.impl_union F.slices_SortFunc_Span__impl_union_1
  rw [copySet_big l h]
  simp only [Option.bind_some]
  rw [show decide (l.length ≤ 4000000000000) = true from decide_eq_true (by omega)]
  have hl : (sortS l).length = l.length := (sortS_perm l).length_eq
  obtain ⟨e1, e2, e3, hh⟩ := union_loop (sortS l) (by omega) (sortS_ends he)
  simp only [chk_true, Option.bind_some, hh, afterO]
theorem okF_ends {s : List Sp} (h : okF 0 s) : ends s := fun x hx => okF_all h x hx
theorem okF_small {s : List Sp} (h : okF 0 s) : s.length ≤ 5001 := by
  rcases okF_len (Int.le_refl 0) h with e | e
  · omega
  · rw [e]; simp
/-- All put one by one into a right set. -/
theorem union_join (a b : List Sp) (h : (a ++ b).length ≤ 4194304) (ha : okF 0 a) (hb : ends b) : F.impl_union (a ++ b) = some (joinS a b) := by
  rw [union_eq _ h (fun x hx => (List.mem_append.1 hx).elim (okF_ends ha x) (hb x)), uni_join ha hb (sortS_perm _) (sortS_sorted _)]
/-- The reference's join of two sets. -/
theorem l5Join_eq (a b : List Sp) (ha : okF 0 a) (hb : ends b) (hl : b.length ≤ 1000000) : F.spec_l5Join a b = some (joinS a b) := by
  have hs := okF_small ha
  unfold F.spec_l5Join
  rw [l5Copy_eq a (by omega)]
  simp only [Option.bind_some]
  have hh := loop_foldP (step := F.spec_l5Join.s3) b (fun (i : Nat) (s : List Sp) => (b, s, (i : Int), ())) (fun s x => put x s) (fun _ s => okF 0 s) (fun i s hi hp => by
    have hx := hb _ (List.getElem_mem hi)
    have := okF_small hp
    refine ⟨?_, put_ok hp hx.1 hx.2.1 hx.2.2⟩
    unfold F.spec_l5Join.s3
    simp only
    rw [lt_len hi, inb_nat hi, Int.toNat_natCast, getD_at hi, w64_nat (by omega), l5Put_eq s b[i] (by omega) (Int.le_refl 0) hp hx.1 hx.2.1 hx.2.2]
    rfl) (fun s hp => by
    unfold F.spec_l5Join.s3
    simp only [ge_len, cond_false]) (s := a) ha
  have h1 : loopO F.spec_l5Join.s3 (b, a, 0, ()) = _ := hh.1
  rw [h1]
  rfl
/- All numbers of a row. -/

/-- The numbers of entries. -/
def idsL (l : List DEntry) : List Sp := l.flatMap fun e => e.2.2.1
theorem idsL_len (l : List DEntry) : (idsL l).length ≤ zEntryS l := by
  unfold idsL zEntryS
  induction l with
  | nil => simp
  | cons x l ih =>
    have : x.2.2.1.length ≤ zEntry x := by unfold zEntry zSpanS; omega
    simp only [List.flatMap_cons, List.length_append, List.map_cons, List.sum_cons, List.length_cons] at *
    omega
theorem idsL_take {l : List DEntry} {i : Nat} (h : i < l.length) : idsL (l.take (i + 1)) = idsL (l.take i) ++ l[i].2.2.1 := by
  unfold idsL
  rw [List.take_add_one, List.getElem?_eq_getElem h, Option.toList_some, List.flatMap_append]; simp only [List.flatMap_cons, List.flatMap_nil, List.append_nil]
theorem idsL_take_le (l : List DEntry) (i : Nat) : (idsL (l.take i)).length ≤ (idsL l).length := by
  conv => rhs; rw [← List.take_append_drop i l]
  unfold idsL
  rw [List.flatMap_append, List.length_append]; omega
theorem idsOf_eq (l : List DEntry) (h : zEntryS l ≤ 4194304) (he : ends (idsL l)) : F.impl_idsOf l = some (uniS (sortS (idsL l))) := by
  have hl := idsL_len l
  have hn : l.length ≤ 4194304 := by unfold zEntryS at h; omega
  unfold F.impl_idsOf
  have hh := loop_run (step := F.impl_idsOf.s3) (fun i => (idsL (l.take i), l, len l, (i : Int), ())) l.length (fun i hi => by
    have h1 := idsL_take_le l (i + 1)
    rw [idsL_take hi, List.length_append] at h1
    unfold F.impl_idsOf.s3
    simp only
    rw [lt_len hi, inb_nat hi, Int.toNat_natCast, getD_at hi, w64_nat (by omega), idsL_take hi]
    simp only [cond_true, chk_true]
    rw [fits_of (by omega)]; rfl) (l := .exit (idsL (l.take l.length), l, len l, ((l.length : Nat) : Int), ())) (by
    unfold F.impl_idsOf.s3
    simp only [ge_len, cond_false]) rfl
  rw [List.take_length] at hh
  refine (congrArg (fun z => afterO z _) hh).trans ?_
  simp only [afterO]
  rw [union_eq _ (by omega) he]; rfl
theorem joinS_app (a b c : List Sp) : joinS a (b ++ c) = joinS (joinS a b) c := by
  unfold joinS
  rw [List.foldl_append]
theorem joinS_cons (a b : List Sp) (x : Sp) : joinS a (x :: b) = joinS (put x a) b := rfl
/-- All numbers in order, joined, and the sets joined one by one. -/
theorem uni_fold (l : List Sp) (he : ends l) : uniS (sortS l) = joinS [] l := by
  have h : (okF 0 ([] : List Sp)) := trivial
  have := uni_join (a := []) (b := l) (s := sortS l) h he (by simpa using sortS_perm l) (sortS_sorted l)
  exact this
theorem joined_ok {l : List Sp} (he : ends l) : okF 0 (joinS [] l) := joinS_ok (show okF 0 ([] : List Sp) from trivial) he
theorem enR_ends {l : List DEntry} (h : ∀ e ∈ l, Good e.2.2.1) : ends (idsL l) := fun x hx => by
  obtain ⟨e, he, hx⟩ := List.mem_flatMap.1 hx
  exact okF_ends (good_ok.1 (h e he)) x hx
/- Right entries of one place, added up: both ways alike. -/

theorem spSet_eq (a : List DSpan) (h : a.length ≤ 1048576) : F.spec_l5Copy a = some a := by
  unfold F.spec_l5Copy
  simp only [List.length_nil, List.nil_append, Nat.zero_add]
  rw [fits_of (by omega)]; rfl
theorem imSet_eq (a : List DSpan) (h : a.length ≤ 1048576) : F.impl_copySet a = some a := by
  unfold F.impl_copySet
  rw [fits_of (by omega)]; rfl
theorem l6Copy_eq (e : DEntry) (h : zEntry e ≤ 1048576) : F.spec_l6Copy e = some e := by
  have hz : e.2.2.1.length + zSketch e.2.2.2.1 ≤ 1048576 := h
  unfold F.spec_l6Copy
  rw [spSet_eq _ (by omega), l3Copy_eq _ (by omega)]; rfl
theorem copyEntry_eq (e : DEntry) (h : zEntry e ≤ 1048576) : F.impl_copyEntry e = some e := by
  have hz : e.2.2.1.length + zSketch e.2.2.2.1 ≤ 1048576 := h
  unfold F.impl_copyEntry
  rw [imSet_eq _ (by omega), copySketch_eq _ (by omega)]; rfl
theorem zEnR {e : DEntry} (h : EnR e) : zEntry e ≤ 5027 := by
  have h1 : e.2.2.1.length ≤ 5001 := okF_small (good_ok.1 h.ids)
  have h2 := zSkR h.sk
  show e.2.2.1.length + zSketch e.2.2.2.1 ≤ 5027
  omega
/-- Two entries, added up. -/
def addE (a b : DEntry) : DEntry := (a.1, a.2.1, joinS a.2.2.1 b.2.2.1, mergeS a.2.2.2.1 b.2.2.2.1, ())
theorem joinS_ne {a b : List Sp} (ha : Good a) (hb : Good b) (h0 : a ≠ []) : joinS a b ≠ [] := by
  intro e
  cases a with
  | nil => exact h0 rfl
  | cons x l =>
    have hx := okF_all (good_ok.1 ha) x (by simp)
    have := (joinS_mem (n := x.1) (good_ok.1 ha) (okF_ends (good_ok.1 hb))).2 (.inl ⟨x, by simp, Int.le_refl _, hx.2.1⟩)
    rw [e] at this
    exact memS_nil this
theorem addE_ok {a b : DEntry} (ha : EnR a) (hb : EnR b) : EnR (addE a b) :=
  ⟨ha.key, ha.win, good_ok.2 (joinS_ok (good_ok.1 ha.ids) (okF_ends (good_ok.1 hb.ids))), joinS_ne ha.ids hb.ids ha.some, mergeS_ok ha.sk hb.sk⟩
theorem l6Add_eq {a b : DEntry} (ha : EnR a) (hb : EnR b) : F.spec_l6Add a b = some (addE a b) := by
  have h2 : b.2.2.1.length ≤ 5001 := okF_small (good_ok.1 hb.ids)
  unfold F.spec_l6Add
  rw [l5Join_eq _ _ (good_ok.1 ha.ids) (okF_ends (good_ok.1 hb.ids)) (by omega), l3Merge_eq _ _ ha.sk hb.sk]; rfl
/- A row's sums, by place: both ways alike. -/

/-- A place's number. -/
def plc (e : DEntry) : Int := e.1 * 21 + e.2.1
/-- An entry comes into ordered sums. -/
def ins (e : DEntry) : List DEntry → List DEntry
  | [] => [e]
  | x :: l => if plc x = plc e then addE x e :: l else if plc x < plc e then x :: ins e l else e :: x :: l
theorem plc_add (a b : DEntry) : plc (addE a b) = plc a := rfl
/-- What is of a place, added up. -/
def totO : List DEntry → Option DEntry
  | [] => none
  | e :: l => some (l.foldl addE e)
def ofP (p : Int) (l : List DEntry) : List DEntry := l.filter fun e => decide (plc e = p)
def smL (ps : List Int) (l : List DEntry) : List DEntry := ps.filterMap fun p => totO (ofP p l)
theorem fold_plc : ∀ (l : List DEntry) (e : DEntry), plc (l.foldl addE e) = plc e
  | [], e => rfl
  | x :: l, e => by rw [List.foldl_cons, fold_plc l]; rfl
theorem totO_plc {p : Int} {l : List DEntry} {t : DEntry} (h : totO (ofP p l) = some t) : plc t = p := by
  cases hl : ofP p l with
  | nil => rw [hl] at h; cases h
  | cons e r =>
    rw [hl] at h
    cases h
    rw [fold_plc]
    have : e ∈ ofP p l := by rw [hl]; simp
    exact of_decide_eq_true (List.mem_filter.1 this).2
theorem ofP_snoc (p : Int) (l : List DEntry) (e : DEntry) : ofP p (l ++ [e]) = ofP p l ++ (if plc e = p then [e] else []) := by
  unfold ofP
  rw [List.filter_append]
  by_cases h : plc e = p
  · simp [h]
  · simp [h]
theorem totO_snoc {l : List DEntry} {e : DEntry} : totO (l ++ [e]) = some (match totO l with
    | none => e
    | some t => addE t e) := by
  cases l with
  | nil => rfl
  | cons x l => simp only [List.cons_append, totO, List.foldl_append, List.foldl_cons, List.foldl_nil]
theorem smL_plc {ps : List Int} {l : List DEntry} {t : DEntry} (h : t ∈ smL ps l) : plc t ∈ ps := by
  obtain ⟨p, hp, ht⟩ := List.mem_filterMap.1 h
  rw [totO_plc ht]; exact hp
theorem smL_none : ∀ {ps : List Int} {l : List DEntry} {e : DEntry}, plc e ∉ ps → smL ps (l ++ [e]) = smL ps l
  | [], l, e, _ => rfl
  | p :: ps, l, e, h => by
    have hne : plc e ≠ p := fun h1 => h (by rw [h1]; simp)
    have ih := smL_none (ps := ps) (l := l) (e := e) (fun h1 => h (by simp [h1]))
    unfold smL at ih ⊢
    rw [List.filterMap_cons, List.filterMap_cons, ofP_snoc, if_neg hne, List.append_nil, ih]
theorem ins_front {e : DEntry} : ∀ {l : List DEntry}, (∀ x ∈ l, plc e < plc x) → ins e l = e :: l
  | [], _ => rfl
  | x :: l, h => by
    have := h x (by simp)
    unfold ins
    rw [if_neg (by omega), if_neg (by omega)]
theorem smL_ins : ∀ {ps : List Int} (l : List DEntry) (e : DEntry), ps.Pairwise (· < ·) → plc e ∈ ps → smL ps (l ++ [e]) = ins e (smL ps l)
  | [], l, e, _, h => by cases h
  | p :: ps, l, e, hp, h => by
    obtain ⟨h1, h2⟩ := List.pairwise_cons.1 hp
    have cons : ∀ m, smL (p :: ps) m = (match totO (ofP p m) with
        | none => smL ps m
        | some t => t :: smL ps m) := fun m => by
      unfold smL
      rw [List.filterMap_cons]
      cases totO (ofP p m) <;> rfl
    rw [cons, cons, ofP_snoc]
    by_cases hq : plc e = p
    · have hn : plc e ∉ ps := fun h3 => by have := h1 _ h3; omega
      rw [if_pos hq, totO_snoc, smL_none hn]
      cases ht : totO (ofP p l) with
      | none =>
        simp only
        rw [ins_front]
        intro x hx
        have := h1 _ (smL_plc hx)
        omega
      | some t =>
        simp only
        unfold ins
        rw [if_pos (by rw [totO_plc ht, hq])]
    · have hin : plc e ∈ ps := (List.mem_cons.1 h).resolve_left hq
      have hlt := h1 _ hin
      rw [if_neg hq, List.append_nil, smL_ins l e h2 hin]
      cases ht : totO (ofP p l) with
      | none => rfl
      | some t =>
        simp only
        have := totO_plc ht
        conv => rhs; unfold ins
        rw [if_neg (by omega), if_pos (by omega)]
/-- All places, in order. -/
def places : List Int := (List.range 105).map fun n => ((n : Nat) : Int)
theorem places_up : places.Pairwise (· < ·) := by
  unfold places
  rw [List.pairwise_map]
  exact List.Pairwise.imp (fun h => by omega) List.pairwise_lt_range
theorem place_in {e : DEntry} (h : EnR e) : plc e ∈ places := by
  have h1 := h.key; have h2 := h.win
  refine List.mem_map.2 ⟨(plc e).toNat, List.mem_range.2 ?_, ?_⟩
  · unfold plc; omega
  · unfold plc; omega
theorem smL_fold : ∀ (l pre : List DEntry), (∀ e ∈ l, EnR e) → l.foldl (fun s e => ins e s) (smL places pre) = smL places (pre ++ l)
  | [], pre, _ => by rw [List.append_nil]; rfl
  | e :: l, pre, h => by
    rw [List.foldl_cons, ← smL_ins pre e places_up (place_in (h e (by simp))), smL_fold l (pre ++ [e]) (fun x hx => h x (by simp [hx])), List.append_assoc]; rfl
theorem smL_nil : smL places [] = [] := by
  unfold smL
  rw [List.filterMap_eq_nil_iff]
  intro p _; rfl
theorem fold_ok : ∀ (l : List DEntry) (e : DEntry), EnR e → (∀ x ∈ l, EnR x) → EnR (l.foldl addE e)
  | [], e, h, _ => h
  | x :: l, e, h, hl => fold_ok l (addE e x) (addE_ok h (hl x (by simp))) (fun y hy => hl y (by simp [hy]))
theorem smL_ok {ps : List Int} {l : List DEntry} (h : ∀ x ∈ l, EnR x) : ∀ x ∈ smL ps l, EnR x := by
  intro x hx
  obtain ⟨p, _, ht⟩ := List.mem_filterMap.1 hx
  have hs : ∀ y ∈ ofP p l, EnR y := fun y hy => h y (List.mem_filter.1 hy).1
  cases hl : ofP p l with
  | nil => rw [hl] at ht; cases ht
  | cons e r =>
    rw [hl] at ht hs
    cases ht
    exact fold_ok r e (hs e (by simp)) (fun y hy => hs y (by simp [hy]))
/-- In order of places. -/
def upP (l : List DEntry) : Prop := l.Pairwise fun x y => plc x < plc y
theorem smL_up : ∀ {ps : List Int} {l : List DEntry}, ps.Pairwise (· < ·) → upP (smL ps l)
  | [], l, _ => List.Pairwise.nil
  | p :: ps, l, h => by
    obtain ⟨h1, h2⟩ := List.pairwise_cons.1 h
    unfold upP smL
    rw [List.filterMap_cons]
    cases ht : totO (ofP p l) with
    | none => exact smL_up h2
    | some t =>
      refine List.Pairwise.cons (fun x hx => ?_) (smL_up h2)
      have := h1 _ (smL_plc hx)
      rw [totO_plc ht]; exact this
theorem smL_len (ps : List Int) (l : List DEntry) : (smL ps l).length ≤ ps.length := List.length_filterMap_le _ _

/-! ### the reference -/
theorem iter_again {X A : Type} {step : X → Option (Lp X A)} (st : Nat → X) (m : Nat) : ∀ n, (∀ k, k < n → step (st k) = some (.again (st (k + 1)))) → iterO step (n + m) (st 0) = iterO step m (st n) := by
  intro n
  induction n generalizing m with
  | zero => intro _; rw [Nat.zero_add]
  | succ n ih =>
    intro h
    rw [show n + 1 + m = n + (m + 1) by omega, ih (m + 1) (fun k hk => h k (by omega)), iterO, h n (by omega)]
theorem plc_cmp {x e : DEntry} (hx : EnR x) (he : EnR e) : (plc x = plc e ↔ x.1 = e.1 ∧ x.2.1 = e.2.1) ∧ (plc x > plc e ↔ x.1 > e.1 ∨ (x.1 = e.1 ∧ x.2.1 > e.2.1)) := by
  have a := hx.key; have b := hx.win; have c := he.key; have d := he.win
  unfold plc
  omega
theorem ins_len (e : DEntry) : ∀ S : List DEntry, (ins e S).length ≤ S.length + 1
  | [] => by simp [ins]
  | x :: S => by
    have := ins_len e S
    unfold ins
    (repeat' split) <;> simp <;> omega
theorem of_eq (l : List DEntry) (k w : Int) (hl : ∀ x ∈ l, EnR x) (hk : 0 ≤ k ∧ k ≤ 4) (hw : 0 ≤ w ∧ w ≤ 20) (hn : l.length ≤ 1048576) : F.impl_of l k w = some (ofP (k * 21 + w) l) := by
  unfold F.impl_of
  have hh := loop_run (step := F.impl_of.s3) (fun i => (k, w, ofP (k * 21 + w) (l.take i), l, len l, (i : Int), ())) l.length (fun i hi => by
    have hx := hl _ (List.getElem_mem hi)
    have c : plc l[i] = k * 21 + w ↔ l[i].1 = k ∧ l[i].2.1 = w := by
      have a := hx.key; have b := hx.win
      unfold plc
      omega
    have hle : (ofP (k * 21 + w) (l.take i)).length ≤ i := by
      refine Nat.le_trans (List.length_filter_le _ _) ?_
      rw [List.length_take]; omega
    unfold F.impl_of.s3
    simp only
    rw [lt_len hi, inb_nat hi, Int.toNat_natCast, getD_at hi, w64_nat (by omega), ← take_snoc hi, ofP_snoc]
    simp only [cond_true, chk_true, List.length_cons, List.length_nil]
    rw [fits_of (by omega)]
    by_cases h1 : l[i].1 = k
    · rw [show (l[i].1 == k) = true by simp [h1]]
      by_cases h2 : l[i].2.1 = w
      · rw [show (l[i].2.1 == w) = true by simp [h2], if_pos (c.2 ⟨h1, h2⟩)]; rfl
      · rw [show (l[i].2.1 == w) = false by simp [h2], if_neg (fun h => h2 (c.1 h).2), List.append_nil]; rfl
    · rw [show (l[i].1 == k) = false by simp [h1], if_neg (fun h => h1 (c.1 h).1), List.append_nil]; rfl) (l := .exit (k, w, ofP (k * 21 + w) (l.take l.length), l, len l, ((l.length : Nat) : Int), ())) (by
    unfold F.impl_of.s3
    simp only [ge_len, cond_false]) rfl
  rw [List.take_length] at hh
  exact (congrArg (fun z => afterO z _) hh).trans rfl
theorem joinS_nil {a : List Sp} (h : Good a) : joinS [] a = a := by
  refine okF_ext (joinS_ok (a := []) (lo := 0) trivial (okF_ends (good_ok.1 h))) (good_ok.1 h) (fun n => ?_)
  rw [joinS_mem (a := []) (lo := 0) trivial (okF_ends (good_ok.1 h))]
  exact ⟨fun h => h.elim (fun h => absurd h memS_nil) id, .inr⟩
theorem fold_ids : ∀ (l : List DEntry) (e : DEntry), (l.foldl addE e).2.2.1 = joinS e.2.2.1 (idsL l)
  | [], e => rfl
  | x :: l, e => by
    rw [List.foldl_cons, fold_ids l]
    show joinS (joinS e.2.2.1 x.2.2.1) (idsL l) = joinS e.2.2.1 (x.2.2.1 ++ idsL l)
    rw [joinS_app]
theorem fold_sk : ∀ (l : List DEntry) (e : DEntry), (l.foldl addE e).1 = e.1 ∧ (l.foldl addE e).2.1 = e.2.1 ∧ (l.foldl addE e).2.2.2.1 = l.foldl (fun s x => mergeS s x.2.2.2.1) e.2.2.2.1
  | [], e => ⟨rfl, rfl, rfl⟩
  | x :: l, e => by
    obtain ⟨h1, h2, h3⟩ := fold_sk l (addE e x)
    exact ⟨h1, h2, h3⟩
theorem foldSk_ok : ∀ (l : List DEntry) (s : DSketch), SkR s → (∀ x ∈ l, EnR x) → SkR (l.foldl (fun s x => mergeS s x.2.2.2.1) s)
  | [], s, h, _ => h
  | x :: l, s, h, hl => foldSk_ok l _ (mergeS_ok h (hl x (by simp)).sk) (fun y hy => hl y (by simp [hy]))
theorem total_eq (e : DEntry) (l : List DEntry) (he : EnR e) (hl : ∀ x ∈ l, EnR x) (hn : l.length ≤ 100) : F.impl_total (e :: l) = some (l.foldl addE e) := by
  have hz := zEnR he
  unfold F.impl_total
  rw [show inb 0 (e :: l).length = true from inb_nat (by simp), List.getD_cons_zero, copyEntry_eq e (by omega)]
  have t1 : List.take ((len (e :: l)).toNat - 1) (List.drop 1 (e :: l)) = l := by
    rw [List.drop_one, List.tail_cons]
    refine List.take_of_length_le ?_
    simp [len]
  rw [t1, show cutOk 1 (len (e :: l)) (e :: l).length = true by simp [cutOk, len]; omega]
  simp only [chk_true, Option.bind_some]
  have hh := loop_run (step := F.impl_total.s3) (fun i => (e :: l, l, len l, (i : Int), (0, 0, [], (0, 0, 0, 0, [], [], [], ()), ()), (e.1, e.2.1, e.2.2.1, (l.take i).foldl (fun s x => mergeS s x.2.2.2.1) e.2.2.2.1, e.2.2.2.2), ())) l.length (fun i hi => by
    have hx := hl _ (List.getElem_mem hi)
    unfold F.impl_total.s3
    simp only
    rw [lt_len hi, inb_nat hi, Int.toNat_natCast, getD_at hi, implMerge_eq _ _ (foldSk_ok _ _ he.sk (fun y hy => hl y (List.mem_of_mem_take hy))) hx.sk, w64_nat (by omega)]
    simp only [cond_true, chk_true, Option.bind_some]
    rw [← take_snoc hi, List.foldl_append]; rfl) (l := .exit (e :: l, l, len l, ((l.length : Nat) : Int), (0, 0, [], (0, 0, 0, 0, [], [], [], ()), ()), (e.1, e.2.1, e.2.2.1, (l.take l.length).foldl (fun s x => mergeS s x.2.2.2.1) e.2.2.2.1, e.2.2.2.2), ())) (by
    unfold F.impl_total.s3
    simp only [ge_len, cond_false]) rfl
  rw [List.take_length] at hh
  refine (congrArg (fun z => afterO z _) hh).trans ?_
  simp only [afterO]
  have hall : ∀ x ∈ e :: l, EnR x := fun x hx => by
    rcases List.mem_cons.1 hx with rfl | hx
    · exact he
    · exact hl x hx
  have hzz : zEntryS (e :: l) ≤ 4194304 := by
    have : ∀ m : List DEntry, (∀ x ∈ m, EnR x) → (m.map zEntry).sum ≤ 5027 * m.length := by
      intro m
      induction m with
      | nil => intro _; simp
      | cons x m ih =>
        intro h
        have h1 := zEnR (h x (by simp))
        have h2 := ih (fun y hy => h y (by simp [hy]))
        simp only [List.map_cons, List.sum_cons, List.length_cons]
        omega
    have := this (e :: l) hall
    unfold zEntryS
    simp only [List.length_cons] at *
    omega
  have hends := enR_ends (l := e :: l) (fun x hx => (hall x hx).ids)
  rw [idsOf_eq _ hzz hends, uni_fold _ hends]
  obtain ⟨f1, f2, f3⟩ := fold_sk l e
  have f4 := fold_ids l e
  have hj : joinS [] (idsL (e :: l)) = joinS e.2.2.1 (idsL l) := by
    show joinS [] (e.2.2.1 ++ idsL l) = _
    rw [joinS_app, joinS_nil he.ids]
  rw [hj]
  simp only [Option.bind_some, Option.some.injEq]
  rw [← f3, ← f4]
  refine Prod.ext f1.symm (Prod.ext f2.symm rfl)
theorem smL_snoc (ps : List Int) (p : Int) (l : List DEntry) : smL (ps ++ [p]) l = smL ps l ++ (totO (ofP p l)).toList := by
  unfold smL
  rw [List.filterMap_append]
  have : List.filterMap (fun p => totO (ofP p l)) [p] = (totO (ofP p l)).toList := by
    rw [List.filterMap_cons]
    cases totO (ofP p l) <;> rfl
  rw [this]
def pls (n : Nat) : List Int := (List.range n).map fun n => ((n : Nat) : Int)
theorem pls_succ (n : Nat) : pls (n + 1) = pls n ++ [(n : Int)] := by unfold pls; rw [List.range_succ, List.map_append]; rfl
theorem pls_len (n : Nat) : (pls n).length = n := by unfold pls; simp
theorem sums_in (l : List DEntry) (hl : ∀ x ∈ l, EnR x) (hn : l.length ≤ 100) (k : Nat) (hk : k ≤ 4) : ∃ e, loopO F.impl_sums.s6 (l, smL (pls (21 * k)) l, (k : Int), 0, ()) = some (.inl (l, smL (pls (21 * k + 21)) l, (k : Int), e, ())) := by
  have hh := loop_run (step := F.impl_sums.s6) (fun i => (l, smL (pls (21 * k + i)) l, (k : Int), (i : Int), ())) 21 (fun i hi => by
    have hs : ∀ y ∈ ofP ((k : Int) * 21 + (i : Int)) l, EnR y := fun y hy => hl y (List.mem_filter.1 hy).1
    have hle : (ofP ((k : Int) * 21 + (i : Int)) l).length ≤ 100 := Nat.le_trans (List.length_filter_le _ _) hn
    have hlen := smL_len (pls (21 * k + i)) l
    rw [pls_len] at hlen
    unfold F.impl_sums.s6
    simp only
    rw [show decide ((i : Int) ≤ 20) = true from decide_eq_true (by omega), of_eq l k i hl (by omega) (by omega) (by omega), w64_nat (by omega), show 21 * k + (i + 1) = (21 * k + i) + 1 by omega, pls_succ, smL_snoc, show (((21 * k + i : Nat)) : Int) = (k : Int) * 21 + (i : Int) by omega]
    simp only [cond_true, Option.bind_some]
    cases ho : ofP ((k : Int) * 21 + (i : Int)) l with
    | nil =>
      rw [show decide (len ([] : List DEntry) > 0) = false from rfl]
      simp [totO]
    | cons e r =>
      rw [ho] at hs hle
      rw [show decide (len (e :: r) > 0) = true from decide_eq_true (by simp only [len, List.length_cons]; omega), total_eq e r (hs e (by simp)) (fun y hy => hs y (by simp [hy])) (by simp at hle; omega)]
      simp only [cond_true, Option.bind_some, List.length_cons, List.length_nil]
      rw [fits_of (by omega)]; rfl) (l := .exit (l, smL (pls (21 * k + 21)) l, (k : Int), 21, ())) (by
    unfold F.impl_sums.s6; rfl) rfl
  exact ⟨_, hh⟩
theorem sums_eq (l : List DEntry) (hl : ∀ x ∈ l, EnR x) (hn : l.length ≤ 100) : F.impl_sums l = some (smL places l) := by
  unfold F.impl_sums
  have hh := loop_run (step := F.impl_sums.s3) (fun k => (l, smL (pls (21 * k)) l, (k : Int), ())) 5 (fun k hk => by
    obtain ⟨e, h⟩ := sums_in l hl hn k (by omega)
    unfold F.impl_sums.s3
    simp only
    rw [show decide ((k : Int) ≤ 4) = true from decide_eq_true (by omega)]
    simp only [cond_true]
    refine (congrArg (fun z => afterO z _) h).trans ?_
    simp only [afterO]
    rw [w64_nat (by omega), show 21 * (k + 1) = 21 * k + 21 by omega]) (l := .exit (l, smL (pls 105) l, 5, ())) (by
    unfold F.impl_sums.s3; rfl) rfl
  have hh : loopO F.impl_sums.s3 (l, smL (pls 0) l, 0, ()) = _ := hh
  have h0 : smL (pls 0) l = [] := rfl
  rw [h0] at hh
  exact (congrArg (fun z => afterO z _) hh).trans rfl
theorem zEnS : ∀ m : List DEntry, (∀ x ∈ m, EnR x) → zEntryS m ≤ 5028 * m.length := by
  intro m
  unfold zEntryS
  induction m with
  | nil => intro _; simp
  | cons x m ih =>
    intro h
    have h1 := zEnR (h x (by simp))
    have h2 := ih (fun y hy => h y (by simp [hy]))
    simp only [List.map_cons, List.sum_cons, List.length_cons]
    omega
/- An entry pushed into a row: both ways alike. -/

theorem apB_iff {a b : List Sp} (ha : ∀ x ∈ a, x.1 ≤ x.2.1) (hb : ∀ y ∈ b, y.1 ≤ y.2.1) : apB a b = true ↔ ∀ n, memS a n → ¬ memS b n := by
  unfold apB
  rw [List.all_eq_true]
  constructor
  · rintro h n ⟨x, hx, h1, h2⟩ ⟨y, hy, h3, h4⟩
    have := h x hx
    rw [List.all_eq_true] at this
    have := this y hy
    unfold ap1 at this
    rw [show decide (x.1 ≤ y.2.1) = true from decide_eq_true (by omega), show decide (y.1 ≤ x.2.1) = true from decide_eq_true (by omega)] at this
    cases this
  · intro h x hx
    rw [List.all_eq_true]
    intro y hy
    unfold ap1
    have h1 := ha x hx
    have h2 := hb y hy
    by_cases c1 : x.1 ≤ y.2.1
    · by_cases c2 : y.1 ≤ x.2.1
      · exfalso
        rcases Int.le_total x.1 y.1 with c | c
        · exact h y.1 ⟨x, hx, c, c2⟩ ⟨y, hy, Int.le_refl _, h2⟩
        · exact h x.1 ⟨x, hx, Int.le_refl _, h1⟩ ⟨y, hy, c, c1⟩
      · rw [decide_eq_false c2, Bool.and_false]; rfl
    · rw [decide_eq_false c1]; rfl
theorem good_le {a : List Sp} (h : Good a) : ∀ x ∈ a, x.1 ≤ x.2.1 := fun x hx => (okF_all (good_ok.1 h) x hx).2.1
theorem good_join {a b : List Sp} (ha : Good a) (hb : Good b) : Good (joinS a b) := good_ok.2 (joinS_ok (good_ok.1 ha) (okF_ends (good_ok.1 hb)))
/-- Apart from what is joined: apart from both. -/
theorem apB_join {a b c : List Sp} (ha : Good a) (hb : Good b) (hc : Good c) : apB (joinS a b) c = true ↔ apB a c = true ∧ apB b c = true := by
  rw [apB_iff (good_le (good_join ha hb)) (good_le hc), apB_iff (good_le ha) (good_le hc), apB_iff (good_le hb) (good_le hc)]
  constructor
  · intro h
    exact ⟨fun n h1 => h n ((joinS_mem (good_ok.1 ha) (okF_ends (good_ok.1 hb))).2 (.inl h1)), fun n h1 => h n ((joinS_mem (good_ok.1 ha) (okF_ends (good_ok.1 hb))).2 (.inr h1))⟩
  · rintro ⟨h1, h2⟩ n h3
    rcases (joinS_mem (good_ok.1 ha) (okF_ends (good_ok.1 hb))).1 h3 with h | h
    · exact h1 n h
    · exact h2 n h
/-- Apart from all in a row. -/
def apRow (l : List DEntry) (ids : List Sp) : Bool := l.all fun x => apB x.2.2.1 ids
theorem l10Apart_eq (r : DRow) (e : DEntry) (hr : RoR r) (he : EnR e) : F.spec_l10Apart r e.2.2.1 = some (apRow r.1 e.2.2.1) := by
  unfold F.spec_l10Apart
  have hf := hr.few
  have h2 : e.2.2.1.length ≤ 5001 := okF_small (good_ok.1 he.ids)
  have hh := loop_all (step := F.spec_l10Apart.s2) r.1 (fun i => (e.2.2.1, (i : Int), r, ())) (fun x => apB x.2.2.1 e.2.2.1) false (fun i hi => by
    have hx := hr.ok.all _ (List.getElem_mem hi)
    have h1 : r.1[i].2.2.1.length ≤ 5001 := okF_small (good_ok.1 hx.ids)
    unfold F.spec_l10Apart.s2
    simp only
    rw [lt_len hi, inb_nat hi, Int.toNat_natCast, getD_at hi, specApart_eq _ _ (by omega) (by omega), decB_pos hx.ids, decB_pos he.ids, w64_nat (by omega)]
    simp only [cond_true, chk_true, Option.bind_some, Bool.true_and]
    cases apB r.1[i].2.2.1 e.2.2.1 <;> rfl) (by
    unfold F.spec_l10Apart.s2
    simp only [ge_len, cond_false])
  refine (congrArg (fun z => afterO z _) hh).trans ?_
  unfold apRow
  cases r.1.all (fun x => apB x.2.2.1 e.2.2.1) <;> rfl
/-- Of the entry's place. -/
def atP (k w : Int) (x : DEntry) : Bool := x.1 == k && x.2.1 == w
theorem placeOf_eq (l : List DEntry) (k w : Int) (hn : l.length ≤ 1048576) : F.impl_placeOf l k w = some (match l.findIdx? (atP k w) with
    | some i => (i : Int)
    | none => -1) := by
  unfold F.impl_placeOf F.slices_IndexFunc_Entry__impl_placeOf_1
  have step : ∀ i (hi : i < l.length), F.slices_IndexFunc_Entry__impl_placeOf_1.s2 (l, (k, w, ()), len l, (i : Int), ()) = some (if atP k w l[i] = true then .ret (i : Int) else .again (l, (k, w, ()), len l, ((i + 1 : Nat) : Int), ())) := fun i hi => by
    unfold F.slices_IndexFunc_Entry__impl_placeOf_1.s2 F.impl_placeOf_1
    simp only
    rw [lt_len hi, inb_nat hi, Int.toNat_natCast, getD_at hi, w64_nat (by omega)]
    simp only [cond_true, chk_true]
    unfold atP
    cases (l[i].1 == k) <;> cases (l[i].2.1 == w) <;> rfl
  have key : ∀ (m p : List DEntry), p ++ m = l → iterO F.slices_IndexFunc_Entry__impl_placeOf_1.s2 (m.length + 1) (l, (k, w, ()), len l, (p.length : Int), ()) = some (match m.findIdx? (atP k w) with
      | some i => .inr ((p.length + i : Nat) : Int)
      | none => .inl (l, (k, w, ()), len l, (l.length : Int), ())) := by
    intro m
    induction m with
    | nil =>
      intro p hp
      have hp : p = l := by simpa using hp
      subst hp
      have : F.slices_IndexFunc_Entry__impl_placeOf_1.s2 (p, (k, w, ()), len p, (p.length : Int), ()) = some (.exit (p, (k, w, ()), len p, (p.length : Int), ())) := by
        unfold F.slices_IndexFunc_Entry__impl_placeOf_1.s2
        simp only [ge_len, cond_false]
      rw [iterO, this]; rfl
    | cons x m ih =>
      intro p hp
      have hi : p.length < l.length := by rw [← hp]; simp
      have hx : l[p.length] = x := by subst hp; simp
      rw [iterO, step _ hi, hx, List.findIdx?_cons]
      cases h : atP k w x with
      | true => simp
      | false =>
        have q := ih (p ++ [x]) (by rw [← hp]; simp)
        rw [List.length_append] at q
        simp only [Bool.false_eq_true, if_false, List.length_cons]
        rw [show ((p.length + 1 : Nat) : Int) = ((p.length + [x].length : Nat) : Int) from rfl, q]
        cases List.findIdx? (atP k w) m with
        | none => rfl
        | some i =>
          simp only [Option.map_some, List.length_cons, List.length_nil]
          congr 2; omega
  have hh := loopO_of (key l [] rfl)
  have hh : loopO F.slices_IndexFunc_Entry__impl_placeOf_1.s2 (l, (k, w, ()), len l, 0, ()) = _ := hh
  simp only
  rw [hh]
  cases l.findIdx? (atP k w) with
  | none => rfl
  | some i => simp [afterO]
theorem atP_iff {k w : Int} {x : DEntry} : atP k w x = true ↔ x.1 = k ∧ x.2.1 = w := by
  unfold atP
  rw [Bool.and_eq_true, beq_iff_eq, beq_iff_eq]
theorem entryAdd_eq {a b : DEntry} (ha : EnR a) (hb : EnR b) (h1 : a.1 = b.1) (h2 : a.2.1 = b.2.1) : F.impl_EntryAdd a b = some (bif apB a.2.2.1 b.2.2.1 then (addE a b, true) else ((0, 0, [], (0, 0, 0, 0, [], [], [], ()), ()), false)) := by
  have za := zEnR ha
  have zb := zEnR hb
  have la : a.2.2.1.length ≤ 5001 := okF_small (good_ok.1 ha.ids)
  have lb : b.2.2.1.length ≤ 5001 := okF_small (good_ok.1 hb.ids)
  unfold F.impl_EntryAdd
  rw [implEn_dec a (by omega), implEn_dec b (by omega), decB_pos ha, decB_pos hb, show (a.1 != b.1) = false by simp [h1], show (a.2.1 != b.2.1) = false by simp [h2], implApart_eq _ _ (by omega) (by omega), decB_pos ha.ids, decB_pos hb.ids]
  simp only [Option.bind_some, Bool.not_true, cond_false, Bool.true_and]
  cases apB a.2.2.1 b.2.2.1 with
  | false => rfl
  | true =>
    have hj : F.impl_SetJoin a.2.2.1 b.2.2.1 = some (joinS a.2.2.1 b.2.2.1, true) := by
      unfold F.impl_SetJoin
      rw [implSet_dec _ (by omega), implSet_dec _ (by omega), decB_pos ha.ids, decB_pos hb.ids, copySet_big _ (by omega)]
      simp only [Option.bind_some, Bool.not_true, cond_false]
      rw [fits_of (by omega), union_join _ _ (by rw [List.length_append]; omega) (good_ok.1 ha.ids) (okF_ends (good_ok.1 hb.ids))]
      rfl
    simp only [Bool.not_true, cond_false, hj, implMerge_eq _ _ ha.sk hb.sk, Option.bind_some]
    rfl
theorem zEnL : ∀ m : List DEntry, (∀ x ∈ m, EnR x) → zEntryS m ≤ 5028 * m.length := by
  intro m
  unfold zEntryS
  induction m with
  | nil => intro _; simp
  | cons x m ih =>
    intro h
    have h1 := zEnR (h x (by simp))
    have h2 := ih (fun y hy => h y (by simp [hy]))
    simp only [List.map_cons, List.sum_cons, List.length_cons]
    omega
theorem l10Copy_eq (r : DRow) (h : zRow r ≤ 1048576) : F.spec_l10Copy r = some r := by
  have hz : zEntryS r.1 ≤ 1048576 := h
  have hn : r.1.length ≤ 1048576 := by unfold zEntryS at hz; omega
  unfold F.spec_l10Copy
  have hh := loop_run (step := F.spec_l10Copy.s3) (fun i => ((i : Int), r, ([], ()), (r.1.take i, ()), ())) r.1.length (fun i hi => by
    unfold F.spec_l10Copy.s3
    simp only
    rw [lt_len hi, inb_nat hi, Int.toNat_natCast, getD_at hi, l6Copy_eq _ (zE_mem hz (List.getElem_mem hi)), w64_nat (by omega)]
    simp only [cond_true, chk_true, Option.bind_some, List.length_cons, List.length_nil, List.length_take]
    rw [fits_of (by omega), take_snoc hi]; rfl) (l := .exit (((r.1.length : Nat) : Int), r, ([], ()), (r.1.take r.1.length, ()), ())) (by
    unfold F.spec_l10Copy.s3
    simp only [ge_len, cond_false]) rfl
  rw [List.take_length] at hh
  exact (congrArg (fun z => afterO z _) hh).trans rfl
theorem copyRow_eq (r : DRow) (h : zRow r ≤ 1048576) : F.impl_copyRow r = some r := by
  have hz : zEntryS r.1 ≤ 1048576 := h
  have hn : r.1.length ≤ 1048576 := by unfold zEntryS at hz; omega
  unfold F.impl_copyRow
  have hc : F.impl_copyEntries r.1 = some r.1 := by
    unfold F.impl_copyEntries
    have hh := loop_run (step := F.impl_copyEntries.s3) (fun i => (r.1.take i, r.1, len r.1, (i : Int), ())) r.1.length (fun i hi => by
      unfold F.impl_copyEntries.s3
      simp only
      rw [lt_len hi, inb_nat hi, Int.toNat_natCast, getD_at hi, copyEntry_eq _ (zE_mem hz (List.getElem_mem hi)), w64_nat (by omega)]
      simp only [cond_true, chk_true, Option.bind_some, List.length_cons, List.length_nil, List.length_take]
      rw [fits_of (by omega), take_snoc hi]; rfl) (l := .exit (r.1.take r.1.length, r.1, len r.1, ((r.1.length : Nat) : Int), ())) (by
      unfold F.impl_copyEntries.s3
      simp only [ge_len, cond_false]) rfl
    rw [List.take_length] at hh
    exact (congrArg (fun z => afterO z _) hh).trans rfl
  rw [hc]; rfl
/-- Apart, whichever way. -/
theorem apB_sym {a b : List Sp} : apB a b = true ↔ apB b a = true := by rw [apB_comm]
theorem ror_app {r : DRow} {e : DEntry} (hr : RoR r) (he : EnR e) : RoR (r.1 ++ [e], r.2) ↔ r.1.length + 1 ≤ 24 ∧ apRow r.1 e.2.2.1 = true := by
  constructor
  · rintro ⟨h1, h2⟩
    simp only [List.length_append, List.length_cons, List.length_nil] at h1
    refine ⟨by omega, ?_⟩
    unfold apRow
    rw [List.all_eq_true]
    intro x hx
    rw [apB_sym]
    exact (List.pairwise_append.1 h2.ap).2.2 x hx e (by simp)
  · rintro ⟨h1, h2⟩
    unfold apRow at h2
    rw [List.all_eq_true] at h2
    refine ⟨by simpa using h1, fun x hx => ?_, List.pairwise_append.2 ⟨hr.ok.ap, List.pairwise_singleton _ _, fun x hx y hy => ?_⟩⟩
    · rcases List.mem_append.1 (show x ∈ r.1 ++ [e] from hx) with h | h
      · exact hr.ok.all x h
      · rw [List.mem_singleton.1 h]; exact he
    · rw [List.mem_singleton.1 hy, apB_sym]
      exact h2 x hx
theorem ror_set {r : DRow} {e : DEntry} (hr : RoR r) (he : EnR e) {k : Nat} (hk : k < r.1.length) (hap : apB r.1[k].2.2.1 e.2.2.1 = true) : RoR (r.1.set k (addE r.1[k] e), r.2) ↔ apRow r.1 e.2.2.1 = true := by
  have hek := hr.ok.all _ (List.getElem_mem hk)
  have hpw := List.pairwise_iff_getElem.1 hr.ok.ap
  have both : ∀ i j (hi : i < r.1.length) (hj : j < r.1.length), i ≠ j → apB r.1[i].2.2.1 r.1[j].2.2.1 = true := fun i j hi hj hij => by
    rcases Nat.lt_or_gt_of_ne hij with h | h
    · rw [apB_sym]; exact hpw i j hi hj h
    · exact hpw j i hj hi h
  have jn : ∀ j (hj : j < r.1.length), j ≠ k → (apB (addE r.1[k] e).2.2.1 r.1[j].2.2.1 = true ↔ apB r.1[j].2.2.1 e.2.2.1 = true) := fun j hj hjk => by
    have hx := hr.ok.all _ (List.getElem_mem hj)
    show apB (joinS r.1[k].2.2.1 e.2.2.1) r.1[j].2.2.1 = true ↔ _
    rw [apB_join hek.ids he.ids hx.ids]
    constructor
    · intro h; rw [apB_sym]; exact h.2
    · intro h; exact ⟨both k j hk hj (Ne.symm hjk), by rw [apB_sym]; exact h⟩
  unfold apRow
  rw [List.all_eq_true]
  constructor
  · rintro ⟨h1, h2⟩ x hx
    obtain ⟨j, hj, rfl⟩ := List.getElem_of_mem hx
    by_cases e1 : j = k
    · subst e1; exact hap
    · have h3 := List.pairwise_iff_getElem.1 h2.ap
      have hjs : j < (r.1.set k (addE r.1[k] e)).length := by rw [List.length_set]; exact hj
      have hks : k < (r.1.set k (addE r.1[k] e)).length := by rw [List.length_set]; exact hk
      rcases Nat.lt_or_gt_of_ne e1 with h | h
      · have := h3 j k hjs hks h
        simp only [List.getElem_set_self, List.getElem_set_ne (Ne.symm e1)] at this
        exact (jn j hj e1).1 this
      · have := h3 k j hks hjs h
        simp only [List.getElem_set_self, List.getElem_set_ne (Ne.symm e1)] at this
        rw [apB_sym] at this
        exact (jn j hj e1).1 this
  · intro h
    refine ⟨by simp only [List.length_set]; exact hr.few, fun x hx => ?_, List.pairwise_iff_getElem.2 fun i j hi hj hij => ?_⟩
    · rcases List.mem_or_eq_of_mem_set (show x ∈ r.1.set k (addE r.1[k] e) from hx) with h1 | rfl
      · exact hr.ok.all x h1
      · exact addE_ok hek he
    · have hi' : i < r.1.length := by rw [List.length_set] at hi; exact hi
      have hj' : j < r.1.length := by rw [List.length_set] at hj; exact hj
      simp only [List.getElem_set]
      by_cases e1 : k = i
      · subst e1
        rw [if_pos rfl, if_neg (by omega), apB_sym]
        exact (jn j hj' (by omega)).2 (h _ (List.getElem_mem hj'))
      · by_cases e2 : k = j
        · subst e2
          rw [if_pos rfl, if_neg e1]
          exact (jn i hi' (by omega)).2 (h _ (List.getElem_mem hi'))
        · rw [if_neg e1, if_neg e2]
          exact hpw i j hi' hj' hij
/-- What is pushed. -/
def pushed (r : DRow) (e : DEntry) (j : Bool) : DRow × Bool := match (bif j then r.1.findIdx? (atP e.1 e.2.1) else none) with
  | some k => ((r.1.set k (addE (r.1.getD k e) e), r.2), true)
  | none => if r.1.length = 24 then (r, false) else ((r.1 ++ [e], r.2), true)
theorem push_loop (r : DRow) (e : DEntry) (hr : RoR r) (he : EnR e) (t : DRow) : loopO F.spec_RowPush.s5 (true, 0, r, e, t, r, ()) = some (match r.1.findIdx? (atP e.1 e.2.1) with
    | some k => .inr ((r.1.set k (addE (r.1.getD k e) e), r.2), true)
    | none => .inl (true, (r.1.length : Int), r, e, t, r, ())) := by
  have hf := hr.few
  have step : ∀ i (hi : i < r.1.length), F.spec_RowPush.s5 (true, (i : Int), r, e, t, r, ()) = some (if atP e.1 e.2.1 r.1[i] = true then .ret ((r.1.set i (addE r.1[i] e), r.2), true) else .again (true, ((i + 1 : Nat) : Int), r, e, t, r, ())) := fun i hi => by
    have hx := hr.ok.all _ (List.getElem_mem hi)
    unfold F.spec_RowPush.s5
    simp only
    rw [lt_len hi, inb_nat hi, Int.toNat_natCast, getD_at hi, w64_nat (by omega), l6Add_eq hx he]
    simp only [cond_true, chk_true, Option.bind_some]
    unfold atP
    cases (r.1[i].1 == e.1) <;> cases (r.1[i].2.1 == e.2.1) <;> rfl
  have key : ∀ (m p : List DEntry), p ++ m = r.1 → iterO F.spec_RowPush.s5 (m.length + 1) (true, (p.length : Int), r, e, t, r, ()) = some (match m.findIdx? (atP e.1 e.2.1) with
      | some k => .inr ((r.1.set (p.length + k) (addE (r.1.getD (p.length + k) e) e), r.2), true)
      | none => .inl (true, (r.1.length : Int), r, e, t, r, ())) := by
    intro m
    induction m with
    | nil =>
      intro p hp
      have hp : p = r.1 := by simpa using hp
      have : F.spec_RowPush.s5 (true, (p.length : Int), r, e, t, r, ()) = some (.exit (true, (r.1.length : Int), r, e, t, r, ())) := by
        rw [hp]
        unfold F.spec_RowPush.s5
        simp only [ge_len, cond_false]
      rw [List.length_nil, iterO, this]; rfl
    | cons x m ih =>
      intro p hp
      have hi : p.length < r.1.length := by rw [← hp]; simp
      have hx : r.1[p.length] = x := by
        have : r.1[p.length]'hi = (p ++ x :: m)[p.length]'(by simp) := by congr 1; exact hp.symm
        rw [this]; simp
      rw [iterO, step _ hi, hx, List.findIdx?_cons]
      cases h : atP e.1 e.2.1 x with
      | true =>
        simp only [if_true, Nat.add_zero]
        rw [getD_at hi, hx]
      | false =>
        have q := ih (p ++ [x]) (by rw [← hp]; simp)
        rw [List.length_append] at q
        simp only [Bool.false_eq_true, if_false, List.length_cons]
        rw [show ((p.length + 1 : Nat) : Int) = ((p.length + [x].length : Nat) : Int) from rfl, q]
        cases List.findIdx? (atP e.1 e.2.1) m with
        | none => rfl
        | some i =>
          simp only [Option.map_some, List.length_cons, List.length_nil]
          rw [show p.length + (0 + 1) + i = p.length + (i + 1) by omega]
  have hh := loopO_of (key r.1 [] rfl)
  have hh : loopO F.spec_RowPush.s5 (true, 0, r, e, t, r, ()) = _ := hh
  rw [hh]
  cases r.1.findIdx? (atP e.1 e.2.1) with
  | none => rfl
  | some k => simp
theorem find_at {l : List DEntry} {k w : Int} {i : Nat} (h : l.findIdx? (atP k w) = some i) : ∃ hi : i < l.length, l[i].1 = k ∧ l[i].2.1 = w := by
  obtain ⟨hi, h1, _⟩ := List.findIdx?_eq_some_iff_getElem.1 h
  exact ⟨hi, atP_iff.1 h1⟩
theorem specPush_eq (r : DRow) (e : DEntry) (j : Bool) (h : zRow r ≤ 1048576) (h' : zEntry e ≤ 1048576) : F.spec_RowPush r e j = some (bif decB (RoR r ∧ EnR e ∧ apRow r.1 e.2.2.1 = true) then pushed r e j else (r, false)) := by
  unfold F.spec_RowPush
  rw [l10Copy_eq r h, specRow_dec r h, specEn_dec e h']
  simp only [Option.bind_some]
  by_cases hr : RoR r
  case neg => rw [decB_neg hr, decB_neg (show ¬ (RoR r ∧ EnR e ∧ apRow r.1 e.2.2.1 = true) from fun hh => hr hh.1)]; rfl
  by_cases he : EnR e
  case neg => rw [decB_pos hr, decB_neg he, decB_neg (show ¬ (RoR r ∧ EnR e ∧ apRow r.1 e.2.2.1 = true) from fun hh => he hh.2.1)]; rfl
  rw [decB_pos hr, decB_pos he, l10Apart_eq r e hr he]
  simp only [Option.bind_some, Bool.not_true, cond_false]
  cases ha : apRow r.1 e.2.2.1 with
  | false => rw [decB_neg (fun hh => by cases hh.2.2)]; rfl
  | true =>
    rw [decB_pos ⟨hr, he, rfl⟩]
    have hf := hr.few
    have tail : (bif (len r.1 == 24) then some (r, false) else (F.spec_l6Copy e).bind fun r18 => chk (fits (List.length r.1 + List.length ([r18])) 144) <| some ((r.1 ++ ([r18]), r.2), true)) = some (if r.1.length = 24 then (r, false) else ((r.1 ++ [e], r.2), true)) := by
      rw [l6Copy_eq e h']
      by_cases h24 : r.1.length = 24
      · rw [show (len r.1 == 24) = true by simp [len, h24], if_pos h24]; rfl
      · rw [show (len r.1 == 24) = false by simp only [len, beq_eq_false_iff_ne, ne_eq]; omega, if_neg h24]
        simp only [cond_false, Option.bind_some, List.length_cons, List.length_nil]
        rw [fits_of (by omega)]; rfl
    simp only [Bool.not_true, cond_false, cond_true]
    unfold pushed
    cases j with
    | true =>
      rw [push_loop r e hr he ([], ())]
      simp only [cond_true]
      cases r.1.findIdx? (atP e.1 e.2.1) with
      | some k => rfl
      | none => exact tail
    | false =>
      simp only [cond_false]
      have hex : F.spec_RowPush.s5 (false, 0, r, e, ([], ()), r, ()) = some (.exit (false, 0, r, e, ([], ()), r, ())) := by
        unfold F.spec_RowPush.s5
        simp only
        cases decide ((0 : Int) < len r.1) <;> rfl
      have hh : loopO F.spec_RowPush.s5 (false, 0, r, e, ([], ()), r, ()) = some (.inl (false, 0, r, e, ([], ()), r, ())) := loopO_of (n := 1) (by rw [iterO, hex])
      rw [hh]
      exact tail
theorem implPush_eq (r : DRow) (e : DEntry) (j : Bool) (h : zRow r ≤ 1048576) (h' : zEntry e ≤ 1048576) : F.impl_RowPush r e j = some (bif decB (RoR r ∧ EnR e ∧ apRow r.1 e.2.2.1 = true) then pushed r e j else (r, false)) := by
  unfold F.impl_RowPush
  rw [copyRow_eq r h, implRow_dec r h, implEn_dec e h']
  simp only [Option.bind_some]
  by_cases hr : RoR r
  case neg => rw [decB_neg hr, decB_neg (show ¬ (RoR r ∧ EnR e ∧ apRow r.1 e.2.2.1 = true) from fun hh => hr hh.1)]; rfl
  by_cases he : EnR e
  case neg => rw [decB_pos hr, decB_neg he, decB_neg (show ¬ (RoR r ∧ EnR e ∧ apRow r.1 e.2.2.1 = true) from fun hh => he hh.2.1)]; rfl
  have hf := hr.few
  have hz := zEnL r.1 hr.ok.all
  have hze := zEnR he
  have hzs : zEntryS (r.1 ++ [e]) ≤ 1048576 := by
    have := zEnL (r.1 ++ [e]) (fun x hx => by
      rcases List.mem_append.1 hx with h1 | h1
      · exact hr.ok.all x h1
      · rw [List.mem_singleton.1 h1]; exact he)
    rw [List.length_append] at this
    simp only [List.length_cons, List.length_nil] at this
    omega
  have tail : (chk (fits (List.length r.1 + List.length [e]) 144) <| (F.impl_RowOk (r.1 ++ [e], r.2)).bind fun r11 => bif !r11 then some (r, false) else some ((r.1 ++ [e], r.2), true)) = some (bif decB (RoR r ∧ EnR e ∧ apRow r.1 e.2.2.1 = true) then (if r.1.length = 24 then (r, false) else ((r.1 ++ [e], r.2), true)) else (r, false)) := by
    simp only [List.length_cons, List.length_nil]
    rw [fits_of (by omega), implRow_dec (r.1 ++ [e], r.2) hzs]
    simp only [chk_true, Option.bind_some]
    by_cases hq : RoR (r.1 ++ [e], r.2)
    · obtain ⟨q1, q2⟩ := (ror_app hr he).1 hq
      rw [decB_pos hq, decB_pos ⟨hr, he, q2⟩, if_neg (by omega)]; rfl
    · rw [decB_neg hq]
      by_cases ha : apRow r.1 e.2.2.1 = true
      · rw [decB_pos ⟨hr, he, ha⟩, if_pos]
        · rfl
        · have : ¬ (r.1.length + 1 ≤ 24) := fun h1 => hq ((ror_app hr he).2 ⟨h1, ha⟩)
          omega
      · rw [decB_neg (fun hh => ha hh.2.2)]; rfl
  rw [decB_pos hr, decB_pos he, placeOf_eq _ _ _ (by omega), copyEntry_eq e h']
  simp only [Option.bind_some, Bool.not_true, cond_false]
  unfold pushed
  cases j with
  | false => exact tail
  | true =>
    simp only [cond_true]
    cases hk : r.1.findIdx? (atP e.1 e.2.1) with
    | none =>
      rw [show decide ((-1 : Int) ≥ 0) = false from rfl]
      exact tail
    | some k =>
      obtain ⟨hi, h1, h2⟩ := find_at hk
      have hek := hr.ok.all _ (List.getElem_mem hi)
      simp only
      rw [show decide (((k : Nat) : Int) ≥ 0) = true from decide_eq_true (by omega), inb_nat hi, Int.toNat_natCast, getD_at hi, entryAdd_eq hek he h1 h2]
      simp only [cond_true, chk_true, Option.bind_some]
      have hgd : r.1.getD k e = r.1[k] := getD_at hi
      rw [hgd]
      cases hap : apB r.1[k].2.2.1 e.2.2.1 with
      | false =>
        have : ¬ (RoR r ∧ EnR e ∧ apRow r.1 e.2.2.1 = true) := fun hh => by
          have h3 := hh.2.2
          unfold apRow at h3
          rw [List.all_eq_true] at h3
          have := h3 _ (List.getElem_mem hi)
          rw [hap] at this; cases this
        rw [decB_neg this]; rfl
      | true =>
        have hzt : zEntryS (r.1.set k (addE r.1[k] e)) ≤ 1048576 := by
          have := zEnL (r.1.set k (addE r.1[k] e)) (fun x hx => by
            rcases List.mem_or_eq_of_mem_set hx with h1 | rfl
            · exact hr.ok.all x h1
            · exact addE_ok hek he)
          rw [List.length_set] at this
          omega
        simp only [cond_true, Bool.not_true, cond_false]
        rw [implRow_dec (r.1.set k (addE r.1[k] e), r.2) hzt]
        simp only [Option.bind_some]
        by_cases hq : RoR (r.1.set k (addE r.1[k] e), r.2)
        · rw [decB_pos hq, decB_pos ⟨hr, he, (ror_set hr he hi hap).1 hq⟩]; rfl
        · rw [decB_neg hq, decB_neg (fun hh => hq ((ror_set hr he hi hap).2 hh.2.2))]; rfl
theorem rowPush_same (r : DRow) (e : DEntry) (j : Bool) (h : zRow r ≤ 1048576) (h' : zEntry e ≤ 1048576) : ∃ q : DRow × Bool, F.spec_RowPush r e j = some q ∧ F.impl_RowPush r e j = some q ∧ zRow q.1 ≤ 1099511627776 := by
  refine ⟨_, specPush_eq r e j h h', implPush_eq r e j h h', ?_⟩
  by_cases hc : RoR r ∧ EnR e ∧ apRow r.1 e.2.2.1 = true
  · rw [decB_pos hc]
    obtain ⟨hr, he, ha⟩ := hc
    have hf := hr.few
    have hzr := zEnL r.1 hr.ok.all
    have hze := zEnR he
    unfold pushed
    simp only [cond_true]
    split
    · rename_i k hk
      have hk : r.1.findIdx? (atP e.1 e.2.1) = some k := by cases j <;> simp_all
      obtain ⟨hi, _⟩ := find_at hk
      have hek := hr.ok.all _ (List.getElem_mem hi)
      have := zEnL (r.1.set k (addE (r.1.getD k e) e)) (fun x hx => by
        rcases List.mem_or_eq_of_mem_set hx with h1 | rfl
        · exact hr.ok.all x h1
        · rw [getD_at hi]; exact addE_ok hek he)
      rw [List.length_set] at this
      show zEntryS (r.1.set k (addE (r.1.getD k e) e)) ≤ _
      omega
    · split
      · show zEntryS r.1 ≤ _
        omega
      · have := zEnL (r.1 ++ [e]) (fun x hx => by
          rcases List.mem_append.1 hx with h1 | h1
          · exact hr.ok.all x h1
          · rw [List.mem_singleton.1 h1]; exact he)
        rw [List.length_append] at this
        simp only [List.length_cons, List.length_nil] at this
        show zEntryS (r.1 ++ [e]) ≤ _
        omega
  · rw [decB_neg hc]
    show zRow r ≤ _
    omega
/- How many numbers of a set lie in an agent's place; sizes; within. -/

theorem mx3 (a b : Int) : a ≤ mxI a b ∧ b ≤ mxI a b ∧ (mxI a b = a ∨ mxI a b = b) := by
  unfold mxI
  split <;> omega
theorem mn3 (a b : Int) : mnI a b ≤ a ∧ mnI a b ≤ b ∧ (mnI a b = a ∨ mnI a b = b) := by
  unfold mnI
  split <;> omega
/-- The numbers of a set from b on, n at most. -/
def blk (S : List Sp) (b : Int) (n : Nat) : Nat := (List.range n).countP fun (k : Nat) => hasB S (b + (k : Int))
theorem countP_or {α : Type} {p q : α → Bool} : ∀ {l : List α}, (∀ x ∈ l, ¬ (p x = true ∧ q x = true)) → l.countP (fun x => p x || q x) = l.countP p + l.countP q
  | [], _ => rfl
  | x :: l, h => by
    have h0 := h x (List.mem_cons_self ..)
    rw [List.countP_cons, List.countP_cons, List.countP_cons, countP_or (fun y hy => h y (List.mem_cons_of_mem _ hy))]
    cases hp : p x <;> cases hq : q x
    · simp
    · simp; omega
    · simp; omega
    · exact absurd ⟨hp, hq⟩ h0
theorem blk_one (lo hi b : Int) (h : lo ≤ hi) : ∀ n : Nat, (((List.range n).countP fun (k : Nat) => inR lo hi (b + (k : Int)) : Nat) : Int) = mxI (mnI hi (b + (n : Int) - 1) - mxI lo b + 1) 0
  | 0 => by
    simp only [List.range_zero, List.countP_nil]
    have h1 := mn3 hi (b + ((0 : Nat) : Int) - 1)
    have h2 := mx3 lo b
    have h3 := mx3 (mnI hi (b + ((0 : Nat) : Int) - 1) - mxI lo b + 1) 0
    push_cast at *
    omega
  | n + 1 => by
    rw [List.range_succ, List.countP_append, List.countP_singleton]
    have ih := blk_one lo hi b h n
    have e : (inR lo hi (b + (n : Int)) = true) ↔ (lo ≤ b + (n : Int) ∧ b + (n : Int) ≤ hi) := inR_iff
    have h1 := mn3 hi (b + (n : Int) - 1)
    have h2 := mx3 lo b
    have h3 := mx3 (mnI hi (b + (n : Int) - 1) - mxI lo b + 1) 0
    have h4 := mn3 hi (b + ((n + 1 : Nat) : Int) - 1)
    have h5 := mx3 (mnI hi (b + ((n + 1 : Nat) : Int) - 1) - mxI lo b + 1) 0
    by_cases hc : lo ≤ b + (n : Int) ∧ b + (n : Int) ≤ hi
    · rw [if_pos (e.2 hc)]
      push_cast at *
      rw [ih]
      omega
    · rw [if_neg (fun q => hc (e.1 q))]
      push_cast at *
      rw [ih]
      omega
theorem hasB_cons (x : Sp) (l : List Sp) (n : Int) : hasB (x :: l) n = (inR x.1 x.2.1 n || hasB l n) := rfl
theorem has_memS {S : List Sp} {n : Int} : hasB S n = true ↔ memS S n := has_mem
/-- Of an agent. -/
def ofS (S : List Sp) (a : Int) : Int := (S.map fun x => mxI (mnI x.2.1 (100 * a + 60) - mxI x.1 (100 * a + 1) + 1) 0).sum
theorem blk_of (a : Int) : ∀ {S : List Sp} {lo : Int}, okF lo S → ((blk S (100 * a + 1) 60 : Nat) : Int) = ofS S a
  | [], lo, _ => by
    unfold blk ofS
    have : ∀ l : List Nat, l.countP (fun (k : Nat) => hasB [] (100 * a + 1 + (k : Int))) = 0 := fun l => List.countP_eq_zero.2 (fun k _ => by simp [hasB])
    rw [this]; rfl
  | x :: l, lo, h => by
    obtain ⟨h1, h2, h3, h4⟩ := h
    have ih := blk_of a h4
    unfold blk ofS at *
    simp only [hasB_cons]
    rw [countP_or (fun k _ hk => by
      have e1 := inR_iff.1 hk.1
      have e2 := okF_lb h4 (has_memS.1 hk.2)
      omega)]
    simp only [List.map_cons, List.sum_cons]
    have := blk_one x.1 x.2.1 (100 * a + 1) h2 60
    push_cast at this ⊢
    rw [ih, this, show (100 * a + 1 + 60 - 1 : Int) = 100 * a + 60 by omega]
theorem hasB_join {A B : List Sp} (ha : okF 0 A) (hb : ends B) (n : Int) : hasB (joinS A B) n = (hasB A n || hasB B n) := by
  rw [Bool.eq_iff_iff, Bool.or_eq_true, has_memS, has_memS, has_memS, joinS_mem ha hb]
theorem blk_join {A B : List Sp} (ha : okF 0 A) (hb : okF 0 B) (h : ∀ n, memS A n → ¬ memS B n) (b : Int) (n : Nat) : blk (joinS A B) b n = blk A b n + blk B b n := by
  unfold blk
  simp only [hasB_join ha (okF_ends hb)]
  exact countP_or (fun k _ hk => h _ (has_memS.1 hk.1) (has_memS.1 hk.2))
theorem ofS_rng (x : Sp) (a : Int) : 0 ≤ mxI (mnI x.2.1 (100 * a + 60) - mxI x.1 (100 * a + 1) + 1) 0 ∧ mxI (mnI x.2.1 (100 * a + 60) - mxI x.1 (100 * a + 1) + 1) 0 ≤ 60 := by
  have h1 := mn3 x.2.1 (100 * a + 60)
  have h2 := mx3 x.1 (100 * a + 1)
  have h3 := mx3 (mnI x.2.1 (100 * a + 60) - mxI x.1 (100 * a + 1) + 1) 0
  omega
theorem ofS_take {S : List Sp} {i : Nat} (h : i < S.length) (a : Int) : ofS (S.take (i + 1)) a = ofS (S.take i) a + mxI (mnI S[i].2.1 (100 * a + 60) - mxI S[i].1 (100 * a + 1) + 1) 0 := by
  unfold ofS
  rw [List.take_succ_eq_append_getElem h, List.map_append, List.sum_append]
  simp
theorem ofS_le (a : Int) : ∀ S : List Sp, 0 ≤ ofS S a ∧ ofS S a ≤ 60 * (S.length : Int)
  | [] => by simp [ofS]
  | x :: l => by
    have h1 := ofS_le a l
    have h2 := ofS_rng x a
    unfold ofS at *
    simp only [List.map_cons, List.sum_cons, List.length_cons]
    push_cast
    omega
/-- A set's size. -/
def szS (S : List Sp) : Int := (S.map fun x => x.2.1 - x.1 + 1).sum
theorem szS_rng : ∀ {S : List Sp} {lo : Int}, 0 ≤ lo → okF lo S → 0 ≤ szS S ∧ (szS S ≤ 10000 - lo ∨ szS S = 0)
  | [], lo, h0, _ => by simp [szS]
  | x :: l, lo, h0, h => by
    obtain ⟨h1, h2, h3, h4⟩ := h
    have ih := szS_rng (by omega) h4
    unfold szS at *
    simp only [List.map_cons, List.sum_cons]
    omega
theorem szS_take {S : List Sp} {i : Nat} (h : i < S.length) : szS (S.take (i + 1)) = szS (S.take i) + (S[i].2.1 - S[i].1 + 1) := by
  unfold szS
  rw [List.take_succ_eq_append_getElem h, List.map_append, List.sum_append]
  simp
theorem szS_part : ∀ {S : List Sp} (i : Nat), (∀ x ∈ S, x.1 ≤ x.2.1) → 0 ≤ szS (S.take i) ∧ szS (S.take i) ≤ szS S
  | [], i, _ => by simp [szS]
  | x :: l, 0, h => by
    have h1 := szS_part (S := l) 0 (fun y hy => h y (List.mem_cons_of_mem _ hy))
    have h2 := h x (List.mem_cons_self ..)
    unfold szS at *
    simp only [List.take_zero, List.map_nil, List.sum_nil, List.map_cons, List.sum_cons] at *
    omega
  | x :: l, i + 1, h => by
    have h1 := szS_part (S := l) i (fun y hy => h y (List.mem_cons_of_mem _ hy))
    have h2 := h x (List.mem_cons_self ..)
    unfold szS at *
    simp only [List.take_succ_cons, List.map_cons, List.sum_cons] at *
    omega
theorem accS_eq {S : List Sp} (h : okF 0 S) : ∀ i, i ≤ S.length → accS S i = szS (S.take i)
  | 0, _ => by simp [accS, szS]
  | i + 1, hi => by
    have hi : i < S.length := by omega
    have hx := okF_all h _ (List.getElem_mem hi)
    have h1 := szS_rng (Int.le_refl 0) h
    have h2 := szS_part (S := S) i (fun y hy => (okF_all h y hy).2.1)
    rw [accS, accS_eq h i (by omega), getD_at hi, szS_take hi, w64_id (x := szS (S.take i) + S[i].2.1) (by omega) (by omega), w64_id (x := szS (S.take i) + S[i].2.1 - S[i].1) (by omega) (by omega), w64_id (by omega) (by omega)]
    omega
/-- All from lo to hi. -/
def Rng (S : List Sp) (lo hi : Int) : Prop := ∀ x ∈ S, lo ≤ x.1 ∧ x.2.1 ≤ hi
theorem ofS_size (a : Int) : ∀ {S : List Sp}, (∀ x ∈ S, x.1 ≤ x.2.1) → ofS S a ≤ szS S ∧ (ofS S a = szS S ↔ Rng S (100 * a + 1) (100 * a + 60))
  | [], _ => ⟨Int.le_refl _, fun _ x hx => (by cases hx), fun _ => rfl⟩
  | x :: l, h => by
    have ih := ofS_size a (S := l) (fun y hy => h y (List.mem_cons_of_mem _ hy))
    have h2 := h x (List.mem_cons_self ..)
    have e : Rng (x :: l) (100 * a + 1) (100 * a + 60) ↔ (100 * a + 1 ≤ x.1 ∧ x.2.1 ≤ 100 * a + 60) ∧ Rng l (100 * a + 1) (100 * a + 60) := by
      unfold Rng
      simp only [List.mem_cons, forall_eq_or_imp]
    rw [e, ← ih.2]
    unfold ofS szS at *
    simp only [List.map_cons, List.sum_cons]
    have ih1 := ih.1
    generalize (List.map (fun x => mxI (mnI x.2.1 (100 * a + 60) - mxI x.1 (100 * a + 1) + 1) 0) l).sum = P at *
    generalize (List.map (fun (x : Sp) => x.2.1 - x.1 + 1) l).sum = Q at *
    have q1 := mn3 x.2.1 (100 * a + 60)
    have q2 := mx3 x.1 (100 * a + 1)
    have q3 := mx3 (mnI x.2.1 (100 * a + 60) - mxI x.1 (100 * a + 1) + 1) 0
    refine ⟨by omega, ?_⟩
    constructor <;> intro hh <;> omega
theorem okF_last : ∀ {S : List Sp} {lo : Int}, okF lo S → ∀ y ∈ S, y.2.1 ≤ (S.getD (S.length - 1) (0, 0, ())).2.1
  | [], _, _, y, hy => by cases hy
  | [x], _, _, y, hy => by rw [List.mem_singleton.1 hy]; exact Int.le_refl _
  | x :: z :: l, lo, h, y, hy => by
    obtain ⟨h1, h2, h3, h4⟩ := h
    have ih := okF_last h4
    have e : (x :: z :: l).getD ((x :: z :: l).length - 1) (0, 0, ()) = (z :: l).getD ((z :: l).length - 1) (0, 0, ()) := by
      simp
    rw [e]
    rcases List.mem_cons.1 hy with rfl | hy
    · have h5 := ih z (List.mem_cons_self ..)
      have h6 := okF_all h4 z (List.mem_cons_self ..)
      omega
    · exact ih y hy
/- Sums of rows: whether joined or not, all come to the same. -/

theorem adI_def (a b : Int) : adI a b = if a + b ≤ 1000000000 then a + b else 1000000000 := by
  unfold adI
  have h1 := mn3 (a + b) 1000000000
  split <;> omega
theorem mnI_comm' (a b : Int) : mnI a b = mnI b a := by
  have h1 := mn3 a b
  have h2 := mn3 b a
  omega
/-- In either order. -/
theorem adI_right {a b c : Int} (ha : rg a) (hb : rg b) (hc : rg c) : adI (adI a b) c = adI (adI a c) b := by
  unfold rg at *
  simp only [adI_def]
  split <;> split <;> split <;> split <;> omega
theorem mxI_right (a b c : Int) : mxI (mxI a b) c = mxI (mxI a c) b := by
  have h1 := mx3 a b
  have h2 := mx3 a c
  have h3 := mx3 (mxI a b) c
  have h4 := mx3 (mxI a c) b
  omega
theorem mnI_right (a b c : Int) : mnI (mnI a b) c = mnI (mnI a c) b := by
  have h1 := mn3 a b
  have h2 := mn3 a c
  have h3 := mn3 (mnI a b) c
  have h4 := mn3 (mnI a c) b
  omega
theorem zip_right {f : Int → Int → Int} {P : Int → Prop} (hf : ∀ a b c, P a → P b → P c → f (f a b) c = f (f a c) b) : ∀ {a b c : List Int}, a.length = b.length → a.length = c.length → (∀ x ∈ a, P x) → (∀ x ∈ b, P x) → (∀ x ∈ c, P x) → List.zipWith f (List.zipWith f a b) c = List.zipWith f (List.zipWith f a c) b
  | [], _, _, _, _, _, _, _ => by simp
  | x :: a, [], _, h, _, _, _, _ => by simp at h
  | x :: a, y :: b, [], _, h, _, _, _ => by simp at h
  | x :: a, y :: b, z :: c, h1, h2, ha, hb, hc => by
    simp only [List.zipWith_cons_cons]
    rw [hf x y z (ha x (List.mem_cons_self ..)) (hb y (List.mem_cons_self ..)) (hc z (List.mem_cons_self ..)), zip_right hf (by simpa using h1) (by simpa using h2) (fun w hw => ha w (List.mem_cons_of_mem _ hw)) (fun w hw => hb w (List.mem_cons_of_mem _ hw)) (fun w hw => hc w (List.mem_cons_of_mem _ hw))]
theorem adZip {a b c : List Int} (h1 : a.length = b.length) (h2 : a.length = c.length) (ha : rgs a) (hb : rgs b) (hc : rgs c) : List.zipWith adI (List.zipWith adI a b) c = List.zipWith adI (List.zipWith adI a c) b :=
  zip_right (P := rg) (fun _ _ _ h1 h2 h3 => adI_right h1 h2 h3) h1 h2 ha hb hc
theorem mergeS_right {a b c : DSketch} (ha : SkR a) (hb : SkR b) (hc : SkR c) : mergeS (mergeS a b) c = mergeS (mergeS a c) b := by
  obtain ⟨a0, a1, ea, la0, la1, ra0, ra1, rah, lah, lag⟩ := skR_len ha
  obtain ⟨b0, b1, eb, lb0, lb1, rb0, rb1, rbh, lbh, lbg⟩ := skR_len hb
  obtain ⟨c0, c1, ec, lc0, lc1, rc0, rc1, rch, lch, lcg⟩ := skR_len hc
  have c1a : rg a.1 := ha.cnt
  have c1b : rg b.1 := hb.cnt
  have c1c : rg c.1 := hc.cnt
  have s1a : rg a.2.1 := ha.sum
  have s1b : rg b.2.1 := hb.sum
  have s1c : rg c.2.1 := hc.sum
  have z1 := adI_zero c1a c1b
  have z2 := adI_zero c1a c1c
  unfold mergeS
  simp only [ea, eb, ec, List.getD_cons_zero, List.getD_cons_succ]
  rw [adI_right c1a c1b c1c, adI_right s1a s1b s1c, mxI_right a.2.2.2.1, adZip (by omega) (by omega) rah rbh rch, adZip (a := a0) (by omega) (by omega) ra0 rb0 rc0, adZip (a := a1) (by omega) (by omega) ra1 rb1 rc1, zip_right (f := mxI) (P := fun _ => True) (a := a.2.2.2.2.2.1) (fun x y z _ _ _ => mxI_right x y z) (by omega) (by omega) (fun _ _ => trivial) (fun _ _ => trivial) (fun _ _ => trivial)]
  have hm : (if c.1 = 0 then if b.1 = 0 then a.2.2.1 else if a.1 = 0 then b.2.2.1 else mnI a.2.2.1 b.2.2.1 else if adI a.1 b.1 = 0 then c.2.2.1 else mnI (if b.1 = 0 then a.2.2.1 else if a.1 = 0 then b.2.2.1 else mnI a.2.2.1 b.2.2.1) c.2.2.1) =
      (if b.1 = 0 then if c.1 = 0 then a.2.2.1 else if a.1 = 0 then c.2.2.1 else mnI a.2.2.1 c.2.2.1 else if adI a.1 c.1 = 0 then b.2.2.1 else mnI (if c.1 = 0 then a.2.2.1 else if a.1 = 0 then c.2.2.1 else mnI a.2.2.1 c.2.2.1) b.2.2.1) := by
    simp only [z1, z2]
    by_cases h1 : a.1 = 0 <;> by_cases h2 : b.1 = 0 <;> by_cases h3 : c.1 = 0 <;> simp only [h1, h2, h3, if_true, if_false, and_true, and_false, true_and, false_and, and_self]
    · exact mnI_comm' _ _
    · exact mnI_right _ _ _
  rw [hm]
theorem joinS_right {a b c : List Sp} (ha : Good a) (hb : Good b) (hc : Good c) : joinS (joinS a b) c = joinS (joinS a c) b := by
  have oa := good_ok.1 ha
  have eb := okF_ends (good_ok.1 hb)
  have ec := okF_ends (good_ok.1 hc)
  have j1 : okF 0 (joinS a b) := joinS_ok oa eb
  have j2 : okF 0 (joinS a c) := joinS_ok oa ec
  refine okF_ext (joinS_ok j1 ec) (joinS_ok j2 eb) (fun n => ?_)
  rw [joinS_mem j1 ec, joinS_mem oa eb, joinS_mem j2 eb, joinS_mem oa ec]
  constructor
  · rintro ((h | h) | h)
    · exact .inl (.inl h)
    · exact .inr h
    · exact .inl (.inr h)
  · rintro ((h | h) | h)
    · exact .inl (.inl h)
    · exact .inr h
    · exact .inl (.inr h)
theorem addE_right {x e y : DEntry} (hx : EnR x) (he : EnR e) (hy : EnR y) : addE (addE x e) y = addE (addE x y) e := by
  unfold addE
  simp only
  rw [joinS_right hx.ids he.ids hy.ids, mergeS_right hx.sk he.sk hy.sk]
theorem fold_right : ∀ {B : List DEntry} {x e : DEntry}, EnR x → EnR e → (∀ y ∈ B, EnR y) → B.foldl addE (addE x e) = addE (B.foldl addE x) e
  | [], _, _, _, _, _ => rfl
  | y :: B, x, e, hx, he, h => by
    have hy := h y (List.mem_cons_self ..)
    rw [List.foldl_cons, addE_right hx he hy, fold_right (addE_ok hx hy) he (fun z hz => h z (List.mem_cons_of_mem _ hz)), List.foldl_cons]
theorem find_split {k w : Int} : ∀ {l : List DEntry} {i : Nat}, l.findIdx? (atP k w) = some i → ∃ A x B, l = A ++ x :: B ∧ A.length = i ∧ atP k w x = true ∧ ∀ z ∈ A, atP k w z = false
  | [], i, h => by simp at h
  | y :: l, i, h => by
    rw [List.findIdx?_cons] at h
    cases hy : atP k w y with
    | true =>
      rw [hy] at h
      simp only [if_true, Option.some.injEq] at h
      exact ⟨[], y, l, rfl, h, hy, fun z hz => by cases hz⟩
    | false =>
      rw [hy] at h
      simp only [Bool.false_eq_true, if_false] at h
      cases hl : l.findIdx? (atP k w) with
      | none => rw [hl] at h; cases h
      | some j =>
        rw [hl] at h
        simp only [Option.map_some, Option.some.injEq] at h
        obtain ⟨A, x, B, e1, e2, e3, e4⟩ := find_split hl
        refine ⟨y :: A, x, B, by rw [e1]; rfl, by simp only [List.length_cons]; omega, e3, fun z hz => ?_⟩
        rcases List.mem_cons.1 hz with rfl | hz
        · exact hy
        · exact e4 z hz
/-- Joined, or put behind: the sums are the same. -/
theorem smL_join {l : List DEntry} {e : DEntry} {k : Nat} (hl : ∀ x ∈ l, EnR x) (he : EnR e) (hk : l.findIdx? (atP e.1 e.2.1) = some k) (ps : List Int) : smL ps (l.set k (addE (l.getD k e) e)) = smL ps (l ++ [e]) := by
  obtain ⟨A, x, B, rfl, hA, hx, hn⟩ := find_split hk
  have hxe : EnR x := hl x (by simp)
  have hB : ∀ y ∈ B, EnR y := fun y hy => hl y (by simp [hy])
  have hset : (A ++ x :: B).set k (addE ((A ++ x :: B).getD k e) e) = A ++ addE x e :: B := by
    rw [← hA, getD_mid, set_mid]
  have hpx : plc x = plc e := ((plc_cmp hxe he).1).2 (atP_iff.1 hx)
  rw [hset]
  unfold smL
  congr 1
  funext p
  unfold ofP
  simp only [List.filter_append, List.filter_cons, List.filter_nil, plc_add, hpx]
  by_cases hp : plc e = p
  · rw [decide_eq_true hp]
    have hA0 : A.filter (fun z => decide (plc z = p)) = [] := by
      rw [List.filter_eq_nil_iff]
      intro z hz hc
      have hc := of_decide_eq_true hc
      have hz2 := hn z hz
      have hze : EnR z := hl z (by simp [hz])
      have := ((plc_cmp hze he).1).1 (by rw [hc, hp])
      rw [atP_iff.2 this] at hz2
      cases hz2
    rw [hA0]
    simp only [if_true, List.nil_append, List.cons_append]
    unfold totO
    simp only [List.foldl_append, List.foldl_cons, List.foldl_nil]
    rw [fold_right hxe he (fun y hy => hB y (List.mem_filter.1 hy).1)]
  · rw [decide_eq_false hp]
    simp
theorem implSum_eq (r : DRow) (h : zRow r ≤ 1048576) (hr : RoR r) : F.impl_RowSum r = some (smL places r.1) := by
  unfold F.impl_RowSum
  have := hr.few
  rw [implRow_dec r h, decB_pos hr, sums_eq r.1 hr.ok.all (by omega)]; rfl
theorem implIds_eq (r : DRow) (h : zRow r ≤ 1048576) (hr : RoR r) : F.impl_RowIds r = some (joinS [] (idsL r.1)) := by
  have hz : zEntryS r.1 ≤ 1048576 := h
  have hen : ends (idsL r.1) := enR_ends fun e he => (hr.ok.all e he).ids
  unfold F.impl_RowIds
  rw [implRow_dec r h, decB_pos hr]
  simp only [Option.bind_some, Bool.not_true, cond_false]
  rw [idsOf_eq r.1 (by omega) hen, uni_fold _ hen]
  rfl
/-! ### sizes -/
theorem blk_szS : ∀ {S : List Sp} {lo : Int}, 0 ≤ lo → okF lo S → ((blk S 0 10000 : Nat) : Int) = szS S
  | [], lo, _, _ => by
    have : blk [] 0 10000 = 0 := List.countP_eq_zero.2 (fun k _ => by simp [hasB])
    rw [this]; rfl
  | x :: l, lo, h0, h => by
    obtain ⟨h1, h2, h3, h4⟩ := h
    have ih := blk_szS (by omega) h4
    have hx := blk_one x.1 x.2.1 0 h2 10000
    have e : blk (x :: l) 0 10000 = ((List.range 10000).countP fun (k : Nat) => inR x.1 x.2.1 (0 + (k : Int))) + blk l 0 10000 := by
      unfold blk
      simp only [hasB_cons]
      exact countP_or (fun k _ hk => by
        have e1 := inR_iff.1 hk.1
        have e2 := okF_lb h4 (has_memS.1 hk.2)
        omega)
    rw [e]
    have q1 := mn3 x.2.1 (0 + ((10000 : Nat) : Int) - 1)
    have q2 := mx3 x.1 0
    have q3 := mx3 (mnI x.2.1 (0 + ((10000 : Nat) : Int) - 1) - mxI x.1 0 + 1) 0
    have e3 : szS (x :: l) = (x.2.1 - x.1 + 1) + szS l := by unfold szS; simp
    rw [e3]
    rw [Int.natCast_add, ih, hx]
    omega
theorem szS_join {A B : List Sp} (ha : okF 0 A) (hb : okF 0 B) (h : ∀ n, memS A n → ¬ memS B n) : szS (joinS A B) = szS A + szS B := by
  have hj : okF 0 (joinS A B) := joinS_ok ha (okF_ends hb)
  rw [← blk_szS (Int.le_refl 0) hj, ← blk_szS (Int.le_refl 0) ha, ← blk_szS (Int.le_refl 0) hb, blk_join ha hb h]
  push_cast
  rfl
theorem sz_rng : ∀ {S : List Sp} {lo : Int}, 0 ≤ lo → okF lo S → 0 ≤ szS S ∧ szS S ≤ 10000
  | [], lo, h0, _ => by simp [szS]
  | x :: l, lo, h0, h => by
    have h1 := szS_rng h0 h
    omega
theorem implSize_eq {S : List Sp} (h : okF 0 S) : F.impl_SetSize S = some (szS S) := by
  have hl := okF_small h
  have hr := sz_rng (Int.le_refl 0) h
  unfold F.impl_SetSize
  rw [implSet_dec S (by omega), decB_pos (good_ok.2 h)]
  have hh := loop_run (step := F.impl_SetSize.s5) (fun i => (szS (S.take i), S, len S, (i : Int), ())) S.length (fun i hi => by
    have hx := okF_all h _ (List.getElem_mem hi)
    have h2 := szS_part (S := S) i (fun y hy => (okF_all h y hy).2.1)
    unfold F.impl_SetSize.s5
    simp only
    rw [lt_len hi, inb_nat hi, Int.toNat_natCast, getD_at hi, w64_nat (i := i) (by omega), w64_id (x := S[i].2.1 - S[i].1) (by omega) (by omega), w64_id (x := S[i].2.1 - S[i].1 + 1) (by omega) (by omega), szS_take hi]
    simp only [cond_true, chk_true]
    rw [w64_id (by omega) (by omega)]) (l := .exit (szS (S.take S.length), S, len S, ((S.length : Nat) : Int), ())) (by
    unfold F.impl_SetSize.s5
    simp only [ge_len, cond_false]) rfl
  rw [List.take_length] at hh
  have hh : loopO F.impl_SetSize.s5 (0, S, len S, 0, ()) = _ := hh
  simp only [Option.bind_some, Bool.not_true, cond_false]
  rw [hh]
  rfl
theorem apB_mem {a b : List Sp} (ha : Good a) (hb : Good b) : apB a b = true ↔ ∀ n, memS a n → ¬ memS b n := apB_iff (good_le ha) (good_le hb)
theorem memS_idsL {l : List DEntry} {n : Int} : memS (idsL l) n ↔ ∃ e ∈ l, memS e.2.2.1 n := by
  unfold memS idsL
  constructor
  · rintro ⟨x, hx, h⟩
    obtain ⟨e, he, hx⟩ := List.mem_flatMap.1 hx
    exact ⟨e, he, x, hx, h⟩
  · rintro ⟨e, he, x, hx, h⟩
    exact ⟨x, List.mem_flatMap.2 ⟨e, he, hx⟩, h⟩
/- A row's first entry taken: both ways alike. -/

/-- No entry. -/
abbrev noE : DEntry := (0, 0, ([] : List DSpan), (0, 0, 0, 0, ([] : List Int), ([] : List Int), ([] : List (List Int)), ()), ())
/-- What is taken from a row. -/
noncomputable def popped (r : DRow) : DEntry × DRow × Bool := bif decB (RoR r) && !r.1.isEmpty then (r.1.getD 0 noE, (r.1.drop 1, ()), true) else (noE, r, false)
theorem pop_take (l : List DEntry) : List.take ((Int.toNat (len l)) - 1) (List.drop 1 l) = l.drop 1 := by
  rw [List.take_of_length_le]
  rw [List.length_drop]
  simp only [len]; omega
theorem implPop_eq (r : DRow) (h : zRow r ≤ 1048576) : F.impl_RowPop r = some (popped r) := by
  unfold F.impl_RowPop popped
  rw [copyRow_eq r h, implRow_dec r h]
  simp only [Option.bind_some]
  by_cases hr : RoR r
  case neg => rw [decB_neg hr]; rfl
  rw [decB_pos hr]
  have hf := hr.few
  obtain ⟨l, u⟩ := r
  cases l with
  | nil => rfl
  | cons x l =>
    have hf : l.length + 1 ≤ 24 := hf
    rw [show (len (x :: l) == 0) = false by simp only [len, List.length_cons, beq_eq_false_iff_ne, ne_eq]; omega, pop_take, show inb 0 (x :: l).length = true from inb_nat (i := 0) (by simp), show cutOk 1 (len (x :: l)) (x :: l).length = true by simp [cutOk, len]; omega]
    rfl
theorem zEn_cons (x : DEntry) (l : List DEntry) : zEntryS (x :: l) = 1 + zEntry x + zEntryS l := by
  unfold zEntryS
  simp only [List.map_cons, List.sum_cons, List.length_cons]
  omega
/- Drawing: numbers out of bytes. -/

theorem and_small (x : Int) (m : Nat) (hm : m < 9223372036854775808) : 0 ≤ ibits .and .i64 x (m : Int) ∧ ibits .and .i64 x (m : Int) ≤ (m : Int) := by
  have h : ((BitVec.ofInt IntKind.i64.bits x) &&& (BitVec.ofInt IntKind.i64.bits (m : Int))).toNat ≤ m := by
    rw [BitVec.toNat_and]
    refine Nat.le_trans Nat.and_le_right ?_
    have : (BitVec.ofInt IntKind.i64.bits (m : Int)).toNat = m % 2 ^ 64 := by simp [IntKind.bits]
    rw [this]
    exact Nat.mod_le _ _
  unfold ibits
  simp only
  generalize ((BitVec.ofInt IntKind.i64.bits x) &&& (BitVec.ofInt IntKind.i64.bits (m : Int))).toNat = k at h
  have hw : IntKind.wrap .i64 (k : Int) = (k : Int) := w64_id (by omega) (by omega)
  rw [hw]
  omega
/-- A source of bytes in its range. -/
def srcOk (s : List Int × Int × Int × Unit) : Prop := s.1.length ≤ 1048576 ∧ 0 ≤ s.2.1 ∧ s.2.1 ≤ 9000000000000000000
theorem l1New_ok (a : List Int) (h : a.length ≤ 1048576) : ∃ s, F.spec_l1New a = some s ∧ srcOk s := by
  unfold F.spec_l1New
  obtain ⟨y, h1, h2⟩ := loopO_rule (step := F.spec_l1New.s3) (fun x => x.1 = a ∧ 0 ≤ x.2.2.1 ∧ x.2.2.1 ≤ a.length) (fun y => ∃ b c, y = .inl (a, b, c, ()))
    (fun x => a.length - x.2.2.1.toNat) (fun x hx => by
      obtain ⟨x1, x2, x3, u⟩ := x
      obtain ⟨rfl, g1, g2⟩ := hx
      simp only at g1 g2
      have h : x1.length ≤ 1048576 := h
      unfold F.spec_l1New.s3
      simp only
      by_cases hlt : x3 < (x1.length : Int)
      · rw [show decide (x3 < len x1) = true from decide_eq_true hlt]
        cases h4 : decide (x3 < 4000) with
        | false => exact ⟨.exit (x1, x2, x3, ()), rfl, _, _, rfl⟩
        | true =>
          rw [inb_of g1 hlt]
          refine ⟨_, rfl, ⟨rfl, ?_, ?_⟩, ?_⟩
          all_goals simp only
          all_goals rw [w64_id (by omega) (by omega)]
          · omega
          · omega
          · omega
      · refine ⟨.exit (x1, x2, x3, ()), ?_, _, _, rfl⟩
        rw [show decide (x3 < len x1) = false from decide_eq_false hlt]; rfl) (x := (a, w64 (26583 + len a), 0, ())) ⟨rfl, Int.le_refl 0, by simp⟩
  obtain ⟨b, c, rfl⟩ := h2
  rw [h1]
  exact ⟨_, rfl, h, Int.le_refl 0, by show (0 : Int) ≤ 9000000000000000000; omega⟩
theorem l1Byte_ok (s : List Int × Int × Int × Unit) (hs : srcOk s) : ∃ v s', F.spec_l1Byte s = some (v, s') ∧ 0 ≤ v ∧ v ≤ 255 ∧ srcOk s' := by
  obtain ⟨a, p, q, u⟩ := s
  obtain ⟨g1, g2, g3⟩ := hs
  simp only at g1 g2 g3
  unfold F.spec_l1Byte
  simp only
  by_cases hlt : p < (a.length : Int)
  · rw [show decide (p < len a) = true from decide_eq_true hlt, inb_of g2 hlt]
    refine ⟨_, _, rfl, (and_small _ 255 (by omega)).1, (and_small _ 255 (by omega)).2, g1, ?_, ?_⟩
    all_goals simp only
    all_goals rw [w64_id (by omega) (by omega)]
    · omega
    · omega
  · rw [show decide (p < len a) = false from decide_eq_false hlt]
    exact ⟨_, _, rfl, (and_small _ 255 (by omega)).1, (and_small _ 255 (by omega)).2, g1, g2, g3⟩
theorem l1Below_ok (s : List Int × Int × Int × Unit) (hs : srcOk s) (n : Int) (h0 : 0 < n) (h1 : n ≤ 256) : ∃ v s', F.spec_l1Below s n = some (v, s') ∧ 0 ≤ v ∧ v < n ∧ srcOk s' := by
  unfold F.spec_l1Below
  rw [show decide (n ≤ 0) = false from decide_eq_false (by omega), show decide (n ≤ 256) = true from decide_eq_true h1]
  obtain ⟨v, s', e, g1, g2, g3⟩ := l1Byte_ok s hs
  simp only [cond_false, cond_true, e, Option.bind_some]
  rw [show (n == 0) = false by simp; omega]
  refine ⟨_, s', rfl, Int.tmod_nonneg _ g1, ?_, g3⟩
  have := Int.tmod_lt_of_pos v h0
  exact this
theorem l1Once_ok (s : List Int × Int × Int × Unit) (hs : srcOk s) (n : Int) (h0 : 0 < n) (h1 : n ≤ 256) : ∃ b s', F.spec_l1Once s n = some (b, s') ∧ srcOk s' := by
  unfold F.spec_l1Once
  obtain ⟨v, s', e, _, _, g3⟩ := l1Below_ok s hs n h0 h1
  rw [e]
  exact ⟨_, _, rfl, g3⟩
theorem l1Pick_ok (s : List Int × Int × Int × Unit) (hs : srcOk s) (l : List Int) (h0 : 0 < l.length) (h1 : l.length ≤ 256) : ∃ v s', F.spec_l1PickInt s l = some (v, s') ∧ v ∈ l ∧ srcOk s' := by
  unfold F.spec_l1PickInt
  obtain ⟨v, s', e, g1, g2, g3⟩ := l1Below_ok s hs (len l) (by show 0 < (l.length : Int); omega) (by show (l.length : Int) ≤ 256; omega)
  rw [e]
  have hlt : v < (l.length : Int) := g2
  have hi : v.toNat < l.length := by omega
  simp only [Option.bind_some]
  rw [inb_of g1 hlt, getD_at hi]
  exact ⟨_, _, rfl, List.getElem_mem hi, g3⟩
theorem l1Below_any (s : List Int × Int × Int × Unit) (hs : srcOk s) (n : Int) (h1 : n ≤ 2147483647) : ∃ v s', F.spec_l1Below s n = some (v, s') ∧ 0 ≤ v ∧ (v < n ∨ (n ≤ 0 ∧ v = 0)) ∧ srcOk s' := by
  by_cases h0 : n ≤ 0
  · unfold F.spec_l1Below
    rw [show decide (n ≤ 0) = true from decide_eq_true h0]
    exact ⟨0, s, rfl, Int.le_refl _, .inr ⟨h0, rfl⟩, hs⟩
  · by_cases h2 : n ≤ 256
    · obtain ⟨v, s', e, g1, g2, g3⟩ := l1Below_ok s hs n (by omega) h2
      exact ⟨v, s', e, g1, .inl g2, g3⟩
    · unfold F.spec_l1Below
      obtain ⟨v1, s1, e1, a1, b1, c1⟩ := l1Byte_ok s hs
      obtain ⟨v2, s2, e2, a2, b2, c2⟩ := l1Byte_ok s1 c1
      obtain ⟨v3, s3, e3, a3, b3, c3⟩ := l1Byte_ok s2 c2
      obtain ⟨v4, s4, e4, a4, b4, c4⟩ := l1Byte_ok s3 c3
      rw [show decide (n ≤ 0) = false from decide_eq_false h0, show decide (n ≤ 256) = false from decide_eq_false h2]
      simp only [cond_false, e1, e2, e3, e4, Option.bind_some]
      rw [show (n == 0) = false by simp; omega]
      have e : w64 (w64 (w64 (w64 (v1 * 16777216) + w64 (v2 * 65536)) + w64 (v3 * 256)) + v4) = v1 * 16777216 + v2 * 65536 + v3 * 256 + v4 := by
        rw [w64_id (x := v1 * 16777216) (by omega) (by omega), w64_id (x := v2 * 65536) (by omega) (by omega), w64_id (x := v3 * 256) (by omega) (by omega), w64_id (x := v1 * 16777216 + v2 * 65536) (by omega) (by omega), w64_id (x := v1 * 16777216 + v2 * 65536 + v3 * 256) (by omega) (by omega), w64_id (by omega) (by omega)]
      rw [e]
      exact ⟨_, s4, rfl, Int.tmod_nonneg _ (by omega), .inl (Int.tmod_lt_of_pos _ (by omega)), c4⟩
/- Bytes: numbers and sums put into bytes; both ways alike. -/

/-- Groups of seven bits, the least first. -/
def numP : Nat → Int → List Int → Int × List Int
  | 0, x, acc => (x, acc)
  | f + 1, x, acc => if x > 127 then numP f (x / 128) (acc ++ [IntKind.wrap .u8 (x % 128 + 128)]) else (x, acc)
/-- A number's bytes. -/
def numB (x : Int) : List Int := if 0 ≤ x ∧ x ≤ 2147483647 then (numP 4 x []).2 ++ [IntKind.wrap .u8 (numP 4 x []).1] else []
theorem numP_len : ∀ (f : Nat) (x : Int) (acc : List Int), (numP f x acc).2.length ≤ acc.length + f
  | 0, x, acc => by simp [numP]
  | f + 1, x, acc => by
    unfold numP
    split
    · have := numP_len f (x / 128) (acc ++ [IntKind.wrap .u8 (x % 128 + 128)])
      simp at this ⊢; omega
    · simp
theorem numB_len (x : Int) : (numB x).length ≤ 5 := by
  unfold numB
  split
  · have := numP_len 4 x []
    simp at this ⊢; omega
  · simp
/-- Many numbers' bytes. -/
def numsB (l : List Int) : List Int := l.flatMap numB
theorem numsB_len (l : List Int) : (numsB l).length ≤ 5 * l.length := by
  unfold numsB
  induction l with
  | nil => simp
  | cons x l ih =>
    have := numB_len x
    simp only [List.flatMap_cons, List.length_append, List.length_cons]
    omega
theorem tkS {α : Type} {l : List α} {i : Nat} (h : i < l.length) : l.take i ++ [l[i]] = l.take (i + 1) := by
  rw [List.take_add_one, List.getElem?_eq_getElem h]; rfl
theorem numsB_take {l : List Int} {i : Nat} (h : i < l.length) : numsB (l.take (i + 1)) = numsB (l.take i) ++ numB l[i] := by
  unfold numsB
  rw [← tkS h, List.flatMap_append]; simp only [List.flatMap_cons, List.flatMap_nil, List.append_nil]
/-- Spans' bytes. -/
def spansB (l : List DSpan) : List Int := l.flatMap fun x => numB x.1 ++ numB x.2.1
theorem spansB_len (l : List DSpan) : (spansB l).length ≤ 10 * l.length := by
  unfold spansB
  induction l with
  | nil => simp
  | cons x l ih =>
    have := numB_len x.1
    have := numB_len x.2.1
    simp only [List.flatMap_cons, List.length_append, List.length_cons]
    omega
theorem spansB_take {l : List DSpan} {i : Nat} (h : i < l.length) : spansB (l.take (i + 1)) = spansB (l.take i) ++ (numB l[i].1 ++ numB l[i].2.1) := by
  unfold spansB
  rw [← tkS h, List.flatMap_append]; simp only [List.flatMap_cons, List.flatMap_nil, List.append_nil]
theorem numsB_two (x y : Int) : numsB [x, y] = numB x ++ numB y := by simp [numsB]
/- The sum over bytes: both ways alike. -/

/-- Numbers that are bytes. -/
def bytes (l : List Int) : Prop := ∀ b ∈ l, 0 ≤ b ∧ b < 256
theorem w8 (x : Int) : IntKind.wrap .u8 x = x % 256 := by simp [IntKind.wrap, IntKind.bits, IntKind.signed]
theorem bytes_app {a b : List Int} (ha : bytes a) (hb : bytes b) : bytes (a ++ b) := fun x hx => (List.mem_append.1 hx).elim (ha x) (hb x)
theorem numP_bytes : ∀ (f : Nat) (x : Int) (acc : List Int), bytes acc → bytes (numP f x acc).2
  | 0, x, acc, h => h
  | f + 1, x, acc, h => by
    unfold numP
    split
    · exact numP_bytes f _ _ (bytes_app h (fun b hb => by rw [List.mem_singleton.1 hb, w8]; omega))
    · exact h
theorem numB_bytes (x : Int) : bytes (numB x) := by
  unfold numB
  split
  · exact bytes_app (numP_bytes 4 x [] (fun b hb => by cases hb)) (fun b hb => by rw [List.mem_singleton.1 hb, w8]; omega)
  · exact fun b hb => by cases hb
theorem numsB_bytes (l : List Int) : bytes (numsB l) := fun b hb => by
  obtain ⟨x, _, hx⟩ := List.mem_flatMap.1 hb
  exact numB_bytes x b hx
theorem spansB_bytes (l : List DSpan) : bytes (spansB l) := fun b hb => by
  obtain ⟨x, _, hx⟩ := List.mem_flatMap.1 hb
  exact bytes_app (numB_bytes x.1) (numB_bytes x.2.1) b hx
theorem xor_nat (n m : Nat) (hn : n < 4294967296) (hm : m < 4294967296) : ibits .xor .i64 (n : Int) (m : Int) = ((n ^^^ m : Nat) : Int) ∧ n ^^^ m < 4294967296 := by
  have hx : n ^^^ m < 4294967296 := Nat.xor_lt_two_pow (n := 32) hn hm
  refine ⟨?_, hx⟩
  unfold ibits
  simp only
  have e : ∀ k : Nat, k < 4294967296 → (BitVec.ofInt IntKind.i64.bits (k : Int)).toNat = k := fun k hk => by simp [IntKind.bits]; omega
  rw [BitVec.toNat_xor, e n hn, e m hm]
  exact w64_id (by omega) (by omega)
theorem and_one (n : Nat) (hn : n < 4294967296) : ibits .and .i64 (n : Int) 1 = ((n % 2 : Nat) : Int) := by
  unfold ibits
  simp only
  have e : ∀ k : Nat, k < 4294967296 → (BitVec.ofInt IntKind.i64.bits (k : Int)).toNat = k := fun k hk => by simp [IntKind.bits]; omega
  have e1 : (BitVec.ofInt IntKind.i64.bits 1).toNat = 1 := by decide
  rw [BitVec.toNat_and, e n hn, e1, Nat.and_one_is_mod]
  exact w64_id (by omega) (by omega)
/-- One bit's turn. -/
def crc1 (x : Nat) : Nat := if x % 2 = 1 then (x / 2) ^^^ 3988292384 else x / 2
def crcK : Nat → Nat → Nat
  | 0, c => c
  | k + 1, c => crc1 (crcK k c)
theorem crc1_lt {x : Nat} (h : x < 4294967296) : crc1 x < 4294967296 := by
  unfold crc1
  split
  · exact (xor_nat (x / 2) 3988292384 (by omega) (by omega)).2
  · omega
theorem crcK_lt {x : Nat} (h : x < 4294967296) : ∀ k, crcK k x < 4294967296
  | 0 => h
  | k + 1 => crc1_lt (crcK_lt h k)
def crcL (c : Nat) (l : List Int) : Nat := l.foldl (fun c b => crcK 8 (c ^^^ b.toNat)) c
theorem xor_byte (c : Nat) (b : Int) (hc : c < 4294967296) (hb : 0 ≤ b ∧ b < 256) : ibits .xor .i64 (c : Int) (w64 b) = ((c ^^^ b.toNat : Nat) : Int) ∧ c ^^^ b.toNat < 4294967296 := by
  have h := xor_nat c b.toNat hc (by omega)
  rw [w64_id (by omega) (by omega)]
  rwa [show ((b.toNat : Nat) : Int) = b by omega] at h
/-- The sum of bytes. -/
def crcB (l : List Int) : Nat := (crcL 4294967295 l) ^^^ 4294967295
theorem crcL_lt (l : List Int) : ∀ c : Nat, bytes l → c < 4294967296 → crcL c l < 4294967296 := by
  induction l with
  | nil => exact fun c _ h => h
  | cons b l ih =>
    intro c hb hc
    exact ih _ (fun x hx => hb x (List.mem_cons_of_mem _ hx)) (crcK_lt (xor_byte c b hc (hb b (List.mem_cons_self ..))).2 8)
theorem crcB_lt (l : List Int) (hb : bytes l) : crcB l < 4294967296 := (xor_nat _ 4294967295 (crcL_lt l _ hb (by omega)) (by omega)).2
/-- The sum's four bytes. -/
def sumB (l : List Int) : List Int := [((crcB l : Nat) : Int) / 16777216 % 256, ((crcB l : Nat) : Int) / 65536 % 256, ((crcB l : Nat) : Int) / 256 % 256, ((crcB l : Nat) : Int) % 256]
theorem sum_impl (l : List Int) : ([IntKind.wrap .u8 (Int.fdiv ((crcB l : Nat) : Int) (2 ^ (min 24 64))), IntKind.wrap .u8 (Int.fdiv ((crcB l : Nat) : Int) (2 ^ (min 16 64))), IntKind.wrap .u8 (Int.fdiv ((crcB l : Nat) : Int) (2 ^ (min 8 64))), IntKind.wrap .u8 ((crcB l : Nat) : Int)] : List Int) = sumB l := by
  unfold sumB
  simp only [w8]
  rw [show ((2 : Int) ^ (min 24 64)) = 16777216 from rfl, show ((2 : Int) ^ (min 16 64)) = 65536 from rfl, show ((2 : Int) ^ (min 8 64)) = 256 from rfl, Int.fdiv_eq_ediv_of_nonneg _ (by omega), Int.fdiv_eq_ediv_of_nonneg _ (by omega), Int.fdiv_eq_ediv_of_nonneg _ (by omega)]
/- Sketches, items drawn: every draw answers; what is drawn is small. -/

/-- As many numbers as a sketch has. -/
def skSh (s : DSketch) : Prop := s.2.2.2.2.1.length = 8 ∧ s.2.2.2.2.2.1.length = 8 ∧ ∃ a b, s.2.2.2.2.2.2.1 = [a, b] ∧ a.length = 4 ∧ b.length = 4
theorem skSh_z {s : DSketch} (h : skSh s) : zSketch s ≤ 26 := by
  obtain ⟨h1, h2, a, b, h3, h4, h5⟩ := h
  unfold zSketch zIntSS zIntS
  rw [h1, h2, h3]
  simp [h4, h5, zIntS]
theorem l2Clip_eq (a b : Int) : F.spec_l2Clip a b = some (mxI 0 (mnI a b)) := by
  unfold F.spec_l2Clip
  simp only [l1Min_eq, l1Max_eq, Option.bind_some]
theorem clip_in (a b : Int) (hb : 0 ≤ b) : 0 ≤ mxI 0 (mnI a b) ∧ mxI 0 (mnI a b) ≤ b := by
  unfold mxI mnI
  constructor <;> (repeat' split) <;> simp_all <;> omega
theorem specAdd_any (a b : Int) : ∃ r, F.spec_Add a b = some r := by
  unfold F.spec_Add
  simp only [l2Clip_eq, l1Min_eq, Option.bind_some]
  exact ⟨_, rfl⟩
theorem half_pow {x : Int} {j : Nat} (h0 : 0 < x) (h : x < ((2 ^ (20 - j) : Nat) : Int)) : j < 20 ∧ x / 2 < ((2 ^ (20 - (j + 1)) : Nat) : Int) ∧ x < 1048576 := by
  have hj : j < 20 := by
    rcases Nat.lt_or_ge j 20 with h1 | h1
    · exact h1
    · rw [show 20 - j = 0 by omega] at h
      simp at h
      omega
  have hp : (2 : Nat) ^ (20 - j) ≤ 2 ^ 20 := Nat.pow_le_pow_right (by omega) (by omega)
  have hq : (2 : Nat) ^ (20 - j) = 2 ^ (20 - (j + 1)) * 2 := by rw [show 20 - j = (20 - (j + 1)) + 1 by omega, Nat.pow_succ]
  rw [show (2 : Nat) ^ 20 = 1048576 from rfl] at hp
  rw [hq] at h hp
  generalize (2 : Nat) ^ (20 - (j + 1)) = k at *
  omega
theorem specBucket_any (v : Int) : ∃ r, F.spec_BucketOf v = some r ∧ 0 ≤ r ∧ r < 8 := by
  unfold F.spec_BucketOf
  simp only [l2Clip_eq, Option.bind_some]
  have hc := clip_in v 1000000 (by omega)
  generalize mxI 0 (mnI v 1000000) = n at hc
  obtain ⟨y, h1, z, rfl, h2, h3⟩ := loopO_rule (step := F.spec_BucketOf.s3) (fun x => 0 ≤ x.1 ∧ ∃ j : Nat, x.2.1 = (j : Int) ∧ j ≤ 20 ∧ x.1 < ((2 ^ (20 - j) : Nat) : Int))
    (fun y => ∃ z : Int × Int × Unit, y = .inl z ∧ 0 ≤ z.2.1 ∧ z.2.1 ≤ 20) (fun x => x.1.toNat) (fun x hx => by
      obtain ⟨x2, x3, u⟩ := x
      obtain ⟨g1, j, g2, g3, g4⟩ := hx
      simp only at g1 g2 g4
      subst g2
      unfold F.spec_BucketOf.s3
      simp only
      by_cases hlt : 0 < x2
      · rw [show decide (x2 > 0) = true from decide_eq_true hlt]
        obtain ⟨k1, k2, hb⟩ := half_pow hlt g4
        have e : w64 (Int.tdiv x2 2) = x2 / 2 := by rw [Int.tdiv_eq_ediv_of_nonneg g1, w64_id (by omega) (by omega)]
        refine ⟨_, rfl, ⟨?_, j + 1, ?_, by omega, ?_⟩, ?_⟩
        all_goals simp only [e, w64_nat (show j < 9223372036854775807 by omega)]
        · omega
        · exact k2
        · omega
      · rw [show decide (x2 > 0) = false from decide_eq_false hlt]
        exact ⟨_, rfl, _, rfl, by simp only; omega, by simp only; omega⟩) (x := (n, 0, ())) ⟨hc.1, 0, rfl, by omega, by have := hc.2; show n < ((1048576 : Nat) : Int); omega⟩
  rw [h1]
  obtain ⟨z1, z2, u⟩ := z
  simp only at h2 h3
  simp only [afterO]
  refine ⟨_, rfl, ?_, ?_⟩
  all_goals rw [w64_id (x := z2 + 2) (by omega) (by omega), Int.tdiv_eq_ediv_of_nonneg (by omega), w64_id (by omega) (by omega)]
  all_goals omega
theorem specMix_any (v : Int) : ∃ m : Nat, F.spec_Mix v = some ((m : Nat) : Int) ∧ m < 4294967296 := by
  unfold F.spec_Mix
  simp only [l2Clip_eq, Option.bind_some]
  have hc := clip_in v 1000000 (by omega)
  generalize mxI 0 (mnI v 1000000) = n at hc
  have e1 : w64 (n * 40503) = n * 40503 := w64_id (by omega) (by omega)
  have e2 : w64 (n * 40503 + 12345) = n * 40503 + 12345 := w64_id (by omega) (by omega)
  rw [e1, e2]
  have e3 : Int.tmod (n * 40503 + 12345) 65536 = (n * 40503 + 12345) % 65536 := Int.tmod_eq_emod_of_nonneg (by omega)
  rw [e3]
  have hp0 : 0 ≤ (n * 40503 + 12345) % 65536 ∧ (n * 40503 + 12345) % 65536 < 65536 := by omega
  generalize (n * 40503 + 12345) % 65536 = p at hp0
  obtain ⟨q, rfl⟩ : ∃ q : Nat, p = (q : Int) := ⟨p.toNat, by omega⟩
  have e4 : w64 (Int.tdiv (q : Int) 256) = ((q / 256 : Nat) : Int) := by
    rw [Int.tdiv_eq_ediv_of_nonneg (by omega), w64_id (by omega) (by omega)]; omega
  rw [e4]
  obtain ⟨x1, x2⟩ := xor_nat q (q / 256) (by omega) (by omega)
  exact ⟨_, congrArg some x1, x2⟩
theorem specRank_any (v : Int) : ∃ r, F.spec_RankOf v = some r := by
  unfold F.spec_RankOf
  obtain ⟨m, hm, hlt⟩ := specMix_any v
  simp only [hm, Option.bind_some]
  by_cases h0 : m = 0
  · subst h0; exact ⟨17, rfl⟩
  rw [show ((m : Int) == 0) = false by rw [beq_eq_false_iff_ne]; omega]
  simp only [cond_false]
  obtain ⟨y, h1, z, rfl⟩ := loopO_rule (step := F.spec_RankOf.s5) (fun x => 0 < x.1 ∧ x.1 < 4294967296) (fun y => ∃ z : Int × Int × Unit, y = .inl z) (fun x => x.1.toNat) (fun x hx => by
      obtain ⟨x2, x3, u⟩ := x
      obtain ⟨g1, g2⟩ := hx
      simp only at g1 g2
      unfold F.spec_RankOf.s5
      simp only
      cases hb : (Int.tmod x2 2 == 0) with
      | false => exact ⟨_, rfl, _, rfl⟩
      | true =>
        have hm2 : x2 % 2 = 0 := by
          rw [beq_iff_eq, Int.tmod_eq_emod_of_nonneg (by omega)] at hb; exact hb
        have e : w64 (Int.tdiv x2 2) = x2 / 2 := by rw [Int.tdiv_eq_ediv_of_nonneg (by omega), w64_id (by omega) (by omega)]
        refine ⟨_, rfl, ⟨?_, ?_⟩, ?_⟩
        all_goals simp only [e]
        all_goals omega) (x := ((m : Int), 1, ())) ⟨by simp only; omega, by simp only; omega⟩
  rw [h1]
  exact ⟨_, rfl⟩
theorem skNew_eq : F.spec_SketchNew = some ((0, 0, 0, 0, List.replicate 8 0, List.replicate 8 0, [List.replicate 4 0, List.replicate 4 0], ()) : DSketch) := by
  unfold F.spec_SketchNew
  rw [show mk 8 8 8 = true from by decide, show mk 8 4 4 = true from by decide]; rfl
theorem mod_in {m : Nat} {n : Int} (h : 0 < n) : 0 ≤ Int.tmod (m : Int) n ∧ Int.tmod (m : Int) n < n := ⟨Int.tmod_nonneg _ (by omega), Int.tmod_lt_of_pos _ h⟩
/-- What is done with the two rows. -/
theorem insLoop (v : Int) (t : DSketch) (s : DSketch) (h : skSh s) : ∃ z : Int × Int × DSketch × DSketch × Unit, loopO F.spec_Insert.s14 (v, 0, t, s, ()) = some (.inl z) ∧ skSh z.2.2.2.1 := by
  obtain ⟨y, h1, z, rfl, h2⟩ := loopO_rule (step := F.spec_Insert.s14) (fun x => x.1 = v ∧ 0 ≤ x.2.1 ∧ x.2.1 ≤ 2 ∧ skSh x.2.2.2.1)
    (fun y => ∃ z : Int × Int × DSketch × DSketch × Unit, y = .inl z ∧ skSh z.2.2.2.1) (fun x => 3 - x.2.1.toNat) (fun x hx => by
      obtain ⟨x14, x15, x16, x17, u⟩ := x
      obtain ⟨rfl, g1, g2, g3⟩ := hx
      simp only at g1 g2 g3
      unfold F.spec_Insert.s14
      simp only
      by_cases hlt : x15 < 2
      · obtain ⟨m, hm, hml⟩ := specMix_any x14
        obtain ⟨k1, k2, a, b, k3, k4, k5⟩ := g3
        have hw : w64 ((m : Int) + x15) = ((m + x15.toNat : Nat) : Int) := by rw [w64_id (by omega) (by omega)]; omega
        obtain ⟨c1, c2⟩ := mod_in (m := m + x15.toNat) (n := 4) (by omega)
        simp only [decide_eq_true hlt, cond_true, hm, Option.bind_some, hw, k3]
        generalize Int.tmod ((m + x15.toNat : Nat) : Int) 4 = c at c1 c2
        rw [inb_of (i := x15) (n := [a, b].length) g1 (by simp only [List.length_cons, List.length_nil]; omega)]
        have hx : x15 = 0 ∨ x15 = 1 := by omega
        rcases hx with rfl | rfl
        · obtain ⟨q, hq⟩ := specAdd_any (a.getD c.toNat 0) 1
          simp only [chk_true, Int.toNat_zero, List.getD_cons_zero]
          rw [inb_of c1 (by rw [k4]; omega), hq]
          refine ⟨_, rfl, ⟨rfl, (show (0 : Int) ≤ w64 (0 + 1) by decide), (show w64 (0 + 1) ≤ 2 by decide), k1, k2, a.set c.toNat q, b, rfl, by rw [List.length_set, k4], k5⟩, (show 3 - (w64 (0 + 1)).toNat < 3 - (0 : Int).toNat by decide)⟩
        · obtain ⟨q, hq⟩ := specAdd_any (b.getD c.toNat 0) 1
          have e1 : (1 : Int).toNat = 1 := rfl
          simp only [chk_true, e1, List.getD_cons_succ, List.getD_cons_zero]
          rw [inb_of c1 (by rw [k5]; omega), hq]
          refine ⟨_, rfl, ⟨rfl, (show (0 : Int) ≤ w64 (1 + 1) by decide), (show w64 (1 + 1) ≤ 2 by decide), k1, k2, a, b.set c.toNat q, rfl, k4, by rw [List.length_set, k5]⟩, (show 3 - (w64 (1 + 1)).toNat < 3 - (1 : Int).toNat by decide)⟩
      · rw [show decide (x15 < 2) = false from decide_eq_false hlt]
        exact ⟨_, rfl, _, rfl, g3⟩) (x := (v, 0, t, s, ())) ⟨rfl, by simp only; omega, by simp only; omega, h⟩
  exact ⟨z, h1, h2⟩
theorem specInsert_any (s : DSketch) (v : Int) (h : skSh s) : ∃ r : DSketch × Bool, F.spec_Insert s v = some r ∧ skSh r.1 := by
  have hz := skSh_z h
  obtain ⟨b, hb, _, _⟩ := skOk_same s (by omega)
  unfold F.spec_Insert
  simp only [l3Copy_eq s (by omega), hb, l1In_eq, Option.bind_some]
  cases b with
  | false => exact ⟨_, rfl, h⟩
  | true =>
    cases inR 0 1000000 v with
    | false => exact ⟨_, rfl, h⟩
    | true =>
      obtain ⟨a1, e1⟩ := specAdd_any s.1 1
      obtain ⟨a2, e2⟩ := specAdd_any s.2.1 v
      obtain ⟨k, e3, k0, k1⟩ := specBucket_any v
      obtain ⟨a3, e4⟩ := specAdd_any (s.2.2.2.2.1.getD k.toNat 0) 1
      obtain ⟨m, e5, hm⟩ := specMix_any v
      obtain ⟨ra, e6⟩ := specRank_any v
      obtain ⟨c1, c2⟩ := mod_in (m := m) (n := 8) (by omega)
      have i1 : inb k (List.length s.2.2.2.2.1) = true := inb_of k0 (by rw [h.1]; omega)
      have i2 : inb (Int.tmod (m : Int) 8) (List.length s.2.2.2.2.2.1) = true := inb_of c1 (by rw [h.2.1]; omega)
      simp only [Bool.not_true, cond_false, e1, e2, e3, e4, e5, e6, l1Min_eq, l1Max_eq, Option.bind_some, i1, i2, chk_true]
      have sh : ∀ w1 w2 w3 w4 w5 w6 : Int, skSh (w1, w2, w3, w4, s.2.2.2.2.1.set k.toNat w5, s.2.2.2.2.2.1.set (Int.tmod (m : Int) 8).toNat w6, s.2.2.2.2.2.2.1, s.2.2.2.2.2.2.2) := fun w1 w2 w3 w4 w5 w6 => by
        obtain ⟨h1, h2, h3⟩ := h
        exact ⟨by simp only [List.length_set]; exact h1, by simp only [List.length_set]; exact h2, h3⟩
      cases (s.1 == 0) with
      | true =>
        obtain ⟨z, f1, f2⟩ := insLoop v (0, 0, 0, 0, [], [], [], ()) _ (sh a1 a2 v (mxI s.2.2.2.1 v) a3 (mxI (List.getD s.2.2.2.2.2.1 (Int.tmod (m : Int) 8).toNat 0) ra))
        simp only [cond_true]
        refine ⟨(z.2.2.2.1, true), (congrArg (fun z => afterO z _) f1).trans rfl, f2⟩
      | false =>
        obtain ⟨z, f1, f2⟩ := insLoop v (0, 0, 0, 0, [], [], [], ()) _ (sh a1 a2 (mnI s.2.2.1 v) (mxI s.2.2.2.1 v) a3 (mxI (List.getD s.2.2.2.2.2.1 (Int.tmod (m : Int) 8).toNat 0) ra))
        simp only [cond_false]
        refine ⟨(z.2.2.2.1, true), (congrArg (fun z => afterO z _) f1).trans rfl, f2⟩
theorem specSketched_any (l : List Int) (hl : l.length ≤ 1048576) : ∃ s : DSketch, F.spec_Sketched l = some s ∧ skSh s := by
  unfold F.spec_Sketched
  simp only [skNew_eq, Option.bind_some]
  obtain ⟨y, h1, z, rfl, h2⟩ := loopO_rule (step := F.spec_Sketched.s3) (fun x => x.1 = l ∧ 0 ≤ x.2.1 ∧ x.2.1 ≤ (l.length : Int) ∧ skSh x.2.2.2.1)
    (fun y => ∃ z : List Int × Int × DSketch × DSketch × Unit, y = .inl z ∧ skSh z.2.2.2.1) (fun x => l.length + 1 - x.2.1.toNat) (fun x hx => by
      obtain ⟨x2, x3, x4, x5, u⟩ := x
      obtain ⟨rfl, g1, g2, g3⟩ := hx
      simp only at g1 g2 g3
      have hl : x2.length ≤ 1048576 := hl
      unfold F.spec_Sketched.s3
      simp only
      by_cases hlt : x3 < (x2.length : Int)
      · rw [show decide (x3 < len x2) = true from decide_eq_true hlt, inb_of g1 hlt]
        obtain ⟨r, hr, hs⟩ := specInsert_any x5 (x2.getD x3.toNat 0) g3
        simp only [cond_true, chk_true, hr, Option.bind_some]
        refine ⟨_, rfl, ⟨rfl, ?_, ?_, hs⟩, ?_⟩
        all_goals simp only
        all_goals rw [w64_id (by omega) (by omega)]
        · omega
        · omega
        · omega
      · rw [show decide (x3 < len x2) = false from decide_eq_false hlt]
        exact ⟨_, rfl, _, rfl, g3⟩) (x := (l, 0, (0, 0, 0, 0, [], [], [], ()), (0, 0, 0, 0, List.replicate 8 0, List.replicate 8 0, [List.replicate 4 0, List.replicate 4 0], ()), ())) ⟨rfl, by simp only; omega, by simp only; omega, by simp, by simp, _, _, rfl, by simp, by simp⟩
  refine ⟨z.2.2.2.1, (congrArg (fun z => afterO z _) h1).trans rfl, h2⟩
theorem l3Values_ok (s : DL1Cur) (hs : srcOk s) : ∃ r : List Int × DL1Cur, F.spec_l3Values s = some r ∧ r.1.length ≤ 10 ∧ srcOk r.2 := by
  unfold F.spec_l3Values
  obtain ⟨v1, s1, e1, a1, b1, k1⟩ := l1Below_ok s hs 6 (by omega) (by omega)
  simp only [e1, Option.bind_some]
  obtain ⟨y, h1, z, rfl, h2, h3⟩ := loopO_rule (step := F.spec_l3Values.s4) (fun x => 0 ≤ x.2.2.1 ∧ x.2.1 ≤ 6 ∧ x.2.2.1 ≤ 7 ∧ srcOk x.2.2.2.1 ∧ (x.1.length : Int) ≤ x.2.2.1)
    (fun y => ∃ z : List Int × Int × Int × DL1Cur × Unit, y = .inl z ∧ srcOk z.2.2.2.1 ∧ z.1.length ≤ 10) (fun x => 8 - x.2.2.1.toNat) (fun x hx => by
      obtain ⟨x2, x3, x4, x5, u⟩ := x
      obtain ⟨g1, g2, g3, g4, g5⟩ := hx
      simp only at g1 g2 g3 g4 g5
      unfold F.spec_l3Values.s4
      simp only
      by_cases hlt : x4 < x3
      · rw [decide_eq_true hlt]
        obtain ⟨w1, t1, f1, _, _, j1⟩ := l1Byte_ok x5 g4
        obtain ⟨w2, t2, f2, _, j2⟩ := l1Pick_ok t1 j1 [0, 1, 7, 8, 100, 5000, 1000000, w1, 1000001, -1] (by simp) (by simp)
        simp only [cond_true, f1, f2, Option.bind_some, List.length_cons, List.length_nil]
        rw [fits_of (by omega)]
        refine ⟨_, rfl, ⟨?_, g2, ?_, j2, ?_⟩, ?_⟩
        all_goals simp only [List.length_append, List.length_cons, List.length_nil]
        all_goals rw [w64_id (by omega) (by omega)]
        · omega
        · omega
        · omega
        · omega
      · rw [decide_eq_false hlt]
        exact ⟨_, rfl, _, rfl, g4, by simp only; omega⟩) (x := ([], v1, 0, s1, ())) ⟨Int.le_refl 0, by simp only; omega, by simp, k1, by simp⟩
  refine ⟨(z.1, z.2.2.2.1), (congrArg (fun z => afterO z _) h1).trans rfl, h3, h2⟩
theorem l3Right_ok (s : DL1Cur) (hs : srcOk s) : ∃ r : DSketch × DL1Cur, F.spec_l3Right s = some r ∧ skSh r.1 ∧ srcOk r.2 := by
  unfold F.spec_l3Right
  obtain ⟨r, e1, l1, k1⟩ := l3Values_ok s hs
  obtain ⟨sk, e2, h2⟩ := specSketched_any r.1 (by omega)
  obtain ⟨b, s3, e3, k3⟩ := l1Once_ok r.2 k1 16 (by omega) (by omega)
  simp only [e1, e2, e3, Option.bind_some]
  cases b with
  | false => exact ⟨_, rfl, h2, k3⟩
  | true =>
    cases decide (sk.1 > 0) with
    | false => exact ⟨_, rfl, h2, k3⟩
    | true =>
      obtain ⟨v4, s4, e4, _, _, k4⟩ := l1Below_ok s3 k3 2 (by omega) (by omega)
      simp only [cond_true, e4, Option.bind_some]
      rw [inb_of (i := 3) (by omega) (by rw [h2.1]; omega)]
      refine ⟨_, rfl, ⟨by simp only [List.length_set]; exact h2.1, h2.2.1, h2.2.2⟩, k4⟩
theorem l3Draw_ok (s : DL1Cur) (hs : srcOk s) : ∃ r : DSketch × DL1Cur, F.spec_l3Draw s = some r ∧ zSketch r.1 ≤ 40 ∧ srcOk r.2 := by
  unfold F.spec_l3Draw
  obtain ⟨r, e1, h1, k1⟩ := l3Right_ok s hs
  obtain ⟨v2, s2, e2, a2, b2, k2⟩ := l1Below_ok r.2 k1 16 (by omega) (by omega)
  have hz := skSh_z h1
  obtain ⟨⟨c, su, mn, mx, hi, re, ro, u⟩, cu⟩ := r
  obtain ⟨g1, g2, a, b, g3, g4, g5⟩ := h1
  simp only at g1 g2 g3 e2 k2
  subst g3
  have zz : ∀ (c su mn mx : Int) (hi re : List Int) (ro : List (List Int)), zSketch (c, su, mn, mx, hi, re, ro, u) = hi.length + re.length + (ro.length + (ro.map List.length).sum) := fun _ _ _ _ _ _ _ => rfl
  simp only [e1, e2, Option.bind_some]
  cases (v2 == 0) with
  | true =>
    obtain ⟨v3, s3, e3, _, k3⟩ := l1Pick_ok s2 k2 [-1, 1000001, 500] (by simp) (by simp)
    simp only [cond_true, e3, Option.bind_some]
    exact ⟨_, rfl, by simp only [zz, g1, g2, g4, g5, List.length_cons, List.length_nil, List.map_cons, List.map_nil, List.sum_cons, List.sum_nil]; omega, k3⟩
  | false =>
  simp only [cond_false]
  cases (v2 == 1) with
  | true =>
    obtain ⟨v3, s3, e3, a3, b3, k3⟩ := l1Below_ok s2 k2 8 (by omega) (by omega)
    obtain ⟨v4, s4, e4, _, k4⟩ := l1Pick_ok s3 k3 [-1, 17, 18] (by simp) (by simp)
    simp only [cond_true, e3, e4, Option.bind_some]
    rw [inb_of a3 (by rw [g2]; omega)]
    exact ⟨_, rfl, by simp only [zz, g1, g2, g4, g5, List.length_set, List.length_cons, List.length_nil, List.map_cons, List.map_nil, List.sum_cons, List.sum_nil]; omega, k4⟩
  | false =>
  simp only [cond_false]
  cases (v2 == 2) with
  | true =>
    simp only [cond_true, List.length_cons, List.length_nil]
    rw [fits_of (by omega)]
    exact ⟨_, rfl, by simp only [zz, g1, g2, g4, g5, List.length_append, List.length_cons, List.length_nil, List.map_cons, List.map_nil, List.sum_cons, List.sum_nil]; omega, k2⟩
  | false =>
  simp only [cond_false]
  cases (v2 == 3) with
  | true =>
    simp only [cond_true]
    exact ⟨_, rfl, by simp only [zz, g1, g2, g4, g5, List.drop_zero, List.take_succ_cons, List.take_zero, Nat.sub_zero, List.length_cons, List.length_nil, List.map_cons, List.map_nil, List.sum_cons, List.sum_nil]; omega, k2⟩
  | false =>
  simp only [cond_false]
  cases (v2 == 4) with
  | true =>
    obtain ⟨v3, s3, e3, _, k3⟩ := l1Pick_ok s2 k2 [0, -1, 1000000001] (by simp) (by simp)
    simp only [cond_true, e3, Option.bind_some]
    exact ⟨_, rfl, by simp only [zz, g1, g2, g4, g5, List.length_cons, List.length_nil, List.map_cons, List.map_nil, List.sum_cons, List.sum_nil]; omega, k3⟩
  | false =>
  simp only [cond_false]
  cases (v2 == 5) with
  | true =>
    obtain ⟨v3, s3, e3, _, k3⟩ := l1Pick_ok s2 k2 [-1, 3, 1000000001] (by simp) (by simp)
    simp only [cond_true, e3, Option.bind_some]
    rw [show inb 1 [a, b].length = true from rfl]
    simp only [chk_true, List.getD_cons_succ, List.getD_cons_zero]
    rw [inb_of (i := 2) (by omega) (by rw [g5]; omega)]
    exact ⟨_, rfl, by simp only [zz, g1, g2, g4, g5, List.set_cons_succ, List.set_cons_zero, List.length_set, List.length_cons, List.length_nil, List.map_cons, List.map_nil, List.sum_cons, List.sum_nil]; omega, k3⟩
  | false =>
    exact ⟨_, rfl, by simp only [zz, g1, g2, g4, g5, List.length_cons, List.length_nil, List.map_cons, List.map_nil, List.sum_cons, List.sum_nil]; omega, k2⟩
theorem l6Right_ok (s : DL1Cur) (hs : srcOk s) : ∃ r : DItem × DL1Cur, F.spec_l6Right s = some r ∧ skSh r.1.2.2.2.2.1 ∧ srcOk r.2 := by
  unfold F.spec_l6Right
  obtain ⟨v1, s1, e1, _, _, k1⟩ := l1Below_ok s hs 8 (by omega) (by omega)
  obtain ⟨v2, s2, e2, _, _, k2⟩ := l1Below_ok s1 k1 2 (by omega) (by omega)
  obtain ⟨v3, s3, e3, _, _, k3⟩ := l1Below_ok s2 k2 2 (by omega) (by omega)
  obtain ⟨v4, s4, e4, _, _, k4⟩ := l1Below_ok s3 k3 3 (by omega) (by omega)
  obtain ⟨r, e5, h5, k5⟩ := l3Values_ok s4 k4
  obtain ⟨sk, e6, h6⟩ := specSketched_any r.1 (by omega)
  simp only [e1, e2, e3, e4, e5, e6, Option.bind_some]
  exact ⟨_, rfl, h6, k5⟩
/- Sets drawn: every draw answers; what is drawn is small. -/

theorem l5Right_ok (s : DL1Cur) (hs : srcOk s) : ∃ r : List DSpan × DL1Cur, F.spec_l5Right s = some r ∧ r.1.length ≤ 10 ∧ srcOk r.2 := by
  unfold F.spec_l5Right
  obtain ⟨v1, s1, e1, a1, b1, k1⟩ := l1Below_ok s hs 7 (by omega) (by omega)
  simp only [e1, Option.bind_some]
  obtain ⟨y, h1, z, rfl, h2, h3⟩ := loopO_rule (step := F.spec_l5Right.s4) (fun x => 0 ≤ x.2.2.1 ∧ x.2.1 ≤ 6 ∧ x.2.2.1 ≤ 7 ∧ srcOk x.2.2.2.1 ∧ (x.1.length : Int) ≤ x.2.2.1)
    (fun y => ∃ z : List DSpan × Int × Int × DL1Cur × Unit, y = .inl z ∧ srcOk z.2.2.2.1 ∧ z.1.length ≤ 10)
    (fun x => 8 - x.2.2.1.toNat) (fun x hx => by
      obtain ⟨x2, x3, x4, x5, u⟩ := x
      obtain ⟨g1, g2, g3, g4, g5⟩ := hx
      simp only at g1 g2 g3 g4 g5
      unfold F.spec_l5Right.s4
      simp only
      by_cases hlt : x4 < x3
      · rw [decide_eq_true hlt]
        obtain ⟨w1, t1, f1, _, _, j1⟩ := l1Below_ok x5 g4 20 (by omega) (by omega)
        obtain ⟨w2, t2, f2, _, _, j2⟩ := l1Below_ok t1 j1 20 (by omega) (by omega)
        obtain ⟨w3, t3, f3, _, _, j3⟩ := l1Below_ok t2 j2 10 (by omega) (by omega)
        obtain ⟨w4, t4, f4, _, j4⟩ := l1Pick_ok t3 j3 [w1, w2, w64 (9990 + w3)] (by simp) (by simp)
        obtain ⟨w5, t5, f5, _, _, j5⟩ := l1Below_ok t4 j4 3 (by omega) (by omega)
        obtain ⟨q, fq, hq⟩ := l5Put_any x2 (w4, mnI 9999 (w64 (w4 + w5)), ()) (by omega)
        simp only [cond_true, f1, f2, f3, f4, f5, l1Min_eq, Option.bind_some]
        obtain ⟨q, fq, hq⟩ := l5Put_any x2 (w4, mnI (w64 (w4 + w5)) 9999, ()) (by omega)
        simp only [fq, Option.bind_some]
        refine ⟨_, rfl, ⟨?_, g2, ?_, j5, ?_⟩, ?_⟩
        all_goals simp only
        all_goals rw [w64_id (by omega) (by omega)]
        · omega
        · omega
        · omega
        · omega
      · rw [decide_eq_false hlt]
        exact ⟨_, rfl, _, rfl, g4, by simp only; omega⟩) (x := ([], v1, 0, s1, ())) ⟨Int.le_refl 0, by simp only; omega, by simp, k1, by simp⟩
  rw [h1]
  obtain ⟨z4, z5, z6, z7, u⟩ := z
  exact ⟨_, rfl, h3, h2⟩
theorem l5Draw_ok (s : DL1Cur) (hs : srcOk s) : ∃ r : List DSpan × DL1Cur, F.spec_l5Draw s = some r ∧ r.1.length ≤ 11 ∧ srcOk r.2 := by
  unfold F.spec_l5Draw
  obtain ⟨r, e1, hr, k1⟩ := l5Right_ok s hs
  obtain ⟨b, s2, e2, k2⟩ := l1Once_ok r.2 k1 8 (by omega) (by omega)
  simp only [e1, e2, Option.bind_some]
  cases b with
  | false => exact ⟨_, rfl, by simp only; omega, k2⟩
  | true =>
    obtain ⟨v3, s3, e3, _, k3⟩ := l1Pick_ok s2 k2 [-1, 3, 10000] (by simp) (by simp)
    obtain ⟨v4, s4, e4, _, k4⟩ := l1Pick_ok s3 k3 [5, 10000, 9223372036854775807] (by simp) (by simp)
    simp only [cond_true, e3, e4, Option.bind_some, List.length_cons, List.length_nil]
    rw [fits_of (by omega)]
    exact ⟨_, rfl, by simp; omega, k4⟩
/- Rows drawn: every draw answers; what is drawn is small. -/

theorem zEnt (e : DEntry) : zEntry e = e.2.2.1.length + zSketch e.2.2.2.1 := rfl
theorem zRo (r : DRow) : zRow r = zEntryS r.1 := rfl
theorem zEn_app' (l m : List DEntry) : zEntryS (l ++ m) = zEntryS l + zEntryS m := by
  unfold zEntryS
  rw [List.length_append, List.map_append, List.sum_append]
  omega
theorem zEn_one (e : DEntry) : zEntryS [e] = 1 + zEntry e := by simp [zEntryS]
theorem specItem_any (x : DItem) (h : zSketch x.2.2.2.2.1 ≤ 1048576) : ∃ b, F.spec_ItemOk x = some b := by
  unfold F.spec_ItemOk F.spec_l6Place
  simp only [l1In_eq, specSk_dec _ h, Option.bind_some]
  cases inR 1 60 x.1 <;> cases inR 0 1 x.2.1 <;> cases inR 0 4 x.2.2.1 <;> cases inR 0 20 x.2.2.2.1 <;> exact ⟨_, rfl⟩
theorem specEntryOf_any (a : Int) (x : DItem) (h : zSketch x.2.2.2.2.1 ≤ 1000) : ∃ r : DEntry × Bool, F.spec_EntryOf a x = some r ∧ zEntry r.1 ≤ 1001 := by
  obtain ⟨i, hi⟩ : ∃ i, F.spec_IdOf a x.1 = some i := by
    unfold F.spec_IdOf F.spec_l6Agent
    simp only [l1In_eq, Option.bind_some]
    cases inR 0 2 a <;> cases inR 1 60 x.1 <;> exact ⟨_, rfl⟩
  obtain ⟨b, hb⟩ := specItem_any x (by omega)
  unfold F.spec_EntryOf
  rw [hi, hb]
  simp only [Option.bind_some]
  cases b with
  | false => exact ⟨_, rfl, by simp [zEnt, zSketch, zIntS, zIntSS]⟩
  | true =>
    cases decide (i < 0) with
    | true => exact ⟨_, rfl, by simp [zEnt, zSketch, zIntS, zIntSS]⟩
    | false =>
      simp only [Bool.not_true, cond_false]
      rw [l3Copy_eq _ (by omega)]
      exact ⟨_, rfl, by rw [zEnt]; simp only [List.length_cons, List.length_nil]; omega⟩
theorem l6Entry_ok (s : DL1Cur) (hs : srcOk s) : ∃ r : DEntry × DL1Cur, F.spec_l6Entry s = some r ∧ zEntry r.1 ≤ 1100 ∧ srcOk r.2 := by
  unfold F.spec_l6Entry
  obtain ⟨v1, s1, e1, _, _, k1⟩ := l1Below_ok s hs 3 (by omega) (by omega)
  obtain ⟨⟨x, s2⟩, e2, h2, k2⟩ := l6Right_ok s1 k1
  have hz := skSh_z h2
  obtain ⟨⟨e, ok⟩, e3, h3⟩ := specEntryOf_any v1 x (by simp only at hz; omega)
  obtain ⟨b4, s4, e4, k4⟩ := l1Once_ok s2 k2 4 (by omega) (by omega)
  simp only at h3
  rw [zEnt] at h3
  simp only [e1, e2, e3, e4, Option.bind_some]
  cases b4 with
  | true =>
    obtain ⟨⟨t, s5⟩, e5, h5, k5⟩ := l5Draw_ok s4 k4
    obtain ⟨b6, s6, e6, k6⟩ := l1Once_ok s5 k5 14 (by omega) (by omega)
    simp only at h5
    simp only [cond_true, e5, e6, Option.bind_some]
    cases b6 with
    | true =>
      obtain ⟨⟨sk, s7⟩, e7, h7, k7⟩ := l3Draw_ok s6 k6
      obtain ⟨b8, s8, e8, k8⟩ := l1Once_ok s7 k7 20 (by omega) (by omega)
      simp only at h7
      simp only [cond_true, e7, e8, Option.bind_some]
      cases b8 with
      | true =>
        obtain ⟨v9, s9, e9, _, k9⟩ := l1Pick_ok s8 k8 [-1, 5] (by simp) (by simp)
        simp only [cond_true, e9, Option.bind_some]
        exact ⟨_, rfl, by rw [zEnt]; simp only; omega, k9⟩
      | false => exact ⟨_, rfl, by rw [zEnt]; simp only; omega, k8⟩
    | false =>
      obtain ⟨b8, s8, e8, k8⟩ := l1Once_ok s6 k6 20 (by omega) (by omega)
      simp only [cond_false, e8, Option.bind_some]
      cases b8 with
      | true =>
        obtain ⟨v9, s9, e9, _, k9⟩ := l1Pick_ok s8 k8 [-1, 5] (by simp) (by simp)
        simp only [cond_true, e9, Option.bind_some]
        exact ⟨_, rfl, by rw [zEnt]; simp only; omega, k9⟩
      | false => exact ⟨_, rfl, by rw [zEnt]; simp only; omega, k8⟩
  | false =>
    obtain ⟨b6, s6, e6, k6⟩ := l1Once_ok s4 k4 14 (by omega) (by omega)
    simp only [cond_false, e6, Option.bind_some]
    cases b6 with
    | true =>
      obtain ⟨⟨sk, s7⟩, e7, h7, k7⟩ := l3Draw_ok s6 k6
      obtain ⟨b8, s8, e8, k8⟩ := l1Once_ok s7 k7 20 (by omega) (by omega)
      simp only at h7
      simp only [cond_true, e7, e8, Option.bind_some]
      cases b8 with
      | true =>
        obtain ⟨v9, s9, e9, _, k9⟩ := l1Pick_ok s8 k8 [-1, 5] (by simp) (by simp)
        simp only [cond_true, e9, Option.bind_some]
        exact ⟨_, rfl, by rw [zEnt]; simp only; omega, k9⟩
      | false => exact ⟨_, rfl, by rw [zEnt]; simp only; omega, k8⟩
    | false =>
      obtain ⟨b8, s8, e8, k8⟩ := l1Once_ok s6 k6 20 (by omega) (by omega)
      simp only [cond_false, e8, Option.bind_some]
      cases b8 with
      | true =>
        obtain ⟨v9, s9, e9, _, k9⟩ := l1Pick_ok s8 k8 [-1, 5] (by simp) (by simp)
        simp only [cond_true, e9, Option.bind_some]
        exact ⟨_, rfl, by rw [zEnt]; simp only; omega, k9⟩
      | false => exact ⟨_, rfl, by rw [zEnt]; simp only; omega, k8⟩
theorem specPush_any (r : DRow) (e : DEntry) (j : Bool) (h : zRow r ≤ 1048576) (h' : zEntry e ≤ 1048576) : ∃ q : DRow × Bool, F.spec_RowPush r e j = some q ∧ q.1.1.length ≤ r.1.length + 1 ∧ (zRow q.1 ≤ 130000 ∨ q.1 = r) := by
  refine ⟨_, specPush_eq r e j h h', ?_⟩
  by_cases hc : RoR r ∧ EnR e ∧ apRow r.1 e.2.2.1 = true
  case neg => rw [decB_neg hc]; exact ⟨by simp only [cond_false]; omega, .inr rfl⟩
  rw [decB_pos hc]
  obtain ⟨hr, he, ha⟩ := hc
  have hf := hr.few
  simp only [cond_true]
  unfold pushed
  split
  · rename_i k hk
    have hk : r.1.findIdx? (atP e.1 e.2.1) = some k := by cases j <;> simp_all
    obtain ⟨hi, _⟩ := find_at hk
    have hek := hr.ok.all _ (List.getElem_mem hi)
    have := zEnL (r.1.set k (addE (r.1.getD k e) e)) (fun x hx => by
      rcases List.mem_or_eq_of_mem_set hx with h1 | rfl
      · exact hr.ok.all x h1
      · rw [getD_at hi]; exact addE_ok hek he)
    rw [List.length_set] at this
    refine ⟨by simp only [List.length_set]; omega, .inl ?_⟩
    show zEntryS (r.1.set k (addE (r.1.getD k e) e)) ≤ _
    omega
  · split
    · exact ⟨by simp only; omega, .inr rfl⟩
    · have := zEnL (r.1 ++ [e]) (fun x hx => by
        rcases List.mem_append.1 hx with h1 | h1
        · exact hr.ok.all x h1
        · rw [List.mem_singleton.1 h1]; exact he)
      rw [List.length_append] at this
      simp only [List.length_cons, List.length_nil] at this
      refine ⟨by simp, .inl ?_⟩
      show zEntryS (r.1 ++ [e]) ≤ _
      omega
theorem l10Right_ok (s : DL1Cur) (hs : srcOk s) : ∃ r : DRow × DL1Cur, F.spec_l10Right s = some r ∧ r.1.1.length ≤ 5 ∧ zRow r.1 ≤ 130000 ∧ srcOk r.2 := by
  unfold F.spec_l10Right
  obtain ⟨v1, s1, e1, a1, b1, k1⟩ := l1Below_ok s hs 6 (by omega) (by omega)
  obtain ⟨v2, s2, e2, _, _, k2⟩ := l1Below_ok s1 k1 3 (by omega) (by omega)
  simp only [e1, e2, Option.bind_some]
  obtain ⟨y, l1, z, rfl, l2, l3, l4⟩ := loopO_rule (step := F.spec_l10Right.s5) (fun x => x.1 ≤ 5 ∧ 0 ≤ x.2.2.1 ∧ x.2.2.1 ≤ x.1 ∧ srcOk x.2.2.2.1 ∧ (x.2.2.2.2.2.1.1.length : Int) ≤ x.2.2.1 ∧ zRow x.2.2.2.2.2.1 ≤ 130000)
    (fun y => ∃ z : Int × Int × Int × DL1Cur × DRow × DRow × Unit, y = .inl z ∧ srcOk z.2.2.2.1 ∧ z.2.2.2.2.2.1.1.length ≤ 5 ∧ zRow z.2.2.2.2.2.1 ≤ 130000) (fun x => 8 - x.2.2.1.toNat) (fun x hx => by
      obtain ⟨x3, x4, x5, x6, x7, x8, u⟩ := x
      obtain ⟨g1, g2, g3, g4, g5, g6⟩ := hx
      simp only at g1 g2 g3 g4 g5 g6
      unfold F.spec_l10Right.s5
      simp only
      by_cases hlt : x5 < x3
      · rw [decide_eq_true hlt]
        obtain ⟨⟨q, t1⟩, f1, hq, j1⟩ := l6Right_ok x6 g4
        have hz := skSh_z hq
        obtain ⟨w2, t2, f2, _, _, j2⟩ := l1Below_ok t1 j1 30 (by omega) (by omega)
        obtain ⟨⟨e, ok⟩, f3, h3⟩ := specEntryOf_any x4 (w64 (1 + w2), q.2) (by simp only at hz ⊢; omega)
        obtain ⟨b4, t4, f4, j4⟩ := l1Once_ok t2 j2 3 (by omega) (by omega)
        simp only at h3
        obtain ⟨p, fp, hp1, hp2⟩ := specPush_any x8 e b4 (by omega) (by omega)
        simp only [cond_true, f1, f2, f3, f4, fp, Option.bind_some]
        have hp3 : zRow p.1 ≤ 130000 := by
          rcases hp2 with h | h
          · exact h
          · rw [h]; exact g6
        refine ⟨_, rfl, ⟨g1, ?_, ?_, j4, ?_, hp3⟩, ?_⟩
        all_goals simp only
        all_goals rw [w64_id (by omega) (by omega)]
        all_goals omega
      · rw [decide_eq_false hlt]
        exact ⟨_, rfl, _, rfl, g4, by simp only; omega, by simp only; omega⟩) (x := (v1, v2, 0, s2, ([], ()), ([], ()), ())) ⟨by simp only; omega, by simp, by simp only; omega, k2, by simp, by simp [zRow, zEntryS]⟩
  obtain ⟨z1, z2, z3, z4, z5, z6, u⟩ := z
  rw [l1]
  exact ⟨_, rfl, l3, l4, l2⟩
theorem l10Draw_ok (s : DL1Cur) (hs : srcOk s) : ∃ r : DRow × DL1Cur, F.spec_l10Draw s = some r ∧ r.1.1.length ≤ 6 ∧ zRow r.1 ≤ 300000 ∧ srcOk r.2 := by
  unfold F.spec_l10Draw
  obtain ⟨⟨r, s1⟩, e1, h1, z1, k1⟩ := l10Right_ok s hs
  obtain ⟨v2, s2, e2, _, _, k2⟩ := l1Below_ok s1 k1 10 (by omega) (by omega)
  simp only at h1 z1
  rw [zRo] at z1
  simp only [e1, e2, Option.bind_some]
  cases (v2 == 0) with
  | true =>
    obtain ⟨⟨e, s3⟩, e3, h3, k3⟩ := l6Entry_ok s2 k2
    simp only at h3
    simp only [cond_true, e3, Option.bind_some, List.length_cons, List.length_nil]
    rw [fits_of (by omega)]
    exact ⟨_, rfl, by simp; omega, by rw [zRo]; simp only; rw [zEn_app', zEn_one]; omega, k3⟩
  | false =>
  simp only [cond_false]
  cases (v2 == 1) with
  | true =>
    simp only [cond_true]
    cases hl : r.1 with
    | nil =>
      rw [show decide (len ([] : List DEntry) > 0) = false from rfl]
      exact ⟨_, rfl, by simp only; omega, by rw [zRo]; simp only; omega, k2⟩
    | cons x l =>
      rw [hl] at h1 z1
      have hx : zEntry x ≤ 130000 := by
        have := zE_mem z1 (List.mem_cons_self ..)
        omega
      rw [show decide (len (x :: l) > 0) = true from decide_eq_true (by simp only [len, List.length_cons]; omega), show inb 0 (x :: l).length = true from inb_nat (i := 0) (by simp)]
      simp only [cond_true, chk_true]
      rw [show (x :: l).getD 0 (0, 0, ([] : List DSpan), (0, 0, 0, 0, ([] : List Int), ([] : List Int), ([] : List (List Int)), ()), ()) = x from rfl, l6Copy_eq x (by omega)]
      simp only [Option.bind_some, List.length_cons, List.length_nil]
      rw [fits_of (by simp only [List.length_cons] at h1; omega)]
      refine ⟨_, rfl, by simp only [List.length_cons] at h1; simp; omega, ?_, k2⟩
      rw [zRo]
      simp only
      rw [zEn_app', zEn_one]; omega
  | false => exact ⟨_, rfl, by simp only; omega, by rw [zRo]; simp only; omega, k2⟩
/- What tells lists alike, compared with equality. -/

open Classical in
/-- Are they equal? -/
noncomputable def eqd {α : Type} (a b : α) : Bool := decide (a = b)
theorem eqd_true {α : Type} {a b : α} : eqd a b = true ↔ a = b := by simp [eqd]
theorem eqd_self {α : Type} (a : α) : eqd a a = true := by simp [eqd]
theorem eqd_ne {α : Type} {a b : α} (h : a ≠ b) : eqd a b = false := by simp [eqd, h]
theorem zip_all {α : Type} : ∀ {a b : List α}, a.length = b.length → (a.zip b).all (fun q => eqd q.1 q.2) = eqd a b
  | [], [], _ => by simp [eqd]
  | x :: a, y :: b, h => by
    rw [List.zip_cons_cons, List.all_cons, zip_all (by simpa using h)]
    by_cases h1 : x = y <;> by_cases h2 : a = b <;> simp [eqd, h1, h2]
  | [], _ :: _, h => by simp at h
  | _ :: _, [], h => by simp at h
/-- It ends at the first place where they differ. -/
theorem loop_dec {X α : Type} {step : X → Option (Lp X Bool)} (a b : List α) (mk : Nat → X) (hl : a.length = b.length)
    (h : ∀ i (ha : i < a.length) (hb : i < b.length), step (mk i) = some (bif eqd a[i] b[i] then .again (mk (i + 1)) else .ret false))
    (he : step (mk a.length) = some (.exit (mk a.length))) :
    loopO step (mk 0) = some (bif eqd a b then .inl (mk a.length) else .inr false) := by
  have hz : (a.zip b).length = a.length := by rw [List.length_zip]; omega
  have := loop_all (step := step) (a.zip b) mk (fun q => eqd q.1 q.2) false (fun i hi => by
    rw [h i (by omega) (by omega), List.getElem_zip]) (by rw [hz]; exact he)
  rw [this, zip_all hl, hz]
theorem beq_dec {α : Type} [BEq α] [LawfulBEq α] (x y : α) : (x == y) = eqd x y := by by_cases h : x = y <;> simp [eqd, h]
theorem bne_dec (x y : Int) : (x != y) = !eqd x y := by by_cases h : x = y <;> simp [eqd, h, bne]
theorem eqX_dec (a b : Int × Int × Unit) : Ty.eqX (.cons (.int .i64) (.cons (.int .i64) .nil)) a b = eqd a b := by
  obtain ⟨a0, a1, u⟩ := a
  obtain ⟨b0, b1, v⟩ := b
  by_cases h0 : a0 = b0 <;> by_cases h1 : a1 = b1 <;> simp [Ty.eqX, eqd, h0, h1]
/- Numbers alike. -/

theorem spec_l1Same_dec (a b : List Int) (h : a.length ≤ 1099511627776) : F.spec_l1Same a b = some (eqd a b) := by
  unfold F.spec_l1Same
  by_cases hl : a.length = b.length
  · rw [show (len a != len b) = false by simp only [len, hl, bne_self_eq_false]]
    have := loop_dec (step := F.spec_l1Same.s4) a b (fun i => (a, b, (i : Int), ())) hl (fun i ha hb => by
      unfold F.spec_l1Same.s4
      simp only
      rw [lt_len ha, inb_nat ha, inb_nat hb, Int.toNat_natCast, w64_nat (by omega), getD_at ha, getD_at hb]
      simp only [cond_true, chk_true, bne_dec]
      generalize eqd a[i] b[i] = d
      cases d <;> rfl) (by
      unfold F.spec_l1Same.s4
      simp only [ge_len, cond_false])
    simp only [cond_false]
    refine (congrArg (fun z => afterO z _) this).trans ?_
    cases eqd a b <;> rfl
  · rw [show (len a != len b) = true by simp only [len, bne_iff_ne, ne_eq]; omega, eqd_ne (fun e => hl (congrArg List.length e))]; rfl
theorem slices_Equal_int_dec (a b : List Int) (h : a.length ≤ 1099511627776) : F.slices_Equal_int a b = some (eqd a b) := by
  unfold F.slices_Equal_int
  by_cases hl : a.length = b.length
  · rw [show (len a != len b) = false by simp only [len, hl, bne_self_eq_false]]
    have := loop_dec (step := F.slices_Equal_int.s4) a b (fun i => (a, b, len a, (i : Int), ())) hl (fun i ha hb => by
      unfold F.slices_Equal_int.s4
      simp only
      rw [lt_len ha, inb_nat ha, inb_nat hb, Int.toNat_natCast, w64_nat (by omega), getD_at ha, getD_at hb]
      simp only [cond_true, chk_true, bne_dec]
      generalize eqd a[i] b[i] = d
      cases d <;> rfl) (by
      unfold F.slices_Equal_int.s4
      simp only [ge_len, cond_false])
    simp only [cond_false]
    refine (congrArg (fun z => afterO z _) this).trans ?_
    cases eqd a b <;> rfl
  · rw [show (len a != len b) = true by simp only [len, bne_iff_ne, ne_eq]; omega, eqd_ne (fun e => hl (congrArg List.length e))]; rfl
/- Sketches and items alike. -/

theorem slices_EqualFunc_SSint__slices_Equal_int_dec (a b : List (List Int)) (h : a.length ≤ 1099511627776) (hs : ∀ x ∈ a, x.length ≤ 1099511627776) : F.slices_EqualFunc_SSint__slices_Equal_int a b () = some (eqd a b) := by
  unfold F.slices_EqualFunc_SSint__slices_Equal_int
  by_cases hl : a.length = b.length
  · rw [show (len a != len b) = false by simp only [len, hl, bne_self_eq_false]]
    have := loop_dec (step := F.slices_EqualFunc_SSint__slices_Equal_int.s4) a b (fun i => (b, (), a, len a, (i : Int), ())) hl (fun i ha hb => by
      unfold F.slices_EqualFunc_SSint__slices_Equal_int.s4
      simp only
      rw [lt_len ha, inb_nat ha, inb_nat hb, Int.toNat_natCast, w64_nat (by omega), getD_at ha, getD_at hb]
      simp only [cond_true, chk_true, slices_Equal_int_dec _ _ (hs _ (List.getElem_mem ha)), Option.bind_some]
      generalize eqd a[i] b[i] = d
      cases d <;> rfl) (by
      unfold F.slices_EqualFunc_SSint__slices_Equal_int.s4
      simp only [ge_len, cond_false])
    simp only [cond_false]
    refine (congrArg (fun z => afterO z _) this).trans ?_
    cases eqd a b <;> rfl
  · rw [show (len a != len b) = true by simp only [len, bne_iff_ne, ne_eq]; omega, eqd_ne (fun e => hl (congrArg List.length e))]; rfl
theorem sketchRows_dec (a b : DSketch) (hl : a.2.2.2.2.2.2.1.length = b.2.2.2.2.2.2.1.length) (h : a.2.2.2.2.2.2.1.length ≤ 1099511627776) (hs : ∀ x ∈ a.2.2.2.2.2.2.1, x.length ≤ 1099511627776) : loopO F.spec_SketchSame.s4 (0, a, b, ()) = some (bif eqd a.2.2.2.2.2.2.1 b.2.2.2.2.2.2.1 then .inl ((a.2.2.2.2.2.2.1.length : Int), a, b, ()) else .inr false) := by
  have := loop_dec (step := F.spec_SketchSame.s4) a.2.2.2.2.2.2.1 b.2.2.2.2.2.2.1 (fun i => ((i : Int), a, b, ())) hl (fun i ha hb => by
    unfold F.spec_SketchSame.s4
    simp only
    rw [lt_len ha, inb_nat ha, inb_nat hb, Int.toNat_natCast, w64_nat (by omega), getD_at ha, getD_at hb, spec_l1Same_dec _ _ (hs _ (List.getElem_mem ha))]
    simp only [cond_true, chk_true, Option.bind_some]
    generalize eqd a.2.2.2.2.2.2.1[i] b.2.2.2.2.2.2.1[i] = d
    cases d <;> rfl) (by
    unfold F.spec_SketchSame.s4
    simp only [ge_len, cond_false])
  exact this
theorem spec_SketchSame_dec (a b : DSketch) (h : zSketch a ≤ 1099511627776) : F.spec_SketchSame a b = some (eqd a b) := by
  have hh : a.2.2.2.2.1.length ≤ 1099511627776 ∧ a.2.2.2.2.2.1.length ≤ 1099511627776 ∧ a.2.2.2.2.2.2.1.length ≤ 1099511627776 ∧ ∀ x ∈ a.2.2.2.2.2.2.1, x.length ≤ 1099511627776 := by
    unfold zSketch zIntS zIntSS at h
    exact ⟨by omega, by omega, by omega, fun x hx => by have := sum_mem (f := zIntS) hx; unfold zIntS at this; unfold zIntS at h; omega⟩
  obtain ⟨g1, g2, g3, g4⟩ := hh
  unfold F.spec_SketchSame
  simp only [bne_dec, spec_l1Same_dec _ _ g1, spec_l1Same_dec _ _ g2, Option.bind_some]
  obtain ⟨a0, a1, a2, a3, a4, a5, a6, u⟩ := a
  obtain ⟨b0, b1, b2, b3, b4, b5, b6, v⟩ := b
  by_cases h0 : a0 = b0
  case neg => simp [eqd, h0]
  subst h0
  by_cases h1 : a1 = b1
  case neg => simp [eqd, h1]
  subst h1
  by_cases h2 : a2 = b2
  case neg => simp [eqd, h2]
  subst h2
  by_cases h3 : a3 = b3
  case neg => simp [eqd, h3]
  subst h3
  by_cases h4 : a4 = b4
  case neg => simp [eqd, h4]
  subst h4
  by_cases h5 : a5 = b5
  case neg => simp [eqd, h5]
  subst h5
  by_cases hl : a6.length = b6.length
  case neg =>
    have hne : a6 ≠ b6 := fun e => hl (congrArg List.length e)
    have hl2 : eqd (len a6) (len b6) = false := eqd_ne (fun e => hl (Int.ofNat.inj e))
    simp [hl2, eqd_self, show eqd (a0, a1, a2, a3, a4, a5, a6, u) (a0, a1, a2, a3, a4, a5, b6, v) = false from eqd_ne (by simp [hne])]
  have hr := sketchRows_dec (a0, a1, a2, a3, a4, a5, a6, u) (a0, a1, a2, a3, a4, a5, b6, v) hl g3 g4
  simp only at hr
  simp only [eqd_self, Bool.not_true, cond_false, show eqd (len a6) (len b6) = true from eqd_true.2 (by simp [len, hl]), hr]
  by_cases h6 : a6 = b6
  · subst h6; simp [eqd, afterO]
  · simp [eqd, h6, afterO]
theorem impl_SketchSame_dec (a b : DSketch) (h : zSketch a ≤ 1099511627776) : F.impl_SketchSame a b = some (eqd a b) := by
  have hh : a.2.2.2.2.1.length ≤ 1099511627776 ∧ a.2.2.2.2.2.1.length ≤ 1099511627776 ∧ a.2.2.2.2.2.2.1.length ≤ 1099511627776 ∧ ∀ x ∈ a.2.2.2.2.2.2.1, x.length ≤ 1099511627776 := by
    unfold zSketch zIntS zIntSS at h
    exact ⟨by omega, by omega, by omega, fun x hx => by have := sum_mem (f := zIntS) hx; unfold zIntS at this; unfold zIntS at h; omega⟩
  obtain ⟨g1, g2, g3, g4⟩ := hh
  unfold F.impl_SketchSame
  simp only [beq_dec, slices_Equal_int_dec _ _ g1, slices_Equal_int_dec _ _ g2, slices_EqualFunc_SSint__slices_Equal_int_dec _ _ g3 g4, Option.bind_some]
  obtain ⟨a0, a1, a2, a3, a4, a5, a6, u⟩ := a
  obtain ⟨b0, b1, b2, b3, b4, b5, b6, v⟩ := b
  by_cases h0 : a0 = b0
  case neg => simp [eqd, h0]
  subst h0
  by_cases h1 : a1 = b1
  case neg => simp [eqd, h1]
  subst h1
  by_cases h2 : a2 = b2
  case neg => simp [eqd, h2]
  subst h2
  by_cases h3 : a3 = b3
  case neg => simp [eqd, h3]
  subst h3
  by_cases h4 : a4 = b4
  case neg => simp [eqd, h4]
  subst h4
  by_cases h5 : a5 = b5
  case neg => simp [eqd, h5]
  subst h5
  by_cases h6 : a6 = b6
  case neg => simp [eqd, h6]
  subst h6
  simp [eqd]
/- Spans alike. -/

theorem spec_l5Same_dec (a b : List DSpan) (h : a.length ≤ 1099511627776) : F.spec_l5Same a b = some (eqd a b) := by
  unfold F.spec_l5Same
  by_cases hl : a.length = b.length
  · rw [show (len a != len b) = false by simp only [len, hl, bne_self_eq_false]]
    have := loop_dec (step := F.spec_l5Same.s4) a b (fun i => (a, b, (i : Int), ())) hl (fun i ha hb => by
      unfold F.spec_l5Same.s4
      simp only
      rw [lt_len ha, inb_nat ha, inb_nat hb, Int.toNat_natCast, w64_nat (by omega), getD_at ha, getD_at hb]
      simp only [cond_true, chk_true, eqX_dec]
      generalize eqd a[i] b[i] = d
      cases d <;> rfl) (by
      unfold F.spec_l5Same.s4
      simp only [ge_len, cond_false])
    simp only [cond_false]
    refine (congrArg (fun z => afterO z _) this).trans ?_
    cases eqd a b <;> rfl
  · rw [show (len a != len b) = true by simp only [len, bne_iff_ne, ne_eq]; omega, eqd_ne (fun e => hl (congrArg List.length e))]; rfl
theorem slices_Equal_Span_dec (a b : List DSpan) (h : a.length ≤ 1099511627776) : F.slices_Equal_Span a b = some (eqd a b) := by
  unfold F.slices_Equal_Span
  by_cases hl : a.length = b.length
  · rw [show (len a != len b) = false by simp only [len, hl, bne_self_eq_false]]
    have := loop_dec (step := F.slices_Equal_Span.s4) a b (fun i => (a, b, len a, (i : Int), ())) hl (fun i ha hb => by
      unfold F.slices_Equal_Span.s4
      simp only
      rw [lt_len ha, inb_nat ha, inb_nat hb, Int.toNat_natCast, w64_nat (by omega), getD_at ha, getD_at hb]
      simp only [cond_true, chk_true, eqX_dec]
      generalize eqd a[i] b[i] = d
      cases d <;> rfl) (by
      unfold F.slices_Equal_Span.s4
      simp only [ge_len, cond_false])
    simp only [cond_false]
    refine (congrArg (fun z => afterO z _) this).trans ?_
    cases eqd a b <;> rfl
  · rw [show (len a != len b) = true by simp only [len, bne_iff_ne, ne_eq]; omega, eqd_ne (fun e => hl (congrArg List.length e))]; rfl
/- Rows alike. -/

theorem spec_EntrySame_dec (a b : DEntry) (h : zEntry a ≤ 1099511627776) : F.spec_EntrySame a b = some (eqd a b) := by
  obtain ⟨a0, a1, a2, a3, u⟩ := a
  obtain ⟨b0, b1, b2, b3, v⟩ := b
  unfold F.spec_EntrySame
  simp only [beq_dec, spec_l5Same_dec _ _ (show List.length a2 ≤ 1099511627776 by have h : zSpanS a2 + zSketch a3 ≤ 1099511627776 := h; unfold zSpanS at h; omega), spec_SketchSame_dec a3 b3 (by have h : zSpanS a2 + zSketch a3 ≤ 1099511627776 := h; omega), Option.bind_some]
  by_cases h0 : a0 = b0
  case neg => simp [eqd, h0]
  subst h0
  by_cases h1 : a1 = b1
  case neg => simp [eqd, h1]
  subst h1
  by_cases h2 : a2 = b2
  case neg => simp [eqd, h2]
  subst h2
  by_cases h3 : a3 = b3
  case neg => simp [eqd, h3]
  subst h3
  simp [eqd]
theorem impl_EntrySame_dec (a b : DEntry) (h : zEntry a ≤ 1099511627776) : F.impl_EntrySame a b = some (eqd a b) := by
  obtain ⟨a0, a1, a2, a3, u⟩ := a
  obtain ⟨b0, b1, b2, b3, v⟩ := b
  unfold F.impl_EntrySame
  simp only [beq_dec, slices_Equal_Span_dec _ _ (show List.length a2 ≤ 1099511627776 by have h : zSpanS a2 + zSketch a3 ≤ 1099511627776 := h; unfold zSpanS at h; omega), impl_SketchSame_dec a3 b3 (by have h : zSpanS a2 + zSketch a3 ≤ 1099511627776 := h; omega), Option.bind_some]
  by_cases h0 : a0 = b0
  case neg => simp [eqd, h0]
  subst h0
  by_cases h1 : a1 = b1
  case neg => simp [eqd, h1]
  subst h1
  by_cases h2 : a2 = b2
  case neg => simp [eqd, h2]
  subst h2
  by_cases h3 : a3 = b3
  case neg => simp [eqd, h3]
  subst h3
  simp [eqd]
theorem spec_l10Entries_dec (a b : List DEntry) (h : a.length ≤ 1099511627776) (hs : ∀ x ∈ a, zEntry x ≤ 1099511627776) : F.spec_l10Entries a b = some (eqd a b) := by
  unfold F.spec_l10Entries
  by_cases hl : a.length = b.length
  · rw [show (len a != len b) = false by simp only [len, hl, bne_self_eq_false]]
    have := loop_dec (step := F.spec_l10Entries.s4) a b (fun i => (a, b, (i : Int), ())) hl (fun i ha hb => by
      unfold F.spec_l10Entries.s4
      simp only
      rw [lt_len ha, inb_nat ha, inb_nat hb, Int.toNat_natCast, w64_nat (by omega), getD_at ha, getD_at hb]
      simp only [cond_true, chk_true, spec_EntrySame_dec _ _ (hs _ (List.getElem_mem ha)), Option.bind_some]
      generalize eqd a[i] b[i] = d
      cases d <;> rfl) (by
      unfold F.spec_l10Entries.s4
      simp only [ge_len, cond_false])
    simp only [cond_false]
    refine (congrArg (fun z => afterO z _) this).trans ?_
    cases eqd a b <;> rfl
  · rw [show (len a != len b) = true by simp only [len, bne_iff_ne, ne_eq]; omega, eqd_ne (fun e => hl (congrArg List.length e))]; rfl
theorem spec_RowSame_dec (a b : DRow) (h : zRow a ≤ 1099511627776) : F.spec_RowSame a b = some (eqd a b) := by
  have h : a.1.length + (a.1.map zEntry).sum ≤ 1099511627776 := h
  unfold F.spec_RowSame
  rw [spec_l10Entries_dec a.1 b.1 (by omega) (fun x hx => by have := sum_mem (f := zEntry) hx; omega)]
  obtain ⟨a, u⟩ := a
  obtain ⟨b, v⟩ := b
  simp [eqd]
/- The law FnRows, on the printed functions alone. -/

theorem drawPush_ok (c : List Int) (hc : c.length ≤ 1048576) : ∃ q : DRow × DEntry × Bool, F.spec_DrawRowPush c = some q ∧ q.1.1.length ≤ 6 ∧ zRow q.1 ≤ 300000 ∧ zEntry q.2.1 ≤ 1100 := by
  unfold F.spec_DrawRowPush
  obtain ⟨s0, e0, k0⟩ := l1New_ok c hc
  obtain ⟨⟨r, s1⟩, e1, h1, z1, k1⟩ := l10Draw_ok s0 k0
  obtain ⟨⟨e, s2⟩, e2, z2, k2⟩ := l6Entry_ok s1 k1
  simp only at h1 z1 z2
  simp only [e0, e1, e2, Option.bind_some]
  cases hl : r.1 with
  | nil =>
    obtain ⟨b, s3, e3, k3⟩ := l1Once_ok s2 k2 2 (by omega) (by omega)
    rw [show decide (len ([] : List DEntry) > 0) = false from rfl]
    simp only [cond_false, e3, Option.bind_some]
    exact ⟨_, rfl, h1, z1, z2⟩
  | cons x l =>
    obtain ⟨b, s3, e3, k3⟩ := l1Once_ok s2 k2 2 (by omega) (by omega)
    obtain ⟨b4, s4, e4, k4⟩ := l1Once_ok s3 k3 2 (by omega) (by omega)
    rw [show decide (len (x :: l) > 0) = true from decide_eq_true (by simp only [len, List.length_cons]; omega), show inb 0 (x :: l).length = true from inb_nat (i := 0) (by simp)]
    simp only [cond_true, chk_true, e3, Option.bind_some]
    cases b with
    | true =>
      simp only [cond_true, e4, Option.bind_some]
      exact ⟨_, rfl, h1, z1, z2⟩
    | false =>
      simp only [cond_false, e4, Option.bind_some]
      exact ⟨_, rfl, h1, z1, z2⟩
/-- What is pushed, where there is room. -/
structure PushR (l : List DEntry) (e : DEntry) (L : List DEntry) : Prop where
  ok : RoR (L, ())
  sum : smL places L = smL places (l ++ [e])
  ids : ∀ n, memS (idsL L) n ↔ memS (idsL l) n ∨ memS e.2.2.1 n
  few : L.length ≤ l.length + 1
  pos : 0 < L.length
theorem pushed_room {r : DRow} {e : DEntry} (j : Bool) (hr : RoR r) (he : EnR e) (ha : apRow r.1 e.2.2.1 = true) (hl : r.1.length < 24) : ∃ L, pushed r e j = ((L, ()), true) ∧ PushR r.1 e L := by
  unfold pushed
  cases hf : (bif j then r.1.findIdx? (atP e.1 e.2.1) else none) with
  | none =>
    simp only
    rw [if_neg (by omega)]
    refine ⟨_, rfl, (ror_app hr he).2 ⟨by omega, ha⟩, rfl, fun n => ?_, by simp, by simp⟩
    rw [memS_idsL, memS_idsL]
    constructor
    · rintro ⟨x, hx, h⟩
      rcases List.mem_append.1 hx with hx | hx
      · exact .inl ⟨x, hx, h⟩
      · rw [List.mem_singleton.1 hx] at h; exact .inr h
    · rintro (⟨x, hx, h⟩ | h)
      · exact ⟨x, List.mem_append_left _ hx, h⟩
      · exact ⟨e, List.mem_append_right _ (List.mem_singleton.2 rfl), h⟩
  | some k =>
    have hk : r.1.findIdx? (atP e.1 e.2.1) = some k := by
      cases j with
      | true => exact hf
      | false => cases hf
    obtain ⟨hi, hk1, hk2⟩ := find_at hk
    have hek := hr.ok.all _ (List.getElem_mem hi)
    have hap : apB r.1[k].2.2.1 e.2.2.1 = true := by
      unfold apRow at ha
      rw [List.all_eq_true] at ha
      exact ha _ (List.getElem_mem hi)
    simp only
    refine ⟨_, rfl, ?_, smL_join hr.ok.all he hk places, fun n => ?_, by simp, by rw [List.length_set]; omega⟩
    · rw [getD_at hi]
      exact (ror_set hr he hi hap).2 ha
    · rw [memS_idsL, memS_idsL, getD_at hi]
      have hj : ∀ m, memS (addE r.1[k] e).2.2.1 m ↔ memS r.1[k].2.2.1 m ∨ memS e.2.2.1 m := fun m => joinS_mem (good_ok.1 hek.ids) (okF_ends (good_ok.1 he.ids))
      constructor
      · rintro ⟨x, hx, h⟩
        obtain ⟨i, hi', rfl⟩ := List.getElem_of_mem hx
        rw [List.getElem_set] at h
        split at h
        · rcases (hj n).1 h with h | h
          · exact .inl ⟨_, List.getElem_mem hi, h⟩
          · exact .inr h
        · exact .inl ⟨_, List.getElem_mem (by simpa using hi'), h⟩
      · rintro (⟨x, hx, h⟩ | h)
        · obtain ⟨i, hi', rfl⟩ := List.getElem_of_mem hx
          by_cases hik : k = i
          · subst hik
            exact ⟨_, List.mem_set (h := hi) .., (hj n).2 (.inl h)⟩
          · refine ⟨(r.1.set k (addE r.1[k] e))[i]'(by rw [List.length_set]; exact hi'), List.getElem_mem _, ?_⟩
            rw [List.getElem_set_ne hik]
            exact h
        · exact ⟨_, List.mem_set (h := hi) .., (hj n).2 (.inr h)⟩
theorem fnRows_law (c : List Int) : F.laws_FnRows c = some true := by
  unfold F.laws_FnRows F.laws_big
  simp only [Option.bind_some]
  by_cases hc : len c > 1048576
  · rw [decide_eq_true hc]; rfl
  rw [decide_eq_false hc]
  obtain ⟨⟨r, e, j⟩, e1, h1, z1, z2⟩ := drawPush_ok c (by simp only [len] at hc; omega)
  simp only at h1 z1 z2
  simp only [cond_false, e1, Option.bind_some]
  rw [specPush_eq r e j (by omega) (by omega), implPush_eq r e j (by omega) (by omega), implPush_eq r e (!j) (by omega) (by omega)]
  simp only [Option.bind_some, beq_self_eq_true, Bool.not_true, cond_false]
  by_cases hP : RoR r ∧ EnR e ∧ apRow r.1 e.2.2.1 = true
  case neg =>
    rw [decB_neg hP]
    simp only [cond_false, Bool.not_false, cond_true]
    rw [spec_RowSame_dec _ _ (by omega)]
    simp [eqd]
  rw [decB_pos hP]
  obtain ⟨hr, he, ha⟩ := hP
  obtain ⟨X, hX, pX⟩ := pushed_room j hr he ha (by omega)
  obtain ⟨Y, hY, pY⟩ := pushed_room (!j) hr he ha (by omega)
  simp only [cond_true]
  rw [hX, hY]
  simp only [Bool.not_true, cond_false]
  have zX : zRow (X, ()) ≤ 200000 := by
    have h1 := zEnL X pX.ok.ok.all
    have h2 := pX.ok.few
    have h2 : X.length ≤ 24 := h2
    show zEntryS X ≤ _
    omega
  have zY : zRow (Y, ()) ≤ 200000 := by
    have h1 := zEnL Y pY.ok.ok.all
    have h2 := pY.ok.few
    have h2 : Y.length ≤ 24 := h2
    show zEntryS Y ≤ _
    omega
  have a2 := implSum_eq (X, ()) (by omega) pX.ok
  have b2 := implSum_eq (Y, ()) (by omega) pY.ok
  have a2 : F.impl_RowSum (X, ()) = some (smL places (r.1 ++ [e])) := by rw [a2, ← pX.sum]
  have b2 : F.impl_RowSum (Y, ()) = some (smL places (r.1 ++ [e])) := by rw [b2, ← pY.sum]
  rw [a2, b2]
  obtain ⟨b, hb'⟩ : ∃ b, b = smL places (r.1 ++ [e]) := ⟨_, rfl⟩
  rw [← hb']
  simp only [Option.bind_some, bne_self_eq_false, cond_false]
  have hEa : ∀ x ∈ b, EnR x := by
    rw [hb']
    exact smL_ok (fun x hx => by
      rcases List.mem_append.1 hx with h | h
      · exact hr.ok.all x h
      · rw [List.mem_singleton.1 h]; exact he)
  have hbl : b.length ≤ 105 := by
    rw [hb']
    have := smL_len places (r.1 ++ [e])
    have hp : places.length = 105 := by simp [places]
    omega
  -- twice
  obtain ⟨n, hn⟩ : ∃ n, memS e.2.2.1 n := by
    have hne := he.some
    cases hs : e.2.2.1 with
    | nil => exact absurd hs hne
    | cons s t =>
      have := good_le he.ids s (by rw [hs]; exact List.mem_cons_self ..)
      exact ⟨s.1, s, List.mem_cons_self .., Int.le_refl _, this⟩
  have htw : ¬ (RoR (X, ()) ∧ EnR e ∧ apRow X e.2.2.1 = true) := by
    rintro ⟨_, _, h⟩
    obtain ⟨x, hx, hxn⟩ := memS_idsL.1 ((pX.ids n).2 (.inr hn))
    unfold apRow at h
    rw [List.all_eq_true] at h
    exact (apB_mem (pX.ok.ok.all x hx).ids he.ids).1 (h x hx) n hxn hn
  rw [implPush_eq (X, ()) e j (by omega) (by omega), decB_neg htw, implPop_eq (X, ()) (by omega)]
  simp only [Option.bind_some, cond_false]
  unfold popped
  rw [decB_pos pX.ok, show (!X.isEmpty) = true by
    have := pX.pos
    cases X with
    | nil => simp at this
    | cons x l => rfl]
  simp only [Bool.and_self, cond_true, Bool.not_true, cond_false]
  have hXf : X.length ≤ 24 := pX.ok.few
  have hpos := pX.pos
  rw [show (len (X.drop 1) != w64 (len X - 1)) = false by
    rw [w64_id (by simp only [len]; omega) (by simp only [len]; omega)]
    simp [len]; omega, show inb 0 X.length = true from inb_nat (i := 0) hpos]
  simp only [cond_false, chk_true]
  have hx0 : EnR (X.getD 0 noE) := by rw [getD_at hpos]; exact pX.ok.ok.all _ (List.getElem_mem hpos)
  have hz0 := zEnR hx0
  rw [impl_EntrySame_dec _ _ (by omega), show eqd (X.getD 0 noE) (X.getD 0 noE) = true by simp [eqd]]
  simp only [Option.bind_some, Bool.not_true, cond_false]
  rw [implRow_dec (X, ()) (by omega), decB_pos pX.ok]
  simp only [Option.bind_some, Bool.not_true, cond_false]
  have hl := loop_run (step := F.laws_FnRows.s20) (fun i => (b, b, (i : Int), r, e, ((X, ()) : DRow), ())) b.length (fun i hi => by
    have hz := zEnR (hEa _ (List.getElem_mem hi))
    unfold F.laws_FnRows.s20
    simp only
    rw [lt_len hi, inb_nat hi, Int.toNat_natCast, getD_at hi, impl_EntrySame_dec _ _ (by omega), show eqd b[i] b[i] = true by simp [eqd], w64_nat (by omega), beq_self_eq_true]
    rfl) (l := .exit (b, b, ((b.length : Nat) : Int), r, e, ((X, ()) : DRow), ())) (by
    unfold F.laws_FnRows.s20
    simp only [ge_len, cond_false]) rfl
  have hl : loopO F.laws_FnRows.s20 (b, b, 0, r, e, ((X, ()) : DRow), ()) = _ := hl
  rw [hl]
  simp only [afterO]
  have p2 := implIds_eq (X, ()) (by omega) pX.ok
  have q2 := implIds_eq r (by omega) hr
  obtain ⟨p, hp⟩ : ∃ p, p = joinS [] (idsL X) := ⟨_, rfl⟩
  obtain ⟨q, hq⟩ : ∃ q, q = joinS [] (idsL r.1) := ⟨_, rfl⟩
  have p2 : F.impl_RowIds (X, ()) = some p := by rw [p2, hp]
  have q2 : F.impl_RowIds r = some q := by rw [q2, hq]
  have en1 : ends (idsL X) := enR_ends fun x hx => (pX.ok.ok.all x hx).ids
  have en2 : ends (idsL r.1) := enR_ends fun x hx => (hr.ok.all x hx).ids
  have op : okF 0 p := by rw [hp]; exact joined_ok en1
  have oq : okF 0 q := by rw [hq]; exact joined_ok en2
  have oe := good_ok.1 he.ids
  have hmq : ∀ n, memS q n ↔ memS (idsL r.1) n := fun n => by
    rw [hq, joinS_mem (show okF 0 ([] : List Sp) from trivial) en2]
    exact ⟨fun h => h.elim (fun h => absurd h memS_nil) id, .inr⟩
  have hpj : p = joinS q e.2.2.1 := by
    refine okF_ext op (joinS_ok oq (okF_ends oe)) (fun n => ?_)
    rw [joinS_mem oq (okF_ends oe), hmq, ← pX.ids n, hp, joinS_mem (show okF 0 ([] : List Sp) from trivial) en1]
    exact ⟨fun h => h.elim (fun h => absurd h memS_nil) id, .inr⟩
  have hdis : ∀ n, memS q n → ¬ memS e.2.2.1 n := fun n h1 h2 => by
    obtain ⟨x, hx, hxn⟩ := memS_idsL.1 ((hmq n).1 h1)
    unfold apRow at ha
    rw [List.all_eq_true] at ha
    exact (apB_mem (hr.ok.all x hx).ids he.ids).1 (ha x hx) n hxn h2
  have hsz := szS_join oq oe hdis
  rw [← hpj] at hsz
  rw [p2, q2]
  simp only [Option.bind_some]
  rw [implSize_eq op, implSize_eq oq, implSize_eq oe]
  simp only [Option.bind_some]
  have r1 := szS_rng (Int.le_refl 0) oq
  have r2 := szS_rng (Int.le_refl 0) oe
  rw [w64_id (x := szS q + szS e.2.2.1) (by omega) (by omega), ← hsz, beq_self_eq_true]
  simp only [cond_true]
  have hfe := pX.few
  rw [w64_id (by simp only [len]; omega) (by simp only [len]; omega), decide_eq_true (by simp only [len]; omega)]
end Go.Proofs.YtnpmjlppjcemmaaGreat.Vm
