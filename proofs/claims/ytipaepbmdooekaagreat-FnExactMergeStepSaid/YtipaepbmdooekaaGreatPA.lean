-- compact
import Derived.Test.YtipaepbmdooekaaGreatGf
import Derived.Test.YtipaepbmdooekaaGreatV3
namespace Go.Proofs.YtipaepbmdooekaaGreat.Vm
open Go Go.RowKit
set_option linter.unusedVariables false
def runL {α S A : Type} (g : Nat -> S -> α -> S ⊕ A) : Nat -> List α -> S -> S ⊕ A
 | _, [], s => .inl s
 | i, x :: l, s => match g i s x with
  | .inl s' => runL g (i + 1) l s'
  | .inr a => .inr a
def runN {S A : Type} (g : Nat -> S -> S ⊕ A) : Nat -> Nat -> S -> S ⊕ A
 | 0, _, s => .inl s
 | k + 1, i, s => match g i s with
  | .inl s' => runN g k (i + 1) s'
  | .inr a => .inr a
def again {X A S : Type} (mk : S -> X) : S ⊕ A -> Lp X A
 | .inl s => .again (mk s)
 | .inr a => .ret a
theorem loop_n {X A S : Type} {step : X -> Option (Lp X A)} (n : Nat) (mk : Nat -> S -> X) (g : Nat -> S -> S ⊕ A) (P : Nat -> S -> Prop)
  (h : ∀ i s, i < n -> P i s -> step (mk i s) = some (again (mk (i + 1)) (g i s)) /\ ∀ s', g i s = .inl s' -> P (i + 1) s')
  (he : ∀ s, P n s -> step (mk n s) = some (.exit (mk n s))) {s : S} (h0 : P 0 s) :
  loopO step (mk 0 s) = some (Sum.map (mk n) id (runN g n 0 s)) /\ ∀ s', runN g n 0 s = .inl s' -> P n s' := by
 have key : ∀ k i s, i + k = n -> P i s -> iterO step (k + 1) (mk i s) = some (Sum.map (mk n) id (runN g k i s)) /\ ∀ s', runN g k i s = .inl s' -> P n s' := by
  intro k
  induction k with
  | zero =>
   intro i s hi hp
   have hi : i = n := by omega
   subst hi
   refine ⟨?_, fun s' hs => by cases hs; exact hp⟩
   simp only [iterO, he s hp]; rfl
  | succ k ih =>
   intro i s hi hp
   obtain ⟨h1, h2⟩ := h i s (by omega) hp
   rw [iterO, h1]
   cases hg : g i s with
   | inl s' =>
    simp only [again, runN, hg]
    exact ih (i + 1) s' (by omega) (h2 s' hg)
   | inr a =>
    simp only [again, runN, hg]
    exact ⟨rfl, fun s' hs => by cases hs⟩
 obtain ⟨k1, k2⟩ := key n 0 s (by omega) h0
 exact ⟨loopO_of k1, k2⟩
theorem runN_list {α S A : Type} (g : Nat -> S -> α -> S ⊕ A) (d : α) (l : List α) (s : S) : runN (fun i s => g i s (l.getD i d)) l.length 0 s = runL g 0 l s := by
 have key : ∀ (m : List α) (i : Nat) (s : S), l.drop i = m -> runN (fun i s => g i s (l.getD i d)) m.length i s = runL g i m s := by
  intro m
  induction m with
  | nil => intro i s _; rfl
  | cons x m ih =>
   intro i s h
   have hx : l.getD i d = x := by
    rw [List.getD_eq_getElem?_getD, show l[i]? = some x by rw [<- List.head?_drop, h]; rfl]; rfl
   simp only [List.length_cons, runN, runL, hx]
   cases g i s x with
   | inl s' => exact ih (i + 1) s' (by rw [<- List.drop_drop, h]; rfl)
   | inr a => rfl
 exact key l 0 s rfl
theorem loop_l {X A S α : Type} {step : X -> Option (Lp X A)} (l : List α) (mk : Nat -> S -> X) (g : Nat -> S -> α -> S ⊕ A) (P : Nat -> S -> Prop)
  (h : ∀ i s (hi : i < l.length), P i s -> step (mk i s) = some (again (mk (i + 1)) (g i s l[i])) /\ ∀ s', g i s l[i] = .inl s' -> P (i + 1) s')
  (he : ∀ s, P l.length s -> step (mk l.length s) = some (.exit (mk l.length s))) {s : S} (h0 : P 0 s) :
  loopO step (mk 0 s) = some (Sum.map (mk l.length) id (runL g 0 l s)) /\ ∀ s', runL g 0 l s = .inl s' -> P l.length s' := by
 cases l with
 | nil =>
  obtain ⟨h1, h2⟩ := loop_n (step := step) 0 mk (fun _ s => .inl s) P (fun i s hi => by omega) he h0
  exact ⟨h1, h2⟩
 | cons x l =>
  obtain ⟨h1, h2⟩ := loop_n (step := step) (x :: l).length mk (fun i s => g i s ((x :: l).getD i x)) P (fun i s hi hp => by
   rw [getD_at hi]; exact h i s hi hp) he h0
  rw [runN_list] at h1 h2
  exact ⟨h1, h2⟩
theorem loop_l0 {X A S α : Type} {step : X -> Option (Lp X A)} (l : List α) (mk : Nat -> S -> X) (g : Nat -> S -> α -> S ⊕ A)
  (h : ∀ i s (hi : i < l.length), step (mk i s) = some (again (mk (i + 1)) (g i s l[i])))
  (he : ∀ s, step (mk l.length s) = some (.exit (mk l.length s))) (s : S) :
  loopO step (mk 0 s) = some (Sum.map (mk l.length) id (runL g 0 l s)) :=
 (loop_l l mk g (fun _ _ => True) (fun i s hi _ => ⟨h i s hi, fun _ _ => trivial⟩) (fun s _ => he s) (s := s) trivial).1
theorem loop_all {X A α : Type} {step : X -> Option (Lp X A)} (l : List α) (mk : Nat -> X) (p : α -> Bool) (a : A)
  (h : ∀ i (hi : i < l.length), step (mk i) = some (bif p l[i] then .again (mk (i + 1)) else .ret a))
  (he : step (mk l.length) = some (.exit (mk l.length))) :
  loopO step (mk 0) = some (bif l.all p then .inl (mk l.length) else .inr a) := by
 have := loop_l0 (step := step) l (fun i (_ : Unit) => mk i) (fun _ _ x => bif p x then .inl () else .inr a) (fun i s hi => by
  rw [h i hi]; cases p l[i] <;> rfl) (fun _ => he) ()
 rw [this]
 have key : ∀ (m : List α) (i : Nat), Sum.map (fun (_ : Unit) => mk l.length) id (runL (fun _ _ x => bif p x then (.inl () : Unit ⊕ A) else .inr a) i m ()) = bif m.all p then .inl (mk l.length) else .inr a := by
  intro m
  induction m with
  | nil => intro i; rfl
  | cons x m ih =>
   intro i
   simp only [runL, List.all_cons]
   cases p x with
   | false => rfl
   | true => exact ih (i + 1)
 rw [key l 0]
theorem loop_foldP {X A S α : Type} {step : X -> Option (Lp X A)} (l : List α) (mk : Nat -> S -> X) (f : S -> α -> S) (P : Nat -> S -> Prop)
  (h : ∀ i s (hi : i < l.length), P i s -> step (mk i s) = some (.again (mk (i + 1) (f s l[i]))) /\ P (i + 1) (f s l[i]))
  (he : ∀ s, P l.length s -> step (mk l.length s) = some (.exit (mk l.length s))) {s : S} (h0 : P 0 s) :
  loopO step (mk 0 s) = some (.inl (mk l.length (l.foldl f s))) /\ P l.length (l.foldl f s) := by
 obtain ⟨h1, h2⟩ := loop_l (step := step) l mk (fun _ s x => .inl (f s x)) P (fun i s hi hp => ⟨(h i s hi hp).1, fun s' e => by cases e; exact (h i s hi hp).2⟩) he h0
 have key : ∀ (m : List α) (i : Nat) (s : S), runL (fun _ s x => (.inl (f s x) : S ⊕ A)) i m s = .inl (m.foldl f s) := by
  intro m
  induction m with
  | nil => intro i s; rfl
  | cons x m ih => intro i s; exact ih (i + 1) (f s x)
 rw [key l 0 s] at h1 h2
 exact ⟨h1, h2 _ rfl⟩
theorem fits_of {n b : Nat} (h : n * b <= 140737488355328) : fits n b = true := decide_eq_true h
theorem getD_set_self {α : Type} {l : List α} {i : Nat} {x d : α} (h : i < l.length) : (l.set i x).getD i d = x := by
 rw [List.getD_eq_getElem?_getD, List.getElem?_set_self h]; rfl
theorem getD_mid {α : Type} {p : List α} {x d : α} {l : List α} : (p ++ x :: l).getD p.length d = x := by
 rw [List.getD_eq_getElem?_getD, List.getElem?_append_right (Nat.le_refl _), Nat.sub_self]; rfl
theorem set_mid {α : Type} {p : List α} {x y : α} {l : List α} : (p ++ x :: l).set p.length y = p ++ y :: l := by
 rw [List.set_append_right _ _ (Nat.le_refl _), Nat.sub_self]; rfl
theorem mid_app {α : Type} {p : List α} {y : α} {l : List α} : p ++ y :: l = (p ++ [y]) ++ l := by simp
section
variable {α A : Type}
theorem loop_to {step : (List α × List α × Int × Unit) -> Option (Lp (List α × List α × Int × Unit) A)} (l : List α) (d : α)
  (hs : ∀ i (m : List α) (hi : i < l.length), i < m.length -> step (l, m, (i : Int), ()) = some (.again (l, m.set i l[i], ((i + 1 : Nat) : Int), ())))
  (he : ∀ m, step (l, m, ((l.length : Nat) : Int), ()) = some (.exit (l, m, ((l.length : Nat) : Int), ()))) :
  loopO step (l, List.replicate l.length d, 0, ()) = some (.inl (l, l, ((l.length : Nat) : Int), ())) := by
 have h := loop_run (step := step) (fun i => (l, mid d l i, (i : Int), ())) l.length (fun i hi => by
  rw [hs i _ hi (by rw [mid_len (by omega)]; exact hi)]
  have := copy_step d l hi
  rw [getD_at hi] at this
  unfold mid
  rw [this]) (l := .exit (l, l, ((l.length : Nat) : Int), ())) (y := .inl (l, l, ((l.length : Nat) : Int), ())) (by
   have e : mid d l l.length = l := by simp [mid]
   show step (l, mid d l l.length, ((l.length : Nat) : Int), ()) = _
   rw [e]; exact he l) rfl
 have e : mid d l 0 = List.replicate l.length d := by simp [mid]
 have h : loopO step (l, mid d l 0, ((0 : Nat) : Int), ()) = _ := h
 rw [e] at h
 exact h
theorem loop_eq {step : (List α × List α × Int × Unit) -> Option (Lp (List α × List α × Int × Unit) A)} (l : List α)
  (hs : ∀ i (hi : i < l.length), step (l, l, (i : Int), ()) = some (.again (l, l, ((i + 1 : Nat) : Int), ())))
  (he : step (l, l, ((l.length : Nat) : Int), ()) = some (.exit (l, l, ((l.length : Nat) : Int), ()))) :
  loopO step (l, l, 0, ()) = some (.inl (l, l, ((l.length : Nat) : Int), ())) :=
 loop_run (step := step) (fun i => (l, l, (i : Int), ())) l.length hs he rfl
theorem loop_sz {step : (List α × Int × Int × Unit) -> Option (Lp (List α × Int × Int × Unit) Int)} (sz : α -> Nat) (l : List α) (n : Int) (h0 : 0 <= n)
  (hs : ∀ i (k : Int) (hi : i < l.length), 0 <= k -> k <= n -> step (l, k, (i : Int), ()) = some (if (sz l[i] : Int) <= k then .again (l, k - (sz l[i] : Int), ((i + 1 : Nat) : Int), ()) else .ret (-1)))
  (he : ∀ k, step (l, k, ((l.length : Nat) : Int), ()) = some (.exit (l, k, ((l.length : Nat) : Int), ()))) :
  loopO step (l, n, 0, ()) = some (if (((l.map sz).sum : Nat) : Int) <= n then .inl (l, n - ((l.map sz).sum : Nat), ((l.length : Nat) : Int), ()) else .inr (-1)) := by
 have key : ∀ (m p : List α) (k : Int), p ++ m = l -> 0 <= k -> k <= n -> iterO step (m.length + 1) (l, k, ((p.length : Nat) : Int), ()) = some (if (((m.map sz).sum : Nat) : Int) <= k then .inl (l, k - ((m.map sz).sum : Nat), ((l.length : Nat) : Int), ()) else .inr (-1)) := by
  intro m
  induction m with
  | nil =>
   intro p k hp hk _
   have hp : p = l := by simpa using hp
   subst hp
   simp [iterO, he, hk]
  | cons x m ih =>
   intro p k hp hk hkn
   have hi : p.length < l.length := by rw [<- hp]; simp
   have hx : l[p.length] = x := by subst hp; simp
   rw [iterO, hs p.length k hi hk hkn, hx]
   by_cases hle : (sz x : Int) <= k
   ·rw [if_pos hle]
    simp only
    have := ih (p ++ [x]) (k - sz x) (by rw [<- hp]; simp) (by omega) (by omega)
    rw [List.length_append] at this
    rw [show ((p.length + 1 : Nat) : Int) = ((p.length + [x].length : Nat) : Int) from rfl, List.length_cons, this]
    congr 1
    simp only [List.map_cons, List.sum_cons]
    by_cases h2 : (((m.map sz).sum : Nat) : Int) <= k - sz x
    ·rw [if_pos h2, if_pos (by omega)]
     congr 3; omega
    ·rw [if_neg h2, if_neg (by omega)]
   ·rw [if_neg hle]
    simp only [List.map_cons, List.sum_cons]
    rw [if_neg (by omega)]
 exact loopO_of (key l [] n rfl h0 (Int.le_refl _))
theorem loop_mark1 {mstep : (Int × Int × List α × Unit) -> Option (Lp (Int × Int × List α × Unit) (Int × List α))} (d : α) (cnt : α -> Nat) (B : Int) (l : List α) (k : Int) (hk : 0 <= k) (hB : k + (((l.map cnt).sum : Nat) : Int) <= B)
  (hel : ∀ x ∈ l, ∀ k : Int, 0 <= k -> k + (cnt x : Int) <= B -> ∃ x',
   (∀ (i : Nat) (m : List α), i < m.length -> m.length = l.length -> m.getD i d = x -> mstep (k, (i : Int), m, ()) = some (.again (k + cnt x, ((i + 1 : Nat) : Int), m.set i x', ()))))
  (hm : ∀ (m : List α) (k : Int), mstep (k, ((m.length : Nat) : Int), m, ()) = some (.exit (k, ((m.length : Nat) : Int), m, ()))) :
  ∃ l', loopO mstep (k, 0, l, ()) = some (.inl (k + ((l.map cnt).sum : Nat), ((l.length : Nat) : Int), l', ())) := by
 have key : ∀ (m p : List α) (k : Int), (∀ x ∈ m, x ∈ l) -> p.length + m.length = l.length -> 0 <= k -> k + (((m.map cnt).sum : Nat) : Int) <= B -> ∃ m', m'.length = m.length /\
   iterO mstep (m.length + 1) (k, ((p.length : Nat) : Int), p ++ m, ()) = some (.inl (k + ((m.map cnt).sum : Nat), ((l.length : Nat) : Int), p ++ m', ())) := by
  intro m
  induction m with
  | nil =>
   intro p k _ hp _ _
   have hp : p.length = l.length := by simpa using hp
   refine ⟨[], rfl, ?_⟩
   have := hm p k
   simp [iterO, hp]
   rw [hp] at this
   simp [this]
  | cons x m ih =>
   intro p k hmem hp hk hB
   simp only [List.map_cons, List.sum_cons] at hB
   obtain ⟨x', h1⟩ := hel x (hmem x (by simp)) k hk (by omega)
   obtain ⟨m', g0, g1⟩ := ih (p ++ [x']) (k + cnt x) (fun y hy => hmem y (by simp [hy])) (by simp at hp ⊢; omega) (by omega) (by omega)
   refine ⟨x' :: m', by simp [g0], ?_⟩
   rw [iterO, h1 p.length (p ++ x :: m) (by simp) (by simp at hp ⊢; omega) getD_mid, set_mid]
   simp only
   rw [show p ++ x' :: m = (p ++ [x']) ++ m by simp, show p ++ x' :: m' = (p ++ [x']) ++ m' by simp, List.length_cons]
   rw [List.length_append] at g1
   refine g1.trans ?_
   simp only [List.map_cons, List.sum_cons]
   congr 3; omega
 obtain ⟨l', _, h1⟩ := key l [] k (fun _ h => h) (by simp) hk hB
 exact ⟨l', loopO_of h1⟩
theorem loop_mark {mstep : (Int × Int × List α × Unit) -> Option (Lp (Int × Int × List α × Unit) (Int × List α))} {hstep : (List α × Int × Int × Unit) -> Option (Lp (List α × Int × Int × Unit) Int)} (d : α) (cnt : α -> Nat) (B : Int) (l : List α) (k : Int) (hk : 0 <= k) (hB : k + (((l.map cnt).sum : Nat) : Int) <= B)
  (hel : ∀ x ∈ l, ∀ k : Int, 0 <= k -> k + (cnt x : Int) <= B -> ∃ x',
   (∀ (i : Nat) (m : List α), i < m.length -> m.length = l.length -> m.getD i d = x -> mstep (k, (i : Int), m, ()) = some (.again (k + cnt x, ((i + 1 : Nat) : Int), m.set i x', ()))) /\
   (∀ (i : Nat) (m : List α), i < m.length -> m.length = l.length -> m.getD i d = x' -> hstep (m, k, (i : Int), ()) = some (.again (m, k + cnt x, ((i + 1 : Nat) : Int), ()))))
  (hm : ∀ (m : List α) (k : Int), mstep (k, ((m.length : Nat) : Int), m, ()) = some (.exit (k, ((m.length : Nat) : Int), m, ())))
  (hh : ∀ (m : List α) (k : Int), hstep (m, k, ((m.length : Nat) : Int), ()) = some (.exit (m, k, ((m.length : Nat) : Int), ()))) :
  ∃ l', loopO mstep (k, 0, l, ()) = some (.inl (k + ((l.map cnt).sum : Nat), ((l.length : Nat) : Int), l', ())) /\ loopO hstep (l', k, 0, ()) = some (.inl (l', k + ((l.map cnt).sum : Nat), ((l.length : Nat) : Int), ())) := by
 have key : ∀ (m p : List α) (k : Int), (∀ x ∈ m, x ∈ l) -> p.length + m.length = l.length -> 0 <= k -> k + (((m.map cnt).sum : Nat) : Int) <= B -> ∃ m', m'.length = m.length /\
   iterO mstep (m.length + 1) (k, ((p.length : Nat) : Int), p ++ m, ()) = some (.inl (k + ((m.map cnt).sum : Nat), ((l.length : Nat) : Int), p ++ m', ())) /\
   ∀ q : List α, q.length = p.length -> iterO hstep (m.length + 1) (q ++ m', k, ((p.length : Nat) : Int), ()) = some (.inl (q ++ m', k + ((m.map cnt).sum : Nat), ((l.length : Nat) : Int), ())) := by
  intro m
  induction m with
  | nil =>
   intro p k _ hp _ _
   have hp : p.length = l.length := by simpa using hp
   refine ⟨[], rfl, ?_, fun q hq => ?_⟩
   ·have := hm p k
    simp [iterO, hp]
    rw [hp] at this
    simp [this]
   ·have := hh q k
    rw [hq, hp] at this
    simp [iterO, hp, this]
  | cons x m ih =>
   intro p k hmem hp hk hB
   simp only [List.map_cons, List.sum_cons] at hB
   obtain ⟨x', h1, h2⟩ := hel x (hmem x (by simp)) k hk (by omega)
   obtain ⟨m', g0, g1, g2⟩ := ih (p ++ [x']) (k + cnt x) (fun y hy => hmem y (by simp [hy])) (by simp at hp ⊢; omega) (by omega) (by omega)
   refine ⟨x' :: m', by simp [g0], ?_, fun q hq => ?_⟩
   ·rw [iterO, h1 p.length (p ++ x :: m) (by simp) (by simp at hp ⊢; omega) getD_mid, set_mid]
    simp only
    rw [show p ++ x' :: m = (p ++ [x']) ++ m by simp, show p ++ x' :: m' = (p ++ [x']) ++ m' by simp, List.length_cons]
    rw [List.length_append] at g1
    refine g1.trans ?_
    simp only [List.map_cons, List.sum_cons]
    congr 3; omega
   ·rw [iterO, show ((p.length : Nat) : Int) = ((q.length : Nat) : Int) by rw [hq], h2 q.length (q ++ x' :: m') (by simp) (by simp at hp ⊢; omega) getD_mid]
    simp only
    have := g2 (q ++ [x']) (by simp [hq])
    rw [List.length_append] at this
    rw [mid_app, List.length_cons, hq]
    refine this.trans ?_
    simp only [List.map_cons, List.sum_cons]
    congr 4; omega
 obtain ⟨l', _, h1, h2⟩ := key l [] k (fun _ h => h) (by simp) hk hB
 exact ⟨l', loopO_of h1, loopO_of (h2 [] rfl)⟩
end
def inR (lo hi x : Int) : Bool := decide (x >= lo) && decide (x <= hi)
theorem l1In_eq (x lo hi : Int) : F.spec_l1In x lo hi = some (inR lo hi x) := by
 unfold F.spec_l1In inR
 cases decide (x >= lo) <;> rfl
theorem within_eq (x lo hi : Int) : F.impl_within x lo hi = some (inR lo hi x) := by
 unfold F.impl_within inR
 cases decide (x >= lo) <;> rfl
theorem inR_iff {lo hi x : Int} : inR lo hi x = true ↔ lo <= x /\ x <= hi := by simp [inR]
open Classical in
noncomputable def decB (p : Prop) : Bool := decide p
theorem decB_iff {p : Prop} : decB p = true ↔ p := by simp [decB]
theorem decB_pos {p : Prop} (h : p) : decB p = true := decB_iff.2 h
theorem decB_neg {p : Prop} (h : ¬ p) : decB p = false := by simp [decB, h]
theorem decB_eq {p : Prop} {b : Bool} (h : b = true ↔ p) : b = decB p := by
 rw [Bool.eq_iff_iff, h, decB_iff]
theorem loop_allN {X A : Type} {step : X -> Option (Lp X A)} (n : Nat) (mk : Nat -> X) (c : Nat -> Bool) (a : A)
  (h : ∀ i, i < n -> (∀ j, j < i -> c j = true) -> step (mk i) = some (bif c i then .again (mk (i + 1)) else .ret a))
  (he : step (mk n) = some (.exit (mk n))) :
  loopO step (mk 0) = some (bif (List.range n).all c then .inl (mk n) else .inr a) := by
 obtain ⟨h1, _⟩ := loop_n (step := step) n (fun i (_ : Unit) => mk i) (fun i _ => bif c i then .inl () else .inr a) (fun i _ => ∀ j, j < i -> c j = true) (fun i s hi hp => by
  refine ⟨?_, fun s' e j hj => ?_⟩
  ·rw [h i hi hp]; cases c i <;> rfl
  ·by_cases hji : j = i
   ·subst hji
    cases hc : c j with
    | true => rfl
    | false => rw [hc] at e; cases e
   ·exact hp j (by omega)) (fun _ _ => he) (s := ()) (fun j hj => by omega)
 rw [h1]
 have key : ∀ k i, Sum.map (fun (_ : Unit) => mk n) id (runN (fun i _ => bif c i then (.inl () : Unit ⊕ A) else .inr a) k i ()) = bif (List.range' i k).all c then .inl (mk n) else .inr a := by
  intro k
  induction k with
  | zero => intro i; rfl
  | succ k ih =>
   intro i
   simp only [runN, List.range'_succ, List.all_cons]
   cases c i with
   | false => rfl
   | true => exact ih (i + 1)
 rw [key n 0, List.range_eq_range']
theorem range_all {n : Nat} {c : Nat -> Bool} : (List.range n).all c = true ↔ ∀ i, i < n -> c i = true := by
 rw [List.all_eq_true]
 exact ⟨fun h i hi => h i (List.mem_range.2 hi), fun h i hi => h i (List.mem_range.1 hi)⟩
theorem sum_mem {α : Type} {f : α -> Nat} {l : List α} {x : α} (h : x ∈ l) : f x <= (l.map f).sum := by
 induction l with
 | nil => cases h
 | cons y l ih =>
  simp only [List.map_cons, List.sum_cons]
  rcases List.mem_cons.1 h with rfl | h
  ·omega
  ·have := ih h; omega
theorem sum_le {α : Type} {f g : α -> Nat} {n : Nat} : ∀ {l : List α}, (∀ x ∈ l, f x <= n + 10 * g x) -> (l.map f).sum <= n * l.length + 10 * (l.map g).sum
 | [], _ => by simp
 | x :: l, h => by
  have h1 := h x (by simp)
  have h2 := sum_le (l := l) (fun y hy => h y (by simp [hy]))
  simp only [List.map_cons, List.sum_cons, List.length_cons, Nat.mul_add]
  omega
def zIntS (l : List Int) : Nat := l.length
def fIntS (l : List Int) : Prop := l.length <= maxLen
theorem toIntS (l : List Int) (h : zIntS l <= 1048576) : F.laws_toIntS l = some l := by
 have hl : l.length <= 1048576 := by unfold zIntS at h; omega
 unfold F.laws_toIntS
 rw [mk_ok (by omega), chk_true, show Int.toNat (len l) = l.length from Int.toNat_natCast _]
 have hh := loop_to (step := F.laws_toIntS.s3) l 0 (fun i m hi hm => by
  unfold F.laws_toIntS.s3
  simp only
  rw [lt_len hi, inb_nat hi, inb_nat hm, Int.toNat_natCast, w64_nat (by omega), getD_at hi]
  simp only [cond_true, chk_true]) (fun m => by
  unfold F.laws_toIntS.s3
  simp only [ge_len, cond_false])
 simp only [hh, afterO]
theorem eqIntS (l : List Int) (h : zIntS l <= 1099511627776) : F.laws_eqIntS l l = some true := by
 have hl : l.length <= 1099511627776 := by unfold zIntS at h; omega
 unfold F.laws_eqIntS
 rw [show (len l != len l) = false by simp]
 have hh := loop_eq (step := F.laws_eqIntS.s4) l (fun i hi => by
  unfold F.laws_eqIntS.s4
  simp only
  rw [lt_len hi, inb_nat hi, Int.toNat_natCast, w64_nat (by omega), bne_self_eq_false]
  simp only [cond_true, cond_false, chk_true]) (by
  unfold F.laws_eqIntS.s4
  simp only [ge_len, cond_false])
 simp only [cond_false, hh, afterO]
theorem szIntS (l : List Int) (n : Int) (hf : fIntS l) (h0 : 0 <= n) (h1 : n <= 1048576) : F.laws_szIntS l n = some (if (zIntS l : Int) <= n then n - (zIntS l : Int) else -1) := by
 have hf' : l.length <= 9223372036854775807 := hf
 have hz : zIntS l = l.length := rfl
 unfold F.laws_szIntS
 rw [show len l = (l.length : Int) from rfl, w64_id (by omega) (by omega), hz]
 by_cases hle : (l.length : Int) <= n
 ·rw [if_pos hle, show decide (n - (l.length : Int) < 0) = false from decide_eq_false (by omega)]; rfl
 ·rw [if_neg hle, show decide (n - (l.length : Int) < 0) = true from decide_eq_true (by omega)]; rfl
def zConf (a : DConf) : Nat := zIntS a.2.2.2.1
def fConf (a : DConf) : Prop := fIntS a.2.2.2.1
theorem toConf (a : DConf) (h : zConf a <= 1048576) : F.laws_toConf a = some a := by
 unfold F.laws_toConf
 simp only [toIntS a.2.2.2.1 (by unfold zConf at h; omega), Option.bind_some]
theorem eqConf (a : DConf) (h : zConf a <= 1099511627776) : F.laws_eqConf a a = some true := by
 unfold F.laws_eqConf
 simp only [bne_self_eq_false, cond_false, Bool.not_true, Option.bind_some, eqIntS a.2.2.2.1 (by unfold zConf at h; omega)]
theorem szConf (a : DConf) (n : Int) (hf : fConf a) (h0 : 0 <= n) (h1 : n <= 1048576) : F.laws_szConf a n = some (if (zConf a : Int) <= n then n - (zConf a : Int) else -1) := by
 have hz : zConf a = zIntS a.2.2.2.1 := rfl
 unfold F.laws_szConf
 unfold fConf at hf
 rw [szIntS a.2.2.2.1 n hf h0 h1]
 by_cases c0 : (zIntS a.2.2.2.1 : Int) <= n
 case neg => rw [if_neg c0, if_neg (by omega)]; rfl
 rw [if_pos c0]
 simp only [Option.bind_some]
 rw [show decide (n - (zIntS a.2.2.2.1 : Int) < 0) = false from decide_eq_false (by omega)]
 simp only [cond_false]
 rw [if_pos (by omega)]
 first | rfl | (congr 1; omega)
def zIntSS (l : List (List Int)) : Nat := l.length + (l.map zIntS).sum
def fIntSS (l : List (List Int)) : Prop := l.length <= maxLen /\ ∀ x ∈ l, fIntS x
theorem toIntSS (l : List (List Int)) (h : zIntSS l <= 1048576) : F.laws_toIntSS l = some l := by
 have hl : l.length <= 1048576 := by unfold zIntSS at h; omega
 have hel : ∀ x ∈ l, zIntS x <= 1048576 := fun x hm => (Nat.le_trans (sum_mem hm) (by unfold zIntSS at h; omega))
 unfold F.laws_toIntSS
 rw [mk_ok (by omega), chk_true, show Int.toNat (len l) = l.length from Int.toNat_natCast _]
 have hh := loop_to (step := F.laws_toIntSS.s3) l ([] : List Int) (fun i m hi hm => by
  unfold F.laws_toIntSS.s3
  simp only
  rw [lt_len hi, inb_nat hi, inb_nat hm, Int.toNat_natCast, w64_nat (by omega), getD_at hi]
  simp only [cond_true, chk_true, Option.bind_some, toIntS l[i] (hel l[i] (List.getElem_mem hi))]) (fun m => by
  unfold F.laws_toIntSS.s3
  simp only [ge_len, cond_false])
 simp only [hh, afterO]
theorem eqIntSS (l : List (List Int)) (h : zIntSS l <= 1099511627776) : F.laws_eqIntSS l l = some true := by
 have hl : l.length <= 1099511627776 := by unfold zIntSS at h; omega
 have hel : ∀ x ∈ l, zIntS x <= 1099511627776 := fun x hm => (Nat.le_trans (sum_mem hm) (by unfold zIntSS at h; omega))
 unfold F.laws_eqIntSS
 rw [show (len l != len l) = false by simp]
 have hh := loop_eq (step := F.laws_eqIntSS.s4) l (fun i hi => by
  unfold F.laws_eqIntSS.s4
  simp only
  rw [lt_len hi, inb_nat hi, Int.toNat_natCast, w64_nat (by omega), getD_at hi]
  simp only [cond_true, cond_false, chk_true, Option.bind_some, Bool.not_true, eqIntS l[i] (hel l[i] (List.getElem_mem hi))]) (by
  unfold F.laws_eqIntSS.s4
  simp only [ge_len, cond_false])
 simp only [cond_false, hh, afterO]
theorem szIntSS (l : List (List Int)) (n : Int) (hf : fIntSS l) (h0 : 0 <= n) (h1 : n <= 1048576) : F.laws_szIntSS l n = some (if (zIntSS l : Int) <= n then n - (zIntSS l : Int) else -1) := by
 obtain ⟨hf', hfe⟩ := hf
 have hf' : l.length <= 9223372036854775807 := hf'
 have hz : zIntSS l = l.length + (l.map zIntS).sum := rfl
 unfold F.laws_szIntSS
 rw [show len l = (l.length : Int) from rfl, w64_id (by omega) (by omega), hz]
 by_cases hle : (l.length : Int) <= n
 ·rw [show decide (n - (l.length : Int) < 0) = false from decide_eq_false (by omega)]
  have hh := loop_sz (step := F.laws_szIntSS.s5) zIntS l (n - (l.length : Int)) (by omega) (fun i k hi hk hkn => by
   unfold F.laws_szIntSS.s5
   simp only
   rw [lt_len hi, inb_nat hi, Int.toNat_natCast, w64_nat (by omega), getD_at hi]
   simp only [cond_true, chk_true, szIntS l[i] k (hfe _ (List.getElem_mem hi)) hk (by omega), Option.bind_some]
   by_cases hx : (zIntS l[i] : Int) <= k
   ·rw [if_pos hx, if_pos hx, show decide (k - (zIntS l[i] : Int) < 0) = false from decide_eq_false (by omega)]; rfl
   ·rw [if_neg hx, if_neg hx]; rfl) (fun k => by
   unfold F.laws_szIntSS.s5
   simp only [ge_len, cond_false])
  simp only [cond_false, hh]
  by_cases hs : (((l.map zIntS).sum : Nat) : Int) <= n - (l.length : Int)
  ·rw [if_pos hs, if_pos (by omega)]
   simp only [afterO]
   congr 1; omega
  ·rw [if_neg hs, if_neg (by omega)]; rfl
 ·rw [if_neg (by omega), show decide (n - (l.length : Int) < 0) = true from decide_eq_true (by omega)]; rfl
def zSketch (a : DSketch) : Nat := zIntS a.2.2.2.2.1 + zIntS a.2.2.2.2.2.1 + zIntSS a.2.2.2.2.2.2.1
def fSketch (a : DSketch) : Prop := fIntS a.2.2.2.2.1 /\ fIntS a.2.2.2.2.2.1 /\ fIntSS a.2.2.2.2.2.2.1
theorem toSketch (a : DSketch) (h : zSketch a <= 1048576) : F.laws_toSketch a = some a := by
 unfold F.laws_toSketch
 simp only [toIntS a.2.2.2.2.1 (by unfold zSketch at h; omega), toIntS a.2.2.2.2.2.1 (by unfold zSketch at h; omega), toIntSS a.2.2.2.2.2.2.1 (by unfold zSketch at h; omega), Option.bind_some]
theorem eqSketch (a : DSketch) (h : zSketch a <= 1099511627776) : F.laws_eqSketch a a = some true := by
 unfold F.laws_eqSketch
 simp only [bne_self_eq_false, cond_false, Bool.not_true, Option.bind_some, eqIntS a.2.2.2.2.1 (by unfold zSketch at h; omega), eqIntS a.2.2.2.2.2.1 (by unfold zSketch at h; omega), eqIntSS a.2.2.2.2.2.2.1 (by unfold zSketch at h; omega)]
theorem szSketch (a : DSketch) (n : Int) (hf : fSketch a) (h0 : 0 <= n) (h1 : n <= 1048576) : F.laws_szSketch a n = some (if (zSketch a : Int) <= n then n - (zSketch a : Int) else -1) := by
 have hz : zSketch a = zIntS a.2.2.2.2.1 + zIntS a.2.2.2.2.2.1 + zIntSS a.2.2.2.2.2.2.1 := rfl
 unfold F.laws_szSketch
 unfold fSketch at hf
 rw [szIntS a.2.2.2.2.1 n hf.1 h0 h1]
 by_cases c0 : (zIntS a.2.2.2.2.1 : Int) <= n
 case neg => rw [if_neg c0, if_neg (by omega)]; rfl
 rw [if_pos c0]
 simp only [Option.bind_some]
 rw [show decide (n - (zIntS a.2.2.2.2.1 : Int) < 0) = false from decide_eq_false (by omega)]
 simp only [cond_false]
 rw [szIntS a.2.2.2.2.2.1 (n - (zIntS a.2.2.2.2.1 : Int)) hf.2.1 (by omega) (by omega)]
 by_cases c1 : (zIntS a.2.2.2.2.2.1 : Int) <= n - (zIntS a.2.2.2.2.1 : Int)
 case neg => rw [if_neg c1, if_neg (by omega)]; rfl
 rw [if_pos c1]
 simp only [Option.bind_some]
 rw [show decide (n - (zIntS a.2.2.2.2.1 : Int) - (zIntS a.2.2.2.2.2.1 : Int) < 0) = false from decide_eq_false (by omega)]
 simp only [cond_false]
 rw [szIntSS a.2.2.2.2.2.2.1 (n - (zIntS a.2.2.2.2.1 : Int) - (zIntS a.2.2.2.2.2.1 : Int)) hf.2.2 (by omega) (by omega)]
 by_cases c2 : (zIntSS a.2.2.2.2.2.2.1 : Int) <= n - (zIntS a.2.2.2.2.1 : Int) - (zIntS a.2.2.2.2.2.1 : Int)
 case neg => rw [if_neg c2, if_neg (by omega)]; rfl
 rw [if_pos c2]
 simp only [Option.bind_some]
 rw [show decide (n - (zIntS a.2.2.2.2.1 : Int) - (zIntS a.2.2.2.2.2.1 : Int) - (zIntSS a.2.2.2.2.2.2.1 : Int) < 0) = false from decide_eq_false (by omega)]
 simp only [cond_false]
 rw [if_pos (by omega)]
 first | rfl | (congr 1; omega)
def zItem (a : DItem) : Nat := zSketch a.2.2.2.2.1
def fItem (a : DItem) : Prop := fSketch a.2.2.2.2.1
def zItemS (l : List DItem) : Nat := l.length + (l.map zItem).sum
def fItemS (l : List DItem) : Prop := l.length <= maxLen /\ ∀ x ∈ l, fItem x
theorem toSpan (a : DSpan) : F.laws_toSpan a = some a := rfl
theorem eqSpan (a : DSpan) : F.laws_eqSpan a a = some true := by
 unfold F.laws_eqSpan
 simp only [bne_self_eq_false, cond_false]
def zSpanS (l : List DSpan) : Nat := l.length
def fSpanS (l : List DSpan) : Prop := l.length <= maxLen
theorem toSpanS (l : List DSpan) (h : zSpanS l <= 1048576) : F.laws_toSpanS l = some l := by
 have hl : l.length <= 1048576 := by unfold zSpanS at h; omega
 unfold F.laws_toSpanS
 rw [mk_ok (by omega), chk_true, show Int.toNat (len l) = l.length from Int.toNat_natCast _]
 have hh := loop_to (step := F.laws_toSpanS.s3) l (0, 0, ()) (fun i m hi hm => by
  unfold F.laws_toSpanS.s3
  simp only
  rw [lt_len hi, inb_nat hi, inb_nat hm, Int.toNat_natCast, w64_nat (by omega), getD_at hi]
  simp only [cond_true, chk_true, Option.bind_some, toSpan l[i]]) (fun m => by
  unfold F.laws_toSpanS.s3
  simp only [ge_len, cond_false])
 simp only [hh, afterO]
theorem eqSpanS (l : List DSpan) (h : zSpanS l <= 1099511627776) : F.laws_eqSpanS l l = some true := by
 have hl : l.length <= 1099511627776 := by unfold zSpanS at h; omega
 unfold F.laws_eqSpanS
 rw [show (len l != len l) = false by simp]
 have hh := loop_eq (step := F.laws_eqSpanS.s4) l (fun i hi => by
  unfold F.laws_eqSpanS.s4
  simp only
  rw [lt_len hi, inb_nat hi, Int.toNat_natCast, w64_nat (by omega), getD_at hi]
  simp only [cond_true, cond_false, chk_true, Option.bind_some, Bool.not_true, eqSpan l[i]]) (by
  unfold F.laws_eqSpanS.s4
  simp only [ge_len, cond_false])
 simp only [cond_false, hh, afterO]
theorem szSpanS (l : List DSpan) (n : Int) (hf : fSpanS l) (h0 : 0 <= n) (h1 : n <= 1048576) : F.laws_szSpanS l n = some (if (zSpanS l : Int) <= n then n - (zSpanS l : Int) else -1) := by
 have hf' : l.length <= 9223372036854775807 := hf
 have hz : zSpanS l = l.length := rfl
 unfold F.laws_szSpanS
 rw [show len l = (l.length : Int) from rfl, w64_id (by omega) (by omega), hz]
 by_cases hle : (l.length : Int) <= n
 ·rw [if_pos hle, show decide (n - (l.length : Int) < 0) = false from decide_eq_false (by omega)]; rfl
 ·rw [if_neg hle, show decide (n - (l.length : Int) < 0) = true from decide_eq_true (by omega)]; rfl
def zEntry (a : DEntry) : Nat := zSpanS a.2.2.1 + zSketch a.2.2.2.1
def fEntry (a : DEntry) : Prop := fSpanS a.2.2.1 /\ fSketch a.2.2.2.1
theorem toEntry (a : DEntry) (h : zEntry a <= 1048576) : F.laws_toEntry a = some a := by
 unfold F.laws_toEntry
 simp only [toSpanS a.2.2.1 (by unfold zEntry at h; omega), toSketch a.2.2.2.1 (by unfold zEntry at h; omega), Option.bind_some]
theorem eqEntry (a : DEntry) (h : zEntry a <= 1099511627776) : F.laws_eqEntry a a = some true := by
 unfold F.laws_eqEntry
 simp only [bne_self_eq_false, cond_false, Bool.not_true, Option.bind_some, eqSpanS a.2.2.1 (by unfold zEntry at h; omega), eqSketch a.2.2.2.1 (by unfold zEntry at h; omega)]
theorem szEntry (a : DEntry) (n : Int) (hf : fEntry a) (h0 : 0 <= n) (h1 : n <= 1048576) : F.laws_szEntry a n = some (if (zEntry a : Int) <= n then n - (zEntry a : Int) else -1) := by
 have hz : zEntry a = zSpanS a.2.2.1 + zSketch a.2.2.2.1 := rfl
 unfold F.laws_szEntry
 unfold fEntry at hf
 rw [szSpanS a.2.2.1 n hf.1 h0 h1]
 by_cases c0 : (zSpanS a.2.2.1 : Int) <= n
 case neg => rw [if_neg c0, if_neg (by omega)]; rfl
 rw [if_pos c0]
 simp only [Option.bind_some]
 rw [show decide (n - (zSpanS a.2.2.1 : Int) < 0) = false from decide_eq_false (by omega)]
 simp only [cond_false]
 rw [szSketch a.2.2.2.1 (n - (zSpanS a.2.2.1 : Int)) hf.2 (by omega) (by omega)]
 by_cases c1 : (zSketch a.2.2.2.1 : Int) <= n - (zSpanS a.2.2.1 : Int)
 case neg => rw [if_neg c1, if_neg (by omega)]; rfl
 rw [if_pos c1]
 simp only [Option.bind_some]
 rw [show decide (n - (zSpanS a.2.2.1 : Int) - (zSketch a.2.2.2.1 : Int) < 0) = false from decide_eq_false (by omega)]
 simp only [cond_false]
 rw [if_pos (by omega)]
 first | rfl | (congr 1; omega)
def zEntryS (l : List DEntry) : Nat := l.length + (l.map zEntry).sum
def fEntryS (l : List DEntry) : Prop := l.length <= maxLen /\ ∀ x ∈ l, fEntry x
theorem toEntryS (l : List DEntry) (h : zEntryS l <= 1048576) : F.laws_toEntryS l = some l := by
 have hl : l.length <= 1048576 := by unfold zEntryS at h; omega
 have hel : ∀ x ∈ l, zEntry x <= 1048576 := fun x hm => (Nat.le_trans (sum_mem hm) (by unfold zEntryS at h; omega))
 unfold F.laws_toEntryS
 rw [mk_ok (by omega), chk_true, show Int.toNat (len l) = l.length from Int.toNat_natCast _]
 have hh := loop_to (step := F.laws_toEntryS.s3) l (0, 0, ([] : List DSpan), (0, 0, 0, 0, ([] : List Int), ([] : List Int), ([] : List (List Int)), ()), ()) (fun i m hi hm => by
  unfold F.laws_toEntryS.s3
  simp only
  rw [lt_len hi, inb_nat hi, inb_nat hm, Int.toNat_natCast, w64_nat (by omega), getD_at hi]
  simp only [cond_true, chk_true, Option.bind_some, toEntry l[i] (hel l[i] (List.getElem_mem hi))]) (fun m => by
  unfold F.laws_toEntryS.s3
  simp only [ge_len, cond_false])
 simp only [hh, afterO]
theorem eqEntryS (l : List DEntry) (h : zEntryS l <= 1099511627776) : F.laws_eqEntryS l l = some true := by
 have hl : l.length <= 1099511627776 := by unfold zEntryS at h; omega
 have hel : ∀ x ∈ l, zEntry x <= 1099511627776 := fun x hm => (Nat.le_trans (sum_mem hm) (by unfold zEntryS at h; omega))
 unfold F.laws_eqEntryS
 rw [show (len l != len l) = false by simp]
 have hh := loop_eq (step := F.laws_eqEntryS.s4) l (fun i hi => by
  unfold F.laws_eqEntryS.s4
  simp only
  rw [lt_len hi, inb_nat hi, Int.toNat_natCast, w64_nat (by omega), getD_at hi]
  simp only [cond_true, cond_false, chk_true, Option.bind_some, Bool.not_true, eqEntry l[i] (hel l[i] (List.getElem_mem hi))]) (by
  unfold F.laws_eqEntryS.s4
  simp only [ge_len, cond_false])
 simp only [cond_false, hh, afterO]
theorem szEntryS (l : List DEntry) (n : Int) (hf : fEntryS l) (h0 : 0 <= n) (h1 : n <= 1048576) : F.laws_szEntryS l n = some (if (zEntryS l : Int) <= n then n - (zEntryS l : Int) else -1) := by
 obtain ⟨hf', hfe⟩ := hf
 have hf' : l.length <= 9223372036854775807 := hf'
 have hz : zEntryS l = l.length + (l.map zEntry).sum := rfl
 unfold F.laws_szEntryS
 rw [show len l = (l.length : Int) from rfl, w64_id (by omega) (by omega), hz]
 by_cases hle : (l.length : Int) <= n
 ·rw [show decide (n - (l.length : Int) < 0) = false from decide_eq_false (by omega)]
  have hh := loop_sz (step := F.laws_szEntryS.s5) zEntry l (n - (l.length : Int)) (by omega) (fun i k hi hk hkn => by
   unfold F.laws_szEntryS.s5
   simp only
   rw [lt_len hi, inb_nat hi, Int.toNat_natCast, w64_nat (by omega), getD_at hi]
   simp only [cond_true, chk_true, szEntry l[i] k (hfe _ (List.getElem_mem hi)) hk (by omega), Option.bind_some]
   by_cases hx : (zEntry l[i] : Int) <= k
   ·rw [if_pos hx, if_pos hx, show decide (k - (zEntry l[i] : Int) < 0) = false from decide_eq_false (by omega)]; rfl
   ·rw [if_neg hx, if_neg hx]; rfl) (fun k => by
   unfold F.laws_szEntryS.s5
   simp only [ge_len, cond_false])
  simp only [cond_false, hh]
  by_cases hs : (((l.map zEntry).sum : Nat) : Int) <= n - (l.length : Int)
  ·rw [if_pos hs, if_pos (by omega)]
   simp only [afterO]
   congr 1; omega
  ·rw [if_neg hs, if_neg (by omega)]; rfl
 ·rw [if_neg (by omega), show decide (n - (l.length : Int) < 0) = true from decide_eq_true (by omega)]; rfl
abbrev Sp := Int × Int × Unit
def okAt (a : List Sp) (i : Nat) (h : i < a.length) : Prop := inR 0 9999 a[i].1 = true /\ inR a[i].1 9999 a[i].2.1 = true /\ ∀ h0 : 0 < i, ¬ (a[i].1 <= (a[i - 1]'(by omega)).2.1 + 1)
def Good (a : List Sp) : Prop := ∀ (i : Nat) (h : i < a.length), okAt a i h
theorem specSet_ok (a : List Sp) (h : a.length <= 1048576) : (F.spec_SetOk a = some true /\ Good a) \/ (F.spec_SetOk a = some false /\ ¬ Good a) := by
 unfold F.spec_SetOk
 obtain ⟨y, h1, h2⟩ := loopO_rule (step := F.spec_SetOk.s2) (fun x => x.1 = a /\ 0 <= x.2.1 /\ x.2.1 <= a.length /\ ∀ (i : Nat) (hi : i < a.length), (i : Int) < x.2.1 -> okAt a i hi) (fun y => (∃ i, y = .inl i /\ Good a) \/ (y = .inr false /\ ¬ Good a))
  (fun x => a.length - x.2.1.toNat) (fun x hx => by
   obtain ⟨x1, x2, u⟩ := x
   obtain ⟨rfl, g1, g2, g3⟩ := hx
   simp only at g1 g2 g3
   have h : x1.length <= 1048576 := h
   unfold F.spec_SetOk.s2
   simp only
   by_cases hlt : x2 < (x1.length : Int)
   ·have hin : x2.toNat < x1.length := by omega
    have again : okAt x1 x2.toNat hin -> (x1 = x1 /\ 0 <= w64 (x2 + 1) /\ w64 (x2 + 1) <= x1.length /\ ∀ (i : Nat) (hi : i < x1.length), (i : Int) < w64 (x2 + 1) -> okAt x1 i hi) /\ x1.length - (w64 (x2 + 1)).toNat < x1.length - x2.toNat := by
     intro hok
     refine ⟨⟨rfl, ?_, ?_, ?_⟩, ?_⟩
     all_goals rw [w64_id (by omega) (by omega)]
     ·omega
     ·omega
     ·intro i hi hlt'
      by_cases e : i = x2.toNat
      ·subst e; exact hok
      ·exact g3 i hi (by omega)
     ·omega
    rw [show decide (x2 < len x1) = true from decide_eq_true hlt, inb_of g1 hlt, l1In_eq, l1In_eq, getD_at hin]
    simp only [chk_true, cond_true, Option.bind_some]
    cases hr : inR 0 9999 x1[x2.toNat].1 with
    | false => exact ⟨.ret false, rfl, .inr ⟨rfl, fun hg => by have := (hg _ hin).1; rw [hr] at this; cases this⟩⟩
    | true =>
     simp only [Bool.not_true, cond_false]
     cases hr2 : inR x1[x2.toNat].1 9999 x1[x2.toNat].2.1 with
     | false => exact ⟨.ret false, rfl, .inr ⟨rfl, fun hg => by have := (hg _ hin).2.1; rw [hr2] at this; cases this⟩⟩
     | true =>
      simp only [Bool.not_true, cond_false]
      by_cases hp : x2 > 0
      ·have hin2 : x2.toNat - 1 < x1.length := by omega
       have hb := (g3 (x2.toNat - 1) hin2 (by omega))
       have hb1 := inR_iff.1 hb.1
       have hb2 := inR_iff.1 hb.2.1
       rw [show decide (x2 > 0) = true from decide_eq_true hp, w64_id (x := x2 - 1) (by omega) (by omega), inb_of (i := x2 - 1) (by omega) (by omega), show (x2 - 1).toNat = x2.toNat - 1 by omega, getD_at hin2, w64_id (x := x1[x2.toNat - 1].2.1 + 1) (by omega) (by omega)]
       simp only [chk_true, cond_true]
       by_cases hle : x1[x2.toNat].1 <= x1[x2.toNat - 1].2.1 + 1
       ·rw [show decide (x1[x2.toNat].1 <= x1[x2.toNat - 1].2.1 + 1) = true from decide_eq_true hle]
        exact ⟨.ret false, rfl, .inr ⟨rfl, fun hg => (hg _ hin).2.2 (by omega) hle⟩⟩
       ·rw [show decide (x1[x2.toNat].1 <= x1[x2.toNat - 1].2.1 + 1) = false from decide_eq_false hle]
        exact ⟨.again (x1, w64 (x2 + 1), ()), rfl, again ⟨hr, hr2, fun _ => hle⟩⟩
      ·rw [show decide (x2 > 0) = false from decide_eq_false hp]
       exact ⟨.again (x1, w64 (x2 + 1), ()), rfl, again ⟨hr, hr2, fun h0 => by omega⟩⟩
   ·refine ⟨.exit (x1, x2, ()), ?_, .inl ⟨_, rfl, fun i hi => g3 i hi (by omega)⟩⟩
    rw [show decide (x2 < len x1) = false from decide_eq_false hlt]; rfl) (x := (a, 0, ())) ⟨rfl, Int.le_refl 0, by simp, fun i hi h => by
     have h : (i : Int) < 0 := h
     omega⟩
 rw [h1]
 rcases h2 with ⟨i, rfl, hg⟩ | ⟨rfl, hg⟩
 ·exact .inl ⟨rfl, hg⟩
 ·exact .inr ⟨rfl, hg⟩
theorem implSet_ok (a : List Sp) (h : a.length <= 1048576) : (F.impl_SetOk a = some true /\ Good a) \/ (F.impl_SetOk a = some false /\ ¬ Good a) := by
 unfold F.impl_SetOk
 obtain ⟨y, h1, h2⟩ := loopO_rule (step := F.impl_SetOk.s2) (fun x => x.1 = a /\ x.2.1 = a /\ x.2.2.1 = len a /\ 0 <= x.2.2.2.1 /\ x.2.2.2.1 <= a.length /\ ∀ (i : Nat) (hi : i < a.length), (i : Int) < x.2.2.2.1 -> okAt a i hi) (fun y => (∃ i, y = .inl i /\ Good a) \/ (y = .inr false /\ ¬ Good a))
  (fun x => a.length - x.2.2.2.1.toNat) (fun x hx => by
   obtain ⟨x1, xa, xl, x2, u⟩ := x
   obtain ⟨rfl, ea, el, g1, g2, g3⟩ := hx
   simp only at g1 g2 g3 ea el
   subst ea; subst el
   have h : xa.length <= 1048576 := h
   unfold F.impl_SetOk.s2
   simp only
   by_cases hlt : x2 < (xa.length : Int)
   ·have hin : x2.toNat < xa.length := by omega
    have again : okAt xa x2.toNat hin -> (xa = xa /\ xa = xa /\ len xa = len xa /\ 0 <= w64 (x2 + 1) /\ w64 (x2 + 1) <= xa.length /\ ∀ (i : Nat) (hi : i < xa.length), (i : Int) < w64 (x2 + 1) -> okAt xa i hi) /\ xa.length - (w64 (x2 + 1)).toNat < xa.length - x2.toNat := by
     intro hok
     refine ⟨⟨rfl, rfl, rfl, ?_, ?_, ?_⟩, ?_⟩
     all_goals rw [w64_id (by omega) (by omega)]
     ·omega
     ·omega
     ·intro i hi hlt'
      by_cases e : i = x2.toNat
      ·subst e; exact hok
      ·exact g3 i hi (by omega)
     ·omega
    rw [show decide (x2 < len xa) = true from decide_eq_true hlt, inb_of g1 hlt, within_eq, within_eq, getD_at hin]
    simp only [chk_true, cond_true, Option.bind_some]
    cases hr : inR 0 9999 xa[x2.toNat].1 with
    | false => exact ⟨.ret false, rfl, .inr ⟨rfl, fun hg => by have := (hg _ hin).1; rw [hr] at this; cases this⟩⟩
    | true =>
     simp only [Bool.not_true, cond_false]
     cases hr2 : inR xa[x2.toNat].1 9999 xa[x2.toNat].2.1 with
     | false => exact ⟨.ret false, rfl, .inr ⟨rfl, fun hg => by have := (hg _ hin).2.1; rw [hr2] at this; cases this⟩⟩
     | true =>
      simp only [Bool.not_true, cond_false]
      by_cases hp : x2 > 0
      ·have hin2 : x2.toNat - 1 < xa.length := by omega
       have hb := (g3 (x2.toNat - 1) hin2 (by omega))
       have hb1 := inR_iff.1 hb.1
       have hb2 := inR_iff.1 hb.2.1
       rw [show decide (x2 > 0) = true from decide_eq_true hp, w64_id (x := x2 - 1) (by omega) (by omega), inb_of (i := x2 - 1) (by omega) (by omega), show (x2 - 1).toNat = x2.toNat - 1 by omega, getD_at hin2, w64_id (x := xa[x2.toNat - 1].2.1 + 1) (by omega) (by omega)]
       simp only [chk_true, cond_true]
       by_cases hle : xa[x2.toNat].1 <= xa[x2.toNat - 1].2.1 + 1
       ·rw [show decide (xa[x2.toNat].1 <= xa[x2.toNat - 1].2.1 + 1) = true from decide_eq_true hle]
        exact ⟨.ret false, rfl, .inr ⟨rfl, fun hg => (hg _ hin).2.2 (by omega) hle⟩⟩
       ·rw [show decide (xa[x2.toNat].1 <= xa[x2.toNat - 1].2.1 + 1) = false from decide_eq_false hle]
        exact ⟨.again (xa, xa, len xa, w64 (x2 + 1), ()), rfl, again ⟨hr, hr2, fun _ => hle⟩⟩
      ·rw [show decide (x2 > 0) = false from decide_eq_false hp]
       exact ⟨.again (xa, xa, len xa, w64 (x2 + 1), ()), rfl, again ⟨hr, hr2, fun h0 => by omega⟩⟩
   ·refine ⟨.exit (xa, xa, len xa, x2, ()), ?_, .inl ⟨_, rfl, fun i hi => g3 i hi (by omega)⟩⟩
    rw [show decide (x2 < len xa) = false from decide_eq_false hlt]; rfl) (x := (a, a, len a, 0, ())) ⟨rfl, rfl, rfl, Int.le_refl 0, by simp, fun i hi h => by
     have h : (i : Int) < 0 := h
     omega⟩
 rw [h1]
 rcases h2 with ⟨i, rfl, hg⟩ | ⟨rfl, hg⟩
 ·exact .inl ⟨rfl, hg⟩
 ·exact .inr ⟨rfl, hg⟩
theorem good_up {a : List Sp} (hg : Good a) : ∀ (k i : Nat) (hi : i + k < a.length), (a[i]'(by omega)).1 <= (a[i + k]).1 /\ (a[i]'(by omega)).2.1 <= (a[i + k]).2.1
 | 0, i, hi => ⟨Int.le_refl _, Int.le_refl _⟩
 | k + 1, i, hi => by
  obtain ⟨g1, g2⟩ := good_up hg k i (by omega)
  have h1 := hg (i + k) (by omega)
  have h2 := hg (i + (k + 1)) hi
  have h3 := inR_iff.1 h1.2.1
  have h4 := inR_iff.1 h2.2.1
  have h5 := h2.2.2 (by omega)
  have e : (a[i + (k + 1) - 1]'(by omega)) = a[i + k] := by congr 1
  rw [e] at h5
  exact ⟨by omega, by omega⟩
def Within (a : List Sp) (n : Int) : Prop := ∀ (i : Nat) (h : i < a.length), 1 <= a[i].1 /\ a[i].2.1 <= n
theorem below_loop (a : List Sp) (n : Int) (h : a.length <= 1048576) : ∃ y, loopO F.spec_l8Below.s4 (a, n, 0, ()) = some y /\ ((∃ i, y = .inl i /\ Within a n) \/ (y = .inr false /\ ¬ Within a n)) :=
 loopO_rule (step := F.spec_l8Below.s4) (fun x => x.1 = a /\ x.2.1 = n /\ 0 <= x.2.2.1 /\ x.2.2.1 <= a.length /\ ∀ (i : Nat) (hi : i < a.length), (i : Int) < x.2.2.1 -> 1 <= a[i].1 /\ a[i].2.1 <= n) (fun y => (∃ i, y = .inl i /\ Within a n) \/ (y = .inr false /\ ¬ Within a n))
  (fun x => a.length - x.2.2.1.toNat) (fun x hx => by
   obtain ⟨x1, x3, x2, u⟩ := x
   obtain ⟨rfl, e3, g1, g2, g3⟩ := hx
   simp only at g1 g2 g3 e3
   subst e3
   have h : x1.length <= 1048576 := h
   unfold F.spec_l8Below.s4
   simp only
   by_cases hlt : x2 < (x1.length : Int)
   ·have hin : x2.toNat < x1.length := by omega
    rw [show decide (x2 < len x1) = true from decide_eq_true hlt, inb_of g1 hlt, getD_at hin]
    simp only [chk_true, cond_true]
    by_cases ha : x1[x2.toNat].1 < 1
    ·rw [show decide (x1[x2.toNat].1 < 1) = true from decide_eq_true ha]
     exact ⟨.ret false, rfl, .inr ⟨rfl, fun hg => by have := (hg _ hin).1; omega⟩⟩
    ·rw [show decide (x1[x2.toNat].1 < 1) = false from decide_eq_false ha]
     simp only [cond_false]
     by_cases hb : x1[x2.toNat].2.1 > x3
     ·rw [show decide (x1[x2.toNat].2.1 > x3) = true from decide_eq_true hb]
      exact ⟨.ret false, rfl, .inr ⟨rfl, fun hg => by have := (hg _ hin).2; omega⟩⟩
     ·rw [show decide (x1[x2.toNat].2.1 > x3) = false from decide_eq_false hb]
      refine ⟨.again (x1, x3, w64 (x2 + 1), ()), rfl, ⟨rfl, rfl, ?_, ?_, ?_⟩, ?_⟩
      all_goals simp only
      all_goals rw [w64_id (by omega) (by omega)]
      ·omega
      ·omega
      ·intro i hi hlt'
       by_cases e : i = x2.toNat
       ·subst e; exact ⟨by omega, by omega⟩
       ·exact g3 i hi (by omega)
      ·omega
   ·refine ⟨.exit (x1, x3, x2, ()), ?_, .inl ⟨_, rfl, fun i hi => g3 i hi (by omega)⟩⟩
    rw [show decide (x2 < len x1) = false from decide_eq_false hlt]; rfl) (x := (a, n, 0, ())) ⟨rfl, rfl, Int.le_refl 0, by simp, fun i hi h => by
     have h : (i : Int) < 0 := h
     omega⟩
theorem below_same (a : List Sp) (n : Int) (h : a.length <= 1048576) : (F.spec_l8Below a n = some true /\ F.impl_allIn a 1 n = some true /\ Good a) \/ (F.spec_l8Below a n = some false /\ F.impl_allIn a 1 n = some false) := by
 unfold F.spec_l8Below F.impl_allIn
 rcases specSet_ok a h with ⟨e1, hg⟩ | ⟨e1, hg⟩ <;> rcases implSet_ok a h with ⟨e2, hg2⟩ | ⟨e2, hg2⟩
 ·rw [e1, e2]
  obtain ⟨y, h1, h2⟩ := below_loop a n h
  simp only [Option.bind_some, Bool.not_true, cond_false, cond_true, h1]
  cases a with
  | nil =>
   rcases h2 with ⟨i, rfl, hw⟩ | ⟨rfl, hw⟩
   ·exact .inl ⟨rfl, rfl, hg⟩
   ·exact absurd (fun i hi => by cases hi) hw
  | cons s l =>
   have hn : (len (s :: l) == 0) = false := by simp [len]; omega
   rw [hn]
   have hlast : (w64 (len (s :: l) - 1)).toNat = l.length := by
    rw [w64_id (by simp only [len, List.length_cons]; omega) (by simp only [len, List.length_cons] at h ⊢; omega)]
    simp [len]
   have hin1 : inb 0 (s :: l).length = true := inb_of (by omega) (by simp only [List.length_cons]; omega)
   have hin2 : inb (w64 (len (s :: l) - 1)) (s :: l).length = true := by
    rw [w64_id (by simp only [len, List.length_cons]; omega) (by simp only [len, List.length_cons] at h ⊢; omega)]
    exact inb_of (by simp only [len, List.length_cons]; omega) (by simp only [len, List.length_cons]; omega)
   rw [hin1, hin2, hlast, getD_at (l := s :: l) (i := 0) (by simp), getD_at (l := s :: l) (i := l.length) (by simp)]
   simp only [chk_true, cond_false]
   have key : ((s :: l)[0].1 >= 1 /\ ((s :: l)[l.length]'(by simp)).2.1 <= n) ↔ Within (s :: l) n := by
    constructor
    ·rintro ⟨k1, k2⟩ i hi
     have u1 := (good_up hg i 0 (by simpa using hi)).1
     have u2 := (good_up hg (l.length - i) i (by simp at hi ⊢; omega)).2
     have e3 : i + (l.length - i) = l.length := by simp at hi; omega
     simp only [Nat.zero_add, e3] at u1 u2
     exact ⟨by omega, by omega⟩
    ·intro hw
     exact ⟨(hw 0 (by simp)).1, (hw l.length (by simp)).2⟩
   rcases h2 with ⟨i, rfl, hw⟩ | ⟨rfl, hw⟩
   ·obtain ⟨k1, k2⟩ := key.2 hw
    refine .inl ⟨rfl, ?_, hg⟩
    rw [show decide ((s :: l)[0].1 >= 1) = true from decide_eq_true k1, show decide (((s :: l)[l.length]'(by simp)).2.1 <= n) = true from decide_eq_true k2]; rfl
   ·refine .inr ⟨rfl, ?_⟩
    by_cases k1 : (s :: l)[0].1 >= 1
    ·have k2 : ¬ ((s :: l)[l.length]'(by simp)).2.1 <= n := fun k2 => hw (key.1 ⟨k1, k2⟩)
     rw [show decide ((s :: l)[0].1 >= 1) = true from decide_eq_true k1, show decide (((s :: l)[l.length]'(by simp)).2.1 <= n) = false from decide_eq_false k2]; rfl
    ·rw [show decide ((s :: l)[0].1 >= 1) = false from decide_eq_false k1]; rfl
 ·exact absurd hg hg2
 ·exact absurd hg2 hg
 ·rw [e1, e2]; exact .inr ⟨rfl, rfl⟩
theorem w64_step (x h l : Int) : w64 (w64 (w64 (x + h) - l) + 1) = w64 (x + w64 (w64 (h - l) + 1)) := by
 unfold w64 IntKind.wrap
 simp [IntKind.bits, IntKind.signed]
 omega
def accS (a : List Sp) : Nat -> Int
 | 0 => 0
 | i + 1 => w64 (w64 (w64 (accS a i + (List.getD a i (0, 0, ())).2.1) - (List.getD a i (0, 0, ())).1) + 1)
theorem size_same (a : List Sp) (h : a.length <= 1048576) : ∃ r, F.spec_SetSize a = some r /\ F.impl_SetSize a = some r := by
 unfold F.spec_SetSize F.impl_SetSize
 rcases specSet_ok a h with ⟨e1, hg⟩ | ⟨e1, hg⟩ <;> rcases implSet_ok a h with ⟨e2, hg2⟩ | ⟨e2, hg2⟩
 ·rw [e1, e2]
  have l1 := loop_run (step := F.spec_SetSize.s5) (fun i => (a, accS a i, (i : Int), ())) a.length (fun i hi => by
   unfold F.spec_SetSize.s5
   simp only
   rw [lt_len hi, inb_nat hi, w64_nat (by omega), Int.toNat_natCast]
   rfl) (l := .exit (a, accS a a.length, (a.length : Int), ())) (y := .inl (a, accS a a.length, (a.length : Int), ())) (by
   unfold F.spec_SetSize.s5
   simp only
   rw [ge_len]
   rfl) rfl
  have l2 := loop_run (step := F.impl_SetSize.s5) (fun i => (accS a i, a, len a, (i : Int), ())) a.length (fun i hi => by
   unfold F.impl_SetSize.s5
   simp only
   rw [lt_len hi, inb_nat hi, w64_nat (by omega), Int.toNat_natCast]
   simp only [chk_true, cond_true, accS]
   rw [w64_step]) (l := .exit (accS a a.length, a, len a, (a.length : Int), ())) (y := .inl (accS a a.length, a, len a, (a.length : Int), ())) (by
   unfold F.impl_SetSize.s5
   simp only
   rw [ge_len]
   rfl) rfl
  have l1 : loopO F.spec_SetSize.s5 (a, 0, 0, ()) = _ := l1
  have l2 : loopO F.impl_SetSize.s5 (0, a, len a, 0, ()) = _ := l2
  simp only [Option.bind_some, Bool.not_true, cond_false, l1, l2]
  exact ⟨_, rfl, rfl⟩
 ·exact absurd hg hg2
 ·exact absurd hg2 hg
 ·rw [e1, e2]; exact ⟨0, rfl, rfl⟩
def zSeat (a : DSeat) : Nat := zSpanS a.2.2.1
def fSeat (a : DSeat) : Prop := fSpanS a.2.2.1
theorem toSeat (a : DSeat) (h : zSeat a <= 1048576) : F.laws_toSeat a = some a := by
 unfold F.laws_toSeat
 simp only [toSpanS a.2.2.1 (by unfold zSeat at h; omega), Option.bind_some]
theorem eqSeat (a : DSeat) (h : zSeat a <= 1099511627776) : F.laws_eqSeat a a = some true := by
 unfold F.laws_eqSeat
 simp only [bne_self_eq_false, cond_false, Bool.not_true, Option.bind_some, eqSpanS a.2.2.1 (by unfold zSeat at h; omega)]
theorem szSeat (a : DSeat) (n : Int) (hf : fSeat a) (h0 : 0 <= n) (h1 : n <= 1048576) : F.laws_szSeat a n = some (if (zSeat a : Int) <= n then n - (zSeat a : Int) else -1) := by
 have hz : zSeat a = zSpanS a.2.2.1 := rfl
 unfold F.laws_szSeat
 unfold fSeat at hf
 rw [szSpanS a.2.2.1 n hf h0 h1]
 by_cases c0 : (zSpanS a.2.2.1 : Int) <= n
 case neg => rw [if_neg c0, if_neg (by omega)]; rfl
 rw [if_pos c0]
 simp only [Option.bind_some]
 rw [show decide (n - (zSpanS a.2.2.1 : Int) < 0) = false from decide_eq_false (by omega)]
 simp only [cond_false]
 rw [if_pos (by omega)]
 first | rfl | (congr 1; omega)
structure SeatR (s : DSeat) (n : Int) : Prop where
 per : 1 <= n /\ n <= 8
 ep : 0 <= s.1 /\ s.1 <= 1000
 gr : 0 <= s.2.1 /\ s.2.1 <= 60
 good : Good s.2.2.1
theorem seatOk_same (a : DSeat) (n : Int) (h : a.2.2.1.length <= 1048576) : ∃ b, F.spec_SeatOk a n = some b /\ F.impl_SeatOk a n = some b /\ (b = true -> SeatR a n) := by
 obtain ⟨a0, a1, a2, a3, a4, u⟩ := a
 obtain ⟨z, z1, z2⟩ := size_same a2 h
 unfold F.spec_SeatOk F.impl_SeatOk
 rcases below_same a2 a1 h with ⟨b1, b2, hg⟩ | ⟨b1, b2⟩
 all_goals simp only [l1In_eq, within_eq, z1, z2, b1, b2, Option.bind_some]
 all_goals cases h1 : inR 1 8 n with
  | false => exact ⟨_, rfl, rfl, fun h => by cases h⟩
  | true => cases h2 : inR 0 1000 a0 with
   | false => exact ⟨_, rfl, rfl, fun h => by cases h⟩
   | true => cases h3 : inR 0 60 a1 with
    | false => exact ⟨_, rfl, rfl, fun h => by cases h⟩
    | true => first
     | exact ⟨_, rfl, rfl, fun h => by cases h⟩
     | (cases inR 0 z a3 with
      | false => exact ⟨_, rfl, rfl, fun h => by cases h⟩
      | true => cases decide (a1 <= w64 (a3 + n)) with
       | false => exact ⟨_, rfl, rfl, fun h => by cases h⟩
       | true => exact ⟨_, rfl, rfl, fun _ => ⟨inR_iff.1 h1, inR_iff.1 h2, inR_iff.1 h3, hg⟩⟩)
theorem l5Copy_eq (a : List DSpan) (h : a.length <= 1048576) : F.spec_l5Copy a = some a := by
 unfold F.spec_l5Copy
 rw [fits_of (by simp; omega)]; rfl
theorem copySet_eq (a : List DSpan) (h : a.length <= 1048576) : F.impl_copySet a = some a := by
 unfold F.impl_copySet
 rw [fits_of (by omega)]; rfl
theorem l9Copy_eq (a : DSeat) (h : a.2.2.1.length <= 1048576) : F.spec_l9Copy a = some a := by
 unfold F.spec_l9Copy
 rw [l5Copy_eq _ h]; rfl
theorem copySeat_eq (a : DSeat) (h : a.2.2.1.length <= 1048576) : F.impl_copySeat a = some a := by
 unfold F.impl_copySeat
 rw [copySet_eq _ h]; rfl
theorem take_snoc {α : Type} {l : List α} {i : Nat} (h : i < l.length) : l.take i ++ [l[i]] = l.take (i + 1) := by
 rw [List.take_add_one, List.getElem?_eq_getElem h]; rfl
theorem zIS_mem {l : List (List Int)} {e : List Int} {n : Nat} (h : zIntSS l <= n) (he : e ∈ l) : e.length <= n := by
 have := sum_mem (f := zIntS) he
 unfold zIntSS at h
 unfold zIntS at this
 unfold zIntS at h
 omega
theorem copyInts_eq (a : List Int) (h : a.length <= 1048576) : F.impl_copyInts a = some a := by
 unfold F.impl_copyInts
 rw [fits_of (by omega)]; rfl
theorem l3Copy_eq (s : DSketch) (h : zSketch s <= 1048576) : F.spec_l3Copy s = some s := by
 obtain ⟨a, b, c, d, hi, re, rs, u⟩ := s
 have hz : zIntS hi + zIntS re + zIntSS rs <= 1048576 := h
 have h1 : hi.length <= 1048576 := by unfold zIntS at hz; omega
 have h2 : re.length <= 1048576 := by unfold zIntS at hz; omega
 have h3 : rs.length <= 1048576 := by unfold zIntSS at hz; omega
 unfold F.spec_l3Copy
 simp only [List.nil_append, List.length_nil]
 rw [fits_of (by omega), fits_of (by omega)]
 simp only [chk_true]
 have hh := loop_run (step := F.spec_l3Copy.s6) (fun i => ((i : Int), (a, b, c, d, hi, re, rs, u), (0, 0, 0, 0, [], [], [], ()), (a, b, c, d, hi, re, rs.take i, u), ())) rs.length (fun i hi => by
  have he : rs[i].length <= 1048576 := zIS_mem (n := 1048576) (by omega) (List.getElem_mem hi)
  unfold F.spec_l3Copy.s6
  simp only [len]
  rw [show decide ((i : Int) < ((rs.length : Nat) : Int)) = true from decide_eq_true (by omega), inb_nat hi, Int.toNat_natCast, w64_nat (by omega), getD_at hi]
  simp only [cond_true, chk_true, List.nil_append, List.length_nil, List.length_take, List.length_cons]
  rw [fits_of (by omega), fits_of (by omega), take_snoc hi]; rfl) (l := .exit (((rs.length : Nat) : Int), (a, b, c, d, hi, re, rs, u), (0, 0, 0, 0, [], [], [], ()), (a, b, c, d, hi, re, rs.take rs.length, u), ())) (by
  unfold F.spec_l3Copy.s6
  simp only [len]
  rw [show decide (((rs.length : Nat) : Int) < ((rs.length : Nat) : Int)) = false from decide_eq_false (by omega)]; rfl) rfl
 refine (congrArg (fun z => afterO z _) hh).trans ?_
 simp only [afterO, List.take_length]
theorem copySketch_eq (s : DSketch) (h : zSketch s <= 1048576) : F.impl_copySketch s = some s := by
 obtain ⟨a, b, c, d, hi, re, rs, u⟩ := s
 have hz : zIntS hi + zIntS re + zIntSS rs <= 1048576 := h
 have h1 : hi.length <= 1048576 := by unfold zIntS at hz; omega
 have h2 : re.length <= 1048576 := by unfold zIntS at hz; omega
 have h3 : rs.length <= 1048576 := by unfold zIntSS at hz; omega
 unfold F.impl_copySketch
 rw [copyInts_eq _ h1, copyInts_eq _ h2]
 simp only [Option.bind_some]
 have hh := loop_run (step := F.impl_copySketch.s6) (fun i => (rs, len rs, (i : Int), (0, 0, 0, 0, [], [], [], ()), (a, b, c, d, hi, re, rs.take i, u), ())) rs.length (fun i hi => by
  have he : rs[i].length <= 1048576 := zIS_mem (n := 1048576) (by omega) (List.getElem_mem hi)
  unfold F.impl_copySketch.s6
  simp only [len]
  rw [show decide ((i : Int) < ((rs.length : Nat) : Int)) = true from decide_eq_true (by omega), inb_nat hi, Int.toNat_natCast, w64_nat (by omega), getD_at hi, copyInts_eq _ he]
  simp only [cond_true, chk_true, Option.bind_some, List.nil_append, List.length_nil, List.length_take, List.length_cons]
  rw [fits_of (by omega), take_snoc hi]; rfl) (l := .exit (rs, len rs, ((rs.length : Nat) : Int), (0, 0, 0, 0, [], [], [], ()), (a, b, c, d, hi, re, rs.take rs.length, u), ())) (by
  unfold F.impl_copySketch.s6
  simp only [len]
  rw [show decide (((rs.length : Nat) : Int) < ((rs.length : Nat) : Int)) = false from decide_eq_false (by omega)]; rfl) rfl
 refine (congrArg (fun z => afterO z _) hh).trans ?_
 simp only [afterO, List.take_length]
theorem l11Nums_eq (a : List Int) (lo hi : Int) (h : a.length <= 1048576) : F.spec_l11Nums a lo hi = some ((len a == 3) && a.all (inR lo hi)) := by
 unfold F.spec_l11Nums
 cases h3 : (len a == 3) with
 | false => rw [show (len a != 3) = true by simp [bne, h3]]; rfl
 | true =>
  rw [show (len a != 3) = false by simp [bne, h3]]
  simp only [cond_false]
  have hh := loop_all (step := F.spec_l11Nums.s4) a (fun i => (a, lo, hi, (i : Int), ())) (inR lo hi) false (fun i hi' => by
   unfold F.spec_l11Nums.s4
   simp only
   rw [show decide ((i : Int) < len a) = true from decide_eq_true (by simp only [len]; omega), inb_nat hi', Int.toNat_natCast, w64_nat (by omega), getD_at hi', l1In_eq]
   simp only [cond_true, chk_true, Option.bind_some]
   cases inR lo hi a[i] <;> rfl) (by
   unfold F.spec_l11Nums.s4
   simp only
   rw [show decide (((a.length : Nat) : Int) < len a) = false from decide_eq_false (by simp only [len]; omega)]; rfl)
  refine (congrArg (fun z => afterO z _) hh).trans ?_
  cases a.all (inR lo hi) <;> rfl
theorem allWithin_eq (a : List Int) (n lo hi : Int) (h : a.length <= 1048576) : F.impl_allWithin a n lo hi = some ((len a == n) && a.all (inR lo hi)) := by
 unfold F.impl_allWithin
 have hh := loop_all (step := F.impl_allWithin.s2) a (fun i => (a, n, lo, hi, a, len a, (i : Int), ())) (inR lo hi) false (fun i hi' => by
  unfold F.impl_allWithin.s2
  simp only
  rw [show decide ((i : Int) < len a) = true from decide_eq_true (by simp only [len]; omega), inb_nat hi', Int.toNat_natCast, w64_nat (by omega), getD_at hi', within_eq]
  simp only [cond_true, chk_true, Option.bind_some]
  cases inR lo hi a[i] <;> rfl) (by
  unfold F.impl_allWithin.s2
  simp only
  rw [show decide (((a.length : Nat) : Int) < len a) = false from decide_eq_false (by simp only [len]; omega)]; rfl)
 refine (congrArg (fun z => afterO z _) hh).trans ?_
 cases a.all (inR lo hi) with
 | true => simp only [cond_true, afterO, Bool.and_true]
 | false => simp only [cond_false, afterO, Bool.and_false]
def confB (a : DConf) : Bool := inR 1 8 a.1 && (inR 1 60 a.2.1 && (inR 1 10 a.2.2.1 && (((len a.2.2.2.1 == 3) && a.2.2.2.1.all (inR 1 4)) && (inR 1 100 a.2.2.2.2.1 && (inR 1 20 a.2.2.2.2.2.1 && (inR 0 20 a.2.2.2.2.2.2.1 && inR 1 50 a.2.2.2.2.2.2.2.1))))))
theorem confOk_eq (a : DConf) (h : zConf a <= 1048576) : F.spec_ConfOk a = some (confB a) /\ F.impl_ConfOk a = some (confB a) := by
 obtain ⟨a0, a1, a2, a3, a4, a5, a6, a7, u⟩ := a
 have h : a3.length <= 1048576 := h
 unfold F.spec_ConfOk F.impl_ConfOk confB
 simp only [l1In_eq, within_eq, l11Nums_eq a3 1 4 h, allWithin_eq a3 3 1 4 h, Option.bind_some]
 generalize inR 1 8 a0 = b0
 generalize inR 1 60 a1 = b1
 generalize inR 1 10 a2 = b2
 generalize (len a3 == 3 && a3.all (inR 1 4)) = b3
 generalize inR 1 100 a4 = b4
 generalize inR 1 20 a5 = b5
 generalize inR 0 20 a6 = b6
 generalize inR 1 50 a7 = b7
 cases b0 <;> cases b1 <;> cases b2 <;> cases b3 <;> cases b4 <;> cases b5 <;> cases b6 <;> exact ⟨rfl, rfl⟩
theorem l12Conf_eq (a : DConf) (h : zConf a <= 1048576) : F.spec_l12Conf a = some a := by
 unfold F.spec_l12Conf
 simp only [List.nil_append, List.length_nil]
 rw [fits_of (by have h : a.2.2.2.1.length <= 1048576 := h; omega)]; rfl
theorem copyConf_eq (a : DConf) (h : zConf a <= 1048576) : F.impl_copyConf a = some a := by
 unfold F.impl_copyConf
 rw [copyInts_eq _ h]; rfl
theorem l1Min_mn (a b : Int) : F.spec_l1Min a b = some (mnI b a) := by
 unfold F.spec_l1Min mnI
 by_cases h : a < b <;> simp [h]
theorem mnI_comm (a b : Int) : mnI a b = mnI b a := by
 unfold mnI
 split <;> split <;> omega
theorem seatGrant_same (a : DSeat) (n : Int) (h : a.2.2.1.length <= 1048576) : ∃ r : DSeat, F.spec_SeatGrant a n = some r /\ F.impl_SeatGrant a n = some r /\ r.2.2 = a.2.2 /\ r.1 = a.1 := by
 obtain ⟨b, hs, hi, _⟩ := seatOk_same a n h
 unfold F.spec_SeatGrant F.impl_SeatGrant
 rw [l9Copy_eq _ h, copySeat_eq _ h]
 simp only [Option.bind_some, hs, hi, l1Min_mn]
 cases b with
 | true =>
  refine ⟨_, rfl, ?_, rfl, rfl⟩
  rw [mnI_comm]; rfl
 | false => exact ⟨_, rfl, rfl, rfl, rfl⟩
def okF : Int -> List Sp -> Prop
 | _, [] => True
 | lo, x :: l => lo <= x.1 /\ x.1 <= x.2.1 /\ x.2.1 <= 9999 /\ okF (x.2.1 + 2) l
def memS (s : List Sp) (n : Int) : Prop := ∃ x ∈ s, x.1 <= n /\ n <= x.2.1
theorem memS_nil {n : Int} : ¬ memS [] n := fun ⟨_, h, _⟩ => by cases h
theorem memS_cons {x : Sp} {l : List Sp} {n : Int} : memS (x :: l) n ↔ (x.1 <= n /\ n <= x.2.1) \/ memS l n := by
 constructor
 ·rintro ⟨y, hy, h⟩
  rcases List.mem_cons.1 hy with rfl | hy
  ·exact .inl h
  ·exact .inr ⟨y, hy, h⟩
 ·rintro (h | ⟨y, hy, h⟩)
  ·exact ⟨x, by simp, h⟩
  ·exact ⟨y, by simp [hy], h⟩
theorem memS_append {a b : List Sp} {n : Int} : memS (a ++ b) n ↔ memS a n \/ memS b n := by
 constructor
 ·rintro ⟨y, hy, h⟩
  rcases List.mem_append.1 hy with hy | hy
  ·exact .inl ⟨y, hy, h⟩
  ·exact .inr ⟨y, hy, h⟩
 ·rintro (⟨y, hy, h⟩ | ⟨y, hy, h⟩)
  ·exact ⟨y, by simp [hy], h⟩
  ·exact ⟨y, by simp [hy], h⟩
theorem okF_lb : ∀ {s : List Sp} {lo n : Int}, okF lo s -> memS s n -> lo <= n /\ n <= 9999
 | [], lo, n, _, h => absurd h memS_nil
 | x :: l, lo, n, ⟨h1, h2, h3, h4⟩, h => by
  rcases memS_cons.1 h with h | h
  ·omega
  ·have := okF_lb h4 h
   omega
theorem okF_mono : ∀ {s : List Sp} {lo lo' : Int}, lo' <= lo -> okF lo s -> okF lo' s
 | [], _, _, _, _ => trivial
 | x :: l, lo, lo', hl, ⟨h1, h2, h3, h4⟩ => ⟨by omega, h2, h3, h4⟩
theorem okF_all : ∀ {s : List Sp} {lo : Int}, okF lo s -> ∀ x ∈ s, lo <= x.1 /\ x.1 <= x.2.1 /\ x.2.1 <= 9999
 | x :: l, lo, ⟨h1, h2, h3, h4⟩, y, hy => by
  rcases List.mem_cons.1 hy with rfl | hy
  ·exact ⟨h1, h2, h3⟩
  ·have := okF_all h4 y hy
   omega
theorem okF_ext : ∀ {s t : List Sp} {lo lo' : Int}, okF lo s -> okF lo' t -> (∀ n, memS s n ↔ memS t n) -> s = t
 | [], [], _, _, _, _, _ => rfl
 | [], y :: t, lo, lo', _, ⟨h1, h2, _⟩, h => absurd ((h y.1).2 (memS_cons.2 (.inl ⟨Int.le_refl _, h2⟩))) memS_nil
 | x :: s, [], lo, lo', ⟨h1, h2, _⟩, _, h => absurd ((h x.1).1 (memS_cons.2 (.inl ⟨Int.le_refl _, h2⟩))) memS_nil
 | x :: s, y :: t, lo, lo', ⟨h1, h2, h3, h4⟩, ⟨g1, g2, g3, g4⟩, h => by
  have e1 : x.1 = y.1 := by
   have a1 := okF_lb (s := y :: t) (lo := y.1) ⟨Int.le_refl _, g2, g3, g4⟩ ((h x.1).1 (memS_cons.2 (.inl ⟨Int.le_refl _, h2⟩)))
   have a2 := okF_lb (s := x :: s) (lo := x.1) ⟨Int.le_refl _, h2, h3, h4⟩ ((h y.1).2 (memS_cons.2 (.inl ⟨Int.le_refl _, g2⟩)))
   omega
  have e2 : x.2.1 = y.2.1 := by
   rcases Int.lt_trichotomy x.2.1 y.2.1 with hlt | heq | hlt
   ·rcases memS_cons.1 ((h (x.2.1 + 1)).2 (memS_cons.2 (.inl ⟨by omega, by omega⟩))) with a | a
    ·omega
    ·have := okF_lb h4 a; omega
   ·exact heq
   ·rcases memS_cons.1 ((h (y.2.1 + 1)).1 (memS_cons.2 (.inl ⟨by omega, by omega⟩))) with a | a
    ·omega
    ·have := okF_lb g4 a; omega
  have e3 : s = t := okF_ext h4 g4 (fun n => by
   constructor
   ·intro a
    have := okF_lb h4 a
    rcases memS_cons.1 ((h n).1 (memS_cons.2 (.inr a))) with b | b
    ·omega
    ·exact b
   ·intro a
    have := okF_lb g4 a
    rcases memS_cons.1 ((h n).2 (memS_cons.2 (.inr a))) with b | b
    ·omega
    ·exact b)
  obtain ⟨x1, x2, u⟩ := x
  obtain ⟨y1, y2, v⟩ := y
  simp only at e1 e2
  rw [e1, e2, e3]
theorem good_cons {x : Sp} {l : List Sp} : Good (x :: l) ↔ (0 <= x.1 /\ x.1 <= x.2.1 /\ x.2.1 <= 9999) /\ Good l /\ ∀ y ∈ l.head?, x.2.1 + 1 < y.1 := by
 constructor
 ·intro h
  have h0 := h 0 (by simp)
  have a1 := inR_iff.1 h0.1
  have a2 := inR_iff.1 h0.2.1
  simp only [List.getElem_cons_zero] at a1 a2
  refine ⟨⟨a1.1, a2.1, a2.2⟩, fun i hi => ?_, fun y hy => ?_⟩
  ·have hh := h (i + 1) (by simpa using hi)
   refine ⟨hh.1, hh.2.1, fun h0 => ?_⟩
   have := hh.2.2 (by omega)
   have e : (x :: l)[i + 1 - 1]'(by simp; omega) = l[i - 1]'(by omega) := by
    obtain ⟨j, rfl⟩ : ∃ j, i = j + 1 := ⟨i - 1, by omega⟩
    simp
   rw [e] at this
   simpa using this
  ·cases l with
   | nil => cases hy
   | cons z l =>
    cases hy
    have := (h 1 (by simp)).2.2 (by omega)
    simp only [List.getElem_cons_succ, List.getElem_cons_zero, Nat.sub_self] at this
    omega
 ·rintro ⟨⟨h1, h2, h3⟩, hg, hh⟩ i hi
  cases i with
  | zero => exact ⟨inR_iff.2 ⟨h1, by simp only [List.getElem_cons_zero]; omega⟩, inR_iff.2 ⟨h2, h3⟩, fun h0 => by omega⟩
  | succ i =>
   have hi' : i < l.length := by simpa using hi
   obtain ⟨g1, g2, g3⟩ := hg i hi'
   refine ⟨g1, g2, fun _ => ?_⟩
   cases i with
   | zero =>
    cases l with
    | nil => simp at hi'
    | cons z l =>
     have := hh z rfl
     simp only [List.getElem_cons_succ, List.getElem_cons_zero, Nat.add_sub_cancel]
     omega
   | succ j => exact g3 (by omega)
theorem good_ok : ∀ {s : List Sp}, Good s ↔ okF 0 s
 | [] => ⟨fun _ => trivial, fun _ i h => by cases h⟩
 | x :: l => by
  rw [good_cons, good_ok (s := l)]
  constructor
  ·rintro ⟨⟨h1, h2, h3⟩, h4, h5⟩
   refine ⟨h1, h2, h3, ?_⟩
   cases l with
   | nil => trivial
   | cons y l =>
    have := h5 y rfl
    exact ⟨by omega, h4.2⟩
  ·rintro ⟨h1, h2, h3, h4⟩
   refine ⟨⟨h1, h2, h3⟩, okF_mono (by omega) h4, fun y hy => ?_⟩
   cases l with
   | nil => cases hy
   | cons z l => cases hy; have := h4.1; omega
theorem okF_len : ∀ {s : List Sp} {lo : Int}, 0 <= lo -> okF lo s -> lo + 2 * (s.length : Int) <= 10002 \/ s = []
 | [], _, _, _ => .inr rfl
 | x :: l, lo, hl, ⟨h1, h2, h3, h4⟩ => by
  left
  rcases okF_len (by omega) h4 with h | h
  ·simp only [List.length_cons]; omega
  ·subst h; simp only [List.length_cons, List.length_nil]; omega
def put (x : Sp) : List Sp -> List Sp
 | [] => [x]
 | y :: l => if y.2.1 + 1 < x.1 then y :: put x l else if y.1 > x.2.1 + 1 then x :: y :: l else put (mnI x.1 y.1, mxI x.2.1 y.2.1, ()) l
theorem put_ok : ∀ {s : List Sp} {lo : Int} {x : Sp}, okF lo s -> lo <= x.1 -> x.1 <= x.2.1 -> x.2.1 <= 9999 -> okF lo (put x s)
 | [], lo, x, _, h1, h2, h3 => ⟨h1, h2, h3, trivial⟩
 | y :: l, lo, x, ⟨g1, g2, g3, g4⟩, h1, h2, h3 => by
  unfold put
  split
  ·exact ⟨g1, g2, g3, put_ok g4 (by omega) h2 h3⟩
  ·split
   ·exact ⟨h1, h2, h3, by omega, g2, g3, g4⟩
   ·refine put_ok (okF_mono (by omega) g4) ?_ ?_ ?_ <;> simp only [mnI, mxI] <;> split <;> (try split) <;> omega
theorem put_mem : ∀ {s : List Sp} {x : Sp} {n : Int}, x.1 <= x.2.1 -> (∀ y ∈ s, y.1 <= y.2.1) -> (memS (put x s) n ↔ memS s n \/ (x.1 <= n /\ n <= x.2.1))
 | [], x, n, h, _ => by
  rw [put, memS_cons]
  exact ⟨fun h => h.elim .inr (fun h => absurd h memS_nil), fun h => h.elim (fun h => absurd h memS_nil) .inl⟩
 | y :: l, x, n, h, hs => by
  have hy := hs y (by simp)
  have hl : ∀ z ∈ l, z.1 <= z.2.1 := fun z hz => hs z (by simp [hz])
  unfold put
  split
  ·rw [memS_cons, memS_cons, put_mem h hl]
   constructor
   ·rintro (h | h | h)
    ·exact .inl (.inl h)
    ·exact .inl (.inr h)
    ·exact .inr h
   ·rintro ((h | h) | h)
    ·exact .inl h
    ·exact .inr (.inl h)
    ·exact .inr (.inr h)
  ·split
   ·rw [memS_cons]
    exact Or.comm
   ·have hm : (mnI x.1 y.1 : Int) <= mxI x.2.1 y.2.1 := by unfold mnI mxI; split <;> split <;> omega
    rw [put_mem (x := (mnI x.1 y.1, mxI x.2.1 y.2.1, ())) hm hl, memS_cons]
    have e : (mnI x.1 y.1 <= n /\ n <= mxI x.2.1 y.2.1) ↔ (x.1 <= n /\ n <= x.2.1) \/ (y.1 <= n /\ n <= y.2.1) := by
     unfold mnI mxI
     split <;> split <;> omega
    show memS l n \/ (mnI x.1 y.1 <= n /\ n <= mxI x.2.1 y.2.1) ↔ _
    rw [e]
    constructor
    ·rintro (h | h | h)
     ·exact .inl (.inr h)
     ·exact .inr h
     ·exact .inl (.inl h)
    ·rintro ((h | h) | h)
     ·exact .inr (.inr h)
     ·exact .inl h
     ·exact .inr (.inl h)
def joinS (a b : List Sp) : List Sp := b.foldl (fun s x => put x s) a
theorem joinS_ok : ∀ {b a : List Sp} {lo : Int}, okF lo a -> (∀ x ∈ b, lo <= x.1 /\ x.1 <= x.2.1 /\ x.2.1 <= 9999) -> okF lo (joinS a b)
 | [], a, lo, h, _ => h
 | x :: b, a, lo, h, hb => by
  obtain ⟨h1, h2, h3⟩ := hb x (by simp)
  exact joinS_ok (b := b) (a := put x a) (put_ok h h1 h2 h3) (fun y hy => hb y (by simp [hy]))
theorem joinS_mem : ∀ {b a : List Sp} {lo n : Int}, okF lo a -> (∀ x ∈ b, lo <= x.1 /\ x.1 <= x.2.1 /\ x.2.1 <= 9999) -> (memS (joinS a b) n ↔ memS a n \/ memS b n)
 | [], a, lo, n, h, _ => ⟨.inl, fun h => h.elim id (fun h => absurd h memS_nil)⟩
 | x :: b, a, lo, n, h, hb => by
  obtain ⟨h1, h2, h3⟩ := hb x (by simp)
  have := joinS_mem (b := b) (a := put x a) (n := n) (put_ok h h1 h2 h3) (fun y hy => hb y (by simp [hy]))
  show memS (joinS (put x a) b) n ↔ _
  rw [this, put_mem h2 (fun y hy => (okF_all h y hy).2.1), memS_cons, or_assoc]
def runS (c : Sp) : List Sp -> List Sp
 | [] => [c]
 | x :: l => if x.1 <= c.2.1 + 1 then runS (c.1, mxI c.2.1 x.2.1, ()) l else c :: runS x l
def uniS : List Sp -> List Sp
 | [] => []
 | x :: l => runS x l
theorem runS_ok : ∀ {l : List Sp} {c : Sp} {lo : Int}, lo <= c.1 -> c.1 <= c.2.1 -> c.2.1 <= 9999 -> (∀ x ∈ l, x.1 <= x.2.1 /\ x.2.1 <= 9999 /\ c.1 <= x.1) -> l.Pairwise (fun x y => x.1 <= y.1) -> okF lo (runS c l)
 | [], c, lo, h1, h2, h3, _, _ => ⟨h1, h2, h3, trivial⟩
 | x :: l, c, lo, h1, h2, h3, hl, hp => by
  obtain ⟨g1, g2, g3⟩ := hl x (by simp)
  obtain ⟨p1, p2⟩ := List.pairwise_cons.1 hp
  unfold runS
  split
  ·refine runS_ok (c := (c.1, mxI c.2.1 x.2.1, ())) h1 ?_ ?_ (fun y hy => hl y (by simp [hy])) p2 <;> simp only [mxI] <;> split <;> omega
  ·exact ⟨h1, h2, h3, runS_ok (by omega) g1 g2 (fun y hy => ⟨(hl y (by simp [hy])).1, (hl y (by simp [hy])).2.1, p1 y hy⟩) p2⟩
theorem runS_mem : ∀ {l : List Sp} {c : Sp} {n : Int}, c.1 <= c.2.1 -> (∀ x ∈ l, x.1 <= x.2.1 /\ c.1 <= x.1) -> l.Pairwise (fun x y => x.1 <= y.1) -> (memS (runS c l) n ↔ (c.1 <= n /\ n <= c.2.1) \/ memS l n)
 | [], c, n, _, _, _ => memS_cons
 | x :: l, c, n, h, hl, hp => by
  obtain ⟨g1, g3⟩ := hl x (by simp)
  obtain ⟨p1, p2⟩ := List.pairwise_cons.1 hp
  unfold runS
  split
  ·have hm : c.1 <= mxI c.2.1 x.2.1 := by unfold mxI; split <;> omega
   rw [runS_mem (c := (c.1, mxI c.2.1 x.2.1, ())) hm (fun y hy => hl y (by simp [hy])) p2, memS_cons]
   have e : (c.1 <= n /\ n <= mxI c.2.1 x.2.1) ↔ (c.1 <= n /\ n <= c.2.1) \/ (x.1 <= n /\ n <= x.2.1) := by
    unfold mxI
    split <;> omega
   show (c.1 <= n /\ n <= mxI c.2.1 x.2.1) \/ _ ↔ _
   rw [e, or_assoc]
  ·rw [memS_cons, runS_mem g1 (fun y hy => ⟨(hl y (by simp [hy])).1, p1 y hy⟩) p2, memS_cons]
theorem uniS_ok {l : List Sp} {lo : Int} (hl : ∀ x ∈ l, lo <= x.1 /\ x.1 <= x.2.1 /\ x.2.1 <= 9999) (hp : l.Pairwise (fun x y => x.1 <= y.1)) : okF lo (uniS l) := by
 cases l with
 | nil => trivial
 | cons x l =>
  obtain ⟨h1, h2, h3⟩ := hl x (by simp)
  obtain ⟨p1, p2⟩ := List.pairwise_cons.1 hp
  exact runS_ok h1 h2 h3 (fun y hy => ⟨(hl y (by simp [hy])).2.1, (hl y (by simp [hy])).2.2, p1 y hy⟩) p2
theorem uniS_mem {l : List Sp} {n : Int} (hl : ∀ x ∈ l, x.1 <= x.2.1) (hp : l.Pairwise (fun x y => x.1 <= y.1)) : memS (uniS l) n ↔ memS l n := by
 cases l with
 | nil => exact Iff.rfl
 | cons x l =>
  obtain ⟨p1, p2⟩ := List.pairwise_cons.1 hp
  rw [uniS, runS_mem (hl x (by simp)) (fun y hy => ⟨hl y (by simp [hy]), p1 y hy⟩) p2, memS_cons]
theorem memS_perm {a b : List Sp} (h : a.Perm b) {n : Int} : memS a n ↔ memS b n :=
 ⟨fun ⟨x, hx, g⟩ => ⟨x, h.mem_iff.1 hx, g⟩, fun ⟨x, hx, g⟩ => ⟨x, h.mem_iff.2 hx, g⟩⟩
theorem uni_join {a b s : List Sp} (ha : okF 0 a) (hb : ∀ x ∈ b, 0 <= x.1 /\ x.1 <= x.2.1 /\ x.2.1 <= 9999) (hs : s.Perm (a ++ b)) (hp : s.Pairwise (fun x y => x.1 <= y.1)) : uniS s = joinS a b := by
 have hall : ∀ x ∈ s, 0 <= x.1 /\ x.1 <= x.2.1 /\ x.2.1 <= 9999 := fun x hx => by
  rcases List.mem_append.1 (hs.mem_iff.1 hx) with h | h
  ·exact okF_all ha x h
  ·exact hb x h
 refine okF_ext (uniS_ok hall hp) (joinS_ok ha hb) (fun n => ?_)
 rw [uniS_mem (fun x hx => (hall x hx).2.1) hp, memS_perm hs, memS_append, joinS_mem ha hb]
theorem l1Min_eq (a b : Int) : F.spec_l1Min a b = some (mnI a b) := by
 unfold F.spec_l1Min mnI
 by_cases h : a < b
 ·rw [decide_eq_true h]; simp only [cond_true]; split <;> congr 1 <;> omega
 ·rw [decide_eq_false h]; simp only [cond_false]; split <;> congr 1 <;> omega
theorem l1Max_eq (a b : Int) : F.spec_l1Max a b = some (mxI a b) := by
 unfold F.spec_l1Max mxI
 by_cases h : a > b
 ·rw [decide_eq_true h]; simp only [cond_true]; split <;> congr 1 <;> omega
 ·rw [decide_eq_false h]; simp only [cond_false]; split <;> congr 1 <;> omega
theorem put_step (a acc : List Sp) (p : Bool) (c : Sp) (i : Nat) (hk : i < a.length) (h : a.length <= 1048576) (hl : acc.length <= 1048577) : F.spec_l5Put.s4 (a, acc, p, (i : Int), c, ()) = some (.again
  (if w64 (a[i].2.1 + 1) < c.1 then (a, acc ++ [a[i]], p, ((i + 1 : Nat) : Int), c, ()) else if a[i].1 > w64 (c.2.1 + 1) then (a, (if p then acc else acc ++ [c]) ++ [a[i]], true, ((i + 1 : Nat) : Int), c, ()) else (a, acc, p, ((i + 1 : Nat) : Int), (mnI c.1 a[i].1, mxI c.2.1 a[i].2.1, ()), ()))) := by
 unfold F.spec_l5Put.s4
 simp only
 rw [lt_len hk, inb_nat hk, Int.toNat_natCast, getD_at hk, w64_nat (by omega)]
 simp only [cond_true, chk_true, l1Min_eq, l1Max_eq, Option.bind_some, List.length_append, List.length_cons, List.length_nil]
 rw [fits_of (n := acc.length + (0 + 1)) (by omega), fits_of (n := acc.length + (0 + 1) + (0 + 1)) (by omega)]
 simp only [chk_true]
 by_cases h1 : w64 (a[i].2.1 + 1) < c.1
 ·rw [decide_eq_true h1, if_pos h1]; rfl
 ·rw [decide_eq_false h1, if_neg h1]
  by_cases h2 : a[i].1 > w64 (c.2.1 + 1)
  ·rw [decide_eq_true h2, if_pos h2]
   cases p <;> rfl
  ·rw [decide_eq_false h2, if_neg h2]; rfl
theorem l5Put_eq (a : List Sp) (x : Sp) (h : a.length <= 1048576) {lo : Int} (hlo : 0 <= lo) (ha : okF lo a) (h0 : 0 <= x.1) (h1 : x.1 <= x.2.1) (h2 : x.2.1 <= 9999) : F.spec_l5Put a x = some (put x a) := by
 unfold F.spec_l5Put
 -- behind it: all the rest is kept
 have key1 : ∀ (m p acc : List Sp) (c : Sp) (l : Int), a = p ++ m -> acc.length <= p.length + 1 -> okF l m -> c.2.1 + 1 < l -> 0 <= c.1 -> c.1 <= c.2.1 -> c.2.1 <= 9999 ->
   iterO F.spec_l5Put.s4 (m.length + 1) (a, acc, true, ((p.length : Nat) : Int), c, ()) = some (.inl (a, acc ++ m, true, ((a.length : Nat) : Int), c, ())) := by
  intro m
  induction m with
  | nil =>
   intro p acc c l hp hl hok hc g0 g1 g2
   have hpl : p.length = a.length := by rw [hp]; simp
   unfold iterO F.spec_l5Put.s4
   simp only [hpl, ge_len, cond_false, List.append_nil]
  | cons y m ih =>
   intro p acc c l hp hl hok hc g0 g1 g2
   obtain ⟨k1, k2, k3, k4⟩ := hok
   have hk : p.length < a.length := by rw [hp]; simp
   have hg : a[p.length] = y := by simp [hp]
   rw [List.length_cons, iterO, put_step a acc true c p.length hk h (by omega), hg, w64_id (by omega) (by omega), w64_id (by omega) (by omega), if_neg (by omega), if_pos (by omega)]
   simp only [if_true]
   have := ih (p ++ [y]) (acc ++ [y]) c (y.2.1 + 2) (by simp [hp]) (by simp; omega) k4 (by omega) g0 g1 g2
   rw [List.length_append] at this
   simp only [List.append_assoc, List.singleton_append] at this
   exact this
 have key2 : ∀ (m p acc : List Sp) (c : Sp) (l : Int), a = p ++ m -> acc.length <= p.length -> 0 <= l -> okF l m -> 0 <= c.1 -> c.1 <= c.2.1 -> c.2.1 <= 9999 ->
   ∃ acc' p' c', iterO F.spec_l5Put.s4 (m.length + 1) (a, acc, false, ((p.length : Nat) : Int), c, ()) = some (.inl (a, acc', p', ((a.length : Nat) : Int), c', ())) /\ (if p' then acc' else acc' ++ [c']) = acc ++ put c m /\ (p' = false -> acc'.length <= a.length) := by
  intro m
  induction m with
  | nil =>
   intro p acc c l hp hl hl0 hok g0 g1 g2
   have hpl : p.length = a.length := by rw [hp]; simp
   refine ⟨acc, false, c, ?_, rfl, fun _ => by omega⟩
   unfold iterO F.spec_l5Put.s4
   simp only [hpl, ge_len, cond_false]
  | cons y m ih =>
   intro p acc c l hp hl hl0 hok g0 g1 g2
   obtain ⟨k1, k2, k3, k4⟩ := hok
   have hk : p.length < a.length := by rw [hp]; simp
   have hg : a[p.length] = y := by simp [hp]
   rw [List.length_cons, iterO, put_step a acc false c p.length hk h (by omega), hg, w64_id (by omega) (by omega), w64_id (by omega) (by omega), put]
   simp only [Bool.false_eq_true, if_false]
   by_cases c1 : y.2.1 + 1 < c.1
   ·rw [if_pos c1, if_pos c1]
    obtain ⟨acc', p', c', e1, e2, e3⟩ := ih (p ++ [y]) (acc ++ [y]) c (y.2.1 + 2) (by simp [hp]) (by simp; omega) (by omega) k4 g0 g1 g2
    rw [List.length_append] at e1
    refine ⟨acc', p', c', e1, ?_, e3⟩
    rw [e2]; simp
   ·rw [if_neg c1, if_neg c1]
    by_cases c2 : y.1 > c.2.1 + 1
    ·rw [if_pos c2, if_pos c2]
     have := key1 m (p ++ [y]) ((acc ++ [c]) ++ [y]) c (y.2.1 + 2) (by simp [hp]) (by simp; omega) k4 (by omega) g0 g1 g2
     rw [List.length_append] at this
     refine ⟨_, true, c, this, by simp, fun h => by cases h⟩
    ·rw [if_neg c2, if_neg c2]
     obtain ⟨acc', p', c', e1, e2, e3⟩ := ih (p ++ [y]) acc (mnI c.1 y.1, mxI c.2.1 y.2.1, ()) (y.2.1 + 2) (by simp [hp]) (by simp; omega) (by omega) k4 (by simp only [mnI]; split <;> omega) (by simp only [mnI, mxI]; split <;> split <;> omega) (by simp only [mxI]; split <;> omega)
     rw [List.length_append] at e1
     exact ⟨acc', p', c', e1, e2, e3⟩
 obtain ⟨acc', p', c', e1, e2, e3⟩ := key2 a [] [] x lo rfl (by simp) hlo ha h0 h1 h2
 have h1' : loopO F.spec_l5Put.s4 (a, [], false, 0, x, ()) = _ := loopO_of e1
 rw [h1']
 simp only [afterO]
 cases p' with
 | true => simpa using e2
 | false =>
  have := e3 rfl
  simp only [Bool.not_false, cond_true, List.length_cons, List.length_nil]
  rw [fits_of (by omega)]
  simpa [chk_true] using e2
def hasB (a : List Sp) (n : Int) : Bool := a.any fun x => inR x.1 x.2.1 n
theorem indexFunc_eq {step : (List Sp × (Int × Unit) × Int × Int × Unit) -> Option (Lp (List Sp × (Int × Unit) × Int × Int × Unit) Int)} (a : List Sp) (n : Int) (p : Sp -> Bool) (h : a.length <= 1048576)
  (hs : ∀ i (hi : i < a.length), step (a, (n, ()), len a, (i : Int), ()) = some (bif p a[i] then .ret (i : Int) else .again (a, (n, ()), len a, ((i + 1 : Nat) : Int), ())))
  (he : step (a, (n, ()), len a, ((a.length : Nat) : Int), ()) = some (.exit (a, (n, ()), len a, ((a.length : Nat) : Int), ()))) :
  ∃ y, loopO step (a, (n, ()), len a, 0, ()) = some y /\ ((y = .inl (a, (n, ()), len a, ((a.length : Nat) : Int), ()) /\ a.any p = false) \/ (∃ i : Nat, y = .inr (i : Int) /\ a.any p = true)) := by
 have hl := loop_l0 (step := step) a (fun i (_ : Unit) => (a, (n, ()), len a, (i : Int), ())) (fun i _ x => bif p x then .inr (i : Int) else .inl ()) (fun i s hi => by
  rw [hs i hi]; cases p a[i] <;> rfl) (fun _ => he) ()
 refine ⟨_, hl, ?_⟩
 have key : ∀ (m : List Sp) (i : Nat), (runL (fun i _ x => bif p x then (.inr (i : Int) : Unit ⊕ Int) else .inl ()) i m () = .inl () /\ m.any p = false) \/ ∃ k : Nat, runL (fun i _ x => bif p x then (.inr (i : Int) : Unit ⊕ Int) else .inl ()) i m () = .inr (k : Int) /\ m.any p = true := by
  intro m
  induction m with
  | nil => intro i; exact .inl ⟨rfl, rfl⟩
  | cons x m ih =>
   intro i
   simp only [runL, List.any_cons]
   cases p x with
   | true => exact .inr ⟨i, rfl, rfl⟩
   | false => exact ih (i + 1)
 rcases key a 0 with ⟨e, g⟩ | ⟨k, e, g⟩
 ·rw [e]; exact .inl ⟨rfl, g⟩
 ·rw [e]; exact .inr ⟨k, rfl, g⟩
theorem implHas_eq (a : List Sp) (n : Int) (h : a.length <= 1048576) : F.impl_SetHas a n = some (hasB a n) := by
 unfold F.impl_SetHas F.slices_ContainsFunc_Span__impl_SetHas_1 F.slices_IndexFunc_Span__impl_SetHas_1
 obtain ⟨y, hy, hr⟩ := indexFunc_eq (step := F.slices_IndexFunc_Span__impl_SetHas_1.s2) a n (fun x => inR x.1 x.2.1 n) h (fun i hi => by
  unfold F.slices_IndexFunc_Span__impl_SetHas_1.s2 F.impl_SetHas_1
  simp only
  rw [lt_len hi, inb_nat hi, Int.toNat_natCast, w64_nat (by omega), getD_at hi, within_eq]
  simp only [cond_true, chk_true, Option.bind_some]
  cases inR a[i].1 a[i].2.1 n <;> rfl) (by
  unfold F.slices_IndexFunc_Span__impl_SetHas_1.s2
  simp only [ge_len, cond_false])
 simp only [hy]
 unfold hasB
 rcases hr with ⟨rfl, e⟩ | ⟨i, rfl, e⟩
 ·rw [e]; rfl
 ·rw [e]
  simp only [afterO, Option.bind_some]
  rw [show decide (((i : Nat) : Int) >= 0) = true from decide_eq_true (by omega)]
theorem has_mem {a : List Sp} {n : Int} : hasB a n = true ↔ ∃ x ∈ a, x.1 <= n /\ n <= x.2.1 := by
 unfold hasB
 rw [List.any_eq_true]
 exact ⟨fun ⟨x, hx, h⟩ => ⟨x, hx, inR_iff.1 h⟩, fun ⟨x, hx, h⟩ => ⟨x, hx, inR_iff.2 h⟩⟩
theorem specSet_dec (a : List Sp) (h : a.length <= 1048576) : F.spec_SetOk a = some (decB (Good a)) := by
 rcases specSet_ok a h with ⟨e, g⟩ | ⟨e, g⟩
 ·rw [e, decB_pos g]
 ·rw [e, decB_neg g]
theorem implSet_dec (a : List Sp) (h : a.length <= 1048576) : F.impl_SetOk a = some (decB (Good a)) := by
 rcases implSet_ok a h with ⟨e, g⟩ | ⟨e, g⟩
 ·rw [e, decB_pos g]
 ·rw [e, decB_neg g]
def ap1 (x y : Sp) : Bool := !(decide (x.1 <= y.2.1) && decide (y.1 <= x.2.1))
def apB (a b : List Sp) : Bool := a.all fun x => b.all fun y => ap1 x y
theorem specApart_in (a b : List Sp) (i : Nat) (hi : i < a.length) (hb : b.length <= 1048576) : loopO F.spec_SetApart.s7 (a, b, (i : Int), 0, ()) = some (bif b.all (ap1 a[i]) then .inl (a, b, (i : Int), ((b.length : Nat) : Int), ()) else .inr (.ret false)) :=
 loop_all (step := F.spec_SetApart.s7) b (fun k => (a, b, (i : Int), (k : Int), ())) (ap1 a[i]) (.ret false) (fun k hk => by
  unfold F.spec_SetApart.s7
  simp only
  rw [lt_len hk, inb_nat hi, inb_nat hk, Int.toNat_natCast, Int.toNat_natCast, w64_nat (by omega), getD_at hi, getD_at hk]
  simp only [cond_true, chk_true, ap1]
  cases decide (a[i].1 <= b[k].2.1) <;> cases decide (b[k].1 <= a[i].2.1) <;> rfl) (by
  unfold F.spec_SetApart.s7
  simp only [ge_len, cond_false])
theorem specApart_out (a b : List Sp) (ha : a.length <= 1048576) (hb : b.length <= 1048576) : loopO F.spec_SetApart.s4 (a, b, 0, ()) = some (bif apB a b then .inl (a, b, ((a.length : Nat) : Int), ()) else .inr false) :=
 loop_all (step := F.spec_SetApart.s4) a (fun k => (a, b, (k : Int), ())) (fun x => b.all (ap1 x)) false (fun k hk => by
  unfold F.spec_SetApart.s4
  simp only
  rw [lt_len hk, specApart_in a b k hk hb]
  simp only [cond_true]
  cases b.all (ap1 a[k]) with
  | false => rfl
  | true => simp only [cond_true, afterO]; rw [w64_nat (by omega)]) (by
  unfold F.spec_SetApart.s4
  simp only [ge_len, cond_false])
theorem implApart_in (a b : List Sp) (i : Nat) (x : Sp) (hb : b.length <= 1048576) : loopO F.impl_SetApart.s7 (b, a, len a, (i : Int), b, len b, 0, x, ()) = some (bif b.all (ap1 x) then .inl (b, a, len a, (i : Int), b, len b, ((b.length : Nat) : Int), x, ()) else .inr (.ret false)) :=
 loop_all (step := F.impl_SetApart.s7) b (fun k => (b, a, len a, (i : Int), b, len b, (k : Int), x, ())) (ap1 x) (.ret false) (fun k hk => by
  unfold F.impl_SetApart.s7
  simp only
  rw [lt_len hk, inb_nat hk, Int.toNat_natCast, w64_nat (by omega), getD_at hk]
  simp only [cond_true, chk_true, ap1]
  cases decide (x.1 <= b[k].2.1) <;> cases decide (b[k].1 <= x.2.1) <;> rfl) (by
  unfold F.impl_SetApart.s7
  simp only [ge_len, cond_false])
theorem implApart_out (a b : List Sp) (ha : a.length <= 1048576) (hb : b.length <= 1048576) : loopO F.impl_SetApart.s4 (b, a, len a, 0, ()) = some (bif apB a b then .inl (b, a, len a, ((a.length : Nat) : Int), ()) else .inr false) :=
 loop_all (step := F.impl_SetApart.s4) a (fun k => (b, a, len a, (k : Int), ())) (fun x => b.all (ap1 x)) false (fun k hk => by
  unfold F.impl_SetApart.s4
  simp only
  rw [lt_len hk, inb_nat hk, Int.toNat_natCast, getD_at hk, implApart_in a b k a[k] hb]
  simp only [cond_true, chk_true]
  cases b.all (ap1 a[k]) with
  | false => rfl
  | true => simp only [cond_true, afterO]; rw [w64_nat (by omega)]) (by
  unfold F.impl_SetApart.s4
  simp only [ge_len, cond_false])
theorem specApart_eq (a b : List Sp) (ha : a.length <= 1048576) (hb : b.length <= 1048576) : F.spec_SetApart a b = some (decB (Good a) && (decB (Good b) && apB a b)) := by
 unfold F.spec_SetApart
 simp only [specSet_dec a ha, specSet_dec b hb, Option.bind_some, specApart_out a b ha hb]
 cases decB (Good a) <;> cases decB (Good b) <;> cases apB a b <;> rfl
theorem implApart_eq (a b : List Sp) (ha : a.length <= 1048576) (hb : b.length <= 1048576) : F.impl_SetApart a b = some (decB (Good a) && (decB (Good b) && apB a b)) := by
 unfold F.impl_SetApart
 simp only [implSet_dec a ha, implSet_dec b hb, Option.bind_some, implApart_out a b ha hb]
 cases decB (Good a) <;> cases decB (Good b) <;> cases apB a b <;> rfl
theorem apB_comm (a b : List Sp) : apB a b = apB b a := by
 rw [Bool.eq_iff_iff]
 unfold apB
 simp only [List.all_eq_true]
 have : ∀ x y : Sp, ap1 x y = ap1 y x := fun x y => by unfold ap1; rw [Bool.and_comm]
 exact ⟨fun h y hy x hx => by rw [this]; exact h x hx y hy, fun h x hx y hy => by rw [this]; exact h y hy x hx⟩
def ends (l : List Sp) : Prop := ∀ x ∈ l, 0 <= x.1 /\ x.1 <= x.2.1 /\ x.2.1 <= 9999
theorem copySet_big (a : List DSpan) (h : a.length <= 4194304) : F.impl_copySet a = some a := by
 unfold F.impl_copySet
 rw [fits_of (by omega)]; rfl
theorem union_loop (s : List Sp) (h : s.length <= 4194304) (he : ends s) : ∃ e1 e2 e3, loopO F.impl_union.s5 ([], s, len s, 0, ()) = some (.inl (uniS s, e1, e2, e3, ())) := by
 have key : ∀ (m p pre : List Sp) (c : Sp), s = p ++ m -> pre.length + 1 <= p.length -> 0 <= c.2.1 /\ c.2.1 <= 9999 ->
   iterO F.impl_union.s5 (m.length + 1) (pre ++ [c], s, len s, ((p.length : Nat) : Int), ()) = some (.inl (pre ++ runS c m, s, len s, ((s.length : Nat) : Int), ())) := by
  intro m
  induction m with
  | nil =>
   intro p pre c hp hl hc
   have hpl : p.length = s.length := by rw [hp]; simp
   unfold iterO F.impl_union.s5
   simp only [hpl, ge_len, cond_false, runS]
  | cons y m ih =>
   intro p pre c hp hl hc
   have hk : p.length < s.length := by rw [hp]; simp
   have hg : s[p.length] = y := by simp [hp]
   have hy := he y (by rw [hp]; simp)
   have hst : F.impl_union.s5 (pre ++ [c], s, len s, ((p.length : Nat) : Int), ()) = some (.again (if y.1 <= c.2.1 + 1 then (pre ++ [(c.1, mxI c.2.1 y.2.1, ())], s, len s, ((p.length + 1 : Nat) : Int), ()) else ((pre ++ [c]) ++ [y], s, len s, ((p.length + 1 : Nat) : Int), ()))) := by
    unfold F.impl_union.s5
    have hln : len (pre ++ [c]) = ((pre.length : Nat) : Int) + 1 := by simp [len]
    have hpr : pre.length < (pre ++ [c]).length := by simp
    simp only
    rw [lt_len hk, inb_nat hk, Int.toNat_natCast, getD_at hk, w64_nat (by omega), hg, hln, show decide (((pre.length : Nat) : Int) + 1 > 0) = true from decide_eq_true (by omega), w64_id (x := ((pre.length : Nat) : Int) + 1 - 1) (by omega) (by omega), show ((pre.length : Nat) : Int) + 1 - 1 = ((pre.length : Nat) : Int) by omega, inb_nat hpr, Int.toNat_natCast, getD_mid, set_mid, w64_id (by omega) (by omega)]
    simp only [cond_true, chk_true, List.length_append, List.length_cons, List.length_nil, Option.bind_some]
    rw [fits_of (by omega)]
    by_cases hc1 : y.1 <= c.2.1 + 1
    ·rw [decide_eq_true hc1, if_pos hc1]; rfl
    ·rw [decide_eq_false hc1, if_neg hc1]; rfl
   rw [List.length_cons, iterO, hst, runS]
   simp only
   by_cases hc1 : y.1 <= c.2.1 + 1
   ·rw [if_pos hc1, if_pos hc1]
    have := ih (p ++ [y]) pre (c.1, mxI c.2.1 y.2.1, ()) (by simp [hp]) (by simp; omega) (by simp only [mxI]; split <;> omega)
    rw [List.length_append] at this
    exact this
   ·rw [if_neg hc1, if_neg hc1]
    have := ih (p ++ [y]) (pre ++ [c]) y (by simp [hp]) (by simp; omega) ⟨by omega, by omega⟩
    rw [List.length_append] at this
    simp only [List.append_assoc] at this ⊢
    exact this
 cases hs : s with
 | nil => exact ⟨_, _, _, loopO_of (n := 1) (by unfold iterO F.impl_union.s5; rfl)⟩
 | cons x l =>
  rw [<- hs]
  have hk : 0 < s.length := by rw [hs]; simp
  have hg : s[0] = x := by simp [hs]
  have hx := he x (by rw [hs]; simp)
  have hst : F.impl_union.s5 ([], s, len s, 0, ()) = some (.again ([x], s, len s, 1, ())) := by
   unfold F.impl_union.s5
   simp only
   have h0 := lt_len hk
   have h1 := inb_nat hk
   simp only [Int.natCast_zero] at h0 h1
   rw [h0, h1, show (0 : Int).toNat = 0 from rfl, getD_at hk, hg]
   simp only [cond_true, chk_true, show decide (len ([] : List Sp) > 0) = false from rfl, cond_false, List.length_cons, List.length_nil]
   rw [fits_of (by omega)]; rfl
  have := key l [x] [] x (by rw [hs]; rfl) (by simp) ⟨by omega, by omega⟩
  refine ⟨s, len s, ((s.length : Nat) : Int), loopO_of (n := l.length + 1 + 1) ?_⟩
  rw [iterO, hst]
  rw [hs] at this ⊢
  exact this
theorem ends_perm {a b : List Sp} (h : a.Perm b) (hb : ends b) : ends a := fun x hx => hb x (h.mem_iff.1 hx)
theorem sortS_ends {l : List Sp} (h : ends l) : ends (sortS l) := ends_perm (sortS_perm l) h
theorem union_eq (l : List Sp) (h : l.length <= 4194304) (he : ends l) : F.impl_union l = some (uniS (sortS l)) := by
 unfold F.impl_union F.slices_SortFunc_Span__impl_union_1
 rw [copySet_big l h]
 simp only [Option.bind_some]
 rw [show decide (l.length <= 4000000000000) = true from decide_eq_true (by omega)]
 have hl : (sortS l).length = l.length := (sortS_perm l).length_eq
 obtain ⟨e1, e2, e3, hh⟩ := union_loop (sortS l) (by omega) (sortS_ends he)
 simp only [chk_true, Option.bind_some, hh, afterO]
theorem okF_ends {s : List Sp} (h : okF 0 s) : ends s := fun x hx => okF_all h x hx
theorem okF_small {s : List Sp} (h : okF 0 s) : s.length <= 5001 := by
 rcases okF_len (Int.le_refl 0) h with e | e
 ·omega
 ·rw [e]; simp
theorem union_join (a b : List Sp) (h : (a ++ b).length <= 4194304) (ha : okF 0 a) (hb : ends b) : F.impl_union (a ++ b) = some (joinS a b) := by
 rw [union_eq _ h (fun x hx => (List.mem_append.1 hx).elim (okF_ends ha x) (hb x)), uni_join ha hb (sortS_perm _) (sortS_sorted _)]
theorem l5Join_eq (a b : List Sp) (ha : okF 0 a) (hb : ends b) (hl : b.length <= 1000000) : F.spec_l5Join a b = some (joinS a b) := by
 have hs := okF_small ha
 unfold F.spec_l5Join
 rw [l5Copy_eq a (by omega)]
 simp only [Option.bind_some]
 have hh := loop_foldP (step := F.spec_l5Join.s3) b (fun (i : Nat) (s : List Sp) => (b, s, (i : Int), ())) (fun s x => put x s) (fun _ s => okF 0 s) (fun i s hi hp => by
  have hx := hb _ (List.getElem_mem hi)
  have := okF_small hp
  refine ⟨?_, put_ok hp hx.1 hx.2.1 hx.2.2⟩
  unfold F.spec_l5Join.s3
  simp only
  rw [lt_len hi, inb_nat hi, Int.toNat_natCast, getD_at hi, w64_nat (by omega), l5Put_eq s b[i] (by omega) (Int.le_refl 0) hp hx.1 hx.2.1 hx.2.2]
  rfl) (fun s hp => by
  unfold F.spec_l5Join.s3
  simp only [ge_len, cond_false]) (s := a) ha
 have h1 : loopO F.spec_l5Join.s3 (b, a, 0, ()) = _ := hh.1
 rw [h1]
 rfl
def l3B (l : List Int) (n m : Int) (z : Bool) : Bool := (len l == n) && l.all (fun x => inR 0 m x && (!z || x == 0))
theorem l3List_eq (l : List Int) (n : Nat) (m : Int) (z : Bool) (h : l.length <= 1048576) : F.spec_l3List l n m z = some (l3B l n m z) := by
 unfold F.spec_l3List l3B
 by_cases hl : l.length = n
 ·subst hl
  rw [show (len l != ((l.length : Nat) : Int)) = false by simp [len], show (len l == ((l.length : Nat) : Int)) = true by simp [len]]
  have hh := loop_all (step := F.spec_l3List.s4) l (fun i => (l, ((l.length : Nat) : Int), m, z, (i : Int), ())) (fun x => inR 0 m x && (!z || x == 0)) false (fun i hi => by
   unfold F.spec_l3List.s4
   simp only
   rw [show decide ((i : Int) < ((l.length : Nat) : Int)) = true from decide_eq_true (by omega), inb_nat hi, Int.toNat_natCast, w64_nat (by omega), getD_at hi, l1In_eq]
   simp only [cond_true, chk_true, Option.bind_some]
   cases inR 0 m l[i] with
   | false => rfl
   | true =>
    cases z with
    | false => rfl
    | true =>
     simp only [Bool.not_true, cond_false, cond_true, Bool.false_or, Bool.true_and]
     cases hx : (l[i] == 0) with
     | true => simp [bne, hx]
     | false => simp [bne, hx]) (by
   unfold F.spec_l3List.s4
   simp only
   rw [show decide (((l.length : Nat) : Int) < ((l.length : Nat) : Int)) = false from decide_eq_false (by omega)]; rfl)
  simp only [cond_false, Bool.true_and]
  refine (congrArg (fun z => afterO z _) hh).trans ?_
  cases l.all (fun x => inR 0 m x && (!z || x == 0)) <;> rfl
 ·rw [show (len l != (n : Int)) = true by simp only [len, bne_iff_ne, ne_eq]; omega, show (len l == (n : Int)) = false by simp only [len, beq_eq_false_iff_ne, ne_eq]; omega]
  rfl
structure SkR (s : DSketch) : Prop where
 cnt : 0 <= s.1 /\ s.1 <= 1000000000
 sum : 0 <= s.2.1 /\ s.2.1 <= 1000000000
 mn : 0 <= s.2.2.1
 mm : s.2.2.1 <= s.2.2.2.1
 mx : s.2.2.2.1 <= 1000000
 zero : s.1 = 0 -> s.2.1 = 0 /\ s.2.2.2.1 = 0
 hist : s.2.2.2.2.1.length = 8 /\ ∀ x ∈ s.2.2.2.2.1, (0 <= x /\ x <= 1000000000) /\ (s.1 = 0 -> x = 0)
 regs : s.2.2.2.2.2.1.length = 8 /\ ∀ x ∈ s.2.2.2.2.2.1, (0 <= x /\ x <= 17) /\ (s.1 = 0 -> x = 0)
 rows : ∃ r0 r1, s.2.2.2.2.2.2.1 = [r0, r1] /\ (r0.length = 4 /\ ∀ x ∈ r0, (0 <= x /\ x <= 1000000000) /\ (s.1 = 0 -> x = 0)) /\ (r1.length = 4 /\ ∀ x ∈ r1, (0 <= x /\ x <= 1000000000) /\ (s.1 = 0 -> x = 0))
theorem l3B_iff {l : List Int} {n : Nat} {m : Int} {c : Int} : l3B l n m (c == 0) = true ↔ l.length = n /\ ∀ x ∈ l, (0 <= x /\ x <= m) /\ (c = 0 -> x = 0) := by
 unfold l3B
 rw [Bool.and_eq_true, List.all_eq_true, beq_iff_eq]
 constructor
 ·rintro ⟨h1, h2⟩
  refine ⟨Int.ofNat.inj h1, fun x hx => ?_⟩
  have := h2 x hx
  rw [Bool.and_eq_true, inR_iff] at this
  refine ⟨this.1, fun hc => ?_⟩
  have h3 := this.2
  rw [show (c == 0) = true by simp [hc]] at h3
  simpa using h3
 ·rintro ⟨h1, h2⟩
  refine ⟨congrArg Int.ofNat h1, fun x hx => ?_⟩
  obtain ⟨h3, h4⟩ := h2 x hx
  rw [Bool.and_eq_true, inR_iff]
  refine ⟨h3, ?_⟩
  by_cases hc : c = 0
  ·simp [hc, h4 hc]
  ·simp [hc]
def specB (c su mn mx : Int) (hi re r0 r1 : List Int) : Bool :=
 inR 0 1000000000 c && (inR 0 1000000000 su && (inR 0 1000000 mn && (inR 0 1000000 mx && (!decide (mn > mx) && ((!(c == 0) || (su == 0 && mx == 0)) && (l3B hi 8 1000000000 (c == 0) && (l3B re 8 17 (c == 0) && (l3B r0 4 1000000000 (c == 0) && l3B r1 4 1000000000 (c == 0)))))))))
theorem two_rows {l : List (List Int)} (h : l.length = 2) : ∃ a b, l = [a, b] := by
 match l, h with
 | [a, b], _ => exact ⟨a, b, rfl⟩
theorem specSk_eq (c su mn mx : Int) (hi re r0 r1 : List Int) (u : Unit) (h1 : hi.length <= 1048576) (h2 : re.length <= 1048576) (h3 : r0.length <= 1048576) (h4 : r1.length <= 1048576) : F.spec_SketchOk (c, su, mn, mx, hi, re, [r0, r1], u) = some (specB c su mn mx hi re r0 r1) := by
 unfold F.spec_SketchOk specB
 have e0 : F.spec_l3List hi 8 1000000000 (c == 0) = some (l3B hi 8 1000000000 (c == 0)) := l3List_eq hi 8 1000000000 (c == 0) h1
 have e1 : F.spec_l3List re 8 17 (c == 0) = some (l3B re 8 17 (c == 0)) := l3List_eq re 8 17 (c == 0) h2
 have e2 : F.spec_l3List r0 4 1000000000 (c == 0) = some (l3B r0 4 1000000000 (c == 0)) := l3List_eq r0 4 1000000000 (c == 0) h3
 have e3 : F.spec_l3List r1 4 1000000000 (c == 0) = some (l3B r1 4 1000000000 (c == 0)) := l3List_eq r1 4 1000000000 (c == 0) h4
 have i0 : inb 0 [r0, r1].length = true := rfl
 have i1 : inb 1 [r0, r1].length = true := rfl
 have il : (len [r0, r1] != 2) = false := rfl
 simp only [l1In_eq, Option.bind_some, e0, e1, i0, i1, il, chk_true, List.getD_cons_zero, List.getD_cons_succ, e2, e3]
 cases inR 0 1000000000 c with
 | false => rfl
 | true => cases inR 0 1000000000 su with
  | false => rfl
  | true => cases inR 0 1000000 mn with
   | false => rfl
   | true => cases inR 0 1000000 mx with
    | false => rfl
    | true => cases decide (mn > mx) with
     | true => rfl
     | false =>
      generalize l3B hi 8 1000000000 (c == 0) = b1
      generalize l3B re 8 17 (c == 0) = b2
      generalize l3B r0 4 1000000000 (c == 0) = b3
      generalize l3B r1 4 1000000000 (c == 0) = b4
      cases (c == 0) with
      | false => cases b1 <;> cases b2 <;> cases b3 <;> rfl
      | true =>
       cases hs : (su == 0) with
       | false => simp [bne, hs]
       | true => cases hm : (mx == 0) with
        | false => simp [bne, hs, hm]
        | true => simp only [bne, hs, hm]; cases b1 <;> cases b2 <;> cases b3 <;> rfl
theorem specB_iff {c su mn mx : Int} {hi re r0 r1 : List Int} {u : Unit} : specB c su mn mx hi re r0 r1 = true ↔ SkR (c, su, mn, mx, hi, re, [r0, r1], u) := by
 have g0 : l3B hi 8 1000000000 (c == 0) = true ↔ _ := @l3B_iff hi 8 1000000000 c
 have g1 : l3B re 8 17 (c == 0) = true ↔ _ := @l3B_iff re 8 17 c
 have g2 : l3B r0 4 1000000000 (c == 0) = true ↔ _ := @l3B_iff r0 4 1000000000 c
 have g3 : l3B r1 4 1000000000 (c == 0) = true ↔ _ := @l3B_iff r1 4 1000000000 c
 unfold specB
 simp only [Bool.and_eq_true, inR_iff, g0, g1, g2, g3, Bool.not_eq_true', decide_eq_false_iff_not, Bool.or_eq_true, beq_eq_false_iff_ne, beq_iff_eq]
 constructor
 ·rintro ⟨a1, a2, a3, a4, a5, a6, a7, a8, a9, a10⟩
  exact ⟨a1, a2, a3.1, by simp only; omega, a4.2, fun hc => a6.resolve_left (fun h => h hc), a7, a8, r0, r1, rfl, a9, a10⟩
 ·rintro ⟨a1, a2, a3, a4, a5, a6, a7, a8, s0, s1, hs, a9, a10⟩
  cases hs
  simp only at *
  refine ⟨a1, a2, ⟨by omega, by omega⟩, ⟨by omega, a5⟩, by omega, ?_, a7, a8, a9, a10⟩
  by_cases hc : c = 0
  ·exact .inr (a6 hc)
  ·exact .inl hc
theorem flat_len : ∀ (l : List (List Int)), l.flatten.length = (l.map List.length).sum
 | [] => rfl
 | x :: l => by simp [flat_len l]
theorem take_flat_le (l : List (List Int)) (i : Nat) : (l.take i).flatten.length <= l.flatten.length := by
 have h := congrArg (fun z : List (List Int) => z.flatten.length) (List.take_append_drop i l)
 simp only [List.flatten_append, List.length_append] at h
 omega
theorem counts_eq (s : DSketch) (h : zSketch s <= 1048576) : F.impl_counts s = some ((s.2.2.2.2.1 ++ s.2.2.2.2.2.1) ++ s.2.2.2.2.2.2.1.flatten) := by
 have hz : s.2.2.2.2.1.length + s.2.2.2.2.2.1.length + (s.2.2.2.2.2.2.1.length + s.2.2.2.2.2.2.1.flatten.length) <= 1048576 := by
  rw [flat_len]; exact h
 unfold F.impl_counts F.impl_copyInts
 rw [fits_of (by omega), chk_true, Option.bind_some, fits_of (by omega), chk_true]
 have hl := loop_run (step := F.impl_counts.s3) (fun i => ((s.2.2.2.2.1 ++ s.2.2.2.2.2.1) ++ (s.2.2.2.2.2.2.1.take i).flatten, s.2.2.2.2.2.2.1, len s.2.2.2.2.2.2.1, (i : Int), ())) s.2.2.2.2.2.2.1.length (fun i hi => by
  have h1 := take_flat_le s.2.2.2.2.2.2.1 (i + 1)
  have h2 : (s.2.2.2.2.2.2.1.take (i + 1)).flatten = (s.2.2.2.2.2.2.1.take i).flatten ++ s.2.2.2.2.2.2.1[i] := by
   rw [List.take_succ_eq_append_getElem hi, List.flatten_append]; simp
  rw [h2, List.length_append] at h1
  unfold F.impl_counts.s3
  simp only
  rw [lt_len hi, inb_nat hi, Int.toNat_natCast, w64_nat (by omega), getD_at hi, fits_of (by simp only [List.length_append]; omega), h2]
  simp only [cond_true, chk_true, List.append_assoc]) (l := .exit ((s.2.2.2.2.1 ++ s.2.2.2.2.2.1) ++ s.2.2.2.2.2.2.1.flatten, s.2.2.2.2.2.2.1, len s.2.2.2.2.2.2.1, ((s.2.2.2.2.2.2.1.length : Nat) : Int), ())) (y := .inl ((s.2.2.2.2.1 ++ s.2.2.2.2.2.1) ++ s.2.2.2.2.2.2.1.flatten, s.2.2.2.2.2.2.1, len s.2.2.2.2.2.2.1, ((s.2.2.2.2.2.2.1.length : Nat) : Int), ())) (by
  unfold F.impl_counts.s3
  simp only [ge_len, cond_false, List.take_length]) rfl
 have e0 : (s.2.2.2.2.1 ++ s.2.2.2.2.2.1) ++ (s.2.2.2.2.2.2.1.take 0).flatten = s.2.2.2.2.1 ++ s.2.2.2.2.2.1 := by simp
 have hl : loopO F.impl_counts.s3 ((s.2.2.2.2.1 ++ s.2.2.2.2.2.1) ++ (s.2.2.2.2.2.2.1.take 0).flatten, s.2.2.2.2.2.2.1, len s.2.2.2.2.2.2.1, 0, ()) = _ := hl
 rw [e0] at hl
 simp only [hl, afterO]
theorem sum_loop (l : List Int) (s : DSketch) (h : l.length <= 1048576) : loopO F.impl_SketchOk.s5 (0, l, len l, 0, s, ()) = some (bif l.all (inR 0 1000000000) then .inl (l.sum, l, len l, ((l.length : Nat) : Int), s, ()) else .inr false) := by
 obtain ⟨h1, _⟩ := loop_l (step := F.impl_SketchOk.s5) l (fun i acc => (acc, l, len l, (i : Int), s, ())) (fun _ acc x => bif inR 0 1000000000 x then .inl (acc + x) else .inr false) (fun i acc => 0 <= acc /\ acc <= (i : Int) * 1000000000) (fun i acc hi hp => by
  unfold F.impl_SketchOk.s5
  simp only
  rw [lt_len hi, inb_nat hi, Int.toNat_natCast, w64_nat (by omega), getD_at hi, within_eq]
  simp only [cond_true, chk_true, Option.bind_some]
  cases hx : inR 0 1000000000 l[i] with
  | false => exact ⟨rfl, fun s' e => by cases e⟩
  | true =>
   have hb := inR_iff.1 hx
   rw [w64_id (x := acc + l[i]) (by omega) (by omega)]
   refine ⟨rfl, fun s' e => ?_⟩
   cases e
   refine ⟨by omega, ?_⟩
   rw [show ((i + 1 : Nat) : Int) * 1000000000 = (i : Int) * 1000000000 + 1000000000 by omega]
   omega) (fun acc _ => by
  unfold F.impl_SketchOk.s5
  simp only [ge_len, cond_false]) (s := 0) ⟨Int.le_refl 0, by omega⟩
 refine h1.trans (congrArg some ?_)
 have key : ∀ (m : List Int) (i : Nat) (acc : Int), Sum.map (fun acc => (acc, l, len l, ((l.length : Nat) : Int), s, ())) id (runL (fun _ acc x => bif inR 0 1000000000 x then (.inl (acc + x) : Int ⊕ Bool) else .inr false) i m acc) = bif m.all (inR 0 1000000000) then .inl (acc + m.sum, l, len l, ((l.length : Nat) : Int), s, ()) else .inr false := by
  intro m
  induction m with
  | nil => intro i acc; simp [runL]
  | cons x m ih =>
   intro i acc
   simp only [runL, List.all_cons]
   cases inR 0 1000000000 x with
   | false => rfl
   | true =>
    simp only [cond_true, ih, Bool.true_and, List.sum_cons, Int.add_assoc]
 rw [key l 0 0, Int.zero_add]
theorem max_loop (l : List Int) (n : Int) (s : DSketch) (h : l.length <= 1048576) : loopO F.impl_SketchOk.s12 (n, l, len l, 0, s, ()) = some (bif l.all (fun x => !decide (x > 17)) then .inl (n, l, len l, ((l.length : Nat) : Int), s, ()) else .inr false) :=
 loop_all (step := F.impl_SketchOk.s12) l (fun i => (n, l, len l, (i : Int), s, ())) (fun x => !decide (x > 17)) false (fun i hi => by
  unfold F.impl_SketchOk.s12
  simp only
  rw [lt_len hi, inb_nat hi, Int.toNat_natCast, w64_nat (by omega), getD_at hi]
  simp only [cond_true, chk_true]
  cases decide (l[i] > 17) <;> rfl) (by
  unfold F.impl_SketchOk.s12
  simp only [ge_len, cond_false])
theorem sum_zero : ∀ {l : List Int}, (∀ x ∈ l, 0 <= x) -> (0 <= l.sum /\ (l.sum = 0 ↔ ∀ x ∈ l, x = 0))
 | [], _ => ⟨Int.le_refl 0, by simp⟩
 | x :: l, h => by
  obtain ⟨h1, h2⟩ := sum_zero (l := l) (fun y hy => h y (by simp [hy]))
  have h3 := h x (by simp)
  rw [List.sum_cons]
  refine ⟨by omega, ⟨fun e y hy => ?_, fun e => ?_⟩⟩
  ·rcases List.mem_cons.1 hy with rfl | hy
   ·omega
   ·exact h2.1 (by omega) y hy
  ·have := h2.2 (fun y hy => e y (by simp [hy]))
   have := e x (by simp)
   omega
def implB (c su mn mx : Int) (hi re r0 r1 : List Int) : Bool :=
 (((hi ++ re) ++ [r0, r1].flatten) ++ [c, su, mn, mx]).all (inR 0 1000000000) && (re.all (fun x => !decide (x > 17)) && (if c = 0 then (((hi ++ re) ++ [r0, r1].flatten) ++ [c, su, mn, mx]).sum == 0 else decide (mn <= mx) && decide (mx <= 1000000)))
theorem implSk_eq (c su mn mx : Int) (hi re r0 r1 : List Int) (u : Unit) (h : zSketch (c, su, mn, mx, hi, re, [r0, r1], u) <= 1048576) (h1 : hi.length = 8) (h2 : re.length = 8) (h3 : r0.length = 4) (h4 : r1.length = 4) : F.impl_SketchOk (c, su, mn, mx, hi, re, [r0, r1], u) = some (implB c su mn mx hi re r0 r1) := by
 unfold F.impl_SketchOk implB
 have hc := counts_eq (c, su, mn, mx, hi, re, [r0, r1], u) h
 simp only at hc
 have e1 : (len hi != 8) = false := by simp [len, h1]
 have e2 : (len re != 8) = false := by simp [len, h2]
 have e3 : (len [r0, r1] != 2) = false := rfl
 have e4 : (len r0 != 4) = false := by simp [len, h3]
 have e5 : (len r1 != 4) = false := by simp [len, h4]
 have i0 : inb 0 [r0, r1].length = true := rfl
 have i1 : inb 1 [r0, r1].length = true := rfl
 simp only [e1, e2, e3, i0, i1, chk_true, List.getD_cons_zero, List.getD_cons_succ, e4, e5, cond_false, hc, Option.bind_some]
 have hn : (((hi ++ re) ++ [r0, r1].flatten) ++ [c, su, mn, mx]).length = 28 := by simp [h1, h2, h3, h4]
 have hn2 : ((hi ++ re) ++ [r0, r1].flatten).length = 24 := by simp [h1, h2, h3, h4]
 rw [fits_of (by rw [hn2]; simp), chk_true, sum_loop _ _ (by rw [hn]; omega)]
 generalize ((hi ++ re) ++ [r0, r1].flatten) ++ [c, su, mn, mx] = nums at *
 cases nums.all (inR 0 1000000000) with
 | false => rfl
 | true =>
  simp only [cond_true, afterO, Bool.true_and]
  rw [max_loop _ _ _ (by omega)]
  cases re.all (fun x => !decide (x > 17)) with
  | false => rfl
  | true =>
   simp only [cond_true, Bool.true_and]
   by_cases hc0 : c = 0
   ·rw [if_pos hc0, show (c == 0) = true by simp [hc0]]; rfl
   ·rw [if_neg hc0, show (c == 0) = false by simp [hc0]]
    simp only [cond_false]
    cases decide (mn <= mx) <;> rfl
theorem implB_iff {c su mn mx : Int} {hi re r0 r1 : List Int} {u : Unit} (h1 : hi.length = 8) (h2 : re.length = 8) (h3 : r0.length = 4) (h4 : r1.length = 4) : implB c su mn mx hi re r0 r1 = true ↔ SkR (c, su, mn, mx, hi, re, [r0, r1], u) := by
 unfold implB
 have hall : (((hi ++ re) ++ [r0, r1].flatten) ++ [c, su, mn, mx]).all (inR 0 1000000000) = true ↔ ∀ x ∈ ((hi ++ re) ++ [r0, r1].flatten) ++ [c, su, mn, mx], 0 <= x /\ x <= 1000000000 := by
  rw [List.all_eq_true]
  exact ⟨fun h x hx => inR_iff.1 (h x hx), fun h x hx => inR_iff.2 (h x hx)⟩
 have hmem : ∀ x, x ∈ ((hi ++ re) ++ [r0, r1].flatten) ++ [c, su, mn, mx] ↔ (x ∈ hi \/ x ∈ re \/ x ∈ r0 \/ x ∈ r1 \/ x = c \/ x = su \/ x = mn \/ x = mx) := by
  intro x; simp
 have h17 : re.all (fun x => !decide (x > 17)) = true ↔ ∀ x ∈ re, x <= 17 := by
  rw [List.all_eq_true]
  refine ⟨fun h x hx => ?_, fun h x hx => ?_⟩
  ·have := h x hx; simp at this; omega
  ·have := h x hx; simp; omega
 rw [Bool.and_eq_true, Bool.and_eq_true, hall, h17]
 constructor
 ·rintro ⟨a1, a2, a3⟩
  have q : ∀ x, (x ∈ hi \/ x ∈ re \/ x ∈ r0 \/ x ∈ r1 \/ x = c \/ x = su \/ x = mn \/ x = mx) -> 0 <= x /\ x <= 1000000000 := fun x hx => a1 x ((hmem x).2 hx)
  have qc := q c (by simp)
  have qs := q su (by simp)
  have qn := q mn (by simp)
  have qx := q mx (by simp)
  by_cases hc : c = 0
  ·rw [if_pos hc, beq_iff_eq] at a3
   have hz := (sum_zero (fun x hx => (a1 x hx).1)).2.1 a3
   have z : ∀ x, (x ∈ hi \/ x ∈ re \/ x ∈ r0 \/ x ∈ r1 \/ x = c \/ x = su \/ x = mn \/ x = mx) -> x = 0 := fun x hx => hz x ((hmem x).2 hx)
   have zs := z su (by simp)
   have zn := z mn (by simp)
   have zx := z mx (by simp)
   exact ⟨qc, qs, by simp only; omega, by simp only; omega, by simp only; omega, fun _ => ⟨zs, zx⟩, ⟨h1, fun x hx => ⟨q x (.inl hx), fun _ => z x (.inl hx)⟩⟩, ⟨h2, fun x hx => ⟨⟨(q x (.inr (.inl hx))).1, a2 x hx⟩, fun _ => z x (.inr (.inl hx))⟩⟩,
    r0, r1, rfl, ⟨h3, fun x hx => ⟨q x (by simp [hx]), fun _ => z x (by simp [hx])⟩⟩, ⟨h4, fun x hx => ⟨q x (by simp [hx]), fun _ => z x (by simp [hx])⟩⟩⟩
  ·rw [if_neg hc, Bool.and_eq_true, decide_eq_true_eq, decide_eq_true_eq] at a3
   exact ⟨qc, qs, qn.1, a3.1, a3.2, fun h => absurd h hc, ⟨h1, fun x hx => ⟨q x (.inl hx), fun h => absurd h hc⟩⟩, ⟨h2, fun x hx => ⟨⟨(q x (.inr (.inl hx))).1, a2 x hx⟩, fun h => absurd h hc⟩⟩,
    r0, r1, rfl, ⟨h3, fun x hx => ⟨q x (by simp [hx]), fun h => absurd h hc⟩⟩, ⟨h4, fun x hx => ⟨q x (by simp [hx]), fun h => absurd h hc⟩⟩⟩
 ·rintro ⟨b1, b2, b3, b4, b5, b6, b7, b8, s0, s1, hs, b9, b10⟩
  cases hs
  simp only at b1 b2 b3 b4 b5 b6 b7 b8 b9 b10
  refine ⟨fun x hx => ?_, fun x hx => (b8.2 x hx).1.2, ?_⟩
  ·rcases (hmem x).1 hx with h | h | h | h | h | h | h | h
   ·exact (b7.2 x h).1
   ·have := (b8.2 x h).1; omega
   ·exact (b9.2 x h).1
   ·exact (b10.2 x h).1
   all_goals omega
  ·by_cases hc : c = 0
   ·rw [if_pos hc, beq_iff_eq]
    obtain ⟨z1, z2⟩ := b6 hc
    have hz : ∀ x ∈ ((hi ++ re) ++ [r0, r1].flatten) ++ [c, su, mn, mx], x = 0 := fun x hx => by
     rcases (hmem x).1 hx with h | h | h | h | h | h | h | h
     ·exact (b7.2 x h).2 hc
     ·exact (b8.2 x h).2 hc
     ·exact (b9.2 x h).2 hc
     ·exact (b10.2 x h).2 hc
     all_goals omega
    exact (sum_zero (fun x hx => by rw [hz x hx]; exact Int.le_refl 0)).2.2 hz
   ·rw [if_neg hc, Bool.and_eq_true, decide_eq_true_eq, decide_eq_true_eq]
    exact ⟨b4, b5⟩
theorem skOk_same (s : DSketch) (h : zSketch s <= 1048576) : ∃ b, F.spec_SketchOk s = some b /\ F.impl_SketchOk s = some b /\ (b = true ↔ SkR s) := by
 obtain ⟨c, su, mn, mx, hi, re, ro, u⟩ := s
 have hz : hi.length + re.length + (ro.length + (ro.map List.length).sum) <= 1048576 := h
 by_cases hr : ro.length = 2
 ·obtain ⟨r0, r1, rfl⟩ := two_rows hr
  simp only [List.map_cons, List.map_nil, List.sum_cons, List.sum_nil] at hz
  have hsp := specSk_eq c su mn mx hi re r0 r1 u (by omega) (by omega) (by omega) (by omega)
  by_cases hl : hi.length = 8 /\ re.length = 8 /\ r0.length = 4 /\ r1.length = 4
  ·obtain ⟨h1, h2, h3, h4⟩ := hl
   have him := implSk_eq c su mn mx hi re r0 r1 u h h1 h2 h3 h4
   have e : implB c su mn mx hi re r0 r1 = specB c su mn mx hi re r0 r1 := by
    rw [Bool.eq_iff_iff, implB_iff (u := u) h1 h2 h3 h4, specB_iff]
   exact ⟨_, hsp, him.trans (congrArg some e), specB_iff⟩
  ·have hb : specB c su mn mx hi re r0 r1 = false := by
    cases hb : specB c su mn mx hi re r0 r1 with
    | false => rfl
    | true =>
     obtain ⟨_, _, _, _, _, _, b7, b8, s0, s1, hs, b9, b10⟩ := (specB_iff (u := u)).1 hb
     cases hs
     exact absurd ⟨b7.1, b8.1, b9.1, b10.1⟩ hl
   refine ⟨false, hsp.trans (congrArg some hb), ?_, ?_⟩
   ·unfold F.impl_SketchOk
    have e3 : (len [r0, r1] != 2) = false := rfl
    have i0 : inb 0 [r0, r1].length = true := rfl
    have i1 : inb 1 [r0, r1].length = true := rfl
    simp only [e3, i0, i1, chk_true, List.getD_cons_zero, List.getD_cons_succ]
    by_cases h1 : hi.length = 8
    ·rw [show (len hi != 8) = false by simp [len, h1]]
     by_cases h2 : re.length = 8
     ·rw [show (len re != 8) = false by simp [len, h2]]
      by_cases h3 : r0.length = 4
      ·rw [show (len r0 != 4) = false by simp [len, h3]]
       have h4 : r1.length ≠ 4 := fun h4 => hl ⟨h1, h2, h3, h4⟩
       rw [show (len r1 != 4) = true by simp only [len, bne_iff_ne, ne_eq]; omega]; rfl
      ·rw [show (len r0 != 4) = true by simp only [len, bne_iff_ne, ne_eq]; omega]; rfl
     ·rw [show (len re != 8) = true by simp only [len, bne_iff_ne, ne_eq]; omega]; rfl
    ·rw [show (len hi != 8) = true by simp only [len, bne_iff_ne, ne_eq]; omega]; rfl
   ·rw [<- hb]; exact specB_iff
 ·refine ⟨false, ?_, ?_, ⟨fun h => (by cases h), fun hs => ?_⟩⟩
  ·unfold F.spec_SketchOk
   simp only [l1In_eq, Option.bind_some]
   rw [show (len ro != 2) = true by simp only [len, bne_iff_ne, ne_eq]; omega]
   cases inR 0 1000000000 c <;> cases inR 0 1000000000 su <;> cases inR 0 1000000 mn <;> cases inR 0 1000000 mx <;> cases decide (mn > mx) <;> rfl
  ·unfold F.impl_SketchOk
   simp only
   rw [show (len ro != 2) = true by simp only [len, bne_iff_ne, ne_eq]; omega]
   cases (len hi != 8) <;> cases (len re != 8) <;> rfl
  ·obtain ⟨r0, r1, hr', _⟩ := hs.rows
   have hr' : ro = [r0, r1] := hr'
   exact absurd (by rw [hr']; rfl) hr
structure ItR (x : DItem) : Prop where
 seq : 1 <= x.1 /\ x.1 <= 60
 cls : 0 <= x.2.1 /\ x.2.1 <= 1
 key : 0 <= x.2.2.1 /\ x.2.2.1 <= 4
 win : 0 <= x.2.2.2.1 /\ x.2.2.2.1 <= 20
 sk : SkR x.2.2.2.2.1
theorem l6Place_eq (k w : Int) : F.spec_l6Place k w = some (inR 0 4 k && inR 0 20 w) := by
 unfold F.spec_l6Place
 simp only [l1In_eq, Option.bind_some]
 cases inR 0 4 k <;> rfl
def zRow (a : DRow) : Nat := zEntryS a.1
def fRow (a : DRow) : Prop := fEntryS a.1
theorem toRow (a : DRow) (h : zRow a <= 1048576) : F.laws_toRow a = some a := by
 unfold F.laws_toRow
 simp only [toEntryS a.1 (by unfold zRow at h; omega), Option.bind_some]
theorem eqRow (a : DRow) (h : zRow a <= 1099511627776) : F.laws_eqRow a a = some true := by
 unfold F.laws_eqRow
 simp only [cond_false, Bool.not_true, Option.bind_some, eqEntryS a.1 (by unfold zRow at h; omega)]
theorem szRow (a : DRow) (n : Int) (hf : fRow a) (h0 : 0 <= n) (h1 : n <= 1048576) : F.laws_szRow a n = some (if (zRow a : Int) <= n then n - (zRow a : Int) else -1) := by
 have hz : zRow a = zEntryS a.1 := rfl
 unfold F.laws_szRow
 unfold fRow at hf
 rw [szEntryS a.1 n hf h0 h1]
 by_cases c0 : (zEntryS a.1 : Int) <= n
 case neg => rw [if_neg c0, if_neg (by omega)]; rfl
 rw [if_pos c0]
 simp only [Option.bind_some]
 rw [show decide (n - (zEntryS a.1 : Int) < 0) = false from decide_eq_false (by omega)]
 simp only [cond_false]
 rw [if_pos (by omega)]
 first | rfl | (congr 1; omega)
structure EnR (e : DEntry) : Prop where
 key : 0 <= e.1 /\ e.1 <= 4
 win : 0 <= e.2.1 /\ e.2.1 <= 20
 ids : Good e.2.2.1
 some : e.2.2.1 ≠ []
 sk : SkR e.2.2.2.1
theorem specSk_dec (s : DSketch) (h : zSketch s <= 1048576) : F.spec_SketchOk s = some (decB (SkR s)) := by
 obtain ⟨b, h1, _, h3⟩ := skOk_same s h
 rw [h1, decB_eq h3]
theorem implSk_dec (s : DSketch) (h : zSketch s <= 1048576) : F.impl_SketchOk s = some (decB (SkR s)) := by
 obtain ⟨b, _, h1, h3⟩ := skOk_same s h
 rw [h1, decB_eq h3]
theorem len_pos {α : Type} (l : List α) : decide (len l > 0) = decB (l ≠ []) := by
 cases l with
 | nil => simp [len, decB]
 | cons x l => rw [decB_pos (by simp)]; simp [len]
theorem enR_and (e : DEntry) : (inR 0 4 e.1 && (inR 0 20 e.2.1 && (decB (Good e.2.2.1) && (decB (e.2.2.1 ≠ []) && decB (SkR e.2.2.2.1))))) = decB (EnR e) := by
 refine decB_eq ?_
 simp only [Bool.and_eq_true, inR_iff, decB_iff]
 exact ⟨fun ⟨a, b, c, d, f⟩ => ⟨a, b, c, d, f⟩, fun ⟨a, b, c, d, f⟩ => ⟨a, b, c, d, f⟩⟩
theorem specEn_dec (e : DEntry) (h : zEntry e <= 1048576) : F.spec_EntryOk e = some (decB (EnR e)) := by
 have hz : e.2.2.1.length + zSketch e.2.2.2.1 <= 1048576 := h
 unfold F.spec_EntryOk
 rw [<- enR_and]
 simp only [l6Place_eq, specSet_dec _ (show e.2.2.1.length <= 1048576 by omega), specSk_dec _ (show zSketch e.2.2.2.1 <= 1048576 by omega), Option.bind_some, len_pos]
 cases inR 0 4 e.1 <;> cases inR 0 20 e.2.1 <;> cases decB (Good e.2.2.1) <;> cases decB (e.2.2.1 ≠ []) <;> rfl
theorem implEn_dec (e : DEntry) (h : zEntry e <= 1048576) : F.impl_EntryOk e = some (decB (EnR e)) := by
 have hz : e.2.2.1.length + zSketch e.2.2.2.1 <= 1048576 := h
 unfold F.impl_EntryOk
 rw [<- enR_and]
 simp only [within_eq, implSet_dec _ (show e.2.2.1.length <= 1048576 by omega), implSk_dec _ (show zSketch e.2.2.2.1 <= 1048576 by omega), Option.bind_some, len_pos]
 cases inR 0 4 e.1 <;> cases inR 0 20 e.2.1 <;> cases decB (Good e.2.2.1) <;> cases decB (e.2.2.1 ≠ []) <;> rfl
structure ApR (l : List DEntry) : Prop where
 all : ∀ e ∈ l, EnR e
 ap : l.Pairwise fun x y => apB y.2.2.1 x.2.2.1 = true
noncomputable def apAt (l : List DEntry) (i : Nat) : Bool := match l[i]? with
 | some e => decB (EnR e) && (l.take i).all fun x => apB e.2.2.1 x.2.2.1
 | none => true
theorem apAt_lt {l : List DEntry} {i : Nat} (h : i < l.length) : apAt l i = (decB (EnR l[i]) && (l.take i).all fun x => apB l[i].2.2.1 x.2.2.1) := by
 unfold apAt
 rw [List.getElem?_eq_getElem h]
theorem apAt_iff {l : List DEntry} : (List.range l.length).all (apAt l) = decB (ApR l) := by
 refine decB_eq ?_
 rw [range_all]
 constructor
 ·intro h
  refine ⟨fun e he => ?_, List.pairwise_iff_getElem.2 fun i j hi hj hij => ?_⟩
  ·obtain ⟨i, hi, rfl⟩ := List.getElem_of_mem he
   have := h i hi
   rw [apAt_lt hi, Bool.and_eq_true] at this
   exact decB_iff.1 this.1
  ·have := h j hj
   rw [apAt_lt hj, Bool.and_eq_true, List.all_eq_true] at this
   exact this.2 _ (List.mem_take_iff_getElem.2 ⟨i, by omega, rfl⟩)
 ·rintro ⟨h1, h2⟩ i hi
  rw [apAt_lt hi, Bool.and_eq_true, List.all_eq_true]
  refine ⟨decB_pos (h1 _ (List.getElem_mem hi)), fun x hx => ?_⟩
  obtain ⟨j, hj, rfl⟩ := List.mem_take_iff_getElem.1 hx
  exact List.pairwise_iff_getElem.1 h2 j i (by omega) hi (by omega)
theorem zE_mem {l : List DEntry} {e : DEntry} {n : Nat} (h : zEntryS l <= n) (he : e ∈ l) : zEntry e <= n := by
 have := sum_mem (f := zEntry) he
 unfold zEntryS at h
 omega
theorem ahead_ok {l : List DEntry} {i : Nat} (hi : i < l.length) (hp : ∀ j, j < i -> apAt l j = true) : ∀ k (hk : k < i), EnR (l[k]'(by omega)) := by
 intro k hk
 have := hp k hk
 rw [apAt_lt (by omega), Bool.and_eq_true] at this
 exact decB_iff.1 this.1
theorem implAp_in (l : List DEntry) (hl : zEntryS l <= 1048576) (i : Nat) (hi : i < l.length) (he : EnR l[i]) (hp : ∀ j, j < i -> apAt l j = true) : loopO F.impl_apart.s7 (l, l, len l, (i : Int), l.take i, len (l.take i), 0, l[i], ()) = some (bif (l.take i).all (fun x => apB l[i].2.2.1 x.2.2.1) then .inl (l, l, len l, (i : Int), l.take i, len (l.take i), (((l.take i).length : Nat) : Int), l[i], ()) else .inr (.ret false)) := by
 have hlen : l.length <= 1048576 := by unfold zEntryS at hl; omega
 have htl : (l.take i).length = i := by rw [List.length_take]; omega
 exact loop_all (step := F.impl_apart.s7) (l.take i) (fun k => (l, l, len l, (i : Int), l.take i, len (l.take i), (k : Int), l[i], ())) (fun x => apB l[i].2.2.1 x.2.2.1) (.ret false) (fun k hk => by
  have hk' : k < l.length := by omega
  have hek := ahead_ok hi hp k (by omega)
  have z1 := zE_mem hl (List.getElem_mem hi)
  have z2 := zE_mem hl (List.getElem_mem hk')
  unfold zEntry zSpanS at z1 z2
  unfold F.impl_apart.s7
  simp only
  rw [lt_len hk, inb_nat hk, Int.toNat_natCast, w64_nat (by omega), getD_at hk, List.getElem_take, implApart_eq _ _ (by omega) (by omega), decB_pos he.ids, decB_pos hek.ids]
  simp only [cond_true, chk_true, Option.bind_some, Bool.true_and]
  cases apB l[i].2.2.1 l[k].2.2.1 <;> rfl) (by
  unfold F.impl_apart.s7
  simp only [ge_len, cond_false])
theorem implAp_eq (l : List DEntry) (hl : zEntryS l <= 1048576) : F.impl_apart l = some (decB (ApR l)) := by
 have hlen : l.length <= 1048576 := by unfold zEntryS at hl; omega
 unfold F.impl_apart
 have hh := loop_allN (step := F.impl_apart.s2) l.length (fun i => (l, l, len l, (i : Int), ())) (apAt l) false (fun i hi hp => by
  unfold F.impl_apart.s2
  simp only
  rw [lt_len hi, inb_nat hi, Int.toNat_natCast, getD_at hi, implEn_dec _ (zE_mem hl (List.getElem_mem hi)), apAt_lt hi]
  simp only [cond_true, chk_true, Option.bind_some]
  by_cases he : EnR l[i]
  ·rw [decB_pos he, show cutOk 0 (i : Int) l.length = true by simp [cutOk]; omega, List.drop_zero, Nat.sub_zero, implAp_in l hl i hi he hp]
   simp only [Bool.not_true, cond_false, chk_true, Bool.true_and]
   cases (l.take i).all (fun x => apB l[i].2.2.1 x.2.2.1) with
   | false => rfl
   | true => simp only [cond_true, afterO]; rw [w64_nat (by omega)]
  ·rw [decB_neg he]; rfl) (by
  unfold F.impl_apart.s2
  simp only [ge_len, cond_false])
 rw [show loopO F.impl_apart.s2 (l, l, len l, 0, ()) = _ from hh, apAt_iff]
 cases decB (ApR l) <;> rfl
structure RoR (r : DRow) : Prop where
 few : r.1.length <= 24
 ok : ApR r.1
theorem roR_and (r : DRow) : (!decide (len r.1 > 24) && decB (ApR r.1)) = decB (RoR r) := by
 refine decB_eq ?_
 rw [Bool.and_eq_true, decB_iff]
 constructor
 ·rintro ⟨h1, h2⟩
  refine ⟨?_, h2⟩
  simp [len] at h1; omega
 ·rintro ⟨h1, h2⟩
  refine ⟨?_, h2⟩
  simp [len]; omega
theorem implRow_dec (r : DRow) (h : zRow r <= 1048576) : F.impl_RowOk r = some (decB (RoR r)) := by
 have hl : zEntryS r.1 <= 1048576 := h
 unfold F.impl_RowOk
 rw [implAp_eq _ hl, <- roR_and]
 by_cases hd : len r.1 <= 24
 ·rw [show decide (len r.1 <= 24) = true from decide_eq_true hd, show decide (len r.1 > 24) = false from decide_eq_false (by omega)]; rfl
 ·rw [show decide (len r.1 <= 24) = false from decide_eq_false hd, show decide (len r.1 > 24) = true from decide_eq_true (by omega)]; rfl
theorem specRow_in (r : DRow) (hl : zEntryS r.1 <= 1048576) (i : Nat) (hi : i < r.1.length) (he : EnR r.1[i]) (hp : ∀ j, j < i -> apAt r.1 j = true) : loopO F.spec_RowOk.s9 ((i : Int), 0, r, ()) = some (bif (r.1.take i).all (fun x => apB r.1[i].2.2.1 x.2.2.1) then .inl ((i : Int), (((r.1.take i).length : Nat) : Int), r, ()) else .inr (.ret false)) := by
 have hlen : r.1.length <= 1048576 := by unfold zEntryS at hl; omega
 have htl : (r.1.take i).length = i := by rw [List.length_take]; omega
 exact loop_all (step := F.spec_RowOk.s9) (r.1.take i) (fun k => ((i : Int), (k : Int), r, ())) (fun x => apB r.1[i].2.2.1 x.2.2.1) (.ret false) (fun k hk => by
  have hk' : k < r.1.length := by omega
  have hek := ahead_ok hi hp k (by omega)
  have z1 := zE_mem hl (List.getElem_mem hi)
  have z2 := zE_mem hl (List.getElem_mem hk')
  unfold zEntry zSpanS at z1 z2
  unfold F.spec_RowOk.s9
  simp only
  rw [show decide ((k : Int) < (i : Int)) = true from decide_eq_true (by omega), inb_nat hi, inb_nat hk', Int.toNat_natCast, Int.toNat_natCast, w64_nat (by omega), getD_at hi, getD_at hk', List.getElem_take, specApart_eq _ _ (by omega) (by omega), decB_pos he.ids, decB_pos hek.ids]
  simp only [cond_true, chk_true, Option.bind_some, Bool.true_and]
  cases apB r.1[i].2.2.1 r.1[k].2.2.1 <;> rfl) (by
  unfold F.spec_RowOk.s9
  simp only
  rw [htl, show decide ((i : Int) < (i : Int)) = false from decide_eq_false (by omega)]; rfl)
theorem specRow_dec (r : DRow) (h : zRow r <= 1048576) : F.spec_RowOk r = some (decB (RoR r)) := by
 have hl : zEntryS r.1 <= 1048576 := h
 have hlen : r.1.length <= 1048576 := by unfold zEntryS at hl; omega
 unfold F.spec_RowOk
 rw [<- roR_and]
 have hh := loop_allN (step := F.spec_RowOk.s4) r.1.length (fun i => ((i : Int), r, ())) (apAt r.1) false (fun i hi hp => by
  unfold F.spec_RowOk.s4
  simp only
  rw [lt_len hi, inb_nat hi, Int.toNat_natCast, getD_at hi, specEn_dec _ (zE_mem hl (List.getElem_mem hi)), apAt_lt hi]
  simp only [cond_true, chk_true, Option.bind_some]
  by_cases he : EnR r.1[i]
  ·rw [decB_pos he, specRow_in r hl i hi he hp]
   simp only [Bool.not_true, cond_false, Bool.true_and]
   cases (r.1.take i).all (fun x => apB r.1[i].2.2.1 x.2.2.1) with
   | false => rfl
   | true => simp only [cond_true, afterO]; rw [w64_nat (by omega)]
  ·rw [decB_neg he]; rfl) (by
  unfold F.spec_RowOk.s4
  simp only [ge_len, cond_false])
 cases decide (len r.1 > 24) with
 | true => rfl
 | false =>
  simp only [cond_false]
  rw [show loopO F.spec_RowOk.s4 (0, r, ()) = _ from hh, apAt_iff]
  cases decB (ApR r.1) <;> rfl
def idsL (l : List DEntry) : List Sp := l.flatMap fun e => e.2.2.1
theorem idsL_len (l : List DEntry) : (idsL l).length <= zEntryS l := by
 unfold idsL zEntryS
 induction l with
 | nil => simp
 | cons x l ih =>
  have : x.2.2.1.length <= zEntry x := by unfold zEntry zSpanS; omega
  simp only [List.flatMap_cons, List.length_append, List.map_cons, List.sum_cons, List.length_cons] at *
  omega
theorem idsL_take {l : List DEntry} {i : Nat} (h : i < l.length) : idsL (l.take (i + 1)) = idsL (l.take i) ++ l[i].2.2.1 := by
 unfold idsL
 rw [List.take_add_one, List.getElem?_eq_getElem h, Option.toList_some, List.flatMap_append]; simp only [List.flatMap_cons, List.flatMap_nil, List.append_nil]
theorem idsL_take_le (l : List DEntry) (i : Nat) : (idsL (l.take i)).length <= (idsL l).length := by
 conv => rhs; rw [<- List.take_append_drop i l]
 unfold idsL
 rw [List.flatMap_append, List.length_append]; omega
theorem idsOf_eq (l : List DEntry) (h : zEntryS l <= 4194304) (he : ends (idsL l)) : F.impl_idsOf l = some (uniS (sortS (idsL l))) := by
 have hl := idsL_len l
 have hn : l.length <= 4194304 := by unfold zEntryS at h; omega
 unfold F.impl_idsOf
 have hh := loop_run (step := F.impl_idsOf.s3) (fun i => (idsL (l.take i), l, len l, (i : Int), ())) l.length (fun i hi => by
  have h1 := idsL_take_le l (i + 1)
  rw [idsL_take hi, List.length_append] at h1
  unfold F.impl_idsOf.s3
  simp only
  rw [lt_len hi, inb_nat hi, Int.toNat_natCast, getD_at hi, w64_nat (by omega), idsL_take hi]
  simp only [cond_true, chk_true]
  rw [fits_of (by omega)]; rfl) (l := .exit (idsL (l.take l.length), l, len l, ((l.length : Nat) : Int), ())) (by
  unfold F.impl_idsOf.s3
  simp only [ge_len, cond_false]) rfl
 rw [List.take_length] at hh
 refine (congrArg (fun z => afterO z _) hh).trans ?_
 simp only [afterO]
 rw [union_eq _ (by omega) he]; rfl
theorem joinS_app (a b c : List Sp) : joinS a (b ++ c) = joinS (joinS a b) c := by
 unfold joinS
 rw [List.foldl_append]
theorem uni_fold (l : List Sp) (he : ends l) : uniS (sortS l) = joinS [] l := by
 have h : (okF 0 ([] : List Sp)) := trivial
 have := uni_join (a := []) (b := l) (s := sortS l) h he (by simpa using sortS_perm l) (sortS_sorted l)
 exact this
theorem joined_ok {l : List Sp} (he : ends l) : okF 0 (joinS [] l) := joinS_ok (show okF 0 ([] : List Sp) from trivial) he
theorem enR_ends {l : List DEntry} (h : ∀ e ∈ l, Good e.2.2.1) : ends (idsL l) := fun x hx => by
 obtain ⟨e, he, hx⟩ := List.mem_flatMap.1 hx
 exact okF_ends (good_ok.1 (h e he)) x hx
theorem rowIds_eq (r : DRow) (h : zRow r <= 1048576) : ∃ q, F.spec_RowIds r = some q /\ F.impl_RowIds r = some q /\ ((RoR r /\ q = joinS [] (idsL r.1)) \/ (¬ RoR r /\ q = [])) := by
 unfold F.spec_RowIds F.impl_RowIds
 rw [specRow_dec r h, implRow_dec r h]
 simp only [Option.bind_some]
 by_cases hr : RoR r
 case neg =>
  rw [decB_neg hr]
  exact ⟨[], rfl, rfl, .inr ⟨hr, rfl⟩⟩
 rw [decB_pos hr]
 have hz : zEntryS r.1 <= 1048576 := h
 have hn : r.1.length <= 1048576 := by unfold zEntryS at hz; omega
 have hgd : ∀ e ∈ r.1, Good e.2.2.1 := by
  have hq := apAt_iff (l := r.1)
  rw [decB_pos hr.ok] at hq
  intro e he
  obtain ⟨i, hi, rfl⟩ := List.getElem_of_mem he
  have := range_all.1 hq i hi
  rw [apAt_lt hi, Bool.and_eq_true, decB_iff] at this
  exact this.1.ids
 have hen := enR_ends hgd
 have htk : ∀ i, ends (idsL (r.1.take i)) := fun i => enR_ends (fun e he => hgd e (List.mem_of_mem_take he))
 refine ⟨joinS [] (idsL r.1), ?_, ?_, .inl ⟨hr, rfl⟩⟩
 ·simp only [Bool.not_true, cond_false]
  have hh := loop_run (step := F.spec_RowIds.s5) (fun i => (joinS [] (idsL (r.1.take i)), (i : Int), r, ())) r.1.length (fun i hi => by
   have h1 := idsL_take_le r.1 (i + 1)
   have h2 := idsL_len r.1
   rw [idsL_take hi, List.length_append] at h1
   unfold F.spec_RowIds.s5
   simp only
   rw [lt_len hi, inb_nat hi, Int.toNat_natCast, getD_at hi, w64_nat (by omega), l5Join_eq _ _ (joined_ok (htk i)) (okF_ends (good_ok.1 (hgd _ (List.getElem_mem hi)))) (by have := okF_small (good_ok.1 (hgd _ (List.getElem_mem hi))); omega), idsL_take hi, joinS_app]
   rfl) (l := .exit (joinS [] (idsL (r.1.take r.1.length)), ((r.1.length : Nat) : Int), r, ())) (by
   unfold F.spec_RowIds.s5
   simp only [ge_len, cond_false]) rfl
  rw [List.take_length] at hh
  refine (congrArg (fun z => afterO z _) hh).trans ?_
  rfl
 ·simp only [Bool.not_true, cond_false]
  rw [idsOf_eq r.1 (by omega) hen, uni_fold _ hen]; rfl
theorem mx3 (a b : Int) : a <= mxI a b /\ b <= mxI a b /\ (mxI a b = a \/ mxI a b = b) := by
 unfold mxI
 split <;> omega
theorem mn3 (a b : Int) : mnI a b <= a /\ mnI a b <= b /\ (mnI a b = a \/ mnI a b = b) := by
 unfold mnI
 split <;> omega
def blk (S : List Sp) (b : Int) (n : Nat) : Nat := (List.range n).countP fun (k : Nat) => hasB S (b + (k : Int))
theorem countP_or {α : Type} {p q : α -> Bool} : ∀ {l : List α}, (∀ x ∈ l, ¬ (p x = true /\ q x = true)) -> l.countP (fun x => p x || q x) = l.countP p + l.countP q
 | [], _ => rfl
 | x :: l, h => by
  have h0 := h x (List.mem_cons_self ..)
  rw [List.countP_cons, List.countP_cons, List.countP_cons, countP_or (fun y hy => h y (List.mem_cons_of_mem _ hy))]
  cases hp : p x <;> cases hq : q x
  ·simp
  ·simp; omega
  ·simp; omega
  ·exact absurd ⟨hp, hq⟩ h0
theorem blk_one (lo hi b : Int) (h : lo <= hi) : ∀ n : Nat, (((List.range n).countP fun (k : Nat) => inR lo hi (b + (k : Int)) : Nat) : Int) = mxI (mnI hi (b + (n : Int) - 1) - mxI lo b + 1) 0
 | 0 => by
  simp only [List.range_zero, List.countP_nil]
  have h1 := mn3 hi (b + ((0 : Nat) : Int) - 1)
  have h2 := mx3 lo b
  have h3 := mx3 (mnI hi (b + ((0 : Nat) : Int) - 1) - mxI lo b + 1) 0
  push_cast at *
  omega
 | n + 1 => by
  rw [List.range_succ, List.countP_append, List.countP_singleton]
  have ih := blk_one lo hi b h n
  have e : (inR lo hi (b + (n : Int)) = true) ↔ (lo <= b + (n : Int) /\ b + (n : Int) <= hi) := inR_iff
  have h1 := mn3 hi (b + (n : Int) - 1)
  have h2 := mx3 lo b
  have h3 := mx3 (mnI hi (b + (n : Int) - 1) - mxI lo b + 1) 0
  have h4 := mn3 hi (b + ((n + 1 : Nat) : Int) - 1)
  have h5 := mx3 (mnI hi (b + ((n + 1 : Nat) : Int) - 1) - mxI lo b + 1) 0
  by_cases hc : lo <= b + (n : Int) /\ b + (n : Int) <= hi
  ·rw [if_pos (e.2 hc)]
   push_cast at *
   rw [ih]
   omega
  ·rw [if_neg (fun q => hc (e.1 q))]
   push_cast at *
   rw [ih]
   omega
theorem hasB_cons (x : Sp) (l : List Sp) (n : Int) : hasB (x :: l) n = (inR x.1 x.2.1 n || hasB l n) := rfl
theorem has_memS {S : List Sp} {n : Int} : hasB S n = true ↔ memS S n := has_mem
def ofS (S : List Sp) (a : Int) : Int := (S.map fun x => mxI (mnI x.2.1 (100 * a + 60) - mxI x.1 (100 * a + 1) + 1) 0).sum
theorem blk_of (a : Int) : ∀ {S : List Sp} {lo : Int}, okF lo S -> ((blk S (100 * a + 1) 60 : Nat) : Int) = ofS S a
 | [], lo, _ => by
  unfold blk ofS
  have : ∀ l : List Nat, l.countP (fun (k : Nat) => hasB [] (100 * a + 1 + (k : Int))) = 0 := fun l => List.countP_eq_zero.2 (fun k _ => by simp [hasB])
  rw [this]; rfl
 | x :: l, lo, h => by
  obtain ⟨h1, h2, h3, h4⟩ := h
  have ih := blk_of a h4
  unfold blk ofS at *
  simp only [hasB_cons]
  rw [countP_or (fun k _ hk => by
   have e1 := inR_iff.1 hk.1
   have e2 := okF_lb h4 (has_memS.1 hk.2)
   omega)]
  simp only [List.map_cons, List.sum_cons]
  have := blk_one x.1 x.2.1 (100 * a + 1) h2 60
  push_cast at this ⊢
  rw [ih, this, show (100 * a + 1 + 60 - 1 : Int) = 100 * a + 60 by omega]
theorem hasB_join {A B : List Sp} (ha : okF 0 A) (hb : ends B) (n : Int) : hasB (joinS A B) n = (hasB A n || hasB B n) := by
 rw [Bool.eq_iff_iff, Bool.or_eq_true, has_memS, has_memS, has_memS, joinS_mem ha hb]
theorem blk_join {A B : List Sp} (ha : okF 0 A) (hb : okF 0 B) (h : ∀ n, memS A n -> ¬ memS B n) (b : Int) (n : Nat) : blk (joinS A B) b n = blk A b n + blk B b n := by
 unfold blk
 simp only [hasB_join ha (okF_ends hb)]
 exact countP_or (fun k _ hk => h _ (has_memS.1 hk.1) (has_memS.1 hk.2))
theorem ofS_rng (x : Sp) (a : Int) : 0 <= mxI (mnI x.2.1 (100 * a + 60) - mxI x.1 (100 * a + 1) + 1) 0 /\ mxI (mnI x.2.1 (100 * a + 60) - mxI x.1 (100 * a + 1) + 1) 0 <= 60 := by
 have h1 := mn3 x.2.1 (100 * a + 60)
 have h2 := mx3 x.1 (100 * a + 1)
 have h3 := mx3 (mnI x.2.1 (100 * a + 60) - mxI x.1 (100 * a + 1) + 1) 0
 omega
theorem ofS_take {S : List Sp} {i : Nat} (h : i < S.length) (a : Int) : ofS (S.take (i + 1)) a = ofS (S.take i) a + mxI (mnI S[i].2.1 (100 * a + 60) - mxI S[i].1 (100 * a + 1) + 1) 0 := by
 unfold ofS
 rw [List.take_succ_eq_append_getElem h, List.map_append, List.sum_append]
 simp
theorem ofS_le (a : Int) : ∀ S : List Sp, 0 <= ofS S a /\ ofS S a <= 60 * (S.length : Int)
 | [] => by simp [ofS]
 | x :: l => by
  have h1 := ofS_le a l
  have h2 := ofS_rng x a
  unfold ofS at *
  simp only [List.map_cons, List.sum_cons, List.length_cons]
  push_cast
  omega
theorem l12Of_eq (S : List Sp) (a : Int) (h0 : 0 <= a) (h1 : a <= 2) (he : ends S) (hl : S.length <= 1048576) : F.spec_l12Of S a = some (ofS S a) := by
 unfold F.spec_l12Of
 have hh := loop_run (step := F.spec_l12Of.s3) (fun i => (S, a, ofS (S.take i) a, (i : Int), ())) S.length (fun i hi => by
  have hx := he _ (List.getElem_mem hi)
  have hr := ofS_rng S[i] a
  have ht := ofS_le a (S.take i)
  have hk : ((S.take i).length : Int) <= 1048576 := by rw [List.length_take]; omega
  unfold F.spec_l12Of.s3
  simp only
  rw [lt_len hi, inb_nat hi, Int.toNat_natCast, getD_at hi, w64_nat (i := i) (by omega), w64_id (x := 100 * a) (by omega) (by omega), w64_id (x := 100 * a + 1) (by omega) (by omega), w64_id (x := 100 * a + 60) (by omega) (by omega), ofS_take hi]
  simp only [cond_true, chk_true, l1Max_eq, l1Min_eq, Option.bind_some]
  have b1 : -10000 <= mnI S[i].2.1 (100 * a + 60) /\ mnI S[i].2.1 (100 * a + 60) <= 10000 := by have := mn3 S[i].2.1 (100 * a + 60); omega
  have b2 : -10000 <= mxI S[i].1 (100 * a + 1) /\ mxI S[i].1 (100 * a + 1) <= 10000 := by have := mx3 S[i].1 (100 * a + 1); omega
  rw [w64_id (x := mnI S[i].2.1 (100 * a + 60) - mxI S[i].1 (100 * a + 1)) (by omega) (by omega), w64_id (x := mnI S[i].2.1 (100 * a + 60) - mxI S[i].1 (100 * a + 1) + 1) (by omega) (by omega), w64_id (by omega) (by omega)]) (l := .exit (S, a, ofS (S.take S.length) a, ((S.length : Nat) : Int), ())) (by
  unfold F.spec_l12Of.s3
  simp only [ge_len, cond_false]) rfl
 rw [List.take_length] at hh
 exact (congrArg (fun z => afterO z _) hh).trans rfl
def szS (S : List Sp) : Int := (S.map fun x => x.2.1 - x.1 + 1).sum
theorem szS_rng : ∀ {S : List Sp} {lo : Int}, 0 <= lo -> okF lo S -> 0 <= szS S /\ (szS S <= 10000 - lo \/ szS S = 0)
 | [], lo, h0, _ => by simp [szS]
 | x :: l, lo, h0, h => by
  obtain ⟨h1, h2, h3, h4⟩ := h
  have ih := szS_rng (by omega) h4
  unfold szS at *
  simp only [List.map_cons, List.sum_cons]
  omega
theorem szS_take {S : List Sp} {i : Nat} (h : i < S.length) : szS (S.take (i + 1)) = szS (S.take i) + (S[i].2.1 - S[i].1 + 1) := by
 unfold szS
 rw [List.take_succ_eq_append_getElem h, List.map_append, List.sum_append]
 simp
theorem szS_part : ∀ {S : List Sp} (i : Nat), (∀ x ∈ S, x.1 <= x.2.1) -> 0 <= szS (S.take i) /\ szS (S.take i) <= szS S
 | [], i, _ => by simp [szS]
 | x :: l, 0, h => by
  have h1 := szS_part (S := l) 0 (fun y hy => h y (List.mem_cons_of_mem _ hy))
  have h2 := h x (List.mem_cons_self ..)
  unfold szS at *
  simp only [List.take_zero, List.map_nil, List.sum_nil, List.map_cons, List.sum_cons] at *
  omega
 | x :: l, i + 1, h => by
  have h1 := szS_part (S := l) i (fun y hy => h y (List.mem_cons_of_mem _ hy))
  have h2 := h x (List.mem_cons_self ..)
  unfold szS at *
  simp only [List.take_succ_cons, List.map_cons, List.sum_cons] at *
  omega
theorem accS_eq {S : List Sp} (h : okF 0 S) : ∀ i, i <= S.length -> accS S i = szS (S.take i)
 | 0, _ => by simp [accS, szS]
 | i + 1, hi => by
  have hi : i < S.length := by omega
  have hx := okF_all h _ (List.getElem_mem hi)
  have h1 := szS_rng (Int.le_refl 0) h
  have h2 := szS_part (S := S) i (fun y hy => (okF_all h y hy).2.1)
  rw [accS, accS_eq h i (by omega), getD_at hi, szS_take hi, w64_id (x := szS (S.take i) + S[i].2.1) (by omega) (by omega), w64_id (x := szS (S.take i) + S[i].2.1 - S[i].1) (by omega) (by omega), w64_id (by omega) (by omega)]
  omega
theorem specSize_eq {S : List Sp} (h : okF 0 S) : F.spec_SetSize S = some (szS S) := by
 have hl := okF_small h
 unfold F.spec_SetSize
 rw [specSet_dec S (by omega), decB_pos (good_ok.2 h)]
 have l1 := loop_run (step := F.spec_SetSize.s5) (fun i => (S, accS S i, (i : Int), ())) S.length (fun i hi => by
  unfold F.spec_SetSize.s5
  simp only
  rw [lt_len hi, inb_nat hi, w64_nat (by omega), Int.toNat_natCast]
  rfl) (l := .exit (S, accS S S.length, (S.length : Int), ())) (y := .inl (S, accS S S.length, (S.length : Int), ())) (by
  unfold F.spec_SetSize.s5
  simp only
  rw [ge_len]
  rfl) rfl
 have l1 : loopO F.spec_SetSize.s5 (S, 0, 0, ()) = _ := l1
 simp only [Option.bind_some, Bool.not_true, cond_false, l1, afterO]
 rw [accS_eq h _ (Nat.le_refl _), List.take_length]
def Rng (S : List Sp) (lo hi : Int) : Prop := ∀ x ∈ S, lo <= x.1 /\ x.2.1 <= hi
theorem ofS_size (a : Int) : ∀ {S : List Sp}, (∀ x ∈ S, x.1 <= x.2.1) -> ofS S a <= szS S /\ (ofS S a = szS S ↔ Rng S (100 * a + 1) (100 * a + 60))
 | [], _ => ⟨Int.le_refl _, fun _ x hx => (by cases hx), fun _ => rfl⟩
 | x :: l, h => by
  have ih := ofS_size a (S := l) (fun y hy => h y (List.mem_cons_of_mem _ hy))
  have h2 := h x (List.mem_cons_self ..)
  have e : Rng (x :: l) (100 * a + 1) (100 * a + 60) ↔ (100 * a + 1 <= x.1 /\ x.2.1 <= 100 * a + 60) /\ Rng l (100 * a + 1) (100 * a + 60) := by
   unfold Rng
   simp only [List.mem_cons, forall_eq_or_imp]
  rw [e, <- ih.2]
  unfold ofS szS at *
  simp only [List.map_cons, List.sum_cons]
  have ih1 := ih.1
  generalize (List.map (fun x => mxI (mnI x.2.1 (100 * a + 60) - mxI x.1 (100 * a + 1) + 1) 0) l).sum = P at *
  generalize (List.map (fun (x : Sp) => x.2.1 - x.1 + 1) l).sum = Q at *
  have q1 := mn3 x.2.1 (100 * a + 60)
  have q2 := mx3 x.1 (100 * a + 1)
  have q3 := mx3 (mnI x.2.1 (100 * a + 60) - mxI x.1 (100 * a + 1) + 1) 0
  refine ⟨by omega, ?_⟩
  constructor <;> intro hh <;> omega
theorem okF_last : ∀ {S : List Sp} {lo : Int}, okF lo S -> ∀ y ∈ S, y.2.1 <= (S.getD (S.length - 1) (0, 0, ())).2.1
 | [], _, _, y, hy => by cases hy
 | [x], _, _, y, hy => by rw [List.mem_singleton.1 hy]; exact Int.le_refl _
 | x :: z :: l, lo, h, y, hy => by
  obtain ⟨h1, h2, h3, h4⟩ := h
  have ih := okF_last h4
  have e : (x :: z :: l).getD ((x :: z :: l).length - 1) (0, 0, ()) = (z :: l).getD ((z :: l).length - 1) (0, 0, ()) := by
   simp
  rw [e]
  rcases List.mem_cons.1 hy with rfl | hy
  ·have h5 := ih z (List.mem_cons_self ..)
   have h6 := okF_all h4 z (List.mem_cons_self ..)
   omega
  ·exact ih y hy
theorem allIn_rng (S : List Sp) (lo hi : Int) (h : S.length <= 1048576) : F.impl_allIn S lo hi = some (decB (Good S /\ Rng S lo hi)) := by
 unfold F.impl_allIn
 rw [implSet_dec S h]
 simp only [Option.bind_some]
 by_cases hg : Good S
 case neg => rw [decB_neg hg, decB_neg (fun hh => hg hh.1)]; rfl
 rw [decB_pos hg]
 have hok := good_ok.1 hg
 cases S with
 | nil => rw [decB_pos ⟨hg, fun x hx => by cases hx⟩]; rfl
 | cons x l =>
  have hf := hok
  obtain ⟨h1, h2, h3, h4⟩ := hok
  have hlen : (x :: l).length = l.length + 1 := rfl
  rw [show (len (x :: l) == 0) = false by simp only [len, List.length_cons, beq_eq_false_iff_ne, ne_eq]; omega, show inb 0 (x :: l).length = true from inb_nat (i := 0) (by simp), show (x :: l).getD 0 (0, 0, ()) = x from rfl, show w64 (len (x :: l) - 1) = ((l.length : Nat) : Int) by rw [show len (x :: l) - 1 = ((l.length : Nat) : Int) by simp [len], w64_id (by omega) (by omega)], inb_nat (show l.length < (x :: l).length by simp), Int.toNat_natCast]
  simp only [cond_false, cond_true, chk_true]
  have hlast := okF_last hf
  have hlast : ∀ y ∈ x :: l, y.2.1 <= ((x :: l).getD l.length (0, 0, ())).2.1 := hlast
  have hin : (x :: l).getD l.length (0, 0, ()) ∈ x :: l := by rw [getD_at (show l.length < (x :: l).length by simp)]; exact List.getElem_mem _
  by_cases c : lo <= x.1
  ·rw [show decide (x.1 >= lo) = true from decide_eq_true c]
   simp only [cond_true]
   by_cases d : ((x :: l).getD l.length (0, 0, ())).2.1 <= hi
   ·have hrng : Rng (x :: l) lo hi := fun y hy => by
     refine ⟨?_, Int.le_trans (hlast y hy) d⟩
     rcases List.mem_cons.1 hy with rfl | hy
     ·exact c
     ·have := okF_all h4 y hy; omega
    rw [decide_eq_true d, decB_pos ⟨hg, hrng⟩]
   ·rw [decide_eq_false d, decB_neg (fun hh => d (hh.2 _ hin).2)]
  ·rw [show decide (x.1 >= lo) = false from decide_eq_false c, decB_neg (fun hh => c (hh.2 x (List.mem_cons_self ..)).1)]
   rfl
def zSeatS (l : List DSeat) : Nat := l.length + (l.map zSeat).sum
def fSeatS (l : List DSeat) : Prop := l.length <= maxLen /\ ∀ x ∈ l, fSeat x
theorem toSeatS (l : List DSeat) (h : zSeatS l <= 1048576) : F.laws_toSeatS l = some l := by
 have hl : l.length <= 1048576 := by unfold zSeatS at h; omega
 have hel : ∀ x ∈ l, zSeat x <= 1048576 := fun x hm => (Nat.le_trans (sum_mem hm) (by unfold zSeatS at h; omega))
 unfold F.laws_toSeatS
 rw [mk_ok (by omega), chk_true, show Int.toNat (len l) = l.length from Int.toNat_natCast _]
 have hh := loop_to (step := F.laws_toSeatS.s3) l (0, 0, ([] : List DSpan), 0, 0, ()) (fun i m hi hm => by
  unfold F.laws_toSeatS.s3
  simp only
  rw [lt_len hi, inb_nat hi, inb_nat hm, Int.toNat_natCast, w64_nat (by omega), getD_at hi]
  simp only [cond_true, chk_true, Option.bind_some, toSeat l[i] (hel l[i] (List.getElem_mem hi))]) (fun m => by
  unfold F.laws_toSeatS.s3
  simp only [ge_len, cond_false])
 simp only [hh, afterO]
theorem eqSeatS (l : List DSeat) (h : zSeatS l <= 1099511627776) : F.laws_eqSeatS l l = some true := by
 have hl : l.length <= 1099511627776 := by unfold zSeatS at h; omega
 have hel : ∀ x ∈ l, zSeat x <= 1099511627776 := fun x hm => (Nat.le_trans (sum_mem hm) (by unfold zSeatS at h; omega))
 unfold F.laws_eqSeatS
 rw [show (len l != len l) = false by simp]
 have hh := loop_eq (step := F.laws_eqSeatS.s4) l (fun i hi => by
  unfold F.laws_eqSeatS.s4
  simp only
  rw [lt_len hi, inb_nat hi, Int.toNat_natCast, w64_nat (by omega), getD_at hi]
  simp only [cond_true, cond_false, chk_true, Option.bind_some, Bool.not_true, eqSeat l[i] (hel l[i] (List.getElem_mem hi))]) (by
  unfold F.laws_eqSeatS.s4
  simp only [ge_len, cond_false])
 simp only [cond_false, hh, afterO]
theorem szSeatS (l : List DSeat) (n : Int) (hf : fSeatS l) (h0 : 0 <= n) (h1 : n <= 1048576) : F.laws_szSeatS l n = some (if (zSeatS l : Int) <= n then n - (zSeatS l : Int) else -1) := by
 obtain ⟨hf', hfe⟩ := hf
 have hf' : l.length <= 9223372036854775807 := hf'
 have hz : zSeatS l = l.length + (l.map zSeat).sum := rfl
 unfold F.laws_szSeatS
 rw [show len l = (l.length : Int) from rfl, w64_id (by omega) (by omega), hz]
 by_cases hle : (l.length : Int) <= n
 ·rw [show decide (n - (l.length : Int) < 0) = false from decide_eq_false (by omega)]
  have hh := loop_sz (step := F.laws_szSeatS.s5) zSeat l (n - (l.length : Int)) (by omega) (fun i k hi hk hkn => by
   unfold F.laws_szSeatS.s5
   simp only
   rw [lt_len hi, inb_nat hi, Int.toNat_natCast, w64_nat (by omega), getD_at hi]
   simp only [cond_true, chk_true, szSeat l[i] k (hfe _ (List.getElem_mem hi)) hk (by omega), Option.bind_some]
   by_cases hx : (zSeat l[i] : Int) <= k
   ·rw [if_pos hx, if_pos hx, show decide (k - (zSeat l[i] : Int) < 0) = false from decide_eq_false (by omega)]; rfl
   ·rw [if_neg hx, if_neg hx]; rfl) (fun k => by
   unfold F.laws_szSeatS.s5
   simp only [ge_len, cond_false])
  simp only [cond_false, hh]
  by_cases hs : (((l.map zSeat).sum : Nat) : Int) <= n - (l.length : Int)
  ·rw [if_pos hs, if_pos (by omega)]
   simp only [afterO]
   congr 1; omega
  ·rw [if_neg hs, if_neg (by omega)]; rfl
 ·rw [if_neg (by omega), show decide (n - (l.length : Int) < 0) = true from decide_eq_true (by omega)]; rfl
def zRowS (l : List DRow) : Nat := l.length + (l.map zRow).sum
def fRowS (l : List DRow) : Prop := l.length <= maxLen /\ ∀ x ∈ l, fRow x
theorem toRowS (l : List DRow) (h : zRowS l <= 1048576) : F.laws_toRowS l = some l := by
 have hl : l.length <= 1048576 := by unfold zRowS at h; omega
 have hel : ∀ x ∈ l, zRow x <= 1048576 := fun x hm => (Nat.le_trans (sum_mem hm) (by unfold zRowS at h; omega))
 unfold F.laws_toRowS
 rw [mk_ok (by omega), chk_true, show Int.toNat (len l) = l.length from Int.toNat_natCast _]
 have hh := loop_to (step := F.laws_toRowS.s3) l (([] : List DEntry), ()) (fun i m hi hm => by
  unfold F.laws_toRowS.s3
  simp only
  rw [lt_len hi, inb_nat hi, inb_nat hm, Int.toNat_natCast, w64_nat (by omega), getD_at hi]
  simp only [cond_true, chk_true, Option.bind_some, toRow l[i] (hel l[i] (List.getElem_mem hi))]) (fun m => by
  unfold F.laws_toRowS.s3
  simp only [ge_len, cond_false])
 simp only [hh, afterO]
theorem eqRowS (l : List DRow) (h : zRowS l <= 1099511627776) : F.laws_eqRowS l l = some true := by
 have hl : l.length <= 1099511627776 := by unfold zRowS at h; omega
 have hel : ∀ x ∈ l, zRow x <= 1099511627776 := fun x hm => (Nat.le_trans (sum_mem hm) (by unfold zRowS at h; omega))
 unfold F.laws_eqRowS
 rw [show (len l != len l) = false by simp]
 have hh := loop_eq (step := F.laws_eqRowS.s4) l (fun i hi => by
  unfold F.laws_eqRowS.s4
  simp only
  rw [lt_len hi, inb_nat hi, Int.toNat_natCast, w64_nat (by omega), getD_at hi]
  simp only [cond_true, cond_false, chk_true, Option.bind_some, Bool.not_true, eqRow l[i] (hel l[i] (List.getElem_mem hi))]) (by
  unfold F.laws_eqRowS.s4
  simp only [ge_len, cond_false])
 simp only [cond_false, hh, afterO]
theorem szRowS (l : List DRow) (n : Int) (hf : fRowS l) (h0 : 0 <= n) (h1 : n <= 1048576) : F.laws_szRowS l n = some (if (zRowS l : Int) <= n then n - (zRowS l : Int) else -1) := by
 obtain ⟨hf', hfe⟩ := hf
 have hf' : l.length <= 9223372036854775807 := hf'
 have hz : zRowS l = l.length + (l.map zRow).sum := rfl
 unfold F.laws_szRowS
 rw [show len l = (l.length : Int) from rfl, w64_id (by omega) (by omega), hz]
 by_cases hle : (l.length : Int) <= n
 ·rw [show decide (n - (l.length : Int) < 0) = false from decide_eq_false (by omega)]
  have hh := loop_sz (step := F.laws_szRowS.s5) zRow l (n - (l.length : Int)) (by omega) (fun i k hi hk hkn => by
   unfold F.laws_szRowS.s5
   simp only
   rw [lt_len hi, inb_nat hi, Int.toNat_natCast, w64_nat (by omega), getD_at hi]
   simp only [cond_true, chk_true, szRow l[i] k (hfe _ (List.getElem_mem hi)) hk (by omega), Option.bind_some]
   by_cases hx : (zRow l[i] : Int) <= k
   ·rw [if_pos hx, if_pos hx, show decide (k - (zRow l[i] : Int) < 0) = false from decide_eq_false (by omega)]; rfl
   ·rw [if_neg hx, if_neg hx]; rfl) (fun k => by
   unfold F.laws_szRowS.s5
   simp only [ge_len, cond_false])
  simp only [cond_false, hh]
  by_cases hs : (((l.map zRow).sum : Nat) : Int) <= n - (l.length : Int)
  ·rw [if_pos hs, if_pos (by omega)]
   simp only [afterO]
   congr 1; omega
  ·rw [if_neg hs, if_neg (by omega)]; rfl
 ·rw [if_neg (by omega), show decide (n - (l.length : Int) < 0) = true from decide_eq_true (by omega)]; rfl
def zRowSS (l : List (List DRow)) : Nat := l.length + (l.map zRowS).sum
def fRowSS (l : List (List DRow)) : Prop := l.length <= maxLen /\ ∀ x ∈ l, fRowS x
theorem toRowSS (l : List (List DRow)) (h : zRowSS l <= 1048576) : F.laws_toRowSS l = some l := by
 have hl : l.length <= 1048576 := by unfold zRowSS at h; omega
 have hel : ∀ x ∈ l, zRowS x <= 1048576 := fun x hm => (Nat.le_trans (sum_mem hm) (by unfold zRowSS at h; omega))
 unfold F.laws_toRowSS
 rw [mk_ok (by omega), chk_true, show Int.toNat (len l) = l.length from Int.toNat_natCast _]
 have hh := loop_to (step := F.laws_toRowSS.s3) l ([] : List DRow) (fun i m hi hm => by
  unfold F.laws_toRowSS.s3
  simp only
  rw [lt_len hi, inb_nat hi, inb_nat hm, Int.toNat_natCast, w64_nat (by omega), getD_at hi]
  simp only [cond_true, chk_true, Option.bind_some, toRowS l[i] (hel l[i] (List.getElem_mem hi))]) (fun m => by
  unfold F.laws_toRowSS.s3
  simp only [ge_len, cond_false])
 simp only [hh, afterO]
theorem eqRowSS (l : List (List DRow)) (h : zRowSS l <= 1099511627776) : F.laws_eqRowSS l l = some true := by
 have hl : l.length <= 1099511627776 := by unfold zRowSS at h; omega
 have hel : ∀ x ∈ l, zRowS x <= 1099511627776 := fun x hm => (Nat.le_trans (sum_mem hm) (by unfold zRowSS at h; omega))
 unfold F.laws_eqRowSS
 rw [show (len l != len l) = false by simp]
 have hh := loop_eq (step := F.laws_eqRowSS.s4) l (fun i hi => by
  unfold F.laws_eqRowSS.s4
  simp only
  rw [lt_len hi, inb_nat hi, Int.toNat_natCast, w64_nat (by omega), getD_at hi]
  simp only [cond_true, cond_false, chk_true, Option.bind_some, Bool.not_true, eqRowS l[i] (hel l[i] (List.getElem_mem hi))]) (by
  unfold F.laws_eqRowSS.s4
  simp only [ge_len, cond_false])
 simp only [cond_false, hh, afterO]
theorem szRowSS (l : List (List DRow)) (n : Int) (hf : fRowSS l) (h0 : 0 <= n) (h1 : n <= 1048576) : F.laws_szRowSS l n = some (if (zRowSS l : Int) <= n then n - (zRowSS l : Int) else -1) := by
 obtain ⟨hf', hfe⟩ := hf
 have hf' : l.length <= 9223372036854775807 := hf'
 have hz : zRowSS l = l.length + (l.map zRowS).sum := rfl
 unfold F.laws_szRowSS
 rw [show len l = (l.length : Int) from rfl, w64_id (by omega) (by omega), hz]
 by_cases hle : (l.length : Int) <= n
 ·rw [show decide (n - (l.length : Int) < 0) = false from decide_eq_false (by omega)]
  have hh := loop_sz (step := F.laws_szRowSS.s5) zRowS l (n - (l.length : Int)) (by omega) (fun i k hi hk hkn => by
   unfold F.laws_szRowSS.s5
   simp only
   rw [lt_len hi, inb_nat hi, Int.toNat_natCast, w64_nat (by omega), getD_at hi]
   simp only [cond_true, chk_true, szRowS l[i] k (hfe _ (List.getElem_mem hi)) hk (by omega), Option.bind_some]
   by_cases hx : (zRowS l[i] : Int) <= k
   ·rw [if_pos hx, if_pos hx, show decide (k - (zRowS l[i] : Int) < 0) = false from decide_eq_false (by omega)]; rfl
   ·rw [if_neg hx, if_neg hx]; rfl) (fun k => by
   unfold F.laws_szRowSS.s5
   simp only [ge_len, cond_false])
  simp only [cond_false, hh]
  by_cases hs : (((l.map zRowS).sum : Nat) : Int) <= n - (l.length : Int)
  ·rw [if_pos hs, if_pos (by omega)]
   simp only [afterO]
   congr 1; omega
  ·rw [if_neg hs, if_neg (by omega)]; rfl
 ·rw [if_neg (by omega), show decide (n - (l.length : Int) < 0) = true from decide_eq_true (by omega)]; rfl
def zTurn (a : DTurn) : Nat := zIntS a.2.2.1
def fTurn (a : DTurn) : Prop := fIntS a.2.2.1
theorem toTurn (a : DTurn) (h : zTurn a <= 1048576) : F.laws_toTurn a = some a := by
 unfold F.laws_toTurn
 simp only [toIntS a.2.2.1 (by unfold zTurn at h; omega), Option.bind_some]
theorem eqTurn (a : DTurn) (h : zTurn a <= 1099511627776) : F.laws_eqTurn a a = some true := by
 unfold F.laws_eqTurn
 simp only [bne_self_eq_false, beq_self_eq_true, cond_false, Bool.not_true, Option.bind_some, eqIntS a.2.2.1 (by unfold zTurn at h; omega)]
theorem szTurn (a : DTurn) (n : Int) (hf : fTurn a) (h0 : 0 <= n) (h1 : n <= 1048576) : F.laws_szTurn a n = some (if (zTurn a : Int) <= n then n - (zTurn a : Int) else -1) := by
 have hz : zTurn a = zIntS a.2.2.1 := rfl
 unfold F.laws_szTurn
 unfold fTurn at hf
 rw [szIntS a.2.2.1 n hf h0 h1]
 by_cases c0 : (zIntS a.2.2.1 : Int) <= n
 case neg => rw [if_neg c0, if_neg (by omega)]; rfl
 rw [if_pos c0]
 simp only [Option.bind_some]
 rw [show decide (n - (zIntS a.2.2.1 : Int) < 0) = false from decide_eq_false (by omega)]
 simp only [cond_false]
 rw [if_pos (by omega)]
 first | rfl | (congr 1; omega)
def zTurnS (l : List DTurn) : Nat := l.length + (l.map zTurn).sum
def fTurnS (l : List DTurn) : Prop := l.length <= maxLen /\ ∀ x ∈ l, fTurn x
theorem toTurnS (l : List DTurn) (h : zTurnS l <= 1048576) : F.laws_toTurnS l = some l := by
 have hl : l.length <= 1048576 := by unfold zTurnS at h; omega
 have hel : ∀ x ∈ l, zTurn x <= 1048576 := fun x hm => (Nat.le_trans (sum_mem hm) (by unfold zTurnS at h; omega))
 unfold F.laws_toTurnS
 rw [mk_ok (by omega), chk_true, show Int.toNat (len l) = l.length from Int.toNat_natCast _]
 have hh := loop_to (step := F.laws_toTurnS.s3) l (0, false, ([] : List Int), ()) (fun i m hi hm => by
  unfold F.laws_toTurnS.s3
  simp only
  rw [lt_len hi, inb_nat hi, inb_nat hm, Int.toNat_natCast, w64_nat (by omega), getD_at hi]
  simp only [cond_true, chk_true, Option.bind_some, toTurn l[i] (hel l[i] (List.getElem_mem hi))]) (fun m => by
  unfold F.laws_toTurnS.s3
  simp only [ge_len, cond_false])
 simp only [hh, afterO]
theorem eqTurnS (l : List DTurn) (h : zTurnS l <= 1099511627776) : F.laws_eqTurnS l l = some true := by
 have hl : l.length <= 1099511627776 := by unfold zTurnS at h; omega
 have hel : ∀ x ∈ l, zTurn x <= 1099511627776 := fun x hm => (Nat.le_trans (sum_mem hm) (by unfold zTurnS at h; omega))
 unfold F.laws_eqTurnS
 rw [show (len l != len l) = false by simp]
 have hh := loop_eq (step := F.laws_eqTurnS.s4) l (fun i hi => by
  unfold F.laws_eqTurnS.s4
  simp only
  rw [lt_len hi, inb_nat hi, Int.toNat_natCast, w64_nat (by omega), getD_at hi]
  simp only [cond_true, cond_false, chk_true, Option.bind_some, Bool.not_true, eqTurn l[i] (hel l[i] (List.getElem_mem hi))]) (by
  unfold F.laws_eqTurnS.s4
  simp only [ge_len, cond_false])
 simp only [cond_false, hh, afterO]
theorem szTurnS (l : List DTurn) (n : Int) (hf : fTurnS l) (h0 : 0 <= n) (h1 : n <= 1048576) : F.laws_szTurnS l n = some (if (zTurnS l : Int) <= n then n - (zTurnS l : Int) else -1) := by
 obtain ⟨hf', hfe⟩ := hf
 have hf' : l.length <= 9223372036854775807 := hf'
 have hz : zTurnS l = l.length + (l.map zTurn).sum := rfl
 unfold F.laws_szTurnS
 rw [show len l = (l.length : Int) from rfl, w64_id (by omega) (by omega), hz]
 by_cases hle : (l.length : Int) <= n
 ·rw [show decide (n - (l.length : Int) < 0) = false from decide_eq_false (by omega)]
  have hh := loop_sz (step := F.laws_szTurnS.s5) zTurn l (n - (l.length : Int)) (by omega) (fun i k hi hk hkn => by
   unfold F.laws_szTurnS.s5
   simp only
   rw [lt_len hi, inb_nat hi, Int.toNat_natCast, w64_nat (by omega), getD_at hi]
   simp only [cond_true, chk_true, szTurn l[i] k (hfe _ (List.getElem_mem hi)) hk (by omega), Option.bind_some]
   by_cases hx : (zTurn l[i] : Int) <= k
   ·rw [if_pos hx, if_pos hx, show decide (k - (zTurn l[i] : Int) < 0) = false from decide_eq_false (by omega)]; rfl
   ·rw [if_neg hx, if_neg hx]; rfl) (fun k => by
   unfold F.laws_szTurnS.s5
   simp only [ge_len, cond_false])
  simp only [cond_false, hh]
  by_cases hs : (((l.map zTurn).sum : Nat) : Int) <= n - (l.length : Int)
  ·rw [if_pos hs, if_pos (by omega)]
   simp only [afterO]
   congr 1; omega
  ·rw [if_neg hs, if_neg (by omega)]; rfl
 ·rw [if_neg (by omega), show decide (n - (l.length : Int) < 0) = true from decide_eq_true (by omega)]; rfl
def zOut (a : DOut) : Nat := zEntry a.2.1
def fOut (a : DOut) : Prop := fEntry a.2.1
theorem toOut (a : DOut) (h : zOut a <= 1048576) : F.laws_toOut a = some a := by
 unfold F.laws_toOut
 simp only [toEntry a.2.1 (by unfold zOut at h; omega), Option.bind_some]
theorem eqOut (a : DOut) (h : zOut a <= 1099511627776) : F.laws_eqOut a a = some true := by
 unfold F.laws_eqOut
 simp only [bne_self_eq_false, cond_false, Bool.not_true, Option.bind_some, eqEntry a.2.1 (by unfold zOut at h; omega)]
theorem szOut (a : DOut) (n : Int) (hf : fOut a) (h0 : 0 <= n) (h1 : n <= 1048576) : F.laws_szOut a n = some (if (zOut a : Int) <= n then n - (zOut a : Int) else -1) := by
 have hz : zOut a = zEntry a.2.1 := rfl
 unfold F.laws_szOut
 unfold fOut at hf
 rw [szEntry a.2.1 n hf h0 h1]
 by_cases c0 : (zEntry a.2.1 : Int) <= n
 case neg => rw [if_neg c0, if_neg (by omega)]; rfl
 rw [if_pos c0]
 simp only [Option.bind_some]
 rw [show decide (n - (zEntry a.2.1 : Int) < 0) = false from decide_eq_false (by omega)]
 simp only [cond_false]
 rw [if_pos (by omega)]
 first | rfl | (congr 1; omega)
def zOutS (l : List DOut) : Nat := l.length + (l.map zOut).sum
def fOutS (l : List DOut) : Prop := l.length <= maxLen /\ ∀ x ∈ l, fOut x
theorem toOutS (l : List DOut) (h : zOutS l <= 1048576) : F.laws_toOutS l = some l := by
 have hl : l.length <= 1048576 := by unfold zOutS at h; omega
 have hel : ∀ x ∈ l, zOut x <= 1048576 := fun x hm => (Nat.le_trans (sum_mem hm) (by unfold zOutS at h; omega))
 unfold F.laws_toOutS
 rw [mk_ok (by omega), chk_true, show Int.toNat (len l) = l.length from Int.toNat_natCast _]
 have hh := loop_to (step := F.laws_toOutS.s3) l (0, (0, 0, ([] : List DSpan), (0, 0, 0, 0, ([] : List Int), ([] : List Int), ([] : List (List Int)), ()), ()), ()) (fun i m hi hm => by
  unfold F.laws_toOutS.s3
  simp only
  rw [lt_len hi, inb_nat hi, inb_nat hm, Int.toNat_natCast, w64_nat (by omega), getD_at hi]
  simp only [cond_true, chk_true, Option.bind_some, toOut l[i] (hel l[i] (List.getElem_mem hi))]) (fun m => by
  unfold F.laws_toOutS.s3
  simp only [ge_len, cond_false])
 simp only [hh, afterO]
theorem eqOutS (l : List DOut) (h : zOutS l <= 1099511627776) : F.laws_eqOutS l l = some true := by
 have hl : l.length <= 1099511627776 := by unfold zOutS at h; omega
 have hel : ∀ x ∈ l, zOut x <= 1099511627776 := fun x hm => (Nat.le_trans (sum_mem hm) (by unfold zOutS at h; omega))
 unfold F.laws_eqOutS
 rw [show (len l != len l) = false by simp]
 have hh := loop_eq (step := F.laws_eqOutS.s4) l (fun i hi => by
  unfold F.laws_eqOutS.s4
  simp only
  rw [lt_len hi, inb_nat hi, Int.toNat_natCast, w64_nat (by omega), getD_at hi]
  simp only [cond_true, cond_false, chk_true, Option.bind_some, Bool.not_true, eqOut l[i] (hel l[i] (List.getElem_mem hi))]) (by
  unfold F.laws_eqOutS.s4
  simp only [ge_len, cond_false])
 simp only [cond_false, hh, afterO]
theorem szOutS (l : List DOut) (n : Int) (hf : fOutS l) (h0 : 0 <= n) (h1 : n <= 1048576) : F.laws_szOutS l n = some (if (zOutS l : Int) <= n then n - (zOutS l : Int) else -1) := by
 obtain ⟨hf', hfe⟩ := hf
 have hf' : l.length <= 9223372036854775807 := hf'
 have hz : zOutS l = l.length + (l.map zOut).sum := rfl
 unfold F.laws_szOutS
 rw [show len l = (l.length : Int) from rfl, w64_id (by omega) (by omega), hz]
 by_cases hle : (l.length : Int) <= n
 ·rw [show decide (n - (l.length : Int) < 0) = false from decide_eq_false (by omega)]
  have hh := loop_sz (step := F.laws_szOutS.s5) zOut l (n - (l.length : Int)) (by omega) (fun i k hi hk hkn => by
   unfold F.laws_szOutS.s5
   simp only
   rw [lt_len hi, inb_nat hi, Int.toNat_natCast, w64_nat (by omega), getD_at hi]
   simp only [cond_true, chk_true, szOut l[i] k (hfe _ (List.getElem_mem hi)) hk (by omega), Option.bind_some]
   by_cases hx : (zOut l[i] : Int) <= k
   ·rw [if_pos hx, if_pos hx, show decide (k - (zOut l[i] : Int) < 0) = false from decide_eq_false (by omega)]; rfl
   ·rw [if_neg hx, if_neg hx]; rfl) (fun k => by
   unfold F.laws_szOutS.s5
   simp only [ge_len, cond_false])
  simp only [cond_false, hh]
  by_cases hs : (((l.map zOut).sum : Nat) : Int) <= n - (l.length : Int)
  ·rw [if_pos hs, if_pos (by omega)]
   simp only [afterO]
   congr 1; omega
  ·rw [if_neg hs, if_neg (by omega)]; rfl
 ·rw [if_neg (by omega), show decide (n - (l.length : Int) < 0) = true from decide_eq_true (by omega)]; rfl
def zHouse (a : DHouse) : Nat := zConf a.1 + zSeatS a.2.2.2.1 + zRowSS a.2.2.2.2.1 + zTurnS a.2.2.2.2.2.1 + zEntryS a.2.2.2.2.2.2.2.1 + zOutS a.2.2.2.2.2.2.2.2.1
def fHouse (a : DHouse) : Prop := fConf a.1 /\ fSeatS a.2.2.2.1 /\ fRowSS a.2.2.2.2.1 /\ fTurnS a.2.2.2.2.2.1 /\ fEntryS a.2.2.2.2.2.2.2.1 /\ fOutS a.2.2.2.2.2.2.2.2.1
theorem toHouse (a : DHouse) (h : zHouse a <= 1048576) : F.laws_toHouse a = some a := by
 unfold F.laws_toHouse
 simp only [toConf a.1 (by unfold zHouse at h; omega), toSeatS a.2.2.2.1 (by unfold zHouse at h; omega), toRowSS a.2.2.2.2.1 (by unfold zHouse at h; omega), toTurnS a.2.2.2.2.2.1 (by unfold zHouse at h; omega), toEntryS a.2.2.2.2.2.2.2.1 (by unfold zHouse at h; omega), toOutS a.2.2.2.2.2.2.2.2.1 (by unfold zHouse at h; omega), Option.bind_some]
theorem eqHouse (a : DHouse) (h : zHouse a <= 1099511627776) : F.laws_eqHouse a a = some true := by
 unfold F.laws_eqHouse
 simp only [bne_self_eq_false, beq_self_eq_true, cond_false, Bool.not_true, Option.bind_some, eqConf a.1 (by unfold zHouse at h; omega), eqSeatS a.2.2.2.1 (by unfold zHouse at h; omega), eqRowSS a.2.2.2.2.1 (by unfold zHouse at h; omega), eqTurnS a.2.2.2.2.2.1 (by unfold zHouse at h; omega), eqEntryS a.2.2.2.2.2.2.2.1 (by unfold zHouse at h; omega), eqOutS a.2.2.2.2.2.2.2.2.1 (by unfold zHouse at h; omega)]
theorem szHouse (a : DHouse) (n : Int) (hf : fHouse a) (h0 : 0 <= n) (h1 : n <= 1048576) : F.laws_szHouse a n = some (if (zHouse a : Int) <= n then n - (zHouse a : Int) else -1) := by
 have hz : zHouse a = zConf a.1 + zSeatS a.2.2.2.1 + zRowSS a.2.2.2.2.1 + zTurnS a.2.2.2.2.2.1 + zEntryS a.2.2.2.2.2.2.2.1 + zOutS a.2.2.2.2.2.2.2.2.1 := rfl
 unfold F.laws_szHouse
 unfold fHouse at hf
 rw [szConf a.1 n hf.1 h0 h1]
 by_cases c0 : (zConf a.1 : Int) <= n
 case neg => rw [if_neg c0, if_neg (by omega)]; rfl
 rw [if_pos c0]
 simp only [Option.bind_some]
 rw [show decide (n - (zConf a.1 : Int) < 0) = false from decide_eq_false (by omega)]
 simp only [cond_false]
 rw [szSeatS a.2.2.2.1 (n - (zConf a.1 : Int)) hf.2.1 (by omega) (by omega)]
 by_cases c1 : (zSeatS a.2.2.2.1 : Int) <= n - (zConf a.1 : Int)
 case neg => rw [if_neg c1, if_neg (by omega)]; rfl
 rw [if_pos c1]
 simp only [Option.bind_some]
 rw [show decide (n - (zConf a.1 : Int) - (zSeatS a.2.2.2.1 : Int) < 0) = false from decide_eq_false (by omega)]
 simp only [cond_false]
 rw [szRowSS a.2.2.2.2.1 (n - (zConf a.1 : Int) - (zSeatS a.2.2.2.1 : Int)) hf.2.2.1 (by omega) (by omega)]
 by_cases c2 : (zRowSS a.2.2.2.2.1 : Int) <= n - (zConf a.1 : Int) - (zSeatS a.2.2.2.1 : Int)
 case neg => rw [if_neg c2, if_neg (by omega)]; rfl
 rw [if_pos c2]
 simp only [Option.bind_some]
 rw [show decide (n - (zConf a.1 : Int) - (zSeatS a.2.2.2.1 : Int) - (zRowSS a.2.2.2.2.1 : Int) < 0) = false from decide_eq_false (by omega)]
 simp only [cond_false]
 rw [szTurnS a.2.2.2.2.2.1 (n - (zConf a.1 : Int) - (zSeatS a.2.2.2.1 : Int) - (zRowSS a.2.2.2.2.1 : Int)) hf.2.2.2.1 (by omega) (by omega)]
 by_cases c3 : (zTurnS a.2.2.2.2.2.1 : Int) <= n - (zConf a.1 : Int) - (zSeatS a.2.2.2.1 : Int) - (zRowSS a.2.2.2.2.1 : Int)
 case neg => rw [if_neg c3, if_neg (by omega)]; rfl
 rw [if_pos c3]
 simp only [Option.bind_some]
 rw [show decide (n - (zConf a.1 : Int) - (zSeatS a.2.2.2.1 : Int) - (zRowSS a.2.2.2.2.1 : Int) - (zTurnS a.2.2.2.2.2.1 : Int) < 0) = false from decide_eq_false (by omega)]
 simp only [cond_false]
 rw [szEntryS a.2.2.2.2.2.2.2.1 (n - (zConf a.1 : Int) - (zSeatS a.2.2.2.1 : Int) - (zRowSS a.2.2.2.2.1 : Int) - (zTurnS a.2.2.2.2.2.1 : Int)) hf.2.2.2.2.1 (by omega) (by omega)]
 by_cases c4 : (zEntryS a.2.2.2.2.2.2.2.1 : Int) <= n - (zConf a.1 : Int) - (zSeatS a.2.2.2.1 : Int) - (zRowSS a.2.2.2.2.1 : Int) - (zTurnS a.2.2.2.2.2.1 : Int)
 case neg => rw [if_neg c4, if_neg (by omega)]; rfl
 rw [if_pos c4]
 simp only [Option.bind_some]
 rw [show decide (n - (zConf a.1 : Int) - (zSeatS a.2.2.2.1 : Int) - (zRowSS a.2.2.2.2.1 : Int) - (zTurnS a.2.2.2.2.2.1 : Int) - (zEntryS a.2.2.2.2.2.2.2.1 : Int) < 0) = false from decide_eq_false (by omega)]
 simp only [cond_false]
 rw [szOutS a.2.2.2.2.2.2.2.2.1 (n - (zConf a.1 : Int) - (zSeatS a.2.2.2.1 : Int) - (zRowSS a.2.2.2.2.1 : Int) - (zTurnS a.2.2.2.2.2.1 : Int) - (zEntryS a.2.2.2.2.2.2.2.1 : Int)) hf.2.2.2.2.2 (by omega) (by omega)]
 by_cases c5 : (zOutS a.2.2.2.2.2.2.2.2.1 : Int) <= n - (zConf a.1 : Int) - (zSeatS a.2.2.2.1 : Int) - (zRowSS a.2.2.2.2.1 : Int) - (zTurnS a.2.2.2.2.2.1 : Int) - (zEntryS a.2.2.2.2.2.2.2.1 : Int)
 case neg => rw [if_neg c5, if_neg (by omega)]; rfl
 rw [if_pos c5]
 simp only [Option.bind_some]
 rw [show decide (n - (zConf a.1 : Int) - (zSeatS a.2.2.2.1 : Int) - (zRowSS a.2.2.2.2.1 : Int) - (zTurnS a.2.2.2.2.2.1 : Int) - (zEntryS a.2.2.2.2.2.2.2.1 : Int) - (zOutS a.2.2.2.2.2.2.2.2.1 : Int) < 0) = false from decide_eq_false (by omega)]
 simp only [cond_false]
 rw [if_pos (by omega)]
 first | rfl | (congr 1; omega)
def cntR (l : List DRow) : Nat := (l.map fun x => x.1.length).sum
def cntRR (l : List (List DRow)) : Nat := (l.map cntR).sum
theorem cntR_le (l : List DRow) : cntR l <= zRowS l := by
 unfold cntR zRowS
 induction l with
 | nil => simp
 | cons x l ih =>
  have : x.1.length <= zRow x := by unfold zRow zEntryS; omega
  simp only [List.map_cons, List.sum_cons, List.length_cons] at *
  omega
theorem cntRR_le (l : List (List DRow)) : cntRR l <= zRowSS l := by
 unfold cntRR zRowSS
 induction l with
 | nil => simp
 | cons x l ih =>
  have := cntR_le x
  simp only [List.map_cons, List.sum_cons, List.length_cons] at *
  omega
theorem sum_take_le (l : List Nat) (i : Nat) : (l.take i).sum <= l.sum := by
 conv => rhs; rw [<- List.take_append_drop i l, List.sum_append]
 omega
theorem cntR_take {l : List DRow} {i : Nat} (h : i < l.length) : cntR (l.take (i + 1)) = cntR (l.take i) + l[i].1.length := by
 unfold cntR
 rw [<- take_snoc h, List.map_append, List.sum_append]; simp only [List.map_cons, List.map_nil, List.sum_cons, List.sum_nil, Nat.add_zero]
theorem cntRR_take {l : List (List DRow)} {i : Nat} (h : i < l.length) : cntRR (l.take (i + 1)) = cntRR (l.take i) + cntR l[i] := by
 unfold cntRR
 rw [<- take_snoc h, List.map_append, List.sum_append]; simp only [List.map_cons, List.map_nil, List.sum_cons, List.sum_nil, Nat.add_zero]
theorem cntR_take_le (l : List DRow) (i : Nat) : cntR (l.take i) <= cntR l := by
 unfold cntR; rw [List.map_take]; exact sum_take_le ..
theorem cntRR_take_le (l : List (List DRow)) (i : Nat) : cntRR (l.take i) <= cntRR l := by
 unfold cntRR; rw [List.map_take]; exact sum_take_le ..
def entR (l : List DRow) : List DEntry := l.flatMap fun x => x.1
def entRR (l : List (List DRow)) : List DEntry := l.flatMap entR
theorem entR_take {l : List DRow} {i : Nat} (h : i < l.length) : entR (l.take (i + 1)) = entR (l.take i) ++ l[i].1 := by
 unfold entR
 rw [<- take_snoc h, List.flatMap_append]; simp only [List.flatMap_cons, List.flatMap_nil, List.append_nil]
theorem entRR_take {l : List (List DRow)} {i : Nat} (h : i < l.length) : entRR (l.take (i + 1)) = entRR (l.take i) ++ entR l[i] := by
 unfold entRR
 rw [<- take_snoc h, List.flatMap_append]; simp only [List.flatMap_cons, List.flatMap_nil, List.append_nil]
theorem entR_len (l : List DRow) : (entR l).length = cntR l := by
 unfold entR cntR
 rw [List.length_flatMap]
theorem entRR_len (l : List (List DRow)) : (entRR l).length = cntRR l := by
 unfold entRR cntRR
 rw [List.length_flatMap]
 congr 1
 exact List.map_congr_left fun x _ => entR_len x
theorem rowEntries_in (c : List DEntry) (x y z : _) (l : List DRow) (hl : l.length <= 1048576) (hc : c.length + cntR l <= 1048576) :
  ∃ e1 e2 e3, loopO F.impl_rowEntries.s6 (c, x, y, z, l, len l, 0, ()) = some (.inl (c ++ entR l, x, y, z, e1, e2, e3, ())) := by
 have hh := loop_run (step := F.impl_rowEntries.s6) (fun i => (c ++ entR (l.take i), x, y, z, l, len l, (i : Int), ())) l.length (fun i hi => by
  have ht := cntR_take_le l (i + 1)
  have he := cntR_take hi
  have hg := entR_len (l.take i)
  unfold F.impl_rowEntries.s6
  simp only
  rw [show decide ((i : Int) < len l) = true from decide_eq_true (by simp only [len]; omega), inb_nat hi, Int.toNat_natCast, getD_at hi, w64_nat (by omega)]
  simp only [chk_true, cond_true]
  rw [fits_of (by rw [List.length_append]; omega), entR_take hi, List.append_assoc]; rfl) (l := .exit (c ++ entR (l.take l.length), x, y, z, l, len l, ((l.length : Nat) : Int), ())) (by
  unfold F.impl_rowEntries.s6
  simp only
  rw [show decide (((l.length : Nat) : Int) < len l) = false from decide_eq_false (by simp only [len]; omega)]; rfl) rfl
 rw [List.take_length] at hh
 have e0 : c ++ entR (l.take 0) = c := by simp [entR]
 rw [e0] at hh
 exact ⟨_, _, _, hh⟩
theorem rowEntries_eq (a : DHouse) (h : zRowSS a.2.2.2.2.1 <= 1048576) : F.impl_rowEntries a = some (entRR a.2.2.2.2.1) := by
 have hm : ∀ k (hk : k < a.2.2.2.2.1.length), a.2.2.2.2.1[k].length <= 1048576 := fun k hk => by
  have := sum_mem (f := zRowS) (List.getElem_mem hk)
  unfold zRowSS at h
  have : a.2.2.2.2.1[k].length <= zRowS a.2.2.2.2.1[k] := by unfold zRowS; omega
  omega
 have hn : a.2.2.2.2.1.length <= 1048576 := by unfold zRowSS at h; omega
 have hc := cntRR_le a.2.2.2.2.1
 unfold F.impl_rowEntries
 generalize a.2.2.2.2.1 = l at hm hn hc h
 have hh := loop_run (step := F.impl_rowEntries.s3) (fun i => (entRR (l.take i), l, len l, (i : Int), ())) l.length (fun i hi => by
  have ht := cntRR_take_le l (i + 1)
  have he := cntRR_take hi
  have hg := entRR_len (l.take i)
  obtain ⟨e1, e2, e3, hy⟩ := rowEntries_in (entRR (l.take i)) l (len l) (i : Int) l[i] (hm i hi) (by omega)
  unfold F.impl_rowEntries.s3
  simp only
  rw [show decide ((i : Int) < len l) = true from decide_eq_true (by simp only [len]; omega), inb_nat hi, Int.toNat_natCast, getD_at hi, hy]
  simp only [cond_true, chk_true, afterO]
  rw [w64_nat (by omega), entRR_take hi]) (l := .exit (entRR (l.take l.length), l, len l, ((l.length : Nat) : Int), ())) (by
  unfold F.impl_rowEntries.s3
  simp only
  rw [show decide (((l.length : Nat) : Int) < len l) = false from decide_eq_false (by simp only [len]; omega)]; rfl) rfl
 rw [List.take_length] at hh
 refine (congrArg (fun z => afterO z _) hh).trans ?_
 rfl
theorem allIn_iff (a : List Sp) (n : Int) (h : a.length <= 1048576) : ∃ b, F.spec_l8Below a n = some b /\ F.impl_allIn a 1 n = some b /\ (b = true ↔ Good a /\ Within a n) := by
 rcases specSet_ok a h with ⟨e1, hg⟩ | ⟨e1, hg⟩
 ·obtain ⟨y, h1, h2⟩ := below_loop a n h
  have hs : F.spec_l8Below a n = (afterO (some y) fun _ => some true) := by
   unfold F.spec_l8Below
   rw [e1]
   simp only [Option.bind_some, Bool.not_true, cond_false, h1]
  rcases h2 with ⟨i, rfl, hw⟩ | ⟨rfl, hw⟩
  ·rcases below_same a n h with ⟨b1, b2, _⟩ | ⟨b1, b2⟩
   ·exact ⟨true, b1, b2, fun _ => ⟨hg, hw⟩, fun _ => rfl⟩
   ·rw [hs] at b1; cases b1
  ·rcases below_same a n h with ⟨b1, b2, _⟩ | ⟨b1, b2⟩
   ·rw [hs] at b1; cases b1
   ·exact ⟨false, b1, b2, fun e => (by cases e), fun e => absurd e.2 hw⟩
 ·rcases below_same a n h with ⟨b1, b2, b3⟩ | ⟨b1, b2⟩
  ·exact absurd b3 hg
  ·exact ⟨false, b1, b2, fun e => (by cases e), fun e => absurd e.1 hg⟩
def turnB (t : DTurn) : Bool := inR 0 2 t.1 && ((len t.2.2.1 == 3) && t.2.2.1.all (inR 0 1000))
theorem turnOk_dec (t : DTurn) (h : t.2.2.1.length <= 1048576) : F.spec_TurnOk t = some (turnB t) /\ F.impl_TurnOk t = some (turnB t) := by
 unfold F.spec_TurnOk F.impl_TurnOk F.spec_l6Agent turnB
 simp only [l1In_eq, within_eq, l11Nums_eq _ 0 1000 h, allWithin_eq _ 3 0 1000 h, Option.bind_some]
 cases inR 0 2 t.1 <;> exact ⟨rfl, rfl⟩
structure SeatG (s : DSeat) (n : Int) : Prop where
 per : 1 <= n /\ n <= 8
 ep : 0 <= s.1 /\ s.1 <= 1000
 gr : 0 <= s.2.1 /\ s.2.1 <= 60
 tk : Good s.2.2.1 /\ Within s.2.2.1 s.2.1
 mg : 0 <= s.2.2.2.1 /\ s.2.2.2.1 <= szS s.2.2.1
 cr : s.2.1 <= s.2.2.2.1 + n
 la : 0 <= s.2.2.2.2.1 /\ s.2.2.2.2.1 <= 1000000
theorem seatG_dec (s : DSeat) (n : Int) (h : s.2.2.1.length <= 1048576) : F.spec_SeatOk s n = some (decB (SeatG s n)) /\ F.impl_SeatOk s n = some (decB (SeatG s n)) := by
 obtain ⟨z, z1, z2⟩ := size_same s.2.2.1 h
 obtain ⟨b, b1, b2, b3⟩ := allIn_iff s.2.2.1 s.2.1 h
 have hz : b = true -> z = szS s.2.2.1 /\ 0 <= z /\ z <= 10000 := fun hb => by
  have hg := good_ok.1 (b3.1 hb).1
  have h1 := specSize_eq hg
  rw [z1] at h1
  have h2 := szS_rng (Int.le_refl 0) hg
  have h3 := Option.some.inj h1
  omega
 have hd : (inR 1 8 n && (inR 0 1000 s.1 && (inR 0 60 s.2.1 && (b && (inR 0 z s.2.2.2.1 && (decide (s.2.1 <= w64 (s.2.2.2.1 + n)) && inR 0 1000000 s.2.2.2.2.1)))))) = decB (SeatG s n) := by
  refine decB_eq ?_
  simp only [Bool.and_eq_true, inR_iff, decide_eq_true_eq]
  constructor
  ·rintro ⟨c1, c2, c3, c4, c5, c6, c7⟩
   obtain ⟨q1, q2, q3⟩ := hz c4
   rw [w64_id (by omega) (by omega)] at c6
   exact ⟨c1, c2, c3, b3.1 c4, by omega, c6, c7⟩
  ·rintro ⟨c1, c2, c3, c4, c5, c6, c7⟩
   have hb := b3.2 c4
   obtain ⟨q1, q2, q3⟩ := hz hb
   rw [w64_id (by omega) (by omega)]
   exact ⟨c1, c2, c3, hb, by omega, c6, c7⟩
 rw [<- hd]
 unfold F.spec_SeatOk F.impl_SeatOk
 simp only [l1In_eq, within_eq, z1, z2, b1, b2, Option.bind_some]
 generalize inR 1 8 n = d1
 generalize inR 0 1000 s.1 = d2
 generalize inR 0 60 s.2.1 = d3
 generalize inR 0 z s.2.2.2.1 = d4
 generalize decide (s.2.1 <= w64 (s.2.2.2.1 + n)) = d5
 generalize inR 0 1000000 s.2.2.2.2.1 = d6
 cases d1 <;> cases d2 <;> cases d3 <;> cases b <;> cases d4 <;> cases d5 <;> exact ⟨rfl, rfl⟩
def ofKW (k w : Int) (o : DOut) : Bool := o.2.1.1 == k && o.2.1.2.1 == w
theorem cnt_take {α : Type} {p : α -> Bool} {l : List α} {i : Nat} (h : i < l.length) : (l.take (i + 1)).countP p = (l.take i).countP p + if p l[i] then 1 else 0 := by
 rw [List.take_succ_eq_append_getElem h, List.countP_append, List.countP_singleton]
theorem cnt_le {α : Type} (p : α -> Bool) (l : List α) (i : Nat) : (l.take i).countP p <= i := Nat.le_trans List.countP_le_length (by rw [List.length_take]; omega)
theorem gen_eq (l : List DOut) (k w : Int) (h : l.length <= 1048576) : F.spec_l12Gen l k w = some ((l.countP (ofKW k w) : Nat) : Int) := by
 unfold F.spec_l12Gen
 have hh := loop_run (step := F.spec_l12Gen.s3) (fun i => (l, k, w, (((l.take i).countP (ofKW k w) : Nat) : Int), (i : Int), ())) l.length (fun i hi => by
  have hc := cnt_le (ofKW k w) l i
  unfold F.spec_l12Gen.s3 F.spec_l1Bit
  simp only
  rw [lt_len hi, inb_nat hi, Int.toNat_natCast, getD_at hi, w64_nat (i := i) (by omega), cnt_take hi]
  simp only [cond_true, chk_true]
  unfold ofKW at *
  cases l[i].2.1.1 == k with
  | false =>
   simp only [cond_false, Bool.false_and, Bool.false_eq_true, if_false, Nat.add_zero, Option.bind_some, Int.add_zero]
   rw [w64_id (by omega) (by omega)]
  | true =>
   cases l[i].2.1.2.1 == w with
   | false =>
    simp only [cond_false, cond_true, Bool.and_false, Bool.false_eq_true, if_false, Nat.add_zero, Option.bind_some, Int.add_zero]
    rw [w64_id (by omega) (by omega)]
   | true =>
    simp only [cond_true, Bool.and_self, if_true, Option.bind_some]
    rw [w64_id (by omega) (by omega)]
    rfl) (l := .exit (l, k, w, (((l.take l.length).countP (ofKW k w) : Nat) : Int), ((l.length : Nat) : Int), ())) (by
  unfold F.spec_l12Gen.s3
  simp only [ge_len, cond_false]) rfl
 rw [List.take_length] at hh
 exact (congrArg (fun z => afterO z _) hh).trans rfl
theorem told_eq (l : List DOut) (k w : Int) (h : l.length <= 1048576) : F.impl_told l k w = some ((l.countP (ofKW k w) : Nat) : Int) := by
 unfold F.impl_told
 have hh := loop_run (step := F.impl_told.s3) (fun i => (k, w, (((l.take i).countP (ofKW k w) : Nat) : Int), l, len l, (i : Int), ())) l.length (fun i hi => by
  have hc := cnt_le (ofKW k w) l i
  unfold F.impl_told.s3
  simp only
  rw [lt_len hi, inb_nat hi, Int.toNat_natCast, getD_at hi, w64_nat (i := i) (by omega), cnt_take hi]
  simp only [cond_true, chk_true]
  unfold ofKW at *
  cases l[i].2.1.1 == k with
  | false => rfl
  | true =>
   cases l[i].2.1.2.1 == w with
   | false => rfl
   | true =>
    simp only [cond_true, Bool.and_self, if_true]
    rw [w64_id (by omega) (by omega)]
    rfl) (l := .exit (k, w, (((l.take l.length).countP (ofKW k w) : Nat) : Int), l, len l, ((l.length : Nat) : Int), ())) (by
  unfold F.impl_told.s3
  simp only [ge_len, cond_false]) rfl
 rw [List.take_length] at hh
 exact (congrArg (fun z => afterO z _) hh).trans rfl
def addL (h : DHouse) : List DEntry := h.2.2.2.2.2.2.2.1 ++ h.2.2.2.2.2.2.2.2.1.map fun o => o.2.1
def allE (h : DHouse) : List DEntry := entRR h.2.2.2.2.1 ++ addL h
theorem outs_in (c : List DEntry) (l : List DOut) (hl : l.length <= 1048576) (hc : c.length <= 1048576) (i : Nat) (hi : i < l.length) : fits (List.length (c ++ (l.take i).map fun (o : DOut) => o.2.1) + List.length ([l[i].2.1])) 144 = true /\ (c ++ (l.take i).map fun (o : DOut) => o.2.1) ++ [l[i].2.1] = c ++ (l.take (i + 1)).map fun (o : DOut) => o.2.1 := by
 refine ⟨fits_of ?_, ?_⟩
 ·rw [List.length_append, List.length_map, List.length_take]
  simp only [List.length_cons, List.length_nil]; omega
 ·rw [List.take_succ_eq_append_getElem hi, List.map_append, List.append_assoc]; rfl
theorem added_eq (h : DHouse) (h1 : h.2.2.2.2.2.2.2.1.length <= 1048576) (h2 : h.2.2.2.2.2.2.2.2.1.length <= 1048576) : F.impl_added h = some (addL h) := by
 unfold F.impl_added addL
 rw [fits_of (by omega)]
 generalize h.2.2.2.2.2.2.2.1 = c at h1
 generalize h.2.2.2.2.2.2.2.2.1 = l at h2
 have hh := loop_run (step := F.impl_added.s3) (fun i => (c ++ (l.take i).map fun (o : DOut) => o.2.1, l, len l, (i : Int), ())) l.length (fun i hi => by
  obtain ⟨f1, f2⟩ := outs_in c l h2 h1 i hi
  unfold F.impl_added.s3
  simp only
  rw [lt_len hi, inb_nat hi, Int.toNat_natCast, getD_at hi, w64_nat (by omega), f1, f2]
  rfl) (l := .exit (c ++ (l.take l.length).map fun (o : DOut) => o.2.1, l, len l, ((l.length : Nat) : Int), ())) (by
  unfold F.impl_added.s3
  simp only [ge_len, cond_false]) rfl
 have hh : loopO F.impl_added.s3 (c ++ [], l, len l, 0, ()) = _ := hh
 rw [List.append_nil, List.take_length] at hh
 simp only [chk_true]
 exact (congrArg (fun z => afterO z _) hh).trans rfl
theorem l12All_in (c : List DEntry) (h : DHouse) (k : Nat) (hk : k < h.2.2.2.2.1.length) (hl : h.2.2.2.2.1[k].length <= 1048576) (hc : c.length + cntR h.2.2.2.2.1[k] <= 1048576) :
  ∃ e, loopO F.spec_l12All.s6 (c, (k : Int), 0, h, ()) = some (.inl (c ++ entR h.2.2.2.2.1[k], (k : Int), e, h, ())) := by
 have hh := loop_run (step := F.spec_l12All.s6) (fun i => (c ++ entR (h.2.2.2.2.1[k].take i), (k : Int), (i : Int), h, ())) h.2.2.2.2.1[k].length (fun i hi => by
  have ht := cntR_take_le h.2.2.2.2.1[k] (i + 1)
  have he := cntR_take hi
  have hg := entR_len (h.2.2.2.2.1[k].take i)
  unfold F.spec_l12All.s6
  simp only
  rw [inb_nat hk, Int.toNat_natCast, getD_at hk, lt_len hi, inb_nat hi, Int.toNat_natCast, getD_at hi, w64_nat (by omega)]
  simp only [chk_true, cond_true]
  rw [fits_of (by rw [List.length_append]; omega), entR_take hi, List.append_assoc]; rfl) (l := .exit (c ++ entR (h.2.2.2.2.1[k].take h.2.2.2.2.1[k].length), (k : Int), ((h.2.2.2.2.1[k].length : Nat) : Int), h, ())) (by
  unfold F.spec_l12All.s6
  simp only
  rw [inb_nat hk, Int.toNat_natCast, getD_at hk]
  simp only [ge_len, chk_true, cond_false]) rfl
 rw [List.take_length] at hh
 have e0 : c ++ entR (h.2.2.2.2.1[k].take 0) = c := by simp [entR]
 rw [e0] at hh
 exact ⟨_, hh⟩
theorem l12All_eq (h : DHouse) (hz : zHouse h <= 1048576) : F.spec_l12All h = some (allE h) := by
 have z1 : zRowSS h.2.2.2.2.1 <= 1048576 := by unfold zHouse at hz; omega
 have z2 : h.2.2.2.2.2.2.2.1.length + zRowSS h.2.2.2.2.1 <= 1048576 := by unfold zHouse zEntryS at hz; omega
 have z3 : h.2.2.2.2.2.2.2.2.1.length <= 1048576 := by unfold zHouse zOutS at hz; omega
 have hm : ∀ k (hk : k < h.2.2.2.2.1.length), h.2.2.2.2.1[k].length <= 1048576 := fun k hk => by
  have := sum_mem (f := zRowS) (List.getElem_mem hk)
  unfold zRowSS at z1
  have : h.2.2.2.2.1[k].length <= zRowS h.2.2.2.2.1[k] := by unfold zRowS; omega
  omega
 have hn : h.2.2.2.2.1.length <= 1048576 := by unfold zRowSS at z1; omega
 have hc := cntRR_le h.2.2.2.2.1
 unfold F.spec_l12All allE addL
 have hh := loop_run (step := F.spec_l12All.s3) (fun i => (entRR (h.2.2.2.2.1.take i), (i : Int), h, ())) h.2.2.2.2.1.length (fun i hi => by
  have ht := cntRR_take_le h.2.2.2.2.1 (i + 1)
  have he := cntRR_take hi
  have hg := entRR_len (h.2.2.2.2.1.take i)
  obtain ⟨e, hy⟩ := l12All_in (entRR (h.2.2.2.2.1.take i)) h i hi (hm i hi) (by omega)
  unfold F.spec_l12All.s3
  simp only
  rw [lt_len hi, hy]
  simp only [cond_true, afterO]
  rw [w64_nat (by omega), entRR_take hi]) (l := .exit (entRR (h.2.2.2.2.1.take h.2.2.2.2.1.length), ((h.2.2.2.2.1.length : Nat) : Int), h, ())) (by
  unfold F.spec_l12All.s3
  simp only [ge_len, cond_false]) rfl
 rw [List.take_length] at hh
 refine (congrArg (fun z => afterO z _) hh).trans ?_
 simp only [afterO]
 have hg := entRR_len h.2.2.2.2.1
 rw [fits_of (by omega)]
 simp only [chk_true]
 have hl2 := loop_run (step := F.spec_l12All.s11) (fun i => ((entRR h.2.2.2.2.1 ++ h.2.2.2.2.2.2.2.1) ++ (h.2.2.2.2.2.2.2.2.1.take i).map fun (o : DOut) => o.2.1, (i : Int), h, ())) h.2.2.2.2.2.2.2.2.1.length (fun i hi => by
  obtain ⟨f1, f2⟩ := outs_in (entRR h.2.2.2.2.1 ++ h.2.2.2.2.2.2.2.1) h.2.2.2.2.2.2.2.2.1 z3 (by rw [List.length_append]; omega) i hi
  unfold F.spec_l12All.s11
  simp only
  rw [lt_len hi, inb_nat hi, Int.toNat_natCast, getD_at hi, w64_nat (by omega), f1, f2]
  rfl) (l := .exit ((entRR h.2.2.2.2.1 ++ h.2.2.2.2.2.2.2.1) ++ (h.2.2.2.2.2.2.2.2.1.take h.2.2.2.2.2.2.2.2.1.length).map fun (o : DOut) => o.2.1, ((h.2.2.2.2.2.2.2.2.1.length : Nat) : Int), h, ())) (by
  unfold F.spec_l12All.s11
  simp only [ge_len, cond_false]) rfl
 have hl2 : loopO F.spec_l12All.s11 ((entRR h.2.2.2.2.1 ++ h.2.2.2.2.2.2.2.1) ++ [], 0, h, ()) = _ := hl2
 rw [List.append_nil, List.take_length] at hl2
 rw [hl2]
 simp only [List.append_assoc]
theorem zEn_app (l m : List DEntry) : zEntryS (l ++ m) = zEntryS l + zEntryS m := by
 unfold zEntryS
 rw [List.length_append, List.map_append, List.sum_append]
 omega
theorem zEntR (l : List DRow) : zEntryS (entR l) <= zRowS l := by
 unfold zRowS entR
 induction l with
 | nil => simp [zEntryS]
 | cons x l ih =>
  rw [List.flatMap_cons, zEn_app]
  simp only [List.map_cons, List.sum_cons, List.length_cons]
  have : zRow x = zEntryS x.1 := rfl
  omega
theorem zEntRR (l : List (List DRow)) : zEntryS (entRR l) <= zRowSS l := by
 unfold zRowSS entRR
 induction l with
 | nil => simp [zEntryS]
 | cons x l ih =>
  rw [List.flatMap_cons, zEn_app]
  simp only [List.map_cons, List.sum_cons, List.length_cons]
  have := zEntR x
  omega
theorem zOutE (l : List DOut) : zEntryS (l.map fun o => o.2.1) <= zOutS l := by
 unfold zOutS
 induction l with
 | nil => simp [zEntryS]
 | cons x l ih =>
  have e : (x :: l).map (fun o => o.2.1) = [x.2.1] ++ l.map fun o => o.2.1 := rfl
  rw [e, zEn_app]
  simp only [List.map_cons, List.sum_cons, List.length_cons]
  have : zOut x = zEntry x.2.1 := rfl
  have : zEntryS [x.2.1] = 1 + zEntry x.2.1 := by simp [zEntryS]
  omega
theorem zAllE (h : DHouse) : zEntryS (allE h) <= zHouse h /\ zEntryS (addL h) <= zHouse h := by
 unfold allE addL
 rw [zEn_app, zEn_app]
 have h1 := zEntRR h.2.2.2.2.1
 have h2 := zOutE h.2.2.2.2.2.2.2.2.1
 unfold zHouse
 constructor <;> omega
def shf (a : Int) (S : List Sp) : List Sp := S.map fun x => (100 * a + x.1, 100 * a + x.2.1, ())
abbrev noS : DSeat := (0, 0, ([] : List DSpan), 0, 0, ())
def tkL (l : List DSeat) (n : Nat) : List Sp := (List.range n).flatMap fun (k : Nat) => shf (k : Int) (l.getD k noS).2.2.1
theorem tkL_succ (l : List DSeat) (n : Nat) : tkL l (n + 1) = tkL l n ++ shf (n : Int) (l.getD n noS).2.2.1 := by
 unfold tkL
 rw [List.range_succ, List.flatMap_append]; simp
theorem idOf_eq (a n : Int) (h0 : 0 <= a) (h1 : a <= 2) (g0 : 1 <= n) (g1 : n <= 60) : F.impl_IdOf a n = some (100 * a + n) := by
 unfold F.impl_IdOf
 simp only [within_eq, Option.bind_some]
 rw [show inR 0 2 a = true from inR_iff.2 ⟨h0, h1⟩, show inR 1 60 n = true from inR_iff.2 ⟨g0, g1⟩, w64_id (x := 100 * a) (by omega) (by omega), w64_id (by omega) (by omega)]
 rfl
theorem seatG_sp {s : DSeat} {n : Int} (h : SeatG s n) : ∀ x ∈ s.2.2.1, 1 <= x.1 /\ x.1 <= x.2.1 /\ x.2.1 <= 60 := fun x hx => by
 obtain ⟨i, hi, rfl⟩ := List.getElem_of_mem hx
 have h1 := h.tk.2 i hi
 have h2 := okF_all (good_ok.1 h.tk.1) _ (List.getElem_mem hi)
 have h3 := h.gr
 omega
theorem shf_ends {a : Int} (h0 : 0 <= a) (h1 : a <= 2) {S : List Sp} (h : ∀ x ∈ S, 1 <= x.1 /\ x.1 <= x.2.1 /\ x.2.1 <= 60) : ends (shf a S) := fun x hx => by
 obtain ⟨y, hy, rfl⟩ := List.mem_map.1 hx
 have := h y hy
 simp only
 omega
theorem shf_take {a : Int} {S : List Sp} {i : Nat} (h : i < S.length) : shf a (S.take (i + 1)) = shf a (S.take i) ++ [(100 * a + S[i].1, 100 * a + S[i].2.1, ())] := by
 unfold shf
 rw [List.take_succ_eq_append_getElem h, List.map_append]; rfl
theorem taken_in (h : DHouse) (c : List Sp) (k : Nat) (hk : k < h.2.2.2.1.length) (hk2 : k <= 2) (n : Int) (hs : SeatG h.2.2.2.1[k] n) (hc : okF 0 c) :
  ∃ e, loopO F.spec_l12Taken.s6 (c, (k : Int), 0, h, ()) = some (.inl (joinS c (shf (k : Int) h.2.2.2.1[k].2.2.1), (k : Int), e, h, ())) := by
 have hl := okF_small (good_ok.1 hs.tk.1)
 have hsp := seatG_sp hs
 have hh := loop_run (step := F.spec_l12Taken.s6) (fun i => (joinS c (shf (k : Int) (h.2.2.2.1[k].2.2.1.take i)), (k : Int), (i : Int), h, ())) h.2.2.2.1[k].2.2.1.length (fun i hi => by
  have hx := hsp _ (List.getElem_mem hi)
  have hj : okF 0 (joinS c (shf (k : Int) (h.2.2.2.1[k].2.2.1.take i))) := joinS_ok hc (shf_ends (by omega) (by omega) (fun y hy => hsp y (List.mem_of_mem_take hy)))
  have hjl := okF_small hj
  unfold F.spec_l12Taken.s6
  simp only
  rw [inb_nat hk, Int.toNat_natCast, getD_at hk, lt_len hi, inb_nat hi, Int.toNat_natCast, getD_at hi, w64_nat (i := i) (by omega), w64_id (x := 100 * (k : Int)) (by omega) (by omega), w64_id (x := 100 * (k : Int) + h.2.2.2.1[k].2.2.1[i].1) (by omega) (by omega), w64_id (x := 100 * (k : Int) + h.2.2.2.1[k].2.2.1[i].2.1) (by omega) (by omega), l5Put_eq _ _ (by omega) (Int.le_refl 0) hj (by simp only; omega) (by simp only; omega) (by simp only; omega), shf_take hi, joinS_app]
  rfl) (l := .exit (joinS c (shf (k : Int) (h.2.2.2.1[k].2.2.1.take h.2.2.2.1[k].2.2.1.length)), (k : Int), ((h.2.2.2.1[k].2.2.1.length : Nat) : Int), h, ())) (by
  unfold F.spec_l12Taken.s6
  simp only
  rw [inb_nat hk, Int.toNat_natCast, getD_at hk]
  simp only [ge_len, chk_true, cond_false]) rfl
 rw [List.take_length] at hh
 exact ⟨_, hh⟩
theorem tkL_ends {l : List DSeat} {m : Int} : ∀ n : Nat, n <= 3 -> (∀ k, k < n -> SeatG (l.getD k noS) m) -> ends (tkL l n)
 | 0, _, _ => fun x hx => by simp [tkL] at hx
 | n + 1, hn, h => fun x hx => by
  rw [tkL_succ] at hx
  rcases List.mem_append.1 hx with hx | hx
  ·exact tkL_ends n (by omega) (fun k hk => h k (by omega)) x hx
  ·exact shf_ends (by omega) (by omega) (seatG_sp (h n (by omega))) x hx
theorem l12Taken_eq (h : DHouse) (n : Int) (hl : h.2.2.2.1.length = 3) (hs : ∀ k, k < 3 -> SeatG (h.2.2.2.1.getD k noS) n) : F.spec_l12Taken h = some (joinS [] (tkL h.2.2.2.1 3)) := by
 unfold F.spec_l12Taken
 have hh := loop_run (step := F.spec_l12Taken.s3) (fun i => (joinS [] (tkL h.2.2.2.1 i), (i : Int), h, ())) 3 (fun i hi => by
  have hi' : i < h.2.2.2.1.length := by omega
  have hg := hs i hi
  rw [getD_at hi'] at hg
  have hj : okF 0 (joinS [] (tkL h.2.2.2.1 i)) := joined_ok (tkL_ends (m := n) i (by omega) (fun k hk => hs k (by omega)))
  obtain ⟨e, hy⟩ := taken_in h (joinS [] (tkL h.2.2.2.1 i)) i hi' (by omega) n hg hj
  unfold F.spec_l12Taken.s3
  simp only
  rw [lt_len hi', hy]
  simp only [cond_true, afterO]
  rw [w64_nat (by omega), tkL_succ, joinS_app, getD_at hi']) (l := .exit (joinS [] (tkL h.2.2.2.1 3), ((3 : Nat) : Int), h, ())) (by
  unfold F.spec_l12Taken.s3
  simp only
  rw [show decide (((3 : Nat) : Int) < len h.2.2.2.1) = false from decide_eq_false (by simp only [len]; omega)]; rfl) rfl
 exact (congrArg (fun z => afterO z _) hh).trans rfl
theorem apB_all {c : List Sp} (hc : Good c) : ∀ {L : List DEntry} {A : List Sp}, Good A -> (∀ e ∈ L, Good e.2.2.1) -> (apB (joinS A (idsL L)) c = true ↔ apB A c = true /\ ∀ e ∈ L, apB e.2.2.1 c = true)
 | [], A, hA, _ => by simp [idsL, joinS]
 | x :: L, A, hA, h => by
  have hx := h x (List.mem_cons_self ..)
  have e : idsL (x :: L) = x.2.2.1 ++ idsL L := rfl
  have hjo : okF 0 (joinS A x.2.2.1) := joinS_ok (good_ok.1 hA) (okF_ends (good_ok.1 hx))
  have hj : Good (joinS A x.2.2.1) := good_ok.2 hjo
  rw [e, joinS_app, apB_all hc hj (fun y hy => h y (List.mem_cons_of_mem _ hy))]
  have hj2 : apB (joinS A x.2.2.1) c = true ↔ apB A c = true /\ apB x.2.2.1 c = true := by
   have le : ∀ {S : List Sp}, Good S -> ∀ y ∈ S, y.1 <= y.2.1 := fun h y hy => (okF_all (good_ok.1 h) y hy).2.1
   have key : ∀ {a b : List Sp}, Good a -> Good b -> (apB a b = true ↔ ∀ n, memS a n -> ¬ memS b n) := by
    intro a b ha hb
    unfold apB
    rw [List.all_eq_true]
    constructor
    ·rintro h n ⟨x, hx, h1, h2⟩ ⟨y, hy, h3, h4⟩
     have := h x hx
     rw [List.all_eq_true] at this
     have := this y hy
     unfold ap1 at this
     rw [show decide (x.1 <= y.2.1) = true from decide_eq_true (by omega), show decide (y.1 <= x.2.1) = true from decide_eq_true (by omega)] at this
     cases this
    ·intro h x hx
     rw [List.all_eq_true]
     intro y hy
     unfold ap1
     have h1 := le ha x hx
     have h2 := le hb y hy
     by_cases c1 : x.1 <= y.2.1
     ·by_cases c2 : y.1 <= x.2.1
      ·exfalso
       rcases Int.le_total x.1 y.1 with c | c
       ·exact h y.1 ⟨x, hx, c, c2⟩ ⟨y, hy, Int.le_refl _, h2⟩
       ·exact h x.1 ⟨x, hx, Int.le_refl _, h1⟩ ⟨y, hy, c, c1⟩
      ·rw [decide_eq_false c2, Bool.and_false]; rfl
     ·rw [decide_eq_false c1]; rfl
   rw [key hj hc, key hA hc, key hx hc]
   constructor
   ·intro h
    exact ⟨fun n h1 => h n ((joinS_mem (good_ok.1 hA) (okF_ends (good_ok.1 hx))).2 (.inl h1)), fun n h1 => h n ((joinS_mem (good_ok.1 hA) (okF_ends (good_ok.1 hx))).2 (.inr h1))⟩
   ·rintro ⟨h1, h2⟩ n h3
    rcases (joinS_mem (good_ok.1 hA) (okF_ends (good_ok.1 hx))).1 h3 with h | h
    ·exact h1 n h
    ·exact h2 n h
  rw [hj2]
  simp only [List.mem_cons, forall_eq_or_imp]
  exact and_assoc
open Classical in
noncomputable def eqd {α : Type} (a b : α) : Bool := decide (a = b)
theorem eqd_ne {α : Type} {a b : α} (h : a ≠ b) : eqd a b = false := by simp [eqd, h]
theorem zip_all {α : Type} : ∀ {a b : List α}, a.length = b.length -> (a.zip b).all (fun q => eqd q.1 q.2) = eqd a b
 | [], [], _ => by simp [eqd]
 | x :: a, y :: b, h => by
  rw [List.zip_cons_cons, List.all_cons, zip_all (by simpa using h)]
  by_cases h1 : x = y <;> by_cases h2 : a = b <;> simp [eqd, h1, h2]
 | [], _ :: _, h => by simp at h
 | _ :: _, [], h => by simp at h
theorem loop_dec {X α : Type} {step : X -> Option (Lp X Bool)} (a b : List α) (mk : Nat -> X) (hl : a.length = b.length)
  (h : ∀ i (ha : i < a.length) (hb : i < b.length), step (mk i) = some (bif eqd a[i] b[i] then .again (mk (i + 1)) else .ret false))
  (he : step (mk a.length) = some (.exit (mk a.length))) :
  loopO step (mk 0) = some (bif eqd a b then .inl (mk a.length) else .inr false) := by
 have hz : (a.zip b).length = a.length := by rw [List.length_zip]; omega
 have := loop_all (step := step) (a.zip b) mk (fun q => eqd q.1 q.2) false (fun i hi => by
  rw [h i (by omega) (by omega), List.getElem_zip]) (by rw [hz]; exact he)
 rw [this, zip_all hl, hz]
theorem eqX_dec (a b : Int × Int × Unit) : Ty.eqX (.cons (.int .i64) (.cons (.int .i64) .nil)) a b = eqd a b := by
 obtain ⟨a0, a1, u⟩ := a
 obtain ⟨b0, b1, v⟩ := b
 by_cases h0 : a0 = b0 <;> by_cases h1 : a1 = b1 <;> simp [Ty.eqX, eqd, h0, h1]
theorem spec_l5Same_dec (a b : List DSpan) (h : a.length <= 1099511627776) : F.spec_l5Same a b = some (eqd a b) := by
 unfold F.spec_l5Same
 by_cases hl : a.length = b.length
 ·rw [show (len a != len b) = false by simp only [len, hl, bne_self_eq_false]]
  have := loop_dec (step := F.spec_l5Same.s4) a b (fun i => (a, b, (i : Int), ())) hl (fun i ha hb => by
   unfold F.spec_l5Same.s4
   simp only
   rw [lt_len ha, inb_nat ha, inb_nat hb, Int.toNat_natCast, w64_nat (by omega), getD_at ha, getD_at hb]
   simp only [cond_true, chk_true, eqX_dec]
   generalize eqd a[i] b[i] = d
   cases d <;> rfl) (by
   unfold F.spec_l5Same.s4
   simp only [ge_len, cond_false])
  simp only [cond_false]
  refine (congrArg (fun z => afterO z _) this).trans ?_
  cases eqd a b <;> rfl
 ·rw [show (len a != len b) = true by simp only [len, bne_iff_ne, ne_eq]; omega, eqd_ne (fun e => hl (congrArg List.length e))]; rfl
theorem slices_Equal_Span_dec (a b : List DSpan) (h : a.length <= 1099511627776) : F.slices_Equal_Span a b = some (eqd a b) := by
 unfold F.slices_Equal_Span
 by_cases hl : a.length = b.length
 ·rw [show (len a != len b) = false by simp only [len, hl, bne_self_eq_false]]
  have := loop_dec (step := F.slices_Equal_Span.s4) a b (fun i => (a, b, len a, (i : Int), ())) hl (fun i ha hb => by
   unfold F.slices_Equal_Span.s4
   simp only
   rw [lt_len ha, inb_nat ha, inb_nat hb, Int.toNat_natCast, w64_nat (by omega), getD_at ha, getD_at hb]
   simp only [cond_true, chk_true, eqX_dec]
   generalize eqd a[i] b[i] = d
   cases d <;> rfl) (by
   unfold F.slices_Equal_Span.s4
   simp only [ge_len, cond_false])
  simp only [cond_false]
  refine (congrArg (fun z => afterO z _) this).trans ?_
  cases eqd a b <;> rfl
 ·rw [show (len a != len b) = true by simp only [len, bne_iff_ne, ne_eq]; omega, eqd_ne (fun e => hl (congrArg List.length e))]; rfl
abbrev nilE : DEntry := (0, 0, ([] : List DSpan), (0, 0, 0, 0, ([] : List Int), ([] : List Int), ([] : List (List Int)), ()), ())
abbrev nilO : DOut := (0, nilE, ())
def RowI (k : Int) (r : DRow) : Prop := RoR r /\ Rng (joinS [] (idsL r.1)) (100 * k + 1) (100 * k + 60)
structure SeatRows (h : DHouse) (k : Nat) : Prop where
 seat : SeatG (h.2.2.2.1.getD k noS) h.1.1
 two : (h.2.2.2.2.1.getD k []).length = 2
 rows : ∀ r ∈ h.2.2.2.2.1.getD k [], RowI (k : Int) r
structure PartsR (h : DHouse) : Prop where
 ns : h.2.2.2.1.length = 3
 nr : h.2.2.2.2.1.length = 3
 nt : h.2.2.2.2.2.1.length = 2
 since : 0 <= h.2.2.2.2.2.2.1 /\ h.2.2.2.2.2.2.1 <= 1000
 clock : 0 <= h.2.1 /\ h.2.1 <= 100000
 seats : ∀ k, k < 3 -> SeatRows h k
 turns : ∀ t ∈ h.2.2.2.2.2.1, turnB t = true
def aheadB (a b : DEntry) : Bool := decide (a.1 < b.1) || (a.1 == b.1 && decide (a.2.1 < b.2.1))
def ordAt (l : List DEntry) : Nat -> Bool
 | 0 => true
 | i + 1 => aheadB (l.getD i nilE) (l.getD (i + 1) nilE)
def genAt (l : List DOut) (i : Nat) : Bool := (l.getD i nilO).1 == (((l.take i).countP (ofKW (l.getD i nilO).2.1.1 (l.getD i nilO).2.1.2.1) : Nat) : Int)
def mgAt (h : DHouse) (k : Nat) : Bool := ((blk (joinS [] (idsL (addL h))) (100 * (k : Int) + 1) 60 : Nat) : Int) == (h.2.2.2.1.getD k noS).2.2.2.1
structure HouseR (h : DHouse) : Prop where
 conf : confB h.1 = true
 parts : PartsR h
 order : ∀ i, i < h.2.2.2.2.2.2.2.1.length -> ordAt h.2.2.2.2.2.2.2.1 i = true
 gens : ∀ i, i < h.2.2.2.2.2.2.2.2.1.length -> genAt h.2.2.2.2.2.2.2.2.1 i = true
 ap : ApR (allE h)
 tk : joinS [] (idsL (allE h)) = joinS [] (tkL h.2.2.2.1 3)
 mg : ∀ k, k < 3 -> mgAt h k = true
theorem zRowIn {h : DHouse} (hz : zHouse h <= 1048576) {k : Nat} (hk : k < h.2.2.2.2.1.length) : h.2.2.2.2.1[k].length <= 1048576 /\ ∀ r ∈ h.2.2.2.2.1[k], zRow r <= 1048576 := by
 have z1 : zRowSS h.2.2.2.2.1 <= 1048576 := by unfold zHouse at hz; omega
 have h1 := sum_mem (f := zRowS) (List.getElem_mem hk)
 unfold zRowSS at z1
 have h2 : zRowS h.2.2.2.2.1[k] <= 1048576 := by omega
 refine ⟨by unfold zRowS at h2; omega, fun r hr => ?_⟩
 have h3 := sum_mem (f := zRow) hr
 unfold zRowS at h2
 omega
theorem zSeatIn {h : DHouse} (hz : zHouse h <= 1048576) {k : Nat} (hk : k < h.2.2.2.1.length) : h.2.2.2.1[k].2.2.1.length <= 1048576 := by
 have z1 : zSeatS h.2.2.2.1 <= 1048576 := by unfold zHouse at hz; omega
 have h1 := sum_mem (f := zSeat) (List.getElem_mem hk)
 have h2 : zSeat h.2.2.2.1[k] = h.2.2.2.1[k].2.2.1.length := rfl
 unfold zSeatS at z1
 omega
theorem zTurnIn {h : DHouse} (hz : zHouse h <= 1048576) {t : DTurn} (ht : t ∈ h.2.2.2.2.2.1) : t.2.2.1.length <= 1048576 := by
 have z1 : zTurnS h.2.2.2.2.2.1 <= 1048576 := by unfold zHouse at hz; omega
 have h1 := sum_mem (f := zTurn) ht
 have h2 : zTurn t = t.2.2.1.length := rfl
 unfold zTurnS at z1
 omega
theorem all_decB {α : Type} (l : List α) (p : α -> Prop) : l.all (fun x => decB (p x)) = decB (∀ x ∈ l, p x) := by
 refine decB_eq ?_
 rw [List.all_eq_true]
 simp only [decB_iff]
theorem rowIds_rng {r : DRow} {q : List Sp} (hr : RoR r) (hq : q = joinS [] (idsL r.1)) : okF 0 q := by
 rw [hq]
 exact joined_ok (enR_ends fun e he => (hr.ok.all e he).ids)
theorem specRows_loop (h : DHouse) (hz : zHouse h <= 1048576) (k : Nat) (hk : k < h.2.2.2.2.1.length) (hk2 : k <= 2) (h2 : h.2.2.2.2.1[k].length = 2) :
  loopO F.spec_l12Parts.s9 ((k : Int), 0, h, ()) = some (bif decB (∀ r ∈ h.2.2.2.2.1[k], RowI (k : Int) r) then .inl ((k : Int), ((h.2.2.2.2.1[k].length : Nat) : Int), h, ()) else .inr (.ret false)) := by
 rw [<- all_decB]
 exact loop_all (step := F.spec_l12Parts.s9) h.2.2.2.2.1[k] (fun j => ((k : Int), (j : Int), h, ())) (fun r => decB (RowI (k : Int) r)) (.ret false) (fun j hj => by
  have hzr := (zRowIn hz hk).2 _ (List.getElem_mem hj)
  obtain ⟨q, q1, _, q3⟩ := rowIds_eq h.2.2.2.2.1[k][j] hzr
  unfold F.spec_l12Parts.s9
  simp only
  rw [show decide ((j : Int) < 2) = true from decide_eq_true (by omega), inb_nat hk, Int.toNat_natCast, getD_at hk, inb_nat hj, Int.toNat_natCast, getD_at hj, q1, specRow_dec _ hzr, w64_nat (by omega)]
  simp only [cond_true, chk_true, Option.bind_some]
  by_cases hr : RoR h.2.2.2.2.1[k][j]
  case neg => rw [decB_neg hr, decB_neg (fun hh => hr hh.1)]; rfl
  rw [decB_pos hr]
  rcases q3 with ⟨_, hq⟩ | ⟨hn, _⟩
  case inr => exact absurd hr hn
  have hok := rowIds_rng hr hq
  have hs := (ofS_size (k : Int) (S := q) (fun x hx => (okF_all hok x hx).2.1)).2
  have hlen := okF_small hok
  rw [l12Of_eq q (k : Int) (by omega) (by omega) (okF_ends hok) (by omega), specSize_eq hok]
  simp only [Bool.not_true, cond_false, Option.bind_some]
  by_cases hc : ofS q (k : Int) = szS q
  ·rw [hc, bne_self_eq_false, decB_pos (show RowI (k : Int) _ from ⟨hr, hq ▸ hs.1 hc⟩)]; rfl
  ·rw [show (ofS q (k : Int) != szS q) = true by simpa using hc, decB_neg (show ¬ RowI (k : Int) _ from fun hh => hc (hs.2 (hq ▸ hh.2)))]; rfl) (by
  unfold F.spec_l12Parts.s9
  simp only
  rw [show decide (((h.2.2.2.2.1[k].length : Nat) : Int) < 2) = false from decide_eq_false (by omega)]; rfl)
theorem implRows_loop (h : DHouse) (hz : zHouse h <= 1048576) (k : Nat) (hk : k < h.2.2.2.2.1.length) (hk2 : k <= 2) (s : List DSeat) (n : Int) :
  loopO F.impl_partsOk.s9 ((k : Int), s, n, (k : Int), h.2.2.2.2.1[k], len h.2.2.2.2.1[k], 0, h, ()) = some (bif decB (∀ r ∈ h.2.2.2.2.1[k], RowI (k : Int) r) then .inl ((k : Int), s, n, (k : Int), h.2.2.2.2.1[k], len h.2.2.2.2.1[k], ((h.2.2.2.2.1[k].length : Nat) : Int), h, ()) else .inr (.ret false)) := by
 rw [<- all_decB]
 exact loop_all (step := F.impl_partsOk.s9) h.2.2.2.2.1[k] (fun j => ((k : Int), s, n, (k : Int), h.2.2.2.2.1[k], len h.2.2.2.2.1[k], (j : Int), h, ())) (fun r => decB (RowI (k : Int) r)) (.ret false) (fun j hj => by
  have hzl := (zRowIn hz hk).1
  have hzr := (zRowIn hz hk).2 _ (List.getElem_mem hj)
  obtain ⟨q, _, q2, q3⟩ := rowIds_eq h.2.2.2.2.1[k][j] hzr
  unfold F.impl_partsOk.s9
  simp only
  rw [lt_len hj, inb_nat hj, Int.toNat_natCast, getD_at hj, q2, implRow_dec _ hzr, w64_nat (by omega), idOf_eq (k : Int) 1 (by omega) (by omega) (by omega) (by omega), idOf_eq (k : Int) 60 (by omega) (by omega) (by omega) (by omega)]
  simp only [cond_true, chk_true, Option.bind_some]
  by_cases hr : RoR h.2.2.2.2.1[k][j]
  case neg => rw [decB_neg hr, decB_neg (fun hh => hr hh.1)]; rfl
  rw [decB_pos hr]
  rcases q3 with ⟨_, hq⟩ | ⟨hn, _⟩
  case inr => exact absurd hr hn
  have hok := rowIds_rng hr hq
  have hlen := okF_small hok
  rw [allIn_rng q _ _ (by omega)]
  simp only [Bool.not_true, cond_false, Option.bind_some]
  by_cases hc : Rng q (100 * (k : Int) + 1) (100 * (k : Int) + 60)
  ·rw [decB_pos ⟨good_ok.2 hok, hc⟩, decB_pos (show RowI (k : Int) _ from ⟨hr, hq ▸ hc⟩)]; rfl
  ·rw [decB_neg (fun hh => hc hh.2), decB_neg (show ¬ RowI (k : Int) _ from fun hh => hc (hq ▸ hh.2))]; rfl) (by
  unfold F.impl_partsOk.s9
  simp only [ge_len, cond_false])
theorem seatRows_iff (h : DHouse) (k : Nat) : (decB (SeatG (h.2.2.2.1.getD k noS) h.1.1) && (decide ((h.2.2.2.2.1.getD k []).length = 2) && decB (∀ r ∈ h.2.2.2.2.1.getD k [], RowI (k : Int) r))) = decB (SeatRows h k) := by
 refine decB_eq ?_
 simp only [Bool.and_eq_true, decB_iff, decide_eq_true_eq]
 exact ⟨fun ⟨a, b, c⟩ => ⟨a, b, c⟩, fun ⟨a, b, c⟩ => ⟨a, b, c⟩⟩
theorem specSeats_loop (h : DHouse) (hz : zHouse h <= 1048576) (hs : h.2.2.2.1.length = 3) (hr : h.2.2.2.2.1.length = 3) :
  loopO F.spec_l12Parts.s4 (0, h, ()) = some (bif (List.range 3).all (fun k => decB (SeatRows h k)) then .inl (((3 : Nat) : Int), h, ()) else .inr false) :=
 loop_allN (step := F.spec_l12Parts.s4) 3 (fun k => ((k : Int), h, ())) (fun k => decB (SeatRows h k)) false (fun k hk _ => by
  have hk1 : k < h.2.2.2.1.length := by omega
  have hk2 : k < h.2.2.2.2.1.length := by omega
  rw [<- seatRows_iff]
  unfold F.spec_l12Parts.s4
  simp only
  rw [show decide ((k : Int) < 3) = true from decide_eq_true (by omega), inb_nat hk1, Int.toNat_natCast, getD_at hk1, inb_nat hk2, getD_at hk2, (seatG_dec _ _ (zSeatIn hz hk1)).1]
  simp only [cond_true, chk_true, Option.bind_some]
  cases decB (SeatG h.2.2.2.1[k] h.1.1) with
  | false => rfl
  | true =>
   simp only [Bool.not_true, cond_false, Bool.true_and]
   by_cases h2 : h.2.2.2.2.1[k].length = 2
   case neg =>
    rw [show (len h.2.2.2.2.1[k] != 2) = true by simp [len]; omega, decide_eq_false h2]; rfl
   rw [show (len h.2.2.2.2.1[k] != 2) = false by simp [len]; omega, decide_eq_true h2, specRows_loop h hz k hk2 (by omega) h2]
   simp only [cond_false, Bool.true_and]
   cases decB (∀ r ∈ h.2.2.2.2.1[k], RowI (k : Int) r) with
   | false => rfl
   | true => simp only [cond_true, afterO]; rw [w64_nat (by omega)]) (by
  unfold F.spec_l12Parts.s4
  simp only
  rw [show decide (((3 : Nat) : Int) < 3) = false from decide_eq_false (by omega)]; rfl)
theorem implSeats_loop (h : DHouse) (hz : zHouse h <= 1048576) (hs : h.2.2.2.1.length = 3) (hr : h.2.2.2.2.1.length = 3) :
  loopO F.impl_partsOk.s4 (h.2.2.2.1, len h.2.2.2.1, 0, h, ()) = some (bif (List.range 3).all (fun k => decB (SeatRows h k)) then .inl (h.2.2.2.1, len h.2.2.2.1, ((3 : Nat) : Int), h, ()) else .inr false) :=
 loop_allN (step := F.impl_partsOk.s4) 3 (fun k => (h.2.2.2.1, len h.2.2.2.1, (k : Int), h, ())) (fun k => decB (SeatRows h k)) false (fun k hk _ => by
  have hk1 : k < h.2.2.2.1.length := by omega
  have hk2 : k < h.2.2.2.2.1.length := by omega
  rw [<- seatRows_iff]
  unfold F.impl_partsOk.s4
  simp only
  rw [lt_len hk1, inb_nat hk1, Int.toNat_natCast, getD_at hk1, inb_nat hk2, getD_at hk2, (seatG_dec _ _ (zSeatIn hz hk1)).2]
  simp only [cond_true, chk_true, Option.bind_some]
  cases decB (SeatG h.2.2.2.1[k] h.1.1) with
  | false => rfl
  | true =>
   simp only [Bool.not_true, cond_false, Bool.true_and]
   by_cases h2 : h.2.2.2.2.1[k].length = 2
   case neg =>
    rw [show (len h.2.2.2.2.1[k] != 2) = true by simp [len]; omega, decide_eq_false h2]; rfl
   rw [show (len h.2.2.2.2.1[k] != 2) = false by simp [len]; omega, decide_eq_true h2, implRows_loop h hz k hk2 (by omega) _ _]
   simp only [cond_false, Bool.true_and]
   cases decB (∀ r ∈ h.2.2.2.2.1[k], RowI (k : Int) r) with
   | false => rfl
   | true => simp only [cond_true, afterO]; rw [w64_nat (by omega)]) (by
  unfold F.impl_partsOk.s4
  simp only
  rw [show decide (((3 : Nat) : Int) < len h.2.2.2.1) = false from decide_eq_false (by simp only [len]; omega)]; rfl)
theorem specTurns_loop (h : DHouse) (hz : zHouse h <= 1048576) (ht : h.2.2.2.2.2.1.length = 2) :
  loopO F.spec_l12Parts.s15 (0, h, ()) = some (bif h.2.2.2.2.2.1.all turnB then .inl (((h.2.2.2.2.2.1.length : Nat) : Int), h, ()) else .inr false) :=
 loop_all (step := F.spec_l12Parts.s15) h.2.2.2.2.2.1 (fun k => ((k : Int), h, ())) turnB false (fun k hk => by
  unfold F.spec_l12Parts.s15
  simp only
  rw [show decide ((k : Int) < 2) = true from decide_eq_true (by omega), inb_nat hk, Int.toNat_natCast, getD_at hk, (turnOk_dec _ (zTurnIn hz (List.getElem_mem hk))).1, w64_nat (by omega)]
  simp only [cond_true, chk_true, Option.bind_some]
  cases turnB h.2.2.2.2.2.1[k] <;> rfl) (by
  unfold F.spec_l12Parts.s15
  simp only
  rw [show decide (((h.2.2.2.2.2.1.length : Nat) : Int) < 2) = false from decide_eq_false (by omega)]; rfl)
theorem implTurns_loop (h : DHouse) (hz : zHouse h <= 1048576) (ht : h.2.2.2.2.2.1.length = 2) :
  loopO F.impl_partsOk.s16 (h.2.2.2.2.2.1, len h.2.2.2.2.2.1, 0, h, ()) = some (bif h.2.2.2.2.2.1.all turnB then .inl (h.2.2.2.2.2.1, len h.2.2.2.2.2.1, ((h.2.2.2.2.2.1.length : Nat) : Int), h, ()) else .inr false) :=
 loop_all (step := F.impl_partsOk.s16) h.2.2.2.2.2.1 (fun k => (h.2.2.2.2.2.1, len h.2.2.2.2.2.1, (k : Int), h, ())) turnB false (fun k hk => by
  unfold F.impl_partsOk.s16
  simp only
  rw [lt_len hk, inb_nat hk, Int.toNat_natCast, getD_at hk, (turnOk_dec _ (zTurnIn hz (List.getElem_mem hk))).2, w64_nat (by omega)]
  simp only [cond_true, chk_true, Option.bind_some]
  cases turnB h.2.2.2.2.2.1[k] <;> rfl) (by
  unfold F.impl_partsOk.s16
  simp only [ge_len, cond_false])
theorem ahead_eq (a b : DEntry) : F.impl_ahead a b = some (aheadB a b) := by
 unfold F.impl_ahead aheadB
 cases decide (a.1 < b.1) <;> cases (a.1 == b.1) <;> rfl
theorem implOrd_loop (h : DHouse) (hl : h.2.2.2.2.2.2.2.1.length <= 1048576) :
  loopO F.impl_partsOk.s22 (h.2.2.2.2.2.2.2.1, len h.2.2.2.2.2.2.2.1, 0, h, ()) = some (bif (List.range h.2.2.2.2.2.2.2.1.length).all (ordAt h.2.2.2.2.2.2.2.1) then .inl (h.2.2.2.2.2.2.2.1, len h.2.2.2.2.2.2.2.1, ((h.2.2.2.2.2.2.2.1.length : Nat) : Int), h, ()) else .inr false) :=
 loop_allN (step := F.impl_partsOk.s22) h.2.2.2.2.2.2.2.1.length (fun k => (h.2.2.2.2.2.2.2.1, len h.2.2.2.2.2.2.2.1, (k : Int), h, ())) (ordAt h.2.2.2.2.2.2.2.1) false (fun k hk _ => by
  unfold F.impl_partsOk.s22
  simp only
  rw [lt_len hk, inb_nat hk, Int.toNat_natCast, w64_nat (by omega)]
  simp only [cond_true, chk_true]
  cases k with
  | zero => rfl
  | succ k =>
   rw [show decide (((k + 1 : Nat) : Int) > 0) = true from decide_eq_true (by omega), show w64 (((k + 1 : Nat) : Int) - 1) = (k : Int) by rw [show ((k + 1 : Nat) : Int) - 1 = (k : Int) by omega, w64_id (by omega) (by omega)], inb_nat (show k < h.2.2.2.2.2.2.2.1.length by omega), Int.toNat_natCast, ahead_eq]
   simp only [cond_true, chk_true, Option.bind_some, ordAt]
   cases aheadB (h.2.2.2.2.2.2.2.1.getD k nilE) (h.2.2.2.2.2.2.2.1.getD (k + 1) nilE) <;> rfl) (by
  unfold F.impl_partsOk.s22
  simp only [ge_len, cond_false])
theorem specOrd_loop (h : DHouse) (hz : zEntryS h.2.2.2.2.2.2.2.1 <= 1048576) :
  loopO F.spec_l12Root.s2 (0, h, ()) = some (bif (List.range h.2.2.2.2.2.2.2.1.length).all (fun i => decB (EnR (h.2.2.2.2.2.2.2.1.getD i nilE)) && ordAt h.2.2.2.2.2.2.2.1 i) then .inl (((h.2.2.2.2.2.2.2.1.length : Nat) : Int), h, ()) else .inr false) :=
 loop_allN (step := F.spec_l12Root.s2) h.2.2.2.2.2.2.2.1.length (fun k => ((k : Int), h, ())) (fun i => decB (EnR (h.2.2.2.2.2.2.2.1.getD i nilE)) && ordAt h.2.2.2.2.2.2.2.1 i) false (fun k hk _ => by
  have hl : h.2.2.2.2.2.2.2.1.length <= 1048576 := by unfold zEntryS at hz; omega
  unfold F.spec_l12Root.s2
  simp only
  rw [lt_len hk, inb_nat hk, Int.toNat_natCast, specEn_dec _ (by rw [getD_at hk]; exact zE_mem hz (List.getElem_mem hk)), w64_nat (by omega)]
  simp only [cond_true, chk_true, Option.bind_some]
  cases decB (EnR (h.2.2.2.2.2.2.2.1.getD k nilE)) with
  | false => rfl
  | true =>
   simp only [Bool.not_true, cond_false, Bool.true_and]
   cases k with
   | zero => rfl
   | succ k =>
    rw [show decide (((k + 1 : Nat) : Int) > 0) = true from decide_eq_true (by omega), show w64 (((k + 1 : Nat) : Int) - 1) = (k : Int) by rw [show ((k + 1 : Nat) : Int) - 1 = (k : Int) by omega, w64_id (by omega) (by omega)], inb_nat (show k < h.2.2.2.2.2.2.2.1.length by omega), Int.toNat_natCast]
    simp only [cond_true, chk_true, ordAt, aheadB]
    generalize h.2.2.2.2.2.2.2.1.getD k nilE = a
    generalize h.2.2.2.2.2.2.2.1.getD (k + 1) nilE = b
    by_cases c1 : b.1 < a.1
    ·rw [decide_eq_true c1, show decide (a.1 < b.1) = false from decide_eq_false (by omega), show (a.1 == b.1) = false by simp; omega]; rfl
    ·rw [decide_eq_false c1]
     simp only [cond_false]
     by_cases c2 : b.1 = a.1
     ·rw [show (b.1 == a.1) = true by simpa using c2, show decide (a.1 < b.1) = false from decide_eq_false (by omega), show (a.1 == b.1) = true by simp; omega]
      by_cases c3 : b.2.1 <= a.2.1
      ·rw [decide_eq_true c3, show decide (a.2.1 < b.2.1) = false from decide_eq_false (by omega)]; rfl
      ·rw [decide_eq_false c3, show decide (a.2.1 < b.2.1) = true from decide_eq_true (by omega)]; rfl
     ·rw [show (b.1 == a.1) = false by simpa using c2, show decide (a.1 < b.1) = true from decide_eq_true (by omega)]; rfl) (by
  unfold F.spec_l12Root.s2
  simp only [ge_len, cond_false])
theorem specGen_loop (h : DHouse) (hz : zOutS h.2.2.2.2.2.2.2.2.1 <= 1048576) :
  loopO F.spec_l12Root.s10 (0, h, ()) = some (bif (List.range h.2.2.2.2.2.2.2.2.1.length).all (fun i => decB (EnR (h.2.2.2.2.2.2.2.2.1.getD i nilO).2.1) && genAt h.2.2.2.2.2.2.2.2.1 i) then .inl (((h.2.2.2.2.2.2.2.2.1.length : Nat) : Int), h, ()) else .inr false) :=
 loop_allN (step := F.spec_l12Root.s10) h.2.2.2.2.2.2.2.2.1.length (fun k => ((k : Int), h, ())) (fun i => decB (EnR (h.2.2.2.2.2.2.2.2.1.getD i nilO).2.1) && genAt h.2.2.2.2.2.2.2.2.1 i) false (fun k hk _ => by
  have hl : h.2.2.2.2.2.2.2.2.1.length <= 1048576 := by unfold zOutS at hz; omega
  have hze : zEntry h.2.2.2.2.2.2.2.2.1[k].2.1 <= 1048576 := by
   have h1 := sum_mem (f := zOut) (List.getElem_mem hk)
   have h2 : zOut h.2.2.2.2.2.2.2.2.1[k] = zEntry h.2.2.2.2.2.2.2.2.1[k].2.1 := rfl
   unfold zOutS at hz
   omega
  unfold F.spec_l12Root.s10
  simp only
  rw [lt_len hk, inb_nat hk, Int.toNat_natCast, specEn_dec _ (by rw [getD_at hk]; exact hze), w64_nat (by omega), show cutOk 0 (k : Int) h.2.2.2.2.2.2.2.2.1.length = true by simp [cutOk]; omega, List.drop_zero, Nat.sub_zero, gen_eq _ _ _ (by rw [List.length_take]; omega)]
  simp only [cond_true, chk_true, Option.bind_some]
  cases decB (EnR (h.2.2.2.2.2.2.2.2.1.getD k nilO).2.1) with
  | false => rfl
  | true =>
   simp only [Bool.not_true, cond_false, Bool.true_and]
   unfold genAt bne
   cases ((h.2.2.2.2.2.2.2.2.1.getD k nilO).1 == (((h.2.2.2.2.2.2.2.2.1.take k).countP (ofKW (h.2.2.2.2.2.2.2.2.1.getD k nilO).2.1.1 (h.2.2.2.2.2.2.2.2.1.getD k nilO).2.1.2.1) : Nat) : Int)) <;> rfl) (by
  unfold F.spec_l12Root.s10
  simp only [ge_len, cond_false])
theorem implGen_loop (h : DHouse) (hl : h.2.2.2.2.2.2.2.2.1.length <= 1048576) :
  loopO F.impl_HouseOk.s25 (h.2.2.2.2.2.2.2.2.1, len h.2.2.2.2.2.2.2.2.1, 0, h, ()) = some (bif (List.range h.2.2.2.2.2.2.2.2.1.length).all (genAt h.2.2.2.2.2.2.2.2.1) then .inl (h.2.2.2.2.2.2.2.2.1, len h.2.2.2.2.2.2.2.2.1, ((h.2.2.2.2.2.2.2.2.1.length : Nat) : Int), h, ()) else .inr false) :=
 loop_allN (step := F.impl_HouseOk.s25) h.2.2.2.2.2.2.2.2.1.length (fun k => (h.2.2.2.2.2.2.2.2.1, len h.2.2.2.2.2.2.2.2.1, (k : Int), h, ())) (genAt h.2.2.2.2.2.2.2.2.1) false (fun k hk _ => by
  unfold F.impl_HouseOk.s25
  simp only
  rw [lt_len hk, inb_nat hk, Int.toNat_natCast, w64_nat (by omega), show cutOk 0 (k : Int) h.2.2.2.2.2.2.2.2.1.length = true by simp [cutOk]; omega, List.drop_zero, Nat.sub_zero, told_eq _ _ _ (by rw [List.length_take]; omega)]
  simp only [cond_true, chk_true, Option.bind_some]
  unfold genAt bne
  cases ((h.2.2.2.2.2.2.2.2.1.getD k nilO).1 == (((h.2.2.2.2.2.2.2.2.1.take k).countP (ofKW (h.2.2.2.2.2.2.2.2.1.getD k nilO).2.1.1 (h.2.2.2.2.2.2.2.2.1.getD k nilO).2.1.2.1) : Nat) : Int)) <;> rfl) (by
  unfold F.impl_HouseOk.s25
  simp only [ge_len, cond_false])
def adI (a b : Int) : Int := mnI (a + b) 1000000000
def rg (x : Int) : Prop := 0 <= x /\ x <= 1000000000
theorem adI_rg {a b : Int} (ha : rg a) (hb : rg b) : rg (adI a b) := by
 unfold rg adI mnI at *
 split <;> simp_all <;> omega
theorem clipR {a : Int} (ha : rg a) : mxI 0 (mnI a 1000000000) = a := by
 unfold rg at ha
 unfold mxI mnI
 (repeat' split) <;> simp_all <;> omega
theorem clip_eq (a b : Int) : F.spec_l2Clip a b = some (mxI 0 (mnI a b)) := by
 unfold F.spec_l2Clip
 simp only [l1Min_eq, l1Max_eq, Option.bind_some]
theorem specAdd_eq {a b : Int} (ha : rg a) (hb : rg b) : F.spec_Add a b = some (adI a b) := by
 unfold F.spec_Add adI
 simp only [clip_eq, l1Min_eq, Option.bind_some, clipR ha, clipR hb]
 unfold rg at ha hb
 rw [w64_id (by omega) (by omega)]
theorem limitedR {a : Int} (ha : rg a) : F.impl_limited a 0 1000000000 = some a := by
 unfold F.impl_limited
 unfold rg at ha
 refine congrArg some ?_
 unfold mxI mnI
 (repeat' split) <;> simp_all <;> omega
theorem implAdd_eq {a b : Int} (ha : rg a) (hb : rg b) : F.impl_Add a b = some (adI a b) := by
 unfold F.impl_Add adI
 simp only [limitedR ha, limitedR hb, Option.bind_some]
 unfold rg at ha hb
 rw [w64_id (by omega) (by omega)]
def mz (f : Int -> Int -> Int) (m l : List Int) (i : Nat) : List Int := List.zipWith f (m.take i) (l.take i) ++ m.drop i
theorem mz_zero (f : Int -> Int -> Int) (m l : List Int) : mz f m l 0 = m := by simp [mz]
theorem mz_end (f : Int -> Int -> Int) (m l : List Int) (h : m.length = l.length) : mz f m l l.length = List.zipWith f m l := by
 unfold mz
 rw [List.take_length, List.take_of_length_le (by omega), List.drop_eq_nil_of_le (by omega), List.append_nil]
theorem mz_pre {f : Int -> Int -> Int} {m l : List Int} {i : Nat} (h : m.length = l.length) (hi : i < m.length) : (List.zipWith f (m.take i) (l.take i)).length = i := by
 rw [List.length_zipWith, List.length_take, List.length_take]; omega
theorem mz_len {f : Int -> Int -> Int} {m l : List Int} {i : Nat} (h : m.length = l.length) : (mz f m l i).length = m.length := by
 unfold mz
 rw [List.length_append, List.length_zipWith, List.length_take, List.length_take, List.length_drop]; omega
theorem mz_get {f : Int -> Int -> Int} {m l : List Int} {i : Nat} (h : m.length = l.length) (hi : i < m.length) : (mz f m l i).getD i 0 = m[i] := by
 unfold mz
 rw [List.getD_eq_getElem?_getD, List.getElem?_append_right (by rw [mz_pre h hi]; omega), mz_pre h hi, Nat.sub_self, List.getElem?_drop, Nat.add_zero, List.getElem?_eq_getElem hi]; rfl
theorem zip_snoc {f : Int -> Int -> Int} {m l : List Int} {i : Nat} (hi : i < m.length) (hl : i < l.length) : List.zipWith f (m.take i) (l.take i) ++ [f m[i] l[i]] = List.zipWith f (m.take (i + 1)) (l.take (i + 1)) := by
 rw [<- take_snoc hi, <- take_snoc hl, List.zipWith_append (by rw [List.length_take, List.length_take]; omega)]; rfl
theorem mz_step {f : Int -> Int -> Int} {m l : List Int} {i : Nat} (h : m.length = l.length) (hi : i < m.length) : (mz f m l i).set i (f m[i] (l[i]'(by omega))) = mz f m l (i + 1) := by
 unfold mz
 rw [List.set_append_right _ _ (by rw [mz_pre h hi]; omega), mz_pre h hi, Nat.sub_self, List.drop_eq_getElem_cons hi, List.set_cons_zero, <- zip_snoc hi (by omega), List.append_assoc]; rfl
def rgs (l : List Int) : Prop := ∀ x ∈ l, rg x
theorem l3Sum_eq (a b : List Int) (ha : rgs a) (hb : rgs b) (h : a.length = b.length) (hl : a.length <= 1048576) : F.spec_l3Sum a b = some (List.zipWith adI a b) := by
 unfold F.spec_l3Sum
 have hh := loop_run (step := F.spec_l3Sum.s3) (fun i => (a, b, List.zipWith adI (a.take i) (b.take i), (i : Int), ())) a.length (fun i hi => by
  have hb2 : i < b.length := by omega
  unfold F.spec_l3Sum.s3
  simp only
  rw [lt_len hi, inb_nat hi, inb_nat hb2, Int.toNat_natCast, getD_at hi, getD_at hb2, specAdd_eq (ha _ (List.getElem_mem hi)) (hb _ (List.getElem_mem hb2)), w64_nat (by omega)]
  simp only [cond_true, chk_true, Option.bind_some, List.length_cons, List.length_nil, mz_pre h hi]
  rw [fits_of (by omega), zip_snoc hi hb2]; rfl) (l := .exit (a, b, List.zipWith adI (a.take a.length) (b.take a.length), (a.length : Int), ())) (by
  unfold F.spec_l3Sum.s3
  simp only [ge_len, cond_false]) rfl
 rw [List.take_length, List.take_of_length_le (show b.length <= a.length by omega)] at hh
 exact (congrArg (fun z => afterO z _) hh).trans rfl
def mergeS (a b : DSketch) : DSketch :=
 (adI a.1 b.1, adI a.2.1 b.2.1, if b.1 = 0 then a.2.2.1 else if a.1 = 0 then b.2.2.1 else mnI a.2.2.1 b.2.2.1, mxI a.2.2.2.1 b.2.2.2.1, List.zipWith adI a.2.2.2.2.1 b.2.2.2.2.1, List.zipWith mxI a.2.2.2.2.2.1 b.2.2.2.2.2.1,
  [List.zipWith adI (a.2.2.2.2.2.2.1.getD 0 []) (b.2.2.2.2.2.2.1.getD 0 []), List.zipWith adI (a.2.2.2.2.2.2.1.getD 1 []) (b.2.2.2.2.2.2.1.getD 1 [])], ())
theorem regs_loop (a b t : DSketch) (c su mn mx : Int) (hi : List Int) (ro : List (List Int)) (ha : a.2.2.2.2.2.1.length = 8) (hb : b.2.2.2.2.2.1.length = 8) :
  loopO F.spec_l3Merge.s7 (0, a, b, t, (c, su, mn, mx, hi, [], ro, ()), ()) = some (.inl (8, a, b, t, (c, su, mn, mx, hi, List.zipWith mxI a.2.2.2.2.2.1 b.2.2.2.2.2.1, ro, ()), ())) := by
 have hh := loop_run (step := F.spec_l3Merge.s7) (fun i => ((i : Int), a, b, t, (c, su, mn, mx, hi, List.zipWith mxI (a.2.2.2.2.2.1.take i) (b.2.2.2.2.2.1.take i), ro, ()), ())) 8 (fun i hi' => by
  have h1 : i < a.2.2.2.2.2.1.length := by omega
  have h2 : i < b.2.2.2.2.2.1.length := by omega
  unfold F.spec_l3Merge.s7
  simp only
  rw [show decide ((i : Int) < 8) = true from decide_eq_true (by omega), inb_nat h1, inb_nat h2, Int.toNat_natCast, getD_at h1, getD_at h2, l1Max_eq, w64_nat (by omega)]
  simp only [cond_true, chk_true, Option.bind_some, List.length_cons, List.length_nil, mz_pre (show a.2.2.2.2.2.1.length = b.2.2.2.2.2.1.length by omega) h1]
  rw [fits_of (by omega), zip_snoc h1 h2]; rfl) (l := .exit (8, a, b, t, (c, su, mn, mx, hi, List.zipWith mxI (a.2.2.2.2.2.1.take 8) (b.2.2.2.2.2.1.take 8), ro, ()), ())) (by
  unfold F.spec_l3Merge.s7; rfl) rfl
 rw [List.take_of_length_le (show a.2.2.2.2.2.1.length <= 8 by omega), List.take_of_length_le (show b.2.2.2.2.2.1.length <= 8 by omega)] at hh
 exact hh
theorem skR_len {s : DSketch} (h : SkR s) : ∃ r0 r1, s.2.2.2.2.2.2.1 = [r0, r1] /\ r0.length = 4 /\ r1.length = 4 /\ rgs r0 /\ rgs r1 /\ rgs s.2.2.2.2.1 /\ s.2.2.2.2.1.length = 8 /\ s.2.2.2.2.2.1.length = 8 := by
 obtain ⟨r0, r1, e, ⟨l0, g0⟩, ⟨l1, g1⟩⟩ := h.rows
 exact ⟨r0, r1, e, l0, l1, fun x hx => (g0 x hx).1, fun x hx => (g1 x hx).1, fun x hx => (h.hist.2 x hx).1, h.hist.1, h.regs.1⟩
theorem l3Merge_eq (a b : DSketch) (ha : SkR a) (hb : SkR b) : F.spec_l3Merge a b = some (mergeS a b) := by
 obtain ⟨p0, p1, ep, lp0, lp1, gp0, gp1, gph, lph, lpr⟩ := skR_len ha
 obtain ⟨q0, q1, eq, lq0, lq1, gq0, gq1, gqh, lqh, lqr⟩ := skR_len hb
 unfold F.spec_l3Merge mergeS
 rw [specAdd_eq ha.cnt hb.cnt, specAdd_eq ha.sum hb.sum]
 simp only [l1Min_eq, l1Max_eq, Option.bind_some, ep, eq, List.getD_cons_zero, List.getD_cons_succ]
 rw [l3Sum_eq _ _ gph gqh (by omega) (by omega), l3Sum_eq p0 q0 gp0 gq0 (by omega) (by omega), l3Sum_eq p1 q1 gp1 gq1 (by omega) (by omega)]
 simp only [Option.bind_some, show inb 0 [p0, p1].length = true from rfl, show inb 0 [q0, q1].length = true from rfl, show inb 1 [p0, p1].length = true from rfl, show inb 1 [q0, q1].length = true from rfl, chk_true]
 have L := fun (mn : Int) => regs_loop a b (0, 0, 0, 0, [], [], [], ()) (adI a.1 b.1) (adI a.2.1 b.2.1) mn (mxI a.2.2.2.1 b.2.2.2.1) (List.zipWith adI a.2.2.2.2.1 b.2.2.2.2.1) [List.zipWith adI p0 q0, List.zipWith adI p1 q1] lpr lqr
 by_cases h1 : a.1 = 0
 ·rw [show (a.1 == 0) = true by simp [h1]]
  by_cases h2 : b.1 = 0
  ·rw [show (b.1 == 0) = true by simp [h2], if_pos h2]
   simp only [cond_true]
   exact (congrArg (fun z => afterO z _) (L _)).trans rfl
  ·rw [show (b.1 == 0) = false by simp [h2], if_neg h2, if_pos h1]
   simp only [cond_true, cond_false]
   exact (congrArg (fun z => afterO z _) (L _)).trans rfl
 ·rw [show (a.1 == 0) = false by simp [h1]]
  by_cases h2 : b.1 = 0
  ·rw [show (b.1 == 0) = true by simp [h2], if_pos h2]
   simp only [cond_true, cond_false]
   exact (congrArg (fun z => afterO z _) (L _)).trans rfl
  ·rw [show (b.1 == 0) = false by simp [h2], if_neg h2, if_neg h1]
   simp only [cond_false]
   exact (congrArg (fun z => afterO z _) (L _)).trans rfl
theorem iHist_loop (l : List Int) (b t : DSketch) (c su mn mx : Int) (hi re : List Int) (ro : List (List Int)) (u : Unit) (hh : rgs hi) (hl : rgs l) (h : hi.length = l.length) (h8 : l.length <= 8) :
  loopO F.impl_Merge.s10 (l, len l, 0, b, t, (c, su, mn, mx, hi, re, ro, u), ()) = some (.inl (l, len l, (l.length : Int), b, t, (c, su, mn, mx, List.zipWith adI hi l, re, ro, u), ())) := by
 have hh := loop_run (step := F.impl_Merge.s10) (fun i => (l, len l, (i : Int), b, t, (c, su, mn, mx, mz adI hi l i, re, ro, u), ())) l.length (fun i hi' => by
  have h1 : i < hi.length := by omega
  unfold F.impl_Merge.s10
  simp only
  rw [lt_len hi', inb_nat hi', inb_nat (show i < (mz adI hi l i).length by rw [mz_len h]; exact h1), Int.toNat_natCast, mz_get h h1, getD_at hi', implAdd_eq (hh _ (List.getElem_mem h1)) (hl _ (List.getElem_mem hi')), w64_nat (by omega)]
  simp only [cond_true, chk_true, Option.bind_some]
  rw [mz_step h h1]) (l := .exit (l, len l, (l.length : Int), b, t, (c, su, mn, mx, mz adI hi l l.length, re, ro, u), ())) (by
  unfold F.impl_Merge.s10
  simp only [ge_len, cond_false]) rfl
 rw [mz_end adI hi l h] at hh
 have hh : loopO F.impl_Merge.s10 (l, len l, ((0 : Nat) : Int), b, t, (c, su, mn, mx, mz adI hi l 0, re, ro, u), ()) = _ := hh
 rw [mz_zero] at hh
 exact hh
theorem iRegs_loop (l : List Int) (b t : DSketch) (c su mn mx : Int) (hi re : List Int) (ro : List (List Int)) (u : Unit) (h : re.length = l.length) (h8 : l.length <= 8) :
  loopO F.impl_Merge.s15 (l, len l, 0, b, t, (c, su, mn, mx, hi, re, ro, u), ()) = some (.inl (l, len l, (l.length : Int), b, t, (c, su, mn, mx, hi, List.zipWith mxI re l, ro, u), ())) := by
 have hh := loop_run (step := F.impl_Merge.s15) (fun i => (l, len l, (i : Int), b, t, (c, su, mn, mx, hi, mz mxI re l i, ro, u), ())) l.length (fun i hi' => by
  have h1 : i < re.length := by omega
  unfold F.impl_Merge.s15
  simp only
  rw [lt_len hi', inb_nat hi', inb_nat (show i < (mz mxI re l i).length by rw [mz_len h]; exact h1), Int.toNat_natCast, mz_get h h1, getD_at hi', w64_nat (by omega)]
  simp only [cond_true, chk_true, Option.bind_some]
  rw [mz_step h h1]) (l := .exit (l, len l, (l.length : Int), b, t, (c, su, mn, mx, hi, mz mxI re l l.length, ro, u), ())) (by
  unfold F.impl_Merge.s15
  simp only [ge_len, cond_false]) rfl
 rw [mz_end mxI re l h] at hh
 have hh : loopO F.impl_Merge.s15 (l, len l, ((0 : Nat) : Int), b, t, (c, su, mn, mx, hi, mz mxI re l 0, ro, u), ()) = _ := hh
 rw [mz_zero] at hh
 exact hh
theorem setD_self {α : Type} {R : List α} {k : Nat} {x d : α} (h : k < R.length) : (R.set k x).getD k d = x := by
 rw [List.getD_eq_getElem?_getD, List.getElem?_set_self h]; rfl
theorem iRow_loop (k : Nat) (Rl : List (List Int)) (n : Int) (l m : List Int) (b : DSketch) (c su mn mx : Int) (hi re : List Int) (R : List (List Int)) (u : Unit) (hk : k < R.length) (hm : R.getD k [] = m) (gm : rgs m) (gl : rgs l) (h : m.length = l.length) (h8 : l.length <= 8) (t : DSketch) :
  loopO F.impl_Merge.s23 ((k : Int), Rl, n, (k : Int), l, len l, 0, t, (c, su, mn, mx, hi, re, R, u), ()) = some (.inl ((k : Int), Rl, n, (k : Int), l, len l, (l.length : Int), t, (c, su, mn, mx, hi, re, R.set k (List.zipWith adI m l), u), ())) := by
 have hR0 : R.set k (mz adI m l 0) = R := by
  rw [mz_zero, <- hm, getD_at hk, List.set_getElem_self]
 have hh := loop_run (step := F.impl_Merge.s23) (fun i => ((k : Int), Rl, n, (k : Int), l, len l, (i : Int), t, (c, su, mn, mx, hi, re, R.set k (mz adI m l i), u), ())) l.length (fun i hi' => by
  have h1 : i < m.length := by omega
  unfold F.impl_Merge.s23
  simp only
  rw [lt_len hi', inb_nat hi', inb_nat (show k < (R.set k (mz adI m l i)).length by rw [List.length_set]; exact hk), Int.toNat_natCast, Int.toNat_natCast, setD_self hk, inb_nat (show i < (mz adI m l i).length by rw [mz_len h]; exact h1), mz_get h h1, getD_at hi', implAdd_eq (gm _ (List.getElem_mem h1)) (gl _ (List.getElem_mem hi')), w64_nat (by omega)]
  simp only [cond_true, chk_true, Option.bind_some]
  rw [mz_step h h1, List.set_set]) (l := .exit ((k : Int), Rl, n, (k : Int), l, len l, (l.length : Int), t, (c, su, mn, mx, hi, re, R.set k (mz adI m l l.length), u), ())) (by
  unfold F.impl_Merge.s23
  simp only [ge_len, cond_false]) rfl
 rw [mz_end adI m l h] at hh
 have hh : loopO F.impl_Merge.s23 ((k : Int), Rl, n, (k : Int), l, len l, ((0 : Nat) : Int), t, (c, su, mn, mx, hi, re, R.set k (mz adI m l 0), u), ()) = _ := hh
 rw [hR0] at hh
 exact hh
theorem iRows_loop (p0 p1 q0 q1 : List Int) (t : DSketch) (c su mn mx : Int) (hi re : List Int) (u : Unit) (gp0 : rgs p0) (gp1 : rgs p1) (gq0 : rgs q0) (gq1 : rgs q1) (h0 : p0.length = q0.length) (h1 : p1.length = q1.length) (h8 : q0.length <= 8) (h9 : q1.length <= 8) :
  ∃ e, loopO F.impl_Merge.s20 ([q0, q1], len [q0, q1], 0, t, (c, su, mn, mx, hi, re, [p0, p1], u), ()) = some (.inl ([q0, q1], len [q0, q1], e, t, (c, su, mn, mx, hi, re, [List.zipWith adI p0 q0, List.zipWith adI p1 q1], u), ())) := by
 have r0 := iRow_loop 0 [q0, q1] (len [q0, q1]) q0 p0 t c su mn mx hi re [p0, p1] u (by simp) rfl gp0 gq0 h0 h8 t
 have r1 := iRow_loop 1 [q0, q1] (len [q0, q1]) q1 p1 t c su mn mx hi re [List.zipWith adI p0 q0, p1] u (by simp) rfl gp1 gq1 h1 h9 t
 refine ⟨2, loopO_of (n := 3) ?_⟩
 have s0 : F.impl_Merge.s20 ([q0, q1], len [q0, q1], 0, t, (c, su, mn, mx, hi, re, [p0, p1], u), ()) = some (.again ([q0, q1], len [q0, q1], 1, t, (c, su, mn, mx, hi, re, [List.zipWith adI p0 q0, p1], u), ())) := by
  unfold F.impl_Merge.s20
  simp only
  rw [show decide ((0 : Int) < len [q0, q1]) = true from rfl, show inb 0 [q0, q1].length = true from rfl]
  simp only [cond_true, chk_true, Int.toNat_zero, List.getD_cons_zero]
  exact (congrArg (fun z => afterO z _) r0).trans rfl
 have s1 : F.impl_Merge.s20 ([q0, q1], len [q0, q1], 1, t, (c, su, mn, mx, hi, re, [List.zipWith adI p0 q0, p1], u), ()) = some (.again ([q0, q1], len [q0, q1], 2, t, (c, su, mn, mx, hi, re, [List.zipWith adI p0 q0, List.zipWith adI p1 q1], u), ())) := by
  unfold F.impl_Merge.s20
  simp only
  rw [show decide ((1 : Int) < len [q0, q1]) = true from rfl, show inb 1 [q0, q1].length = true from rfl]
  simp only [cond_true, chk_true, show (1 : Int).toNat = 1 from rfl, List.getD_cons_succ, List.getD_cons_zero]
  exact (congrArg (fun z => afterO z _) r1).trans rfl
 have s2 : F.impl_Merge.s20 ([q0, q1], len [q0, q1], 2, t, (c, su, mn, mx, hi, re, [List.zipWith adI p0 q0, List.zipWith adI p1 q1], u), ()) = some (.exit ([q0, q1], len [q0, q1], 2, t, (c, su, mn, mx, hi, re, [List.zipWith adI p0 q0, List.zipWith adI p1 q1], u), ())) := rfl
 rw [iterO, s0]
 simp only
 rw [iterO, s1]
 simp only
 rw [iterO, s2]
theorem zSkR {s : DSketch} (h : SkR s) : zSketch s = 26 := by
 obtain ⟨r0, r1, e, l0, l1, _, _, _, l2, l3⟩ := skR_len h
 unfold zSketch zIntSS zIntS
 rw [e, l2, l3]
 simp [l0, l1, zIntS]
theorem implMerge_eq (a b : DSketch) (ha : SkR a) (hb : SkR b) : F.impl_Merge a b = some (mergeS a b, true) := by
 have za := zSkR ha
 have zb := zSkR hb
 unfold F.impl_Merge
 rw [implSk_dec a (by omega), implSk_dec b (by omega), decB_pos ha, decB_pos hb, copySketch_eq a (by omega)]
 simp only [Option.bind_some, Bool.not_true, cond_false]
 obtain ⟨p0, p1, ep, lp0, lp1, gp0, gp1, gph, lph, lpr⟩ := skR_len ha
 obtain ⟨q0, q1, eq, lq0, lq1, gq0, gq1, gqh, lqh, lqr⟩ := skR_len hb
 rw [implAdd_eq ha.cnt hb.cnt, implAdd_eq ha.sum hb.sum]
 simp only [Option.bind_some]
 have main : ∀ mn : Int, (afterO (loopO F.impl_Merge.s10 (b.2.2.2.2.1, len b.2.2.2.2.1, 0, b, (0, 0, 0, 0, ([] : List Int), ([] : List Int), ([] : List (List Int)), ()), (adI a.1 b.1, adI a.2.1 b.2.1, mn, mxI a.2.2.2.1 b.2.2.2.1, a.2.2.2.2), ())) fun (x13, x14, x15, x16, x17, x18, _) =>
   afterO (loopO F.impl_Merge.s15 (x16.2.2.2.2.2.1, len x16.2.2.2.2.2.1, 0, x16, x17, x18, ())) fun (x26, x27, x28, x29, x30, x31, _) =>
   afterO (loopO F.impl_Merge.s20 (x29.2.2.2.2.2.2.1, len x29.2.2.2.2.2.2.1, 0, x30, x31, ())) fun (x57, x58, x59, x60, x61, _) =>
   some (x61, true)) = some ((adI a.1 b.1, adI a.2.1 b.2.1, mn, mxI a.2.2.2.1 b.2.2.2.1, List.zipWith adI a.2.2.2.2.1 b.2.2.2.2.1, List.zipWith mxI a.2.2.2.2.2.1 b.2.2.2.2.2.1, [List.zipWith adI p0 q0, List.zipWith adI p1 q1], ()), true) := fun mn => by
  have h1 := iHist_loop b.2.2.2.2.1 b (0, 0, 0, 0, [], [], [], ()) (adI a.1 b.1) (adI a.2.1 b.2.1) mn (mxI a.2.2.2.1 b.2.2.2.1) a.2.2.2.2.1 a.2.2.2.2.2.1 a.2.2.2.2.2.2.1 a.2.2.2.2.2.2.2 gph gqh (by omega) (by omega)
  refine (congrArg (fun z => afterO z _) h1).trans ?_
  have h2 := iRegs_loop b.2.2.2.2.2.1 b (0, 0, 0, 0, [], [], [], ()) (adI a.1 b.1) (adI a.2.1 b.2.1) mn (mxI a.2.2.2.1 b.2.2.2.1) (List.zipWith adI a.2.2.2.2.1 b.2.2.2.2.1) a.2.2.2.2.2.1 a.2.2.2.2.2.2.1 a.2.2.2.2.2.2.2 (by omega) (by omega)
  simp only [afterO]
  rw [h2]
  obtain ⟨e, h3⟩ := iRows_loop p0 p1 q0 q1 (0, 0, 0, 0, [], [], [], ()) (adI a.1 b.1) (adI a.2.1 b.2.1) mn (mxI a.2.2.2.1 b.2.2.2.1) (List.zipWith adI a.2.2.2.2.1 b.2.2.2.2.1) (List.zipWith mxI a.2.2.2.2.2.1 b.2.2.2.2.2.1) () gp0 gp1 gq0 gq1 (by omega) (by omega) (by omega) (by omega)
  simp only [ep, eq]
  rw [h3]
 have fin : ∀ mn : Int, mn = (if b.1 = 0 then a.2.2.1 else if a.1 = 0 then b.2.2.1 else mnI a.2.2.1 b.2.2.1) -> some (((adI a.1 b.1, adI a.2.1 b.2.1, mn, mxI a.2.2.2.1 b.2.2.2.1, List.zipWith adI a.2.2.2.2.1 b.2.2.2.2.1, List.zipWith mxI a.2.2.2.2.2.1 b.2.2.2.2.2.1, [List.zipWith adI p0 q0, List.zipWith adI p1 q1], ()) : DSketch), true) = some (mergeS a b, true) := fun mn e => by
  subst e
  unfold mergeS
  rw [ep, eq]; rfl
 have b0 := hb.cnt
 by_cases h1 : a.1 = 0
 ·rw [show (a.1 == 0) = true by simp [h1]]
  refine (main _).trans (fin _ ?_)
  by_cases h2 : b.1 = 0
  ·rw [if_pos h2]
   have e1 := (ha.zero h1).2; have e2 := (hb.zero h2).2
   have := ha.mn; have := ha.mm; have := hb.mn; have := hb.mm
   omega
  ·rw [if_neg h2, if_pos h1]
 ·rw [show (a.1 == 0) = false by simp [h1]]
  simp only [cond_false]
  by_cases h2 : b.1 = 0
  ·rw [show decide (b.1 > 0) = false from decide_eq_false (by omega)]
   exact (main _).trans (fin _ (by rw [if_pos h2]))
  ·rw [show decide (b.1 > 0) = true from decide_eq_true (by omega)]
   simp only [cond_true]
   by_cases h3 : b.2.2.1 < a.2.2.1
   ·rw [decide_eq_true h3]
    refine (main _).trans (fin _ ?_)
    rw [if_neg h2, if_neg h1]
    unfold mnI
    rw [if_pos h3]
   ·rw [decide_eq_false h3]
    refine (main _).trans (fin _ ?_)
    rw [if_neg h2, if_neg h1]
    unfold mnI
    rw [if_neg h3]
theorem zipM_all {f : Int -> Int -> Int} {P : Int -> Prop} : ∀ {a b : List Int}, (∀ x ∈ a, ∀ y ∈ b, P (f x y)) -> ∀ z ∈ List.zipWith f a b, P z
 | [], _, _, z, hz => by simp at hz
 | _ :: _, [], _, z, hz => by simp at hz
 | x :: a, y :: b, h, z, hz => by
  rw [List.zipWith_cons_cons] at hz
  rcases List.mem_cons.1 hz with rfl | hz
  ·exact h x (by simp) y (by simp)
  ·exact zipM_all (fun x hx y hy => h x (by simp [hx]) y (by simp [hy])) z hz
theorem adI_zero {a b : Int} (ha : rg a) (hb : rg b) : adI a b = 0 ↔ a = 0 /\ b = 0 := by
 unfold rg adI mnI at *
 split <;> simp_all <;> omega
theorem zipAd {c d : Int} (hc : rg c) (hd : rg d) {a b : List Int} (ha : ∀ x ∈ a, (0 <= x /\ x <= 1000000000) /\ (c = 0 -> x = 0)) (hb : ∀ x ∈ b, (0 <= x /\ x <= 1000000000) /\ (d = 0 -> x = 0)) :
  ∀ z ∈ List.zipWith adI a b, (0 <= z /\ z <= 1000000000) /\ (adI c d = 0 -> z = 0) :=
 zipM_all (P := fun z => (0 <= z /\ z <= 1000000000) /\ (adI c d = 0 -> z = 0)) fun x hx y hy => ⟨adI_rg (ha x hx).1 (hb y hy).1, fun e => by
  obtain ⟨e1, e2⟩ := (adI_zero hc hd).1 e
  exact (adI_zero (ha x hx).1 (hb y hy).1).2 ⟨(ha x hx).2 e1, (hb y hy).2 e2⟩⟩
theorem mxI_cases (a b : Int) : mxI a b = a \/ mxI a b = b := by
 unfold mxI
 split
 ·first | exact .inl rfl | exact .inr rfl
 ·first | exact .inr rfl | exact .inl rfl
theorem mxI_ge (a b : Int) : a <= mxI a b /\ b <= mxI a b := by
 unfold mxI
 split <;> simp_all <;> omega
theorem mnI_cases (a b : Int) : mnI a b = a \/ mnI a b = b := by
 unfold mnI
 split
 ·first | exact .inl rfl | exact .inr rfl
 ·first | exact .inr rfl | exact .inl rfl
theorem mnI_le (a b : Int) : mnI a b <= a /\ mnI a b <= b := by
 unfold mnI
 split <;> simp_all <;> omega
theorem mergeS_ok {a b : DSketch} (ha : SkR a) (hb : SkR b) : SkR (mergeS a b) := by
 obtain ⟨p0, p1, ep, ⟨lp0, gp0⟩, ⟨lp1, gp1⟩⟩ := ha.rows
 obtain ⟨q0, q1, eq, ⟨lq0, gq0⟩, ⟨lq1, gq1⟩⟩ := hb.rows
 have hm := mxI_ge a.2.2.2.1 b.2.2.2.1
 have hc := mxI_cases a.2.2.2.1 b.2.2.2.1
 have hn := mnI_le a.2.2.1 b.2.2.1
 have hnc := mnI_cases a.2.2.1 b.2.2.1
 have a1 := ha.mn; have a2 := ha.mm; have a3 := ha.mx
 have b1 := hb.mn; have b2 := hb.mm; have b3 := hb.mx
 refine ⟨adI_rg ha.cnt hb.cnt, adI_rg ha.sum hb.sum, ?_, ?_, ?_, fun e => ?_, ⟨?_, zipAd ha.cnt hb.cnt ha.hist.2 hb.hist.2⟩, ⟨?_, ?_⟩, ⟨List.zipWith adI p0 q0, List.zipWith adI p1 q1, ?_, ⟨?_, zipAd ha.cnt hb.cnt gp0 gq0⟩, ⟨?_, zipAd ha.cnt hb.cnt gp1 gq1⟩⟩⟩
 ·show 0 <= (if b.1 = 0 then a.2.2.1 else if a.1 = 0 then b.2.2.1 else mnI a.2.2.1 b.2.2.1)
  (repeat' split) <;> omega
 ·show (if b.1 = 0 then a.2.2.1 else if a.1 = 0 then b.2.2.1 else mnI a.2.2.1 b.2.2.1) <= mxI a.2.2.2.1 b.2.2.2.1
  (repeat' split) <;> omega
 ·show mxI a.2.2.2.1 b.2.2.2.1 <= 1000000
  omega
 ·obtain ⟨e1, e2⟩ := (adI_zero ha.cnt hb.cnt).1 (show adI a.1 b.1 = 0 from e)
  have z1 := ha.zero e1; have z2 := hb.zero e2
  refine ⟨(adI_zero ha.sum hb.sum).2 ⟨z1.1, z2.1⟩, ?_⟩
  show mxI a.2.2.2.1 b.2.2.2.1 = 0
  omega
 ·show (List.zipWith adI a.2.2.2.2.1 b.2.2.2.2.1).length = 8
  rw [List.length_zipWith, ha.hist.1, hb.hist.1]; rfl
 ·show (List.zipWith mxI a.2.2.2.2.2.1 b.2.2.2.2.2.1).length = 8
  rw [List.length_zipWith, ha.regs.1, hb.regs.1]; rfl
 ·exact zipM_all (P := fun z => (0 <= z /\ z <= 17) /\ (adI a.1 b.1 = 0 -> z = 0)) fun x hx y hy => by
   have := mxI_cases x y
   have h1 := ha.regs.2 x hx; have h2 := hb.regs.2 y hy
   refine ⟨by omega, fun e => ?_⟩
   obtain ⟨e1, e2⟩ := (adI_zero ha.cnt hb.cnt).1 e
   have := h1.2 e1; have := h2.2 e2
   omega
 ·show [List.zipWith adI (a.2.2.2.2.2.2.1.getD 0 []) (b.2.2.2.2.2.2.1.getD 0 []), List.zipWith adI (a.2.2.2.2.2.2.1.getD 1 []) (b.2.2.2.2.2.2.1.getD 1 [])] = _
  rw [ep, eq]; rfl
 ·rw [List.length_zipWith, lp0, lq0]; rfl
 ·rw [List.length_zipWith, lp1, lq1]; rfl
theorem spSet_eq (a : List DSpan) (h : a.length <= 1048576) : F.spec_l5Copy a = some a := by
 unfold F.spec_l5Copy
 simp only [List.length_nil, List.nil_append, Nat.zero_add]
 rw [fits_of (by omega)]; rfl
theorem imSet_eq (a : List DSpan) (h : a.length <= 1048576) : F.impl_copySet a = some a := by
 unfold F.impl_copySet
 rw [fits_of (by omega)]; rfl
theorem l6Copy_eq (e : DEntry) (h : zEntry e <= 1048576) : F.spec_l6Copy e = some e := by
 have hz : e.2.2.1.length + zSketch e.2.2.2.1 <= 1048576 := h
 unfold F.spec_l6Copy
 rw [spSet_eq _ (by omega), l3Copy_eq _ (by omega)]; rfl
theorem copyEntry_eq (e : DEntry) (h : zEntry e <= 1048576) : F.impl_copyEntry e = some e := by
 have hz : e.2.2.1.length + zSketch e.2.2.2.1 <= 1048576 := h
 unfold F.impl_copyEntry
 rw [imSet_eq _ (by omega), copySketch_eq _ (by omega)]; rfl
theorem zEnR {e : DEntry} (h : EnR e) : zEntry e <= 5027 := by
 have h1 : e.2.2.1.length <= 5001 := okF_small (good_ok.1 h.ids)
 have h2 := zSkR h.sk
 show e.2.2.1.length + zSketch e.2.2.2.1 <= 5027
 omega
def addE (a b : DEntry) : DEntry := (a.1, a.2.1, joinS a.2.2.1 b.2.2.1, mergeS a.2.2.2.1 b.2.2.2.1, ())
theorem joinS_ne {a b : List Sp} (ha : Good a) (hb : Good b) (h0 : a ≠ []) : joinS a b ≠ [] := by
 intro e
 cases a with
 | nil => exact h0 rfl
 | cons x l =>
  have hx := okF_all (good_ok.1 ha) x (by simp)
  have := (joinS_mem (n := x.1) (good_ok.1 ha) (okF_ends (good_ok.1 hb))).2 (.inl ⟨x, by simp, Int.le_refl _, hx.2.1⟩)
  rw [e] at this
  exact memS_nil this
theorem addE_ok {a b : DEntry} (ha : EnR a) (hb : EnR b) : EnR (addE a b) :=
 ⟨ha.key, ha.win, good_ok.2 (joinS_ok (good_ok.1 ha.ids) (okF_ends (good_ok.1 hb.ids))), joinS_ne ha.ids hb.ids ha.some, mergeS_ok ha.sk hb.sk⟩
theorem l6Add_eq {a b : DEntry} (ha : EnR a) (hb : EnR b) : F.spec_l6Add a b = some (addE a b) := by
 have h2 : b.2.2.1.length <= 5001 := okF_small (good_ok.1 hb.ids)
 unfold F.spec_l6Add
 rw [l5Join_eq _ _ (good_ok.1 ha.ids) (okF_ends (good_ok.1 hb.ids)) (by omega), l3Merge_eq _ _ ha.sk hb.sk]; rfl
theorem good_le {a : List Sp} (h : Good a) : ∀ x ∈ a, x.1 <= x.2.1 := fun x hx => (okF_all (good_ok.1 h) x hx).2.1
def apRow (l : List DEntry) (ids : List Sp) : Bool := l.all fun x => apB x.2.2.1 ids
def atP (k w : Int) (x : DEntry) : Bool := x.1 == k && x.2.1 == w
theorem placeOf_eq (l : List DEntry) (k w : Int) (hn : l.length <= 1048576) : F.impl_placeOf l k w = some (match l.findIdx? (atP k w) with
  | some i => (i : Int)
  | none => -1) := by
 unfold F.impl_placeOf F.slices_IndexFunc_Entry__impl_placeOf_1
 have step : ∀ i (hi : i < l.length), F.slices_IndexFunc_Entry__impl_placeOf_1.s2 (l, (k, w, ()), len l, (i : Int), ()) = some (if atP k w l[i] = true then .ret (i : Int) else .again (l, (k, w, ()), len l, ((i + 1 : Nat) : Int), ())) := fun i hi => by
  unfold F.slices_IndexFunc_Entry__impl_placeOf_1.s2 F.impl_placeOf_1
  simp only
  rw [lt_len hi, inb_nat hi, Int.toNat_natCast, getD_at hi, w64_nat (by omega)]
  simp only [cond_true, chk_true]
  unfold atP
  cases (l[i].1 == k) <;> cases (l[i].2.1 == w) <;> rfl
 have key : ∀ (m p : List DEntry), p ++ m = l -> iterO F.slices_IndexFunc_Entry__impl_placeOf_1.s2 (m.length + 1) (l, (k, w, ()), len l, (p.length : Int), ()) = some (match m.findIdx? (atP k w) with
   | some i => .inr ((p.length + i : Nat) : Int)
   | none => .inl (l, (k, w, ()), len l, (l.length : Int), ())) := by
  intro m
  induction m with
  | nil =>
   intro p hp
   have hp : p = l := by simpa using hp
   subst hp
   have : F.slices_IndexFunc_Entry__impl_placeOf_1.s2 (p, (k, w, ()), len p, (p.length : Int), ()) = some (.exit (p, (k, w, ()), len p, (p.length : Int), ())) := by
    unfold F.slices_IndexFunc_Entry__impl_placeOf_1.s2
    simp only [ge_len, cond_false]
   rw [iterO, this]; rfl
  | cons x m ih =>
   intro p hp
   have hi : p.length < l.length := by rw [<- hp]; simp
   have hx : l[p.length] = x := by subst hp; simp
   rw [iterO, step _ hi, hx, List.findIdx?_cons]
   cases h : atP k w x with
   | true => simp
   | false =>
    have q := ih (p ++ [x]) (by rw [<- hp]; simp)
    rw [List.length_append] at q
    simp only [Bool.false_eq_true, if_false, List.length_cons]
    rw [show ((p.length + 1 : Nat) : Int) = ((p.length + [x].length : Nat) : Int) from rfl, q]
    cases List.findIdx? (atP k w) m with
    | none => rfl
    | some i =>
     simp only [Option.map_some, List.length_cons, List.length_nil]
     congr 2; omega
 have hh := loopO_of (key l [] rfl)
 have hh : loopO F.slices_IndexFunc_Entry__impl_placeOf_1.s2 (l, (k, w, ()), len l, 0, ()) = _ := hh
 simp only
 rw [hh]
 cases l.findIdx? (atP k w) with
 | none => rfl
 | some i => simp [afterO]
theorem atP_iff {k w : Int} {x : DEntry} : atP k w x = true ↔ x.1 = k /\ x.2.1 = w := by
 unfold atP
 rw [Bool.and_eq_true, beq_iff_eq, beq_iff_eq]
theorem entryAdd_eq {a b : DEntry} (ha : EnR a) (hb : EnR b) (h1 : a.1 = b.1) (h2 : a.2.1 = b.2.1) : F.impl_EntryAdd a b = some (bif apB a.2.2.1 b.2.2.1 then (addE a b, true) else ((0, 0, [], (0, 0, 0, 0, [], [], [], ()), ()), false)) := by
 have za := zEnR ha
 have zb := zEnR hb
 have la : a.2.2.1.length <= 5001 := okF_small (good_ok.1 ha.ids)
 have lb : b.2.2.1.length <= 5001 := okF_small (good_ok.1 hb.ids)
 unfold F.impl_EntryAdd
 rw [implEn_dec a (by omega), implEn_dec b (by omega), decB_pos ha, decB_pos hb, show (a.1 != b.1) = false by simp [h1], show (a.2.1 != b.2.1) = false by simp [h2], implApart_eq _ _ (by omega) (by omega), decB_pos ha.ids, decB_pos hb.ids]
 simp only [Option.bind_some, Bool.not_true, cond_false, Bool.true_and]
 cases apB a.2.2.1 b.2.2.1 with
 | false => rfl
 | true =>
  have hj : F.impl_SetJoin a.2.2.1 b.2.2.1 = some (joinS a.2.2.1 b.2.2.1, true) := by
   unfold F.impl_SetJoin
   rw [implSet_dec _ (by omega), implSet_dec _ (by omega), decB_pos ha.ids, decB_pos hb.ids, copySet_big _ (by omega)]
   simp only [Option.bind_some, Bool.not_true, cond_false]
   rw [fits_of (by omega), union_join _ _ (by rw [List.length_append]; omega) (good_ok.1 ha.ids) (okF_ends (good_ok.1 hb.ids))]
   rfl
  simp only [Bool.not_true, cond_false, hj, implMerge_eq _ _ ha.sk hb.sk, Option.bind_some]
  rfl
theorem zEnL : ∀ m : List DEntry, (∀ x ∈ m, EnR x) -> zEntryS m <= 5028 * m.length := by
 intro m
 unfold zEntryS
 induction m with
 | nil => intro _; simp
 | cons x m ih =>
  intro h
  have h1 := zEnR (h x (by simp))
  have h2 := ih (fun y hy => h y (by simp [hy]))
  simp only [List.map_cons, List.sum_cons, List.length_cons]
  omega
theorem l10Copy_eq (r : DRow) (h : zRow r <= 1048576) : F.spec_l10Copy r = some r := by
 have hz : zEntryS r.1 <= 1048576 := h
 have hn : r.1.length <= 1048576 := by unfold zEntryS at hz; omega
 unfold F.spec_l10Copy
 have hh := loop_run (step := F.spec_l10Copy.s3) (fun i => ((i : Int), r, ([], ()), (r.1.take i, ()), ())) r.1.length (fun i hi => by
  unfold F.spec_l10Copy.s3
  simp only
  rw [lt_len hi, inb_nat hi, Int.toNat_natCast, getD_at hi, l6Copy_eq _ (zE_mem hz (List.getElem_mem hi)), w64_nat (by omega)]
  simp only [cond_true, chk_true, Option.bind_some, List.length_cons, List.length_nil, List.length_take]
  rw [fits_of (by omega), take_snoc hi]; rfl) (l := .exit (((r.1.length : Nat) : Int), r, ([], ()), (r.1.take r.1.length, ()), ())) (by
  unfold F.spec_l10Copy.s3
  simp only [ge_len, cond_false]) rfl
 rw [List.take_length] at hh
 exact (congrArg (fun z => afterO z _) hh).trans rfl
theorem copyRow_eq (r : DRow) (h : zRow r <= 1048576) : F.impl_copyRow r = some r := by
 have hz : zEntryS r.1 <= 1048576 := h
 have hn : r.1.length <= 1048576 := by unfold zEntryS at hz; omega
 unfold F.impl_copyRow
 have hc : F.impl_copyEntries r.1 = some r.1 := by
  unfold F.impl_copyEntries
  have hh := loop_run (step := F.impl_copyEntries.s3) (fun i => (r.1.take i, r.1, len r.1, (i : Int), ())) r.1.length (fun i hi => by
   unfold F.impl_copyEntries.s3
   simp only
   rw [lt_len hi, inb_nat hi, Int.toNat_natCast, getD_at hi, copyEntry_eq _ (zE_mem hz (List.getElem_mem hi)), w64_nat (by omega)]
   simp only [cond_true, chk_true, Option.bind_some, List.length_cons, List.length_nil, List.length_take]
   rw [fits_of (by omega), take_snoc hi]; rfl) (l := .exit (r.1.take r.1.length, r.1, len r.1, ((r.1.length : Nat) : Int), ())) (by
   unfold F.impl_copyEntries.s3
   simp only [ge_len, cond_false]) rfl
  rw [List.take_length] at hh
  exact (congrArg (fun z => afterO z _) hh).trans rfl
 rw [hc]; rfl
def pushed (r : DRow) (e : DEntry) (j : Bool) : DRow × Bool := match (bif j then r.1.findIdx? (atP e.1 e.2.1) else none) with
 | some k => ((r.1.set k (addE (r.1.getD k e) e), r.2), true)
 | none => if r.1.length = 24 then (r, false) else ((r.1 ++ [e], r.2), true)
theorem find_at {l : List DEntry} {k w : Int} {i : Nat} (h : l.findIdx? (atP k w) = some i) : ∃ hi : i < l.length, l[i].1 = k /\ l[i].2.1 = w := by
 obtain ⟨hi, h1, _⟩ := List.findIdx?_eq_some_iff_getElem.1 h
 exact ⟨hi, atP_iff.1 h1⟩
theorem snoc_take {α : Type} {l : List α} {i : Nat} (h : i < l.length) : l.take i ++ [l[i]] = l.take (i + 1) := (List.take_succ_eq_append_getElem h).symm
theorem fits_take {α : Type} {l : List α} {i b : Nat} (h : i < l.length) (hl : l.length <= 1048576) (x : α) (hb : b <= 1000) : fits ((l.take i).length + [x].length) b = true := by
 refine fits_of ?_
 have h1 : (l.take i).length + [x].length <= 1048576 := by
  simp only [List.length_take, List.length_cons, List.length_nil]; omega
 have := Nat.mul_le_mul h1 hb
 omega
theorem specTurnCopy_eq (t : DTurn) (h : t.2.2.1.length <= 1048576) : F.spec_l11Copy t = some t := by
 unfold F.spec_l11Copy
 rw [fits_of (by simp; omega)]; rfl
theorem implTurnCopy_eq (t : DTurn) (h : t.2.2.1.length <= 1048576) : F.impl_copyTurn t = some t := by
 unfold F.impl_copyTurn
 rw [copyInts_eq _ h]; rfl
abbrev nilH : DHouse := ((0, 0, 0, ([] : List Int), 0, 0, 0, 0, ()), 0, false, ([] : List DSeat), ([] : List (List DRow)), ([] : List DTurn), 0, ([] : List DEntry), ([] : List DOut), ())
theorem zRootIn {h : DHouse} (hz : zHouse h <= 1048576) {k : Nat} (hk : k < h.2.2.2.2.2.2.2.1.length) : zEntry h.2.2.2.2.2.2.2.1[k] <= 1048576 :=
 zE_mem (n := 1048576) (by unfold zHouse at hz; omega) (List.getElem_mem hk)
theorem zOutIn {h : DHouse} (hz : zHouse h <= 1048576) {k : Nat} (hk : k < h.2.2.2.2.2.2.2.2.1.length) : zEntry h.2.2.2.2.2.2.2.2.1[k].2.1 <= 1048576 := by
 have h1 := sum_mem (f := zOut) (List.getElem_mem hk)
 have h2 : zOut h.2.2.2.2.2.2.2.2.1[k] = zEntry h.2.2.2.2.2.2.2.2.1[k].2.1 := rfl
 unfold zHouse zOutS at hz
 omega
theorem l12Copy_eq (h : DHouse) (hz : zHouse h <= 1048576) : F.spec_l12Copy h = some h := by
 have n1 : h.2.2.2.1.length <= 1048576 := by unfold zHouse zSeatS at hz; omega
 have n2 : h.2.2.2.2.1.length <= 1048576 := by unfold zHouse zRowSS at hz; omega
 have n3 : h.2.2.2.2.2.1.length <= 1048576 := by unfold zHouse zTurnS at hz; omega
 have n4 : h.2.2.2.2.2.2.2.1.length <= 1048576 := by unfold zHouse zEntryS at hz; omega
 have n5 : h.2.2.2.2.2.2.2.2.1.length <= 1048576 := by unfold zHouse zOutS at hz; omega
 unfold F.spec_l12Copy
 rw [l12Conf_eq h.1 (by unfold zHouse at hz; omega)]
 simp only [Option.bind_some]
 have l1 := loop_run (step := F.spec_l12Copy.s3) (fun i => ((i : Int), h, nilH, ((h.1, h.2.1, h.2.2.1, h.2.2.2.1.take i, ([] : List (List DRow)), ([] : List DTurn), h.2.2.2.2.2.2.1, ([] : List DEntry), ([] : List DOut), ()) : DHouse), ())) h.2.2.2.1.length (fun i hi => by
  unfold F.spec_l12Copy.s3
  simp only
  rw [lt_len hi, inb_nat hi, Int.toNat_natCast, getD_at hi, l9Copy_eq _ (zSeatIn hz hi), w64_nat (by omega)]
  simp only [cond_true, chk_true, Option.bind_some]
  rw [fits_take hi n1 _ (by omega), snoc_take hi]; rfl) (l := .exit (((h.2.2.2.1.length : Nat) : Int), h, nilH, ((h.1, h.2.1, h.2.2.1, h.2.2.2.1.take h.2.2.2.1.length, ([] : List (List DRow)), ([] : List DTurn), h.2.2.2.2.2.2.1, ([] : List DEntry), ([] : List DOut), ()) : DHouse), ())) (by
  unfold F.spec_l12Copy.s3
  simp only [ge_len, cond_false]) rfl
 rw [List.take_length] at l1
 refine (congrArg (fun z => afterO z _) l1).trans ?_
 simp only [afterO]
 have l2 := loop_run (step := F.spec_l12Copy.s7) (fun i => ((i : Int), h, nilH, ((h.1, h.2.1, h.2.2.1, h.2.2.2.1, h.2.2.2.2.1.take i, ([] : List DTurn), h.2.2.2.2.2.2.1, ([] : List DEntry), ([] : List DOut), ()) : DHouse), ())) h.2.2.2.2.1.length (fun i hi => by
  obtain ⟨q1, q2⟩ := zRowIn hz hi
  have li := loop_run (step := F.spec_l12Copy.s11) (fun j => ((i : Int), h.2.2.2.2.1[i].take j, (j : Int), h, nilH, ((h.1, h.2.1, h.2.2.1, h.2.2.2.1, h.2.2.2.2.1.take i, ([] : List DTurn), h.2.2.2.2.2.2.1, ([] : List DEntry), ([] : List DOut), ()) : DHouse), ())) h.2.2.2.2.1[i].length (fun j hj => by
   unfold F.spec_l12Copy.s11
   simp only
   rw [inb_nat hi, Int.toNat_natCast, getD_at hi, lt_len hj, inb_nat hj, Int.toNat_natCast, getD_at hj, l10Copy_eq _ (q2 _ (List.getElem_mem hj)), w64_nat (by omega)]
   simp only [cond_true, chk_true, Option.bind_some]
   rw [fits_take hj q1 _ (by omega), snoc_take hj]; rfl) (l := .exit ((i : Int), h.2.2.2.2.1[i].take h.2.2.2.2.1[i].length, ((h.2.2.2.2.1[i].length : Nat) : Int), h, nilH, ((h.1, h.2.1, h.2.2.1, h.2.2.2.1, h.2.2.2.2.1.take i, ([] : List DTurn), h.2.2.2.2.2.2.1, ([] : List DEntry), ([] : List DOut), ()) : DHouse), ())) (by
   unfold F.spec_l12Copy.s11
   simp only
   rw [inb_nat hi, Int.toNat_natCast, getD_at hi]
   simp only [ge_len, chk_true, cond_false]) rfl
  rw [List.take_length] at li
  have li : loopO F.spec_l12Copy.s11 ((i : Int), [], 0, h, nilH, ((h.1, h.2.1, h.2.2.1, h.2.2.2.1, h.2.2.2.2.1.take i, ([] : List DTurn), h.2.2.2.2.2.2.1, ([] : List DEntry), ([] : List DOut), ()) : DHouse), ()) = _ := li
  unfold F.spec_l12Copy.s7
  simp only
  rw [lt_len hi, li]
  simp only [cond_true, afterO]
  rw [fits_take hi n2 _ (by omega), snoc_take hi, w64_nat (by omega)]; rfl) (l := .exit (((h.2.2.2.2.1.length : Nat) : Int), h, nilH, ((h.1, h.2.1, h.2.2.1, h.2.2.2.1, h.2.2.2.2.1.take h.2.2.2.2.1.length, ([] : List DTurn), h.2.2.2.2.2.2.1, ([] : List DEntry), ([] : List DOut), ()) : DHouse), ())) (by
  unfold F.spec_l12Copy.s7
  simp only [ge_len, cond_false]) rfl
 rw [List.take_length] at l2
 have l2 : loopO F.spec_l12Copy.s7 (0, h, nilH, ((h.1, h.2.1, h.2.2.1, h.2.2.2.1, ([] : List (List DRow)), ([] : List DTurn), h.2.2.2.2.2.2.1, ([] : List DEntry), ([] : List DOut), ()) : DHouse), ()) = _ := l2
 rw [l2]
 simp only
 have l3 := loop_run (step := F.spec_l12Copy.s16) (fun i => ((i : Int), h, nilH, ((h.1, h.2.1, h.2.2.1, h.2.2.2.1, h.2.2.2.2.1, h.2.2.2.2.2.1.take i, h.2.2.2.2.2.2.1, ([] : List DEntry), ([] : List DOut), ()) : DHouse), ())) h.2.2.2.2.2.1.length (fun i hi => by
  unfold F.spec_l12Copy.s16
  simp only
  rw [lt_len hi, inb_nat hi, Int.toNat_natCast, getD_at hi, specTurnCopy_eq _ (zTurnIn hz (List.getElem_mem hi)), w64_nat (by omega)]
  simp only [cond_true, chk_true, Option.bind_some]
  rw [fits_take hi n3 _ (by omega), snoc_take hi]; rfl) (l := .exit (((h.2.2.2.2.2.1.length : Nat) : Int), h, nilH, ((h.1, h.2.1, h.2.2.1, h.2.2.2.1, h.2.2.2.2.1, h.2.2.2.2.2.1.take h.2.2.2.2.2.1.length, h.2.2.2.2.2.2.1, ([] : List DEntry), ([] : List DOut), ()) : DHouse), ())) (by
  unfold F.spec_l12Copy.s16
  simp only [ge_len, cond_false]) rfl
 rw [List.take_length] at l3
 have l3 : loopO F.spec_l12Copy.s16 (0, h, nilH, ((h.1, h.2.1, h.2.2.1, h.2.2.2.1, h.2.2.2.2.1, ([] : List DTurn), h.2.2.2.2.2.2.1, ([] : List DEntry), ([] : List DOut), ()) : DHouse), ()) = _ := l3
 rw [l3]
 simp only
 have l4 := loop_run (step := F.spec_l12Copy.s20) (fun i => ((i : Int), h, nilH, ((h.1, h.2.1, h.2.2.1, h.2.2.2.1, h.2.2.2.2.1, h.2.2.2.2.2.1, h.2.2.2.2.2.2.1, h.2.2.2.2.2.2.2.1.take i, ([] : List DOut), ()) : DHouse), ())) h.2.2.2.2.2.2.2.1.length (fun i hi => by
  unfold F.spec_l12Copy.s20
  simp only
  rw [lt_len hi, inb_nat hi, Int.toNat_natCast, getD_at hi, l6Copy_eq _ (zRootIn hz hi), w64_nat (by omega)]
  simp only [cond_true, chk_true, Option.bind_some]
  rw [fits_take hi n4 _ (by omega), snoc_take hi]; rfl) (l := .exit (((h.2.2.2.2.2.2.2.1.length : Nat) : Int), h, nilH, ((h.1, h.2.1, h.2.2.1, h.2.2.2.1, h.2.2.2.2.1, h.2.2.2.2.2.1, h.2.2.2.2.2.2.1, h.2.2.2.2.2.2.2.1.take h.2.2.2.2.2.2.2.1.length, ([] : List DOut), ()) : DHouse), ())) (by
  unfold F.spec_l12Copy.s20
  simp only [ge_len, cond_false]) rfl
 rw [List.take_length] at l4
 have l4 : loopO F.spec_l12Copy.s20 (0, h, nilH, ((h.1, h.2.1, h.2.2.1, h.2.2.2.1, h.2.2.2.2.1, h.2.2.2.2.2.1, h.2.2.2.2.2.2.1, ([] : List DEntry), ([] : List DOut), ()) : DHouse), ()) = _ := l4
 rw [l4]
 simp only
 have l5 := loop_run (step := F.spec_l12Copy.s24) (fun i => ((i : Int), h, nilH, ((h.1, h.2.1, h.2.2.1, h.2.2.2.1, h.2.2.2.2.1, h.2.2.2.2.2.1, h.2.2.2.2.2.2.1, h.2.2.2.2.2.2.2.1, h.2.2.2.2.2.2.2.2.1.take i, ()) : DHouse), ())) h.2.2.2.2.2.2.2.2.1.length (fun i hi => by
  unfold F.spec_l12Copy.s24
  simp only
  rw [lt_len hi, inb_nat hi, Int.toNat_natCast, getD_at hi, l6Copy_eq _ (zOutIn hz hi), w64_nat (by omega)]
  simp only [cond_true, chk_true, Option.bind_some]
  rw [fits_take hi n5 _ (by omega), show (h.2.2.2.2.2.2.2.2.1[i].1, h.2.2.2.2.2.2.2.2.1[i].2.1, ()) = h.2.2.2.2.2.2.2.2.1[i] from rfl, snoc_take hi]; rfl) (l := .exit (((h.2.2.2.2.2.2.2.2.1.length : Nat) : Int), h, nilH, ((h.1, h.2.1, h.2.2.1, h.2.2.2.1, h.2.2.2.2.1, h.2.2.2.2.2.1, h.2.2.2.2.2.2.1, h.2.2.2.2.2.2.2.1, h.2.2.2.2.2.2.2.2.1.take h.2.2.2.2.2.2.2.2.1.length, ()) : DHouse), ())) (by
  unfold F.spec_l12Copy.s24
  simp only [ge_len, cond_false]) rfl
 rw [List.take_length] at l5
 have l5 : loopO F.spec_l12Copy.s24 (0, h, nilH, ((h.1, h.2.1, h.2.2.1, h.2.2.2.1, h.2.2.2.2.1, h.2.2.2.2.2.1, h.2.2.2.2.2.2.1, h.2.2.2.2.2.2.2.1, ([] : List DOut), ()) : DHouse), ()) = _ := l5
 rw [l5]
theorem copyEntries_eq (l : List DEntry) (hz : zEntryS l <= 1048576) : F.impl_copyEntries l = some l := by
 have hn : l.length <= 1048576 := by unfold zEntryS at hz; omega
 unfold F.impl_copyEntries
 have hh := loop_run (step := F.impl_copyEntries.s3) (fun i => (l.take i, l, len l, (i : Int), ())) l.length (fun i hi => by
  unfold F.impl_copyEntries.s3
  simp only
  rw [lt_len hi, inb_nat hi, Int.toNat_natCast, getD_at hi, copyEntry_eq _ (zE_mem hz (List.getElem_mem hi)), w64_nat (by omega)]
  simp only [cond_true, chk_true, Option.bind_some]
  rw [fits_take hi hn _ (by omega), snoc_take hi]; rfl) (l := .exit (l.take l.length, l, len l, ((l.length : Nat) : Int), ())) (by
  unfold F.impl_copyEntries.s3
  simp only [ge_len, cond_false]) rfl
 rw [List.take_length] at hh
 exact (congrArg (fun z => afterO z _) hh).trans rfl
theorem copyOuts_eq (h : DHouse) (hz : zHouse h <= 1048576) : F.impl_copyOuts h.2.2.2.2.2.2.2.2.1 = some h.2.2.2.2.2.2.2.2.1 := by
 have hn : h.2.2.2.2.2.2.2.2.1.length <= 1048576 := by unfold zHouse zOutS at hz; omega
 unfold F.impl_copyOuts
 have hh := loop_run (step := F.impl_copyOuts.s3) (fun i => (h.2.2.2.2.2.2.2.2.1.take i, h.2.2.2.2.2.2.2.2.1, len h.2.2.2.2.2.2.2.2.1, (i : Int), ())) h.2.2.2.2.2.2.2.2.1.length (fun i hi => by
  unfold F.impl_copyOuts.s3
  simp only
  rw [lt_len hi, inb_nat hi, Int.toNat_natCast, getD_at hi, copyEntry_eq _ (zOutIn hz hi), w64_nat (by omega)]
  simp only [cond_true, chk_true, Option.bind_some]
  rw [fits_take hi hn _ (by omega), show (h.2.2.2.2.2.2.2.2.1[i].1, h.2.2.2.2.2.2.2.2.1[i].2.1, ()) = h.2.2.2.2.2.2.2.2.1[i] from rfl, snoc_take hi]; rfl) (l := .exit (h.2.2.2.2.2.2.2.2.1.take h.2.2.2.2.2.2.2.2.1.length, h.2.2.2.2.2.2.2.2.1, len h.2.2.2.2.2.2.2.2.1, ((h.2.2.2.2.2.2.2.2.1.length : Nat) : Int), ())) (by
  unfold F.impl_copyOuts.s3
  simp only [ge_len, cond_false]) rfl
 rw [List.take_length] at hh
 exact (congrArg (fun z => afterO z _) hh).trans rfl
theorem copyHouse_eq (h : DHouse) (hz : zHouse h <= 1048576) : F.impl_copyHouse h = some h := by
 have n1 : h.2.2.2.1.length <= 1048576 := by unfold zHouse zSeatS at hz; omega
 have n2 : h.2.2.2.2.1.length <= 1048576 := by unfold zHouse zRowSS at hz; omega
 have n3 : h.2.2.2.2.2.1.length <= 1048576 := by unfold zHouse zTurnS at hz; omega
 unfold F.impl_copyHouse
 rw [copyConf_eq h.1 (by unfold zHouse at hz; omega), copyEntries_eq _ (by unfold zHouse at hz; omega), copyOuts_eq h hz]
 simp only [Option.bind_some]
 have l1 := loop_run (step := F.impl_copyHouse.s3) (fun i => (h.2.2.2.1, len h.2.2.2.1, (i : Int), h, nilH, ((h.1, h.2.1, h.2.2.1, h.2.2.2.1.take i, ([] : List (List DRow)), ([] : List DTurn), h.2.2.2.2.2.2.1, h.2.2.2.2.2.2.2.1, h.2.2.2.2.2.2.2.2.1, ()) : DHouse), ())) h.2.2.2.1.length (fun i hi => by
  unfold F.impl_copyHouse.s3
  simp only
  rw [lt_len hi, inb_nat hi, Int.toNat_natCast, getD_at hi, copySeat_eq _ (zSeatIn hz hi), w64_nat (by omega)]
  simp only [cond_true, chk_true, Option.bind_some]
  rw [fits_take hi n1 _ (by omega), snoc_take hi]; rfl) (l := .exit (h.2.2.2.1, len h.2.2.2.1, ((h.2.2.2.1.length : Nat) : Int), h, nilH, ((h.1, h.2.1, h.2.2.1, h.2.2.2.1.take h.2.2.2.1.length, ([] : List (List DRow)), ([] : List DTurn), h.2.2.2.2.2.2.1, h.2.2.2.2.2.2.2.1, h.2.2.2.2.2.2.2.2.1, ()) : DHouse), ())) (by
  unfold F.impl_copyHouse.s3
  simp only [ge_len, cond_false]) rfl
 rw [List.take_length] at l1
 refine (congrArg (fun z => afterO z _) l1).trans ?_
 simp only [afterO]
 have l2 := loop_run (step := F.impl_copyHouse.s8) (fun i => (h.2.2.2.2.1, len h.2.2.2.2.1, (i : Int), h, nilH, ((h.1, h.2.1, h.2.2.1, h.2.2.2.1, h.2.2.2.2.1.take i, ([] : List DTurn), h.2.2.2.2.2.2.1, h.2.2.2.2.2.2.2.1, h.2.2.2.2.2.2.2.2.1, ()) : DHouse), ())) h.2.2.2.2.1.length (fun i hi => by
  obtain ⟨q1, q2⟩ := zRowIn hz hi
  have li := loop_run (step := F.impl_copyHouse.s12) (fun j => (h.2.2.2.2.1[i].take j, h.2.2.2.2.1, len h.2.2.2.2.1, (i : Int), h.2.2.2.2.1[i], len h.2.2.2.2.1[i], (j : Int), h, nilH, ((h.1, h.2.1, h.2.2.1, h.2.2.2.1, h.2.2.2.2.1.take i, ([] : List DTurn), h.2.2.2.2.2.2.1, h.2.2.2.2.2.2.2.1, h.2.2.2.2.2.2.2.2.1, ()) : DHouse), ())) h.2.2.2.2.1[i].length (fun j hj => by
   unfold F.impl_copyHouse.s12
   simp only
   rw [lt_len hj, inb_nat hj, Int.toNat_natCast, getD_at hj, copyRow_eq _ (q2 _ (List.getElem_mem hj)), w64_nat (by omega)]
   simp only [cond_true, chk_true, Option.bind_some]
   rw [fits_take hj q1 _ (by omega), snoc_take hj]; rfl) (l := .exit (h.2.2.2.2.1[i].take h.2.2.2.2.1[i].length, h.2.2.2.2.1, len h.2.2.2.2.1, (i : Int), h.2.2.2.2.1[i], len h.2.2.2.2.1[i], ((h.2.2.2.2.1[i].length : Nat) : Int), h, nilH, ((h.1, h.2.1, h.2.2.1, h.2.2.2.1, h.2.2.2.2.1.take i, ([] : List DTurn), h.2.2.2.2.2.2.1, h.2.2.2.2.2.2.2.1, h.2.2.2.2.2.2.2.2.1, ()) : DHouse), ())) (by
   unfold F.impl_copyHouse.s12
   simp only [ge_len, cond_false]) rfl
  rw [List.take_length] at li
  have li : loopO F.impl_copyHouse.s12 ([], h.2.2.2.2.1, len h.2.2.2.2.1, (i : Int), h.2.2.2.2.1[i], len h.2.2.2.2.1[i], 0, h, nilH, ((h.1, h.2.1, h.2.2.1, h.2.2.2.1, h.2.2.2.2.1.take i, ([] : List DTurn), h.2.2.2.2.2.2.1, h.2.2.2.2.2.2.2.1, h.2.2.2.2.2.2.2.2.1, ()) : DHouse), ()) = _ := li
  unfold F.impl_copyHouse.s8
  simp only
  rw [lt_len hi, inb_nat hi, Int.toNat_natCast, getD_at hi, li]
  simp only [cond_true, chk_true, afterO]
  rw [fits_take hi n2 _ (by omega), snoc_take hi, w64_nat (by omega)]; rfl) (l := .exit (h.2.2.2.2.1, len h.2.2.2.2.1, ((h.2.2.2.2.1.length : Nat) : Int), h, nilH, ((h.1, h.2.1, h.2.2.1, h.2.2.2.1, h.2.2.2.2.1.take h.2.2.2.2.1.length, ([] : List DTurn), h.2.2.2.2.2.2.1, h.2.2.2.2.2.2.2.1, h.2.2.2.2.2.2.2.2.1, ()) : DHouse), ())) (by
  unfold F.impl_copyHouse.s8
  simp only [ge_len, cond_false]) rfl
 rw [List.take_length] at l2
 have l2 : loopO F.impl_copyHouse.s8 (h.2.2.2.2.1, len h.2.2.2.2.1, 0, h, nilH, ((h.1, h.2.1, h.2.2.1, h.2.2.2.1, ([] : List (List DRow)), ([] : List DTurn), h.2.2.2.2.2.2.1, h.2.2.2.2.2.2.2.1, h.2.2.2.2.2.2.2.2.1, ()) : DHouse), ()) = _ := l2
 rw [l2]
 simp only
 have l3 := loop_run (step := F.impl_copyHouse.s19) (fun i => (h.2.2.2.2.2.1, len h.2.2.2.2.2.1, (i : Int), nilH, ((h.1, h.2.1, h.2.2.1, h.2.2.2.1, h.2.2.2.2.1, h.2.2.2.2.2.1.take i, h.2.2.2.2.2.2.1, h.2.2.2.2.2.2.2.1, h.2.2.2.2.2.2.2.2.1, ()) : DHouse), ())) h.2.2.2.2.2.1.length (fun i hi => by
  unfold F.impl_copyHouse.s19
  simp only
  rw [lt_len hi, inb_nat hi, Int.toNat_natCast, getD_at hi, implTurnCopy_eq _ (zTurnIn hz (List.getElem_mem hi)), w64_nat (by omega)]
  simp only [cond_true, chk_true, Option.bind_some]
  rw [fits_take hi n3 _ (by omega), snoc_take hi]; rfl) (l := .exit (h.2.2.2.2.2.1, len h.2.2.2.2.2.1, ((h.2.2.2.2.2.1.length : Nat) : Int), nilH, ((h.1, h.2.1, h.2.2.1, h.2.2.2.1, h.2.2.2.2.1, h.2.2.2.2.2.1.take h.2.2.2.2.2.1.length, h.2.2.2.2.2.2.1, h.2.2.2.2.2.2.2.1, h.2.2.2.2.2.2.2.2.1, ()) : DHouse), ())) (by
  unfold F.impl_copyHouse.s19
  simp only [ge_len, cond_false]) rfl
 rw [List.take_length] at l3
 have l3 : loopO F.impl_copyHouse.s19 (h.2.2.2.2.2.1, len h.2.2.2.2.2.1, 0, nilH, ((h.1, h.2.1, h.2.2.1, h.2.2.2.1, h.2.2.2.2.1, ([] : List DTurn), h.2.2.2.2.2.2.1, h.2.2.2.2.2.2.2.1, h.2.2.2.2.2.2.2.2.1, ()) : DHouse), ()) = _ := l3
 rw [l3]
theorem pick_step : F.spec_Pick.s6 = F.impl_Pick.s6 := by
 funext x
 obtain ⟨x8, x9, x10, x11, x12, u⟩ := x
 unfold F.spec_Pick.s6 F.impl_Pick.s6 F.spec_l11Next
 simp only [l1Min_mn, Option.bind_some]
abbrev T3 := Int × Bool × (List Int) × Unit
theorem mul_bd {q w : Int} (h1 : 1 <= q) (h2 : q <= 60) (h3 : 1 <= w) (h4 : w <= 4) : 1 <= q * w /\ q * w <= 240 := by
 have : w = 1 \/ w = 2 \/ w = 3 \/ w = 4 := by omega
 rcases this with rfl | rfl | rfl | rfl <;> omega
def upto (f : Bool) (l p : Int) : Int := if f then mnI 1000 (l + p) else l
end Go.Proofs.YtipaepbmdooekaaGreat.Vm
