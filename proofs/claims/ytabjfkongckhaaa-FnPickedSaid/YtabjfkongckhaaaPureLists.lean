/- Lists that are copied, compared, counted, marked: loops of one shape each. -/
import Derived.Test.YtabjfkongckhaaaPureKit
namespace Go.Proofs.Ytabjfkongckhaaa.Vm
open Go Go.RowKit
set_option linter.unusedVariables false

theorem getD_set_self {α : Type} {l : List α} {i : Nat} {x d : α} (h : i < l.length) : (l.set i x).getD i d = x := by
  rw [List.getD_eq_getElem?_getD, List.getElem?_set_self h]; rfl
theorem getD_mid {α : Type} {p : List α} {x d : α} {l : List α} : (p ++ x :: l).getD p.length d = x := by
  rw [List.getD_eq_getElem?_getD, List.getElem?_append_right (Nat.le_refl _), Nat.sub_self]; rfl
theorem set_mid {α : Type} {p : List α} {x y : α} {l : List α} : (p ++ x :: l).set p.length y = p ++ y :: l := by
  rw [List.set_append_right _ _ (Nat.le_refl _), Nat.sub_self]; rfl
theorem mid_app {α : Type} {p : List α} {y : α} {l : List α} : p ++ y :: l = (p ++ [y]) ++ l := by simp
section
variable {α A : Type}
theorem loop_of_iter {X A : Type} {step : X → Option (Lp X A)} {n : Nat} {x : X} {y : X ⊕ A} (h : iterO step n x = some y) : loopO step x = some y := loopO_of h
/-- Copied, element by element. -/
theorem loop_to {step : (List α × List α × Int × Unit) → Option (Lp (List α × List α × Int × Unit) A)} (l : List α) (d : α)
    (hs : ∀ i (m : List α) (hi : i < l.length), i < m.length → step (l, m, (i : Int), ()) = some (.again (l, m.set i l[i], ((i + 1 : Nat) : Int), ())))
    (he : ∀ m, step (l, m, ((l.length : Nat) : Int), ()) = some (.exit (l, m, ((l.length : Nat) : Int), ()))) :
    loopO step (l, List.replicate l.length d, 0, ()) = some (.inl (l, l, ((l.length : Nat) : Int), ())) := by
  have h := loop_run (step := step) (fun i => (l, mid d l i, (i : Int), ())) l.length (fun i hi => by
    rw [hs i _ hi (by rw [mid_len (by omega)]; exact hi)]
    have := copy_step d l hi
    rw [getD_at hi] at this
    unfold mid
    rw [this]) (l := .exit (l, l, ((l.length : Nat) : Int), ())) (y := .inl (l, l, ((l.length : Nat) : Int), ())) (by
      have e : mid d l l.length = l := by simp [mid]
      show step (l, mid d l l.length, ((l.length : Nat) : Int), ()) = _
      rw [e]; exact he l) rfl
  have e : mid d l 0 = List.replicate l.length d := by simp [mid]
  have h : loopO step (l, mid d l 0, ((0 : Nat) : Int), ()) = _ := h
  rw [e] at h
  exact h
/-- Each is what it is. -/
theorem loop_eq {step : (List α × List α × Int × Unit) → Option (Lp (List α × List α × Int × Unit) A)} (l : List α)
    (hs : ∀ i (hi : i < l.length), step (l, l, (i : Int), ()) = some (.again (l, l, ((i + 1 : Nat) : Int), ())))
    (he : step (l, l, ((l.length : Nat) : Int), ()) = some (.exit (l, l, ((l.length : Nat) : Int), ()))) :
    loopO step (l, l, 0, ()) = some (.inl (l, l, ((l.length : Nat) : Int), ())) :=
  loop_run (step := step) (fun i => (l, l, (i : Int), ())) l.length hs he rfl
/-- Counted down. -/
theorem loop_sz {step : (List α × Int × Int × Unit) → Option (Lp (List α × Int × Int × Unit) Int)} (sz : α → Nat) (l : List α) (n : Int) (h0 : 0 ≤ n)
    (hs : ∀ i (k : Int) (hi : i < l.length), 0 ≤ k → k ≤ n → step (l, k, (i : Int), ()) = some (if (sz l[i] : Int) ≤ k then .again (l, k - (sz l[i] : Int), ((i + 1 : Nat) : Int), ()) else .ret (-1)))
    (he : ∀ k, step (l, k, ((l.length : Nat) : Int), ()) = some (.exit (l, k, ((l.length : Nat) : Int), ()))) :
    loopO step (l, n, 0, ()) = some (if (((l.map sz).sum : Nat) : Int) ≤ n then .inl (l, n - ((l.map sz).sum : Nat), ((l.length : Nat) : Int), ()) else .inr (-1)) := by
  have key : ∀ (m p : List α) (k : Int), p ++ m = l → 0 ≤ k → k ≤ n → iterO step (m.length + 1) (l, k, ((p.length : Nat) : Int), ()) = some (if (((m.map sz).sum : Nat) : Int) ≤ k then .inl (l, k - ((m.map sz).sum : Nat), ((l.length : Nat) : Int), ()) else .inr (-1)) := by
    intro m
    induction m with
    | nil =>
      intro p k hp hk _
      have hp : p = l := by simpa using hp
      subst hp
      simp [iterO, he, hk]
    | cons x m ih =>
      intro p k hp hk hkn
      have hi : p.length < l.length := by rw [← hp]; simp
      have hx : l[p.length] = x := by subst hp; simp
      rw [iterO, hs p.length k hi hk hkn, hx]
      by_cases hle : (sz x : Int) ≤ k
      · rw [if_pos hle]
        simp only
        have := ih (p ++ [x]) (k - sz x) (by rw [← hp]; simp) (by omega) (by omega)
        rw [List.length_append] at this
        rw [show ((p.length + 1 : Nat) : Int) = ((p.length + [x].length : Nat) : Int) from rfl, List.length_cons, this]
        congr 1
        simp only [List.map_cons, List.sum_cons]
        by_cases h2 : (((m.map sz).sum : Nat) : Int) ≤ k - sz x
        · rw [if_pos h2, if_pos (by omega)]
          congr 3; omega
        · rw [if_neg h2, if_neg (by omega)]
      · rw [if_neg hle]
        simp only [List.map_cons, List.sum_cons]
        rw [if_neg (by omega)]
  exact loopO_of (key l [] n rfl h0 (Int.le_refl _))
/-- Marked, and found as marked. -/
theorem loop_mark {mstep : (Int × Int × List α × Unit) → Option (Lp (Int × Int × List α × Unit) (Int × List α))} {hstep : (List α × Int × Int × Unit) → Option (Lp (List α × Int × Int × Unit) Int)} (d : α) (cnt : α → Nat) (B : Int) (l : List α) (k : Int) (hk : 0 ≤ k) (hB : k + (((l.map cnt).sum : Nat) : Int) ≤ B)
    (hel : ∀ x ∈ l, ∀ k : Int, 0 ≤ k → k + (cnt x : Int) ≤ B → ∃ x',
      (∀ (i : Nat) (m : List α), i < m.length → m.length = l.length → m.getD i d = x → mstep (k, (i : Int), m, ()) = some (.again (k + cnt x, ((i + 1 : Nat) : Int), m.set i x', ()))) ∧
      (∀ (i : Nat) (m : List α), i < m.length → m.length = l.length → m.getD i d = x' → hstep (m, k, (i : Int), ()) = some (.again (m, k + cnt x, ((i + 1 : Nat) : Int), ()))))
    (hm : ∀ (m : List α) (k : Int), mstep (k, ((m.length : Nat) : Int), m, ()) = some (.exit (k, ((m.length : Nat) : Int), m, ())))
    (hh : ∀ (m : List α) (k : Int), hstep (m, k, ((m.length : Nat) : Int), ()) = some (.exit (m, k, ((m.length : Nat) : Int), ()))) :
    ∃ l', loopO mstep (k, 0, l, ()) = some (.inl (k + ((l.map cnt).sum : Nat), ((l.length : Nat) : Int), l', ())) ∧ loopO hstep (l', k, 0, ()) = some (.inl (l', k + ((l.map cnt).sum : Nat), ((l.length : Nat) : Int), ())) := by
  have key : ∀ (m p : List α) (k : Int), (∀ x ∈ m, x ∈ l) → p.length + m.length = l.length → 0 ≤ k → k + (((m.map cnt).sum : Nat) : Int) ≤ B → ∃ m', m'.length = m.length ∧
      iterO mstep (m.length + 1) (k, ((p.length : Nat) : Int), p ++ m, ()) = some (.inl (k + ((m.map cnt).sum : Nat), ((l.length : Nat) : Int), p ++ m', ())) ∧
      ∀ q : List α, q.length = p.length → iterO hstep (m.length + 1) (q ++ m', k, ((p.length : Nat) : Int), ()) = some (.inl (q ++ m', k + ((m.map cnt).sum : Nat), ((l.length : Nat) : Int), ())) := by
    intro m
    induction m with
    | nil =>
      intro p k _ hp _ _
      have hp : p.length = l.length := by simpa using hp
      refine ⟨[], rfl, ?_, fun q hq => ?_⟩
      · have := hm p k
        simp [iterO, hp]
        rw [hp] at this
        simp [this]
      · have := hh q k
        rw [hq, hp] at this
        simp [iterO, hp, this]
    | cons x m ih =>
      intro p k hmem hp hk hB
      simp only [List.map_cons, List.sum_cons] at hB
      obtain ⟨x', h1, h2⟩ := hel x (hmem x (by simp)) k hk (by omega)
      obtain ⟨m', g0, g1, g2⟩ := ih (p ++ [x']) (k + cnt x) (fun y hy => hmem y (by simp [hy])) (by simp at hp ⊢; omega) (by omega) (by omega)
      refine ⟨x' :: m', by simp [g0], ?_, fun q hq => ?_⟩
      · rw [iterO, h1 p.length (p ++ x :: m) (by simp) (by simp at hp ⊢; omega) getD_mid, set_mid]
        simp only
        rw [show p ++ x' :: m = (p ++ [x']) ++ m by simp, show p ++ x' :: m' = (p ++ [x']) ++ m' by simp, List.length_cons]
        rw [List.length_append] at g1
        refine g1.trans ?_
        simp only [List.map_cons, List.sum_cons]
        congr 3; omega
      · rw [iterO, show ((p.length : Nat) : Int) = ((q.length : Nat) : Int) by rw [hq], h2 q.length (q ++ x' :: m') (by simp) (by simp at hp ⊢; omega) getD_mid]
        simp only
        have := g2 (q ++ [x']) (by simp [hq])
        rw [List.length_append] at this
        rw [mid_app, List.length_cons, hq]
        refine this.trans ?_
        simp only [List.map_cons, List.sum_cons]
        congr 4; omega
  obtain ⟨l', _, h1, h2⟩ := key l [] k (fun _ h => h) (by simp) hk hB
  exact ⟨l', loopO_of h1, loopO_of (h2 [] rfl)⟩
end
end Go.Proofs.Ytabjfkongckhaaa.Vm
