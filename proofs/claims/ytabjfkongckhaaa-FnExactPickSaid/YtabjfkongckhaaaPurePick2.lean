/- Pick's loop ends, and how. -/
import Derived.Test.YtabjfkongckhaaaPurePick
import Derived.Test.YtabjfkongckhaaaPureLists
namespace Go.Proofs.Ytabjfkongckhaaa.Vm
open Go Go.RowKit
set_option linter.unusedVariables false

abbrev T3 := Int × Bool × (List Int) × Unit
theorem mul_bd {q w : Int} (h1 : 1 ≤ q) (h2 : q ≤ 60) (h3 : 1 ≤ w) (h4 : w ≤ 4) : 1 ≤ q * w ∧ q * w ≤ 240 := by
  have : w = 1 ∨ w = 2 ∨ w = 3 ∨ w = 4 := by omega
  rcases this with rfl | rfl | rfl | rfl <;> omega
/-- What is to hand over, fresh or not. -/
def upto (f : Bool) (l p : Int) : Int := if f then mnI 1000 (l + p) else l
/-- A visit. -/
theorem pick_visit (s w l : List Int) (q : Int) (z : T3) (i : Nat) (f : Bool) (hi : i < 3) (hs : s.length = 3) (hw : w.length = 3) (hl : l.length = 3) (hq : 1 ≤ q ∧ q ≤ 60) (hwb : ∀ x ∈ w, 1 ≤ x ∧ x ≤ 4) (hlb : ∀ x ∈ l, 0 ≤ x ∧ x ≤ 1000) (hsb : ∀ x ∈ s, 0 ≤ x ∧ x ≤ 200) :
    F.impl_Pick.s6 (s, w, q, z, ((i : Int), f, l, ()), ()) = some (if s[i] = 0 then .again (s, w, q, z, ((((i + 1) % 3 : Nat) : Int), true, l.set i 0, ()), ())
      else if s[i] ≤ upto f l[i] (q * w[i]) then .ret ((i : Int), ((i : Int), false, l.set i (upto f l[i] (q * w[i]) - s[i]), ())) else .again (s, w, q, z, ((((i + 1) % 3 : Nat) : Int), true, l.set i (upto f l[i] (q * w[i])), ()), ())) := by
  have hwi := hwb w[i] (List.getElem_mem _)
  have hli := hlb l[i] (List.getElem_mem _)
  have hsi := hsb s[i] (List.getElem_mem _)
  obtain ⟨q1, q2⟩ := mul_bd hq.1 hq.2 hwi.1 hwi.2
  have ei : Int.tmod (w64 ((i : Int) + 1)) 3 = (((i + 1) % 3 : Nat) : Int) := by
    have : i = 0 ∨ i = 1 ∨ i = 2 := by omega
    rcases this with rfl | rfl | rfl <;> decide
  unfold F.impl_Pick.s6
  simp only [Int.toNat_natCast, inb_nat (show i < s.length by omega), inb_nat (show i < l.length by omega), inb_nat (show i < w.length by omega), chk_true, getD_at (show i < s.length by omega), getD_at (show i < l.length by omega), getD_at (show i < w.length by omega), ei, List.length_set, Option.bind_some, getD_set_self (show i < l.length by omega), List.set_set, w64_id (x := q * w[i]) (by omega) (by omega), w64_id (x := l[i] + q * w[i]) (by omega) (by omega)]
  by_cases hz : s[i] = 0
  · rw [if_pos hz, show (s[i] == 0) = true by simp [hz]]; rfl
  · rw [if_neg hz, show (s[i] == 0) = false by simp [hz]]
    simp only [cond_false]
    cases f with
    | true =>
      simp only [cond_true, upto, if_true]
      have hb : mnI 1000 (l[i] + q * w[i]) ≤ 1000 ∧ 0 ≤ mnI 1000 (l[i] + q * w[i]) := by unfold mnI; split <;> omega
      by_cases hle : s[i] ≤ mnI 1000 (l[i] + q * w[i])
      · rw [if_pos hle, show decide (s[i] ≤ mnI 1000 (l[i] + q * w[i])) = true from decide_eq_true hle, w64_id (by omega) (by omega)]; rfl
      · rw [if_neg hle, show decide (s[i] ≤ mnI 1000 (l[i] + q * w[i])) = false from decide_eq_false hle]; rfl
    | false =>
      simp only [cond_false, upto, Bool.false_eq_true, if_false]
      by_cases hle : s[i] ≤ l[i]
      · rw [if_pos hle, show decide (s[i] ≤ l[i]) = true from decide_eq_true hle, w64_id (by omega) (by omega)]; rfl
      · rw [if_neg hle, show decide (s[i] ≤ l[i]) = false from decide_eq_false hle, show l.set i l[i] = l from List.set_getElem_self _]; rfl
/-- What is missing to the size of a class that has something. -/
def gap (s l : Int) : Nat := if s = 0 then 0 else (s - l).toNat
/-- How far it is to the next class that has something. -/
def far (s0 s1 s2 : Int) (i : Nat) : Nat :=
  if i = 0 then (if s0 ≠ 0 then 0 else if s1 ≠ 0 then 1 else 2) else if i = 1 then (if s1 ≠ 0 then 0 else if s2 ≠ 0 then 1 else 2) else (if s2 ≠ 0 then 0 else if s0 ≠ 0 then 1 else 2)
def pmeas (s0 s1 s2 : Int) (t : T3) : Nat := match t with
  | (a, f, [l0, l1, l2], _) => 8 * (gap s0 l0 + gap s1 l1 + gap s2 l2) + far s0 s1 s2 a.toNat + (if f then 0 else 4)
  | _ => 0
/-- What was left over to one that has nothing is not more than it was. -/
def lessAt (s m l : Int) : Prop := s = 0 → l ≤ m
def bd (l : Int) : Prop := 0 ≤ l ∧ l ≤ 1000
structure PInv (s0 s1 s2 m0 m1 m2 : Int) (t : T3) : Prop where
  ex : ∃ (i : Nat) (f : Bool) (l0 l1 l2 : Int), t = ((i : Int), f, [l0, l1, l2], ()) ∧ i < 3 ∧ bd l0 ∧ bd l1 ∧ bd l2 ∧ lessAt s0 m0 l0 ∧ lessAt s1 m1 l1 ∧ lessAt s2 m2 l2
/-- Who is picked. -/
structure PRes (s0 s1 s2 m0 m1 m2 : Int) (r : Int × T3) : Prop where
  ex : ∃ (i : Nat) (hi : i < 3) (l0 l1 l2 : Int), r = ((i : Int), ((i : Int), false, [l0, l1, l2], ())) ∧ [s0, s1, s2][i] > 0 ∧ bd l0 ∧ bd l1 ∧ bd l2 ∧ lessAt s0 m0 l0 ∧ lessAt s1 m1 l1 ∧ lessAt s2 m2 l2
theorem upto_ge {f : Bool} {l p : Int} (hp : 1 ≤ p) (hl : bd l) : bd (upto f l p) ∧ l ≤ upto f l p ∧ (f = true → upto f l p = 1000 ∨ l + 1 ≤ upto f l p) := by
  obtain ⟨h1, h2⟩ := hl
  unfold upto bd
  cases f with
  | true =>
    simp only [if_true, mnI]
    split
    · exact ⟨⟨by omega, by omega⟩, by omega, fun _ => .inr (by omega)⟩
    · exact ⟨⟨by omega, by omega⟩, by omega, fun _ => .inl rfl⟩
  | false => exact ⟨⟨h1, h2⟩, Int.le_refl _, fun h => by cases h⟩
theorem gap_up {f : Bool} {s l p : Int} (hp : 1 ≤ p) (hl : bd l) (hs : s ≤ 200) (hz : s ≠ 0) (hlt : ¬ s ≤ upto f l p) : gap s (upto f l p) + (if f then 1 else 0) ≤ gap s l := by
  obtain ⟨h1, h2, h3⟩ := upto_ge (f := f) hp hl
  unfold gap
  rw [if_neg hz, if_neg hz]
  cases f with
  | true => rcases h3 rfl with h | h <;> simp only [if_true] <;> omega
  | false => simp only [Bool.false_eq_true, if_false]; omega
theorem far0 {s0 s1 s2 : Int} (hne : ¬ (s0 = 0 ∧ s1 = 0 ∧ s2 = 0)) (hz : s0 = 0) : far s0 s1 s2 1 + 1 ≤ far s0 s1 s2 0 := by
  unfold far
  by_cases h1 : s1 = 0 <;> by_cases h2 : s2 = 0 <;> simp_all
theorem far1 {s0 s1 s2 : Int} (hne : ¬ (s0 = 0 ∧ s1 = 0 ∧ s2 = 0)) (hz : s1 = 0) : far s0 s1 s2 2 + 1 ≤ far s0 s1 s2 1 := by
  unfold far
  by_cases h1 : s0 = 0 <;> by_cases h2 : s2 = 0 <;> simp_all
theorem far2 {s0 s1 s2 : Int} (hne : ¬ (s0 = 0 ∧ s1 = 0 ∧ s2 = 0)) (hz : s2 = 0) : far s0 s1 s2 0 + 1 ≤ far s0 s1 s2 2 := by
  unfold far
  by_cases h1 : s0 = 0 <;> by_cases h2 : s1 = 0 <;> simp_all
theorem gap_z {s l : Int} (h : s = 0) : gap s l = 0 := by unfold gap; rw [if_pos h]
theorem pick_loop (s0 s1 s2 w0 w1 w2 q : Int) (z : T3) (t : T3) (hs0 : 0 ≤ s0 ∧ s0 ≤ 200) (hs1 : 0 ≤ s1 ∧ s1 ≤ 200) (hs2 : 0 ≤ s2 ∧ s2 ≤ 200) (hw0 : 1 ≤ w0 ∧ w0 ≤ 4) (hw1 : 1 ≤ w1 ∧ w1 ≤ 4) (hw2 : 1 ≤ w2 ∧ w2 ≤ 4) (hq : 1 ≤ q ∧ q ≤ 60)
    (hne : ¬ (s0 = 0 ∧ s1 = 0 ∧ s2 = 0)) {m0 m1 m2 : Int} (hm : 0 ≤ m0 ∧ 0 ≤ m1 ∧ 0 ≤ m2) (ht : PInv s0 s1 s2 m0 m1 m2 t) : ∃ r, loopO F.impl_Pick.s6 ([s0, s1, s2], [w0, w1, w2], q, z, t, ()) = some (.inr r) ∧ PRes s0 s1 s2 m0 m1 m2 r := by
  obtain ⟨y, h1, r, rfl, h2⟩ := loopO_rule (step := F.impl_Pick.s6) (fun x => x.1 = [s0, s1, s2] ∧ x.2.1 = [w0, w1, w2] ∧ x.2.2.1 = q ∧ PInv s0 s1 s2 m0 m1 m2 x.2.2.2.2.1) (fun y => ∃ r, y = .inr r ∧ PRes s0 s1 s2 m0 m1 m2 r)
    (fun x => pmeas s0 s1 s2 x.2.2.2.2.1) (fun x hx => by
      obtain ⟨x1, x2, x3, x4, x5, u⟩ := x
      obtain ⟨rfl, rfl, rfl, ⟨i, f, l0, l1, l2, rfl, hi, b0, b1, b2, c0, c1, c2⟩⟩ := hx
      simp only at *
      have hv := pick_visit [s0, s1, s2] [w0, w1, w2] [l0, l1, l2] x3 x4 i f hi rfl rfl rfl hq (by simp; omega) (by simp only [List.mem_cons, List.not_mem_nil, or_false]; rintro x (rfl | rfl | rfl) <;> assumption) (by simp; omega)
      obtain ⟨q0, _⟩ := mul_bd hq.1 hq.2 hw0.1 hw0.2
      obtain ⟨q1, _⟩ := mul_bd hq.1 hq.2 hw1.1 hw1.2
      obtain ⟨q2, _⟩ := mul_bd hq.1 hq.2 hw2.1 hw2.2
      rw [hv]
      refine ⟨_, rfl, ?_⟩
      have h0 : bd 0 := ⟨by omega, by omega⟩
      have hi' : i = 0 ∨ i = 1 ∨ i = 2 := by omega
      rcases hi' with rfl | rfl | rfl
      · simp only [List.getElem_cons_zero, List.set_cons_zero]
        by_cases hz : s0 = 0
        · rw [if_pos hz]
          refine ⟨⟨rfl, rfl, rfl, ⟨1, true, _, _, _, rfl, by omega, h0, b1, b2, fun _ => hm.1, c1, c2⟩⟩, ?_⟩
          have hf := far0 hne hz
          simp only [pmeas, gap_z hz, Int.toNat_natCast, show (((0 + 1) % 3 : Nat)) = 1 from rfl, if_true]
          omega
        · rw [if_neg hz]
          obtain ⟨u1, u2, u3⟩ := upto_ge (f := f) q0 b0
          by_cases hle : s0 ≤ upto f l0 (x3 * w0)
          · rw [if_pos hle]
            exact ⟨_, rfl, 0, by omega, _, _, _, rfl, by simp only [List.getElem_cons_zero]; omega, ⟨by omega, by have := u1.2; omega⟩, b1, b2, fun h => absurd h hz, c1, c2⟩
          · rw [if_neg hle]
            refine ⟨⟨rfl, rfl, rfl, ⟨1, true, _, _, _, rfl, by omega, u1, b1, b2, fun h => absurd h hz, c1, c2⟩⟩, ?_⟩
            have hg := gap_up q0 b0 hs0.2 hz hle
            have hf1 : far s0 s1 s2 1 ≤ 2 := by unfold far; simp; split <;> (try split) <;> omega
            have hf0 : far s0 s1 s2 0 = 0 := by unfold far; simp [hz]
            simp only [pmeas, Int.toNat_natCast, hf0, show (((0 + 1) % 3 : Nat)) = 1 from rfl]
            cases f <;> simp at hg ⊢ <;> omega
      · simp only [List.getElem_cons_zero, List.getElem_cons_succ, List.set_cons_zero, List.set_cons_succ]
        by_cases hz : s1 = 0
        · rw [if_pos hz]
          refine ⟨⟨rfl, rfl, rfl, ⟨2, true, _, _, _, rfl, by omega, b0, h0, b2, c0, fun _ => hm.2.1, c2⟩⟩, ?_⟩
          have hf := far1 hne hz
          simp only [pmeas, gap_z hz, Int.toNat_natCast, show (((1 + 1) % 3 : Nat)) = 2 from rfl, if_true]
          omega
        · rw [if_neg hz]
          obtain ⟨u1, u2, u3⟩ := upto_ge (f := f) q1 b1
          by_cases hle : s1 ≤ upto f l1 (x3 * w1)
          · rw [if_pos hle]
            exact ⟨_, rfl, 1, by omega, _, _, _, rfl, by simp only [List.getElem_cons_zero, List.getElem_cons_succ]; omega, b0, ⟨by omega, by have := u1.2; omega⟩, b2, c0, fun h => absurd h hz, c2⟩
          · rw [if_neg hle]
            refine ⟨⟨rfl, rfl, rfl, ⟨2, true, _, _, _, rfl, by omega, b0, u1, b2, c0, fun h => absurd h hz, c2⟩⟩, ?_⟩
            have hg := gap_up q1 b1 hs1.2 hz hle
            have hf1 : far s0 s1 s2 2 ≤ 2 := by unfold far; simp; split <;> (try split) <;> omega
            have hf0 : far s0 s1 s2 1 = 0 := by unfold far; simp [hz]
            simp only [pmeas, Int.toNat_natCast, hf0, show (((1 + 1) % 3 : Nat)) = 2 from rfl]
            cases f <;> simp at hg ⊢ <;> omega
      · simp only [List.getElem_cons_zero, List.getElem_cons_succ, List.set_cons_zero, List.set_cons_succ]
        by_cases hz : s2 = 0
        · rw [if_pos hz]
          refine ⟨⟨rfl, rfl, rfl, ⟨0, true, _, _, _, rfl, by omega, b0, b1, h0, c0, c1, fun _ => hm.2.2⟩⟩, ?_⟩
          have hf := far2 hne hz
          simp only [pmeas, gap_z hz, Int.toNat_natCast, show (((2 + 1) % 3 : Nat)) = 0 from rfl, if_true]
          omega
        · rw [if_neg hz]
          obtain ⟨u1, u2, u3⟩ := upto_ge (f := f) q2 b2
          by_cases hle : s2 ≤ upto f l2 (x3 * w2)
          · rw [if_pos hle]
            exact ⟨_, rfl, 2, by omega, _, _, _, rfl, by simp only [List.getElem_cons_zero, List.getElem_cons_succ]; omega, b0, b1, ⟨by omega, by have := u1.2; omega⟩, c0, c1, fun h => absurd h hz⟩
          · rw [if_neg hle]
            refine ⟨⟨rfl, rfl, rfl, ⟨0, true, _, _, _, rfl, by omega, b0, b1, u1, c0, c1, fun h => absurd h hz⟩⟩, ?_⟩
            have hg := gap_up q2 b2 hs2.2 hz hle
            have hf1 : far s0 s1 s2 0 ≤ 2 := by unfold far; simp; split <;> (try split) <;> omega
            have hf0 : far s0 s1 s2 2 = 0 := by unfold far; simp [hz]
            simp only [pmeas, Int.toNat_natCast, hf0, show (((2 + 1) % 3 : Nat)) = 0 from rfl]
            cases f <;> simp at hg ⊢ <;> omega) (x := ([s0, s1, s2], [w0, w1, w2], q, z, t, ())) ⟨rfl, rfl, rfl, ht⟩
  exact ⟨r, h1, h2⟩
end Go.Proofs.Ytabjfkongckhaaa.Vm
