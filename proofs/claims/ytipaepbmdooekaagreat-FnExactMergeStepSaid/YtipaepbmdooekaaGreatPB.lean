-- compact
import Derived.Test.YtipaepbmdooekaaGreatPA
namespace Go.Proofs.YtipaepbmdooekaaGreat.Vm
open Go Go.RowKit
set_option linter.unusedVariables false
theorem pick_visit (s w l : List Int) (q : Int) (z : T3) (i : Nat) (f : Bool) (hi : i < 3) (hs : s.length = 3) (hw : w.length = 3) (hl : l.length = 3) (hq : 1 <= q /\ q <= 60) (hwb : ∀ x ∈ w, 1 <= x /\ x <= 4) (hlb : ∀ x ∈ l, 0 <= x /\ x <= 1000) (hsb : ∀ x ∈ s, 0 <= x /\ x <= 200) :
  F.impl_Pick.s6 (s, w, q, z, ((i : Int), f, l, ()), ()) = some (if s[i] = 0 then .again (s, w, q, z, ((((i + 1) % 3 : Nat) : Int), true, l.set i 0, ()), ())
   else if s[i] <= upto f l[i] (q * w[i]) then .ret ((i : Int), ((i : Int), false, l.set i (upto f l[i] (q * w[i]) - s[i]), ())) else .again (s, w, q, z, ((((i + 1) % 3 : Nat) : Int), true, l.set i (upto f l[i] (q * w[i])), ()), ())) := by
 have hwi := hwb w[i] (List.getElem_mem _)
 have hli := hlb l[i] (List.getElem_mem _)
 have hsi := hsb s[i] (List.getElem_mem _)
 obtain ⟨q1, q2⟩ := mul_bd hq.1 hq.2 hwi.1 hwi.2
 have ei : Int.tmod (w64 ((i : Int) + 1)) 3 = (((i + 1) % 3 : Nat) : Int) := by
  have : i = 0 \/ i = 1 \/ i = 2 := by omega
  rcases this with rfl | rfl | rfl <;> decide
 unfold F.impl_Pick.s6
 simp only [Int.toNat_natCast, inb_nat (show i < s.length by omega), inb_nat (show i < l.length by omega), inb_nat (show i < w.length by omega), chk_true, getD_at (show i < s.length by omega), getD_at (show i < l.length by omega), getD_at (show i < w.length by omega), ei, List.length_set, Option.bind_some, getD_set_self (show i < l.length by omega), List.set_set, w64_id (x := q * w[i]) (by omega) (by omega), w64_id (x := l[i] + q * w[i]) (by omega) (by omega)]
 by_cases hz : s[i] = 0
 ·rw [if_pos hz, show (s[i] == 0) = true by simp [hz]]; rfl
 ·rw [if_neg hz, show (s[i] == 0) = false by simp [hz]]
  simp only [cond_false]
  cases f with
  | true =>
   simp only [cond_true, upto, if_true]
   have hb : mnI 1000 (l[i] + q * w[i]) <= 1000 /\ 0 <= mnI 1000 (l[i] + q * w[i]) := by unfold mnI; split <;> omega
   by_cases hle : s[i] <= mnI 1000 (l[i] + q * w[i])
   ·rw [if_pos hle, show decide (s[i] <= mnI 1000 (l[i] + q * w[i])) = true from decide_eq_true hle, w64_id (by omega) (by omega)]; rfl
   ·rw [if_neg hle, show decide (s[i] <= mnI 1000 (l[i] + q * w[i])) = false from decide_eq_false hle]; rfl
  | false =>
   simp only [cond_false, upto, Bool.false_eq_true, if_false]
   by_cases hle : s[i] <= l[i]
   ·rw [if_pos hle, show decide (s[i] <= l[i]) = true from decide_eq_true hle, w64_id (by omega) (by omega)]; rfl
   ·rw [if_neg hle, show decide (s[i] <= l[i]) = false from decide_eq_false hle, show l.set i l[i] = l from List.set_getElem_self _]; rfl
def gap (s l : Int) : Nat := if s = 0 then 0 else (s - l).toNat
def far (s0 s1 s2 : Int) (i : Nat) : Nat :=
 if i = 0 then (if s0 ≠ 0 then 0 else if s1 ≠ 0 then 1 else 2) else if i = 1 then (if s1 ≠ 0 then 0 else if s2 ≠ 0 then 1 else 2) else (if s2 ≠ 0 then 0 else if s0 ≠ 0 then 1 else 2)
def pmeas (s0 s1 s2 : Int) (t : T3) : Nat := match t with
 | (a, f, [l0, l1, l2], _) => 8 * (gap s0 l0 + gap s1 l1 + gap s2 l2) + far s0 s1 s2 a.toNat + (if f then 0 else 4)
 | _ => 0
def lessAt (s m l : Int) : Prop := s = 0 -> l <= m
def bd (l : Int) : Prop := 0 <= l /\ l <= 1000
structure PInv (s0 s1 s2 m0 m1 m2 : Int) (t : T3) : Prop where
 ex : ∃ (i : Nat) (f : Bool) (l0 l1 l2 : Int), t = ((i : Int), f, [l0, l1, l2], ()) /\ i < 3 /\ bd l0 /\ bd l1 /\ bd l2 /\ lessAt s0 m0 l0 /\ lessAt s1 m1 l1 /\ lessAt s2 m2 l2
structure PRes (s0 s1 s2 m0 m1 m2 : Int) (r : Int × T3) : Prop where
 ex : ∃ (i : Nat) (hi : i < 3) (l0 l1 l2 : Int), r = ((i : Int), ((i : Int), false, [l0, l1, l2], ())) /\ [s0, s1, s2][i] > 0 /\ bd l0 /\ bd l1 /\ bd l2 /\ lessAt s0 m0 l0 /\ lessAt s1 m1 l1 /\ lessAt s2 m2 l2
theorem upto_ge {f : Bool} {l p : Int} (hp : 1 <= p) (hl : bd l) : bd (upto f l p) /\ l <= upto f l p /\ (f = true -> upto f l p = 1000 \/ l + 1 <= upto f l p) := by
 obtain ⟨h1, h2⟩ := hl
 unfold upto bd
 cases f with
 | true =>
  simp only [if_true, mnI]
  split
  ·exact ⟨⟨by omega, by omega⟩, by omega, fun _ => .inr (by omega)⟩
  ·exact ⟨⟨by omega, by omega⟩, by omega, fun _ => .inl rfl⟩
 | false => exact ⟨⟨h1, h2⟩, Int.le_refl _, fun h => by cases h⟩
theorem gap_up {f : Bool} {s l p : Int} (hp : 1 <= p) (hl : bd l) (hs : s <= 200) (hz : s ≠ 0) (hlt : ¬ s <= upto f l p) : gap s (upto f l p) + (if f then 1 else 0) <= gap s l := by
 obtain ⟨h1, h2, h3⟩ := upto_ge (f := f) hp hl
 unfold gap
 rw [if_neg hz, if_neg hz]
 cases f with
 | true => rcases h3 rfl with h | h <;> simp only [if_true] <;> omega
 | false => simp only [Bool.false_eq_true, if_false]; omega
theorem far0 {s0 s1 s2 : Int} (hne : ¬ (s0 = 0 /\ s1 = 0 /\ s2 = 0)) (hz : s0 = 0) : far s0 s1 s2 1 + 1 <= far s0 s1 s2 0 := by
 unfold far
 by_cases h1 : s1 = 0 <;> by_cases h2 : s2 = 0 <;> simp_all
theorem far1 {s0 s1 s2 : Int} (hne : ¬ (s0 = 0 /\ s1 = 0 /\ s2 = 0)) (hz : s1 = 0) : far s0 s1 s2 2 + 1 <= far s0 s1 s2 1 := by
 unfold far
 by_cases h1 : s0 = 0 <;> by_cases h2 : s2 = 0 <;> simp_all
theorem far2 {s0 s1 s2 : Int} (hne : ¬ (s0 = 0 /\ s1 = 0 /\ s2 = 0)) (hz : s2 = 0) : far s0 s1 s2 0 + 1 <= far s0 s1 s2 2 := by
 unfold far
 by_cases h1 : s0 = 0 <;> by_cases h2 : s1 = 0 <;> simp_all
theorem gap_z {s l : Int} (h : s = 0) : gap s l = 0 := by unfold gap; rw [if_pos h]
theorem pick_loop (s0 s1 s2 w0 w1 w2 q : Int) (z : T3) (t : T3) (hs0 : 0 <= s0 /\ s0 <= 200) (hs1 : 0 <= s1 /\ s1 <= 200) (hs2 : 0 <= s2 /\ s2 <= 200) (hw0 : 1 <= w0 /\ w0 <= 4) (hw1 : 1 <= w1 /\ w1 <= 4) (hw2 : 1 <= w2 /\ w2 <= 4) (hq : 1 <= q /\ q <= 60)
  (hne : ¬ (s0 = 0 /\ s1 = 0 /\ s2 = 0)) {m0 m1 m2 : Int} (hm : 0 <= m0 /\ 0 <= m1 /\ 0 <= m2) (ht : PInv s0 s1 s2 m0 m1 m2 t) : ∃ r, loopO F.impl_Pick.s6 ([s0, s1, s2], [w0, w1, w2], q, z, t, ()) = some (.inr r) /\ PRes s0 s1 s2 m0 m1 m2 r := by
 obtain ⟨y, h1, r, rfl, h2⟩ := loopO_rule (step := F.impl_Pick.s6) (fun x => x.1 = [s0, s1, s2] /\ x.2.1 = [w0, w1, w2] /\ x.2.2.1 = q /\ PInv s0 s1 s2 m0 m1 m2 x.2.2.2.2.1) (fun y => ∃ r, y = .inr r /\ PRes s0 s1 s2 m0 m1 m2 r)
  (fun x => pmeas s0 s1 s2 x.2.2.2.2.1) (fun x hx => by
   obtain ⟨x1, x2, x3, x4, x5, u⟩ := x
   obtain ⟨rfl, rfl, rfl, ⟨i, f, l0, l1, l2, rfl, hi, b0, b1, b2, c0, c1, c2⟩⟩ := hx
   simp only at *
   have hv := pick_visit [s0, s1, s2] [w0, w1, w2] [l0, l1, l2] x3 x4 i f hi rfl rfl rfl hq (by simp; omega) (by simp only [List.mem_cons, List.not_mem_nil, or_false]; rintro x (rfl | rfl | rfl) <;> assumption) (by simp; omega)
   obtain ⟨q0, _⟩ := mul_bd hq.1 hq.2 hw0.1 hw0.2
   obtain ⟨q1, _⟩ := mul_bd hq.1 hq.2 hw1.1 hw1.2
   obtain ⟨q2, _⟩ := mul_bd hq.1 hq.2 hw2.1 hw2.2
   rw [hv]
   refine ⟨_, rfl, ?_⟩
   have h0 : bd 0 := ⟨by omega, by omega⟩
   have hi' : i = 0 \/ i = 1 \/ i = 2 := by omega
   rcases hi' with rfl | rfl | rfl
   ·simp only [List.getElem_cons_zero, List.set_cons_zero]
    by_cases hz : s0 = 0
    ·rw [if_pos hz]
     refine ⟨⟨rfl, rfl, rfl, ⟨1, true, _, _, _, rfl, by omega, h0, b1, b2, fun _ => hm.1, c1, c2⟩⟩, ?_⟩
     have hf := far0 hne hz
     simp only [pmeas, gap_z hz, Int.toNat_natCast, show (((0 + 1) % 3 : Nat)) = 1 from rfl, if_true]
     omega
    ·rw [if_neg hz]
     obtain ⟨u1, u2, u3⟩ := upto_ge (f := f) q0 b0
     by_cases hle : s0 <= upto f l0 (x3 * w0)
     ·rw [if_pos hle]
      exact ⟨_, rfl, 0, by omega, _, _, _, rfl, by simp only [List.getElem_cons_zero]; omega, ⟨by omega, by have := u1.2; omega⟩, b1, b2, fun h => absurd h hz, c1, c2⟩
     ·rw [if_neg hle]
      refine ⟨⟨rfl, rfl, rfl, ⟨1, true, _, _, _, rfl, by omega, u1, b1, b2, fun h => absurd h hz, c1, c2⟩⟩, ?_⟩
      have hg := gap_up q0 b0 hs0.2 hz hle
      have hf1 : far s0 s1 s2 1 <= 2 := by unfold far; simp; split <;> (try split) <;> omega
      have hf0 : far s0 s1 s2 0 = 0 := by unfold far; simp [hz]
      simp only [pmeas, Int.toNat_natCast, hf0, show (((0 + 1) % 3 : Nat)) = 1 from rfl]
      cases f <;> simp at hg ⊢ <;> omega
   ·simp only [List.getElem_cons_zero, List.getElem_cons_succ, List.set_cons_zero, List.set_cons_succ]
    by_cases hz : s1 = 0
    ·rw [if_pos hz]
     refine ⟨⟨rfl, rfl, rfl, ⟨2, true, _, _, _, rfl, by omega, b0, h0, b2, c0, fun _ => hm.2.1, c2⟩⟩, ?_⟩
     have hf := far1 hne hz
     simp only [pmeas, gap_z hz, Int.toNat_natCast, show (((1 + 1) % 3 : Nat)) = 2 from rfl, if_true]
     omega
    ·rw [if_neg hz]
     obtain ⟨u1, u2, u3⟩ := upto_ge (f := f) q1 b1
     by_cases hle : s1 <= upto f l1 (x3 * w1)
     ·rw [if_pos hle]
      exact ⟨_, rfl, 1, by omega, _, _, _, rfl, by simp only [List.getElem_cons_zero, List.getElem_cons_succ]; omega, b0, ⟨by omega, by have := u1.2; omega⟩, b2, c0, fun h => absurd h hz, c2⟩
     ·rw [if_neg hle]
      refine ⟨⟨rfl, rfl, rfl, ⟨2, true, _, _, _, rfl, by omega, b0, u1, b2, c0, fun h => absurd h hz, c2⟩⟩, ?_⟩
      have hg := gap_up q1 b1 hs1.2 hz hle
      have hf1 : far s0 s1 s2 2 <= 2 := by unfold far; simp; split <;> (try split) <;> omega
      have hf0 : far s0 s1 s2 1 = 0 := by unfold far; simp [hz]
      simp only [pmeas, Int.toNat_natCast, hf0, show (((1 + 1) % 3 : Nat)) = 2 from rfl]
      cases f <;> simp at hg ⊢ <;> omega
   ·simp only [List.getElem_cons_zero, List.getElem_cons_succ, List.set_cons_zero, List.set_cons_succ]
    by_cases hz : s2 = 0
    ·rw [if_pos hz]
     refine ⟨⟨rfl, rfl, rfl, ⟨0, true, _, _, _, rfl, by omega, b0, b1, h0, c0, c1, fun _ => hm.2.2⟩⟩, ?_⟩
     have hf := far2 hne hz
     simp only [pmeas, gap_z hz, Int.toNat_natCast, show (((2 + 1) % 3 : Nat)) = 0 from rfl, if_true]
     omega
    ·rw [if_neg hz]
     obtain ⟨u1, u2, u3⟩ := upto_ge (f := f) q2 b2
     by_cases hle : s2 <= upto f l2 (x3 * w2)
     ·rw [if_pos hle]
      exact ⟨_, rfl, 2, by omega, _, _, _, rfl, by simp only [List.getElem_cons_zero, List.getElem_cons_succ]; omega, b0, b1, ⟨by omega, by have := u1.2; omega⟩, c0, c1, fun h => absurd h hz⟩
     ·rw [if_neg hle]
      refine ⟨⟨rfl, rfl, rfl, ⟨0, true, _, _, _, rfl, by omega, b0, b1, u1, c0, c1, fun h => absurd h hz⟩⟩, ?_⟩
      have hg := gap_up q2 b2 hs2.2 hz hle
      have hf1 : far s0 s1 s2 0 <= 2 := by unfold far; simp; split <;> (try split) <;> omega
      have hf0 : far s0 s1 s2 2 = 0 := by unfold far; simp [hz]
      simp only [pmeas, Int.toNat_natCast, hf0, show (((2 + 1) % 3 : Nat)) = 0 from rfl]
      cases f <;> simp at hg ⊢ <;> omega) (x := ([s0, s1, s2], [w0, w1, w2], q, z, t, ())) ⟨rfl, rfl, rfl, ht⟩
 exact ⟨r, h1, h2⟩
theorem three {a : List Int} {lo hi : Int} (h : ((len a == 3) && a.all (inR lo hi)) = true) : ∃ x y z, a = [x, y, z] /\ (lo <= x /\ x <= hi) /\ (lo <= y /\ y <= hi) /\ (lo <= z /\ z <= hi) := by
 rw [Bool.and_eq_true, beq_iff_eq] at h
 obtain ⟨h1, h2⟩ := h
 have h1 : (a.length : Int) = 3 := h1
 obtain ⟨x, y, z, rfl⟩ : ∃ x y z, a = [x, y, z] := by
  match a, h1 with
  | [x, y, z], _ => exact ⟨x, y, z, rfl⟩
  | [], h => simp at h
  | [_], h => simp at h
  | [_, _], h => simp at h
  | _ :: _ :: _ :: _ :: _, h => simp at h; omega
 simp only [List.all_cons, List.all_nil, Bool.and_true, Bool.and_eq_true, inR, decide_eq_true_eq] at h2
 exact ⟨x, y, z, rfl, ⟨by omega, by omega⟩, ⟨by omega, by omega⟩, ⟨by omega, by omega⟩⟩
theorem max3 (x y z : Int) : F.slices_Max_int [x, y, z] = some (mxI (mxI x y) z) := by
 unfold F.slices_Max_int
 have h : loopO F.slices_Max_int.s5 ([x, y, z], List.getD [x, y, z] 0 0, 1, ()) = some (.inl ([x, y, z], mxI (mxI x y) z, 3, ())) := loopO_of (n := 3) rfl
 rw [h]; rfl
theorem turnOk_spec (t : T3) (h : t.2.2.1.length <= 1048576) : F.spec_TurnOk t = some (inR 0 2 t.1 && ((len t.2.2.1 == 3) && t.2.2.1.all (inR 0 1000))) := by
 unfold F.spec_TurnOk F.spec_l6Agent
 simp only [l1In_eq, l11Nums_eq _ 0 1000 h, Option.bind_some]
 cases inR 0 2 t.1 <;> rfl
theorem turnOk_impl (t : T3) (h : t.2.2.1.length <= 1048576) : F.impl_TurnOk t = some (inR 0 2 t.1 && ((len t.2.2.1 == 3) && t.2.2.1.all (inR 0 1000))) := by
 unfold F.impl_TurnOk
 simp only [within_eq, allWithin_eq _ 3 0 1000 h, Option.bind_some]
 cases inR 0 2 t.1 <;> rfl
def pickOk (a b : List Int) (q : Int) (t : T3) : Bool := ((len a == 3) && a.all (inR 0 200)) && (((len b == 3) && b.all (inR 1 4)) && (inR 1 60 q && (inR 0 2 t.1 && ((len t.2.2.1 == 3) && t.2.2.1.all (inR 0 1000)))))
theorem pick_same (a b : List Int) (q : Int) (t : T3) (ha : a.length <= 1048576) (hb : b.length <= 1048576) (ht : t.2.2.1.length <= 1048576) : ∃ r : Int × T3, F.spec_Pick a b q t = some r /\ F.impl_Pick a b q t = some r /\
  ((pickOk a b q t = false /\ r = (-1, t)) \/ (pickOk a b q t = true /\ a.all (fun x => x == 0) = true /\ r = (-1, (0, true, [0, 0, 0], ()))) \/
   (pickOk a b q t = true /\ ∃ s0 s1 s2 m0 m1 m2, a = [s0, s1, s2] /\ t.2.2.1 = [m0, m1, m2] /\ PRes s0 s1 s2 m0 m1 m2 r)) := by
 unfold F.spec_Pick F.impl_Pick
 simp only [specTurnCopy_eq t ht, implTurnCopy_eq t ht, l11Nums_eq a 0 200 ha, l11Nums_eq b 1 4 hb, l1In_eq, within_eq, turnOk_spec t ht, turnOk_impl t ht, allWithin_eq a 3 0 200 ha, allWithin_eq b 3 1 4 hb, l11Nums_eq a 0 0 ha, Option.bind_some]
 cases h1 : ((len a == 3) && a.all (inR 0 200)) with
 | false => exact ⟨_, rfl, rfl, .inl ⟨by unfold pickOk; rw [h1]; rfl, rfl⟩⟩
 | true => cases h2 : ((len b == 3) && b.all (inR 1 4)) with
  | false => exact ⟨_, rfl, rfl, .inl ⟨by unfold pickOk; rw [h1, h2]; rfl, rfl⟩⟩
  | true => cases h3 : inR 1 60 q with
   | false => exact ⟨_, rfl, rfl, .inl ⟨by unfold pickOk; rw [h1, h2, h3]; rfl, rfl⟩⟩
   | true => cases h4 : (inR 0 2 t.1 && ((len t.2.2.1 == 3) && t.2.2.1.all (inR 0 1000))) with
    | false => exact ⟨_, rfl, rfl, .inl ⟨by unfold pickOk; rw [h1, h2, h3, h4]; rfl, rfl⟩⟩
    | true =>
     have hok : pickOk a b q t = true := by unfold pickOk; rw [h1, h2, h3, h4]; rfl
     obtain ⟨s0, s1, s2, rfl, k0, k1, k2⟩ := three h1
     obtain ⟨w0, w1, w2, rfl, g0, g1, g2⟩ := three h2
     obtain ⟨at_, f, l, u⟩ := t
     rw [Bool.and_eq_true] at h4
     obtain ⟨l0, l1, l2, hl, b0, b1, b2⟩ := three h4.2
     have hl : l = [l0, l1, l2] := hl
     subst hl
     have hq := inR_iff.1 h3
     have hat := inR_iff.1 h4.1
     simp only at hat
     simp only [Bool.not_true, cond_false, max3, Option.bind_some]
     by_cases hz : s0 = 0 /\ s1 = 0 /\ s2 = 0
     ·obtain ⟨rfl, rfl, rfl⟩ := hz
      refine ⟨(-1, (0, true, [0, 0, 0], ())), rfl, rfl, .inr (.inl ⟨hok, rfl, rfl⟩)⟩
     ·have e1 : ((len [s0, s1, s2] == 3) && [s0, s1, s2].all (inR 0 0)) = false := by
       rw [show (len [s0, s1, s2] == 3) = true from rfl]
       simp only [List.all_cons, List.all_nil, inR, Bool.and_true, Bool.true_and]
       by_cases z0 : s0 = 0
       ·by_cases z1 : s1 = 0
        ·have z2 : s2 ≠ 0 := fun h => hz ⟨z0, z1, h⟩
         rw [show decide (s2 <= 0) = false from decide_eq_false (by omega)]; simp
        ·rw [show decide (s1 <= 0) = false from decide_eq_false (by omega)]; simp
       ·rw [show decide (s0 <= 0) = false from decide_eq_false (by omega)]; simp
      have e2 : (mxI (mxI s0 s1) s2 == 0) = false := by
       rw [beq_eq_false_iff_ne]
       unfold mxI
       intro h
       split at h <;> split at h <;> omega
      rw [e1, e2]
      simp only [cond_false]
      obtain ⟨r, hr, hres⟩ := pick_loop s0 s1 s2 w0 w1 w2 q (0, false, [], ()) (at_, f, [l0, l1, l2], u) k0 k1 k2 g0 g1 g2 hq hz (m0 := l0) (m1 := l1) (m2 := l2) ⟨b0.1, b1.1, b2.1⟩
       ⟨at_.toNat, f, l0, l1, l2, by rw [Int.toNat_of_nonneg hat.1], by omega, b0, b1, b2, fun _ => Int.le_refl _, fun _ => Int.le_refl _, fun _ => Int.le_refl _⟩
      refine ⟨r, ?_, ?_, .inr (.inr ⟨hok, s0, s1, s2, l0, l1, l2, rfl, rfl, hres⟩)⟩
      ·rw [pick_step, hr]; rfl
      ·rw [hr]; rfl
theorem range_decB (n : Nat) (p : Nat -> Prop) : (List.range n).all (fun k => decB (p k)) = decB (∀ k, k < n -> p k) := by
 refine decB_eq ?_
 rw [range_all]
 simp only [decB_iff]
theorem partsR_iff (h : DHouse) (h1 : h.2.2.2.1.length = 3) (h2 : h.2.2.2.2.1.length = 3) (h3 : h.2.2.2.2.2.1.length = 2) :
  (inR 0 1000 h.2.2.2.2.2.2.1 && (inR 0 100000 h.2.1 && ((List.range 3).all (fun k => decB (SeatRows h k)) && h.2.2.2.2.2.1.all turnB))) = decB (PartsR h) := by
 refine decB_eq ?_
 simp only [Bool.and_eq_true, inR_iff, range_decB, decB_iff, List.all_eq_true]
 exact ⟨fun ⟨a, b, c, d⟩ => ⟨h1, h2, h3, a, b, c, d⟩, fun h => ⟨h.since, h.clock, h.seats, h.turns⟩⟩
theorem specParts_dec (h : DHouse) (hz : zHouse h <= 1048576) : F.spec_l12Parts h = some (decB (PartsR h)) := by
 unfold F.spec_l12Parts
 by_cases h1 : h.2.2.2.1.length = 3
 case neg => rw [show (len h.2.2.2.1 != 3) = true by simp [len]; omega, decB_neg (fun hh => h1 hh.ns)]; rfl
 by_cases h2 : h.2.2.2.2.1.length = 3
 case neg => rw [show (len h.2.2.2.1 != 3) = false by simp [len]; omega, show (len h.2.2.2.2.1 != 3) = true by simp [len]; omega, decB_neg (fun hh => h2 hh.nr)]; rfl
 by_cases h3 : h.2.2.2.2.2.1.length = 2
 case neg => rw [show (len h.2.2.2.1 != 3) = false by simp [len]; omega, show (len h.2.2.2.2.1 != 3) = false by simp [len]; omega, show (len h.2.2.2.2.2.1 != 2) = true by simp [len]; omega, decB_neg (fun hh => h3 hh.nt)]; rfl
 rw [show (len h.2.2.2.1 != 3) = false by simp [len]; omega, show (len h.2.2.2.2.1 != 3) = false by simp [len]; omega, show (len h.2.2.2.2.2.1 != 2) = false by simp [len]; omega, <- partsR_iff h h1 h2 h3, specSeats_loop h hz h1 h2]
 simp only [cond_false, l1In_eq, Option.bind_some]
 cases inR 0 1000 h.2.2.2.2.2.2.1 with
 | false => rfl
 | true =>
  cases inR 0 100000 h.2.1 with
  | false => rfl
  | true =>
   cases (List.range 3).all (fun k => decB (SeatRows h k)) with
   | false => rfl
   | true =>
    simp only [Bool.not_true, cond_false, cond_true, afterO, specTurns_loop h hz h3, Bool.true_and]
    cases h.2.2.2.2.2.1.all turnB <;> rfl
theorem implParts_dec (h : DHouse) (hz : zHouse h <= 1048576) : F.impl_partsOk h = some (confB h.1 && (decB (PartsR h) && (List.range h.2.2.2.2.2.2.2.1.length).all (ordAt h.2.2.2.2.2.2.2.1))) := by
 have hc := (confOk_eq h.1 (by unfold zHouse at hz; omega)).2
 have hl : h.2.2.2.2.2.2.2.1.length <= 1048576 := by unfold zHouse zEntryS at hz; omega
 unfold F.impl_partsOk
 rw [hc]
 simp only [within_eq, Option.bind_some]
 cases confB h.1 with
 | false => rfl
 | true =>
 simp only [Bool.not_true, cond_false, Bool.true_and]
 by_cases hk : 0 <= h.2.1 /\ h.2.1 <= 100000
 case neg =>
  rw [show inR 0 100000 h.2.1 = false by rw [Bool.eq_false_iff]; exact fun q => hk (inR_iff.1 q), decB_neg (fun hh => hk hh.clock)]; rfl
 rw [show inR 0 100000 h.2.1 = true from inR_iff.2 hk]
 simp only [Bool.not_true, cond_false]
 by_cases h1 : h.2.2.2.1.length = 3
 case neg => rw [show (len h.2.2.2.1 != 3) = true by simp [len]; omega, decB_neg (fun hh => h1 hh.ns)]; rfl
 by_cases h2 : h.2.2.2.2.1.length = 3
 case neg => rw [show (len h.2.2.2.1 != 3) = false by simp [len]; omega, show (len h.2.2.2.2.1 != 3) = true by simp [len]; omega, decB_neg (fun hh => h2 hh.nr)]; rfl
 by_cases h3 : h.2.2.2.2.2.1.length = 2
 case neg => rw [show (len h.2.2.2.1 != 3) = false by simp [len]; omega, show (len h.2.2.2.2.1 != 3) = false by simp [len]; omega, show (len h.2.2.2.2.2.1 != 2) = true by simp [len]; omega, decB_neg (fun hh => h3 hh.nt)]; rfl
 rw [show (len h.2.2.2.1 != 3) = false by simp [len]; omega, show (len h.2.2.2.2.1 != 3) = false by simp [len]; omega, show (len h.2.2.2.2.2.1 != 2) = false by simp [len]; omega, <- partsR_iff h h1 h2 h3, implSeats_loop h hz h1 h2, show inR 0 100000 h.2.1 = true from inR_iff.2 hk]
 simp only [cond_false]
 cases inR 0 1000 h.2.2.2.2.2.2.1 with
 | false => rfl
 | true =>
  cases (List.range 3).all (fun k => decB (SeatRows h k)) with
  | false => rfl
  | true =>
   simp only [Bool.not_true, cond_false, cond_true, afterO, implTurns_loop h hz h3, Bool.true_and]
   cases h.2.2.2.2.2.1.all turnB with
   | false => rfl
   | true =>
    simp only [cond_true, implOrd_loop h hl, Bool.true_and]
    cases (List.range h.2.2.2.2.2.2.2.1.length).all (ordAt h.2.2.2.2.2.2.2.1) <;> rfl
theorem specRoot_dec (h : DHouse) (hz : zHouse h <= 1048576) : F.spec_l12Root h = some ((List.range h.2.2.2.2.2.2.2.1.length).all (fun i => decB (EnR (h.2.2.2.2.2.2.2.1.getD i nilE)) && ordAt h.2.2.2.2.2.2.2.1 i) && (List.range h.2.2.2.2.2.2.2.2.1.length).all (fun i => decB (EnR (h.2.2.2.2.2.2.2.2.1.getD i nilO).2.1) && genAt h.2.2.2.2.2.2.2.2.1 i)) := by
 unfold F.spec_l12Root
 rw [specOrd_loop h (by unfold zHouse at hz; omega)]
 cases (List.range h.2.2.2.2.2.2.2.1.length).all (fun i => decB (EnR (h.2.2.2.2.2.2.2.1.getD i nilE)) && ordAt h.2.2.2.2.2.2.2.1 i) with
 | false => rfl
 | true =>
  simp only [cond_true, afterO, Bool.true_and]
  rw [specGen_loop h (by unfold zHouse at hz; omega)]
  cases (List.range h.2.2.2.2.2.2.2.2.1.length).all (fun i => decB (EnR (h.2.2.2.2.2.2.2.2.1.getD i nilO).2.1) && genAt h.2.2.2.2.2.2.2.2.1 i) <;> rfl
theorem apAll_loop (h : DHouse) (L : List DEntry) (hl : L.length <= 1048576) (hE : ∀ e ∈ L, EnR e) :
  loopO F.spec_HouseOk.s6 ([], L, 0, h, ()) = some (bif decB (ApR L) then .inl (joinS [] (idsL L), L, ((L.length : Nat) : Int), h, ()) else .inr false) := by
 have hh := loop_allN (step := F.spec_HouseOk.s6) L.length (fun i => (joinS [] (idsL (L.take i)), L, (i : Int), h, ())) (apAt L) false (fun i hi _ => by
  have he := hE _ (List.getElem_mem hi)
  have hends : ends (idsL (L.take i)) := enR_ends fun e hm => (hE e (List.mem_of_mem_take hm)).ids
  have hok : okF 0 (joinS [] (idsL (L.take i))) := joined_ok hends
  have hs1 := okF_small hok
  have hs2 := okF_small (good_ok.1 he.ids)
  have hap : apB (joinS [] (idsL (L.take i))) L[i].2.2.1 = (L.take i).all fun x => apB L[i].2.2.1 x.2.2.1 := by
   rw [Bool.eq_iff_iff, apB_all he.ids (A := []) (good_ok.2 trivial) (fun e hm => (hE e (List.mem_of_mem_take hm)).ids), List.all_eq_true]
   constructor
   ·rintro ⟨_, h2⟩ x hx
    rw [apB_comm]; exact h2 x hx
   ·intro h2
    exact ⟨rfl, fun x hx => by rw [apB_comm]; exact h2 x hx⟩
  unfold F.spec_HouseOk.s6
  simp only
  rw [lt_len hi, inb_nat hi, Int.toNat_natCast, getD_at hi, specApart_eq _ _ (by omega) (by omega), decB_pos (good_ok.2 hok), decB_pos he.ids, hap, w64_nat (by omega), apAt_lt hi, decB_pos he, l5Join_eq _ _ hok (okF_ends (good_ok.1 he.ids)) (by omega), idsL_take hi, joinS_app]
  simp only [cond_true, chk_true, Option.bind_some, Bool.true_and]
  cases (L.take i).all (fun x => apB L[i].2.2.1 x.2.2.1) <;> rfl) (by
  unfold F.spec_HouseOk.s6
  simp only [ge_len, cond_false])
 rw [apAt_iff, List.take_length] at hh
 exact hh
def sumO (l : List DEntry) (a : Int) : Int := (l.map fun e => ofS e.2.2.1 a).sum
theorem sumO_take {l : List DEntry} {i : Nat} (h : i < l.length) (a : Int) : sumO (l.take (i + 1)) a = sumO (l.take i) a + ofS l[i].2.2.1 a := by
 unfold sumO
 rw [List.take_succ_eq_append_getElem h, List.map_append, List.sum_append]; simp
theorem sumO_app (l m : List DEntry) (a : Int) : sumO (l ++ m) a = sumO l a + sumO m a := by
 unfold sumO
 rw [List.map_append, List.sum_append]
theorem ofS_small {e : DEntry} (he : EnR e) (a : Int) : 0 <= ofS e.2.2.1 a /\ ofS e.2.2.1 a <= 400000 := by
 have h1 := ofS_le a e.2.2.1
 have h2 := okF_small (good_ok.1 he.ids)
 omega
theorem sumO_le (a : Int) : ∀ {l : List DEntry}, (∀ e ∈ l, EnR e) -> 0 <= sumO l a /\ sumO l a <= 400000 * (l.length : Int)
 | [], _ => by simp [sumO]
 | x :: l, h => by
  have h1 := sumO_le a (l := l) (fun e he => h e (List.mem_cons_of_mem _ he))
  have h2 := ofS_small (h x (List.mem_cons_self ..)) a
  unfold sumO at *
  simp only [List.map_cons, List.sum_cons, List.length_cons]
  push_cast
  omega
theorem apB_no {A B : List Sp} (h : apB A B = true) : ∀ n, memS A n -> ¬ memS B n := by
 rintro n ⟨x, hx, h1, h2⟩ ⟨y, hy, h3, h4⟩
 unfold apB at h
 rw [List.all_eq_true] at h
 have := h x hx
 rw [List.all_eq_true] at this
 have := this y hy
 unfold ap1 at this
 rw [show decide (x.1 <= y.2.1) = true from decide_eq_true (by omega), show decide (y.1 <= x.2.1) = true from decide_eq_true (by omega)] at this
 cases this
theorem blk_all (a : Int) : ∀ {L : List DEntry} {A : List Sp}, okF 0 A -> ApR L -> (∀ e ∈ L, apB A e.2.2.1 = true) -> ((blk (joinS A (idsL L)) (100 * a + 1) 60 : Nat) : Int) = ((blk A (100 * a + 1) 60 : Nat) : Int) + sumO L a
 | [], A, _, _, _ => by simp [idsL, joinS, sumO]
 | x :: L, A, hA, hL, h => by
  have hx := hL.all x (List.mem_cons_self ..)
  have hp := List.pairwise_cons.1 hL.ap
  have hxo := good_ok.1 hx.ids
  have hj : okF 0 (joinS A x.2.2.1) := joinS_ok hA (okF_ends hxo)
  have e : idsL (x :: L) = x.2.2.1 ++ idsL L := rfl
  have hapj : ∀ y ∈ L, apB (joinS A x.2.2.1) y.2.2.1 = true := fun y hy => by
   have hyg := (hL.all y (List.mem_cons_of_mem _ hy)).ids
   have q := (apB_all hyg (L := [x]) (good_ok.2 hA) (fun e he => by rw [List.mem_singleton.1 he]; exact hx.ids)).2 ⟨h y (List.mem_cons_of_mem _ hy), fun e he => by
    rw [List.mem_singleton.1 he, apB_comm]; exact hp.1 y hy⟩
   have e2 : idsL [x] = x.2.2.1 := by simp [idsL]
   rwa [e2] at q
  rw [e, joinS_app, blk_all a hj ⟨fun e he => hL.all e (List.mem_cons_of_mem _ he), hp.2⟩ hapj, blk_join hA hxo (apB_no (h x (List.mem_cons_self ..)))]
  push_cast
  rw [blk_of a hxo]
  unfold sumO
  simp only [List.map_cons, List.sum_cons]
  omega
theorem blk_nil (b : Int) (n : Nat) : blk [] b n = 0 := List.countP_eq_zero.2 (fun k _ => by simp [hasB])
theorem blk_sum (a : Int) {L : List DEntry} (hL : ApR L) : ((blk (joinS [] (idsL L)) (100 * a + 1) 60 : Nat) : Int) = sumO L a := by
 rw [blk_all a (A := []) trivial hL (fun e _ => rfl), blk_nil]
 simp
theorem specMg_loop (h : DHouse) (hz : zHouse h <= 1048576) (hs : h.2.2.2.1.length = 3) (hA : ApR (addL h)) :
  loopO F.spec_HouseOk.s14 (0, h, ()) = some (bif (List.range 3).all (mgAt h) then .inl (((3 : Nat) : Int), h, ()) else .inr false) :=
 loop_allN (step := F.spec_HouseOk.s14) 3 (fun k => ((k : Int), h, ())) (mgAt h) false (fun k hk _ => by
  have hk1 : k < h.2.2.2.1.length := by omega
  have hl1 : h.2.2.2.2.2.2.2.1.length <= 1048576 := by unfold zHouse zEntryS at hz; omega
  have hl2 : h.2.2.2.2.2.2.2.2.1.length <= 1048576 := by unfold zHouse zOutS at hz; omega
  have hE1 : ∀ e ∈ h.2.2.2.2.2.2.2.1, EnR e := fun e he => hA.all e (List.mem_append_left _ he)
  have hE2 : ∀ o ∈ h.2.2.2.2.2.2.2.2.1, EnR o.2.1 := fun o ho => hA.all _ (List.mem_append_right _ (List.mem_map.2 ⟨o, ho, rfl⟩))
  have l1 := loop_run (step := F.spec_HouseOk.s18) (fun i => ((k : Int), sumO (h.2.2.2.2.2.2.2.1.take i) (k : Int), (i : Int), h, ())) h.2.2.2.2.2.2.2.1.length (fun i hi => by
   have he := hE1 _ (List.getElem_mem hi)
   have hx := ofS_small he (k : Int)
   have hq := sumO_le (k : Int) (l := h.2.2.2.2.2.2.2.1.take i) (fun e hm => hE1 e (List.mem_of_mem_take hm))
   have hq2 : ((h.2.2.2.2.2.2.2.1.take i).length : Int) <= 1048576 := by rw [List.length_take]; omega
   have hs2 := okF_small (good_ok.1 he.ids)
   unfold F.spec_HouseOk.s18
   simp only
   rw [lt_len hi, inb_nat hi, Int.toNat_natCast, getD_at hi, l12Of_eq _ (k : Int) (by omega) (by omega) (okF_ends (good_ok.1 he.ids)) (by omega), w64_nat (i := i) (by omega), sumO_take hi]
   simp only [cond_true, chk_true, Option.bind_some]
   rw [w64_id (by omega) (by omega)]) (l := .exit ((k : Int), sumO (h.2.2.2.2.2.2.2.1.take h.2.2.2.2.2.2.2.1.length) (k : Int), ((h.2.2.2.2.2.2.2.1.length : Nat) : Int), h, ())) (by
   unfold F.spec_HouseOk.s18
   simp only [ge_len, cond_false]) rfl
  rw [List.take_length] at l1
  have l1 : loopO F.spec_HouseOk.s18 ((k : Int), 0, 0, h, ()) = _ := l1
  have hb := sumO_le (k : Int) hE1
  have l2 := loop_run (step := F.spec_HouseOk.s22) (fun i => ((k : Int), sumO h.2.2.2.2.2.2.2.1 (k : Int) + sumO ((h.2.2.2.2.2.2.2.2.1.map fun o => o.2.1).take i) (k : Int), (i : Int), h, ())) h.2.2.2.2.2.2.2.2.1.length (fun i hi => by
   have he := hE2 _ (List.getElem_mem hi)
   have hx := ofS_small he (k : Int)
   have hq := sumO_le (k : Int) (l := (h.2.2.2.2.2.2.2.2.1.map fun o => o.2.1).take i) (fun e hm => by
    obtain ⟨o, ho, rfl⟩ := List.mem_map.1 (List.mem_of_mem_take hm)
    exact hE2 o ho)
   have hq2 : (((h.2.2.2.2.2.2.2.2.1.map fun o => o.2.1).take i).length : Int) <= 1048576 := by rw [List.length_take, List.length_map]; omega
   have hs2 := okF_small (good_ok.1 he.ids)
   have hi2 : i < (h.2.2.2.2.2.2.2.2.1.map fun o => o.2.1).length := by rw [List.length_map]; exact hi
   unfold F.spec_HouseOk.s22
   simp only
   rw [lt_len hi, inb_nat hi, Int.toNat_natCast, getD_at hi, l12Of_eq _ (k : Int) (by omega) (by omega) (okF_ends (good_ok.1 he.ids)) (by omega), w64_nat (i := i) (by omega), sumO_take hi2, List.getElem_map]
   simp only [cond_true, chk_true, Option.bind_some]
   rw [w64_id (by omega) (by omega), Int.add_assoc]) (l := .exit ((k : Int), sumO h.2.2.2.2.2.2.2.1 (k : Int) + sumO ((h.2.2.2.2.2.2.2.2.1.map fun o => o.2.1).take h.2.2.2.2.2.2.2.2.1.length) (k : Int), ((h.2.2.2.2.2.2.2.2.1.length : Nat) : Int), h, ())) (by
   unfold F.spec_HouseOk.s22
   simp only [ge_len, cond_false]) rfl
  have e0 : sumO ((h.2.2.2.2.2.2.2.2.1.map fun o => o.2.1).take 0) (k : Int) = 0 := rfl
  have e1 : (h.2.2.2.2.2.2.2.2.1.map fun o => o.2.1).take h.2.2.2.2.2.2.2.2.1.length = h.2.2.2.2.2.2.2.2.1.map fun o => o.2.1 := List.take_of_length_le (by rw [List.length_map]; omega)
  rw [e0, e1, Int.add_zero, <- sumO_app] at l2
  have l2 : loopO F.spec_HouseOk.s22 ((k : Int), sumO h.2.2.2.2.2.2.2.1 (k : Int), 0, h, ()) = some (.inl ((k : Int), sumO (addL h) (k : Int), ((h.2.2.2.2.2.2.2.2.1.length : Nat) : Int), h, ())) := l2
  unfold F.spec_HouseOk.s14
  simp only
  rw [show decide ((k : Int) < 3) = true from decide_eq_true (by omega), l1]
  simp only [cond_true, afterO]
  rw [l2]
  simp only
  rw [inb_nat hk1, Int.toNat_natCast, w64_nat (by omega)]
  simp only [chk_true]
  unfold mgAt bne
  rw [blk_sum (k : Int) hA]
  cases (sumO (addL h) (k : Int) == (h.2.2.2.1.getD k noS).2.2.2.1) <;> rfl) (by
  unfold F.spec_HouseOk.s14
  simp only
  rw [show decide (((3 : Nat) : Int) < 3) = false from decide_eq_false (by omega)]; rfl)
theorem blk_succ (S : List Sp) (b : Int) (n : Nat) : blk S b (n + 1) = blk S b n + if hasB S (b + (n : Int)) then 1 else 0 := by
 unfold blk
 rw [List.range_succ, List.countP_append, List.countP_singleton]
theorem blk_le (S : List Sp) (b : Int) (n : Nat) : blk S b n <= n := by
 unfold blk
 exact Nat.le_trans List.countP_le_length (by rw [List.length_range]; exact Nat.le_refl _)
theorem implMg_in (c done : List Sp) (k : Nat) (hk : k <= 2) (hd : done.length <= 1048576) (x y z w v : _) :
  ∃ e, loopO F.impl_HouseOk.s10 (c, done, (k : Int), 0, 1, x, y, z, w, v, ()) = some (.inl (c, done, (k : Int), ((blk done (100 * (k : Int) + 1) 60 : Nat) : Int), e, x, y, z, w, v, ())) := by
 have hh := loop_run (step := F.impl_HouseOk.s10) (fun i => (c, done, (k : Int), ((blk done (100 * (k : Int) + 1) i : Nat) : Int), ((i + 1 : Nat) : Int), x, y, z, w, v, ())) 60 (fun i hi => by
  have hb := blk_le done (100 * (k : Int) + 1) i
  unfold F.impl_HouseOk.s10
  simp only
  rw [show decide (((i + 1 : Nat) : Int) <= 60) = true from decide_eq_true (by omega), idOf_eq (k : Int) ((i + 1 : Nat) : Int) (by omega) (by omega) (by omega) (by omega)]
  simp only [cond_true, Option.bind_some]
  rw [implHas_eq _ _ hd, w64_nat (i := i + 1) (by omega), show (100 * (k : Int) + ((i + 1 : Nat) : Int)) = 100 * (k : Int) + 1 + (i : Int) by omega, blk_succ]
  simp only [Option.bind_some]
  cases hasB done (100 * (k : Int) + 1 + (i : Int)) with
  | false => rfl
  | true =>
   simp only [cond_true, if_true]
   rw [w64_nat (i := blk done (100 * (k : Int) + 1) i) (by omega)]) (l := .exit (c, done, (k : Int), ((blk done (100 * (k : Int) + 1) 60 : Nat) : Int), ((60 + 1 : Nat) : Int), x, y, z, w, v, ())) (by
  unfold F.impl_HouseOk.s10
  simp only
  rw [show decide (((60 + 1 : Nat) : Int) <= 60) = false from decide_eq_false (by omega)]; rfl) rfl
 exact ⟨_, hh⟩
theorem implTk_in (c done : List Sp) (k : Nat) (hk : k <= 2) (s : DSeat) (n : Int) (hs : SeatG s n) (hc : c.length <= 100000) (x y z w : _) :
  ∃ e1 e2 e3, loopO F.impl_HouseOk.s17 (c, done, (k : Int), x, y, z, s.2.2.1, len s.2.2.1, 0, w, ()) = some (.inl (c ++ shf (k : Int) s.2.2.1, done, (k : Int), x, y, z, e1, e2, e3, w, ())) := by
 have hsp := seatG_sp hs
 have hl := okF_small (good_ok.1 hs.tk.1)
 have hh := loop_run (step := F.impl_HouseOk.s17) (fun i => (c ++ shf (k : Int) (s.2.2.1.take i), done, (k : Int), x, y, z, s.2.2.1, len s.2.2.1, (i : Int), w, ())) s.2.2.1.length (fun i hi => by
  have hx := hsp _ (List.getElem_mem hi)
  have hsl : (shf (k : Int) (s.2.2.1.take i)).length <= 5001 := by unfold shf; rw [List.length_map, List.length_take]; omega
  unfold F.impl_HouseOk.s17
  simp only
  rw [lt_len hi, inb_nat hi, Int.toNat_natCast, getD_at hi, idOf_eq (k : Int) _ (by omega) (by omega) (show 1 <= s.2.2.1[i].1 by omega) (by omega), idOf_eq (k : Int) _ (by omega) (by omega) (show 1 <= s.2.2.1[i].2.1 by omega) (by omega), w64_nat (by omega)]
  simp only [cond_true, chk_true, Option.bind_some, List.length_cons, List.length_nil]
  rw [fits_of (by rw [List.length_append]; omega), shf_take hi, List.append_assoc]
  rfl) (l := .exit (c ++ shf (k : Int) (s.2.2.1.take s.2.2.1.length), done, (k : Int), x, y, z, s.2.2.1, len s.2.2.1, ((s.2.2.1.length : Nat) : Int), w, ())) (by
  unfold F.impl_HouseOk.s17
  simp only [ge_len, cond_false]) rfl
 rw [List.take_length] at hh
 have e0 : c ++ shf (k : Int) (s.2.2.1.take 0) = c := by simp [shf]
 rw [e0] at hh
 exact ⟨_, _, _, hh⟩
theorem tkL_len (l : List DSeat) {m : Int} : ∀ n : Nat, n <= 3 -> (∀ k, k < n -> SeatG (l.getD k noS) m) -> (tkL l n).length <= 5001 * n
 | 0, _, _ => by simp [tkL]
 | n + 1, hn, h => by
  have h1 := tkL_len l n (by omega) (fun k hk => h k (by omega))
  have h2 := okF_small (good_ok.1 (h n (by omega)).tk.1)
  rw [tkL_succ, List.length_append]
  unfold shf
  rw [List.length_map]
  omega
theorem implMg_loop (h : DHouse) (n : Int) (hl : h.2.2.2.1.length = 3) (hs : ∀ k, k < 3 -> SeatG (h.2.2.2.1.getD k noS) n) (done : List Sp) (hd : done.length <= 1048576) (hdd : done = joinS [] (idsL (addL h))) :
  loopO F.impl_HouseOk.s6 ([], done, h.2.2.2.1, len h.2.2.2.1, 0, h, ()) = some (bif (List.range 3).all (mgAt h) then .inl (tkL h.2.2.2.1 3, done, h.2.2.2.1, len h.2.2.2.1, ((3 : Nat) : Int), h, ()) else .inr false) :=
 loop_allN (step := F.impl_HouseOk.s6) 3 (fun k => (tkL h.2.2.2.1 k, done, h.2.2.2.1, len h.2.2.2.1, (k : Int), h, ())) (mgAt h) false (fun k hk _ => by
  have hk1 : k < h.2.2.2.1.length := by omega
  have hg := hs k hk
  have htl := tkL_len h.2.2.2.1 k (by omega) (fun j hj => hs j (by omega))
  obtain ⟨e, hy⟩ := implMg_in (tkL h.2.2.2.1 k) done k (by omega) hd h.2.2.2.1 (len h.2.2.2.1) (k : Int) h (h.2.2.2.1.getD k noS)
  obtain ⟨e1, e2, e3, hw⟩ := implTk_in (tkL h.2.2.2.1 k) done k (by omega) (h.2.2.2.1.getD k noS) n hg (by omega) h.2.2.2.1 (len h.2.2.2.1) (k : Int) h
  unfold F.impl_HouseOk.s6
  simp only
  rw [lt_len hk1, inb_nat hk1, Int.toNat_natCast, hy]
  simp only [cond_true, chk_true, afterO]
  unfold mgAt bne
  rw [<- hdd]
  cases (((blk done (100 * (k : Int) + 1) 60 : Nat) : Int) == (h.2.2.2.1.getD k noS).2.2.2.1) with
  | false => rfl
  | true =>
   simp only [Bool.not_true, cond_false, cond_true]
   rw [hw]
   simp only
   rw [w64_nat (by omega), tkL_succ]) (by
  unfold F.impl_HouseOk.s6
  simp only
  rw [show decide (((3 : Nat) : Int) < len h.2.2.2.1) = false from decide_eq_false (by simp only [len]; omega)]; rfl)
theorem apR_add {h : DHouse} (hA : ApR (allE h)) : ApR (addL h) := ⟨fun e he => hA.all e (List.mem_append_right _ he), (List.pairwise_append.1 hA.ap).2.1⟩
theorem rows_en {h : DHouse} (hP : PartsR h) : ∀ e ∈ entRR h.2.2.2.2.1, EnR e := fun e he => by
 obtain ⟨rs, hrs, he⟩ := List.mem_flatMap.1 he
 obtain ⟨r, hr, her⟩ := List.mem_flatMap.1 he
 obtain ⟨k, hk, rfl⟩ := List.getElem_of_mem hrs
 have := (hP.seats k (by have := hP.nr; omega)).rows r (by rw [getD_at hk]; exact hr)
 exact this.1.ok.all e her
theorem specHouse_dec (h : DHouse) (hz : zHouse h <= 1048576) : F.spec_HouseOk h = some (decB (HouseR h)) := by
 have hc := (confOk_eq h.1 (by unfold zHouse at hz; omega)).1
 have hzE := zAllE h
 have hlE : (allE h).length <= 1048576 := by unfold zEntryS at hzE; omega
 unfold F.spec_HouseOk
 rw [hc, specParts_dec h hz, specRoot_dec h hz, l12All_eq h hz]
 simp only [Option.bind_some]
 by_cases h1 : confB h.1 = true
 case neg => rw [show confB h.1 = false by simpa using h1, decB_neg (p := HouseR h) (fun hh => h1 hh.conf)]; rfl
 rw [h1]
 by_cases h2 : PartsR h
 case neg => rw [decB_neg h2, decB_neg (p := HouseR h) (fun hh => h2 hh.parts)]; rfl
 rw [decB_pos h2]
 simp only [Bool.not_true, cond_false]
 by_cases h3 : (List.range h.2.2.2.2.2.2.2.1.length).all (fun i => decB (EnR (h.2.2.2.2.2.2.2.1.getD i nilE)) && ordAt h.2.2.2.2.2.2.2.1 i) = true
 case neg =>
  rw [show (List.range h.2.2.2.2.2.2.2.1.length).all (fun i => decB (EnR (h.2.2.2.2.2.2.2.1.getD i nilE)) && ordAt h.2.2.2.2.2.2.2.1 i) = false by simpa using h3, decB_neg (p := HouseR h) (fun hh => h3 (range_all.2 fun i hi => by
   rw [Bool.and_eq_true]
   refine ⟨decB_pos ?_, hh.order i hi⟩
   rw [getD_at hi]
   exact hh.ap.all _ (List.mem_append_right _ (List.mem_append_left _ (List.getElem_mem hi)))))]; rfl
 rw [h3]
 by_cases h4 : (List.range h.2.2.2.2.2.2.2.2.1.length).all (fun i => decB (EnR (h.2.2.2.2.2.2.2.2.1.getD i nilO).2.1) && genAt h.2.2.2.2.2.2.2.2.1 i) = true
 case neg =>
  rw [show (List.range h.2.2.2.2.2.2.2.2.1.length).all (fun i => decB (EnR (h.2.2.2.2.2.2.2.2.1.getD i nilO).2.1) && genAt h.2.2.2.2.2.2.2.2.1 i) = false by simpa using h4, decB_neg (p := HouseR h) (fun hh => h4 (range_all.2 fun i hi => by
   rw [Bool.and_eq_true]
   refine ⟨decB_pos ?_, hh.gens i hi⟩
   rw [getD_at hi]
   exact hh.ap.all _ (List.mem_append_right _ (List.mem_append_right _ (List.mem_map.2 ⟨_, List.getElem_mem hi, rfl⟩)))))]; rfl
 rw [h4]
 simp only [Bool.and_self, Bool.not_true, cond_false]
 have h3 := range_all.1 h3
 have h4 := range_all.1 h4
 have hE : ∀ e ∈ allE h, EnR e := fun e he => by
  rcases List.mem_append.1 he with he | he
  ·exact rows_en h2 e he
  ·rcases List.mem_append.1 he with he | he
   ·obtain ⟨i, hi, rfl⟩ := List.getElem_of_mem he
    have := h3 i hi
    rw [Bool.and_eq_true, getD_at hi] at this
    exact decB_iff.1 this.1
   ·obtain ⟨o, ho, rfl⟩ := List.mem_map.1 he
    obtain ⟨i, hi, rfl⟩ := List.getElem_of_mem ho
    have := h4 i hi
    rw [Bool.and_eq_true, getD_at hi] at this
    exact decB_iff.1 this.1
 rw [apAll_loop h (allE h) hlE hE]
 by_cases h5 : ApR (allE h)
 case neg => rw [decB_neg h5, decB_neg (p := HouseR h) (fun hh => h5 hh.ap)]; rfl
 rw [decB_pos h5]
 have hj := okF_small (joined_ok (enR_ends fun e he => (hE e he).ids))
 simp only [cond_true, afterO]
 rw [l12Taken_eq h h.1.1 h2.ns (fun k hk => (h2.seats k hk).seat)]
 simp only [Option.bind_some]
 rw [spec_l5Same_dec _ _ (by omega)]
 simp only [Option.bind_some]
 by_cases h6 : joinS [] (idsL (allE h)) = joinS [] (tkL h.2.2.2.1 3)
 case neg => rw [show eqd (joinS [] (idsL (allE h))) (joinS [] (tkL h.2.2.2.1 3)) = false by simp [eqd, h6], decB_neg (p := HouseR h) (fun hh => h6 hh.tk)]; rfl
 rw [show eqd (joinS [] (idsL (allE h))) (joinS [] (tkL h.2.2.2.1 3)) = true by simp [eqd, h6], specMg_loop h hz h2.ns (apR_add h5)]
 by_cases h7 : (List.range 3).all (mgAt h) = true
 case neg => rw [show (List.range 3).all (mgAt h) = false by simpa using h7, decB_neg (p := HouseR h) (fun hh => h7 (range_all.2 hh.mg))]; rfl
 rw [h7, decB_pos ⟨h1, h2, fun i hi => (by have := h3 i hi; rw [Bool.and_eq_true] at this; exact this.2), fun i hi => (by have := h4 i hi; rw [Bool.and_eq_true] at this; exact this.2), h5, h6, range_all.1 h7⟩]
 rfl
theorem implHouse_dec (h : DHouse) (hz : zHouse h <= 1048576) : F.impl_HouseOk h = some (decB (HouseR h)) := by
 have hzE := zAllE h
 have hlE : (allE h).length <= 1048576 := by unfold zEntryS at hzE; omega
 have hlA : (addL h).length <= 1048576 := by unfold zEntryS at hzE; omega
 have z1 : zRowSS h.2.2.2.2.1 <= 1048576 := by unfold zHouse at hz; omega
 have z2 : h.2.2.2.2.2.2.2.1.length <= 1048576 := by unfold zHouse zEntryS at hz; omega
 have z3 : h.2.2.2.2.2.2.2.2.1.length <= 1048576 := by unfold zHouse zOutS at hz; omega
 have hle : (entRR h.2.2.2.2.1).length + (addL h).length <= 1048576 := by
  unfold allE at hlE
  rwa [List.length_append] at hlE
 unfold F.impl_HouseOk
 rw [implParts_dec h hz, rowEntries_eq h z1, added_eq h z2 z3]
 simp only [Option.bind_some]
 by_cases h1 : confB h.1 = true
 case neg => rw [show confB h.1 = false by simpa using h1, decB_neg (p := HouseR h) (fun hh => h1 hh.conf)]; rfl
 rw [h1]
 by_cases h2 : PartsR h
 case neg => rw [decB_neg h2, decB_neg (p := HouseR h) (fun hh => h2 hh.parts)]; rfl
 rw [decB_pos h2]
 by_cases h3 : (List.range h.2.2.2.2.2.2.2.1.length).all (ordAt h.2.2.2.2.2.2.2.1) = true
 case neg => rw [show (List.range h.2.2.2.2.2.2.2.1.length).all (ordAt h.2.2.2.2.2.2.2.1) = false by simpa using h3, decB_neg (p := HouseR h) (fun hh => h3 (range_all.2 hh.order))]; rfl
 rw [h3, fits_of (by omega), show entRR h.2.2.2.2.1 ++ addL h = allE h from rfl, implAp_eq _ (by omega)]
 simp only [Bool.and_self, Bool.not_true, cond_false, chk_true, Option.bind_some]
 by_cases h5 : ApR (allE h)
 case neg => rw [decB_neg h5, decB_neg (p := HouseR h) (fun hh => h5 hh.ap)]; rfl
 rw [decB_pos h5]
 have hE := h5.all
 have he1 : ends (idsL (allE h)) := enR_ends fun e he => (hE e he).ids
 have he2 : ends (idsL (addL h)) := enR_ends fun e he => (hE e (List.mem_append_right _ he)).ids
 have hsG : ∀ k, k < 3 -> SeatG (h.2.2.2.1.getD k noS) h.1.1 := fun k hk => (h2.seats k hk).seat
 have het := tkL_ends 3 (Nat.le_refl _) hsG
 have htl := tkL_len h.2.2.2.1 3 (Nat.le_refl _) hsG
 have hj2 := okF_small (joined_ok he2)
 simp only [Bool.not_true, cond_false]
 rw [idsOf_eq (addL h) (by omega) he2, uni_fold _ he2]
 simp only [Option.bind_some]
 rw [implMg_loop h h.1.1 h2.ns hsG _ (by omega) rfl]
 by_cases h7 : (List.range 3).all (mgAt h) = true
 case neg => rw [show (List.range 3).all (mgAt h) = false by simpa using h7, decB_neg (p := HouseR h) (fun hh => h7 (range_all.2 hh.mg))]; rfl
 rw [h7]
 simp only [cond_true, afterO]
 rw [union_eq _ (by omega) het, uni_fold _ het, rowEntries_eq h z1, added_eq h z2 z3]
 simp only [Option.bind_some]
 rw [fits_of (by omega), show entRR h.2.2.2.2.1 ++ addL h = allE h from rfl, idsOf_eq (allE h) (by omega) he1, uni_fold _ he1]
 simp only [chk_true, Option.bind_some]
 have hj3 := okF_small (joined_ok het)
 rw [slices_Equal_Span_dec _ _ (by omega)]
 simp only [Option.bind_some]
 by_cases h6 : joinS [] (idsL (allE h)) = joinS [] (tkL h.2.2.2.1 3)
 case neg => rw [show eqd (joinS [] (tkL h.2.2.2.1 3)) (joinS [] (idsL (allE h))) = false by simp [eqd]; exact fun hh => h6 hh.symm, decB_neg (p := HouseR h) (fun hh => h6 hh.tk)]; rfl
 rw [show eqd (joinS [] (tkL h.2.2.2.1 3)) (joinS [] (idsL (allE h))) = true by simp [eqd, h6], implGen_loop h z3]
 by_cases h8 : (List.range h.2.2.2.2.2.2.2.2.1.length).all (genAt h.2.2.2.2.2.2.2.2.1) = true
 case neg => rw [show (List.range h.2.2.2.2.2.2.2.2.1.length).all (genAt h.2.2.2.2.2.2.2.2.1) = false by simpa using h8, decB_neg (p := HouseR h) (fun hh => h8 (range_all.2 hh.gens))]; rfl
 rw [h8, decB_pos ⟨h1, h2, range_all.1 h3, range_all.1 h8, h5, h6, range_all.1 h7⟩]
 rfl
abbrev nilR : DRow := (([] : List DEntry), ())
theorem zEnR' {e : DEntry} (h : EnR e) : zEntry e <= 1048576 := by
 obtain ⟨r0, r1, hr, ⟨h0, _⟩, h1, _⟩ := h.sk.rows
 have hh := h.sk.hist.1
 have hg := h.sk.regs.1
 have hi := okF_small (good_ok.1 h.ids)
 unfold zEntry zSpanS zSketch zIntS zIntSS
 rw [hr]
 simp only [List.map_cons, List.map_nil, List.sum_cons, List.sum_nil, List.length_cons, List.length_nil, zIntS]
 omega
def full (l : List Int) : Nat := l.countP fun x => decide (x > 0)
theorem l6Full_eq (l : List Int) (h : l.length <= 1048576) : F.spec_l6Full l = some ((full l : Nat) : Int) := by
 unfold F.spec_l6Full full
 have hh := loop_run (step := F.spec_l6Full.s3) (fun i => (l, (((l.take i).countP (fun x => decide (x > 0)) : Nat) : Int), (i : Int), ())) l.length (fun i hi => by
  have hc := cnt_le (fun x : Int => decide (x > 0)) l i
  unfold F.spec_l6Full.s3 F.spec_l1Bit
  simp only
  rw [lt_len hi, inb_nat hi, Int.toNat_natCast, getD_at hi, w64_nat (i := i) (by omega), cnt_take hi]
  simp only [cond_true, chk_true]
  cases decide (l[i] > 0) with
  | false =>
   simp only [cond_false, Bool.false_eq_true, if_false, Nat.add_zero, Option.bind_some, Int.add_zero]
   rw [w64_id (by omega) (by omega)]
  | true =>
   simp only [cond_true, if_true, Option.bind_some]
   rw [w64_id (by omega) (by omega)]
   rfl) (l := .exit (l, (((l.take l.length).countP (fun x => decide (x > 0)) : Nat) : Int), ((l.length : Nat) : Int), ())) (by
  unfold F.spec_l6Full.s3
  simp only [ge_len, cond_false]) rfl
 rw [List.take_length] at hh
 exact (congrArg (fun z => afterO z _) hh).trans rfl
def entSize (e : DEntry) : Int := 4 + 2 * (e.2.2.1.length : Int) + ((full ((e.2.2.2.1.2.2.2.2.1 ++ e.2.2.2.1.2.2.2.2.2.1) ++ e.2.2.2.1.2.2.2.2.2.2.1.flatten) : Nat) : Int)
theorem full_app (l m : List Int) : full (l ++ m) = full l + full m := List.countP_append
theorem full_le (l : List Int) : full l <= l.length := List.countP_le_length
theorem specESize_eq {e : DEntry} (h : EnR e) : F.spec_EntrySize e = some (entSize e) := by
 have hz := zEnR' h
 obtain ⟨r0, r1, hr, ⟨h0, _⟩, h1, _⟩ := h.sk.rows
 have hh := h.sk.hist.1
 have hg := h.sk.regs.1
 have hi := okF_small (good_ok.1 h.ids)
 have f1 := full_le e.2.2.2.1.2.2.2.2.1
 have f2 := full_le e.2.2.2.1.2.2.2.2.2.1
 have f3 := full_le r0
 have f4 := full_le r1
 unfold F.spec_EntrySize entSize
 rw [specEn_dec e hz, decB_pos h, hr]
 simp only [Option.bind_some, Bool.not_true, cond_false]
 rw [l6Full_eq _ (by omega), l6Full_eq _ (by omega), show inb 0 [r0, r1].length = true from rfl, show inb 1 [r0, r1].length = true from rfl, show [r0, r1].getD 0 [] = r0 from rfl, show [r0, r1].getD 1 [] = r1 from rfl, l6Full_eq _ (by omega), l6Full_eq _ (by omega)]
 simp only [Option.bind_some, chk_true, List.flatten_cons, List.flatten_nil, List.append_nil, full_app]
 rw [w64_id (x := 4 + _) (by omega) (by omega), w64_id (x := 4 + _ + _) (by omega) (by omega), w64_id (x := 4 + _ + _ + _) (by omega) (by omega), w64_id (x := 4 + _ + _ + _ + _) (by omega) (by omega), w64_id (x := 2 * len e.2.2.1) (by simp only [len]; omega) (by simp only [len]; omega), w64_id (by simp only [len]; omega) (by simp only [len]; omega)]
 simp only [len, Option.some.injEq]
 push_cast
 omega
theorem implESize_eq {e : DEntry} (h : EnR e) : F.impl_EntrySize e = some (entSize e) := by
 have hz := zEnR' h
 obtain ⟨r0, r1, hr, ⟨h0, _⟩, h1, _⟩ := h.sk.rows
 have hh := h.sk.hist.1
 have hg := h.sk.regs.1
 have hi := okF_small (good_ok.1 h.ids)
 have hzs : zSketch e.2.2.2.1 <= 1048576 := by unfold zEntry at hz; omega
 unfold F.impl_EntrySize entSize
 rw [implEn_dec e hz, decB_pos h, counts_eq _ hzs, w64_id (x := 2 * len e.2.2.1) (by simp only [len]; omega) (by simp only [len]; omega), w64_id (x := 4 + 2 * len e.2.2.1) (by simp only [len]; omega) (by simp only [len]; omega)]
 simp only [Option.bind_some, Bool.not_true, cond_false]
 have hlen : ((e.2.2.2.1.2.2.2.2.1 ++ e.2.2.2.1.2.2.2.2.2.1) ++ e.2.2.2.1.2.2.2.2.2.2.1.flatten).length <= 100 := by
  rw [hr]
  simp only [List.length_append, List.flatten_cons, List.flatten_nil, List.append_nil]
  omega
 generalize (e.2.2.2.1.2.2.2.2.1 ++ e.2.2.2.1.2.2.2.2.2.1) ++ e.2.2.2.1.2.2.2.2.2.2.1.flatten = l at hlen
 have hl := loop_run (step := F.impl_EntrySize.s5) (fun i => (4 + 2 * len e.2.2.1 + (((l.take i).countP (fun x => decide (x > 0)) : Nat) : Int), l, len l, (i : Int), ())) l.length (fun i hi => by
  have hc := cnt_le (fun x : Int => decide (x > 0)) l i
  unfold F.impl_EntrySize.s5
  simp only
  rw [lt_len hi, inb_nat hi, Int.toNat_natCast, getD_at hi, w64_nat (i := i) (by omega), cnt_take hi]
  simp only [cond_true, chk_true]
  cases decide (l[i] > 0) with
  | false => rfl
  | true =>
   simp only [cond_true, if_true]
   rw [w64_id (by simp only [len]; omega) (by simp only [len]; omega), Int.add_assoc]
   rfl) (l := .exit (4 + 2 * len e.2.2.1 + (((l.take l.length).countP (fun x => decide (x > 0)) : Nat) : Int), l, len l, ((l.length : Nat) : Int), ())) (by
  unfold F.impl_EntrySize.s5
  simp only [ge_len, cond_false]) rfl
 have hl : loopO F.impl_EntrySize.s5 (4 + 2 * len e.2.2.1 + 0, l, len l, 0, ()) = _ := hl
 rw [Int.add_zero, List.take_length] at hl
 exact (congrArg (fun z => afterO z _) hl).trans rfl
def firstSz (r : DRow) : Int := match r.1 with
 | [] => 0
 | e :: _ => mnI 200 (entSize e)
def sizesOf (h : DHouse) (c : Nat) : List Int := h.2.2.2.2.1.map fun rs => firstSz (rs.getD c nilR)
theorem row_at {h : DHouse} (hP : PartsR h) {k : Nat} (hk : k < h.2.2.2.2.1.length) : h.2.2.2.2.1[k].length = 2 /\ ∀ r ∈ h.2.2.2.2.1[k], RoR r := by
 have hs := hP.seats k (by have := hP.nr; omega)
 have h2 := hs.two
 have h3 := hs.rows
 rw [getD_at hk] at h2 h3
 exact ⟨h2, fun r hr => (h3 r hr).1⟩
theorem specSizes_eq (h : DHouse) (hP : PartsR h) (c : Nat) (hc : c <= 1) : F.spec_l14Sizes h (c : Int) = some (sizesOf h c) := by
 have hn := hP.nr
 unfold F.spec_l14Sizes
 have hh := loop_run (step := F.spec_l14Sizes.s3) (fun i => ((c : Int), (sizesOf h c).take i, (i : Int), h, ())) h.2.2.2.2.1.length (fun i hi => by
  obtain ⟨h2, h3⟩ := row_at hP hi
  have hc' : c < h.2.2.2.2.1[i].length := by omega
  have hsl : i < (sizesOf h c).length := by unfold sizesOf; rw [List.length_map]; exact hi
  have hsg : (sizesOf h c)[i] = firstSz h.2.2.2.2.1[i][c] := (List.getElem_map (fun rs : List DRow => firstSz (rs.getD c nilR)) (h := hsl)).trans (by rw [getD_at hc'])
  unfold F.spec_l14Sizes.s3
  simp only
  rw [show decide ((i : Int) < 3) = true from decide_eq_true (by omega), inb_nat hi, Int.toNat_natCast, getD_at hi, inb_nat hc', Int.toNat_natCast, getD_at hc', w64_nat (by omega), List.take_succ_eq_append_getElem hsl, hsg]
  simp only [cond_true, chk_true, List.length_cons, List.length_nil, List.length_take]
  have hr := h3 _ (List.getElem_mem hc')
  unfold firstSz
  cases hl : h.2.2.2.2.1[i][c].1 with
  | nil =>
   rw [show decide (len ([] : List DEntry) > 0) = false from rfl]
   simp only [cond_false]
   rw [fits_of (by omega)]; rfl
  | cons e l =>
   have he := hr.ok.all e (by rw [hl]; exact List.mem_cons_self ..)
   rw [show decide (len (e :: l) > 0) = true from decide_eq_true (by simp only [len, List.length_cons]; omega), show inb 0 (e :: l).length = true from inb_nat (i := 0) (by simp), show (e :: l).getD 0 nilE = e from rfl, specESize_eq he]
   simp only [cond_true, chk_true, Option.bind_some, l1Min_eq]
   rw [fits_of (by omega), mnI_comm]; rfl) (l := .exit ((c : Int), (sizesOf h c).take h.2.2.2.2.1.length, ((h.2.2.2.2.1.length : Nat) : Int), h, ())) (by
  unfold F.spec_l14Sizes.s3
  simp only
  rw [show decide (((h.2.2.2.2.1.length : Nat) : Int) < 3) = false from decide_eq_false (by omega)]; rfl) rfl
 rw [show (sizesOf h c).take h.2.2.2.2.1.length = sizesOf h c from List.take_of_length_le (by unfold sizesOf; rw [List.length_map]; omega)] at hh
 exact (congrArg (fun z => afterO z _) hh).trans rfl
theorem implSizes_loop (h : DHouse) (hP : PartsR h) (c : Nat) (hc : c <= 1) : loopO F.impl_Sizes.s5 ((c : Int), [], h.2.2.2.2.1, len h.2.2.2.2.1, 0, ()) = some (.inl ((c : Int), sizesOf h c, h.2.2.2.2.1, len h.2.2.2.2.1, ((h.2.2.2.2.1.length : Nat) : Int), ())) := by
 have hn := hP.nr
 have hh := loop_run (step := F.impl_Sizes.s5) (fun i => ((c : Int), (sizesOf h c).take i, h.2.2.2.2.1, len h.2.2.2.2.1, (i : Int), ())) h.2.2.2.2.1.length (fun i hi => by
  obtain ⟨h2, h3⟩ := row_at hP hi
  have hc' : c < h.2.2.2.2.1[i].length := by omega
  have hsl : i < (sizesOf h c).length := by unfold sizesOf; rw [List.length_map]; exact hi
  have hsg : (sizesOf h c)[i] = firstSz h.2.2.2.2.1[i][c] := (List.getElem_map (fun rs : List DRow => firstSz (rs.getD c nilR)) (h := hsl)).trans (by rw [getD_at hc'])
  unfold F.impl_Sizes.s5
  simp only
  rw [lt_len hi, inb_nat hi, Int.toNat_natCast, getD_at hi, inb_nat hc', Int.toNat_natCast, getD_at hc', w64_nat (by omega), List.take_succ_eq_append_getElem hsl, hsg]
  simp only [cond_true, chk_true, List.length_cons, List.length_nil, List.length_take]
  have hr := h3 _ (List.getElem_mem hc')
  unfold firstSz
  cases hl : h.2.2.2.2.1[i][c].1 with
  | nil =>
   rw [show decide (len ([] : List DEntry) > 0) = false from rfl]
   simp only [cond_false]
   rw [fits_of (by omega)]; rfl
  | cons e l =>
   have he := hr.ok.all e (by rw [hl]; exact List.mem_cons_self ..)
   rw [show decide (len (e :: l) > 0) = true from decide_eq_true (by simp only [len, List.length_cons]; omega), show inb 0 (e :: l).length = true from inb_nat (i := 0) (by simp), show (e :: l).getD 0 nilE = e from rfl, implESize_eq he]
   simp only [cond_true, chk_true, Option.bind_some]
   rw [fits_of (by omega)]; rfl) (l := .exit ((c : Int), (sizesOf h c).take h.2.2.2.2.1.length, h.2.2.2.2.1, len h.2.2.2.2.1, ((h.2.2.2.2.1.length : Nat) : Int), ())) (by
  unfold F.impl_Sizes.s5
  simp only [ge_len, cond_false]) rfl
 rw [show (sizesOf h c).take h.2.2.2.2.1.length = sizesOf h c from List.take_of_length_le (by unfold sizesOf; rw [List.length_map]; omega)] at hh
 exact hh
theorem sum0 : ∀ {l : List Nat}, l.sum = 0 ↔ ∀ x ∈ l, x = 0
 | [] => by simp
 | x :: l => by
  rw [List.sum_cons, Nat.add_eq_zero_iff, sum0]
  simp
theorem allNot {α : Type} {f p : α -> Bool} : ∀ {l : List α}, (∀ x ∈ l, f x = !p x) -> l.all f = !l.any p
 | [], _ => rfl
 | x :: l, h => by
  rw [List.all_cons, List.any_cons, h x (by simp), allNot (fun y hy => h y (by simp [hy]))]
  cases p x <;> rfl
def hasC (h : DHouse) (c : Nat) : Bool := h.2.2.2.2.1.any fun rs => decide (len (rs.getD c nilR).1 > 0)
theorem first_in {r : DRow} (hr : RoR r) : inR 0 200 (firstSz r) = true /\ inR 0 0 (firstSz r) = !decide (len r.1 > 0) := by
 unfold firstSz
 cases r.1 with
 | nil => exact ⟨rfl, rfl⟩
 | cons e l =>
  have he : 4 <= entSize e := by unfold entSize; omega
  have hm : 4 <= mnI 200 (entSize e) /\ mnI 200 (entSize e) <= 200 := by unfold mnI; split <;> omega
  refine ⟨inR_iff.2 (show 0 <= mnI 200 (entSize e) /\ mnI 200 (entSize e) <= 200 from ⟨by omega, hm.2⟩), ?_⟩
  rw [show decide (len (e :: l) > 0) = true from decide_eq_true (by simp only [len, List.length_cons]; omega), Bool.not_true, Bool.eq_false_iff]
  intro hc
  have : 0 <= mnI 200 (entSize e) /\ mnI 200 (entSize e) <= 0 := inR_iff.1 hc
  omega
theorem row_c {h : DHouse} (hP : PartsR h) {rs : List DRow} (hr : rs ∈ h.2.2.2.2.1) (c : Nat) (hc : c <= 1) : RoR (rs.getD c nilR) := by
 obtain ⟨k, hk, rfl⟩ := List.getElem_of_mem hr
 obtain ⟨h2, h3⟩ := row_at hP hk
 have hc' : c < h.2.2.2.2.1[k].length := by omega
 rw [getD_at hc']
 exact h3 _ (List.getElem_mem hc')
theorem sizes_len (h : DHouse) (hP : PartsR h) (c : Nat) : (sizesOf h c).length = 3 := by
 unfold sizesOf; rw [List.length_map]; exact hP.nr
theorem nums_has (h : DHouse) (hP : PartsR h) (c : Nat) (hc : c <= 1) : F.spec_l11Nums (sizesOf h c) 0 0 = some (!hasC h c) := by
 have hl := sizes_len h hP c
 rw [l11Nums_eq _ 0 0 (by omega), show (len (sizesOf h c) == 3) = true by simp [len, hl], Bool.true_and]
 unfold sizesOf hasC
 rw [List.all_map]
 congr 1
 exact allNot fun rs hr => (first_in (row_c hP hr c hc)).2
theorem sizes_in (h : DHouse) (hP : PartsR h) (c : Nat) (hc : c <= 1) : ((len (sizesOf h c) == 3) && (sizesOf h c).all (inR 0 200)) = true := by
 have hl := sizes_len h hP c
 rw [show (len (sizesOf h c) == 3) = true by simp [len, hl], Bool.true_and]
 unfold sizesOf
 rw [List.all_map, List.all_eq_true]
 exact fun rs hr => (first_in (row_c hP hr c hc)).1
theorem two_of {rs : List DRow} (h : rs.length = 2) : ∃ r0 r1, rs = [r0, r1] := by
 match rs, h with
 | [a, b], _ => exact ⟨a, b, rfl⟩
theorem has_items (h : DHouse) (hP : PartsR h) : cntRR h.2.2.2.2.1 = 0 ↔ hasC h 0 = false /\ hasC h 1 = false := by
 unfold cntRR hasC
 rw [sum0, List.any_eq_false, List.any_eq_false]
 have two : ∀ rs ∈ h.2.2.2.2.1, ∃ r0 r1, rs = [r0, r1] := fun rs hr => by
  obtain ⟨k, hk, rfl⟩ := List.getElem_of_mem hr
  exact two_of (row_at hP hk).1
 constructor
 ·intro h0
  have key : ∀ rs ∈ h.2.2.2.2.1, ∃ r0 r1, rs = [r0, r1] /\ r0.1.length = 0 /\ r1.1.length = 0 := fun rs hr => by
   obtain ⟨r0, r1, rfl⟩ := two rs hr
   have := h0 (cntR [r0, r1]) (List.mem_map.2 ⟨_, hr, rfl⟩)
   simp only [cntR, List.map_cons, List.map_nil, List.sum_cons, List.sum_nil] at this
   exact ⟨r0, r1, rfl, by omega, by omega⟩
  constructor <;> intro rs hr <;> obtain ⟨r0, r1, rfl, e0, e1⟩ := key rs hr
  ·show ¬ decide (len r0.1 > 0) = true
   simp [len, e0]
  ·show ¬ decide (len r1.1 > 0) = true
   simp [len, e1]
 ·rintro ⟨g0, g1⟩ n hn
  obtain ⟨rs, hr, rfl⟩ := List.mem_map.1 hn
  obtain ⟨r0, r1, rfl⟩ := two rs hr
  have a0 : ¬ decide (len r0.1 > 0) = true := g0 _ hr
  have a1 : ¬ decide (len r1.1 > 0) = true := g1 _ hr
  simp only [decide_eq_true_eq, len] at a0 a1
  simp only [cntR, List.map_cons, List.map_nil, List.sum_cons, List.sum_nil]
  omega
theorem has_in (rs : List (List DRow)) (n k : Int) (r0 r1 : DRow) (h z o : DHouse) (b0 b1 : Bool) :
  loopO F.impl_NextOf.s9 (rs, n, k, [r0, r1], len [r0, r1], 0, h, z, o, (b0, b1, ()), ()) = some (.inl (rs, n, k, [r0, r1], len [r0, r1], 2, h, z, o, (b0 || decide (len r0.1 > 0), b1 || decide (len r1.1 > 0), ()), ())) := by
 refine loopO_of (n := 3) ?_
 cases b0 <;> cases b1 <;> rfl
theorem has_loop (h z : DHouse) (hP : PartsR h) : loopO F.impl_NextOf.s6 (h.2.2.2.2.1, len h.2.2.2.2.1, 0, h, z, h, (false, false, ()), ()) = some (.inl (h.2.2.2.2.1, len h.2.2.2.2.1, ((h.2.2.2.2.1.length : Nat) : Int), h, z, h, (hasC h 0, hasC h 1, ()), ())) := by
 have hn := hP.nr
 have hh := loop_run (step := F.impl_NextOf.s6) (fun i => (h.2.2.2.2.1, len h.2.2.2.2.1, (i : Int), h, z, h, ((h.2.2.2.2.1.take i).any (fun rs => decide (len (rs.getD 0 nilR).1 > 0)), (h.2.2.2.2.1.take i).any (fun rs => decide (len (rs.getD 1 nilR).1 > 0)), ()), ())) h.2.2.2.2.1.length (fun i hi => by
  obtain ⟨r0, r1, hr⟩ := two_of (row_at hP hi).1
  unfold F.impl_NextOf.s6
  simp only
  rw [lt_len hi, inb_nat hi, Int.toNat_natCast, getD_at hi, hr, has_in, List.take_succ_eq_append_getElem hi, hr]
  simp only [cond_true, chk_true, afterO, List.any_append, List.any_cons, List.any_nil, Bool.or_false]
  rw [w64_nat (by omega)]
  rfl) (l := .exit (h.2.2.2.2.1, len h.2.2.2.2.1, ((h.2.2.2.2.1.length : Nat) : Int), h, z, h, ((h.2.2.2.2.1.take h.2.2.2.2.1.length).any (fun rs => decide (len (rs.getD 0 nilR).1 > 0)), (h.2.2.2.2.1.take h.2.2.2.2.1.length).any (fun rs => decide (len (rs.getD 1 nilR).1 > 0)), ()), ())) (by
  unfold F.impl_NextOf.s6
  simp only [ge_len, cond_false]) rfl
 rw [List.take_length] at hh
 exact hh
theorem class_eq (a b : Bool) (s q : Int) (hs : 0 <= s /\ s <= 1000) (hq : 1 <= q /\ q <= 10) (hab : (a || b) = true) : ∃ (c : Nat) (s' : Int), c < 2 /\ F.spec_PickClass a b s q = some ((c : Int), s') /\ F.impl_PickClass a b s q = some ((c : Int), s') /\ (0 <= s' /\ s' <= 1000) /\ (c = 0 -> a = true) /\ (c = 1 -> b = true) := by
 unfold F.spec_PickClass F.impl_PickClass
 simp only [l1In_eq, within_eq, Option.bind_some]
 rw [show inR 0 1000 s = true from inR_iff.2 hs, show inR 1 10 q = true from inR_iff.2 hq, w64_id (by omega) (by omega)]
 simp only [Bool.not_true, cond_false]
 cases a with
 | false => cases b with
  | false => cases hab
  | true => exact ⟨1, 0, by omega, rfl, rfl, ⟨by omega, by omega⟩, fun h => (by cases h), fun _ => rfl⟩
 | true => cases b with
  | false => exact ⟨0, 0, by omega, rfl, rfl, ⟨by omega, by omega⟩, fun _ => rfl, fun h => by cases h⟩
  | true =>
   by_cases hlt : s + 1 >= q
   ·rw [decide_eq_true hlt]
    exact ⟨1, 0, by omega, rfl, rfl, ⟨by omega, by omega⟩, fun h => (by cases h), fun _ => rfl⟩
   ·rw [decide_eq_false hlt]
    exact ⟨0, s + 1, by omega, rfl, rfl, ⟨by omega, by omega⟩, fun _ => rfl, fun h => by cases h⟩
theorem class_none (s q : Int) (hs : 0 <= s /\ s <= 1000) (hq : 1 <= q /\ q <= 10) : F.spec_PickClass false false s q = some (-1, 0) := by
 unfold F.spec_PickClass
 simp only [l1In_eq, Option.bind_some]
 rw [show inR 0 1000 s = true from inR_iff.2 hs, show inR 1 10 q = true from inR_iff.2 hq]
 rfl
theorem confB_parts {a : DConf} (h : confB a = true) : (1 <= a.2.1 /\ a.2.1 <= 60) /\ (1 <= a.2.2.1 /\ a.2.2.1 <= 10) /\ ((len a.2.2.2.1 == 3) && a.2.2.2.1.all (inR 1 4)) = true := by
 unfold confB at h
 simp only [Bool.and_eq_true] at h
 obtain ⟨_, h2, h3, h4, _⟩ := h
 exact ⟨inR_iff.1 h2, inR_iff.1 h3, by rw [Bool.and_eq_true]; exact h4⟩
def turned (h : DHouse) (c : Nat) (t : DTurn) (s : Int) : DHouse := (h.1, h.2.1, h.2.2.1, h.2.2.2.1, h.2.2.2.2.1, h.2.2.2.2.2.1.set c t, s, h.2.2.2.2.2.2.2)
structure NextR (h : DHouse) (k c : Nat) (t : DTurn) (s : Int) : Prop where
 hk : k < 3
 hc : c < 2
 row : 0 < ((h.2.2.2.2.1.getD k []).getD c nilR).1.length
 turn : turnB t = true
 since : 0 <= s /\ s <= 1000
theorem next_eq (h : DHouse) (hz : zHouse h <= 1048576) (hH : HouseR h) : ∃ r : Int × Int × DHouse, F.spec_l14Next h = some r /\ F.impl_NextOf h = some r /\ (r = (-1, -1, h) \/ ∃ k c t s, NextR h k c t s /\ r = ((k : Int), (c : Int), turned h c t s)) := by
 have hP := hH.parts
 obtain ⟨hq, hu, hw⟩ := confB_parts hH.conf
 have z1 : zRowSS h.2.2.2.2.1 <= 1048576 := by unfold zHouse at hz; omega
 have hit : F.impl_Items h = some ((cntRR h.2.2.2.2.1 : Nat) : Int) := by
  unfold F.impl_Items
  rw [rowEntries_eq h z1]
  simp only [Option.bind_some, len, entRR_len]
 unfold F.spec_l14Next F.impl_NextOf
 have s0 : F.spec_l14Sizes h 0 = some (sizesOf h 0) := specSizes_eq h hP 0 (by omega)
 have s1 : F.spec_l14Sizes h 1 = some (sizesOf h 1) := specSizes_eq h hP 1 (by omega)
 rw [l12Copy_eq h hz, copyHouse_eq h hz, implHouse_dec h hz, decB_pos hH, hit, s0, s1]
 simp only [Option.bind_some, nums_has h hP 0 (by omega), nums_has h hP 1 (by omega), Bool.not_not, Bool.not_true, cond_false]
 by_cases hn : cntRR h.2.2.2.2.1 = 0
 ·obtain ⟨g0, g1⟩ := (has_items h hP).1 hn
  rw [g0, g1, class_none _ _ hP.since hu, hn]
  exact ⟨_, rfl, rfl, .inl rfl⟩
 have hab : (hasC h 0 || hasC h 1) = true := by
  cases g0 : hasC h 0 with
  | true => rfl
  | false => cases g1 : hasC h 1 with
   | true => rfl
   | false => exact absurd ((has_items h hP).2 ⟨g0, g1⟩) hn
 obtain ⟨c, s', hc, e1, e2, hs', hc0, hc1⟩ := class_eq (hasC h 0) (hasC h 1) h.2.2.2.2.2.2.1 h.1.2.2.1 hP.since hu hab
 have hhas : hasC h c = true := by
  have : c = 0 \/ c = 1 := by omega
  rcases this with rfl | rfl
  ·exact hc0 rfl
  ·exact hc1 rfl
 have ht : c < h.2.2.2.2.2.1.length := by rw [hP.nt]; exact hc
 have hsz : F.impl_Sizes h (c : Int) = some (sizesOf h c) := by
  unfold F.impl_Sizes
  rw [implHouse_dec h hz, decB_pos hH]
  simp only [Option.bind_some, within_eq, Bool.not_true, cond_false]
  rw [show inR 0 1 (c : Int) = true from inR_iff.2 ⟨by omega, by omega⟩, implSizes_loop h hP c (by omega)]
  rfl
 have htz := zTurnIn hz (List.getElem_mem ht)
 have hwl : h.1.2.2.2.1.length = 3 := by
  rw [Bool.and_eq_true, beq_iff_eq] at hw
  have := hw.1
  simp only [len] at this
  omega
 have hsl := sizes_len h hP c
 obtain ⟨r, p1, p2, p3⟩ := pick_same (sizesOf h c) h.1.2.2.2.1 h.1.2.1 h.2.2.2.2.2.1[c] (by omega) (by omega) htz
 have hok : pickOk (sizesOf h c) h.1.2.2.2.1 h.1.2.1 h.2.2.2.2.2.1[c] = true := by
  unfold pickOk
  have h4 : turnB h.2.2.2.2.2.1[c] = true := hP.turns _ (List.getElem_mem ht)
  unfold turnB at h4
  rw [sizes_in h hP c (by omega), hw, show inR 1 60 h.1.2.1 = true from inR_iff.2 hq, h4]
  rfl
 rw [show (((cntRR h.2.2.2.2.1 : Nat) : Int) == 0) = false by rw [beq_eq_false_iff_ne]; omega, e1]
 simp only [cond_false]
 rw [has_loop h _ hP]
 simp only [afterO, e2, Option.bind_some, hsz]
 rw [show decide (((c : Nat) : Int) < 0) = false from decide_eq_false (by omega), specSizes_eq h hP c (by omega), inb_nat ht, Int.toNat_natCast, getD_at ht]
 simp only [cond_false, Option.bind_some, chk_true, p1, p2]
 refine ⟨_, rfl, rfl, .inr ?_⟩
 rcases p3 with ⟨h0, _⟩ | ⟨_, h0, _⟩ | ⟨_, x0, x1, x2, m0, m1, m2, hx, hm, ⟨i, hi, l0, l1, l2, hr, hpos, b0, b1, b2, _⟩⟩
 ·rw [hok] at h0; cases h0
 ·exfalso
  have := nums_has h hP c (by omega)
  rw [hhas, l11Nums_eq _ 0 0 (by omega), show (len (sizesOf h c) == 3) = true by simp [len, hsl], Bool.true_and] at this
  have h1 : (sizesOf h c).all (inR 0 0) = true := by
   rw [List.all_eq_true] at h0 ⊢
   intro x hx
   have := h0 x hx
   rw [beq_iff_eq] at this
   rw [this]; rfl
  rw [h1] at this
  cases this
 ·refine ⟨i, c, r.2, s', ⟨hi, hc, ?_, ?_, hs'⟩, ?_⟩
  ·have hir : i < h.2.2.2.2.1.length := by rw [hP.nr]; exact hi
   have hxi : (sizesOf h c)[i]'(by rw [hsl]; exact hi) > 0 := by
    have : (sizesOf h c)[i]'(by rw [hsl]; exact hi) = [x0, x1, x2][i] := by congr 1
    rw [this]; exact hpos
   unfold sizesOf at hxi
   rw [List.getElem_map] at hxi
   rw [getD_at hir]
   unfold firstSz at hxi
   cases hl : (h.2.2.2.2.1[i].getD c nilR).1 with
   | nil => rw [hl] at hxi; exact absurd hxi (by simp)
   | cons e l => simp
  ·rw [hr]
   unfold turnB
   obtain ⟨u0, u1⟩ := b0
   obtain ⟨v0, v1⟩ := b1
   obtain ⟨w0, w1⟩ := b2
   simp only [List.all_cons, List.all_nil, Bool.and_true]
   rw [show inR 0 2 (i : Int) = true from inR_iff.2 ⟨by omega, by omega⟩, show inR 0 1000 l0 = true from inR_iff.2 ⟨u0, u1⟩, show inR 0 1000 l1 = true from inR_iff.2 ⟨v0, v1⟩, show inR 0 1000 l2 = true from inR_iff.2 ⟨w0, w1⟩]
   rfl
  ·rw [hr]; rfl
theorem loop_find {X A α : Type} {step : X -> Option (Lp X A)} (l : List α) (mk : Nat -> X) (p : α -> Bool) (a : Nat -> A)
  (h : ∀ i (hi : i < l.length), step (mk i) = some (bif p l[i] then .ret (a i) else .again (mk (i + 1))))
  (he : step (mk l.length) = some (.exit (mk l.length))) :
  loopO step (mk 0) = some (match l.findIdx? p with
   | some i => .inr (a i)
   | none => .inl (mk l.length)) := by
 have key : ∀ (m q : List α), q ++ m = l -> iterO step (m.length + 1) (mk q.length) = some (match m.findIdx? p with
   | some i => .inr (a (q.length + i))
   | none => .inl (mk l.length)) := by
  intro m
  induction m with
  | nil =>
   intro q hq
   have hq : q = l := by simpa using hq
   subst hq
   rw [List.length_nil, iterO, he]; rfl
  | cons x m ih =>
   intro q hq
   have hi : q.length < l.length := by rw [<- hq]; simp
   have hx : l[q.length] = x := by subst hq; simp
   rw [iterO, h _ hi, hx, List.findIdx?_cons]
   cases hp : p x with
   | true => simp
   | false =>
    have z := ih (q ++ [x]) (by rw [<- hq]; simp)
    rw [List.length_append] at z
    simp only [cond_false, Bool.false_eq_true, if_false, List.length_cons]
    rw [show q.length + 1 = q.length + [x].length from rfl, z]
    cases List.findIdx? p m with
    | none => rfl
    | some i =>
     simp only [Option.map_some, List.length_cons, List.length_nil]
     rw [show q.length + (0 + 1) + i = q.length + (i + 1) by omega]
 have := loopO_of (key l [] rfl)
 simp only [List.length_nil, Nat.zero_add] at this
 exact this
def runD {S A : Type} (g : Nat -> S -> S ⊕ A) : Nat -> S -> S ⊕ A
 | 0, s => .inl s
 | n + 1, s => match g n s with
  | .inl s' => runD g n s'
  | .inr a => .inr a
def aftP (e x : DEntry) : Bool := decide (e.1 < x.1) || (e.1 == x.1 && decide (e.2.1 < x.2.1))
def laid (e : DEntry) (l : List DEntry) : List DEntry := match l.findIdx? (aftP e) with
 | some k => l.take k ++ ([e] ++ l.drop k)
 | none => l ++ [e]
def added (l : List DEntry) (e : DEntry) : List DEntry × Bool := match l.findIdx? (atP e.1 e.2.1) with
 | some k => bif apB (l.getD k e).2.2.1 e.2.2.1 then (l.set k (addE (l.getD k e) e), true) else (l, false)
 | none => (laid e l, true)
def RootR (l : List DEntry) (e : DEntry) : Prop := EnR e /\ ∀ x ∈ l, EnR x
theorem copyEs_eq (l : List DEntry) (hz : zEntryS l <= 1048576) : F.impl_copyEntries l = some l := by
 have := copyRow_eq (l, ()) hz
 unfold F.impl_copyRow at this
 cases hc : F.impl_copyEntries l with
 | none => rw [hc] at this; cases this
 | some q =>
  rw [hc] at this
  have h2 : some ((q, ()) : DRow) = some (l, ()) := this
  injection h2 with h3
  injection h3 with h4
  rw [h4]
theorem find_none {α : Type} {p : α -> Bool} {l : List α} : l.findIdx? p = none ↔ ∀ x ∈ l, p x = false := List.findIdx?_eq_none_iff
theorem badFind_eq (l : List DEntry) (hz : zEntryS l <= 1048576) : F.slices_ContainsFunc_Entry__impl_RootAdd_1 l () = some (!decB (∀ x ∈ l, EnR x)) := by
 have hn : l.length <= 1048576 := by unfold zEntryS at hz; omega
 unfold F.slices_ContainsFunc_Entry__impl_RootAdd_1 F.slices_IndexFunc_Entry__impl_RootAdd_1
 have hh := loop_find (step := F.slices_IndexFunc_Entry__impl_RootAdd_1.s2) l (fun i => (l, (), len l, (i : Int), ())) (fun x => !decB (EnR x)) (fun i => (i : Int)) (fun i hi => by
  unfold F.slices_IndexFunc_Entry__impl_RootAdd_1.s2 F.impl_RootAdd_1
  simp only
  rw [lt_len hi, inb_nat hi, Int.toNat_natCast, getD_at hi, implEn_dec _ (zE_mem hz (List.getElem_mem hi)), w64_nat (by omega)]
  simp only [cond_true, chk_true, Option.bind_some]
  cases decB (EnR l[i]) <;> rfl) (by
  unfold F.slices_IndexFunc_Entry__impl_RootAdd_1.s2
  simp only [ge_len, cond_false])
 have hh : loopO F.slices_IndexFunc_Entry__impl_RootAdd_1.s2 (l, (), len l, 0, ()) = _ := hh
 rw [hh]
 cases hq : l.findIdx? (fun x => !decB (EnR x)) with
 | none =>
  have : ∀ x ∈ l, EnR x := fun x hx => by
   have := find_none.1 hq x hx
   simpa [decB] using this
  rw [decB_pos this]; rfl
 | some k =>
  have : ¬ ∀ x ∈ l, EnR x := fun h => by
   have := (find_none (p := fun x => !decB (EnR x)) (l := l)).2 (fun x hx => by simp only [decB_pos (h x hx)]; rfl)
   rw [hq] at this; cases this
  rw [decB_neg this]
  show some (decide ((k : Int) >= 0)) = _
  rw [decide_eq_true (by omega)]; rfl
theorem aheadP_eq (a b : DEntry) : F.impl_ahead a b = some (aftP a b) := by
 unfold F.impl_ahead aftP
 cases decide (a.1 < b.1) <;> cases (a.1 == b.1) <;> rfl
theorem aftFind_eq (l : List DEntry) (e : DEntry) (hn : l.length <= 1048576) : F.slices_IndexFunc_Entry__impl_RootAdd_2 l (e, ()) = some (match l.findIdx? (aftP e) with
  | some i => (i : Int)
  | none => -1) := by
 unfold F.slices_IndexFunc_Entry__impl_RootAdd_2
 have hh := loop_find (step := F.slices_IndexFunc_Entry__impl_RootAdd_2.s2) l (fun i => (l, (e, ()), len l, (i : Int), ())) (aftP e) (fun i => (i : Int)) (fun i hi => by
  unfold F.slices_IndexFunc_Entry__impl_RootAdd_2.s2 F.impl_RootAdd_2
  simp only
  rw [lt_len hi, inb_nat hi, Int.toNat_natCast, getD_at hi, aheadP_eq, w64_nat (by omega)]
  simp only [cond_true, chk_true, Option.bind_some]
  cases aftP e l[i] <;> rfl) (by
  unfold F.slices_IndexFunc_Entry__impl_RootAdd_2.s2
  simp only [ge_len, cond_false])
 have hh : loopO F.slices_IndexFunc_Entry__impl_RootAdd_2.s2 (l, (e, ()), len l, 0, ()) = _ := hh
 simp only
 rw [hh]
 cases l.findIdx? (aftP e) <;> rfl
theorem insert_eq (l : List DEntry) (k : Nat) (e : DEntry) (hk : k <= l.length) (hn : l.length <= 1048576) : F.slices_Insert_Entry l (k : Int) [e] = some (l.take k ++ ([e] ++ l.drop k)) := by
 unfold F.slices_Insert_Entry
 rw [show decide (0 <= (k : Int)) = true from decide_eq_true (by omega), show decide ((k : Int) <= (l.length : Int)) = true from decide_eq_true (by omega), show Nat.beq [e].length 1 = true from rfl, fits_of (by omega), Int.toNat_natCast]
 rfl
theorem implRoot_eq (l : List DEntry) (e : DEntry) (h : zEntryS l <= 1048576) (h' : zEntry e <= 1048576) : F.impl_RootAdd l e = some (bif decB (RootR l e) then added l e else (l, false)) := by
 have hn : l.length <= 1048576 := by unfold zEntryS at h; omega
 unfold F.impl_RootAdd
 rw [copyEs_eq l h, implEn_dec e h', badFind_eq l h]
 simp only [Option.bind_some]
 by_cases he : EnR e
 case neg => rw [decB_neg he, decB_neg (show ¬ RootR l e from fun hh => he hh.1)]; rfl
 by_cases hl : ∀ x ∈ l, EnR x
 case neg => rw [decB_pos he, decB_neg hl, decB_neg (show ¬ RootR l e from fun hh => hl hh.2)]; rfl
 rw [decB_pos he, decB_pos hl, decB_pos (show RootR l e from ⟨he, hl⟩), placeOf_eq l _ _ hn, aftFind_eq l e hn, copyEntry_eq e h']
 simp only [Option.bind_some, Bool.not_true, cond_false, cond_true]
 unfold added
 cases hk : l.findIdx? (atP e.1 e.2.1) with
 | some k =>
  obtain ⟨hi, h1, h2⟩ := find_at hk
  have hek := hl _ (List.getElem_mem hi)
  simp only
  rw [show decide (((k : Nat) : Int) >= 0) = true from decide_eq_true (by omega), inb_nat hi, Int.toNat_natCast, getD_at hi, getD_at hi, entryAdd_eq hek he h1 h2]
  simp only [cond_true, chk_true, Option.bind_some]
  cases apB l[k].2.2.1 e.2.2.1 <;> rfl
 | none =>
  simp only
  rw [show decide ((-1 : Int) >= 0) = false from rfl]
  simp only [cond_false]
  unfold laid
  cases hq : l.findIdx? (aftP e) with
  | none =>
   simp only
   rw [show decide ((-1 : Int) < 0) = true from rfl]
   simp only [cond_true]
   have := insert_eq l l.length e (Nat.le_refl _) hn
   rw [List.take_length, List.drop_length, List.append_nil] at this
   have : F.slices_Insert_Entry l (len l) [e] = some (l ++ [e]) := this
   rw [this]; rfl
  | some k =>
   obtain ⟨hi, _, _⟩ := List.findIdx?_eq_some_iff_getElem.1 hq
   simp only
   rw [show decide (((k : Nat) : Int) < 0) = false from decide_eq_false (by omega), insert_eq l k e (by omega) hn]
   rfl
theorem aft_def (e x : DEntry) : aftP e x = (decide (x.1 > e.1) || (x.1 == e.1 && decide (x.2.1 > e.2.1))) := by
 unfold aftP
 rw [show (e.1 == x.1) = (x.1 == e.1) from Bool.eq_iff_iff.2 (by rw [beq_iff_eq, beq_iff_eq]; exact eq_comm)]
theorem laid_mem {e : DEntry} {l : List DEntry} {x : DEntry} : x ∈ laid e l ↔ x ∈ l \/ x = e := by
 unfold laid
 cases l.findIdx? (aftP e) with
 | none => simp
 | some k =>
  have h := List.mem_append (a := x) (s := l.take k) (t := l.drop k)
  rw [List.take_append_drop] at h
  simp only [List.mem_append, List.mem_singleton, h]
  constructor
  ·rintro (h | h | h)
   ·exact .inl (.inl h)
   ·exact .inr h
   ·exact .inl (.inr h)
  ·rintro ((h | h) | h)
   ·exact .inl h
   ·exact .inr (.inr h)
   ·exact .inr (.inl h)
theorem laid_len (e : DEntry) (l : List DEntry) : (laid e l).length = l.length + 1 := by
 unfold laid
 cases hq : l.findIdx? (aftP e) with
 | none => simp
 | some k =>
  obtain ⟨hi, _, _⟩ := List.findIdx?_eq_some_iff_getElem.1 hq
  simp only [List.length_append, List.length_take, List.length_drop, List.length_cons, List.length_nil]
  omega
theorem added_ok {l : List DEntry} {e : DEntry} (h : RootR l e) : (∀ x ∈ (added l e).1, EnR x) /\ (added l e).1.length <= l.length + 1 /\ l.length <= (added l e).1.length := by
 unfold added
 cases hk : l.findIdx? (atP e.1 e.2.1) with
 | none =>
  refine ⟨fun x hx => ?_, by show (laid e l).length <= _; rw [laid_len]; exact Nat.le_refl _, by show _ <= (laid e l).length; rw [laid_len]; omega⟩
  rcases laid_mem.1 hx with hx | rfl
  ·exact h.2 x hx
  ·exact h.1
 | some k =>
  obtain ⟨hi, _, _⟩ := find_at hk
  simp only
  cases apB (l.getD k e).2.2.1 e.2.2.1 with
  | false => exact ⟨h.2, by simp only [cond_false]; omega, Nat.le_refl _⟩
  | true =>
   refine ⟨fun x hx => ?_, by simp only [cond_true, List.length_set]; omega, by simp only [cond_true, List.length_set]; omega⟩
   rcases List.mem_or_eq_of_mem_set hx with hx | rfl
   ·exact h.2 x hx
   ·rw [getD_at hi]; exact addE_ok (h.2 _ (List.getElem_mem hi)) h.1
abbrev noE : DEntry := (0, 0, ([] : List DSpan), (0, 0, 0, 0, ([] : List Int), ([] : List Int), ([] : List (List Int)), ()), ())
noncomputable def popped (r : DRow) : DEntry × DRow × Bool := bif decB (RoR r) && !r.1.isEmpty then (r.1.getD 0 noE, (r.1.drop 1, ()), true) else (noE, r, false)
theorem pop_take (l : List DEntry) : List.take ((Int.toNat (len l)) - 1) (List.drop 1 l) = l.drop 1 := by
 rw [List.take_of_length_le]
 rw [List.length_drop]
 simp only [len]; omega
theorem specPop_eq (r : DRow) (h : zRow r <= 1048576) : F.spec_RowPop r = some (popped r) := by
 unfold F.spec_RowPop popped
 rw [l10Copy_eq r h, specRow_dec r h]
 simp only [Option.bind_some]
 by_cases hr : RoR r
 case neg => rw [decB_neg hr]; rfl
 rw [decB_pos hr]
 have hf := hr.few
 obtain ⟨l, u⟩ := r
 cases l with
 | nil => rfl
 | cons x l =>
  have hf : l.length + 1 <= 24 := hf
  rw [show (len (x :: l) == 0) = false by simp only [len, List.length_cons, beq_eq_false_iff_ne, ne_eq]; omega, pop_take, show inb 0 (x :: l).length = true from inb_nat (i := 0) (by simp), show cutOk 1 (len (x :: l)) (x :: l).length = true by simp [cutOk, len]; omega]
  simp only [Bool.not_true, cond_false, chk_true]
  rw [fits_of (by simp only [List.length_nil, List.length_drop, List.length_cons]; omega)]
  rfl
theorem implPop_eq (r : DRow) (h : zRow r <= 1048576) : F.impl_RowPop r = some (popped r) := by
 unfold F.impl_RowPop popped
 rw [copyRow_eq r h, implRow_dec r h]
 simp only [Option.bind_some]
 by_cases hr : RoR r
 case neg => rw [decB_neg hr]; rfl
 rw [decB_pos hr]
 have hf := hr.few
 obtain ⟨l, u⟩ := r
 cases l with
 | nil => rfl
 | cons x l =>
  have hf : l.length + 1 <= 24 := hf
  rw [show (len (x :: l) == 0) = false by simp only [len, List.length_cons, beq_eq_false_iff_ne, ne_eq]; omega, pop_take, show inb 0 (x :: l).length = true from inb_nat (i := 0) (by simp), show cutOk 1 (len (x :: l)) (x :: l).length = true by simp [cutOk, len]; omega]
  rfl
theorem zEn_cons (x : DEntry) (l : List DEntry) : zEntryS (x :: l) = 1 + zEntry x + zEntryS l := by
 unfold zEntryS
 simp only [List.map_cons, List.sum_cons, List.length_cons]
 omega
def plc (e : DEntry) : Int := e.1 * 21 + e.2.1
def ins (e : DEntry) : List DEntry -> List DEntry
 | [] => [e]
 | x :: l => if plc x = plc e then addE x e :: l else if plc x < plc e then x :: ins e l else e :: x :: l
def totO : List DEntry -> Option DEntry
 | [] => none
 | e :: l => some (l.foldl addE e)
def ofP (p : Int) (l : List DEntry) : List DEntry := l.filter fun e => decide (plc e = p)
def smL (ps : List Int) (l : List DEntry) : List DEntry := ps.filterMap fun p => totO (ofP p l)
def places : List Int := (List.range 105).map fun n => ((n : Nat) : Int)
def upP (l : List DEntry) : Prop := l.Pairwise fun x y => plc x < plc y
theorem iter_again {X A : Type} {step : X -> Option (Lp X A)} (st : Nat -> X) (m : Nat) : ∀ n, (∀ k, k < n -> step (st k) = some (.again (st (k + 1)))) -> iterO step (n + m) (st 0) = iterO step m (st n) := by
 intro n
 induction n generalizing m with
 | zero => intro _; rw [Nat.zero_add]
 | succ n ih =>
  intro h
  rw [show n + 1 + m = n + (m + 1) by omega, ih (m + 1) (fun k hk => h k (by omega)), iterO, h n (by omega)]
theorem plc_cmp {x e : DEntry} (hx : EnR x) (he : EnR e) : (plc x = plc e ↔ x.1 = e.1 /\ x.2.1 = e.2.1) /\ (plc x > plc e ↔ x.1 > e.1 \/ (x.1 = e.1 /\ x.2.1 > e.2.1)) := by
 have a := hx.key; have b := hx.win; have c := he.key; have d := he.win
 unfold plc
 omega
theorem into_step (S : List DEntry) (at_ : Int) (i : Nat) (e : DEntry) (hi : i < S.length) (hl : S.length <= 1048576) (hx : EnR S[i]) (he : EnR e) :
  F.spec_l10Into.s3 (S, at_, (i : Int), e, ()) = some (if plc S[i] = plc e then .ret (S.set i (addE S[i] e)) else if plc S[i] > plc e then .again (S, (i : Int), (i : Int) - 1, e, ()) else .again (S, at_, (i : Int) - 1, e, ())) := by
 obtain ⟨c1, c2⟩ := plc_cmp hx he
 unfold F.spec_l10Into.s3
 simp only
 rw [show decide ((i : Int) >= 0) = true from decide_eq_true (by omega), inb_nat hi, Int.toNat_natCast, getD_at hi, l6Add_eq hx he, w64_id (x := (i : Int) - 1) (by omega) (by omega)]
 simp only [cond_true, chk_true, Option.bind_some]
 by_cases h1 : S[i].1 = e.1
 ·rw [show (S[i].1 == e.1) = true by simp [h1], show decide (S[i].1 > e.1) = false from decide_eq_false (by omega)]
  by_cases h2 : S[i].2.1 = e.2.1
  ·rw [show (S[i].2.1 == e.2.1) = true by simp [h2], if_pos (c1.2 ⟨h1, h2⟩)]; rfl
  ·rw [show (S[i].2.1 == e.2.1) = false by simp [h2], if_neg (fun h => h2 (c1.1 h).2)]
   by_cases h3 : S[i].2.1 > e.2.1
   ·rw [decide_eq_true h3, if_pos (c2.2 (.inr ⟨h1, h3⟩))]; rfl
   ·rw [decide_eq_false h3, if_neg (fun h => by rcases c2.1 h with h | h <;> omega)]; rfl
 ·rw [show (S[i].1 == e.1) = false by simp [h1], if_neg (fun h => h1 (c1.1 h).1)]
  by_cases h3 : S[i].1 > e.1
  ·rw [decide_eq_true h3, if_pos (c2.2 (.inl h3))]; rfl
  ·rw [decide_eq_false h3, if_neg (fun h => by rcases c2.1 h with h | h <;> omega)]; rfl
theorem into_eq (S : List DEntry) (e : DEntry) (hl : S.length <= 200) (hS : ∀ x ∈ S, EnR x) (he : EnR e) (hu : upP S) : F.spec_l10Into S e = some (ins e S) := by
 -- parted at the entry's place
 have part : ∀ T : List DEntry, upP T -> ∃ L R, T = L ++ R /\ (∀ x ∈ L, plc x < plc e) /\ ((∃ x R', R = x :: R' /\ plc x = plc e /\ (∀ y ∈ R', plc e < plc y) /\ ins e T = L ++ addE x e :: R') \/ ((∀ y ∈ R, plc e < plc y) /\ ins e T = L ++ e :: R)) := by
  intro T
  induction T with
  | nil => intro _; exact ⟨[], [], rfl, (fun x hx => by cases hx), .inr ⟨(fun x hx => by cases hx), rfl⟩⟩
  | cons x T ih =>
   intro h
   obtain ⟨h1, h2⟩ := List.pairwise_cons.1 h
   by_cases a1 : plc x = plc e
   ·refine ⟨[], x :: T, rfl, (fun x hx => by cases hx), .inl ⟨x, T, rfl, a1, fun y hy => by have := h1 y hy; omega, ?_⟩⟩
    unfold ins
    rw [if_pos a1]; rfl
   ·by_cases a2 : plc x < plc e
    ·obtain ⟨L, R, e1, e2, e3⟩ := ih h2
     refine ⟨x :: L, R, by rw [e1]; rfl, fun y hy => ?_, ?_⟩
     ·rcases List.mem_cons.1 hy with rfl | hy
      ·exact a2
      ·exact e2 y hy
     ·have hi : ins e (x :: T) = x :: ins e T := by
       conv => lhs; unfold ins
       rw [if_neg a1, if_pos a2]
      rcases e3 with ⟨y, R', f1, f2, f3, f4⟩ | ⟨f1, f2⟩
      ·exact .inl ⟨y, R', f1, f2, f3, by rw [hi, f4]; rfl⟩
      ·exact .inr ⟨f1, by rw [hi, f2]; rfl⟩
    ·refine ⟨[], x :: T, rfl, (fun x hx => by cases hx), .inr ⟨fun y hy => ?_, ?_⟩⟩
     ·rcases List.mem_cons.1 hy with rfl | hy
      ·omega
      ·have := h1 y hy; omega
     ·unfold ins
      rw [if_neg a1, if_neg a2]; rfl
 obtain ⟨L, R, e1, e2, e3⟩ := part S hu
 -- those behind are passed
 have pass : ∀ (A Q : List DEntry) (m : Nat), S = A ++ Q -> (∀ y ∈ Q, plc e < plc y) -> iterO F.spec_l10Into.s3 (Q.length + m) (S, len S, len S - 1, e, ()) = iterO F.spec_l10Into.s3 m (S, (A.length : Int), (A.length : Int) - 1, e, ()) := by
  intro A Q m hs hq
  have hsl : S.length = A.length + Q.length := by rw [hs, List.length_append]
  have := iter_again (step := F.spec_l10Into.s3) (fun k => (S, (S.length : Int) - (k : Int), (S.length : Int) - (k : Int) - 1, e, ())) m Q.length (fun k hk => by
   have hi : S.length - k - 1 < S.length := by omega
   have hq2 : plc e < plc S[S.length - k - 1] := by
    refine hq _ ?_
    have : S[S.length - k - 1]'hi = (A ++ Q)[S.length - k - 1]'(by rw [<- hs]; exact hi) := by congr 1
    rw [this, List.getElem_append_right (by omega)]
    exact List.getElem_mem _
   have hst := into_step S ((S.length : Int) - (k : Int)) (S.length - k - 1) e hi (by omega) (hS _ (List.getElem_mem hi)) he
   rw [if_neg (by omega), if_pos (by omega)] at hst
   have i1 : ((S.length - k - 1 : Nat) : Int) = (S.length : Int) - (k : Int) - 1 := by omega
   rw [i1] at hst
   rw [hst]
   have i2 : (S.length : Int) - ((k + 1 : Nat) : Int) = (S.length : Int) - (k : Int) - 1 := by omega
   rw [i2])
  have e0 : (S.length : Int) - ((0 : Nat) : Int) = len S := by simp [len]
  rw [e0] at this
  have ea : (S.length : Int) - (Q.length : Int) = (A.length : Int) := by omega
  rw [ea] at this
  exact this
 have hw : w64 (len S - 1) = len S - 1 := w64_id (by simp only [len]; omega) (by simp only [len]; omega)
 unfold F.spec_l10Into
 rw [hw]
 rcases e3 with ⟨x, R', f1, f2, f3, f4⟩ | ⟨f1, f2⟩
 ·have hs : S = (L ++ [x]) ++ R' := by rw [e1, f1]; simp
  have hi : L.length < S.length := by rw [hs]; simp
  have hx : S[L.length] = x := by
   have : S[L.length]'hi = ((L ++ [x]) ++ R')[L.length]'(by rw [<- hs]; exact hi) := by congr 1
   rw [this, List.getElem_append_left (by simp), List.getElem_append_right (Nat.le_refl _)]
   simp
  have p := pass (L ++ [x]) R' 1 hs f3
  have hst := into_step S ((L ++ [x]).length : Int) L.length e hi (by omega) (hS _ (List.getElem_mem hi)) he
  rw [hx, if_pos f2] at hst
  have hlen : (((L ++ [x]).length : Nat) : Int) - 1 = (L.length : Int) := by rw [List.length_append]; simp only [List.length_cons, List.length_nil]; omega
  rw [hlen] at p
  have p2 : iterO F.spec_l10Into.s3 1 (S, ((L ++ [x]).length : Int), (L.length : Int), e, ()) = some (.inr (S.set L.length (addE x e))) := by rw [iterO, hst]
  rw [p2] at p
  rw [show loopO F.spec_l10Into.s3 (S, len S, len S - 1, e, ()) = _ from loopO_of p]
  have hset : S.set L.length (addE x e) = ins e S := by
   rw [f4, hs, List.append_assoc, List.set_append_right _ _ (Nat.le_refl _), Nat.sub_self]; rfl
  rw [hset]; rfl
 ·have p := pass L R (L.length + 1) e1 f1
  have hsl : S.length = L.length + R.length := by rw [e1, List.length_append]
  have q := iter_again (step := F.spec_l10Into.s3) (fun k => (S, (L.length : Int), (L.length : Int) - 1 - (k : Int), e, ())) 1 L.length (fun k hk => by
   have hi : L.length - 1 - k < S.length := by omega
   have hq2 : plc S[L.length - 1 - k] < plc e := by
    refine e2 _ ?_
    have : S[L.length - 1 - k]'hi = (L ++ R)[L.length - 1 - k]'(by rw [<- e1]; exact hi) := by congr 1
    rw [this, List.getElem_append_left (by omega)]
    exact List.getElem_mem _
   have hst := into_step S (L.length : Int) (L.length - 1 - k) e hi (by omega) (hS _ (List.getElem_mem hi)) he
   rw [if_neg (by omega), if_neg (by omega)] at hst
   have i1 : ((L.length - 1 - k : Nat) : Int) = (L.length : Int) - 1 - (k : Int) := by omega
   rw [i1] at hst
   rw [hst]
   have i2 : (L.length : Int) - 1 - ((k + 1 : Nat) : Int) = (L.length : Int) - 1 - (k : Int) - 1 := by omega
   rw [i2])
  have e0 : (L.length : Int) - 1 - ((0 : Nat) : Int) = (L.length : Int) - 1 := by omega
  rw [e0] at q
  rw [q] at p
  have hend : F.spec_l10Into.s3 (S, (L.length : Int), (L.length : Int) - 1 - (L.length : Int), e, ()) = some (.exit (S, (L.length : Int), (L.length : Int) - 1 - (L.length : Int), e, ())) := by
   unfold F.spec_l10Into.s3
   simp only
   rw [show decide ((L.length : Int) - 1 - (L.length : Int) >= 0) = false from decide_eq_false (by omega)]; rfl
  have p2 : iterO F.spec_l10Into.s3 1 (S, (L.length : Int), (L.length : Int) - 1 - (L.length : Int), e, ()) = some (.inl (S, (L.length : Int), (L.length : Int) - 1 - (L.length : Int), e, ())) := by rw [iterO, hend]
  rw [p2] at p
  rw [show loopO F.spec_l10Into.s3 (S, len S, len S - 1, e, ()) = _ from loopO_of p]
  have hz := zEnR he
  simp only [afterO, Int.toNat_natCast, Nat.sub_zero, List.drop_zero, List.nil_append, List.length_nil, Nat.zero_add]
  have t1 : S.take L.length = L := by rw [e1, List.take_left]
  have t2 : List.take (S.length - L.length) (S.drop L.length) = R := by
   rw [e1, List.drop_left]
   refine List.take_of_length_le ?_
   rw [List.length_append]; omega
  rw [t1, t2, l6Copy_eq e (by omega)]
  rw [show cutOk 0 (L.length : Int) S.length = true by simp [cutOk]; omega, show cutOk (L.length : Int) (len S) S.length = true by simp [cutOk, len]; omega, fits_of (by omega)]
  simp only [chk_true, Option.bind_some, List.length_append, List.length_cons, List.length_nil]
  rw [fits_of (by omega), fits_of (by omega), f2]
  simp [chk_true]
def pls (n : Nat) : List Int := (List.range n).map fun n => ((n : Nat) : Int)
theorem set_split {α : Type} {l : List α} {k : Nat} (h : k < l.length) : ∃ A B, l = A ++ l[k] :: B /\ ∀ y, l.set k y = A ++ y :: B :=
 ⟨l.take k, l.drop (k + 1), by rw [<- List.drop_eq_getElem_cons h, List.take_append_drop], fun y => by rw [List.set_eq_take_append_cons_drop, if_pos h]⟩
theorem mem_idsL {l : List DEntry} {n : Int} : memS (idsL l) n ↔ ∃ e ∈ l, memS e.2.2.1 n := by
 unfold memS idsL
 constructor
 ·rintro ⟨x, hx, h⟩
  obtain ⟨e, he, hx⟩ := List.mem_flatMap.1 hx
  exact ⟨e, he, x, hx, h⟩
 ·rintro ⟨e, he, x, hx, h⟩
  exact ⟨x, List.mem_flatMap.2 ⟨e, he, hx⟩, h⟩
theorem mem_join0 {l : List Sp} (h : ends l) (n : Int) : memS (joinS [] l) n ↔ memS l n := by
 rw [joinS_mem (show okF 0 ([] : List Sp) from trivial) h]
 exact ⟨fun h => h.elim (fun h => absurd h memS_nil) id, .inr⟩
def setSeat (h : DHouse) (k : Nat) (s : DSeat) : DHouse := (h.1, h.2.1, h.2.2.1, h.2.2.2.1.set k s, h.2.2.2.2)
theorem mem_tkL {l : List DSeat} {n : Int} : ∀ {m : Nat}, memS (tkL l m) n ↔ ∃ j, j < m /\ memS (l.getD j noS).2.2.1 (n - 100 * (j : Int))
 | 0 => ⟨fun h => absurd h memS_nil, fun ⟨j, hj, _⟩ => by omega⟩
 | m + 1 => by
  rw [tkL_succ, memS_append, mem_tkL]
  have hs : memS (shf (m : Int) (l.getD m noS).2.2.1) n ↔ memS (l.getD m noS).2.2.1 (n - 100 * (m : Int)) := by
   unfold memS shf
   constructor
   ·rintro ⟨x, hx, h1, h2⟩
    obtain ⟨y, hy, rfl⟩ := List.mem_map.1 hx
    exact ⟨y, hy, by simp only at h1; omega, by simp only at h2; omega⟩
   ·rintro ⟨y, hy, h1, h2⟩
    exact ⟨_, List.mem_map.2 ⟨y, hy, rfl⟩, by simp only; omega, by simp only; omega⟩
  rw [hs]
  constructor
  ·rintro (⟨j, hj, h⟩ | h)
   ·exact ⟨j, by omega, h⟩
   ·exact ⟨m, by omega, h⟩
  ·rintro ⟨j, hj, h⟩
   by_cases hjm : j = m
   ·subst hjm; exact .inr h
   ·exact .inl ⟨j, by omega, h⟩
theorem seatG_mem {s : DSeat} {m n : Int} (h : SeatG s m) (hn : memS s.2.2.1 n) : 1 <= n /\ n <= s.2.1 /\ n <= 60 := by
 obtain ⟨x, hx, h1, h2⟩ := hn
 obtain ⟨i, hi, rfl⟩ := List.getElem_of_mem hx
 have h3 := h.tk.2 i hi
 have h4 := h.gr
 omega
theorem allE_row {h : DHouse} {k c : Nat} (hk : k < h.2.2.2.2.1.length) (hc : c < h.2.2.2.2.1[k].length) : ∃ P Q, allE h = P ++ (h.2.2.2.2.1[k][c].1 ++ (Q ++ addL h)) /\ ∀ X : DRow, entRR (h.2.2.2.2.1.set k (h.2.2.2.2.1[k].set c X)) = P ++ (X.1 ++ Q) := by
 obtain ⟨A, B, h1, hA⟩ := set_split hk
 obtain ⟨C, D, g1, hC⟩ := set_split hc
 refine ⟨entRR A ++ entR C, entR D ++ entRR B, ?_, fun X => ?_⟩
 ·unfold allE
  have : entRR h.2.2.2.2.1 = entRR A ++ ((entR C ++ (h.2.2.2.2.1[k][c].1 ++ entR D)) ++ entRR B) := by
   conv => lhs; rw [h1]
   unfold entRR
   rw [List.flatMap_append, List.flatMap_cons]
   congr 2
   conv => lhs; rw [g1]
   unfold entR
   rw [List.flatMap_append, List.flatMap_cons]
  rw [this]
  simp only [List.append_assoc]
 ·have e1 : h.2.2.2.2.1.set k (h.2.2.2.2.1[k].set c X) = A ++ (C ++ X :: D) :: B := by rw [hA, hC]
  rw [e1]
  unfold entRR
  rw [List.flatMap_append, List.flatMap_cons]
  unfold entR
  rw [List.flatMap_append, List.flatMap_cons]
  simp only [List.append_assoc]
def setBoth (h : DHouse) (k c : Nat) (s : DSeat) (X : DRow) : DHouse := (h.1, h.2.1, h.2.2.1, h.2.2.2.1.set k s, h.2.2.2.2.1.set k ((h.2.2.2.2.1.getD k []).set c X), h.2.2.2.2.2)
theorem blk_pos {S : List Sp} {b n : Int} {m : Nat} (h : memS S n) (h0 : b <= n) (h1 : n < b + (m : Int)) : 1 <= blk S b m := by
 unfold blk
 have : 0 < (List.range m).countP fun (k : Nat) => hasB S (b + (k : Int)) := List.countP_pos_iff.2 ⟨(n - b).toNat, by rw [List.mem_range]; omega, by
  rw [show b + ((n - b).toNat : Int) = n by omega]
  exact has_memS.2 h⟩
 omega
theorem few_all {h : DHouse} (hH : HouseR h) : (allE h).length <= 180 := by
 have hE := hH.ap.all
 have en0 : ends (idsL (allE h)) := enR_ends fun e he => (hE e he).ids
 have en3 : ends (tkL h.2.2.2.1 3) := tkL_ends 3 (Nat.le_refl _) fun j hj => (hH.parts.seats j hj).seat
 have key : ∀ l : List DEntry, (∀ e ∈ l, e ∈ allE h) -> ((l.length : Nat) : Int) <= sumO l 0 + sumO l 1 + sumO l 2 := by
  intro l
  induction l with
  | nil => intro _; simp [sumO]
  | cons x l ih =>
   intro hl
   have ih := ih (fun e he => hl e (List.mem_cons_of_mem _ he))
   have hx := hE x (hl x (List.mem_cons_self ..))
   have hxo := good_ok.1 hx.ids
   have hone : 1 <= ofS x.2.2.1 0 + ofS x.2.2.1 1 + ofS x.2.2.1 2 := by
    obtain ⟨n, hn⟩ : ∃ n, memS x.2.2.1 n := by
     have hne := hx.some
     cases hs : x.2.2.1 with
     | nil => exact absurd hs hne
     | cons s t =>
      have := good_le hx.ids s (by rw [hs]; exact List.mem_cons_self ..)
      exact ⟨s.1, s, List.mem_cons_self .., Int.le_refl _, this⟩
    have hm : memS (tkL h.2.2.2.1 3) n := by
     rw [<- mem_join0 en3, <- hH.tk, mem_join0 en0]
     exact mem_idsL.2 ⟨x, hl x (List.mem_cons_self ..), hn⟩
    obtain ⟨j, hj, hjn⟩ := mem_tkL.1 hm
    have hg := seatG_mem (hH.parts.seats j hj).seat hjn
    have hb := blk_pos (b := 100 * (j : Int) + 1) (m := 60) hn (by omega) (by omega)
    have hbo := blk_of (j : Int) hxo
    have q0 := (ofS_le 0 x.2.2.1).1
    have q1 := (ofS_le 1 x.2.2.1).1
    have q2 := (ofS_le 2 x.2.2.1).1
    have : j = 0 \/ j = 1 \/ j = 2 := by omega
    rcases this with rfl | rfl | rfl
    ·have hbo : ((blk x.2.2.1 (100 * ((0 : Nat) : Int) + 1) 60 : Nat) : Int) = ofS x.2.2.1 0 := hbo
     omega
    ·have hbo : ((blk x.2.2.1 (100 * ((1 : Nat) : Int) + 1) 60 : Nat) : Int) = ofS x.2.2.1 1 := hbo
     omega
    ·have hbo : ((blk x.2.2.1 (100 * ((2 : Nat) : Int) + 1) 60 : Nat) : Int) = ofS x.2.2.1 2 := hbo
     omega
   unfold sumO at *
   simp only [List.map_cons, List.sum_cons, List.length_cons]
   push_cast
   omega
 have h0 := key (allE h) (fun e he => he)
 have b0 := blk_sum 0 hH.ap
 have b1 := blk_sum 1 hH.ap
 have b2 := blk_sum 2 hH.ap
 have l0 := blk_le (joinS [] (idsL (allE h))) (100 * 0 + 1) 60
 have l1 := blk_le (joinS [] (idsL (allE h))) (100 * 1 + 1) 60
 have l2 := blk_le (joinS [] (idsL (allE h))) (100 * 2 + 1) 60
 omega
theorem ins_added {e : DEntry} (he : EnR e) : ∀ {l : List DEntry}, (∀ x ∈ l, EnR x) -> upP l -> (∀ x ∈ l, apB x.2.2.1 e.2.2.1 = true) -> added l e = (ins e l, true)
 | [], _, _, _ => rfl
 | x :: l, hl, hu, ha => by
  have hx := hl x (by simp)
  obtain ⟨c1, c2⟩ := plc_cmp hx he
  have hal : aftP e x = decide (plc x > plc e) := by
   rw [aft_def, Bool.eq_iff_iff, Bool.or_eq_true, Bool.and_eq_true, decide_eq_true_eq, decide_eq_true_eq, decide_eq_true_eq, beq_iff_eq]
   exact c2.symm
  have hat : atP e.1 e.2.1 x = decide (plc x = plc e) := by
   rw [Bool.eq_iff_iff, atP_iff, decide_eq_true_eq]
   exact c1.symm
  by_cases h1 : plc x = plc e
  ·have e1 : (x :: l).findIdx? (atP e.1 e.2.1) = some 0 := by rw [List.findIdx?_cons, hat, decide_eq_true h1]; rfl
   unfold added ins
   rw [e1, if_pos h1]
   show (bif apB x.2.2.1 e.2.2.1 then (addE x e :: l, true) else (x :: l, false)) = _
   rw [ha x (by simp)]; rfl
  ·have hat' : atP e.1 e.2.1 x = false := by rw [hat, decide_eq_false h1]
   by_cases h2 : plc x < plc e
   ·have hal' : aftP e x = false := by rw [hal, decide_eq_false (by omega)]
    have ih := ins_added he (fun y hy => hl y (by simp [hy])) (List.pairwise_cons.1 hu).2 (fun y hy => ha y (by simp [hy]))
    unfold added at ih ⊢
    unfold ins
    rw [if_neg h1, if_pos h2, List.findIdx?_cons, hat']
    cases hk : l.findIdx? (atP e.1 e.2.1) with
    | some k =>
     rw [hk] at ih
     simp only [Bool.false_eq_true, if_false, Option.map_some, List.getD_cons_succ, List.set_cons_succ] at ih ⊢
     cases hap : apB (l.getD k e).2.2.1 e.2.2.1 with
     | false =>
      rw [hap] at ih
      have := congrArg Prod.snd ih
      cases this
     | true =>
      rw [hap] at ih
      simp only [cond_true, Prod.mk.injEq, and_true] at ih ⊢
      rw [ih]
    | none =>
     rw [hk] at ih
     simp only [Bool.false_eq_true, if_false, Option.map_none, Prod.mk.injEq, and_true] at ih ⊢
     rw [<- ih]
     unfold laid
     rw [List.findIdx?_cons, hal']
     cases l.findIdx? (aftP e) <;> rfl
   ·have h3 : plc x > plc e := by omega
    have hno : (x :: l).findIdx? (atP e.1 e.2.1) = none := by
     rw [List.findIdx?_eq_none_iff]
     intro y hy
     have hye : plc y > plc e := by
      rcases List.mem_cons.1 hy with rfl | hy
      ·exact h3
      ·have := (List.pairwise_cons.1 hu).1 y hy
       omega
     rw [Bool.eq_false_iff]
     intro hc
     have := (plc_cmp (hl y hy) he).1.2 (atP_iff.1 hc)
     omega
    have e1 : (x :: l).findIdx? (aftP e) = some 0 := by rw [List.findIdx?_cons, hal, decide_eq_true h3]; rfl
    unfold added ins laid
    rw [hno, if_neg h1, if_neg h2, e1]
    rfl
theorem ahead_plc {a b : DEntry} (ha : EnR a) (hb : EnR b) (h : aheadB a b = true) : plc a < plc b := by
 unfold aheadB at h
 rw [Bool.or_eq_true, Bool.and_eq_true, decide_eq_true_eq, decide_eq_true_eq, beq_iff_eq] at h
 have := (plc_cmp hb ha).2.2 (by rcases h with h | ⟨h1, h2⟩ <;> omega)
 omega
theorem root_up {h : DHouse} (hH : HouseR h) : (∀ x ∈ h.2.2.2.2.2.2.2.1, EnR x) /\ upP h.2.2.2.2.2.2.2.1 /\ h.2.2.2.2.2.2.2.1.length <= 180 := by
 have hE : ∀ x ∈ h.2.2.2.2.2.2.2.1, EnR x := fun x hx => hH.ap.all x (List.mem_append_right _ (List.mem_append_left _ hx))
 refine ⟨hE, ?_, ?_⟩
 ·unfold upP
  rw [List.pairwise_iff_getElem]
  intro i j hi hj hij
  have step : ∀ d, (hd : i + (d + 1) < h.2.2.2.2.2.2.2.1.length) -> plc h.2.2.2.2.2.2.2.1[i] < plc (h.2.2.2.2.2.2.2.1[i + (d + 1)]'hd) := by
   intro d
   induction d with
   | zero =>
    intro hd
    have this : aheadB (h.2.2.2.2.2.2.2.1.getD i nilE) (h.2.2.2.2.2.2.2.1.getD (i + (0 + 1)) nilE) = true := hH.order (i + 1) hd
    rw [getD_at hi, getD_at hd] at this
    exact ahead_plc (hE _ (List.getElem_mem hi)) (hE _ (List.getElem_mem hd)) this
   | succ d ih =>
    intro hd
    have hd0 : i + (d + 1) < h.2.2.2.2.2.2.2.1.length := by omega
    have h1 := ih hd0
    have this : aheadB (h.2.2.2.2.2.2.2.1.getD (i + (d + 1)) nilE) (h.2.2.2.2.2.2.2.1.getD (i + (d + 1) + 1) nilE) = true := hH.order (i + (d + 1) + 1) hd
    have hd1 : i + (d + 1) + 1 < h.2.2.2.2.2.2.2.1.length := hd
    rw [getD_at hd0, getD_at hd1] at this
    have h2 := ahead_plc (hE _ (List.getElem_mem hd0)) (hE _ (List.getElem_mem hd1)) this
    have h3 : plc (h.2.2.2.2.2.2.2.1[i + (d + 1 + 1)]'hd) = plc (h.2.2.2.2.2.2.2.1[i + (d + 1) + 1]'hd1) := rfl
    omega
  have := step (j - i - 1) (by omega)
  have hji : i + (j - i - 1 + 1) = j := by omega
  simp only [hji] at this
  exact this
 ·have := few_all hH
  unfold allE addL at this
  simp only [List.length_append] at this
  omega
theorem sum_set {α : Type} (f : α -> Nat) : ∀ (l : List α) (k : Nat) (y : α), ((l.set k y).map f).sum <= (l.map f).sum + f y
 | [], k, y => by simp
 | x :: l, 0, y => by simp only [List.set_cons_zero, List.map_cons, List.sum_cons]; omega
 | x :: l, k + 1, y => by
  have := sum_set f l k y
  simp only [List.set_cons_succ, List.map_cons, List.sum_cons]
  omega
theorem seatMerge_eq (a : DSeat) (n k : Int) (h : a.2.2.1.length <= 1048576) : ∃ r : DSeat × Bool, F.spec_SeatMerge a n k = some r /\ F.impl_SeatMerge a n k = some r /\ r.1.2.2.1 = a.2.2.1 := by
 obtain ⟨b, hs, hi, _⟩ := seatOk_same a n h
 obtain ⟨c, hs2, hi2, _⟩ := seatOk_same (a.1, a.2.1, a.2.2.1, w64 (a.2.2.2.1 + k), a.2.2.2.2) n h
 unfold F.spec_SeatMerge F.impl_SeatMerge
 simp only [l9Copy_eq _ h, copySeat_eq _ h, hs, hi, hs2, hi2, l1In_eq, within_eq, Option.bind_some]
 cases b with
 | false => exact ⟨_, rfl, rfl, rfl⟩
 | true => cases inR 0 60 k with
  | false => exact ⟨_, rfl, rfl, rfl⟩
  | true => cases c with
   | false => exact ⟨_, rfl, rfl, rfl⟩
   | true => exact ⟨_, rfl, rfl, rfl⟩
theorem step_same (h : DHouse) (hz : zHouse h <= 1048576) (hH : HouseR h) : ∃ r : DHouse × Bool, F.spec_l14Step h = some r /\ F.impl_MergeStep h = some r /\ zHouse r.1 <= 1099511627776 := by
 obtain ⟨r, e1, e2, hr⟩ := next_eq h hz hH
 unfold F.spec_l14Step F.impl_MergeStep
 rw [e1, e2]
 simp only [Option.bind_some]
 rcases hr with rfl | ⟨k, c, t, s, hN, rfl⟩
 ·simp only
  rw [show decide ((-1 : Int) < 0) = true from rfl, l12Copy_eq h hz]
  refine ⟨(h, false), rfl, rfl, ?_⟩
  simp only; omega
 have hP := hH.parts
 have hkr : k < h.2.2.2.2.1.length := by rw [hP.nr]; exact hN.hk
 have hks : k < h.2.2.2.1.length := by rw [hP.ns]; exact hN.hk
 obtain ⟨h2, h3⟩ := row_at hP hkr
 have hcr : c < h.2.2.2.2.1[k].length := by rw [h2]; exact hN.hc
 have hR := h3 _ (List.getElem_mem hcr)
 have hne := hN.row
 rw [getD_at hkr, getD_at hcr] at hne
 have zR := (zRowIn hz hkr).2 _ (List.getElem_mem hcr)
 obtain ⟨hre, hru, hrl⟩ := root_up hH
 have zr : zEntryS h.2.2.2.2.2.2.2.1 <= 1048576 := by unfold zHouse at hz; omega
 have zs := zSeatIn hz hks
 obtain ⟨P, Q, hPQ, _⟩ := allE_row hkr hcr
 have hap := hH.ap.ap
 rw [hPQ] at hap
 unfold turned
 simp only
 rw [show decide (((k : Nat) : Int) < 0) = false from decide_eq_false (by omega)]
 simp only [cond_false]
 rw [inb_nat hkr, Int.toNat_natCast, getD_at hkr, inb_nat hcr, Int.toNat_natCast, getD_at hcr, specPop_eq _ zR, implPop_eq _ zR]
 generalize hRR : h.2.2.2.2.1[k][c] = R at *
 obtain ⟨L, u⟩ := R
 cases L with
 | nil => simp at hne
 | cons x l =>
  have hx := hR.ok.all x (by simp)
  have zx := zEnR hx
  have hpo : popped (x :: l, u) = (x, (l, ()), true) := by unfold popped; rw [decB_pos hR]; rfl
  rw [hpo]
  simp only [chk_true, Option.bind_some]
  have hapx : ∀ y ∈ h.2.2.2.2.2.2.2.1, apB y.2.2.1 x.2.2.1 = true := by
   intro y hy
   have := (List.pairwise_append.1 (List.pairwise_append.1 hap).2.1).2.2
   exact this x (by simp) y (List.mem_append_right _ (List.mem_append_left _ hy))
  have e3 : F.spec_l14Root h.2.2.2.2.2.2.2.1 x = some (ins x h.2.2.2.2.2.2.2.1) := by
   unfold F.spec_l14Root
   rw [into_eq _ x (by omega) hre hx hru]; rfl
  have e4 : F.impl_RootAdd h.2.2.2.2.2.2.2.1 x = some (ins x h.2.2.2.2.2.2.2.1, true) := by
   rw [implRoot_eq _ x zr (by omega), decB_pos (show RootR h.2.2.2.2.2.2.2.1 x from ⟨hx, hre⟩)]
   simp only [cond_true]
   rw [ins_added hx hre hru hapx]
  obtain ⟨n, e5, e6⟩ := size_same x.2.2.1 (by have := okF_small (good_ok.1 hx.ids); omega)
  obtain ⟨q, e7, e8, hq⟩ := seatMerge_eq h.2.2.2.1[k] h.1.1 n zs
  obtain ⟨g, e9, e10, hg, _⟩ := seatGrant_same q.1 h.1.1 (by rw [hq]; exact zs)
  rw [e3, e4, inb_nat hks, e5, e6]
  simp only [chk_true, Option.bind_some]
  rw [getD_at hks, e7, e8]
  simp only [Option.bind_some]
  have hins : zEntryS (ins x h.2.2.2.2.2.2.2.1) <= 1000000 := by
   have h1 := added_ok (show RootR h.2.2.2.2.2.2.2.1 x from ⟨hx, hre⟩)
   rw [ins_added hx hre hru hapx] at h1
   have := zEnL _ h1.1
   have h2 := h1.2.1
   simp only at h2
   simp only at this
   omega
  have hzr : zRow ((l, ()) : DRow) <= 1048576 := by
   have : zRow ((x :: l, u) : DRow) = zEntryS (x :: l) := rfl
   have h1 := zEn_cons x l
   show zEntryS l <= _
   omega
  have b1 := sum_set zRow h.2.2.2.2.1[k] c (l, ())
  have b2 := sum_set zRowS h.2.2.2.2.1 k (h.2.2.2.2.1[k].set c (l, ()))
  have b3 := sum_set zTurn h.2.2.2.2.2.1 c t
  have b5 := sum_mem (f := zRowS) (List.getElem_mem hkr)
  have ht3 : zTurn t = 3 := by
   have := hN.turn
   unfold turnB at this
   simp only [Bool.and_eq_true, beq_iff_eq, len] at this
   show t.2.2.1.length = 3
   omega
  have hbound : ∀ X : DSeat, X.2.2.1 = h.2.2.2.1[k].2.2.1 -> zHouse ((h.1, h.2.1, h.2.2.1, h.2.2.2.1.set k X, h.2.2.2.2.1.set k (h.2.2.2.2.1[k].set c (l, ())), h.2.2.2.2.2.1.set c t, s, ins x h.2.2.2.2.2.2.2.1, h.2.2.2.2.2.2.2.2) : DHouse) <= 1099511627776 := by
   intro X hX
   have b4 := sum_set zSeat h.2.2.2.1 k X
   have hzX : zSeat X <= 1048576 := by
    show X.2.2.1.length <= _
    rw [hX]; exact zs
   unfold zHouse at hz ⊢
   simp only [zSeatS, zRowSS, zTurnS, List.length_set] at hz ⊢
   have b6 : zRowS (h.2.2.2.2.1[k].set c (l, ())) <= zRowS h.2.2.2.2.1[k] + 1048576 := by
    unfold zRowS
    rw [List.length_set]
    omega
   omega
  cases h.2.2.1 with
  | true => exact ⟨_, rfl, rfl, hbound q.1 hq⟩
  | false =>
   simp only [Bool.not_false, cond_true]
   rw [getD_set_self hks, e9, e10]
   simp only [Option.bind_some, List.set_set]
   exact ⟨_, rfl, rfl, hbound g (by rw [hg]; exact hq)⟩
theorem mergeStep_same (h : DHouse) (hz : zHouse h <= 1048576) : ∃ r : DHouse × Bool, F.spec_MergeStep h = some r /\ F.impl_MergeStep h = some r /\ zHouse r.1 <= 1099511627776 := by
 by_cases hH : HouseR h
 ·obtain ⟨r, e1, e2, e3⟩ := step_same h hz hH
  refine ⟨r, ?_, e2, e3⟩
  unfold F.spec_MergeStep
  rw [specHouse_dec h hz, decB_pos hH, e1]; rfl
 ·refine ⟨(h, false), ?_, ?_, by simp only; omega⟩
  ·unfold F.spec_MergeStep
   rw [specHouse_dec h hz, decB_neg hH, l12Copy_eq h hz]; rfl
  ·unfold F.impl_MergeStep F.impl_NextOf
   rw [implHouse_dec h hz, decB_neg hH, copyHouse_eq h hz]; rfl
def sIntS (l : List Int) : Prop := l.length <= 1099511627776
def cIntS (l : List Int) : Nat := l.length
theorem smIntS {a : List Int} (h : zIntS a <= 1099511627776) : sIntS a := h
theorem czIntS (a : List Int) : cIntS a <= 10 * zIntS a := by unfold cIntS zIntS; omega
def sConf (a : DConf) : Prop := sIntS a.2.2.2.1
def cConf (a : DConf) : Nat := cIntS a.2.2.2.1
theorem smConf {a : DConf} (h : zConf a <= 1099511627776) : sConf a := by
 unfold zConf at h
 exact smIntS (by omega)
theorem czConf (a : DConf) : cConf a <= 10 * zConf a := by
 unfold cConf zConf
 have h0 := czIntS a.2.2.2.1
 omega
def sSpanS (l : List DSpan) : Prop := l.length <= 1099511627776 /\ ∀ x ∈ l, True
def kSpan (a : DSpan) : Nat := 2
def cSpanS (l : List DSpan) : Nat := (l.map kSpan).sum
theorem smSpanS {a : List DSpan} (h : zSpanS a <= 1099511627776) : sSpanS a := ⟨h, fun _ _ => trivial⟩
theorem czSpanS (a : List DSpan) : cSpanS a <= 10 * zSpanS a := by
 unfold cSpanS zSpanS
 have := sum_le (f := kSpan) (g := fun _ => 0) (n := 2) (l := a) (fun x _ => by unfold kSpan; omega)
 have e : (a.map fun _ => 0).sum = 0 := by
  clear this
  induction a with
  | nil => rfl
  | cons x l ih => simp only [List.map_cons, List.sum_cons, ih]
 rw [e] at this
 omega
def sSeatS (l : List DSeat) : Prop := l.length <= 1099511627776 /\ ∀ x ∈ l, sSpanS x.2.2.1
def kSeat (a : DSeat) : Nat := 4 + cSpanS a.2.2.1
def cSeatS (l : List DSeat) : Nat := (l.map kSeat).sum
theorem smSeatS {a : List DSeat} (h : zSeatS a <= 1099511627776) : sSeatS a := by
 unfold zSeatS at h
 refine ⟨by omega, fun x hm => ?_⟩
 have hx : zSeat x <= 1099511627776 := by have := sum_mem (f := zSeat) hm; omega
 unfold zSeat at hx
 exact smSpanS (by omega)
theorem czSeatS (a : List DSeat) : cSeatS a <= 10 * zSeatS a := by
 unfold cSeatS zSeatS
 have := sum_le (f := kSeat) (g := zSeat) (n := 4) (l := a) (fun x _ => by
  unfold kSeat zSeat
  have h0 := czSpanS x.2.2.1
  omega)
 omega
def sIntSS (l : List (List Int)) : Prop := l.length <= 1099511627776 /\ ∀ x ∈ l, sIntS x
def cIntSS (l : List (List Int)) : Nat := (l.map cIntS).sum
theorem smIntSS {a : List (List Int)} (h : zIntSS a <= 1099511627776) : sIntSS a := by
 unfold zIntSS at h
 exact ⟨by omega, fun x hm => smIntS (by have := sum_mem (f := zIntS) hm; omega)⟩
theorem czIntSS (a : List (List Int)) : cIntSS a <= 10 * zIntSS a := by
 unfold cIntSS zIntSS
 have := sum_le (f := cIntS) (g := zIntS) (n := 0) (l := a) (fun x _ => by have := czIntS x; omega)
 omega
def sEntryS (l : List DEntry) : Prop := l.length <= 1099511627776 /\ ∀ x ∈ l, sSpanS x.2.2.1 /\ sIntS x.2.2.2.1.2.2.2.2.1 /\ sIntS x.2.2.2.1.2.2.2.2.2.1 /\ sIntSS x.2.2.2.1.2.2.2.2.2.2.1
def kEntry (a : DEntry) : Nat := 6 + cSpanS a.2.2.1 + cIntS a.2.2.2.1.2.2.2.2.1 + cIntS a.2.2.2.1.2.2.2.2.2.1 + cIntSS a.2.2.2.1.2.2.2.2.2.2.1
def cEntryS (l : List DEntry) : Nat := (l.map kEntry).sum
theorem smEntryS {a : List DEntry} (h : zEntryS a <= 1099511627776) : sEntryS a := by
 unfold zEntryS at h
 refine ⟨by omega, fun x hm => ?_⟩
 have hx : zEntry x <= 1099511627776 := by have := sum_mem (f := zEntry) hm; omega
 unfold zEntry zSketch at hx
 exact ⟨smSpanS (by omega), smIntS (by omega), smIntS (by omega), smIntSS (by omega)⟩
theorem czEntryS (a : List DEntry) : cEntryS a <= 10 * zEntryS a := by
 unfold cEntryS zEntryS
 have := sum_le (f := kEntry) (g := zEntry) (n := 6) (l := a) (fun x _ => by
  unfold kEntry zEntry zSketch
  have h0 := czSpanS x.2.2.1
  have h1 := czIntS x.2.2.2.1.2.2.2.2.1
  have h2 := czIntS x.2.2.2.1.2.2.2.2.2.1
  have h3 := czIntSS x.2.2.2.1.2.2.2.2.2.2.1
  omega)
 omega
def sRowS (l : List DRow) : Prop := l.length <= 1099511627776 /\ ∀ x ∈ l, sEntryS x.1
def kRow (a : DRow) : Nat := cEntryS a.1
def cRowS (l : List DRow) : Nat := (l.map kRow).sum
theorem smRowS {a : List DRow} (h : zRowS a <= 1099511627776) : sRowS a := by
 unfold zRowS at h
 refine ⟨by omega, fun x hm => ?_⟩
 have hx : zRow x <= 1099511627776 := by have := sum_mem (f := zRow) hm; omega
 unfold zRow at hx
 exact smEntryS (by omega)
theorem czRowS (a : List DRow) : cRowS a <= 10 * zRowS a := by
 unfold cRowS zRowS
 have := sum_le (f := kRow) (g := zRow) (n := 0) (l := a) (fun x _ => by
  unfold kRow zRow
  have h0 := czEntryS x.1
  omega)
 omega
def sRowSS (l : List (List DRow)) : Prop := l.length <= 1099511627776 /\ ∀ x ∈ l, sRowS x
def cRowSS (l : List (List DRow)) : Nat := (l.map cRowS).sum
theorem smRowSS {a : List (List DRow)} (h : zRowSS a <= 1099511627776) : sRowSS a := by
 unfold zRowSS at h
 exact ⟨by omega, fun x hm => smRowS (by have := sum_mem (f := zRowS) hm; omega)⟩
theorem czRowSS (a : List (List DRow)) : cRowSS a <= 10 * zRowSS a := by
 unfold cRowSS zRowSS
 have := sum_le (f := cRowS) (g := zRowS) (n := 0) (l := a) (fun x _ => by have := czRowS x; omega)
 omega
def sTurnS (l : List DTurn) : Prop := l.length <= 1099511627776 /\ ∀ x ∈ l, sIntS x.2.2.1
def kTurn (a : DTurn) : Nat := 2 + cIntS a.2.2.1
def cTurnS (l : List DTurn) : Nat := (l.map kTurn).sum
theorem smTurnS {a : List DTurn} (h : zTurnS a <= 1099511627776) : sTurnS a := by
 unfold zTurnS at h
 refine ⟨by omega, fun x hm => ?_⟩
 have hx : zTurn x <= 1099511627776 := by have := sum_mem (f := zTurn) hm; omega
 unfold zTurn at hx
 exact smIntS (by omega)
theorem czTurnS (a : List DTurn) : cTurnS a <= 10 * zTurnS a := by
 unfold cTurnS zTurnS
 have := sum_le (f := kTurn) (g := zTurn) (n := 2) (l := a) (fun x _ => by
  unfold kTurn zTurn
  have h0 := czIntS x.2.2.1
  omega)
 omega
def sOutS (l : List DOut) : Prop := l.length <= 1099511627776 /\ ∀ x ∈ l, sSpanS x.2.1.2.2.1 /\ sIntS x.2.1.2.2.2.1.2.2.2.2.1 /\ sIntS x.2.1.2.2.2.1.2.2.2.2.2.1 /\ sIntSS x.2.1.2.2.2.1.2.2.2.2.2.2.1
def kOut (a : DOut) : Nat := 7 + cSpanS a.2.1.2.2.1 + cIntS a.2.1.2.2.2.1.2.2.2.2.1 + cIntS a.2.1.2.2.2.1.2.2.2.2.2.1 + cIntSS a.2.1.2.2.2.1.2.2.2.2.2.2.1
def cOutS (l : List DOut) : Nat := (l.map kOut).sum
theorem smOutS {a : List DOut} (h : zOutS a <= 1099511627776) : sOutS a := by
 unfold zOutS at h
 refine ⟨by omega, fun x hm => ?_⟩
 have hx : zOut x <= 1099511627776 := by have := sum_mem (f := zOut) hm; omega
 unfold zOut zEntry zSketch at hx
 exact ⟨smSpanS (by omega), smIntS (by omega), smIntS (by omega), smIntSS (by omega)⟩
theorem czOutS (a : List DOut) : cOutS a <= 10 * zOutS a := by
 unfold cOutS zOutS
 have := sum_le (f := kOut) (g := zOut) (n := 7) (l := a) (fun x _ => by
  unfold kOut zOut zEntry zSketch
  have h0 := czSpanS x.2.1.2.2.1
  have h1 := czIntS x.2.1.2.2.2.1.2.2.2.2.1
  have h2 := czIntS x.2.1.2.2.2.1.2.2.2.2.2.1
  have h3 := czIntSS x.2.1.2.2.2.1.2.2.2.2.2.2.1
  omega)
 omega
def sHouse (a : DHouse) : Prop := sConf a.1 /\ sSeatS a.2.2.2.1 /\ sRowSS a.2.2.2.2.1 /\ sTurnS a.2.2.2.2.2.1 /\ sEntryS a.2.2.2.2.2.2.2.1 /\ sOutS a.2.2.2.2.2.2.2.2.1
def cHouse (a : DHouse) : Nat := cConf a.1 + cSeatS a.2.2.2.1 + cRowSS a.2.2.2.2.1 + cTurnS a.2.2.2.2.2.1 + cEntryS a.2.2.2.2.2.2.2.1 + cOutS a.2.2.2.2.2.2.2.2.1
theorem smHouse {a : DHouse} (h : zHouse a <= 1099511627776) : sHouse a := by
 unfold zHouse at h
 exact ⟨smConf (by omega), smSeatS (by omega), smRowSS (by omega), smTurnS (by omega), smEntryS (by omega), smOutS (by omega)⟩
theorem czHouse (a : DHouse) : cHouse a <= 10 * zHouse a := by
 unfold cHouse zHouse
 have h0 := czConf a.1
 have h1 := czSeatS a.2.2.2.1
 have h2 := czRowSS a.2.2.2.2.1
 have h3 := czTurnS a.2.2.2.2.2.1
 have h4 := czEntryS a.2.2.2.2.2.2.2.1
 have h5 := czOutS a.2.2.2.2.2.2.2.2.1
 omega
theorem maIntS (l : List Int) (k : Int) (hh : sIntS l) (h0 : 0 <= k) (h1 : k + (cIntS l : Int) <= 1000000000000000) : ∃ l', F.laws_markIntS l k = some (k + (cIntS l : Int), l') := by
 have h : l.length <= 1099511627776 := hh
 have hsum : (l.map fun _ => 1).sum = cIntS l := by
  unfold cIntS
  clear hh h h1
  induction l with
  | nil => rfl
  | cons x l ih => simp only [List.map_cons, List.sum_cons, ih, List.length_cons]; omega
 obtain ⟨l', g1⟩ := loop_mark1 (mstep := F.laws_markIntS.s2) 0 (fun _ => 1) 1000000000000000 l k h0 (by rw [hsum]; exact h1) (fun x hx k hk hB => by
  refine ⟨k, fun i m hi hl hx => ?_⟩
  ·unfold F.laws_markIntS.s2
   simp only
   rw [lt_len hi]
   simp only [cond_true, inb_nat hi, chk_true, Int.toNat_natCast, w64_nat (show i < 9223372036854775807 by omega), w64_id (x := k + 1) (by omega) (by omega)]
   rfl) (fun m k => by
  unfold F.laws_markIntS.s2
  simp only [ge_len, cond_false])
 rw [hsum] at g1
 refine ⟨l', ?_⟩
 unfold F.laws_markIntS
 simp only [g1, afterO]
theorem maConf (a : DConf) (k : Int) (hh : sConf a) (h0 : 0 <= k) (h1 : k + (cConf a : Int) <= 1000000000000000) : ∃ a', F.laws_markConf a k = some (k + (cConf a : Int), a') := by
 have hc : cConf a = cIntS a.2.2.2.1 := rfl
 unfold sConf at hh
 obtain ⟨l0, a0⟩ := maIntS a.2.2.2.1 (k) hh (by omega) (by omega)
 have ho : k + (cIntS a.2.2.2.1 : Int) = k + (cConf a : Int) := by omega
 refine ⟨_, by unfold F.laws_markConf; simp only [a0, Option.bind_some]; rw [ho]⟩
theorem maSpanS (l : List DSpan) (k : Int) (hh : sSpanS l) (h0 : 0 <= k) (h1 : k + (cSpanS l : Int) <= 1000000000000000) : ∃ l', F.laws_markSpanS l k = some (k + (cSpanS l : Int), l') := by
 obtain ⟨h, hs⟩ := hh
 obtain ⟨l', g1⟩ := loop_mark1 (mstep := F.laws_markSpanS.s2) (0, 0, ()) kSpan 1000000000000000 l k h0 h1 (fun x hx k hk hB => by
  have hc : kSpan x = 2 := rfl
  have ho : k + 1 + 1 = k + (kSpan x : Int) := by omega
  refine ⟨(k, k + 1, ()), fun i m hi hl hx => ?_⟩
  ·unfold F.laws_markSpanS.s2
   simp only
   rw [lt_len hi]
   simp only [cond_true, inb_nat hi, chk_true, Int.toNat_natCast, Option.bind_some, List.length_set, getD_set_self hi, hx, List.set_set, w64_nat (show i < 9223372036854775807 by omega), w64_id (x := k + 1) (by omega) (by omega), w64_id (x := k + 1 + 1) (by omega) (by omega)]
   rw [ho]) (fun m k => by
  unfold F.laws_markSpanS.s2
  simp only [ge_len, cond_false])
 refine ⟨l', ?_⟩
 unfold F.laws_markSpanS
 simp only [g1, afterO]; rfl
theorem maSeatS (l : List DSeat) (k : Int) (hh : sSeatS l) (h0 : 0 <= k) (h1 : k + (cSeatS l : Int) <= 1000000000000000) : ∃ l', F.laws_markSeatS l k = some (k + (cSeatS l : Int), l') := by
 obtain ⟨h, hs⟩ := hh
 obtain ⟨l', g1⟩ := loop_mark1 (mstep := F.laws_markSeatS.s2) (0, 0, ([] : List DSpan), 0, 0, ()) kSeat 1000000000000000 l k h0 h1 (fun x hx k hk hB => by
  have hc : kSeat x = 4 + cSpanS x.2.2.1 := rfl
  obtain ⟨l1, a1⟩ := maSpanS x.2.2.1 (k + 1 + 1) (hs x hx) (by omega) (by omega)
  have ho : k + 1 + 1 + (cSpanS x.2.2.1 : Int) + 1 + 1 = k + (kSeat x : Int) := by omega
  refine ⟨(k, k + 1, l1, k + 1 + 1 + (cSpanS x.2.2.1 : Int), k + 1 + 1 + (cSpanS x.2.2.1 : Int) + 1, ()), fun i m hi hl hx => ?_⟩
  ·unfold F.laws_markSeatS.s2
   simp only
   rw [lt_len hi]
   simp only [cond_true, inb_nat hi, chk_true, Int.toNat_natCast, Option.bind_some, List.length_set, getD_set_self hi, hx, List.set_set, w64_nat (show i < 9223372036854775807 by omega), w64_id (x := k + 1) (by omega) (by omega), w64_id (x := k + 1 + 1) (by omega) (by omega), w64_id (x := k + 1 + 1 + (cSpanS x.2.2.1 : Int) + 1) (by omega) (by omega), w64_id (x := k + 1 + 1 + (cSpanS x.2.2.1 : Int) + 1 + 1) (by omega) (by omega), a1]
   rw [ho]) (fun m k => by
  unfold F.laws_markSeatS.s2
  simp only [ge_len, cond_false])
 refine ⟨l', ?_⟩
 unfold F.laws_markSeatS
 simp only [g1, afterO]; rfl
theorem maIntSS (l : List (List Int)) (k : Int) (hh : sIntSS l) (h0 : 0 <= k) (h1 : k + (cIntSS l : Int) <= 1000000000000000) : ∃ l', F.laws_markIntSS l k = some (k + (cIntSS l : Int), l') := by
 obtain ⟨h, hs⟩ := hh
 obtain ⟨l', g1⟩ := loop_mark1 (mstep := F.laws_markIntSS.s2) ([] : List Int) cIntS 1000000000000000 l k h0 h1 (fun x hx k hk hB => by
  obtain ⟨x', a1⟩ := maIntS x k (hs x hx) hk hB
  refine ⟨x', fun i m hi hl hx => ?_⟩
  ·unfold F.laws_markIntSS.s2
   simp only
   rw [lt_len hi]
   simp only [cond_true, inb_nat hi, chk_true, Int.toNat_natCast, hx, a1, Option.bind_some, w64_nat (show i < 9223372036854775807 by omega)]) (fun m k => by
  unfold F.laws_markIntSS.s2
  simp only [ge_len, cond_false])
 refine ⟨l', ?_⟩
 unfold F.laws_markIntSS
 simp only [g1, afterO]; rfl
theorem maEntryS (l : List DEntry) (k : Int) (hh : sEntryS l) (h0 : 0 <= k) (h1 : k + (cEntryS l : Int) <= 1000000000000000) : ∃ l', F.laws_markEntryS l k = some (k + (cEntryS l : Int), l') := by
 obtain ⟨h, hs⟩ := hh
 obtain ⟨l', g1⟩ := loop_mark1 (mstep := F.laws_markEntryS.s2) (0, 0, ([] : List DSpan), (0, 0, 0, 0, ([] : List Int), ([] : List Int), ([] : List (List Int)), ()), ()) kEntry 1000000000000000 l k h0 h1 (fun x hx k hk hB => by
  have hc : kEntry x = 6 + cSpanS x.2.2.1 + cIntS x.2.2.2.1.2.2.2.2.1 + cIntS x.2.2.2.1.2.2.2.2.2.1 + cIntSS x.2.2.2.1.2.2.2.2.2.2.1 := rfl
  obtain ⟨l1, a1⟩ := maSpanS x.2.2.1 (k + 1 + 1) (hs x hx).1 (by omega) (by omega)
  obtain ⟨l2, a2⟩ := maIntS x.2.2.2.1.2.2.2.2.1 (k + 1 + 1 + (cSpanS x.2.2.1 : Int) + 1 + 1 + 1 + 1) (hs x hx).2.1 (by omega) (by omega)
  obtain ⟨l3, a3⟩ := maIntS x.2.2.2.1.2.2.2.2.2.1 (k + 1 + 1 + (cSpanS x.2.2.1 : Int) + 1 + 1 + 1 + 1 + (cIntS x.2.2.2.1.2.2.2.2.1 : Int)) (hs x hx).2.2.1 (by omega) (by omega)
  obtain ⟨l4, a4⟩ := maIntSS x.2.2.2.1.2.2.2.2.2.2.1 (k + 1 + 1 + (cSpanS x.2.2.1 : Int) + 1 + 1 + 1 + 1 + (cIntS x.2.2.2.1.2.2.2.2.1 : Int) + (cIntS x.2.2.2.1.2.2.2.2.2.1 : Int)) (hs x hx).2.2.2 (by omega) (by omega)
  have ho : k + 1 + 1 + (cSpanS x.2.2.1 : Int) + 1 + 1 + 1 + 1 + (cIntS x.2.2.2.1.2.2.2.2.1 : Int) + (cIntS x.2.2.2.1.2.2.2.2.2.1 : Int) + (cIntSS x.2.2.2.1.2.2.2.2.2.2.1 : Int) = k + (kEntry x : Int) := by omega
  refine ⟨(k, k + 1, l1, (k + 1 + 1 + (cSpanS x.2.2.1 : Int), k + 1 + 1 + (cSpanS x.2.2.1 : Int) + 1, k + 1 + 1 + (cSpanS x.2.2.1 : Int) + 1 + 1, k + 1 + 1 + (cSpanS x.2.2.1 : Int) + 1 + 1 + 1, l2, l3, l4, ()), ()), fun i m hi hl hx => ?_⟩
  ·unfold F.laws_markEntryS.s2
   simp only
   rw [lt_len hi]
   simp only [cond_true, inb_nat hi, chk_true, Int.toNat_natCast, Option.bind_some, List.length_set, getD_set_self hi, hx, List.set_set, w64_nat (show i < 9223372036854775807 by omega), w64_id (x := k + 1) (by omega) (by omega), w64_id (x := k + 1 + 1) (by omega) (by omega), w64_id (x := k + 1 + 1 + (cSpanS x.2.2.1 : Int) + 1) (by omega) (by omega), w64_id (x := k + 1 + 1 + (cSpanS x.2.2.1 : Int) + 1 + 1) (by omega) (by omega), w64_id (x := k + 1 + 1 + (cSpanS x.2.2.1 : Int) + 1 + 1 + 1) (by omega) (by omega), w64_id (x := k + 1 + 1 + (cSpanS x.2.2.1 : Int) + 1 + 1 + 1 + 1) (by omega) (by omega), a1, a2, a3, a4]
   rw [ho]) (fun m k => by
  unfold F.laws_markEntryS.s2
  simp only [ge_len, cond_false])
 refine ⟨l', ?_⟩
 unfold F.laws_markEntryS
 simp only [g1, afterO]; rfl
theorem maRowS (l : List DRow) (k : Int) (hh : sRowS l) (h0 : 0 <= k) (h1 : k + (cRowS l : Int) <= 1000000000000000) : ∃ l', F.laws_markRowS l k = some (k + (cRowS l : Int), l') := by
 obtain ⟨h, hs⟩ := hh
 obtain ⟨l', g1⟩ := loop_mark1 (mstep := F.laws_markRowS.s2) (([] : List DEntry), ()) kRow 1000000000000000 l k h0 h1 (fun x hx k hk hB => by
  have hc : kRow x = cEntryS x.1 := rfl
  obtain ⟨l1, a1⟩ := maEntryS x.1 (k) (hs x hx) (by omega) (by omega)
  have ho : k + (cEntryS x.1 : Int) = k + (kRow x : Int) := by omega
  refine ⟨(l1, ()), fun i m hi hl hx => ?_⟩
  ·unfold F.laws_markRowS.s2
   simp only
   rw [lt_len hi]
   simp only [cond_true, inb_nat hi, chk_true, Int.toNat_natCast, Option.bind_some, List.length_set, getD_set_self hi, hx, List.set_set, w64_nat (show i < 9223372036854775807 by omega), a1]
   rw [ho]) (fun m k => by
  unfold F.laws_markRowS.s2
  simp only [ge_len, cond_false])
 refine ⟨l', ?_⟩
 unfold F.laws_markRowS
 simp only [g1, afterO]; rfl
theorem maRowSS (l : List (List DRow)) (k : Int) (hh : sRowSS l) (h0 : 0 <= k) (h1 : k + (cRowSS l : Int) <= 1000000000000000) : ∃ l', F.laws_markRowSS l k = some (k + (cRowSS l : Int), l') := by
 obtain ⟨h, hs⟩ := hh
 obtain ⟨l', g1⟩ := loop_mark1 (mstep := F.laws_markRowSS.s2) ([] : List DRow) cRowS 1000000000000000 l k h0 h1 (fun x hx k hk hB => by
  obtain ⟨x', a1⟩ := maRowS x k (hs x hx) hk hB
  refine ⟨x', fun i m hi hl hx => ?_⟩
  ·unfold F.laws_markRowSS.s2
   simp only
   rw [lt_len hi]
   simp only [cond_true, inb_nat hi, chk_true, Int.toNat_natCast, hx, a1, Option.bind_some, w64_nat (show i < 9223372036854775807 by omega)]) (fun m k => by
  unfold F.laws_markRowSS.s2
  simp only [ge_len, cond_false])
 refine ⟨l', ?_⟩
 unfold F.laws_markRowSS
 simp only [g1, afterO]; rfl
theorem maTurnS (l : List DTurn) (k : Int) (hh : sTurnS l) (h0 : 0 <= k) (h1 : k + (cTurnS l : Int) <= 1000000000000000) : ∃ l', F.laws_markTurnS l k = some (k + (cTurnS l : Int), l') := by
 obtain ⟨h, hs⟩ := hh
 obtain ⟨l', g1⟩ := loop_mark1 (mstep := F.laws_markTurnS.s2) (0, false, ([] : List Int), ()) kTurn 1000000000000000 l k h0 h1 (fun x hx k hk hB => by
  have hc : kTurn x = 2 + cIntS x.2.2.1 := rfl
  obtain ⟨l1, a1⟩ := maIntS x.2.2.1 (k + 1 + 1) (hs x hx) (by omega) (by omega)
  have ho : k + 1 + 1 + (cIntS x.2.2.1 : Int) = k + (kTurn x : Int) := by omega
  refine ⟨(k, Int.tmod (k + 1) 3 == 0, l1, ()), fun i m hi hl hx => ?_⟩
  ·unfold F.laws_markTurnS.s2
   simp only
   rw [lt_len hi]
   simp only [cond_true, inb_nat hi, chk_true, Int.toNat_natCast, Option.bind_some, List.length_set, getD_set_self hi, hx, List.set_set, w64_nat (show i < 9223372036854775807 by omega), w64_id (x := k + 1) (by omega) (by omega), w64_id (x := k + 1 + 1) (by omega) (by omega), a1]
   rw [ho]) (fun m k => by
  unfold F.laws_markTurnS.s2
  simp only [ge_len, cond_false])
 refine ⟨l', ?_⟩
 unfold F.laws_markTurnS
 simp only [g1, afterO]; rfl
theorem maOutS (l : List DOut) (k : Int) (hh : sOutS l) (h0 : 0 <= k) (h1 : k + (cOutS l : Int) <= 1000000000000000) : ∃ l', F.laws_markOutS l k = some (k + (cOutS l : Int), l') := by
 obtain ⟨h, hs⟩ := hh
 obtain ⟨l', g1⟩ := loop_mark1 (mstep := F.laws_markOutS.s2) (0, (0, 0, ([] : List DSpan), (0, 0, 0, 0, ([] : List Int), ([] : List Int), ([] : List (List Int)), ()), ()), ()) kOut 1000000000000000 l k h0 h1 (fun x hx k hk hB => by
  have hc : kOut x = 7 + cSpanS x.2.1.2.2.1 + cIntS x.2.1.2.2.2.1.2.2.2.2.1 + cIntS x.2.1.2.2.2.1.2.2.2.2.2.1 + cIntSS x.2.1.2.2.2.1.2.2.2.2.2.2.1 := rfl
  obtain ⟨l1, a1⟩ := maSpanS x.2.1.2.2.1 (k + 1 + 1 + 1) (hs x hx).1 (by omega) (by omega)
  obtain ⟨l2, a2⟩ := maIntS x.2.1.2.2.2.1.2.2.2.2.1 (k + 1 + 1 + 1 + (cSpanS x.2.1.2.2.1 : Int) + 1 + 1 + 1 + 1) (hs x hx).2.1 (by omega) (by omega)
  obtain ⟨l3, a3⟩ := maIntS x.2.1.2.2.2.1.2.2.2.2.2.1 (k + 1 + 1 + 1 + (cSpanS x.2.1.2.2.1 : Int) + 1 + 1 + 1 + 1 + (cIntS x.2.1.2.2.2.1.2.2.2.2.1 : Int)) (hs x hx).2.2.1 (by omega) (by omega)
  obtain ⟨l4, a4⟩ := maIntSS x.2.1.2.2.2.1.2.2.2.2.2.2.1 (k + 1 + 1 + 1 + (cSpanS x.2.1.2.2.1 : Int) + 1 + 1 + 1 + 1 + (cIntS x.2.1.2.2.2.1.2.2.2.2.1 : Int) + (cIntS x.2.1.2.2.2.1.2.2.2.2.2.1 : Int)) (hs x hx).2.2.2 (by omega) (by omega)
  have ho : k + 1 + 1 + 1 + (cSpanS x.2.1.2.2.1 : Int) + 1 + 1 + 1 + 1 + (cIntS x.2.1.2.2.2.1.2.2.2.2.1 : Int) + (cIntS x.2.1.2.2.2.1.2.2.2.2.2.1 : Int) + (cIntSS x.2.1.2.2.2.1.2.2.2.2.2.2.1 : Int) = k + (kOut x : Int) := by omega
  refine ⟨(k, (k + 1, k + 1 + 1, l1, (k + 1 + 1 + 1 + (cSpanS x.2.1.2.2.1 : Int), k + 1 + 1 + 1 + (cSpanS x.2.1.2.2.1 : Int) + 1, k + 1 + 1 + 1 + (cSpanS x.2.1.2.2.1 : Int) + 1 + 1, k + 1 + 1 + 1 + (cSpanS x.2.1.2.2.1 : Int) + 1 + 1 + 1, l2, l3, l4, ()), ()), ()), fun i m hi hl hx => ?_⟩
  ·unfold F.laws_markOutS.s2
   simp only
   rw [lt_len hi]
   simp only [cond_true, inb_nat hi, chk_true, Int.toNat_natCast, Option.bind_some, List.length_set, getD_set_self hi, hx, List.set_set, w64_nat (show i < 9223372036854775807 by omega), w64_id (x := k + 1) (by omega) (by omega), w64_id (x := k + 1 + 1) (by omega) (by omega), w64_id (x := k + 1 + 1 + 1) (by omega) (by omega), w64_id (x := k + 1 + 1 + 1 + (cSpanS x.2.1.2.2.1 : Int) + 1) (by omega) (by omega), w64_id (x := k + 1 + 1 + 1 + (cSpanS x.2.1.2.2.1 : Int) + 1 + 1) (by omega) (by omega), w64_id (x := k + 1 + 1 + 1 + (cSpanS x.2.1.2.2.1 : Int) + 1 + 1 + 1) (by omega) (by omega), w64_id (x := k + 1 + 1 + 1 + (cSpanS x.2.1.2.2.1 : Int) + 1 + 1 + 1 + 1) (by omega) (by omega), a1, a2, a3, a4]
   rw [ho]) (fun m k => by
  unfold F.laws_markOutS.s2
  simp only [ge_len, cond_false])
 refine ⟨l', ?_⟩
 unfold F.laws_markOutS
 simp only [g1, afterO]; rfl
theorem maHouse (a : DHouse) (k : Int) (hh : sHouse a) (h0 : 0 <= k) (h1 : k + (cHouse a : Int) <= 1000000000000000) : ∃ a', F.laws_markHouse a k = some (k + (cHouse a : Int), a') := by
 have hc : cHouse a = cConf a.1 + cSeatS a.2.2.2.1 + cRowSS a.2.2.2.2.1 + cTurnS a.2.2.2.2.2.1 + cEntryS a.2.2.2.2.2.2.2.1 + cOutS a.2.2.2.2.2.2.2.2.1 := rfl
 unfold sHouse at hh
 obtain ⟨l0, a0⟩ := maConf a.1 (k) hh.1 (by omega) (by omega)
 obtain ⟨l1, a1⟩ := maSeatS a.2.2.2.1 (k + (cConf a.1 : Int)) hh.2.1 (by omega) (by omega)
 obtain ⟨l2, a2⟩ := maRowSS a.2.2.2.2.1 (k + (cConf a.1 : Int) + (cSeatS a.2.2.2.1 : Int)) hh.2.2.1 (by omega) (by omega)
 obtain ⟨l3, a3⟩ := maTurnS a.2.2.2.2.2.1 (k + (cConf a.1 : Int) + (cSeatS a.2.2.2.1 : Int) + (cRowSS a.2.2.2.2.1 : Int)) hh.2.2.2.1 (by omega) (by omega)
 obtain ⟨l4, a4⟩ := maEntryS a.2.2.2.2.2.2.2.1 (k + (cConf a.1 : Int) + (cSeatS a.2.2.2.1 : Int) + (cRowSS a.2.2.2.2.1 : Int) + (cTurnS a.2.2.2.2.2.1 : Int)) hh.2.2.2.2.1 (by omega) (by omega)
 obtain ⟨l5, a5⟩ := maOutS a.2.2.2.2.2.2.2.2.1 (k + (cConf a.1 : Int) + (cSeatS a.2.2.2.1 : Int) + (cRowSS a.2.2.2.2.1 : Int) + (cTurnS a.2.2.2.2.2.1 : Int) + (cEntryS a.2.2.2.2.2.2.2.1 : Int)) hh.2.2.2.2.2 (by omega) (by omega)
 have ho : k + (cConf a.1 : Int) + (cSeatS a.2.2.2.1 : Int) + (cRowSS a.2.2.2.2.1 : Int) + (cTurnS a.2.2.2.2.2.1 : Int) + (cEntryS a.2.2.2.2.2.2.2.1 : Int) + (cOutS a.2.2.2.2.2.2.2.2.1 : Int) = k + (cHouse a : Int) := by omega
 refine ⟨_, by unfold F.laws_markHouse; simp only [a0, a1, a2, a3, a4, a5, Option.bind_some]; rw [ho]⟩
theorem mhIntS (l : List Int) (k : Int) (hh : sIntS l) (h0 : 0 <= k) (h1 : k + (cIntS l : Int) <= 1000000000000000) : ∃ l', F.laws_markIntS l k = some (k + (cIntS l : Int), l') /\ F.laws_heldIntS l' k = some (k + (cIntS l : Int)) := by
 have h : l.length <= 1099511627776 := hh
 have hsum : (l.map fun _ => 1).sum = cIntS l := by
  unfold cIntS
  clear hh h h1
  induction l with
  | nil => rfl
  | cons x l ih => simp only [List.map_cons, List.sum_cons, ih, List.length_cons]; omega
 obtain ⟨l', g1, g2⟩ := loop_mark (mstep := F.laws_markIntS.s2) (hstep := F.laws_heldIntS.s2) 0 (fun _ => 1) 1000000000000000 l k h0 (by rw [hsum]; exact h1) (fun x hx k hk hB => by
  refine ⟨k, fun i m hi hl hx => ?_, fun i m hi hl hx => ?_⟩
  ·unfold F.laws_markIntS.s2
   simp only
   rw [lt_len hi]
   simp only [cond_true, inb_nat hi, chk_true, Int.toNat_natCast, w64_nat (show i < 9223372036854775807 by omega), w64_id (x := k + 1) (by omega) (by omega)]
   rfl
  ·unfold F.laws_heldIntS.s2
   simp only
   rw [lt_len hi]
   simp only [cond_true, cond_false, inb_nat hi, chk_true, Int.toNat_natCast, hx, bne_self_eq_false, w64_nat (show i < 9223372036854775807 by omega), w64_id (x := k + 1) (by omega) (by omega)]
   rfl) (fun m k => by
  unfold F.laws_markIntS.s2
  simp only [ge_len, cond_false]) (fun m k => by
  unfold F.laws_heldIntS.s2
  simp only [ge_len, cond_false])
 rw [hsum] at g1 g2
 refine ⟨l', ?_, ?_⟩
 ·unfold F.laws_markIntS
  simp only [g1, afterO]
 ·unfold F.laws_heldIntS
  simp only [g2, afterO]
theorem mhConf (a : DConf) (k : Int) (hh : sConf a) (h0 : 0 <= k) (h1 : k + (cConf a : Int) <= 1000000000000000) : ∃ a', F.laws_markConf a k = some (k + (cConf a : Int), a') /\ F.laws_heldConf a' k = some (k + (cConf a : Int)) := by
 have hc : cConf a = cIntS a.2.2.2.1 := rfl
 unfold sConf at hh
 obtain ⟨l0, a0, b0⟩ := mhIntS a.2.2.2.1 (k) hh (by omega) (by omega)
 have ho : k + (cIntS a.2.2.2.1 : Int) = k + (cConf a : Int) := by omega
 refine ⟨_, by unfold F.laws_markConf; simp only [a0, Option.bind_some]; rw [ho], ?_⟩
 unfold F.laws_heldConf
 simp only [b0, show decide (k + (cIntS a.2.2.2.1 : Int) < 0) = false from decide_eq_false (by omega), Option.bind_some, cond_false]
 rw [ho]
theorem mhSpanS (l : List DSpan) (k : Int) (hh : sSpanS l) (h0 : 0 <= k) (h1 : k + (cSpanS l : Int) <= 1000000000000000) : ∃ l', F.laws_markSpanS l k = some (k + (cSpanS l : Int), l') /\ F.laws_heldSpanS l' k = some (k + (cSpanS l : Int)) := by
 obtain ⟨h, hs⟩ := hh
 obtain ⟨l', g1, g2⟩ := loop_mark (mstep := F.laws_markSpanS.s2) (hstep := F.laws_heldSpanS.s2) (0, 0, ()) kSpan 1000000000000000 l k h0 h1 (fun x hx k hk hB => by
  have hc : kSpan x = 2 := rfl
  have ho : k + 1 + 1 = k + (kSpan x : Int) := by omega
  refine ⟨(k, k + 1, ()), fun i m hi hl hx => ?_, fun i m hi hl hx => ?_⟩
  ·unfold F.laws_markSpanS.s2
   simp only
   rw [lt_len hi]
   simp only [cond_true, inb_nat hi, chk_true, Int.toNat_natCast, Option.bind_some, List.length_set, getD_set_self hi, hx, List.set_set, w64_nat (show i < 9223372036854775807 by omega), w64_id (x := k + 1) (by omega) (by omega), w64_id (x := k + 1 + 1) (by omega) (by omega)]
   rw [ho]
  ·unfold F.laws_heldSpanS.s2
   simp only
   rw [lt_len hi]
   simp only [cond_true, cond_false, inb_nat hi, chk_true, Int.toNat_natCast, Option.bind_some, hx, bne_self_eq_false, beq_self_eq_true, Bool.not_true, w64_nat (show i < 9223372036854775807 by omega), w64_id (x := k + 1) (by omega) (by omega), w64_id (x := k + 1 + 1) (by omega) (by omega)]
   rw [ho]) (fun m k => by
  unfold F.laws_markSpanS.s2
  simp only [ge_len, cond_false]) (fun m k => by
  unfold F.laws_heldSpanS.s2
  simp only [ge_len, cond_false])
 refine ⟨l', ?_, ?_⟩
 ·unfold F.laws_markSpanS
  simp only [g1, afterO]; rfl
 ·unfold F.laws_heldSpanS
  simp only [g2, afterO]; rfl
theorem mhSeatS (l : List DSeat) (k : Int) (hh : sSeatS l) (h0 : 0 <= k) (h1 : k + (cSeatS l : Int) <= 1000000000000000) : ∃ l', F.laws_markSeatS l k = some (k + (cSeatS l : Int), l') /\ F.laws_heldSeatS l' k = some (k + (cSeatS l : Int)) := by
 obtain ⟨h, hs⟩ := hh
 obtain ⟨l', g1, g2⟩ := loop_mark (mstep := F.laws_markSeatS.s2) (hstep := F.laws_heldSeatS.s2) (0, 0, ([] : List DSpan), 0, 0, ()) kSeat 1000000000000000 l k h0 h1 (fun x hx k hk hB => by
  have hc : kSeat x = 4 + cSpanS x.2.2.1 := rfl
  obtain ⟨l1, a1, b1⟩ := mhSpanS x.2.2.1 (k + 1 + 1) (hs x hx) (by omega) (by omega)
  have ho : k + 1 + 1 + (cSpanS x.2.2.1 : Int) + 1 + 1 = k + (kSeat x : Int) := by omega
  refine ⟨(k, k + 1, l1, k + 1 + 1 + (cSpanS x.2.2.1 : Int), k + 1 + 1 + (cSpanS x.2.2.1 : Int) + 1, ()), fun i m hi hl hx => ?_, fun i m hi hl hx => ?_⟩
  ·unfold F.laws_markSeatS.s2
   simp only
   rw [lt_len hi]
   simp only [cond_true, inb_nat hi, chk_true, Int.toNat_natCast, Option.bind_some, List.length_set, getD_set_self hi, hx, List.set_set, w64_nat (show i < 9223372036854775807 by omega), w64_id (x := k + 1) (by omega) (by omega), w64_id (x := k + 1 + 1) (by omega) (by omega), w64_id (x := k + 1 + 1 + (cSpanS x.2.2.1 : Int) + 1) (by omega) (by omega), w64_id (x := k + 1 + 1 + (cSpanS x.2.2.1 : Int) + 1 + 1) (by omega) (by omega), a1]
   rw [ho]
  ·unfold F.laws_heldSeatS.s2
   simp only
   rw [lt_len hi]
   simp only [cond_true, cond_false, inb_nat hi, chk_true, Int.toNat_natCast, Option.bind_some, hx, bne_self_eq_false, beq_self_eq_true, Bool.not_true, w64_nat (show i < 9223372036854775807 by omega), w64_id (x := k + 1) (by omega) (by omega), w64_id (x := k + 1 + 1) (by omega) (by omega), w64_id (x := k + 1 + 1 + (cSpanS x.2.2.1 : Int) + 1) (by omega) (by omega), w64_id (x := k + 1 + 1 + (cSpanS x.2.2.1 : Int) + 1 + 1) (by omega) (by omega), b1, show decide (k + 1 + 1 + (cSpanS x.2.2.1 : Int) < 0) = false from decide_eq_false (by omega)]
   rw [ho]) (fun m k => by
  unfold F.laws_markSeatS.s2
  simp only [ge_len, cond_false]) (fun m k => by
  unfold F.laws_heldSeatS.s2
  simp only [ge_len, cond_false])
 refine ⟨l', ?_, ?_⟩
 ·unfold F.laws_markSeatS
  simp only [g1, afterO]; rfl
 ·unfold F.laws_heldSeatS
  simp only [g2, afterO]; rfl
theorem mhIntSS (l : List (List Int)) (k : Int) (hh : sIntSS l) (h0 : 0 <= k) (h1 : k + (cIntSS l : Int) <= 1000000000000000) : ∃ l', F.laws_markIntSS l k = some (k + (cIntSS l : Int), l') /\ F.laws_heldIntSS l' k = some (k + (cIntSS l : Int)) := by
 obtain ⟨h, hs⟩ := hh
 obtain ⟨l', g1, g2⟩ := loop_mark (mstep := F.laws_markIntSS.s2) (hstep := F.laws_heldIntSS.s2) ([] : List Int) cIntS 1000000000000000 l k h0 h1 (fun x hx k hk hB => by
  obtain ⟨x', a1, b1⟩ := mhIntS x k (hs x hx) hk hB
  refine ⟨x', fun i m hi hl hx => ?_, fun i m hi hl hx => ?_⟩
  ·unfold F.laws_markIntSS.s2
   simp only
   rw [lt_len hi]
   simp only [cond_true, inb_nat hi, chk_true, Int.toNat_natCast, hx, a1, Option.bind_some, w64_nat (show i < 9223372036854775807 by omega)]
  ·unfold F.laws_heldIntSS.s2
   simp only
   rw [lt_len hi]
   simp only [cond_true, inb_nat hi, chk_true, Int.toNat_natCast, hx, b1, Option.bind_some, w64_nat (show i < 9223372036854775807 by omega), show decide (k + (cIntS x : Int) < 0) = false from decide_eq_false (by omega), cond_false]) (fun m k => by
  unfold F.laws_markIntSS.s2
  simp only [ge_len, cond_false]) (fun m k => by
  unfold F.laws_heldIntSS.s2
  simp only [ge_len, cond_false])
 refine ⟨l', ?_, ?_⟩
 ·unfold F.laws_markIntSS
  simp only [g1, afterO]; rfl
 ·unfold F.laws_heldIntSS
  simp only [g2, afterO]; rfl
theorem mhEntryS (l : List DEntry) (k : Int) (hh : sEntryS l) (h0 : 0 <= k) (h1 : k + (cEntryS l : Int) <= 1000000000000000) : ∃ l', F.laws_markEntryS l k = some (k + (cEntryS l : Int), l') /\ F.laws_heldEntryS l' k = some (k + (cEntryS l : Int)) := by
 obtain ⟨h, hs⟩ := hh
 obtain ⟨l', g1, g2⟩ := loop_mark (mstep := F.laws_markEntryS.s2) (hstep := F.laws_heldEntryS.s2) (0, 0, ([] : List DSpan), (0, 0, 0, 0, ([] : List Int), ([] : List Int), ([] : List (List Int)), ()), ()) kEntry 1000000000000000 l k h0 h1 (fun x hx k hk hB => by
  have hc : kEntry x = 6 + cSpanS x.2.2.1 + cIntS x.2.2.2.1.2.2.2.2.1 + cIntS x.2.2.2.1.2.2.2.2.2.1 + cIntSS x.2.2.2.1.2.2.2.2.2.2.1 := rfl
  obtain ⟨l1, a1, b1⟩ := mhSpanS x.2.2.1 (k + 1 + 1) (hs x hx).1 (by omega) (by omega)
  obtain ⟨l2, a2, b2⟩ := mhIntS x.2.2.2.1.2.2.2.2.1 (k + 1 + 1 + (cSpanS x.2.2.1 : Int) + 1 + 1 + 1 + 1) (hs x hx).2.1 (by omega) (by omega)
  obtain ⟨l3, a3, b3⟩ := mhIntS x.2.2.2.1.2.2.2.2.2.1 (k + 1 + 1 + (cSpanS x.2.2.1 : Int) + 1 + 1 + 1 + 1 + (cIntS x.2.2.2.1.2.2.2.2.1 : Int)) (hs x hx).2.2.1 (by omega) (by omega)
  obtain ⟨l4, a4, b4⟩ := mhIntSS x.2.2.2.1.2.2.2.2.2.2.1 (k + 1 + 1 + (cSpanS x.2.2.1 : Int) + 1 + 1 + 1 + 1 + (cIntS x.2.2.2.1.2.2.2.2.1 : Int) + (cIntS x.2.2.2.1.2.2.2.2.2.1 : Int)) (hs x hx).2.2.2 (by omega) (by omega)
  have ho : k + 1 + 1 + (cSpanS x.2.2.1 : Int) + 1 + 1 + 1 + 1 + (cIntS x.2.2.2.1.2.2.2.2.1 : Int) + (cIntS x.2.2.2.1.2.2.2.2.2.1 : Int) + (cIntSS x.2.2.2.1.2.2.2.2.2.2.1 : Int) = k + (kEntry x : Int) := by omega
  refine ⟨(k, k + 1, l1, (k + 1 + 1 + (cSpanS x.2.2.1 : Int), k + 1 + 1 + (cSpanS x.2.2.1 : Int) + 1, k + 1 + 1 + (cSpanS x.2.2.1 : Int) + 1 + 1, k + 1 + 1 + (cSpanS x.2.2.1 : Int) + 1 + 1 + 1, l2, l3, l4, ()), ()), fun i m hi hl hx => ?_, fun i m hi hl hx => ?_⟩
  ·unfold F.laws_markEntryS.s2
   simp only
   rw [lt_len hi]
   simp only [cond_true, inb_nat hi, chk_true, Int.toNat_natCast, Option.bind_some, List.length_set, getD_set_self hi, hx, List.set_set, w64_nat (show i < 9223372036854775807 by omega), w64_id (x := k + 1) (by omega) (by omega), w64_id (x := k + 1 + 1) (by omega) (by omega), w64_id (x := k + 1 + 1 + (cSpanS x.2.2.1 : Int) + 1) (by omega) (by omega), w64_id (x := k + 1 + 1 + (cSpanS x.2.2.1 : Int) + 1 + 1) (by omega) (by omega), w64_id (x := k + 1 + 1 + (cSpanS x.2.2.1 : Int) + 1 + 1 + 1) (by omega) (by omega), w64_id (x := k + 1 + 1 + (cSpanS x.2.2.1 : Int) + 1 + 1 + 1 + 1) (by omega) (by omega), a1, a2, a3, a4]
   rw [ho]
  ·unfold F.laws_heldEntryS.s2
   simp only
   rw [lt_len hi]
   simp only [cond_true, cond_false, inb_nat hi, chk_true, Int.toNat_natCast, Option.bind_some, hx, bne_self_eq_false, beq_self_eq_true, Bool.not_true, w64_nat (show i < 9223372036854775807 by omega), w64_id (x := k + 1) (by omega) (by omega), w64_id (x := k + 1 + 1) (by omega) (by omega), w64_id (x := k + 1 + 1 + (cSpanS x.2.2.1 : Int) + 1) (by omega) (by omega), w64_id (x := k + 1 + 1 + (cSpanS x.2.2.1 : Int) + 1 + 1) (by omega) (by omega), w64_id (x := k + 1 + 1 + (cSpanS x.2.2.1 : Int) + 1 + 1 + 1) (by omega) (by omega), w64_id (x := k + 1 + 1 + (cSpanS x.2.2.1 : Int) + 1 + 1 + 1 + 1) (by omega) (by omega), b1, show decide (k + 1 + 1 + (cSpanS x.2.2.1 : Int) < 0) = false from decide_eq_false (by omega), b2, show decide (k + 1 + 1 + (cSpanS x.2.2.1 : Int) + 1 + 1 + 1 + 1 + (cIntS x.2.2.2.1.2.2.2.2.1 : Int) < 0) = false from decide_eq_false (by omega), b3, show decide (k + 1 + 1 + (cSpanS x.2.2.1 : Int) + 1 + 1 + 1 + 1 + (cIntS x.2.2.2.1.2.2.2.2.1 : Int) + (cIntS x.2.2.2.1.2.2.2.2.2.1 : Int) < 0) = false from decide_eq_false (by omega), b4, show decide (k + 1 + 1 + (cSpanS x.2.2.1 : Int) + 1 + 1 + 1 + 1 + (cIntS x.2.2.2.1.2.2.2.2.1 : Int) + (cIntS x.2.2.2.1.2.2.2.2.2.1 : Int) + (cIntSS x.2.2.2.1.2.2.2.2.2.2.1 : Int) < 0) = false from decide_eq_false (by omega)]
   rw [ho]) (fun m k => by
  unfold F.laws_markEntryS.s2
  simp only [ge_len, cond_false]) (fun m k => by
  unfold F.laws_heldEntryS.s2
  simp only [ge_len, cond_false])
 refine ⟨l', ?_, ?_⟩
 ·unfold F.laws_markEntryS
  simp only [g1, afterO]; rfl
 ·unfold F.laws_heldEntryS
  simp only [g2, afterO]; rfl
theorem mhRowS (l : List DRow) (k : Int) (hh : sRowS l) (h0 : 0 <= k) (h1 : k + (cRowS l : Int) <= 1000000000000000) : ∃ l', F.laws_markRowS l k = some (k + (cRowS l : Int), l') /\ F.laws_heldRowS l' k = some (k + (cRowS l : Int)) := by
 obtain ⟨h, hs⟩ := hh
 obtain ⟨l', g1, g2⟩ := loop_mark (mstep := F.laws_markRowS.s2) (hstep := F.laws_heldRowS.s2) (([] : List DEntry), ()) kRow 1000000000000000 l k h0 h1 (fun x hx k hk hB => by
  have hc : kRow x = cEntryS x.1 := rfl
  obtain ⟨l1, a1, b1⟩ := mhEntryS x.1 (k) (hs x hx) (by omega) (by omega)
  have ho : k + (cEntryS x.1 : Int) = k + (kRow x : Int) := by omega
  refine ⟨(l1, ()), fun i m hi hl hx => ?_, fun i m hi hl hx => ?_⟩
  ·unfold F.laws_markRowS.s2
   simp only
   rw [lt_len hi]
   simp only [cond_true, inb_nat hi, chk_true, Int.toNat_natCast, Option.bind_some, List.length_set, getD_set_self hi, hx, List.set_set, w64_nat (show i < 9223372036854775807 by omega), a1]
   rw [ho]
  ·unfold F.laws_heldRowS.s2
   simp only
   rw [lt_len hi]
   simp only [cond_true, cond_false, inb_nat hi, chk_true, Int.toNat_natCast, Option.bind_some, hx, bne_self_eq_false, beq_self_eq_true, Bool.not_true, w64_nat (show i < 9223372036854775807 by omega), b1, show decide (k + (cEntryS x.1 : Int) < 0) = false from decide_eq_false (by omega)]
   rw [ho]) (fun m k => by
  unfold F.laws_markRowS.s2
  simp only [ge_len, cond_false]) (fun m k => by
  unfold F.laws_heldRowS.s2
  simp only [ge_len, cond_false])
 refine ⟨l', ?_, ?_⟩
 ·unfold F.laws_markRowS
  simp only [g1, afterO]; rfl
 ·unfold F.laws_heldRowS
  simp only [g2, afterO]; rfl
theorem mhRowSS (l : List (List DRow)) (k : Int) (hh : sRowSS l) (h0 : 0 <= k) (h1 : k + (cRowSS l : Int) <= 1000000000000000) : ∃ l', F.laws_markRowSS l k = some (k + (cRowSS l : Int), l') /\ F.laws_heldRowSS l' k = some (k + (cRowSS l : Int)) := by
 obtain ⟨h, hs⟩ := hh
 obtain ⟨l', g1, g2⟩ := loop_mark (mstep := F.laws_markRowSS.s2) (hstep := F.laws_heldRowSS.s2) ([] : List DRow) cRowS 1000000000000000 l k h0 h1 (fun x hx k hk hB => by
  obtain ⟨x', a1, b1⟩ := mhRowS x k (hs x hx) hk hB
  refine ⟨x', fun i m hi hl hx => ?_, fun i m hi hl hx => ?_⟩
  ·unfold F.laws_markRowSS.s2
   simp only
   rw [lt_len hi]
   simp only [cond_true, inb_nat hi, chk_true, Int.toNat_natCast, hx, a1, Option.bind_some, w64_nat (show i < 9223372036854775807 by omega)]
  ·unfold F.laws_heldRowSS.s2
   simp only
   rw [lt_len hi]
   simp only [cond_true, inb_nat hi, chk_true, Int.toNat_natCast, hx, b1, Option.bind_some, w64_nat (show i < 9223372036854775807 by omega), show decide (k + (cRowS x : Int) < 0) = false from decide_eq_false (by omega), cond_false]) (fun m k => by
  unfold F.laws_markRowSS.s2
  simp only [ge_len, cond_false]) (fun m k => by
  unfold F.laws_heldRowSS.s2
  simp only [ge_len, cond_false])
 refine ⟨l', ?_, ?_⟩
 ·unfold F.laws_markRowSS
  simp only [g1, afterO]; rfl
 ·unfold F.laws_heldRowSS
  simp only [g2, afterO]; rfl
theorem mhTurnS (l : List DTurn) (k : Int) (hh : sTurnS l) (h0 : 0 <= k) (h1 : k + (cTurnS l : Int) <= 1000000000000000) : ∃ l', F.laws_markTurnS l k = some (k + (cTurnS l : Int), l') /\ F.laws_heldTurnS l' k = some (k + (cTurnS l : Int)) := by
 obtain ⟨h, hs⟩ := hh
 obtain ⟨l', g1, g2⟩ := loop_mark (mstep := F.laws_markTurnS.s2) (hstep := F.laws_heldTurnS.s2) (0, false, ([] : List Int), ()) kTurn 1000000000000000 l k h0 h1 (fun x hx k hk hB => by
  have hc : kTurn x = 2 + cIntS x.2.2.1 := rfl
  obtain ⟨l1, a1, b1⟩ := mhIntS x.2.2.1 (k + 1 + 1) (hs x hx) (by omega) (by omega)
  have ho : k + 1 + 1 + (cIntS x.2.2.1 : Int) = k + (kTurn x : Int) := by omega
  refine ⟨(k, Int.tmod (k + 1) 3 == 0, l1, ()), fun i m hi hl hx => ?_, fun i m hi hl hx => ?_⟩
  ·unfold F.laws_markTurnS.s2
   simp only
   rw [lt_len hi]
   simp only [cond_true, inb_nat hi, chk_true, Int.toNat_natCast, Option.bind_some, List.length_set, getD_set_self hi, hx, List.set_set, w64_nat (show i < 9223372036854775807 by omega), w64_id (x := k + 1) (by omega) (by omega), w64_id (x := k + 1 + 1) (by omega) (by omega), a1]
   rw [ho]
  ·unfold F.laws_heldTurnS.s2
   simp only
   rw [lt_len hi]
   simp only [cond_true, cond_false, inb_nat hi, chk_true, Int.toNat_natCast, Option.bind_some, hx, bne_self_eq_false, beq_self_eq_true, Bool.not_true, w64_nat (show i < 9223372036854775807 by omega), w64_id (x := k + 1) (by omega) (by omega), w64_id (x := k + 1 + 1) (by omega) (by omega), b1, show decide (k + 1 + 1 + (cIntS x.2.2.1 : Int) < 0) = false from decide_eq_false (by omega)]
   rw [ho]) (fun m k => by
  unfold F.laws_markTurnS.s2
  simp only [ge_len, cond_false]) (fun m k => by
  unfold F.laws_heldTurnS.s2
  simp only [ge_len, cond_false])
 refine ⟨l', ?_, ?_⟩
 ·unfold F.laws_markTurnS
  simp only [g1, afterO]; rfl
 ·unfold F.laws_heldTurnS
  simp only [g2, afterO]; rfl
theorem mhOutS (l : List DOut) (k : Int) (hh : sOutS l) (h0 : 0 <= k) (h1 : k + (cOutS l : Int) <= 1000000000000000) : ∃ l', F.laws_markOutS l k = some (k + (cOutS l : Int), l') /\ F.laws_heldOutS l' k = some (k + (cOutS l : Int)) := by
 obtain ⟨h, hs⟩ := hh
 obtain ⟨l', g1, g2⟩ := loop_mark (mstep := F.laws_markOutS.s2) (hstep := F.laws_heldOutS.s2) (0, (0, 0, ([] : List DSpan), (0, 0, 0, 0, ([] : List Int), ([] : List Int), ([] : List (List Int)), ()), ()), ()) kOut 1000000000000000 l k h0 h1 (fun x hx k hk hB => by
  have hc : kOut x = 7 + cSpanS x.2.1.2.2.1 + cIntS x.2.1.2.2.2.1.2.2.2.2.1 + cIntS x.2.1.2.2.2.1.2.2.2.2.2.1 + cIntSS x.2.1.2.2.2.1.2.2.2.2.2.2.1 := rfl
  obtain ⟨l1, a1, b1⟩ := mhSpanS x.2.1.2.2.1 (k + 1 + 1 + 1) (hs x hx).1 (by omega) (by omega)
  obtain ⟨l2, a2, b2⟩ := mhIntS x.2.1.2.2.2.1.2.2.2.2.1 (k + 1 + 1 + 1 + (cSpanS x.2.1.2.2.1 : Int) + 1 + 1 + 1 + 1) (hs x hx).2.1 (by omega) (by omega)
  obtain ⟨l3, a3, b3⟩ := mhIntS x.2.1.2.2.2.1.2.2.2.2.2.1 (k + 1 + 1 + 1 + (cSpanS x.2.1.2.2.1 : Int) + 1 + 1 + 1 + 1 + (cIntS x.2.1.2.2.2.1.2.2.2.2.1 : Int)) (hs x hx).2.2.1 (by omega) (by omega)
  obtain ⟨l4, a4, b4⟩ := mhIntSS x.2.1.2.2.2.1.2.2.2.2.2.2.1 (k + 1 + 1 + 1 + (cSpanS x.2.1.2.2.1 : Int) + 1 + 1 + 1 + 1 + (cIntS x.2.1.2.2.2.1.2.2.2.2.1 : Int) + (cIntS x.2.1.2.2.2.1.2.2.2.2.2.1 : Int)) (hs x hx).2.2.2 (by omega) (by omega)
  have ho : k + 1 + 1 + 1 + (cSpanS x.2.1.2.2.1 : Int) + 1 + 1 + 1 + 1 + (cIntS x.2.1.2.2.2.1.2.2.2.2.1 : Int) + (cIntS x.2.1.2.2.2.1.2.2.2.2.2.1 : Int) + (cIntSS x.2.1.2.2.2.1.2.2.2.2.2.2.1 : Int) = k + (kOut x : Int) := by omega
  refine ⟨(k, (k + 1, k + 1 + 1, l1, (k + 1 + 1 + 1 + (cSpanS x.2.1.2.2.1 : Int), k + 1 + 1 + 1 + (cSpanS x.2.1.2.2.1 : Int) + 1, k + 1 + 1 + 1 + (cSpanS x.2.1.2.2.1 : Int) + 1 + 1, k + 1 + 1 + 1 + (cSpanS x.2.1.2.2.1 : Int) + 1 + 1 + 1, l2, l3, l4, ()), ()), ()), fun i m hi hl hx => ?_, fun i m hi hl hx => ?_⟩
  ·unfold F.laws_markOutS.s2
   simp only
   rw [lt_len hi]
   simp only [cond_true, inb_nat hi, chk_true, Int.toNat_natCast, Option.bind_some, List.length_set, getD_set_self hi, hx, List.set_set, w64_nat (show i < 9223372036854775807 by omega), w64_id (x := k + 1) (by omega) (by omega), w64_id (x := k + 1 + 1) (by omega) (by omega), w64_id (x := k + 1 + 1 + 1) (by omega) (by omega), w64_id (x := k + 1 + 1 + 1 + (cSpanS x.2.1.2.2.1 : Int) + 1) (by omega) (by omega), w64_id (x := k + 1 + 1 + 1 + (cSpanS x.2.1.2.2.1 : Int) + 1 + 1) (by omega) (by omega), w64_id (x := k + 1 + 1 + 1 + (cSpanS x.2.1.2.2.1 : Int) + 1 + 1 + 1) (by omega) (by omega), w64_id (x := k + 1 + 1 + 1 + (cSpanS x.2.1.2.2.1 : Int) + 1 + 1 + 1 + 1) (by omega) (by omega), a1, a2, a3, a4]
   rw [ho]
  ·unfold F.laws_heldOutS.s2
   simp only
   rw [lt_len hi]
   simp only [cond_true, cond_false, inb_nat hi, chk_true, Int.toNat_natCast, Option.bind_some, hx, bne_self_eq_false, beq_self_eq_true, Bool.not_true, w64_nat (show i < 9223372036854775807 by omega), w64_id (x := k + 1) (by omega) (by omega), w64_id (x := k + 1 + 1) (by omega) (by omega), w64_id (x := k + 1 + 1 + 1) (by omega) (by omega), w64_id (x := k + 1 + 1 + 1 + (cSpanS x.2.1.2.2.1 : Int) + 1) (by omega) (by omega), w64_id (x := k + 1 + 1 + 1 + (cSpanS x.2.1.2.2.1 : Int) + 1 + 1) (by omega) (by omega), w64_id (x := k + 1 + 1 + 1 + (cSpanS x.2.1.2.2.1 : Int) + 1 + 1 + 1) (by omega) (by omega), w64_id (x := k + 1 + 1 + 1 + (cSpanS x.2.1.2.2.1 : Int) + 1 + 1 + 1 + 1) (by omega) (by omega), b1, show decide (k + 1 + 1 + 1 + (cSpanS x.2.1.2.2.1 : Int) < 0) = false from decide_eq_false (by omega), b2, show decide (k + 1 + 1 + 1 + (cSpanS x.2.1.2.2.1 : Int) + 1 + 1 + 1 + 1 + (cIntS x.2.1.2.2.2.1.2.2.2.2.1 : Int) < 0) = false from decide_eq_false (by omega), b3, show decide (k + 1 + 1 + 1 + (cSpanS x.2.1.2.2.1 : Int) + 1 + 1 + 1 + 1 + (cIntS x.2.1.2.2.2.1.2.2.2.2.1 : Int) + (cIntS x.2.1.2.2.2.1.2.2.2.2.2.1 : Int) < 0) = false from decide_eq_false (by omega), b4, show decide (k + 1 + 1 + 1 + (cSpanS x.2.1.2.2.1 : Int) + 1 + 1 + 1 + 1 + (cIntS x.2.1.2.2.2.1.2.2.2.2.1 : Int) + (cIntS x.2.1.2.2.2.1.2.2.2.2.2.1 : Int) + (cIntSS x.2.1.2.2.2.1.2.2.2.2.2.2.1 : Int) < 0) = false from decide_eq_false (by omega)]
   rw [ho]) (fun m k => by
  unfold F.laws_markOutS.s2
  simp only [ge_len, cond_false]) (fun m k => by
  unfold F.laws_heldOutS.s2
  simp only [ge_len, cond_false])
 refine ⟨l', ?_, ?_⟩
 ·unfold F.laws_markOutS
  simp only [g1, afterO]; rfl
 ·unfold F.laws_heldOutS
  simp only [g2, afterO]; rfl
theorem mhHouse (a : DHouse) (k : Int) (hh : sHouse a) (h0 : 0 <= k) (h1 : k + (cHouse a : Int) <= 1000000000000000) : ∃ a', F.laws_markHouse a k = some (k + (cHouse a : Int), a') /\ F.laws_heldHouse a' k = some (k + (cHouse a : Int)) := by
 have hc : cHouse a = cConf a.1 + cSeatS a.2.2.2.1 + cRowSS a.2.2.2.2.1 + cTurnS a.2.2.2.2.2.1 + cEntryS a.2.2.2.2.2.2.2.1 + cOutS a.2.2.2.2.2.2.2.2.1 := rfl
 unfold sHouse at hh
 obtain ⟨l0, a0, b0⟩ := mhConf a.1 (k) hh.1 (by omega) (by omega)
 obtain ⟨l1, a1, b1⟩ := mhSeatS a.2.2.2.1 (k + (cConf a.1 : Int)) hh.2.1 (by omega) (by omega)
 obtain ⟨l2, a2, b2⟩ := mhRowSS a.2.2.2.2.1 (k + (cConf a.1 : Int) + (cSeatS a.2.2.2.1 : Int)) hh.2.2.1 (by omega) (by omega)
 obtain ⟨l3, a3, b3⟩ := mhTurnS a.2.2.2.2.2.1 (k + (cConf a.1 : Int) + (cSeatS a.2.2.2.1 : Int) + (cRowSS a.2.2.2.2.1 : Int)) hh.2.2.2.1 (by omega) (by omega)
 obtain ⟨l4, a4, b4⟩ := mhEntryS a.2.2.2.2.2.2.2.1 (k + (cConf a.1 : Int) + (cSeatS a.2.2.2.1 : Int) + (cRowSS a.2.2.2.2.1 : Int) + (cTurnS a.2.2.2.2.2.1 : Int)) hh.2.2.2.2.1 (by omega) (by omega)
 obtain ⟨l5, a5, b5⟩ := mhOutS a.2.2.2.2.2.2.2.2.1 (k + (cConf a.1 : Int) + (cSeatS a.2.2.2.1 : Int) + (cRowSS a.2.2.2.2.1 : Int) + (cTurnS a.2.2.2.2.2.1 : Int) + (cEntryS a.2.2.2.2.2.2.2.1 : Int)) hh.2.2.2.2.2 (by omega) (by omega)
 have ho : k + (cConf a.1 : Int) + (cSeatS a.2.2.2.1 : Int) + (cRowSS a.2.2.2.2.1 : Int) + (cTurnS a.2.2.2.2.2.1 : Int) + (cEntryS a.2.2.2.2.2.2.2.1 : Int) + (cOutS a.2.2.2.2.2.2.2.2.1 : Int) = k + (cHouse a : Int) := by omega
 refine ⟨_, by unfold F.laws_markHouse; simp only [a0, a1, a2, a3, a4, a5, Option.bind_some]; rw [ho], ?_⟩
 unfold F.laws_heldHouse
 simp only [b0, show decide (k + (cConf a.1 : Int) < 0) = false from decide_eq_false (by omega), b1, show decide (k + (cConf a.1 : Int) + (cSeatS a.2.2.2.1 : Int) < 0) = false from decide_eq_false (by omega), b2, show decide (k + (cConf a.1 : Int) + (cSeatS a.2.2.2.1 : Int) + (cRowSS a.2.2.2.2.1 : Int) < 0) = false from decide_eq_false (by omega), b3, show decide (k + (cConf a.1 : Int) + (cSeatS a.2.2.2.1 : Int) + (cRowSS a.2.2.2.2.1 : Int) + (cTurnS a.2.2.2.2.2.1 : Int) < 0) = false from decide_eq_false (by omega), b4, show decide (k + (cConf a.1 : Int) + (cSeatS a.2.2.2.1 : Int) + (cRowSS a.2.2.2.2.1 : Int) + (cTurnS a.2.2.2.2.2.1 : Int) + (cEntryS a.2.2.2.2.2.2.2.1 : Int) < 0) = false from decide_eq_false (by omega), b5, show decide (k + (cConf a.1 : Int) + (cSeatS a.2.2.2.1 : Int) + (cRowSS a.2.2.2.2.1 : Int) + (cTurnS a.2.2.2.2.2.1 : Int) + (cEntryS a.2.2.2.2.2.2.2.1 : Int) + (cOutS a.2.2.2.2.2.2.2.2.1 : Int) < 0) = false from decide_eq_false (by omega), Option.bind_some, cond_false]
 rw [ho]
theorem fnExactMergeStep_law (a : DHouse) (fa : fHouse a) : F.laws_FnExactMergeStep a = some true := by
 unfold F.laws_FnExactMergeStep
 rw [szHouse a (1048576) fa (by omega) (by omega)]
 by_cases ga : (zHouse a : Int) <= (1048576 : Int)
 case neg => rw [if_neg ga]; rfl
 rw [if_pos ga]
 simp only [Option.bind_some]
 rw [show decide ((1048576 : Int) - (zHouse a : Int) < 0) = false from decide_eq_false (by omega)]
 simp only [cond_false]
 obtain ⟨r, hs, hi, hz⟩ := mergeStep_same a (by omega)
 have qa := czHouse a
 obtain ⟨ma, a0⟩ := maHouse a (1) (smHouse (by omega)) (by omega) (by omega)
 have hz0 := hz
 have p0 := czHouse r.1
 obtain ⟨n0, b0, d0⟩ := mhHouse r.1 (1) (smHouse hz) (by omega) (by omega)
 simp only [hs, hi, Option.bind_some, bne_self_eq_false, beq_self_eq_true, Bool.not_true, cond_false, toHouse a (by omega), eqHouse a (by omega), eqHouse r.1 hz, a0, show decide ((1 : Int) + (cHouse a : Int) < 0) = false from decide_eq_false (by omega), b0, d0, show decide ((1 : Int) + (cHouse r.1 : Int) < 0) = false from decide_eq_false (by omega)]
end Go.Proofs.YtipaepbmdooekaaGreat.Vm
