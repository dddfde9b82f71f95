/- The law Picked, on the printed functions alone. -/
import Derived.Test.YtabjfkongckhaaaPurePickLaw
import Derived.Test.YtabjfkongckhaaaPDraw
namespace Go.Proofs.Ytabjfkongckhaaa.Vm
open Go Go.RowKit
set_option linter.unusedVariables false

theorem l11Turn_ok (s : DL1Cur) (hs : srcOk s) : ∃ t s', F.spec_l11Turn s = some (t, s') ∧ t.2.2.1.length ≤ 3 ∧ srcOk s' := by
  unfold F.spec_l11Turn
  obtain ⟨v1, s1, e1, _, _, c1⟩ := l1Below_ok s hs 3 (by omega) (by omega)
  obtain ⟨v2, s2, e2, c2⟩ := l1Once_ok s1 c1 2 (by omega) (by omega)
  obtain ⟨v3, s3, e3, _, _, c3⟩ := l1Below_ok s2 c2 30 (by omega) (by omega)
  obtain ⟨v4, s4, e4, _, _, c4⟩ := l1Below_ok s3 c3 30 (by omega) (by omega)
  obtain ⟨v5, s5, e5, _, _, c5⟩ := l1Below_ok s4 c4 30 (by omega) (by omega)
  obtain ⟨v6, s6, e6, _, _, c6⟩ := l1Below_ok s5 c5 14 (by omega) (by omega)
  obtain ⟨v7, s7, e7, _, c7⟩ := l1Pick_ok s6 c6 [-1, 3] (by simp) (by simp)
  obtain ⟨v8, s8, e8, _, c8⟩ := l1Pick_ok s6 c6 [-1, 1000, 1001] (by simp) (by simp)
  simp only [e1, e2, e3, e4, e5, e6, e7, e8, Option.bind_some]
  cases v6 == 0 with
  | true => exact ⟨_, _, rfl, by simp, c7⟩
  | false => cases v6 == 1 with
    | true => exact ⟨_, _, rfl, by simp, c8⟩
    | false => cases v6 == 2 with
      | true => exact ⟨_, _, rfl, by simp, c6⟩
      | false => exact ⟨_, _, rfl, by simp, c6⟩
theorem drawPick_loop (s : DL1Cur) (hs : srcOk s) (z t : T3) : ∃ a b n s', loopO F.spec_DrawPick.s6 ([], [], 0, z, s, t, ()) = some (.inl (a, b, n, z, s', t, ())) ∧ a.length = 3 ∧ b.length = 3 ∧ srcOk s' := by
  obtain ⟨y, h1, a, b, n, s', rfl, h2⟩ := loopO_rule (step := F.spec_DrawPick.s6) (fun x => 0 ≤ x.2.2.1 ∧ x.2.2.1 ≤ 3 ∧ (x.1.length : Int) = x.2.2.1 ∧ (x.2.1.length : Int) = x.2.2.1 ∧ x.2.2.2.1 = z ∧ x.2.2.2.2.2.1 = t ∧ srcOk x.2.2.2.2.1) (fun y => ∃ a b n s', y = .inl (a, b, n, z, s', t, ()) ∧ a.length = 3 ∧ b.length = 3 ∧ srcOk s')
    (fun x => 3 - x.2.2.1.toNat) (fun x hx => by
      obtain ⟨a, b, n, z', s, t', u⟩ := x
      obtain ⟨h1, h2, h3, h4, rfl, rfl, h5⟩ := hx
      simp only at *
      unfold F.spec_DrawPick.s6
      simp only
      by_cases hlt : n < 3
      · obtain ⟨v1, s1, e1, _, c1⟩ := l1Pick_ok s h5 [0, 6, 10, 25, 40, 12] (by simp) (by simp)
        obtain ⟨v2, s2, e2, _, _, c2⟩ := l1Below_ok s1 c1 4 (by omega) (by omega)
        rw [show decide (n < 3) = true from decide_eq_true hlt]
        simp only [cond_true, e1, e2, Option.bind_some]
        rw [fits_of (by simp; omega), fits_of (by simp; omega)]
        refine ⟨_, rfl, ⟨?_, ?_, ?_, ?_, rfl, rfl, c2⟩, ?_⟩
        all_goals simp only [w64_id (x := n + 1) (by omega) (by omega), List.length_append, List.length_cons, List.length_nil]
        all_goals omega
      · rw [show decide (n < 3) = false from decide_eq_false hlt]
        exact ⟨_, rfl, _, _, _, _, rfl, by omega, by omega, h5⟩) (x := ([], [], 0, z, s, t, ())) ⟨Int.le_refl 0, by simp, rfl, rfl, rfl, rfl, hs⟩
  exact ⟨a, b, n, s', h1, h2⟩
theorem drawPick_ok (a : List Int) (h : a.length ≤ 1048576) : ∃ x y q t, F.spec_DrawPick a = some (x, y, q, t) ∧ x.length = 3 ∧ y.length = 3 ∧ t.2.2.1.length ≤ 3 := by
  unfold F.spec_DrawPick
  obtain ⟨s, e0, c0⟩ := l1New_ok a h
  obtain ⟨t, s1, e1, ht, c1⟩ := l11Turn_ok s c0
  obtain ⟨x, y, n, s2, e2, hx, hy, c2⟩ := drawPick_loop s1 c1 (0, false, [], ()) t
  obtain ⟨v3, s3, e3, _, _, c3⟩ := l1Below_ok s2 c2 16 (by omega) (by omega)
  obtain ⟨v4, s4, e4, _, c4⟩ := l1Pick_ok s3 c3 [-1, 200, 201] (by simp) (by simp)
  obtain ⟨v5, s5, e5, _, c5⟩ := l1Pick_ok s4 c4 [1, 5, 20, 60, 20, 0, 61] (by simp) (by simp)
  obtain ⟨v6, s6, e6, _, c6⟩ := l1Pick_ok s3 c3 [0, 5] (by simp) (by simp)
  obtain ⟨v7, s7, e7, _, c7⟩ := l1Pick_ok s6 c6 [1, 5, 20, 60, 20, 0, 61] (by simp) (by simp)
  obtain ⟨v8, s8, e8, _, c8⟩ := l1Pick_ok s3 c3 [1, 5, 20, 60, 20, 0, 61] (by simp) (by simp)
  simp only [e0, e1, e2, Option.bind_some, afterO, e3, e4, e5, e6, e7, e8, hx, hy]
  cases v3 == 0 with
  | true => exact ⟨_, _, _, _, rfl, by simp [hx], hy, ht⟩
  | false => cases v3 == 1 with
    | true => exact ⟨_, _, _, _, rfl, hx, by simp [hy], ht⟩
    | false => exact ⟨_, _, _, _, rfl, hx, hy, ht⟩
theorem sameInts_eq (a : List Int) (h : a.length ≤ 1048576) : F.laws_sameInts a a = some true := by
  unfold F.laws_sameInts
  rw [show (len a != len a) = false by simp]
  have h := loop_eq (step := F.laws_sameInts.s4) a (fun i hi => by
    unfold F.laws_sameInts.s4
    simp only
    rw [lt_len hi, inb_nat hi, w64_nat (by omega), bne_self_eq_false]; rfl) (by
    unfold F.laws_sameInts.s4
    simp only [ge_len, cond_false])
  simp only [cond_false, h, afterO]
/-- Is some number above 0? -/
theorem some_loop (x b : List Int) (q k : Int) (t r : T3) (hx : x.length = 3) : loopO F.laws_FnPicked.s10 (x, b, q, k, false, 0, t, r, ()) = some (.inl (x, b, q, k, x.any (fun n => decide (n > 0)), 3, t, r, ())) := by
  obtain ⟨x0, x1, x2, rfl⟩ : ∃ x0 x1 x2, x = [x0, x1, x2] := by
    match x, hx with
    | [x0, x1, x2], _ => exact ⟨x0, x1, x2, rfl⟩
  refine loopO_of (n := 4) ?_
  cases h0 : decide (x0 > 0) <;> cases h1 : decide (x1 > 0) <;> cases h2 : decide (x2 > 0) <;> simp [iterO, F.laws_FnPicked.s10, h0, h1, h2, len, inb, chk, w64, IntKind.wrap, IntKind.bits, IntKind.signed]
theorem bad16 (a b : List Int) (f bad : Bool) (ha : a.length ≤ 1048576) : loopO F.laws_FnPicked.s16 (a, b, f, bad, 0, ()) = some (.inl (a, b, f, a.foldl (fun s x => s || (decide (x < 0) || decide (x > 200))) bad, (a.length : Int), ())) := by
  have h := loop_fold (step := F.laws_FnPicked.s16) a (fun i s => (a, b, f, s, (i : Int), ())) (fun s x => s || (decide (x < 0) || decide (x > 200))) (fun i s hi => by
    unfold F.laws_FnPicked.s16
    simp only
    rw [lt_len hi, inb_nat hi, w64_nat (by omega), Int.toNat_natCast, getD_at hi]
    cases s with
    | true => rfl
    | false => cases hd : decide (a[i] < 0) <;> simp [chk_true]) (fun s => by
    unfold F.laws_FnPicked.s16
    simp only [ge_len, cond_false]) bad
  exact h
theorem bad20 (b : List Int) (f bad : Bool) (hb : b.length ≤ 1048576) : loopO F.laws_FnPicked.s20 (b, f, bad, 0, ()) = some (.inl (b, f, b.foldl (fun s x => s || (decide (x < 1) || decide (x > 4))) bad, (b.length : Int), ())) := by
  have h := loop_fold (step := F.laws_FnPicked.s20) b (fun i s => (b, f, s, (i : Int), ())) (fun s x => s || (decide (x < 1) || decide (x > 4))) (fun i s hi => by
    unfold F.laws_FnPicked.s20
    simp only
    rw [lt_len hi, inb_nat hi, w64_nat (by omega), Int.toNat_natCast, getD_at hi]
    cases s with
    | true => rfl
    | false => cases hd : decide (b[i] < 1) <;> simp [chk_true]) (fun s => by
    unfold F.laws_FnPicked.s20
    simp only [ge_len, cond_false]) bad
  exact h
theorem fold_or {p : Int → Bool} : ∀ (l : List Int) (b : Bool), l.foldl (fun s x => s || p x) b = (b || l.any p)
  | [], b => by simp
  | x :: l, b => by rw [List.foldl_cons, fold_or l, List.any_cons, Bool.or_assoc]
theorem not_all_any {lo hi : Int} : ∀ {l : List Int}, l.all (inR lo hi) = false → l.any (fun x => decide (x < lo) || decide (x > hi)) = true
  | [], h => by cases h
  | x :: l, h => by
    rw [List.all_cons] at h
    rw [List.any_cons]
    cases hx : inR lo hi x with
    | true => rw [hx] at h; rw [not_all_any h]; simp
    | false =>
      have : (decide (x < lo) || decide (x > hi)) = true := by
        unfold inR at hx
        by_cases h1 : x < lo
        · simp [h1]
        · rw [show decide (x ≥ lo) = true from decide_eq_true (by omega), Bool.true_and] at hx
          have := of_decide_eq_false hx
          simp; omega
      rw [this]; rfl
theorem picked_law (code : List Int) : F.laws_FnPicked code = some true := by
  unfold F.laws_FnPicked F.laws_big
  by_cases hc : code.length ≤ 1048576
  · rw [show decide (len code > 1048576) = false from decide_eq_false (by simp [len]; omega)]
    obtain ⟨x, y, q, t, e0, hx, hy, ht⟩ := drawPick_ok code hc
    obtain ⟨r, hs, hi, hr⟩ := pick_same x y q t (by omega) (by omega) (by omega)
    have hrl : r.2.2.2.1.length ≤ 1048576 := by
      rcases hr with ⟨_, rfl⟩ | ⟨_, _, rfl⟩ | ⟨_, s0, s1, s2, m0, m1, m2, _, _, i, hi, l0, l1, l2, rfl, _⟩
      · simp only; omega
      · simp
      · simp
    simp only [Option.bind_some, cond_false, e0, hs, hi, bne_self_eq_false, beq_self_eq_true, Bool.not_true, sameInts_eq _ hrl, some_loop x y q r.1 t r.2 hx, afterO]
    have lx : (len x != 3) = false := by simp [len, hx]
    have ly : (len y != 3) = false := by simp [len, hy]
    rcases hr with ⟨h0, rfl⟩ | ⟨h0, hz, rfl⟩ | ⟨h0, s0, s1, s2, m0, m1, m2, rfl, htl, i, hi3, l0, l1, l2, rfl, hpos, b0, b1, b2, c0, c1, c2⟩
    · rw [show decide ((-1 : Int) < 0) = true from rfl]
      simp only [cond_true, lx, ly, cond_false, turnOk_spec t (by omega), Option.bind_some, bad16 x y _ _ (by omega), bad20 y _ _ (by omega), fold_or]
      unfold pickOk at h0
      have e3 : (len x == 3) = true := by simp [len, hx]
      have e4 : (len y == 3) = true := by simp [len, hy]
      rw [e3, e4, Bool.true_and, Bool.true_and] at h0
      cases h4 : (inR 0 2 t.1 && ((len t.2.2.1 == 3) && t.2.2.1.all (inR 0 1000))) with
      | false => simp
      | true =>
        rw [h4, Bool.and_true] at h0
        simp only [Bool.not_true, cond_false]
        by_cases q1 : q < 1
        · rw [show decide (q < 1) = true from decide_eq_true q1]; simp
        · rw [show decide (q < 1) = false from decide_eq_false q1]
          simp only [cond_false]
          by_cases q2 : q > 60
          · rw [show decide (q > 60) = true from decide_eq_true q2]; simp
          · have hq : inR 1 60 q = true := inR_bd.2 ⟨by omega, by omega⟩
            rw [hq, Bool.and_true] at h0
            rw [show decide (q > 60) = false from decide_eq_false q2, Bool.false_or]
            cases hxa : x.all (inR 0 200) with
            | false => rw [not_all_any hxa, Bool.true_or]; cases x.any fun n => decide (n > 0) <;> rfl
            | true =>
              rw [hxa, Bool.true_and] at h0
              rw [not_all_any h0, Bool.or_true]; cases x.any fun n => decide (n > 0) <;> rfl
    · have hn : x.any (fun n => decide (n > 0)) = false := by
        rw [List.any_eq_false]
        intro n hn
        have := List.all_eq_true.1 hz n hn
        simp only [beq_iff_eq] at this
        simp; omega
      rw [show decide ((-1 : Int) < 0) = true from rfl, hn]
      simp only [cond_true, lx, ly, cond_false, turnOk_spec t (by omega), Option.bind_some, bad16 x y _ _ (by omega), bad20 y _ _ (by omega), Bool.not_false]
      cases (inR 0 2 t.1 && ((len t.2.2.1 == 3) && t.2.2.1.all (inR 0 1000))) <;> cases decide (q < 1) <;> rfl
    · rw [show decide (((i : Nat) : Int) < 0) = false from decide_eq_false (by omega)]
      obtain ⟨at_, f, tl, u⟩ := t
      have htl : tl = [m0, m1, m2] := htl
      subst htl
      have hl : ∃ n, loopO F.laws_FnPicked.s25 ([s0, s1, s2], (i : Int), 0, (at_, f, [m0, m1, m2], u), ((i : Int), false, [l0, l1, l2], ()), ()) = some (.inl ([s0, s1, s2], (i : Int), n, (at_, f, [m0, m1, m2], u), ((i : Int), false, [l0, l1, l2], ()), ())) := by
        refine ⟨3, loop_run (step := F.laws_FnPicked.s25) (fun j => ([s0, s1, s2], (i : Int), (j : Int), (at_, f, [m0, m1, m2], u), ((i : Int), false, [l0, l1, l2], ()), ())) 3 (fun j hj => ?_) (l := .exit ([s0, s1, s2], (i : Int), 3, (at_, f, [m0, m1, m2], u), ((i : Int), false, [l0, l1, l2], ()), ())) rfl rfl⟩
        have key : ∀ (s m l : Int) (p : Bool), lessAt s m l → (bif s == 0 then (bif p then (bif decide (l > m) then some (Lp.ret false) else some (.again ([s0, s1, s2], (i : Int), ((j + 1 : Nat) : Int), (at_, f, [m0, m1, m2], u), ((i : Int), false, [l0, l1, l2], ()), ()))) else some (.again ([s0, s1, s2], (i : Int), ((j + 1 : Nat) : Int), (at_, f, [m0, m1, m2], u), ((i : Int), false, [l0, l1, l2], ()), ()))) else some (.again ([s0, s1, s2], (i : Int), ((j + 1 : Nat) : Int), (at_, f, [m0, m1, m2], u), ((i : Int), false, [l0, l1, l2], ()), ()))) = some (.again ([s0, s1, s2], (i : Int), ((j + 1 : Nat) : Int), (at_, f, [m0, m1, m2], u), ((i : Int), false, [l0, l1, l2], ()), ())) := by
          intro s m l p h
          cases hz : (s == 0) with
          | false => rfl
          | true =>
            have := h (by simpa using hz)
            rw [show decide (l > m) = false from decide_eq_false (by omega)]
            cases p <;> rfl
        have hj' : j = 0 ∨ j = 1 ∨ j = 2 := by omega
        rcases hj' with rfl | rfl | rfl
        · exact key s0 m0 l0 _ c0
        · exact key s1 m1 l1 _ c1
        · exact key s2 m2 l2 _ c2
      obtain ⟨n, hl⟩ := hl
      simp only [cond_false, hl]
      rw [inb_nat (show i < [s0, s1, s2].length from hi3), Int.toNat_natCast, getD_at (show i < [s0, s1, s2].length from hi3), chk_true, show decide ([s0, s1, s2][i] > 0) = true from decide_eq_true hpos, beq_self_eq_true]
      simp only [cond_true, Bool.not_false]
      rw [turnOk_impl _ (by simp)]
      simp only [Option.bind_some]
      have e1 : inR 0 2 (i : Int) = true := inR_bd.2 ⟨by omega, by omega⟩
      have e2 : [l0, l1, l2].all (inR 0 1000) = true := by
        simp only [List.all_cons, List.all_nil, Bool.and_true, Bool.and_eq_true]
        exact ⟨inR_bd.2 b0, inR_bd.2 b1, inR_bd.2 b2⟩
      rw [e1, e2]; rfl
  · rw [show decide (len code > 1048576) = true from decide_eq_true (by simp [len]; omega)]; rfl
end Go.Proofs.Ytabjfkongckhaaa.Vm
