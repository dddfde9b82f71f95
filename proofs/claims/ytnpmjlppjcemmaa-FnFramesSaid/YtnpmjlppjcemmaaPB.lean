import Derived.Test.YtnpmjlppjcemmaaPA
namespace Go.Proofs.Ytnpmjlppjcemmaa.Vm
open Go Go.RowKit
set_option linter.unusedVariables false
/- A frame read from its bytes: both ways alike. -/

theorem cutOk_of {l n : Int} {m : Nat} (h0 : 0 ≤ l) (h1 : l ≤ n) (h2 : n ≤ (m : Int)) : cutOk l n m = true := by
  unfold cutOk
  rw [decide_eq_true h0, decide_eq_true h1, decide_eq_true h2]; rfl
/-- The end of the reference's reading. -/
theorem spec_fin (L : List Int) (hb : bytes L) (f : DFrame) (hz : zFrame f ≤ 1048576) : ∃ r : DFrame × Bool, ((F.spec_FrameOk f).bind fun r22 => bif !r22 then some (((0, 0, 0, 0, [], zeroItem, ()) : DFrame), false) else (F.spec_FrameBytes f).bind fun r23 => bif !(ByteArray.toList (toBytes r23) == ByteArray.toList (toBytes L)) then some (((0, 0, 0, 0, [], zeroItem, ()) : DFrame), false) else some (f, true)) = some r ∧ ((r.2 = true ∧ FrR r.1 ∧ frB r.1 = L ∧ zFrame r.1 ≤ 1048576) ∨ r = ((0, 0, 0, 0, [], zeroItem, ()), false)) ∧ (FrR f → frB f = L → r = (f, true)) := by
  obtain ⟨b, o1, _, o3⟩ := frOk_same f hz
  rw [o1]
  simp only [Option.bind_some]
  cases b with
  | false => exact ⟨_, rfl, .inr rfl, fun h _ => by cases o3.2 h⟩
  | true =>
    have hf := o3.1 rfl
    rw [(frB_eq f hz).1]
    simp only [Option.bind_some, Bool.not_true, cond_false]
    cases hq : (ByteArray.toList (toBytes (frB f)) == ByteArray.toList (toBytes L)) with
    | false => exact ⟨_, rfl, .inr rfl, fun _ h => by rw [h, tb_self] at hq; cases hq⟩
    | true =>
      refine ⟨_, rfl, .inl ⟨rfl, hf, tb_eq ?_ hb hq, hz⟩, fun _ _ => rfl⟩
      rw [frB_right hf]
      exact bytes_app (bodyB_bytes f) (fun x hx => by
        simp only [sumB, List.mem_cons, List.not_mem_nil, or_false] at hx
        rcases hx with rfl | rfl | rfl | rfl <;> omega)
theorem specFrameOf_any (L : List Int) (hl : L.length ≤ 1048576) (hb : bytes L) : ∃ r : DFrame × Bool, F.spec_FrameOf L = some r ∧ ((r.2 = true ∧ FrR r.1 ∧ frB r.1 = L ∧ zFrame r.1 ≤ 1048576) ∨ r = ((0, 0, 0, 0, [], zeroItem, ()), false)) ∧ (∀ f, FrR f → zFrame f ≤ 1048576 → frB f = L → r = (f, true)) := by
  -- what is so of a right frame's bytes
  have hlong : ∀ f, FrR f → frB f = L → (bodyB f).length + 4 = L.length ∧ 2 ≤ (bodyB f).length := fun f hf e => by
    rw [← e, frB_right hf, List.length_append]
    refine ⟨rfl, ?_⟩
    unfold bodyB
    simp only [List.length_append, List.length_cons, List.length_nil]
    omega
  unfold F.spec_FrameOf
  by_cases h6 : L.length < 6
  · rw [show decide (len L < 6) = true from decide_eq_true (by simp only [len]; omega)]
    refine ⟨_, rfl, .inr rfl, fun f hf hz e => ?_⟩
    have := hlong f hf e
    omega
  rw [show decide (len L < 6) = false from decide_eq_false (by simp only [len]; omega)]
  have hw : w64 (len L - 4) = ((L.length - 4 : Nat) : Int) := by rw [w64_id (by simp only [len]; omega) (by simp only [len]; omega)]; simp only [len]; omega
  rw [hw]
  have hB : List.take (((L.length - 4 : Nat) : Int).toNat - 0) (List.drop 0 L) = L.take (L.length - 4) := by rw [Int.toNat_natCast, Nat.sub_zero, List.drop_zero]
  have hS : List.take ((len L).toNat - ((L.length - 4 : Nat) : Int).toNat) (List.drop ((L.length - 4 : Nat) : Int).toNat L) = L.drop (L.length - 4) := by
    rw [Int.toNat_natCast]
    refine List.take_of_length_le ?_
    rw [List.length_drop]
    show L.length - (L.length - 4) ≤ (((L.length : Nat) : Int)).toNat - (L.length - 4)
    rw [Int.toNat_natCast]; exact Nat.le_refl _
  rw [hB, hS, cutOk_of (l := 0) (n := ((L.length - 4 : Nat) : Int)) (by omega) (by omega) (by omega), cutOk_of (l := ((L.length - 4 : Nat) : Int)) (n := len L) (by omega) (by simp only [len]; omega) (by simp only [len]; omega)]
  have hbody : ∀ f, FrR f → frB f = L → L.take (L.length - 4) = bodyB f ∧ L.drop (L.length - 4) = sumB (bodyB f) := fun f hf e => by
    obtain ⟨g1, g2⟩ := hlong f hf e
    rw [show L.length - 4 = (bodyB f).length by omega, ← e, frB_right hf]
    exact ⟨List.take_left, List.drop_left⟩
  generalize hX : L.take (L.length - 4) = X at hbody
  have hXl : X.length = L.length - 4 := by rw [← hX, List.length_take]; omega
  have hXb : bytes X := fun x hx => hb x (by rw [← hX] at hx; exact List.mem_of_mem_take hx)
  rw [l7Sum_eq X (by omega) hXb]
  simp only [cond_false, chk_true, Option.bind_some]
  cases hq : (ByteArray.toList (toBytes (sumB X)) == ByteArray.toList (toBytes (L.drop (L.length - 4)))) with
  | false =>
    refine ⟨_, rfl, .inr rfl, fun f hf hz e => ?_⟩
    obtain ⟨g1, g2⟩ := hbody f hf e
    rw [g1, g2, tb_self] at hq; cases hq
  | true =>
    simp only [Bool.not_true, cond_false]
    obtain ⟨r2, e2, k2⟩ := l7Get_any X 2 5 (by omega) (by omega) hXb (by omega)
    have e2 : F.spec_l7Get X 2 5 = some r2 := e2
    rw [e2]
    simp only [Option.bind_some]
    -- the right frame's first numbers
    have put2 : ∀ f, FrR f → frB f = L → r2 = ([f.1, f.2.1, f.2.2.1, f.2.2.2.1, len f.2.2.2.2.1], ((2 + (numsB [f.1, f.2.1, f.2.2.1, f.2.2.2.1, len f.2.2.2.2.1]).length : Nat) : Int), true) ∧ X.drop 2 = numsB [f.1, f.2.1, f.2.2.1, f.2.2.2.1, len f.2.2.2.2.1] ++ (numsB (flatN f.2.2.2.2.1) ++ tailB f) := fun f hf e => by
      have hx := (hbody f hf e).1
      have hd : X.drop 2 = numsB [f.1, f.2.1, f.2.2.1, f.2.2.2.1, len f.2.2.2.2.1] ++ (numsB (flatN f.2.2.2.2.1) ++ tailB f) := by
        rw [hx, flatN_bytes]
        unfold bodyB tailB
        simp [numsB]
      have hn : nums [f.1, f.2.1, f.2.2.1, f.2.2.2.1, len f.2.2.2.2.1] := by
        have a := hf.kind; have b := hf.agent; have c := hf.epoch; have d := hf.granted; have g := (frR_spans hf).2
        intro z hz
        simp only [List.mem_cons, List.not_mem_nil, or_false] at hz
        rcases hz with rfl | rfl | rfl | rfl | rfl
        · omega
        · omega
        · omega
        · omega
        · simp only [len]; omega
      have q := l7Get_put X 2 _ _ hn (by omega) (by simp) hd
      have q : F.spec_l7Get X 2 5 = _ := q
      rw [e2] at q
      exact ⟨Option.some.inj q, hd⟩
    rcases k2 with ⟨a1, a2, a3, a4, a5⟩ | rfl
    case inr =>
      refine ⟨_, rfl, .inr rfl, fun f hf hz e => ?_⟩
      have := (put2 f hf e).1
      simp at this
    rw [a1]
    have hl5 : r2.1.length = 5 := by simp at a2; omega
    simp only [Bool.not_true, cond_false, hl5]
    rw [show inb 0 5 = true from rfl, show inb 1 5 = true from rfl, show inb 2 5 = true from rfl, show inb 3 5 = true from rfl, show inb 4 5 = true from rfl]
    simp only [chk_true]
    by_cases h100 : r2.1.getD 4 0 > 100
    · rw [decide_eq_true h100]
      refine ⟨_, rfl, .inr rfl, fun f hf hz e => ?_⟩
      have h1 := (put2 f hf e).1
      have h2 := (frR_spans hf).2
      have h3 : r2.1.getD 4 0 = len f.2.2.2.2.1 := by rw [h1]; rfl
      rw [h3] at h100
      simp only [len] at h100
      omega
    rw [decide_eq_false h100]
    have hn4 := a5 (r2.1.getD 4 0) (by rw [List.getD_eq_getElem?_getD, List.getElem?_eq_getElem (by omega)]; exact List.getElem_mem _)
    have hw2 : w64 (2 * r2.1.getD 4 0) = 2 * r2.1.getD 4 0 := w64_id (by omega) (by omega)
    obtain ⟨r3, e3, k3⟩ := l7Get_any X r2.2.1.toNat (2 * r2.1.getD 4 0) (by omega) (by omega) hXb (by omega)
    rw [show ((r2.2.1.toNat : Nat) : Int) = r2.2.1 by omega] at e3
    rw [hw2, e3]
    simp only [cond_false, Option.bind_some]
    have put3 : ∀ f, FrR f → frB f = L → r3 = (flatN f.2.2.2.2.1, ((2 + (numsB [f.1, f.2.1, f.2.2.1, f.2.2.2.1, len f.2.2.2.2.1]).length + (numsB (flatN f.2.2.2.2.1)).length : Nat) : Int), true) := fun f hf e => by
      obtain ⟨h1, hd⟩ := put2 f hf e
      obtain ⟨h3, h4⟩ := frR_spans hf
      have q := l7Get_put X _ _ _ (flatN_nums h3) (by omega) (by rw [flatN_len]; omega) (drp_at hd)
      rw [flatN_len] at q
      have e5 : 2 * r2.1.getD 4 0 = ((2 * f.2.2.2.2.1.length : Nat) : Int) := by rw [h1]; simp [len]
      have e6 : r2.2.1 = ((2 + (numsB [f.1, f.2.1, f.2.2.1, f.2.2.2.1, len f.2.2.2.2.1]).length : Nat) : Int) := by rw [h1]
      rw [e5, e6, q] at e3
      exact (Option.some.inj e3).symm
    rcases k3 with ⟨b1, b2, b3, b4, b5⟩ | rfl
    case inr =>
      refine ⟨_, rfl, .inr rfl, fun f hf hz e => ?_⟩
      have := put3 f hf e
      simp at this
    rw [b1]
    simp only [Bool.not_true, cond_false]
    have hl3 : r3.1.length ≤ 200 := by
      split at b2 <;> omega
    obtain ⟨e, s, hloop, hs⟩ := spLoop_any L X r3.1 r3.2.1 (0, 0, 0, 0, [], zeroItem, ()) (r2.1.getD 0 0, r2.1.getD 1 0, r2.1.getD 2 0, r2.1.getD 3 0, [], zeroItem, ()) (by omega)
    simp only at hloop
    have putS : ∀ f, FrR f → frB f = L → s = f.2.2.2.2.1 ∧ r2.1.getD 0 0 = f.1 ∧ r2.1.getD 1 0 = f.2.1 ∧ r2.1.getD 2 0 = f.2.2.1 ∧ r2.1.getD 3 0 = f.2.2.2.1 := fun f hf ef => by
      have h1 := (put2 f hf ef).1
      have h3 := put3 f hf ef
      obtain ⟨e', q⟩ := spLoop_put L X r3.2.1 (0, 0, 0, 0, [], zeroItem, ()) (r2.1.getD 0 0, r2.1.getD 1 0, r2.1.getD 2 0, r2.1.getD 3 0, [], zeroItem, ()) f.2.2.2.2.1 (by have := (frR_spans hf).2; omega)
      simp only at q
      have h31 : r3.1 = flatN f.2.2.2.2.1 := by rw [h3]
      rw [h31, q] at hloop
      simp only [Option.some.injEq, Sum.inl.injEq, Prod.mk.injEq] at hloop
      refine ⟨?_, by rw [h1]; rfl, by rw [h1]; rfl, by rw [h1]; rfl, by rw [h1]; rfl⟩
      exact hloop.2.2.2.2.2.2.1.2.2.2.2.1.symm
    rw [hloop]
    simp only [afterO]
    by_cases hk1 : r2.1.getD 0 0 = 1
    · rw [show (r2.1.getD 0 0 == 1) = true by rw [beq_iff_eq]; exact hk1]
      obtain ⟨r4, e4, k4⟩ := l7Get_any X r3.2.1.toNat 4 (by omega) (by omega) hXb (by omega)
      rw [show ((r3.2.1.toNat : Nat) : Int) = r3.2.1 by omega] at e4
      rw [e4]
      simp only [cond_true, Option.bind_some]
      have put4 : ∀ f, FrR f → frB f = L → r4 = ([f.2.2.2.2.2.1.1, f.2.2.2.2.2.1.2.1, f.2.2.2.2.2.1.2.2.1, f.2.2.2.2.2.1.2.2.2.1], ((2 + (numsB [f.1, f.2.1, f.2.2.1, f.2.2.2.1, len f.2.2.2.2.1]).length + (numsB (flatN f.2.2.2.2.1)).length + (numsB [f.2.2.2.2.2.1.1, f.2.2.2.2.2.1.2.1, f.2.2.2.2.2.1.2.2.1, f.2.2.2.2.2.1.2.2.2.1]).length : Nat) : Int), true) ∧ ItR f.2.2.2.2.2.1 ∧ X.drop (2 + (numsB [f.1, f.2.1, f.2.2.1, f.2.2.2.1, len f.2.2.2.2.1]).length + (numsB (flatN f.2.2.2.2.1)).length + (numsB [f.2.2.2.2.2.1.1, f.2.2.2.2.2.1.2.1, f.2.2.2.2.2.1.2.2.1, f.2.2.2.2.2.1.2.2.2.1]).length) = numsB (skNums f.2.2.2.2.2.1.2.2.2.2.1) := fun f hf ef => by
        have hkf : f.1 = 1 := by rw [← (putS f hf ef).2.1]; exact hk1
        have hi := hf.data hkf
        have hd := drp_at (drp_at (put2 f hf ef).2)
        have ht : tailB f = numsB [f.2.2.2.2.2.1.1, f.2.2.2.2.2.1.2.1, f.2.2.2.2.2.1.2.2.1, f.2.2.2.2.2.1.2.2.2.1] ++ numsB (skNums f.2.2.2.2.2.1.2.2.2.2.1) := by
          unfold tailB
          rw [if_pos hkf, skB_right hi.sk]
        rw [ht] at hd
        have hn : nums [f.2.2.2.2.2.1.1, f.2.2.2.2.2.1.2.1, f.2.2.2.2.2.1.2.2.1, f.2.2.2.2.2.1.2.2.2.1] := by
          have a := hi.seq; have b := hi.cls; have c := hi.key; have d := hi.win
          intro z hz
          simp only [List.mem_cons, List.not_mem_nil, or_false] at hz
          rcases hz with rfl | rfl | rfl | rfl <;> omega
        have q := l7Get_put X _ _ _ hn (by omega) (by simp) hd
        have h3 := put3 f hf ef
        have e6 : r3.2.1 = ((2 + (numsB [f.1, f.2.1, f.2.2.1, f.2.2.2.1, len f.2.2.2.2.1]).length + (numsB (flatN f.2.2.2.2.1)).length : Nat) : Int) := by rw [h3]
        rw [e6] at e4
        have e4 : F.spec_l7Get X _ 4 = _ := e4
        have q : F.spec_l7Get X _ 4 = _ := q
        rw [q] at e4
        exact ⟨(Option.some.inj e4).symm, hi, drp_at hd⟩
      rcases k4 with ⟨c1, c2, c3, c4, c5⟩ | rfl
      case inr =>
        refine ⟨_, rfl, .inr rfl, fun f hf hz ef => ?_⟩
        have := (put4 f hf ef).1
        simp at this
      rw [c1]
      have hl4 : r4.1.length = 4 := by simp at c2; omega
      simp only [Bool.not_true, cond_false, hl4]
      rw [cutOk_of (l := r4.2.1) (n := len X) (by omega) (by simp only [len]; omega) (by simp only [len]; omega)]
      have hY : List.take ((len X).toNat - r4.2.1.toNat) (List.drop r4.2.1.toNat X) = X.drop r4.2.1.toNat := by
        refine List.take_of_length_le ?_
        rw [List.length_drop]
        show X.length - r4.2.1.toNat ≤ (((X.length : Nat) : Int)).toNat - r4.2.1.toNat
        rw [Int.toNat_natCast]; exact Nat.le_refl _
      rw [hY]
      obtain ⟨sk, ok, e5, hsk⟩ := skOf_any (X.drop r4.2.1.toNat) (by rw [List.length_drop]; omega) (fun x hx => hXb x (List.mem_of_mem_drop hx))
      rw [e5]
      simp only [chk_true, Option.bind_some]
      have put5 : ∀ f, FrR f → zFrame f ≤ 1048576 → frB f = L → sk = f.2.2.2.2.2.1.2.2.2.2.1 ∧ ok = true := fun f hf hz ef => by
        obtain ⟨h4, hi, hd⟩ := put4 f hf ef
        have hzz : f.2.2.2.2.1.length + zSketch f.2.2.2.2.2.1.2.2.2.2.1 ≤ 1048576 := hz
        have q := skOf_put _ hi.sk (by omega)
        have e6 : r4.2.1.toNat = 2 + (numsB [f.1, f.2.1, f.2.2.1, f.2.2.2.1, len f.2.2.2.2.1]).length + (numsB (flatN f.2.2.2.2.1)).length + (numsB [f.2.2.2.2.2.1.1, f.2.2.2.2.2.1.2.1, f.2.2.2.2.2.1.2.2.1, f.2.2.2.2.2.1.2.2.2.1]).length := by rw [h4]; simp only [Int.toNat_natCast]
        rw [e6, hd, q] at e5
        simp only [Option.some.injEq, Prod.mk.injEq] at e5
        exact ⟨e5.1.symm, e5.2.symm⟩
      cases ok with
      | false =>
        refine ⟨_, rfl, .inr rfl, fun f hf hz ef => ?_⟩
        have := (put5 f hf hz ef).2
        cases this
      | true =>
        rw [show inb 0 4 = true from rfl, show inb 1 4 = true from rfl, show inb 2 4 = true from rfl, show inb 3 4 = true from rfl]
        obtain ⟨r, z1, z2, z3⟩ := spec_fin L hb (r2.1.getD 0 0, r2.1.getD 1 0, r2.1.getD 2 0, r2.1.getD 3 0, s, (r4.1.getD 0 0, r4.1.getD 1 0, r4.1.getD 2 0, r4.1.getD 3 0, sk, ()), ()) (by show s.length + zSketch sk ≤ _; omega)
        refine ⟨r, z1, z2, fun f hf hz ef => ?_⟩
        obtain ⟨p1, p2, p3, p4, p5⟩ := putS f hf ef
        have p6 := (put4 f hf ef).1
        have p7 := (put5 f hf hz ef).1
        have efr : ((r2.1.getD 0 0, r2.1.getD 1 0, r2.1.getD 2 0, r2.1.getD 3 0, s, (r4.1.getD 0 0, r4.1.getD 1 0, r4.1.getD 2 0, r4.1.getD 3 0, sk, ()), ()) : DFrame) = f := by
          rw [p1, p2, p3, p4, p5, p6, p7]; rfl
        rw [efr] at z3
        exact z3 hf ef
    · rw [show (r2.1.getD 0 0 == 1) = false by rw [beq_eq_false_iff_ne]; exact hk1]
      simp only [cond_false]
      obtain ⟨r, z1, z2, z3⟩ := spec_fin L hb (r2.1.getD 0 0, r2.1.getD 1 0, r2.1.getD 2 0, r2.1.getD 3 0, s, zeroItem, ()) (by show s.length + zSketch (0, 0, 0, 0, [], [], [], ()) ≤ _; simp [zSketch, zIntS, zIntSS]; omega)
      refine ⟨r, z1, z2, fun f hf hz ef => ?_⟩
      obtain ⟨p1, p2, p3, p4, p5⟩ := putS f hf ef
      have hzr := hf.none (by rw [← p2]; exact hk1)
      have efr : ((r2.1.getD 0 0, r2.1.getD 1 0, r2.1.getD 2 0, r2.1.getD 3 0, s, zeroItem, ()) : DFrame) = f := by
        rw [p1, p2, p3, p4, p5, ← hzr]
      rw [efr] at z3
      exact z3 hf ef
/-- Both read alike. -/
theorem frameOf_same (L : List Int) (hl : L.length ≤ 1048576) (hb : bytes L) : ∃ r : DFrame × Bool, F.spec_FrameOf L = some r ∧ F.impl_FrameOf L = some r ∧ zFrame r.1 ≤ 1048576 := by
  obtain ⟨r, e1, h1, h2⟩ := specFrameOf_any L hl hb
  obtain ⟨q, e2, h3⟩ := implFrameOf_any L hl hb
  rcases h3 with ⟨a1, a2, a3, a4⟩ | rfl
  · have hr := h2 q.1 a2 a4 a3
    have e3 := implFrameOf_put q.1 a2 a4
    rw [a3] at e3
    exact ⟨(q.1, true), by rw [e1, hr], e3, a4⟩
  · rcases h1 with ⟨b1, b2, b3, b4⟩ | rfl
    · have e3 := implFrameOf_put r.1 b2 b4
      rw [b3, e2] at e3
      simp at e3
    · exact ⟨_, e1, e2, by simp [zFrame, zSpanS, zItem, zSketch, zIntS, zIntSS]⟩
/- Numbers read: both ways alike; what was read is put back as it lay there. -/

theorem digs_length (v : Nat) (h : v ≤ 2147483647) : (digs 4 (v : Int)).length = if v ≤ 127 then 1 else if v ≤ 16383 then 2 else if v ≤ 2097151 then 3 else if v ≤ 268435455 then 4 else 5 := by
  simp only [digs]
  by_cases h1 : v ≤ 127
  · rw [if_neg (by omega), if_pos h1]; rfl
  rw [if_pos (by omega), if_neg h1]
  by_cases h2 : v ≤ 16383
  · rw [if_neg (by omega), if_pos h2]; rfl
  rw [if_pos (by omega), if_neg h2]
  by_cases h3 : v ≤ 2097151
  · rw [if_neg (by omega), if_pos h3]; rfl
  rw [if_pos (by omega), if_neg h3]
  by_cases h4 : v ≤ 268435455
  · rw [if_neg (by omega), if_pos h4]; rfl
  rw [if_pos (by omega), if_neg h4]; rfl
/-- What both ask of the last byte is the same. -/
theorem last_same (i acc b : Nat) (hi : i < 5) (ha : acc < 2 ^ (7 * i)) (hb : b < 128) : (numB ((acc + b * 2 ^ (7 * i) : Nat) : Int)).length = i + 1 ↔ ¬ ((i > 0 ∧ b = 0) ∨ acc + b * 2 ^ (7 * i) > 2147483647) := by
  by_cases hv : acc + b * 2 ^ (7 * i) ≤ 2147483647
  · have hl := digs_length (acc + b * 2 ^ (7 * i)) hv
    rw [numB_digs (by omega) (by omega), hl]
    have p0 : (2 : Nat) ^ (7 * 0) = 1 := by decide
    have p1 : (2 : Nat) ^ (7 * 1) = 128 := by decide
    have p2 : (2 : Nat) ^ (7 * 2) = 16384 := by decide
    have p3 : (2 : Nat) ^ (7 * 3) = 2097152 := by decide
    have p4 : (2 : Nat) ^ (7 * 4) = 268435456 := by decide
    have hc : i = 0 ∨ i = 1 ∨ i = 2 ∨ i = 3 ∨ i = 4 := by omega
    rcases hc with rfl | rfl | rfl | rfl | rfl
    · rw [p0] at *; split <;> omega
    · rw [p1] at *; repeat' split
      all_goals omega
    · rw [p2] at *; repeat' split
      all_goals omega
    · rw [p3] at *; repeat' split
      all_goals omega
    · rw [p4] at *; repeat' split
      all_goals omega
  · have : numB ((acc + b * 2 ^ (7 * i) : Nat) : Int) = [] := by
      unfold numB
      rw [if_neg (by omega)]
    rw [this]
    simp
    omega
/-- What a loop's end says. -/
def getVal : ((List Int × Int × Int × Int × Unit) ⊕ (Int × Int × Bool)) → Int × Int × Bool
  | .inl _ => (0, 0, false)
  | .inr r => r
theorem get_iter (l : List Int) (p : Nat) (hl : l.length ≤ 1099511627776) (hp : p ≤ 1099511627778) (hb : bytes l) : ∀ (n i acc : Nat), n + i = 5 → acc < 2 ^ (7 * i) →
    ∃ y1 y2, iterO F.spec_GetNum.s3 (n + 1) (l, (p : Int), (acc : Int), (i : Int), ()) = some y1 ∧ iterO F.impl_GetNum.s5 (n + 1) (l, (p : Int), (acc : Int), (i : Int), ()) = some y2 ∧ getVal y1 = getVal y2 ∧
      ((getVal y1).2.2 = true → ∃ (y : Nat) (post : List Int) (f : Nat), i + f = 4 ∧ (getVal y1).1 = ((acc + y * 2 ^ (7 * i) : Nat) : Int) ∧ acc + y * 2 ^ (7 * i) ≤ 2147483647 ∧ (i > 0 → 1 ≤ y) ∧ l.drop (p + i) = digs f (y : Int) ++ post ∧ (getVal y1).2.1 = ((p + i + (digs f (y : Int)).length : Nat) : Int)) := by
  intro n
  induction n with
  | zero =>
    intro i acc hi ha
    have : i = 5 := by omega
    subst this
    exact ⟨_, _, rfl, rfl, rfl, fun h => by cases h⟩
  | succ n ih =>
    intro i acc hi ha
    by_cases h : p + i < l.length
    · obtain ⟨h0, h1⟩ := hb _ (List.getElem_mem h)
      have hbt : l[p + i] = ((l[p + i].toNat : Nat) : Int) := by omega
      rw [iterO, specGet_step l p i acc l[p + i].toNat (by omega) hl h hbt (by omega) ha, iterO, implGet_step l p i acc l[p + i].toNat (by omega) hl h hbt (by omega) ha]
      have hdr : l.drop (p + i) = l[p + i] :: l.drop (p + i + 1) := List.drop_eq_getElem_cons h
      by_cases h2 : l[p + i].toNat < 128
      · rw [if_pos h2, if_pos h2]
        have hm : l[p + i].toNat % 128 = l[p + i].toNat := Nat.mod_eq_of_lt h2
        rw [hm]
        have hls := last_same i acc l[p + i].toNat (by omega) ha h2
        by_cases h3 : (i > 0 ∧ l[p + i].toNat = 0) ∨ acc + l[p + i].toNat * 2 ^ (7 * i) > 2147483647
        · rw [if_pos h3, if_pos (fun e => (hls.1 e) h3)]
          exact ⟨_, _, rfl, rfl, rfl, fun h => by cases h⟩
        · rw [if_neg h3, if_neg (fun e => e (hls.2 h3))]
          obtain ⟨n1, n2⟩ := not_or.1 h3
          have hd : digs (4 - i) ((l[p + i].toNat : Nat) : Int) = [((l[p + i].toNat : Nat) : Int)] := by
            cases hf : 4 - i with
            | zero => rfl
            | succ k =>
              unfold digs
              rw [if_neg (by omega)]
          refine ⟨_, _, rfl, rfl, rfl, fun _ => ⟨l[p + i].toNat, l.drop (p + i + 1), 4 - i, by omega, rfl, by omega, fun hi0 => by
            rcases Nat.eq_zero_or_pos l[p + i].toNat with e | e
            · exact absurd ⟨hi0, e⟩ n1
            · exact e, ?_, ?_⟩⟩
          · rw [hd, hdr, ← hbt]; rfl
          · rw [hd]; rfl
      · rw [if_neg h2, if_neg h2]
        simp only
        have hi4 : i < 4 ∨ i = 4 := by omega
        obtain ⟨y1, y2, e1, e2, e3, e4⟩ := ih (i + 1) _ (by omega) (acc_next (b := l[p + i].toNat) (by omega) ha)
        refine ⟨y1, y2, e1, e2, e3, fun hok => ?_⟩
        obtain ⟨y, post, f, g1, g2, g3, g4, g5, g6⟩ := e4 hok
        have hp7 : (2 : Nat) ^ (7 * (i + 1)) = 128 * 2 ^ (7 * i) := by rw [show 7 * (i + 1) = 7 * i + 7 by omega, Nat.pow_add]; omega
        have hy := g4 (by omega)
        have hval : acc + l[p + i].toNat % 128 * 2 ^ (7 * i) + y * 2 ^ (7 * (i + 1)) = acc + (l[p + i].toNat % 128 + 128 * y) * 2 ^ (7 * i) := by
          rw [hp7, Nat.add_mul, Nat.add_assoc]
          congr 2
          rw [Nat.mul_comm 128 y, Nat.mul_assoc]
        have hd : digs (f + 1) ((l[p + i].toNat % 128 + 128 * y : Nat) : Int) = l[p + i] :: digs f (y : Int) := by
          have e1 : ((l[p + i].toNat % 128 + 128 * y : Nat) : Int) / 128 = (y : Int) := by omega
          have e2 : ((l[p + i].toNat % 128 + 128 * y : Nat) : Int) % 128 + 128 = l[p + i] := by omega
          rw [digs, if_pos (by omega), e1, e2]
        refine ⟨l[p + i].toNat % 128 + 128 * y, post, f + 1, by omega, ?_, ?_, fun _ => by omega, ?_, ?_⟩
        · rw [g2, hval]
        · rw [← hval]; exact g3
        · rw [hd, hdr, show p + i + 1 = p + (i + 1) by omega, g5]; rfl
        · rw [g6, hd, List.length_cons]; omega
    · have s1 : F.spec_GetNum.s3 (l, (p : Int), (acc : Int), (i : Int), ()) = some (.ret (0, 0, false)) := by
        unfold F.spec_GetNum.s3
        simp only
        rw [show decide ((i : Int) < 5) = true from decide_eq_true (by omega), show decide ((p : Int) < 0) = false from decide_eq_false (by omega), w64_id (x := len l - (i : Int)) (by simp only [len]; omega) (by simp only [len]; omega), show decide ((p : Int) ≥ len l - (i : Int)) = true from decide_eq_true (by simp only [len]; omega)]
        rfl
      have s2 : F.impl_GetNum.s5 (l, (p : Int), (acc : Int), (i : Int), ()) = some (.exit (l, (p : Int), (acc : Int), (i : Int), ())) := by
        unfold F.impl_GetNum.s5
        simp only
        rw [show decide ((i : Int) < 5) = true from decide_eq_true (by omega), w64_id (x := (p : Int) + (i : Int)) (by omega) (by omega), show decide ((p : Int) + (i : Int) < len l) = false from decide_eq_false (by simp only [len]; omega)]
        rfl
      rw [iterO, s1, iterO, s2]
      exact ⟨_, _, rfl, rfl, rfl, fun h => by cases h⟩
/-- Both read the same, and what is read lies there. -/
theorem get_same (l : List Int) (p : Nat) (hl : l.length ≤ 1099511627776) (hp : p ≤ 1099511627778) (hb : bytes l) : ∃ r : Int × Int × Bool, F.spec_GetNum l p = some r ∧ F.impl_GetNum l p = some r ∧
    ((r.2.2 = true ∧ 0 ≤ r.1 ∧ r.1 ≤ 2147483647 ∧ ∃ post, l.drop p = numB r.1 ++ post ∧ r.2.1 = ((p + (numB r.1).length : Nat) : Int)) ∨ r = (0, 0, false)) := by
  obtain ⟨y1, y2, e1, e2, e3, e4⟩ := get_iter l p hl hp hb 5 0 0 rfl (by simp)
  have e1 : loopO F.spec_GetNum.s3 (l, (p : Int), 0, 0, ()) = some y1 := loopO_of e1
  have e2 : loopO F.impl_GetNum.s5 (l, (p : Int), 0, 0, ()) = some y2 := loopO_of e2
  have hs : F.spec_GetNum l p = some (getVal y1) := by
    unfold F.spec_GetNum
    rw [e1]
    cases y1 <;> rfl
  have hi : F.impl_GetNum l p = some (getVal y2) ∨ (F.impl_GetNum l p = some (0, 0, false) ∧ l.length ≤ p) := by
    unfold F.impl_GetNum
    rw [within_eq]
    simp only [Option.bind_some]
    by_cases hlt : p < l.length
    · left
      rw [show inR 0 (w64 (len l - 1)) (p : Int) = true from inR_iff.2 ⟨by omega, by rw [w64_id (by simp only [len]; omega) (by simp only [len]; omega)]; simp only [len]; omega⟩]
      simp only [Bool.not_true, cond_false, e2]
      cases y2 <;> rfl
    · right
      rw [show inR 0 (w64 (len l - 1)) (p : Int) = false by
        cases hq : inR 0 (w64 (len l - 1)) (p : Int) with
        | false => rfl
        | true =>
          have := (inR_iff.1 hq).2
          rw [w64_id (by simp only [len]; omega) (by simp only [len]; omega)] at this
          simp only [len] at this
          omega]
      exact ⟨rfl, by omega⟩
  have key : ((getVal y1).2.2 = true ∧ 0 ≤ (getVal y1).1 ∧ (getVal y1).1 ≤ 2147483647 ∧ ∃ post, l.drop p = numB (getVal y1).1 ++ post ∧ (getVal y1).2.1 = ((p + (numB (getVal y1).1).length : Nat) : Int)) ∨ (getVal y1).2.2 = false := by
    cases hq : (getVal y1).2.2 with
    | false => exact .inr rfl
    | true =>
      left
      obtain ⟨y, post, f, g1, g2, g3, g4, g5, g6⟩ := e4 hq
      have hf : f = 4 := by omega
      subst hf
      simp only [Nat.mul_zero, Nat.pow_zero, Nat.mul_one, Nat.zero_add, Nat.add_zero] at g2 g3 g5 g6
      have hd := numB_digs (x := (y : Int)) (by omega) (by omega)
      rw [g2, hd]
      exact ⟨rfl, by omega, by omega, post, g5, g6⟩
  have kv : getVal y1 = (0, 0, false) ∨ (getVal y1).2.2 = true := by
    obtain ⟨q, h1, h2⟩ := specGet_any l p hl hp hb
    rw [hs] at h1
    cases h1
    rcases h2 with ⟨a, _⟩ | a
    · exact .inr a
    · exact .inl a
  rcases hi with hi | ⟨hi, hlen⟩
  · refine ⟨getVal y1, hs, by rw [hi, e3], ?_⟩
    rcases key with k | k
    · exact .inl k
    · rcases kv with h | h
      · exact .inr h
      · rw [k] at h; cases h
  · rcases kv with h | h
    · exact ⟨(0, 0, false), by rw [hs, h], hi, .inr rfl⟩
    · exfalso
      rcases key with ⟨_, k1, k2, post, k3, _⟩ | k
      · have hn : numB (getVal y1).1 ≠ [] := by
          rw [numB_digs k1 k2]
          unfold digs
          split <;> simp
        have := congrArg List.length k3
        have := List.length_pos_iff.2 hn
        simp at *
        omega
      · rw [k] at h; cases h
/- Sketches read from bytes: both ways alike; what is read is what the bytes say. -/

theorem numsB_snoc (xs : List Int) (x : Int) : numsB (xs ++ [x]) = numsB xs ++ numB x := by
  unfold numsB; rw [List.flatMap_append]; simp
theorem nums_snoc {xs : List Int} {x : Int} (h : nums xs) (h0 : 0 ≤ x) (h1 : x ≤ 2147483647) : nums (xs ++ [x]) := fun z hz => by
  rcases List.mem_append.1 hz with hz | hz
  · exact h z hz
  · rw [List.mem_singleton.1 hz]; exact ⟨h0, h1⟩
/-- From place p on lie the bytes of numbers, up to place q. -/
def Lies (l : List Int) (p q : Nat) (xs : List Int) : Prop := nums xs ∧ q = p + (numsB xs).length ∧ ∃ post, l.drop p = numsB xs ++ post
theorem lies_nil (l : List Int) (p : Nat) : Lies l p p [] := ⟨fun x hx => (by cases hx), rfl, _, rfl⟩
theorem lies_snoc {l : List Int} {p q : Nat} {xs : List Int} (h : Lies l p q xs) {x : Int} (h0 : 0 ≤ x) (h1 : x ≤ 2147483647) {post : List Int} (hd : l.drop q = numB x ++ post) : Lies l p (q + (numB x).length) (xs ++ [x]) := by
  obtain ⟨a, rfl, post0, c⟩ := h
  have hc : l.drop (p + (numsB xs).length) = post0 := drp_at c
  refine ⟨nums_snoc a h0 h1, by rw [numsB_snoc, List.length_append]; omega, post, ?_⟩
  rw [c, ← hc, hd, numsB_snoc, List.append_assoc]
theorem lies_le {l : List Int} {p q : Nat} {xs : List Int} (h : Lies l p q xs) (hp : p ≤ l.length) : q ≤ l.length := by
  obtain ⟨a, rfl, post0, c⟩ := h
  have := congrArg List.length c
  rw [List.length_drop, List.length_append] at this
  omega
/-- What the reference reads lies there. -/
theorem l7Get_lies (l : List Int) (n : Nat) (hl : l.length ≤ 1048576) (hb : bytes l) (hn : n ≤ 4194304) :
    ∃ r : List Int × Int × Bool, F.spec_l7Get l 0 n = some r ∧ ((r.2.2 = true ∧ r.1.length = n ∧ ∃ q : Nat, r.2.1 = (q : Int) ∧ Lies l 0 q r.1) ∨ r = ([], 0, false)) := by
  unfold F.spec_l7Get
  obtain ⟨y, h1, hy⟩ := loopO_rule (step := F.spec_l7Get.s3) (fun x => x.1 = l ∧ x.2.2.1 = (n : Int) ∧ ∃ q : Nat, x.2.1 = (q : Int) ∧ x.2.2.2.2.1 = (x.2.2.2.1.length : Int) ∧ x.2.2.2.1.length ≤ n ∧ Lies l 0 q x.2.2.2.1)
    (fun y => (∃ z : List Int × Int × Int × List Int × Int × Unit, y = .inl z ∧ ∃ q : Nat, z.2.1 = (q : Int) ∧ z.2.2.2.1.length = n ∧ Lies l 0 q z.2.2.2.1) ∨ y = .inr ([], 0, false)) (fun x => n + 1 - x.2.2.2.1.length) (fun x hx => by
      obtain ⟨x1, x2, x3, x4, x5, u⟩ := x
      obtain ⟨g1, g2, q, g3, g4, g5, g6⟩ := hx
      simp only at g1 g2 g3 g4 g5 g6
      subst g1; subst g2; subst g3; subst g4
      have hl : x1.length ≤ 1048576 := hl
      have hq := lies_le g6 (Nat.zero_le _)
      unfold F.spec_l7Get.s3
      simp only
      by_cases hlt : x4.length < n
      · rw [show decide (((x4.length : Nat) : Int) < (n : Int)) = true from decide_eq_true (by omega)]
        obtain ⟨r, e1, _, hr⟩ := get_same x1 q (by omega) (by omega) hb
        simp only [cond_true, e1, Option.bind_some]
        rcases hr with ⟨a1, a2, a3, post, a4, a5⟩ | rfl
        · simp only [a1, Bool.not_true, cond_false, List.length_cons, List.length_nil]
          rw [fits_of (by omega), w64_nat (by omega)]
          refine ⟨_, rfl, ⟨rfl, rfl, _, a5, ?_, ?_, lies_snoc g6 a2 a3 a4⟩, ?_⟩
          all_goals simp only [List.length_append, List.length_cons, List.length_nil]
          · omega
          · omega
        · exact ⟨_, rfl, .inr rfl⟩
      · rw [show decide (((x4.length : Nat) : Int) < (n : Int)) = false from decide_eq_false (by omega)]
        exact ⟨_, rfl, .inl ⟨_, rfl, q, rfl, by simp only; omega, g6⟩⟩) (x := (l, 0, (n : Int), [], 0, ())) ⟨rfl, rfl, 0, rfl, rfl, Nat.zero_le _, lies_nil l 0⟩
  have h1 : loopO F.spec_l7Get.s3 (l, 0, (n : Int), [], 0, ()) = some y := h1
  rw [h1]
  rcases hy with ⟨⟨z1, z2, z3, z4, z5, u⟩, rfl, q, b1, b2, b3⟩ | rfl
  · exact ⟨_, rfl, .inl ⟨rfl, b2, q, b1, b3⟩⟩
  · exact ⟨_, rfl, .inr rfl⟩
/-- What the program's reader has read. -/
def Rd (l : List Int) (xs : List Int) (r : DReader) : Prop := RdOk l r ∧ (r.2.2.1 = true ∨ ∃ q : Nat, r = (l, (q : Int), false, ()) ∧ Lies l 0 q xs)
theorem rnum_lies (l : List Int) (r : DReader) (xs : List Int) (hl : l.length ≤ 1048576) (hb : bytes l) (h : Rd l xs r) : ∃ v r', F.impl_reader_num r = some (v, r') ∧ Rd l (xs ++ [v]) r' := by
  obtain ⟨hk, h⟩ := h
  obtain ⟨r0, r1, r2, u⟩ := r
  obtain ⟨g0, g1, g2⟩ := hk
  simp only at g0 g1 g2
  subst g0
  have hl : r0.length ≤ 1048576 := hl
  obtain ⟨m, rfl⟩ : ∃ m : Nat, r1 = (m : Int) := ⟨r1.toNat, by omega⟩
  obtain ⟨a, _, e1, ha⟩ := get_same r0 m (by omega) (by omega) hb
  unfold F.impl_reader_num
  simp only [e1, Option.bind_some]
  cases r2 with
  | true => exact ⟨_, _, rfl, ⟨rfl, g1, g2⟩, .inl rfl⟩
  | false =>
    rcases h with h | ⟨q, hq, hL⟩
    · cases h
    · simp only [Prod.mk.injEq, Int.natCast_inj, true_and, and_true] at hq
      subst hq
      rcases ha with ⟨a1, a2, a3, post, a4, a5⟩ | rfl
      · simp only [cond_false, a1, Bool.not_true]
        have hL' := lies_snoc hL a2 a3 a4
        have := lies_le hL' (Nat.zero_le _)
        refine ⟨_, _, rfl, ⟨rfl, ?_, ?_⟩, .inr ⟨_, by rw [a5], hL'⟩⟩
        all_goals simp only [a5]
        all_goals omega
      · exact ⟨_, _, rfl, ⟨rfl, g1, g2⟩, .inl rfl⟩
theorem rnums_lies (l : List Int) (r : DReader) (xs : List Int) (n : Nat) (hn : n ≤ 100) (hl : l.length ≤ 1048576) (hb : bytes l) (h : Rd l xs r) : ∃ ys r', F.impl_reader_nums r n = some (ys, r') ∧ Rd l (xs ++ ys) r' ∧ ys.length ≤ n ∧ (r'.2.2.1 = false → ys.length = n) := by
  unfold F.impl_reader_nums
  obtain ⟨y, h1, ⟨z1, z2, z3, z4, u⟩, rfl, h2, h3, h4⟩ := loopO_rule (step := F.impl_reader_nums.s3) (fun x => x.1 = (n : Int) ∧ x.2.2.1 = (x.2.1.length : Int) ∧ x.2.1.length ≤ n ∧ Rd l (xs ++ x.2.1) x.2.2.2.1)
    (fun y => ∃ z : Int × List Int × Int × DReader × Unit, y = .inl z ∧ Rd l (xs ++ z.2.1) z.2.2.2.1 ∧ z.2.1.length ≤ n ∧ (z.2.2.2.1.2.2.1 = false → z.2.1.length = n)) (fun x => n + 1 - x.2.1.length) (fun x hx => by
      obtain ⟨x1, x2, x3, x4, u⟩ := x
      obtain ⟨g1, g2, g3, g4⟩ := hx
      simp only at g1 g2 g3 g4
      subst g1; subst g2
      unfold F.impl_reader_nums.s3
      simp only
      by_cases hlt : x2.length < n
      · rw [show decide (((x2.length : Nat) : Int) < (n : Int)) = true from decide_eq_true (by omega)]
        cases hbad : x4.2.2.1 with
        | true => exact ⟨_, rfl, _, rfl, g4, g3, fun h => by simp only [hbad] at h; cases h⟩
        | false =>
          obtain ⟨v, r', e, k⟩ := rnum_lies l x4 _ hl hb g4
          simp only [Bool.not_false, cond_true, e, Option.bind_some, List.length_cons, List.length_nil]
          rw [fits_of (by omega), w64_nat (by omega)]
          refine ⟨_, rfl, ⟨rfl, ?_, ?_, ?_⟩, ?_⟩
          · simp only [List.length_append, List.length_cons, List.length_nil]
          · simp only [List.length_append, List.length_cons, List.length_nil]; omega
          · simp only [← List.append_assoc]; exact k
          · simp only [List.length_append, List.length_cons, List.length_nil]; omega
      · rw [show decide (((x2.length : Nat) : Int) < (n : Int)) = false from decide_eq_false (by omega)]
        exact ⟨_, rfl, _, rfl, g4, g3, fun _ => by simp only; omega⟩) (x := ((n : Int), [], 0, r, ())) ⟨rfl, rfl, Nat.zero_le _, by simpa using h⟩
  rw [h1]
  exact ⟨_, _, rfl, h2, h3, h4⟩
theorem lies_all {l : List Int} {xs : List Int} (h : Lies l 0 l.length xs) : l = numsB xs := by
  obtain ⟨_, h2, post, h3⟩ := h
  rw [List.drop_zero] at h3
  have := congrArg List.length h3
  rw [List.length_append] at this
  have hp : post = [] := List.eq_nil_of_length_eq_zero (by omega)
  rw [hp, List.append_nil] at h3
  exact h3
def zeroSk : DSketch := (0, 0, 0, 0, [], [], [], ())
theorem implSkOf_any (l : List Int) (hl : l.length ≤ 1048576) (hb : bytes l) : ∃ r : DSketch × Bool, F.impl_SketchOf l = some r ∧ ((r.2 = true ∧ SkR r.1 ∧ l = numsB (skNums r.1) ∧ zSketch r.1 ≤ 1048576) ∨ r = (zeroSk, false)) := by
  unfold F.impl_SketchOf F.impl_reader_sketch
  have h0 : Rd l [] (l, 0, false, ()) := ⟨⟨rfl, Int.le_refl 0, by show (0 : Int) ≤ 1099511627778; omega⟩, .inr ⟨0, rfl, lies_nil l 0⟩⟩
  obtain ⟨v1, r1, e1, k1⟩ := rnum_lies l _ _ hl hb h0
  obtain ⟨v2, r2, e2, k2⟩ := rnum_lies l _ _ hl hb k1
  obtain ⟨v3, r3, e3, k3⟩ := rnum_lies l _ _ hl hb k2
  obtain ⟨v4, r4, e4, k4⟩ := rnum_lies l _ _ hl hb k3
  obtain ⟨x5, r5, e5, k5, z5, _⟩ := rnums_lies l _ _ 8 (by omega) hl hb k4
  obtain ⟨x6, r6, e6, k6, z6, _⟩ := rnums_lies l _ _ 8 (by omega) hl hb k5
  obtain ⟨x7, r7, e7, k7, z7, _⟩ := rnums_lies l _ _ 4 (by omega) hl hb k6
  obtain ⟨x8, r8, e8, k8, z8, _⟩ := rnums_lies l _ _ 4 (by omega) hl hb k7
  have e5 : F.impl_reader_nums r4 8 = _ := e5
  have e6 : F.impl_reader_nums r5 8 = _ := e6
  have e7 : F.impl_reader_nums r6 4 = _ := e7
  have e8 : F.impl_reader_nums r7 4 = _ := e8
  simp only [e1, e2, e3, e4, e5, e6, e7, e8, Option.bind_some]
  cases hbad : r8.2.2.1 with
  | true => exact ⟨_, rfl, .inr rfl⟩
  | false =>
    obtain ⟨kk, hL⟩ := k8
    rcases hL with hL | ⟨q, rfl, hL⟩
    · rw [hbad] at hL; cases hL
    simp only [cond_false]
    by_cases hq : q = l.length
    · subst hq
      rw [show (((l.length : Nat) : Int) != len l) = false by simp [len]]
      have hzz : zSketch ((v1, v2, v3, v4, x5, x6, [x7, x8], ()) : DSketch) ≤ 1048576 := by
        simp only [zSketch, zIntS, zIntSS, List.length_cons, List.length_nil, List.map_cons, List.map_nil, List.sum_cons, List.sum_nil]
        omega
      obtain ⟨b, _, o1, o2⟩ := skOk_same (v1, v2, v3, v4, x5, x6, [x7, x8], ()) hzz
      simp only [cond_false, o1, Option.bind_some]
      cases b with
      | false => exact ⟨_, rfl, .inr rfl⟩
      | true =>
        refine ⟨_, rfl, .inl ⟨rfl, o2.1 rfl, ?_, hzz⟩⟩
        have := lies_all hL
        refine this.trans (congrArg numsB ?_)
        show _ = skNums (v1, v2, v3, v4, x5, x6, [x7, x8], ())
        rw [skNums_eq]; simp
    · rw [show (((q : Nat) : Int) != len l) = true by simp only [len, bne_iff_ne, ne_eq]; omega]
      exact ⟨_, rfl, .inr rfl⟩
theorem implSkOf_put (s : DSketch) (hs : SkR s) (hz : zSketch s ≤ 1048576) : F.impl_SketchOf (numsB (skNums s)) = some (s, true) := by
  obtain ⟨b, _, o1, o3⟩ := skOk_same s hz
  have ob := o3.2 hs
  subst ob
  have hn := skNums_len s hz
  have hB := numsB_len (skNums s)
  have q := rsketch_put (numsB (skNums s)) 0 s [] hs (by omega) (by simp)
  have q : F.impl_reader_sketch (numsB (skNums s), 0, false, ()) = _ := q
  unfold F.impl_SketchOf
  rw [q]
  simp only [Option.bind_some, cond_false, Nat.zero_add]
  rw [show ((((numsB (skNums s)).length : Nat) : Int) != len (numsB (skNums s))) = false by simp [len]]
  simp only [cond_false, o1, Option.bind_some, Bool.not_true]
theorem specSkOf_any (l : List Int) (hl : l.length ≤ 1048576) (hb : bytes l) : ∃ r : DSketch × Bool, F.spec_SketchOf l = some r ∧ ((r.2 = true ∧ SkR r.1 ∧ l = numsB (skNums r.1) ∧ zSketch r.1 ≤ 1048576) ∨ r = (zeroSk, false)) := by
  obtain ⟨r, q, hr⟩ := l7Get_lies l 28 hl hb (by omega)
  have q : F.spec_l7Get l 0 28 = some r := q
  unfold F.spec_SketchOf
  rw [q]
  simp only [Option.bind_some]
  rcases hr with ⟨h1, hlen, p, h2, h3⟩ | rfl
  case inr => exact ⟨_, rfl, .inr rfl⟩
  obtain ⟨xs, at_, ok⟩ := r
  simp only at h1 hlen h2 h3
  subst h1; subst h2
  simp only [Bool.not_true, cond_false]
  by_cases hq : p = l.length
  · subst hq
    rw [show (((l.length : Nat) : Int) != len l) = false by simp [len]]
    have hall := lies_all h3
    simp only [cond_false, show w64 (4 + 8) = 12 from rfl, show w64 (12 + 8) = 20 from rfl, show w64 (20 + 4) = 24 from rfl, hlen, show len xs = 28 by simp only [len, hlen]; rfl]
    simp only [List.nil_append, List.length_nil]
    have f1 : ∀ (k m : Nat), (List.take k (List.drop m xs)).length ≤ 28 := fun k m => by rw [List.length_take, List.length_drop]; omega
    rw [show inb 0 28 = true from rfl, show inb 1 28 = true from rfl, show inb 2 28 = true from rfl, show inb 3 28 = true from rfl, show cutOk 4 12 28 = true from rfl, show cutOk 12 20 28 = true from rfl, show cutOk 20 24 28 = true from rfl, show cutOk 24 28 28 = true from rfl]
    have f2 : ∀ (k m : Nat), fits (0 + (List.take k (List.drop m xs)).length) 8 = true := fun k m => fits_of (by have := f1 k m; omega)
    simp only [f2, chk_true]
    obtain ⟨a, b, c, d, ys, rfl⟩ : ∃ a b c d ys, xs = a :: b :: c :: d :: ys := by
      rcases xs with _ | ⟨a, _ | ⟨b, _ | ⟨c, _ | ⟨d, ys⟩⟩⟩⟩
      all_goals first | (simp at hlen; done) | exact ⟨_, _, _, _, _, rfl⟩
    have hy : ys.length = 24 := by simpa using hlen
    have t1 : List.take ((12 : Int).toNat - 4) (List.drop 4 (a :: b :: c :: d :: ys)) = ys.take 8 := rfl
    have t2 : List.take ((20 : Int).toNat - (12 : Int).toNat) (List.drop (12 : Int).toNat (a :: b :: c :: d :: ys)) = (ys.drop 8).take 8 := rfl
    have t3 : List.take ((24 : Int).toNat - (20 : Int).toNat) (List.drop (20 : Int).toNat (a :: b :: c :: d :: ys)) = (ys.drop 16).take 4 := rfl
    have t4 : List.take ((28 : Int).toNat - (24 : Int).toNat) (List.drop (24 : Int).toNat (a :: b :: c :: d :: ys)) = (ys.drop 20).take 4 := rfl
    rw [t1, t2, t3, t4]
    simp only [List.getD_cons_zero, List.getD_cons_succ]
    have hzz : zSketch ((a, b, c, d, ys.take 8, (ys.drop 8).take 8, [(ys.drop 16).take 4, (ys.drop 20).take 4], ()) : DSketch) ≤ 1048576 := by
      simp only [zSketch, zIntS, zIntSS, List.length_cons, List.length_nil, List.map_cons, List.map_nil, List.sum_cons, List.sum_nil, List.length_take, List.length_drop]
      omega
    have hnum : skNums ((a, b, c, d, ys.take 8, (ys.drop 8).take 8, [(ys.drop 16).take 4, (ys.drop 20).take 4], ()) : DSketch) = a :: b :: c :: d :: ys := by
      rw [skNums_eq]
      have e4 : (ys.drop 20).take 4 = ys.drop 20 := List.take_of_length_le (by rw [List.length_drop]; omega)
      have e3 : (ys.drop 16).take 4 ++ ys.drop 20 = ys.drop 16 := by
        have := List.take_append_drop 4 (ys.drop 16); rwa [List.drop_drop] at this
      have e2 : (ys.drop 8).take 8 ++ ys.drop 16 = ys.drop 8 := by
        have := List.take_append_drop 8 (ys.drop 8); rwa [List.drop_drop] at this
      rw [e4, e3, e2, List.take_append_drop]
    obtain ⟨o, o1, _, o2⟩ := skOk_same _ hzz
    rw [o1]
    simp only [Option.bind_some]
    cases o with
    | false => exact ⟨_, rfl, .inr rfl⟩
    | true => exact ⟨_, rfl, .inl ⟨rfl, o2.1 rfl, by rw [hnum]; exact hall, hzz⟩⟩
  · rw [show (((p : Nat) : Int) != len l) = true by simp only [len, bne_iff_ne, ne_eq]; omega]
    exact ⟨_, rfl, .inr rfl⟩
/-- Both read the same. -/
theorem skOf_same (l : List Int) (hl : l.length ≤ 1048576) (hb : bytes l) : ∃ r : DSketch × Bool, F.spec_SketchOf l = some r ∧ F.impl_SketchOf l = some r ∧ ((r.2 = true ∧ SkR r.1 ∧ l = numsB (skNums r.1) ∧ zSketch r.1 ≤ 1048576) ∨ r = (zeroSk, false)) := by
  obtain ⟨r, e1, h1⟩ := specSkOf_any l hl hb
  obtain ⟨q, e2, h2⟩ := implSkOf_any l hl hb
  rcases h1 with ⟨a1, a2, a3, a4⟩ | rfl
  · have e3 := implSkOf_put r.1 a2 a4
    rw [← a3] at e3
    refine ⟨r, e1, ?_, .inl ⟨a1, a2, a3, a4⟩⟩
    rw [e3, ← a1]
  · rcases h2 with ⟨b1, b2, b3, b4⟩ | rfl
    · have e3 := skOf_put q.1 b2 b4
      rw [← b3, e1] at e3
      simp only [Option.some.injEq, Prod.mk.injEq] at e3
      cases e3.2
    · exact ⟨_, e1, e2, .inr rfl⟩
/- Spans alike. -/

theorem spec_l5Same_dec (a b : List DSpan) (h : a.length ≤ 1099511627776) : F.spec_l5Same a b = some (eqd a b) := by
  unfold F.spec_l5Same
  by_cases hl : a.length = b.length
  · rw [show (len a != len b) = false by simp only [len, hl, bne_self_eq_false]]
    have := loop_dec (step := F.spec_l5Same.s4) a b (fun i => (a, b, (i : Int), ())) hl (fun i ha hb => by
      unfold F.spec_l5Same.s4
      simp only
      rw [lt_len ha, inb_nat ha, inb_nat hb, Int.toNat_natCast, w64_nat (by omega), getD_at ha, getD_at hb]
      simp only [cond_true, chk_true, eqX_dec]
      generalize eqd a[i] b[i] = d
      cases d <;> rfl) (by
      unfold F.spec_l5Same.s4
      simp only [ge_len, cond_false])
    simp only [cond_false]
    refine (congrArg (fun z => afterO z _) this).trans ?_
    cases eqd a b <;> rfl
  · rw [show (len a != len b) = true by simp only [len, bne_iff_ne, ne_eq]; omega, eqd_ne (fun e => hl (congrArg List.length e))]; rfl
/- Frames alike. -/

theorem spec_FrameSame_dec (a b : DFrame) (h : zFrame a ≤ 1099511627776) : F.spec_FrameSame a b = some (eqd a b) := by
  obtain ⟨a0, a1, a2, a3, a4, a5, u⟩ := a
  obtain ⟨b0, b1, b2, b3, b4, b5, v⟩ := b
  unfold F.spec_FrameSame
  simp only [beq_dec, spec_l5Same_dec _ _ (show List.length a4 ≤ 1099511627776 by have h : zSpanS a4 + zItem a5 ≤ 1099511627776 := h; unfold zSpanS at h; omega), spec_l7Item_dec a5 b5 (by have h : zSpanS a4 + zItem a5 ≤ 1099511627776 := h; omega), Option.bind_some]
  by_cases h0 : a0 = b0
  case neg => simp [eqd, h0]
  subst h0
  by_cases h1 : a1 = b1
  case neg => simp [eqd, h1]
  subst h1
  by_cases h2 : a2 = b2
  case neg => simp [eqd, h2]
  subst h2
  by_cases h3 : a3 = b3
  case neg => simp [eqd, h3]
  subst h3
  by_cases h4 : a4 = b4
  case neg => simp [eqd, h4]
  subst h4
  by_cases h5 : a5 = b5
  case neg => simp [eqd, h5]
  subst h5
  simp [eqd]
/- The law FnFrames, on the printed functions alone. -/

theorem ibits8 (op : BinOp) (x y : Int) : 0 ≤ ibits op .u8 x y ∧ ibits op .u8 x y < 256 := by
  unfold ibits
  split <;> (rw [w8]; omega)
theorem bytes_set {l : List Int} (h : bytes l) (i : Nat) {v : Int} (hv : 0 ≤ v ∧ v < 256) : bytes (l.set i v) := fun z hz => by
  rcases List.mem_or_eq_of_mem_set hz with h' | rfl
  · exact h z h'
  · exact hv
theorem bytes_take {l : List Int} (h : bytes l) (i : Nat) : bytes (l.take i) := fun z hz => h z (List.mem_of_mem_take hz)
theorem l7Spoil_ok (s : DL1Cur) (hs : srcOk s) (b : List Int) (hb : bytes b) (hl : b.length ≤ 500000) : ∃ r : List Int × DL1Cur, F.spec_l7Spoil s b = some r ∧ bytes r.1 ∧ r.1.length ≤ 1000000 := by
  unfold F.spec_l7Spoil
  by_cases h0 : b.length = 0
  · rw [show (len b == 0) = true by simp only [len, beq_iff_eq]; omega]
    exact ⟨_, rfl, hb, by simp only; omega⟩
  rw [show (len b == 0) = false by simp only [len, beq_eq_false_iff_ne, ne_eq]; omega]
  obtain ⟨v1, s1, e1, _, _, k1⟩ := l1Below_ok s hs 6 (by omega) (by omega)
  simp only [cond_false, e1, Option.bind_some]
  cases (v1 == 0) with
  | true =>
    obtain ⟨v2, s2, e2, a2, b2, k2⟩ := l1Below_any s1 k1 (len b) (by simp only [len]; omega)
    have b2 : v2 < (b.length : Int) := by rcases b2 with h | ⟨h, _⟩ <;> simp only [len] at h <;> omega
    obtain ⟨v3, s3, e3, _, _, k3⟩ := l1Below_ok s2 k2 255 (by omega) (by omega)
    simp only [cond_true, e2, e3, Option.bind_some, inb_of a2 b2, chk_true]
    exact ⟨_, rfl, bytes_set hb _ (ibits8 _ _ _), by simp only [List.length_set]; omega⟩
  | false =>
  simp only [cond_false]
  cases (v1 == 1) with
  | true =>
    obtain ⟨v2, s2, e2, a2, b2, k2⟩ := l1Below_any s1 k1 (len b) (by simp only [len]; omega)
    have b2 : v2 < (b.length : Int) := by rcases b2 with h | ⟨h, _⟩ <;> simp only [len] at h <;> omega
    simp only [cond_true, e2, Option.bind_some]
    rw [cutOk_of (by omega) a2 (by omega)]
    exact ⟨_, rfl, bytes_take hb _, by simp only [List.drop_zero, List.length_take]; omega⟩
  | false =>
  simp only [cond_false]
  cases (v1 == 2) with
  | true =>
    simp only [cond_true]
    by_cases h8 : 8 < b.length
    · rw [show decide (len b > 8) = true from decide_eq_true (by simp only [len]; omega)]
      have ew : w64 (len b - 7) = (b.length : Int) - 7 := by rw [w64_id (by simp only [len]; omega) (by simp only [len]; omega)]
      obtain ⟨v2, s2, e2, a2, b2, k2⟩ := l1Below_any s1 k1 ((b.length : Int) - 7) (by omega)
      have b2 : v2 < (b.length : Int) - 7 := by rcases b2 with h | ⟨h, _⟩ <;> omega
      obtain ⟨v3, s3, e3, _, _, k3⟩ := l1Below_ok s2 k2 255 (by omega) (by omega)
      have e4 : w64 (2 + v2) = 2 + v2 := w64_id (by omega) (by omega)
      simp only [cond_true, ew, e2, e3, e4, Option.bind_some, inb_of (i := 2 + v2) (n := b.length) (by omega) (by omega), chk_true]
      generalize hq : b.set (2 + v2).toNat _ = q
      have hbq : bytes q := by rw [← hq]; exact bytes_set hb _ (ibits8 _ _ _)
      have hlq : q.length = b.length := by rw [← hq, List.length_set]
      have e5 : w64 (len q - 4) = ((q.length - 4 : Nat) : Int) := by rw [w64_id (by simp only [len]; omega) (by simp only [len]; omega)]; simp only [len]; omega
      rw [e5, cutOk_of (l := 0) (n := ((q.length - 4 : Nat) : Int)) (by omega) (by omega) (by omega)]
      simp only [chk_true, Int.toNat_natCast, Nat.sub_zero, List.drop_zero, List.nil_append, List.length_nil, Nat.zero_add]
      have hlt : (q.take (q.length - 4)).length ≤ 500000 := by rw [List.length_take]; omega
      rw [fits_of (by omega), l7Sum_eq _ (by omega) (bytes_take hbq _)]
      simp only [chk_true, Option.bind_some]
      rw [fits_of (by rw [show (sumB (q.take (q.length - 4))).length = 4 from rfl]; omega)]
      refine ⟨_, rfl, bytes_app (bytes_take hbq _) (sumB_bytes _), ?_⟩
      simp only [List.length_append, show (sumB (q.take (q.length - 4))).length = 4 from rfl]
      omega
    · rw [show decide (len b > 8) = false from decide_eq_false (by simp only [len]; omega)]
      exact ⟨_, rfl, hb, by simp only; omega⟩
  | false => exact ⟨_, rfl, hb, by simp only; omega⟩
theorem drawRaw_ok (a : List Int) (h : a.length ≤ 1048576) : ∃ L : List Int, F.spec_DrawFrameOf a = some L ∧ bytes L ∧ L.length ≤ 1048576 := by
  unfold F.spec_DrawFrameOf
  obtain ⟨s, e0, k0⟩ := l1New_ok a h
  obtain ⟨r, e1, hr, k1⟩ := l7Draw_ok s k0
  obtain ⟨b, s2, e2, k2⟩ := l1Once_ok r.2 k1 2 (by omega) (by omega)
  have hsm := frB_small (f := r.1) (by omega)
  simp only [e0, e1, (frB_eq r.1 (by omega)).1, e2, Option.bind_some]
  cases b with
  | true => exact ⟨_, rfl, frB_bytes _, by omega⟩
  | false =>
    obtain ⟨q, e3, hb, hl⟩ := l7Spoil_ok s2 k2 (frB r.1) (frB_bytes _) (by omega)
    simp only [cond_false, e3, Option.bind_some]
    exact ⟨_, rfl, hb, by omega⟩
theorem drawSk_ok (a : List Int) (h : a.length ≤ 1048576) : ∃ s : DSketch, F.spec_DrawSketchBytes a = some s ∧ zSketch s ≤ 40 := by
  unfold F.spec_DrawSketchBytes
  obtain ⟨s, e0, k0⟩ := l1New_ok a h
  obtain ⟨r, e1, hr, k1⟩ := l3Draw_ok s k0
  simp only [e0, e1, Option.bind_some]
  exact ⟨_, rfl, hr⟩
theorem drawSkOf_ok (a : List Int) (h : a.length ≤ 1048576) : ∃ L : List Int, F.spec_DrawSketchOf a = some L ∧ bytes L ∧ L.length ≤ 1048576 := by
  unfold F.spec_DrawSketchOf
  obtain ⟨s, e0, k0⟩ := l1New_ok a h
  obtain ⟨r, e1, hr, k1⟩ := l3Draw_ok s k0
  have hl := skB_small r.1
  have hb := skB_bytes r.1
  simp only [e0, e1, (skBytes_eq r.1 (by omega)).1, Option.bind_some]
  generalize skB r.1 = B at hl hb
  by_cases hpos : 0 < B.length
  · rw [show decide (len B > 0) = true from decide_eq_true (by simp only [len]; omega)]
    obtain ⟨v2, s2, e2, _, _, k2⟩ := l1Below_ok r.2 k1 5 (by omega) (by omega)
    obtain ⟨v3, s3, e3, a3, b3, k3⟩ := l1Below_any s2 k2 (len B) (by simp only [len]; omega)
    have b3 : v3 < (B.length : Int) := by rcases b3 with h | ⟨h, _⟩ <;> simp only [len] at h <;> omega
    obtain ⟨v4, s4, e4, _, _, k4⟩ := l1Byte_ok s3 k3
    simp only [cond_true, e2, e3, e4, Option.bind_some, List.length_cons, List.length_nil]
    rw [fits_of (by omega), cutOk_of (l := 0) (n := v3) (by omega) a3 (by omega), inb_of a3 b3]
    cases (v2 == 0) with
    | true => exact ⟨_, rfl, bytes_app hb (fun z hz => by rw [List.mem_singleton.1 hz]; omega), by simp only [List.length_append, List.length_cons, List.length_nil]; omega⟩
    | false =>
    cases (v2 == 1) with
    | true => exact ⟨_, rfl, bytes_take hb _, by simp only [List.drop_zero, List.length_take]; omega⟩
    | false =>
    cases (v2 == 2) with
    | true => exact ⟨_, rfl, bytes_set hb _ (by rw [w8]; omega), by simp only [List.length_set]; omega⟩
    | false => exact ⟨_, rfl, hb, by omega⟩
  · rw [show decide (len B > 0) = false from decide_eq_false (by simp only [len]; omega)]
    exact ⟨_, rfl, hb, by omega⟩
theorem part_a (f : DFrame) (hz : zFrame f ≤ 1000) : ∃ b g, F.impl_FrameOf (frB f) = some (g, b) ∧ F.spec_FrameOk f = some b ∧ (b = true → g = f) := by
  obtain ⟨b, o1, _, o2⟩ := frOk_same f (by omega)
  by_cases h : FrR f
  · have := o2.2 h
    subst this
    exact ⟨true, f, implFrameOf_put f h (by omega), o1, fun _ => rfl⟩
  · have hb : b = false := by
      cases b with
      | false => rfl
      | true => exact absurd (o2.1 rfl) h
    subst hb
    have hn : frB f = [] := by unfold frB; rw [if_neg h]
    obtain ⟨r, e, k⟩ := implFrameOf_any (frB f) (by rw [hn]; simp) (frB_bytes f)
    rcases k with ⟨_, k1, k2, _⟩ | rfl
    · have := frB_long k1
      rw [k2, hn] at this
      simp at this
    · exact ⟨false, _, e, o1, fun h => by cases h⟩
theorem part_b (L : List Int) (hl : L.length ≤ 1048576) (hb : bytes L) : ∃ b g, F.impl_FrameOf L = some (g, b) ∧ F.spec_FrameOf L = some (g, b) ∧ (b = true → F.impl_FrameBytes g = some L) := by
  obtain ⟨r, e1, e2, _⟩ := frameOf_same L hl hb
  obtain ⟨q, e3, k⟩ := implFrameOf_any L hl hb
  rw [e2] at e3; cases e3
  refine ⟨r.2, r.1, e2, e1, fun h => ?_⟩
  rcases k with ⟨_, k1, k2, k3⟩ | rfl
  · rw [(frB_eq r.1 k3).2, k2]
  · cases h
theorem numsB_ne {l : List Int} (h : nums l) (h0 : l ≠ []) : numsB l ≠ [] := by
  cases l with
  | nil => exact absurd rfl h0
  | cons x l =>
    have := numB_pos (h x (by simp)).1 (h x (by simp)).2
    intro e
    have := congrArg List.length e
    rw [numsB_cons, List.length_append, List.length_nil] at this
    omega
theorem skNums_nums {s : DSketch} (h : SkR s) : nums (skNums s) ∧ skNums s ≠ [] := by
  obtain ⟨a, b, c, d, hi, re, r0, r1, rfl, l1, l2, l3, l4, ha, hb, hc, hdd, n1, n2, n3, n4⟩ := skR_parts h
  rw [skNums_eq]
  refine ⟨fun x hx => ?_, by simp⟩
  simp only [List.mem_cons, List.mem_append] at hx
  rcases hx with rfl | rfl | rfl | rfl | hx | hx | hx | hx
  · exact ha
  · exact hb
  · exact hc
  · exact hdd
  · exact n1 x hx
  · exact n2 x hx
  · exact n3 x hx
  · exact n4 x hx
theorem part_c (s : DSketch) (hz : zSketch s ≤ 1000) : ∃ b t, F.impl_SketchOf (skB s) = some (t, b) ∧ F.spec_SketchOk s = some b ∧ (b = true → t = s) := by
  obtain ⟨b, o1, _, o2⟩ := skOk_same s (by omega)
  by_cases h : SkR s
  · have := o2.2 h
    subst this
    have e : skB s = numsB (skNums s) := by unfold skB; rw [if_pos h]
    rw [e]
    exact ⟨true, s, implSkOf_put s h (by omega), o1, fun _ => rfl⟩
  · have hb : b = false := by
      cases b with
      | false => rfl
      | true => exact absurd (o2.1 rfl) h
    subst hb
    have hn : skB s = [] := by unfold skB; rw [if_neg h]
    obtain ⟨r, e, k⟩ := implSkOf_any (skB s) (by rw [hn]; simp) (skB_bytes s)
    rcases k with ⟨_, k1, k2, _⟩ | rfl
    · rw [hn] at k2
      exact absurd k2.symm (numsB_ne (skNums_nums k1).1 (skNums_nums k1).2)
    · exact ⟨false, _, e, o1, fun h => by cases h⟩
theorem part_d (L : List Int) (hl : L.length ≤ 1048576) (hb : bytes L) : ∃ b u, F.impl_SketchOf L = some (u, b) ∧ F.spec_SketchOf L = some (u, b) ∧ (b = true → F.impl_SketchBytes u = some L) := by
  obtain ⟨r, e1, e2, k⟩ := skOf_same L hl hb
  refine ⟨r.2, r.1, e2, e1, fun h => ?_⟩
  rcases k with ⟨_, k1, k2, k3⟩ | rfl
  · rw [(skBytes_eq r.1 k3).2]
    unfold skB
    rw [if_pos k1, ← k2]
  · cases h
theorem fnFrames_law (a : List Int) (hb : bytes a) : F.laws_FnFrames a = some true := by
  unfold F.laws_FnFrames F.laws_big
  by_cases hl : a.length ≤ 1048576
  case neg =>
    rw [show decide (len a > 1048576) = true from decide_eq_true (by simp only [len]; omega)]; rfl
  rw [show decide (len a > 1048576) = false from decide_eq_false (by simp only [len]; omega)]
  obtain ⟨f, e1, hz⟩ := drawFr_ok a hl
  obtain ⟨L, e2, hL1, hL2⟩ := drawRaw_ok a hl
  obtain ⟨s, e3, hs⟩ := drawSk_ok a hl
  obtain ⟨M, e4, hM1, hM2⟩ := drawSkOf_ok a hl
  obtain ⟨bA, gA, a1, a2, a3⟩ := part_a f (by omega)
  obtain ⟨bB, gB, b1, b2, b3⟩ := part_b L hL2 hL1
  obtain ⟨bC, gC, c1, c2, c3⟩ := part_c s (by omega)
  obtain ⟨bD, gD, d1, d2, d3⟩ := part_d M hM2 hM1
  have h2 := (frB_eq f (by omega)).2
  have h3 := (skBytes_eq s (by omega)).2
  have sf : F.spec_FrameSame f f = some true := by rw [spec_FrameSame_dec f f (by omega), eqd_self]
  have ss : F.spec_SketchSame s s = some true := by rw [spec_SketchSame_dec s s (by omega), eqd_self]
  simp only [Option.bind_some, cond_false, e1, e2, e3, e4, h2, h3, a1, a2, b1, b2, c1, c2, d1, d2, beq_self_eq_true, Bool.not_true, cond_true]
  cases bA with
  | true =>
    have := a3 rfl
    subst this
    simp only [cond_true, sf, Option.bind_some, Bool.not_true, cond_false]
    cases bB with
    | true =>
      simp only [cond_true, b3 rfl, Option.bind_some, tb_self, Bool.not_true, cond_false]
      cases bC with
      | true =>
        have := c3 rfl
        subst this
        cases bD with
        | true => simp only [Bool.not_true, cond_false, cond_true, ss, Option.bind_some, d3 rfl, tb_self]
        | false => simp only [Bool.not_true, Bool.not_false, cond_false, cond_true, ss, Option.bind_some]
      | false =>
        cases bD with
        | true => simp only [Bool.not_true, Bool.not_false, cond_false, cond_true, Option.bind_some, d3 rfl, tb_self]
        | false => simp only [Bool.not_false, cond_true]
    | false =>
      simp only [cond_false]
      cases bC with
      | true =>
        have := c3 rfl
        subst this
        cases bD with
        | true => simp only [Bool.not_true, cond_false, cond_true, ss, Option.bind_some, d3 rfl, tb_self]
        | false => simp only [Bool.not_true, Bool.not_false, cond_false, cond_true, ss, Option.bind_some]
      | false =>
        cases bD with
        | true => simp only [Bool.not_true, Bool.not_false, cond_false, cond_true, Option.bind_some, d3 rfl, tb_self]
        | false => simp only [Bool.not_false, cond_true]
  | false =>
    simp only [cond_false]
    cases bB with
    | true =>
      simp only [cond_true, b3 rfl, Option.bind_some, tb_self, Bool.not_true, cond_false]
      cases bC with
      | true =>
        have := c3 rfl
        subst this
        cases bD with
        | true => simp only [Bool.not_true, cond_false, cond_true, ss, Option.bind_some, d3 rfl, tb_self]
        | false => simp only [Bool.not_true, Bool.not_false, cond_false, cond_true, ss, Option.bind_some]
      | false =>
        cases bD with
        | true => simp only [Bool.not_true, Bool.not_false, cond_false, cond_true, Option.bind_some, d3 rfl, tb_self]
        | false => simp only [Bool.not_false, cond_true]
    | false =>
      simp only [cond_false]
      cases bC with
      | true =>
        have := c3 rfl
        subst this
        cases bD with
        | true => simp only [Bool.not_true, cond_false, cond_true, ss, Option.bind_some, d3 rfl, tb_self]
        | false => simp only [Bool.not_true, Bool.not_false, cond_false, cond_true, ss, Option.bind_some]
      | false =>
        cases bD with
        | true => simp only [Bool.not_true, Bool.not_false, cond_false, cond_true, Option.bind_some, d3 rfl, tb_self]
        | false => simp only [Bool.not_false, cond_true]
end Go.Proofs.Ytnpmjlppjcemmaa.Vm
