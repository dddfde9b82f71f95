/- At a loop's head: the state that the items tell. -/
import Derived.Test.YtabjfkongckhaaaVmR
namespace Go.Proofs.Ytabjfkongckhaaa.Vm
open Go Go.RowKit
set_option linter.unusedVariables false

theorem since_zero (log : List (Nat × Bool)) (s : Nat) (ho : Bool) : since log s 0 ho = true := by
  have : ∀ x : Nat, Nat.blt x 0 = false := fun x => by
    cases hb : Nat.blt x 0 with
    | false => rfl
    | true => rw [Nat.blt_eq] at hb; omega
  simp [since, bad, this]
theorem clean_since {log : List (Nat × Bool)} (h : since (clean log) 0 1 false = true) : since log 0 1 false = true := by
  unfold clean at h
  cases hs : since log 0 1 false with
  | true => rfl
  | false => rw [hs] at h; cases h
theorem eqO_spec : ∀ {a b : Option Nat}, eqO a b = true → a = b
  | none, none, _ => rfl
  | some a, some b, h => by rw [Nat.eq_of_beq_eq_true h]
  | none, some _, h => by cases h
  | some _, none, h => by cases h
theorem eqBool_spec : ∀ {a b : Bool}, eqBool a b = true → a = b
  | true, true, _ => rfl
  | false, false, _ => rfl
  | true, false, h => by cases h
  | false, true, h => by cases h
theorem nodupN_cons {x : Nat} {l : List Nat} (h : nodupN (x :: l) = true) : x ∉ l ∧ nodupN l = true := by
  simp only [nodupN, Bool.and_eq_true, Bool.not_eq_true', List.any_eq_false] at h
  refine ⟨fun hm => ?_, h.2⟩
  have := h.1 x hm
  simp at this
theorem avr_pat {w w' : World} {Sh : Nat → Prop} {R R' : Nat → Option Root} {D D' : Nat → DRoot} : ∀ {p : Pat} {x : p.den} {cs : List Value}, AVC w Sh R D (p.av x) cs → AVC w Sh R' D' (p.av x) cs
  | .val t, x, cs, h => h
  | .sptr t, x, cs, h => h
  | .fn f c, x, cs, h => by
    obtain ⟨cc, h1, h2⟩ := h
    exact ⟨cc, h1, avr_pat (w' := w) h2⟩
  | .nil, x, cs, h => h
  | .cons a r, x, cs, h => by
    obtain ⟨c0, c1, h0, h1, h2⟩ := h
    exact ⟨c0, c1, h0, avr_pat (w' := w) h1, avr_pat (w' := w) h2⟩
theorem pat_avs {w : World} {Sh : Nat → Prop} {R : Nat → Option Root} {D : Nat → DRoot} {p : Pat} {x : p.den} {v : Value} : AVR w Sh R D (p.av x) v ↔ AVS w Sh R D (p.av x) v := by
  cases p <;> exact Iff.rfl

section
variable {C : Ctx} {T : Nat → AV} {R : Nat → Option Root} {D : Nat → DRoot} {Sh : Nat → Prop} {F : List DV} {a : Act} {w : World}
theorem canonV_ok : ∀ {x : AV} {t : Ty} {v : V} {cs : List Value}, canonV t x = some v → AVC w Sh R D x cs → Ty.RR w Sh v.t v.x cs
  | .sh t' y, t, v, cs, h, hc => by simp only [canonV] at h; cases h; exact hc
  | .nilsl, t, v, cs, h, hc => by
    cases t <;> simp only [canonV] at h <;> try (cases h; done)
    cases h; cases hc
    exact ⟨none, 0, rfl, Nat.le_refl _, Nat.zero_le _, fun i x hx => by cases hx⟩
  | .nilf, t, v, cs, h, hc => by
    cases t <;> simp only [canonV] at h <;> try (cases h; done)
    cases h; exact hc
  | .consf x y, t, v, cs, h, hc => by
    cases t <;> simp only [canonV] at h <;> try (cases h; done)
    split at h
    · rename_i u z h1 h2
      cases h
      obtain ⟨c0, c1, rfl, hc0, hc1⟩ := hc
      exact ⟨c0, c1, rfl, canonV_ok h1 hc0, canonV_ok h2 hc1⟩
    · cases h
  | .any, t, v, cs, h, hc | .al _ _ _ _, t, v, cs, h, hc | .cut _ _ _ _ _ _, t, v, cs, h, hc | .ptr _ _ _, t, v, cs, h, hc | .sptr _ _, t, v, cs, h, hc | .fn _ _, t, v, cs, h, hc | .tup _, t, v, cs, h, hc => by
    cases t <;> simp only [canonV] at h <;> cases h
theorem canonV_agg : ∀ {x : AV} {t : Ty} {v : V}, canonV t x = some v → x.agg = v.t.agg
  | .sh t' y, t, v, h => by simp only [canonV] at h; cases h; rfl
  | .nilsl, t, v, h => by
    cases t <;> simp only [canonV] at h <;> try (cases h; done)
    cases h; rfl
  | .nilf, t, v, h => by
    cases t <;> simp only [canonV] at h <;> try (cases h; done)
    cases h; rfl
  | .consf x y, t, v, h => by
    cases t <;> simp only [canonV] at h <;> try (cases h; done)
    split at h
    · cases h; rfl
    · cases h
  | .any, t, v, h | .al _ _ _ _, t, v, h | .cut _ _ _ _ _ _, t, v, h | .ptr _ _ _, t, v, h | .sptr _ _, t, v, h | .fn _ _, t, v, h | .tup _, t, v, h => by
    cases t <;> simp only [canonV] at h <;> cases h
theorem canon_ok : ∀ {p : Pat} {x : AV} {y : p.den} {cs : List Value}, canon p x = some y → AVC w Sh R D x cs → AVC w Sh R D (p.av y) cs ∧ (p.av y).agg = x.agg
  | .val t, x, y, cs, h, hc => by
    simp only [canon] at h
    split at h
    · rename_i v hv
      obtain ⟨e, rfl⟩ := asT_some h
      refine ⟨Ty.RR_same e (canonV_ok hv hc), ?_⟩
      show t.agg = _
      rw [canonV_agg hv, Ty.agg_same e]
    · cases h
  | .sptr t, x, y, cs, h, hc => by
    cases x <;> simp only [canon] at h <;> try (cases h; done)
    obtain ⟨e, rfl⟩ := asT_some h
    obtain ⟨b, o, cc, hcs, hb, hR, hcell⟩ := hc
    exact ⟨⟨b, o, cc, hcs, hb, Ty.RR_same e hR, hcell⟩, rfl⟩
  | .fn f c, x, y, cs, h, hc => by
    cases x <;> simp only [canon] at h <;> try (cases h; done)
    rename_i g z
    cases hb : Nat.beq f g with
    | false => rw [hb] at h; cases h
    | true =>
      rw [hb] at h
      have e := Nat.eq_of_beq_eq_true hb
      subst e
      obtain ⟨cc, h1, h2⟩ := hc
      exact ⟨⟨cc, h1, (canon_ok h h2).1⟩, rfl⟩
  | .nil, x, y, cs, h, hc => by
    cases x <;> simp only [canon] at h <;> try (cases h; done)
    exact ⟨hc, rfl⟩
  | .cons p1 p2, x, y, cs, h, hc => by
    cases x <;> simp only [canon] at h <;> try (cases h; done)
    split at h
    · rename_i u v h1 h2
      cases h
      obtain ⟨c0, c1, hcs, hc0, hc1⟩ := hc
      exact ⟨⟨c0, c1, hcs, (canon_ok h1 hc0).1, (canon_ok h2 hc1).1⟩, rfl⟩
    · cases h
theorem canon_avr {p : Pat} {x : AV} {y : p.den} {v : Value} (h : canon p x = some y) (hv : AVR w Sh R D x v) : AVR w Sh R D (p.av y) v := by
  have hne : x ≠ .any := fun e => by
    subst e
    cases p <;> simp only [canon, canonV] at h <;> cases h
  have hnt : ∀ c, x ≠ .tup c := fun c e => by
    subst e
    cases p <;> simp only [canon, canonV] at h <;> cases h
  obtain ⟨cs, hc, hvv⟩ := avs_of_avr hv hne hnt
  obtain ⟨h1, h2⟩ := canon_ok h hc
  exact pat_avs.2 ⟨cs, h1, by rw [h2]; exact hvv⟩

/-- What is told of the slots and the roots. -/
def Told (R0 : Nat → Option Root) (T : Nat → AV) (w : World) (Sh : Nat → Prop) (R : Nat → Option Root) (D : Nat → DRoot) (a : Act) : (is : List Item) → itemsT is → List DV → Prop
  | [], _, zs => zs = []
  | .pat s p :: is, x, zs => AVR w Sh R D (p.av x.1) (a.tmps.getD s undef) ∧ Told R0 T w Sh R D a is x.2 zs
  | .own s t :: is, x, zs => ∃ (d : t.dec) (zs' : List DV), zs = ⟨t, d⟩ :: zs' ∧ t.er d = x.1 ∧ a.tmps.getD s undef = mkw t.agg (t.cs d) ∧ t.flat = false ∧ Told R0 T w Sh R D a is x.2 zs'
  | .root k blk t ps :: is, x, zs => (∃ r0 r, R0 k = some r0 ∧ R k = some r ∧ r.v = ⟨t, x.1⟩ ∧ r0.blk = r.blk ∧ r.blk = blk ∧ r0.org = r.org ∧ r0.pin = r.pin ∧ (∀ i, r.org = some i → since r0.log 0 1 false = true → since r.log 0 1 false = true) ∧
      (∀ s ∈ ps, blk = true → ∃ s', T s = .ptr k [] s') ∧ (∀ s ∈ ps, blk = false → ∃ s', T s = .al k [] s' t ∧ since r.log s' 1 (!t.agg) = true)) ∧ Told R0 T w Sh R D a is x.2 zs
theorem Told.keep {R0 : Nat → Option Root} {Sh' : Nat → Prop} {R' : Nat → Option Root} {D' : Nat → DRoot} (K : Keeps w w Sh Sh' R R' D D') : ∀ {is : List Item} {x : itemsT is} {zs : List DV}, (∀ id ∈ itemIds is, (is.any isRoot = true) → R' id = R id) → Told R0 T w Sh R D a is x zs → Told R0 T w Sh' R' D' a is x zs
  | [], x, zs, hR, h => h
  | .pat s p :: is, x, zs, hR, h => ⟨K.avr h.1, Told.keep K (fun id hid hr => hR id hid (by simpa [isRoot] using hr)) h.2⟩
  | .own s t :: is, x, zs, hR, h => by
    obtain ⟨d, zs', h1, h2, h3, h4, h5⟩ := h
    exact ⟨d, zs', h1, h2, h3, h4, Told.keep K (fun id hid hr => hR id (List.mem_cons_of_mem _ hid) (by simpa [isRoot] using hr)) h5⟩
  | .root k blk t ps :: is, x, zs, hR, h => by
    obtain ⟨⟨r0, r, g1, g2, g3⟩, h2⟩ := h
    exact ⟨⟨r0, r, g1, (hR k (by simp [itemIds]) (by simp [isRoot])).trans g2, g3⟩, Told.keep K (fun id hid hr => hR id (List.mem_cons_of_mem _ hid) (by simp [isRoot])) h2⟩

theorem root_step {R0 : Nat → Option Root} {k : Nat} {blk : Bool} {t : Ty} {ps : List Nat} {ws ws' : Writes} {x : t.den} (h : matchI R0 T R (.root k blk t ps) ws = some (x, ws')) :
    ws' = ws ∧ ∃ r0 r, R0 k = some r0 ∧ app ws R k = some r ∧ sameR r0 r t = true ∧ r.blk = blk ∧ (blk = false → r.v.t = t) ∧ toT r.v t = some x ∧
      (∀ s ∈ ps, blk = true → ∃ s', T s = .ptr k [] s') ∧ (∀ s ∈ ps, blk = false → ∃ s', T s = .al k [] s' t ∧ since r.log s' 1 (!t.agg) = true) := by
  simp only [matchI] at h
  cases h0 : R0 k with
  | none => rw [h0] at h; cases h
  | some r0 =>
    cases h1 : app ws R k with
    | none => rw [h0, h1] at h; cases h
    | some r =>
      rw [h0, h1] at h
      simp only at h
      generalize hc : (sameR r0 r t && eqBool blk r.blk && (blk || decide (r.v.t = t)) && ps.all (fun s => match T s with
        | .ptr j [] _ => blk && Nat.beq j k
        | .al j [] s' t' => !blk && Nat.beq j k && okR r s' 1 (!t'.agg) && decide (t' = t)
        | _ => false)) = c at h
      cases c with
      | false => cases h
      | true =>
        simp only [cond_true] at h
        cases ht : toT r.v t with
        | none => rw [ht] at h; cases h
        | some y =>
          rw [ht] at h; cases h
          simp only [Bool.and_eq_true, List.all_eq_true] at hc
          obtain ⟨⟨⟨c1, c2⟩, c3⟩, c4⟩ := hc
          refine ⟨rfl, r0, r, rfl, rfl, c1, (eqBool_spec c2).symm, fun hb => ?_, ht, fun s hs hb => ?_, fun s hs hb => ?_⟩
          · rw [hb] at c3; simpa using c3
          · have := c4 s hs
            split at this
            · rename_i j s' hT
              rw [Bool.and_eq_true] at this
              rw [Nat.eq_of_beq_eq_true this.2] at hT
              exact ⟨s', hT⟩
            · rw [hb] at this; simp at this
            · cases this
          · have := c4 s hs
            split at this
            · rw [hb] at this; simp at this
            · rename_i j s' t' hT
              simp only [Bool.and_eq_true] at this
              obtain ⟨⟨⟨_, e1⟩, e2⟩, e3⟩ := this
              have e3 := of_decide_eq_true e3
              subst e3
              rw [Nat.eq_of_beq_eq_true e1] at hT
              exact ⟨s', hT, (okR_spec e2).2⟩
            · cases this
theorem sameR_spec {r0 r : Root} {t : Ty} (h : sameR r0 r t = true) : r0.blk = r.blk ∧ r0.org = r.org ∧ r0.pin = r.pin ∧ (∀ i, r.org = some i → r.v.t = t ∧ (since r0.log 0 1 false = true → since r.log 0 1 false = true)) := by
  unfold sameR at h
  simp only [Bool.and_eq_true] at h
  obtain ⟨⟨⟨h1, h2⟩, h3⟩, h4⟩ := h
  refine ⟨eqBool_spec h1, eqO_spec h2, eqO_spec h3, fun i hi => ?_⟩
  rw [hi] at h4
  simp only [Option.isNone_some, Bool.false_or, Bool.and_eq_true, decide_eq_true_eq] at h4
  refine ⟨h4.1, fun hs => ?_⟩
  have := h4.2
  rw [hs] at this
  simpa using this
theorem V_eta {v : V} {t : Ty} {x : t.den} (ht : v.t = t) (h : toT v t = some x) : v = ⟨t, x⟩ := by
  obtain ⟨t', y⟩ := v
  have ht : t' = t := ht
  subst ht
  obtain ⟨hl, e⟩ := toT_some h
  rw [e]; rfl

theorem like_of_shr : ∀ {t t' : Ty}, t.shr = t'.shr → like t t' = true
  | .cons a r, t', h => by
    cases t' <;> simp only [Ty.shr, Ty.cons.injEq, reduceCtorEq] at h
    simp only [like, like_of_shr h.1, like_of_shr h.2, Bool.and_self]
  | .nil, t', h => by cases t' <;> simp only [Ty.shr] at h <;> cases h; rfl
  | .sl _ _ _, t', h => by cases t' <;> simp only [Ty.shr] at h <;> first | rfl | cases h
  | .int _, t', h | .bool, t', h | .str, t', h | .hole, t', h => by cases t' <;> simp only [Ty.shr] at h <;> first | rfl | cases h
theorem matchL_out {R0 : Nat → Option Root} {k : Nat} {r : Root} : ∀ {is : List Item} {ws : Writes}, is.all isRoot = true → k ∉ itemIds is → matchL R0 T R is ((k, r) :: ws) = matchL R0 T R is ws
  | [], ws, ha, hk => rfl
  | .pat _ _ :: is, ws, ha, hk => by simp [isRoot] at ha
  | .own _ _ :: is, ws, ha, hk => by simp [isRoot] at ha
  | .root j blk t ps :: is, ws, ha, hk => by
    have hj : j ≠ k := fun e => hk (by rw [e]; exact List.mem_cons_self)
    have e : app ((k, r) :: ws) R j = app ws R j := upt_ne _ _ hj
    have hi : ∀ ws0, matchI R0 T R (.root j blk t ps) ws0 = (match R0 j, app ws0 R j with
      | some r0, some r => bif sameR r0 r t && eqBool blk r.blk && (blk || decide (r.v.t = t)) && ps.all (fun s => match T s with
          | .ptr j' [] _ => blk && Nat.beq j' j
          | .al j' [] s' t' => !blk && Nat.beq j' j && okR r s' 1 (!t'.agg) && decide (t' = t)
          | _ => false) then match toT r.v t with
        | some x => some (x, ws0)
        | none => none else none
      | _, _ => none) := fun _ => rfl
    have ih : ∀ ws, matchL R0 T R is ((k, r) :: ws) = matchL R0 T R is ws := fun ws => matchL_out (is := is) (ws := ws) (by simpa [isRoot] using ha) (fun h => hk (List.mem_cons_of_mem _ h))
    cases h1 : matchI R0 T R (.root j blk t ps) ws with
    | none =>
      have h2 : matchI R0 T R (.root j blk t ps) ((k, r) :: ws) = none := by
        rw [hi] at h1 ⊢
        rw [e]
        revert h1
        split
        · generalize (sameR _ _ t && eqBool blk _ && (blk || decide (_ = t)) && ps.all _) = c
          cases c
          · simp
          · simp only [cond_true]
            split <;> simp
        · simp
      simp only [matchL, h1, h2]
    | some q =>
      obtain ⟨y, ws1⟩ := q
      obtain ⟨rfl, _⟩ := root_step h1
      have h2 : matchI R0 T R (.root j blk t ps) ((k, r) :: ws1) = some (y, (k, r) :: ws1) := by
        rw [hi] at h1 ⊢
        rw [e]
        revert h1
        split
        · generalize (sameR _ _ t && eqBool blk _ && (blk || decide (_ = t)) && ps.all _) = c
          cases c
          · simp
          · simp only [cond_true]
            split <;> simp
        · simp
      simp only [matchL, h1, h2, ih ws1]
theorem match_ok {R0 : Nat → Option Root} : ∀ {is : List Item} {x : itemsT is} {ws : Writes} {D : Nat → DRoot} {Sh : Nat → Prop} {F : List DV}, matchL R0 T R is ws = some x → rootsLast is = true → nodupN (itemIds is) = true → RelF C ⟨T, app ws R⟩ D Sh F a w →
    ∃ (R' : Nat → Option Root) (D' : Nat → DRoot) (Sh' : Nat → Prop) (zs : List DV), (∀ b, Sh b → Sh' b) ∧ Keeps w w Sh Sh' (app ws R) R' D D' ∧ RelF C ⟨T, R'⟩ D' Sh' (zs ++ F) a w ∧ Told R0 T w Sh' R' D' a is x zs ∧ (is.all isRoot = true → ∀ id, id ∉ itemIds is → R' id = app ws R id)
  | [], x, ws, D, Sh, F, h, hr, hn, hF => ⟨app ws R, D, Sh, [], fun _ h => h, Keeps.grow (fun _ _ => rfl), hF, rfl, fun _ _ _ => rfl⟩
  | .pat s p :: is, x, ws, D, Sh, F, h, hr, hn, hF => by
    simp only [matchL, matchI] at h
    cases hc : canon p (T s) with
    | none => rw [hc] at h; cases h
    | some y =>
      rw [hc] at h
      simp only at h
      cases hm : matchL R0 T R is ws with
      | none => rw [hm] at h; cases h
      | some z =>
        rw [hm] at h; cases h
        obtain ⟨R', D', Sh', zs, h1, h2, h3, h4, h5⟩ := match_ok hm (by simpa [rootsLast, isRoot] using hr) hn hF
        exact ⟨R', D', Sh', zs, h1, h2, h3, ⟨h2.avr (canon_avr hc (hF.rel.tmp s)), h4⟩, fun ha => by simp [isRoot] at ha⟩
  | .own s t :: is, x, ws, D, Sh, F, h, hr, hn, hF => by
    simp only [matchL, matchI] at h
    cases hfl : t.flat with
    | true => rw [hfl] at h; cases h
    | false =>
      rw [hfl] at h
      simp only [cond_false] at h
      cases ht : (takeTo t (T s) ws).go R with
      | none => rw [ht] at h; cases h
      | some q =>
        obtain ⟨y, ws1⟩ := q
        rw [ht] at h
        simp only at h
        cases hm : matchL R0 T R is ws1 with
        | none => rw [hm] at h; cases h
        | some z =>
          rw [hm] at h; cases h
          obtain ⟨D1, Sh1, d, e1, e2, e3, K1, F1⟩ := takeTo_ok ht hF (hF.rel.tmp s)
          obtain ⟨R', D', Sh', zs, h1, h2, h3, h4, h5⟩ := match_ok hm (by simpa [rootsLast, isRoot] using hr) (nodupN_cons (show nodupN (ownId s :: itemIds is) = true from hn)).2 F1
          refine ⟨R', D', Sh', ⟨t, d⟩ :: zs, fun b hb => h1 b (e3 b hb), K1.trans h2, h3.perm (List.perm_middle), ⟨d, zs, rfl, e1, e2, hfl, h4⟩, fun ha => by simp [isRoot] at ha⟩
  | .root k blk t ps :: is, x, ws, D, Sh, F, h, hr, hn, hF => by
    simp only [matchL] at h
    cases hi : matchI R0 T R (.root k blk t ps) ws with
    | none => rw [hi] at h; cases h
    | some q =>
      obtain ⟨y, ws1⟩ := q
      rw [hi] at h
      simp only at h
      cases hm : matchL R0 T R is ws1 with
      | none => rw [hm] at h; cases h
      | some z =>
        rw [hm] at h; cases h
        obtain ⟨rfl, r0, r, g0, g1, g2, g3, g4, g5, g6, g7⟩ := root_step hi
        have hall : is.all isRoot = true := by simpa [rootsLast, isRoot] using hr
        have hrl : rootsLast is = true := by
          clear hm hi hn hr
          induction is with
          | nil => rfl
          | cons i is ih =>
            simp only [List.all_cons, Bool.and_eq_true] at hall
            simp only [rootsLast, hall.1, cond_true, hall.2]
        obtain ⟨hk, hnn⟩ := nodupN_cons (show nodupN (k :: itemIds is) = true from hn)
        obtain ⟨s1, s2, s3, s4⟩ := sameR_spec g2
        by_cases hty : r.v.t = t
        · obtain ⟨R', D', Sh', zs, h1, h2, h3, h4, h5⟩ := match_ok hm hrl hnn hF
          refine ⟨R', D', Sh', zs, h1, h2, h3, ⟨⟨r0, r, g0, (h5 hall k hk).trans g1, V_eta hty g5, s1, g3, s2, s3, fun i hi => (s4 i hi).2, g6, g7⟩, h4⟩, fun _ id hid => h5 hall id (fun hm => hid (List.mem_cons_of_mem _ hm))⟩
        · have hbt : blk = true := by
            cases blk with
            | true => rfl
            | false => exact absurd (g4 rfl) hty
          have horg : r.org = none := by
            cases ho : r.org with
            | none => rfl
            | some i => exact absurd (s4 i ho).1 hty
          have RR := hF.rel.root k r g1
          have hl0 : lookD (D k).dv (D k).base [] = some ((D k).base, (D k).dv) := rfl
          obtain ⟨hlow, hy⟩ := toT_some g5
          have hvt : (D k).dv.er = r.v := RR.er
          have hlow' : lowB (D k).dv.t t = true := by
            have : (D k).dv.t = r.v.t := congrArg V.t hvt
            rw [this]; exact hlow
          have hnd : ((D k).b.toList ++ (D k).dv.foot).Nodup := RR.nd
          obtain ⟨d', l1, l2, l3, l4, l5⟩ := Ty.lower hlow' RR.ok (List.nodup_append.1 hnd).2.1
          let Sh1 : Nat → Prop := fun b => Sh b ∨ (b ∈ (D k).dv.foot ∧ b ∉ t.foot d')
          have her : DV.er ⟨t, d'⟩ = ⟨t, y⟩ := by
            refine congrArg (V.mk t) ?_
            rw [l1, hy]
            clear l1 hy hi hm
            revert hlow hlow' d'
            rw [← hvt]
            intros; rfl
          have hlk : like t (D k).dv.t = true := by
            have hs := (lowB_shr hlow').symm
            clear_value Sh1
            exact like_of_shr hs
          obtain ⟨D1, K1, F1⟩ := hF.swap (Sh' := Sh1) (n := ⟨t, d'⟩) (v' := ⟨t, y⟩) g1 hl0 (by rw [her]; rfl) hlk l2 (fun b hb => .inl hb) (l5 Sh1 (fun b hb => .inl hb) (fun b hb hb' => .inr ⟨hb, hb'⟩)) (fun b hb => hb) l3 l4
          let r1 : Root := stored r [] (DV.er ⟨t, d'⟩) (D k).dv.er ⟨t, y⟩
          have F1' : RelF C ⟨T, app ((k, r1) :: ws1) R⟩ D1 Sh1 F a w := F1
          have hm' : matchL R0 T R is ((k, r1) :: ws1) = some z := by
            rw [← hm]
            exact matchL_out hall hk
          obtain ⟨R', D', Sh', zs, h1, h2, h3, h4, h5⟩ := match_ok hm' hrl hnn F1'
          have hRk : R' k = some r1 := (h5 hall k hk).trans (upt_same _ _ _)
          refine ⟨R', D', Sh', zs, fun b hb => h1 b (.inl hb), K1.trans h2, h3, ⟨⟨r0, r1, g0, hRk, rfl, s1, g3, s2, s3, fun i hi => (by rw [show r1.org = r.org from rfl, horg] at hi; cases hi), g6, fun s hs hb => by rw [hbt] at hb; cases hb⟩, h4⟩, fun _ id hid => ?_⟩
          have hid' : id ≠ k := fun e => hid (e ▸ List.mem_cons_self)
          rw [h5 hall id (fun hm => hid (List.mem_cons_of_mem _ hm))]
          exact upt_ne _ _ hid'
end
end Go.Proofs.Ytabjfkongckhaaa.Vm
