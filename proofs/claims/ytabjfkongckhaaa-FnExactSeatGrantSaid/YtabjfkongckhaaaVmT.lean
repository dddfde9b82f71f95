/- Code, loops. -/
import Derived.Test.YtabjfkongckhaaaVmS
import Derived.LoopN
namespace Go.Proofs.Ytabjfkongckhaaa.Vm
open Go Go.RowKit
set_option linter.unusedVariables false

section
variable {C : Ctx} {T : Nat → AV} {R : Nat → Option Root} {D : Nat → DRoot} {Sh : Nat → Prop} {F : List DV} {a : Act} {w : World}
theorem injR_none {R0 : Nat → Option Root} {id : Nat} : ∀ {is : List Item} {x : itemsT is}, id ∉ itemIds is → injR R0 is x id = none
  | [], x, h => rfl
  | .pat s p :: is, x, h => injR_none (is := is) h
  | .own s t :: is, x, h => by
    simp only [injR]
    rw [nbeq (fun e => h (by rw [← e]; exact List.mem_cons_self))]
    exact injR_none (fun hm => h (List.mem_cons_of_mem _ hm))
  | .root k blk t ps :: is, x, h => by
    simp only [injR]
    rw [nbeq (fun e => h (by rw [← e]; exact List.mem_cons_self))]
    exact injR_none (fun hm => h (List.mem_cons_of_mem _ hm))
theorem injR_root {R0 : Nat → Option Root} {id : Nat} {r' : Root} : ∀ {is : List Item} {x : itemsT is}, is.all isRoot = true → Told R0 T w Sh R D a is x [] → injR R0 is x id = some r' →
    ∃ r0 r, R0 id = some r0 ∧ R id = some r ∧ r' = ⟨r.v, r.blk, clean r0.log, r.org, r.pin⟩ ∧ (∀ i, r.org = some i → since r0.log 0 1 false = true → since r.log 0 1 false = true)
  | [], x, ha, h, hi => by cases hi
  | .pat s p :: is, x, ha, h, hi => by simp [isRoot] at ha
  | .own s t :: is, x, ha, h, hi => by simp [isRoot] at ha
  | .root k blk t ps :: is, x, ha, h, hi => by
    obtain ⟨⟨r0, r, g0, g1, g2, g3, g4, g5, g6, g7, _⟩, h2⟩ := h
    simp only [injR] at hi
    by_cases e : k = id
    · subst e
      rw [show Nat.beq k k = true by simp] at hi
      simp only [cond_true, g0, rootR] at hi
      cases hi
      exact ⟨r0, r, g0, g1, by rw [g2, g3, g5, g6], g7⟩
    · rw [nbeq e] at hi
      exact injR_root (is := is) (by simpa [isRoot] using ha) h2 hi
theorem injT_root {R0 : Nat → Option Root} {t : Nat} : ∀ {is : List Item} {x : itemsT is}, is.all isRoot = true → nodupN (itemIds is) = true → Told R0 T w Sh R D a is x [] → injT is x t = .any ∨ ∃ k blk ty r r', injT is x t = rootAV k blk ty ∧ R k = some r ∧ r.v.t = ty ∧ r.blk = blk ∧ injR R0 is x k = some r' ∧
      (blk = true → ∃ s', T t = .ptr k [] s') ∧ (blk = false → ∃ s', T t = .al k [] s' ty ∧ since r.log s' 1 (!ty.agg) = true)
  | [], x, ha, hn, h => .inl rfl
  | .pat s p :: is, x, ha, hn, h => by simp [isRoot] at ha
  | .own s t :: is, x, ha, hn, h => by simp [isRoot] at ha
  | .root k blk ty ps :: is, x, ha, hn, h => by
    obtain ⟨⟨r0, r, g0, g1, g2, g3, g4, g5, g6, g7, g8, g9⟩, h2⟩ := h
    obtain ⟨hk, hnn⟩ := nodupN_cons (show nodupN (k :: itemIds is) = true from hn)
    simp only [injT]
    cases hp : ps.any (Nat.beq t) with
    | true =>
      right
      obtain ⟨s, hs, hb⟩ := List.any_eq_true.1 hp
      have e := Nat.eq_of_beq_eq_true hb
      subst e
      refine ⟨k, blk, ty, r, ⟨⟨ty, x.1⟩, r0.blk, clean r0.log, r0.org, r0.pin⟩, rfl, g1, by rw [g2], g4, ?_, g8 t hs, g9 t hs⟩
      simp only [injR]
      rw [show Nat.beq k k = true by simp]
      simp only [cond_true, g0, rootR]
    | false =>
      rcases injT_root (is := is) (by simpa [isRoot] using ha) hnn h2 with h | ⟨k', blk', ty', r', r'', e1, e2, e3, e4, e5, e6⟩
      · exact .inl h
      · refine .inr ⟨k', blk', ty', r', r'', e1, e2, e3, e4, ?_, e6⟩
        simp only [injR]
        have hne : k ≠ k' := fun e => by
          rw [← e, injR_none hk] at e5; cases e5
        rw [nbeq hne]
        exact e5
theorem told_nil {R0 : Nat → Option Root} : ∀ {is : List Item} {x : itemsT is} {zs : List DV}, is.all isRoot = true → Told R0 T w Sh R D a is x zs → zs = []
  | [], x, zs, ha, h => h
  | .pat s p :: is, x, zs, ha, h => by simp [isRoot] at ha
  | .own s t :: is, x, zs, ha, h => by simp [isRoot] at ha
  | .root k blk t ps :: is, x, zs, ha, h => told_nil (is := is) (by simpa [isRoot] using ha) h.2
theorem roots_ok {R0 : Nat → Option Root} {is : List Item} {x : itemsT is} (ha : is.all isRoot = true) (hn : nodupN (itemIds is) = true) (hF : RelF C ⟨T, R⟩ D Sh F a w) (h : Told R0 T w Sh R D a is x []) : ∃ D', RelF C ⟨injT is x, injR R0 is x⟩ D' Sh F a w := by
  let D' : Nat → DRoot := fun k => ⟨(D k).dv, (D k).b, match R k with
    | some r => bif r.org.isSome then (D k).c0 else (D k).dv.cs
    | none => []⟩
  have hfoot : ∀ k, (D' k).foot = (D k).foot := fun _ => rfl
  refine ⟨D', ⟨⟨hF.rel.os, hF.rel.tape, hF.rel.output, hF.rel.hsz, hF.rel.block, hF.rel.sh0, hF.rel.shn, fun id r' hr' => ?_, fun i j ri rj hij hi hj b hb => ?_, fun id r' hr' b hb => ?_, fun t => ?_, hF.rel.size, hF.rel.defers⟩, hF.fok, hF.fnd, fun b hb => ?_⟩⟩
  · obtain ⟨r0, r, g0, g1, rfl, g3⟩ := injR_root ha h hr'
    have RR := hF.rel.root id r g1
    have hc0 : (D' id).c0 = bif r.org.isSome then (D id).c0 else (D id).dv.cs := by
      show (match R id with
        | some r => bif r.org.isSome then (D id).c0 else (D id).dv.cs
        | none => []) = _
      rw [g1]
    refine ⟨RR.er, RR.ok, RR.blk, RR.loc, RR.nd, fun hs => ?_, fun i hi => ?_, RR.pin⟩
    · rw [hc0]
      cases ho : r.org with
      | none => rfl
      | some i => exact RR.top (g3 i ho (clean_since hs))
    · rw [hc0]
      have hi : r.org = some i := hi
      rw [hi]
      exact RR.org i hi
  · obtain ⟨_, r1, _, g1, _⟩ := injR_root ha h hi
    obtain ⟨_, r2, _, g2, _⟩ := injR_root ha h hj
    exact hF.rel.dis i j r1 r2 hij g1 g2 b hb
  · obtain ⟨_, r1, _, g1, _⟩ := injR_root ha h hr'
    exact hF.rel.fresh id r1 g1 b hb
  · rcases injT_root ha hn h (t := t) with e | ⟨k, blk, ty, r, r', e1, e2, e3, e4, e5, e6, e7⟩
    · show AVR w Sh _ D' (injT is x t) _
      rw [e]; trivial
    · show AVR w Sh _ D' (injT is x t) _
      rw [e1]
      have hv := hF.rel.tmp t
      cases blk with
      | true =>
        obtain ⟨s', hT⟩ := e6 rfl
        have hv : AVR w Sh R D (T t) (a.tmps.getD t undef) := hv
        rw [hT] at hv
        obtain ⟨k0, o, u, hl, hvv⟩ := ptr_look hv e2 (since_zero _ _ _)
        exact ⟨_, ⟨_, rfl, r', e5, Nat.zero_le _, fun _ => ⟨k0, o, u, hl, hvv⟩⟩, rfl⟩
      | false =>
        obtain ⟨s', hT, hs⟩ := e7 rfl
        have hv : AVR w Sh R D (T t) (a.tmps.getD t undef) := hv
        rw [hT] at hv
        obtain ⟨cs, ⟨hfl, r1, hr1, _, hal⟩, hvv⟩ := hv
        rw [e2] at hr1; cases hr1
        obtain ⟨b, u, hl, ht, hcs⟩ := hal hs
        exact ⟨cs, ⟨hfl, r', e5, Nat.zero_le _, fun _ => ⟨b, u, hl, ht, hcs⟩⟩, hvv⟩
  · obtain ⟨g1, g2⟩ := hF.fdis b hb
    refine ⟨fun id r' hr' => ?_, g2⟩
    obtain ⟨_, r1, _, e1, _⟩ := injR_root ha h hr'
    exact g1 id r1 e1
theorem RelF.slots (hF : RelF C ⟨T, R⟩ D Sh F a w) {T' : Nat → AV} (h : ∀ t, AVR w Sh R D (T' t) (a.tmps.getD t undef)) : RelF C ⟨T', R⟩ D Sh F a w :=
  ⟨⟨hF.rel.os, hF.rel.tape, hF.rel.output, hF.rel.hsz, hF.rel.block, hF.rel.sh0, hF.rel.shn, hF.rel.root, hF.rel.dis, hF.rel.fresh, h, hF.rel.size, hF.rel.defers⟩, hF.fok, hF.fnd, hF.fdis⟩
theorem assemble {R0 : Nat → Option Root} : ∀ {is : List Item} {x : itemsT is} {zs : List DV} {F : List DV}, rootsLast is = true → nodupN (itemIds is) = true → RelF C ⟨T, R⟩ D Sh (zs ++ F) a w → Told R0 T w Sh R D a is x zs → ∃ D', RelF C ⟨injT is x, injR R0 is x⟩ D' Sh F a w
  | [], x, zs, F, hr, hn, hF, h => by
    have h : zs = [] := h
    subst h
    exact roots_ok (is := []) (x := ()) rfl rfl hF rfl
  | .pat s p :: is, x, zs, F, hr, hn, hF, h => by
    obtain ⟨D', hF'⟩ := assemble (is := is) (x := x.2) (by simpa [rootsLast, isRoot] using hr) hn hF h.2
    refine ⟨D', hF'.slots (fun t => ?_)⟩
    simp only [injT]
    by_cases e : s = t
    · subst e
      rw [show Nat.beq s s = true by simp]
      have h1 := pat_avs.1 h.1
      obtain ⟨cs, hc, hv⟩ := h1
      exact pat_avs.2 ⟨cs, avr_pat (w' := w) hc, hv⟩
    · rw [nbeq e]; exact hF'.rel.tmp t
  | .own s t :: is, x, zs, F, hr, hn, hF, h => by
    obtain ⟨d, zs', rfl, h2, h3, h4, h5⟩ := h
    obtain ⟨hk, hnn⟩ := nodupN_cons (show nodupN (ownId s :: itemIds is) = true from hn)
    obtain ⟨D', hF'⟩ := assemble (is := is) (x := x.2) (F := ⟨t, d⟩ :: F) (by simpa [rootsLast, isRoot] using hr) hnn (hF.perm (List.perm_middle).symm) h5
    have hnone : injR R0 is x.2 (ownId s) = none := injR_none hk
    obtain ⟨K, hF2⟩ := hF'.hold (id := ownId s) hnone (org := none) (fun i hi => by cases hi)
    have her : DV.er ⟨t, d⟩ = ⟨t, x.1⟩ := congrArg (V.mk t) h2
    have hR : upt (injR R0 is x.2) (ownId s) (some ⟨DV.er ⟨t, d⟩, false, [], none, none⟩) = injR R0 (.own s t :: is) x := by
      funext id
      simp only [injR, upt, her]
      by_cases e : id = ownId s
      · subst e; rfl
      · rw [nbeq e, nbeq (Ne.symm e)]
    rw [show (⟨injT is x.2, injR R0 is x.2⟩ : St).roots = injR R0 is x.2 from rfl] at K hF2
    have hal : AVR w Sh (upt (injR R0 is x.2) (ownId s) (some ⟨DV.er ⟨t, d⟩, false, [], none, none⟩)) (upt D' (ownId s) ⟨⟨t, d⟩, none, DV.cs ⟨t, d⟩⟩) (.al (ownId s) [] 0 t) (a.tmps.getD s undef) := by
      rw [h3]
      exact ⟨_, al_of_hold (u := ⟨t, d⟩) h4, rfl⟩
    rw [hR] at hF2 K hal
    refine ⟨_, hF2.slots (fun t' => ?_)⟩
    simp only [injT]
    by_cases e : s = t'
    · subst e
      rw [show Nat.beq s s = true by simp]
      exact hal
    · rw [nbeq e]; exact K.avr (hF'.rel.tmp t')
  | .root k blk t ps :: is, x, zs, F, hr, hn, hF, h => by
    have hall : (Item.root k blk t ps :: is).all isRoot = true := by
      have : is.all isRoot = true := by simpa [rootsLast, isRoot] using hr
      simp only [List.all_cons, isRoot, this, Bool.and_self]
    have hz := told_nil hall h
    subst hz
    exact roots_ok hall hn hF h
/-- At a loop's head. -/
theorem head_ok {R0 : Nat → Option Root} {is : List Item} {x : itemsT is} (hi : itemsOk is = true) (hm : matchL R0 T R is [] = some x) (hR : Rel C ⟨T, R⟩ D Sh a w) : ∃ D' Sh', Rel C (inj R0 is x) D' Sh' a w := by
  unfold itemsOk at hi
  rw [Bool.and_eq_true] at hi
  obtain ⟨R', D', Sh', zs, h1, h2, h3, h4, _⟩ := match_ok hm hi.1 hi.2 hR.F
  obtain ⟨D2, hF⟩ := assemble (F := []) hi.1 hi.2 h3 h4
  exact ⟨D2, Sh', hF.rel⟩
end

/-! ### code -/
def exOf : Ex → Exit
  | .normal => .normal
  | .exit j => .exit j
  | .ret => .ret
def okC (n : Nat) : Code → Bool
  | .skip => true
  | .region _ ops _ => okOps n 0 ops.toList
  | .seq a b => okC n a && okC n b
  | .cond _ a b => okC n a && okC n b
  | .block _ c => okC n c
  | .exit _ => true
  | .ret => true
  | .loop c => okC n c
  | _ => false
theorem loopO_some {X A : Type} {step : X → Option (Lp X A)} {x : X} {y : X ⊕ A} (h : loopO step x = some y) : ∃ n, iterO step n x = some y := by
  unfold loopO at h
  split at h
  · rename_i hex
    cases h
    exact Classical.choose_spec hex
  · cases h

section
variable {C : Ctx} {T : List (TypeId × TRow)} {K : Cons} {L : Loops}
theorem runC_ok (hop : AllSound C T K) (hmo : C.P.follows .mixedOrders = true) : ∀ (c : Code) (hok : okC C.n c = true) {A : Type} (st : St) (k : Ex → St → Option A) (a : A), runC T K L c st k = some a → ∀ (Q : Exit → Act → World → Prop),
    (∀ e st', k e st' = some a → ∀ D Sh act w, Rel C st' D Sh act w → Q (exOf e) act w) → ∀ D Sh act w, Rel C st D Sh act w → c.wp C.P Q act w
  | .skip, hok, A, st, k, a, h, Q, hk, D, Sh, act, w, hR => wp_skip (hk .normal st h D Sh act w hR)
  | .region id ops draw, hok, A, st, k, a, h, Q, hk, D, Sh, act, w, hR =>
    region_ok hop hmo (k := k .normal) hok h (fun st' h' => hk .normal st' h') D Sh act w hR
  | .seq x y, hok, A, st, k, a, h, Q, hk, D, Sh, act, w, hR => by
    simp only [okC, Bool.and_eq_true] at hok
    refine wp_seq (runC_ok hop hmo x hok.1 st _ a h _ (fun e st' h' D' Sh' act' w' hR' => ?_) D Sh act w hR)
    cases e with
    | normal => exact runC_ok hop hmo y hok.2 st' k a h' Q hk D' Sh' act' w' hR'
    | exit j => exact hk (.exit j) st' h' D' Sh' act' w' hR'
    | ret => exact hk .ret st' h' D' Sh' act' w' hR'
  | .cond c x y, hok, A, st, k, a, h, Q, hk, D, Sh, act, w, hR => by
    simp only [okC, Bool.and_eq_true] at hok
    have hc := hR.eval c
    simp only [runC] at h
    split at h
    · rename_i b hb
      rw [hb] at hc
      have hv := avr_bool hc
      refine wp_cond_split hv (fun e => ?_) (fun e => ?_)
      · rw [e] at h
        exact runC_ok hop hmo x hok.1 st k a h Q hk D Sh act w hR
      · rw [e] at h
        exact runC_ok hop hmo y hok.2 st k a h Q hk D Sh act w hR
    · cases h
  | .block id c, hok, A, st, k, a, h, Q, hk, D, Sh, act, w, hR => by
    refine wp_block (runC_ok hop hmo c hok st _ a h _ (fun e st' h' D' Sh' act' w' hR' => ?_) D Sh act w hR)
    cases e with
    | normal => exact hk .normal st' h' D' Sh' act' w' hR'
    | exit j =>
      show (if j = id then Q .normal act' w' else Q (.exit j) act' w')
      have h' : (bif Nat.beq j id then k .normal st' else k (.exit j) st') = some a := h'
      by_cases e : j = id
      · subst e
        rw [if_pos rfl]
        rw [show Nat.beq j j = true by simp] at h'
        exact hk .normal st' h' D' Sh' act' w' hR'
      · rw [if_neg e]
        rw [nbeq e] at h'
        exact hk (.exit j) st' h' D' Sh' act' w' hR'
    | ret => exact hk .ret st' h' D' Sh' act' w' hR'
  | .exit id, hok, A, st, k, a, h, Q, hk, D, Sh, act, w, hR => wp_exit (hk (.exit id) st h D Sh act w hR)
  | .ret, hok, A, st, k, a, h, Q, hk, D, Sh, act, w, hR => wp_ret (hk .ret st h D Sh act w hR)
  | .loop c, hok, A, st, k, a, h, Q, hk, D, Sh, act, w, hR => by
    simp only [runC] at h
    cases hl : L (firstR c) with
    | none => rw [hl] at h; cases h
    | some l =>
      rw [hl] at h
      simp only at h
      cases hi : itemsOk l.items with
      | false => rw [hi] at h; cases h
      | true =>
        rw [hi] at h
        simp only [cond_true] at h
        cases hm : matchL st.roots st.tmps st.roots l.items [] with
        | none => rw [hm] at h; cases h
        | some x =>
          rw [hm] at h
          simp only at h
          generalize hstep : (fun x => runC T K L c (A := Lp (itemsT l.items) A) (inj st.roots l.items x) fun e st' => match e with
              | .normal => match matchL st.roots st'.tmps st'.roots l.items [] with
                | some x => some (.again x)
                | none => none
              | .exit j => bif Nat.beq j l.out then match matchL st.roots st'.tmps st'.roots l.items [] with
                | some x => some (.exit x)
                | none => none else none
              | .ret => match k .ret st' with
                | some a => some (.ret a)
                | none => none) = step at h
          cases hlo : loopO step x with
          | none => rw [hlo] at h; cases h
          | some y =>
            rw [hlo] at h
            obtain ⟨n, hn⟩ := loopO_some hlo
            have hy : ∀ x', y = .inl x' → k (.exit l.out) (inj st.roots l.items x') = some a := fun x' e => by rw [e] at h; exact h
            have hy2 : ∀ a', y = .inr a' → a' = a := fun a' e => by rw [e] at h; cases h; rfl
            have key : ∀ (n : Nat) (x : itemsT l.items) (D : Nat → DRoot) (Sh : Nat → Prop) (act : Act) (w : World), iterO step n x = some y → Rel C (inj st.roots l.items x) D Sh act w → Code.rounds C.P c Q n act w := by
              intro n
              induction n with
              | zero => intro x D Sh act w hn _; cases hn
              | succ n ih =>
                intro x D Sh act w hn hR
                rw [rounds_succ]
                simp only [iterO] at hn
                cases hs : step x with
                | none => rw [hs] at hn; cases hn
                | some lp =>
                  rw [hs] at hn
                  have hs' := hs
                  rw [← hstep] at hs'
                  refine runC_ok hop hmo c hok (inj st.roots l.items x) _ lp hs' _ (fun e st' h' D' Sh' act' w' hR' => ?_) D Sh act w hR
                  cases e with
                  | normal =>
                    simp only at h'
                    cases hm' : matchL st.roots st'.tmps st'.roots l.items [] with
                    | none => rw [hm'] at h'; cases h'
                    | some x' =>
                      rw [hm'] at h'; cases h'
                      obtain ⟨D2, Sh2, hR2⟩ := head_ok hi hm' hR'
                      exact ih x' D2 Sh2 act' w' hn hR2
                  | exit j =>
                    simp only at h'
                    cases hb : Nat.beq j l.out with
                    | false => rw [hb] at h'; cases h'
                    | true =>
                      rw [hb] at h'
                      simp only [cond_true] at h'
                      cases hm' : matchL st.roots st'.tmps st'.roots l.items [] with
                      | none => rw [hm'] at h'; cases h'
                      | some x' =>
                        rw [hm'] at h'; cases h'
                        obtain ⟨D2, Sh2, hR2⟩ := head_ok hi hm' hR'
                        have e := Nat.eq_of_beq_eq_true hb
                        subst e
                        cases hn
                        exact hk (.exit l.out) _ (hy x' rfl) D2 Sh2 act' w' hR2
                  | ret =>
                    simp only at h'
                    cases hr : k .ret st' with
                    | none => rw [hr] at h'; cases h'
                    | some a' =>
                      rw [hr] at h'; cases h'
                      cases hn
                      have e := hy2 a' rfl
                      subst e
                      exact hk .ret st' hr D' Sh' act' w' hR'
            obtain ⟨D2, Sh2, hR2⟩ := head_ok hi hm hR
            exact wp_loop_rounds n (key n x D2 Sh2 act w hn hR2)
  | .rangeFunc _ _ _ _, hok, A, st, k, a, h, Q, hk, D, Sh, act, w, hR => by cases hok
  | .scope _, hok, A, st, k, a, h, Q, hk, D, Sh, act, w, hR => by cases hok
  | .label _, hok, A, st, k, a, h, Q, hk, D, Sh, act, w, hR => by cases hok
  | .goto _, hok, A, st, k, a, h, Q, hk, D, Sh, act, w, hR => by cases hok
  | .refuse _, hok, A, st, k, a, h, Q, hk, D, Sh, act, w, hR => by cases hok
end
end Go.Proofs.Ytabjfkongckhaaa.Vm
