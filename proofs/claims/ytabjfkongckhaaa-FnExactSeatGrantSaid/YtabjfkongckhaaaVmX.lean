/- Calls, the caller's side: what is handed over; what comes back; a call answers as its contract says. -/
import Derived.Test.YtabjfkongckhaaaVmW
namespace Go.Proofs.Ytabjfkongckhaaa.Vm
open Go Go.RowKit
set_option linter.unusedVariables false

def extra : List PK → List DRoot → List Nat
  | .p _ _ :: ks, z :: zs => z.b.toList ++ extra ks zs
  | .c _ :: ks, z :: zs => z.dv.foot ++ extra ks zs
  | .r _ :: ks, _ :: zs => extra ks zs
  | .o _ :: ks, _ :: zs => extra ks zs
  | _, _ => []
def hands : List PK → List DRoot → List DV
  | .c _ :: ks, z :: zs => noZ.dv :: hands ks zs
  | .r _ :: ks, z :: zs => z.dv :: hands ks zs
  | .o _ :: ks, z :: zs => z.dv :: hands ks zs
  | .p _ _ :: ks, z :: zs => z.dv :: hands ks zs
  | _, _ => []
def TgtOK (R : Nat → Option Root) (D : Nat → DRoot) : List Tgt → List PK → List DRoot → Prop
  | tg, .r _ :: ks, _ :: zs => TgtOK R D tg ks zs
  | tg, .o _ :: ks, _ :: zs => TgtOK R D tg ks zs
  | .root id :: tg, .p _ _ :: ks, z :: zs => (∃ r b, R id = some r ∧ (D id).b = some b ∧ z.b = some b) ∧ TgtOK R D tg ks zs
  | .at id p :: tg, .c t :: ks, z :: zs => (∃ r bb, R id = some r ∧ lookD (D id).dv (D id).base p = some (bb, z.dv) ∧ z.dv.t = t ∧ z.b = none) ∧ TgtOK R D tg ks zs
  | [], [], [] => True
  | _, _, _ => False
theorem avs_mono {w : World} {Sh Sh' : Nat → Prop} (hs : ∀ b, Sh b → Sh' b) {x : AV} {v : Value} (h : AVS w Sh noR noD x v) : AVS w Sh' noR noD x v :=
  Keeps.avs (R := noR) (R' := noR) (D := noD) (D' := noD) ⟨fun _ _ => rfl, hs, fun id r hr => by cases hr⟩ h
theorem perm4 {A B X Y : List Nat} : ((A ++ B) ++ (X ++ Y)).Perm ((A ++ X) ++ (B ++ Y)) := by
  rw [List.append_assoc, List.append_assoc]
  refine List.Perm.append_left A ?_
  rw [← List.append_assoc, ← List.append_assoc]
  exact List.perm_append_comm.append_right Y
theorem feet_perm {w : World} {Sh : Nat → Prop} : ∀ {ks : List PK} {x : argsT ks} {vs : List Value} {zs : List DRoot}, ArgsOK w Sh ks x vs zs → (feet zs).Perm (extra ks zs ++ (hands ks zs).flatMap DV.foot)
  | [], x, [], [], h => List.Perm.refl _
  | k :: ks, x, v :: vs, z :: zs, h => by
    have ih := feet_perm h.2
    have h1 := h.1
    show (z.foot ++ feet zs).Perm _
    cases k with
    | r p =>
      obtain ⟨_, rfl⟩ := h1
      exact ih
    | o t =>
      have hb : z.b = none := h1.2.1
      show ((z.b.toList ++ z.dv.foot) ++ feet zs).Perm (extra ks zs ++ (z.dv.foot ++ (hands ks zs).flatMap DV.foot))
      rw [hb]
      exact (List.Perm.append_left _ ih).trans (by
        show (z.dv.foot ++ (extra ks zs ++ _)).Perm _
        rw [← List.append_assoc, ← List.append_assoc]
        exact List.perm_append_comm.append_right _)
    | p t t' =>
      show ((z.b.toList ++ z.dv.foot) ++ feet zs).Perm ((z.b.toList ++ extra ks zs) ++ (z.dv.foot ++ (hands ks zs).flatMap DV.foot))
      exact (List.Perm.append_left _ ih).trans perm4
    | c t =>
      have hb : z.b = none := h1.2.1
      show ((z.b.toList ++ z.dv.foot) ++ feet zs).Perm ((z.dv.foot ++ extra ks zs) ++ (noZ.dv.foot ++ (hands ks zs).flatMap DV.foot))
      rw [hb]
      show ((([] : List Nat) ++ z.dv.foot) ++ feet zs).Perm ((z.dv.foot ++ extra ks zs) ++ ([] ++ (hands ks zs).flatMap DV.foot))
      rw [List.nil_append, List.nil_append, List.append_assoc]
      exact List.Perm.append_left _ ih
  | [], _, [], _ :: _, h => h.elim
  | [], _, _ :: _, [], h => h.elim
  | [], _, _ :: _, _ :: _, h => h.elim
  | _ :: _, _, [], _, h => h.elim
  | _ :: _, _, _ :: _, [], h => h.elim

theorem lendP_any (p : Pat) (ws : Writes) (R : Nat → Option Root) : (lendP p .any ws).go R = none := by
  cases p with
  | val t => cases t <;> rfl
  | _ => rfl
theorem lendP_tup (p : Pat) (c : AV) (ws : Writes) (R : Nat → Option Root) : (lendP p (.tup c) ws).go R = none := by
  cases p with
  | val t => cases t <;> rfl
  | _ => rfl
section
variable {C : Ctx} {T : Nat → AV} {R : Nat → Option Root} {D : Nat → DRoot} {Sh Sh' : Nat → Prop} {F : List DV} {a : Act} {w : World}
theorem argsP_ok {ws : Writes} (hR : Rel C ⟨T, app ws R⟩ D Sh a w) (hs : ∀ b, Sh b → Sh' b) : ∀ {ks : List PK} {y : preT ks} {xs : List AV} {vs : List Value} {zs : List DRoot} {x : argsT ks} {tg : List Tgt} {ids : List Nat}, (argsP ks y xs ws).go R = some (x, tg, ids) →
    (∀ b, lentIn (app ws R) D ids b → Sh' b) → PresOK w Sh (app ws R) D ks y xs vs zs → AVRs w Sh (app ws R) D xs vs → (∀ v ∈ zs.map (·.dv), v.OK w Sh) →
    ∃ zs', ArgsOK w Sh' ks x vs zs' ∧ TgtOK (app ws R) D tg ks zs' ∧ hands ks zs' = zs.map (·.dv)
  | [], y, [], vs, zs, x, tg, ids, h, hl, hp, hv, hz => by
    cases h
    rcases vs with _ | ⟨v, vs⟩ <;> rcases zs with _ | ⟨z, zs⟩ <;> first | exact ⟨[], trivial, trivial, rfl⟩ | exact hp.elim
  | [], y, _ :: _, vs, zs, x, tg, ids, h, hl, hp, hv, hz => by
    rcases vs with _ | ⟨v, vs⟩ <;> rcases zs with _ | ⟨z, zs⟩ <;> exact hp.elim
  | _ :: _, y, [], vs, zs, x, tg, ids, h, hl, hp, hv, hz => by cases h
  | k :: ks, y, xx :: xs, vs, zs, x, tg, ids, h, hl, hp, hv, hz => by
    obtain ⟨v, vs', rfl, hv1, hv2⟩ := hv
    cases zs with
    | nil => exact hp.elim
    | cons z zs =>
      simp only [argsP, Prog.go_bind] at h
      cases h1 : (arg1 k y.1 xx ws).go R with
      | none => rw [h1] at h; cases h
      | some q =>
        obtain ⟨x1, tg1, ids1⟩ := q
        rw [h1] at h
        simp only at h
        cases h2 : (argsP ks y.2 xs ws).go R with
        | none => rw [h2] at h; cases h
        | some q2 =>
          obtain ⟨x2, tg2, ids2⟩ := q2
          rw [h2] at h; cases h
          have hl1 : ∀ b, lentIn (app ws R) D ids1 b → Sh' b := fun b hb => hl b (by obtain ⟨id, r, m, q1, q2⟩ := hb; exact ⟨id, r, List.mem_append_left _ m, q1, q2⟩)
          have hl2 : ∀ b, lentIn (app ws R) D ids2 b → Sh' b := fun b hb => hl b (by obtain ⟨id, r, m, q1, q2⟩ := hb; exact ⟨id, r, List.mem_append_right _ m, q1, q2⟩)
          obtain ⟨zs', i1, i2, i3⟩ := argsP_ok hR hs h2 hl2 hp.2 hv2 (fun v hv => hz v (by simp only [List.map_cons]; exact List.mem_cons_of_mem _ hv))
          have hzok : z.dv.OK w Sh := hz z.dv (by simp)
          have hzok' : z.dv.OK w Sh' := Ty.OK_frame (fun _ _ => rfl) hs (fun _ _ => rfl) hzok
          have hp1 := hp.1
          cases k with
          | r p =>
            obtain ⟨rfl, hp1⟩ := hp1
            obtain ⟨y1, y2⟩ := y
            have hAt : AVS w Sh' noR noD (p.av x1) v ∧ tg1 = [] := by
              cases y1 with
              | some y' =>
                cases h1
                exact ⟨avs_mono hs (hp1 _ rfl), rfl⟩
              | none =>
                have h1 : ((lendP p xx ws).bind fun u => Prog.ret (((u : (PK.r p).den), ([] : List Tgt), lent xx) : (PK.r p).den × List Tgt × List Nat)).go R = some (x1, tg1, ids1) := h1
                rw [Prog.go_bind] at h1
                cases h3 : (lendP p xx ws).go R with
                | none => rw [h3] at h1; cases h1
                | some u =>
                  rw [h3] at h1; cases h1
                  have hvs : AVS w Sh (app ws R) D xx v := avs_of_avr hv1 (fun e => by subst e; rw [lendP_any] at h3; cases h3) (fun c e => by subst e; rw [lendP_tup] at h3; cases h3)
                  obtain ⟨cs, hc, hvv⟩ := hvs
                  obtain ⟨g1, g2⟩ := lendP_ok hR hs h3 hl1 hc
                  exact ⟨⟨cs, g1, by rw [hvv, g2]⟩, rfl⟩
            obtain ⟨g1, rfl⟩ := hAt
            exact ⟨noZ :: zs', ⟨⟨g1, rfl⟩, i1⟩, i2, by show noZ.dv :: hands ks zs' = _; rw [i3]; rfl⟩
          | o t =>
            cases h1
            obtain ⟨g1, g2, g3, g4⟩ := hp1
            exact ⟨z :: zs', ⟨⟨g1, g2, g3, hzok', g4⟩, i1⟩, i2, by show z.dv :: hands ks zs' = _; rw [i3]; rfl⟩
          | p t t' =>
            obtain ⟨id, s, r, b, rfl, g1, g2, g3, g4, g5, g6⟩ := hp1
            cases h1
            exact ⟨z :: zs', ⟨⟨b, g3, g4, hzok', g5, g6⟩, i1⟩, ⟨⟨r, b, g1, g2, g3⟩, i2⟩, by show z.dv :: hands ks zs' = _; rw [i3]; rfl⟩
          | c t =>
            have hp1 : z = noZ := hp1
            subst hp1
            cases xx with
            | al id p s t' =>
              simp only [arg1, getR_go] at h1
              obtain ⟨cs, ⟨hf, r, hr, hsl, hcv⟩, hvv⟩ := hv1
              rw [hr] at h1
              simp only at h1
              cases hok : (okR r s (depth p + 1) (!t'.agg) && !t.flat) with
              | false => rw [hok] at h1; cases h1
              | true =>
                rw [hok] at h1
                rw [Bool.and_eq_true] at hok
                obtain ⟨bb, u, hlk, ht, rfl⟩ := hcv (okR_spec hok.1).2
                obtain ⟨hg, huok, _⟩ := hR.look hr hlk
                simp only [cond_true, hg] at h1
                split at h1
                case isFalse => cases h1
                rename_i hut
                cases h1
                have hut : u.t = t := hut
                have huok' : u.OK w Sh' := Ty.OK_frame (fun _ _ => rfl) hs (fun _ _ => rfl) huok
                obtain ⟨ut, ud⟩ := u
                have hut : ut = t := hut
                subst hut
                refine ⟨⟨⟨ut, ud⟩, none, []⟩ :: zs', ⟨⟨by simpa using hok.2, rfl, rfl, huok', ?_⟩, i1⟩, ⟨⟨r, bb, hr, hlk, rfl, rfl⟩, i2⟩, ?_⟩
                · rw [hvv]
                  have ht : ut = t' := ht
                  have hag : t'.agg = ut.agg := congrArg Ty.agg ht.symm
                  show mkw t'.agg _ = mkw ut.agg _
                  rw [hag]
                · show noZ.dv :: hands ks zs' = _; rw [i3]; rfl
            | _ => cases h1
end

/-! ### what a call leaves -/
theorem many_noshr : ∀ {ts : List Ty} {x : (tyW ts).den} {zs : List DV}, noshr (tyW ts) = true → ManyD ts x zs → ∀ z ∈ zs, noshr z.t = true
  | [], x, zs, hn, h, z, hz => by have h : zs = [] := h; subst h; cases hz
  | t :: ts, x, zs, hn, h, z, hz => by
    obtain ⟨d, zs', _, rfl, h2⟩ := h
    have hn : (noshr t && noshr (tyW ts)) = true := hn
    rw [Bool.and_eq_true] at hn
    rcases List.mem_cons.1 hz with rfl | hz
    · exact hn.1
    · exact many_noshr hn.2 h2 z hz
theorem res_noshr {w : World} {Sh Sh' : Nat → Prop} {rk : RK} {x : (tyW rk.tys).den} {v : Value} {rs : List DRoot} (hn : noshr (tyW rk.tys) = true) (h : ResOK w Sh rk x v rs) : ResOK w Sh' rk x v rs := by
  cases rk with
  | one t =>
    obtain ⟨d, h1, h2, h3, h4⟩ := h
    have hn : (noshr t && true) = true := hn
    rw [Bool.and_true] at hn
    exact ⟨d, h1, noshr_ok hn h2, h3, h4⟩
  | many ts =>
    obtain ⟨zs, h1, h2, h3, h4⟩ := h
    exact ⟨zs, h1, fun z hz => noshr_ok (many_noshr hn h1 z hz) (h2 z hz), h3, h4⟩
  | ptr t =>
    obtain ⟨d, b, h1, h2, h3⟩ := h
    have hn : (noshr t && true) = true := hn
    rw [Bool.and_true] at hn
    exact ⟨d, b, h1, noshr_ok hn h2, h3⟩
def strictK : PK → Bool
  | .p _ t' => !noshr t'
  | .c t => !noshr t
  | _ => false
theorem back_noshr {w : World} {Sh Sh' : Nat → Prop} : ∀ {ks : List PK} {zs : List DRoot} {ys : List V} {bs : List DRoot}, ks.any strictK = false → BackOK w Sh ks zs ys bs → BackOK w Sh' ks zs ys bs
  | [], [], ys, bs, hn, h => h
  | .r _ :: ks, _ :: zs, ys, bs, hn, h => back_noshr (ks := ks) (by simpa [strictK] using hn) h
  | .o _ :: ks, _ :: zs, ys, bs, hn, h => back_noshr (ks := ks) (by simpa [strictK] using hn) h
  | .p _ t :: ks, z :: zs, y :: ys, b :: bs, hn, h => by
    simp only [List.any_cons, strictK, Bool.or_eq_false_iff, Bool.not_eq_false'] at hn
    obtain ⟨h1, h2, h3, h4, h5, h6⟩ := h
    have ht : b.dv.t = t := by rw [← h2, ← h3]; rfl
    exact ⟨h1, h2, h3, noshr_ok (by rw [ht]; exact hn.1) h4, h5, back_noshr hn.2 h6⟩
  | .c t :: ks, z :: zs, y :: ys, b :: bs, hn, h => by
    simp only [List.any_cons, strictK, Bool.or_eq_false_iff, Bool.not_eq_false'] at hn
    obtain ⟨h1, h2, h3, h4, h5, h6⟩ := h
    have ht : b.dv.t = t := by rw [← h2, ← h3]; rfl
    exact ⟨h1, h2, h3, noshr_ok (by rw [ht]; exact hn.1) h4, h5, back_noshr hn.2 h6⟩
  | [], _ :: _, _, _, hn, h => h.elim
  | _ :: _, [], _, _, hn, h => by rename_i k ks _ _; cases k <;> exact h.elim
  | .p _ _ :: _, _ :: _, [], _, hn, h => h.elim
  | .p _ _ :: _, _ :: _, _ :: _, [], hn, h => h.elim
  | .c _ :: _, _ :: _, [], _, hn, h => h.elim
  | .c _ :: _, _ :: _, _ :: _, [], hn, h => h.elim
theorem strict_split {c : Con} (h : strictC c = false) : noshr (tyW c.rk.tys) = true ∧ c.ks.any strictK = false := by
  unfold strictC at h
  rw [Bool.or_eq_false_iff] at h
  refine ⟨by simpa using h.1, ?_⟩
  have e : (fun k : PK => match k with
    | .p _ t' => !noshr t'
    | .c t => !noshr t
    | _ => false) = strictK := by funext k; cases k <;> rfl
  exact h.2
theorem after_call {c : Con} {w w' : World} {Sh Sh0 M Sh' : Nat → Prop} {foot : List Nat} {X : (tyW c.rk.tys).den} {Y : List V} {v : Value} {rs bs zs : List DRoot} (L : Left w Sh0 M w' Sh' foot) (hr : ResOK w' Sh' c.rk X v rs) (hb : BackOK w' Sh' c.ks zs Y bs)
    (hs : ∀ b, Sh b → Sh0 b) (hst : strictC c = true → ∀ b, Sh0 b → Sh b) (hsl : ∀ b, Sh b → b < w.heap.size) :
    ∃ Sh2 : Nat → Prop, (∀ b, Sh b → Sh2 b) ∧ (∀ b, Sh2 b → (Sh b ∨ w.heap.size ≤ b ∨ M b) ∧ b < w'.heap.size) ∧ (∀ b ∈ foot, ¬ Sh2 b) ∧ ResOK w' Sh2 c.rk X v rs ∧ BackOK w' Sh2 c.ks zs Y bs := by
  cases hc : strictC c with
  | true =>
    refine ⟨Sh', fun b hb => L.sh b (hs b hb), fun b hb => ⟨?_, (L.shn b hb).2⟩, fun b hb => (L.fresh b hb).1, hr, hb⟩
    rcases (L.shn b hb).1 with h1 | h1 | h1
    · exact .inl (hst hc b h1)
    · exact .inr (.inl h1)
    · exact .inr (.inr h1)
  | false =>
    obtain ⟨n1, n2⟩ := strict_split hc
    exact ⟨Sh, fun _ h => h, fun b hb => ⟨.inl hb, Nat.lt_of_lt_of_le (hsl b hb) L.hsz⟩, fun b hb hs' => (L.fresh b hb).1 (L.sh b (hs b hs')), res_noshr n1 hr, back_noshr n2 hb⟩
end Go.Proofs.Ytabjfkongckhaaa.Vm
