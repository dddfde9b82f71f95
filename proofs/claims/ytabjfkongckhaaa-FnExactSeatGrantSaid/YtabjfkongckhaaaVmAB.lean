/- Operations: stores; parts of slices; conversions. -/
import Derived.Test.YtabjfkongckhaaaVmAA
namespace Go.Proofs.Ytabjfkongckhaaa.Vm
open Go Go.RowKit
set_option linter.unusedVariables false

section
variable {C : Ctx} {st : St} {D : Nat → DRoot} {Sh : Nat → Prop} {F : List DV} {a : Act} {w : World} {T : List (TypeId × TRow)} {o : Oper}
theorem fitV_ok {d : Nat} {z : DV} {t : Ty} (hF : RelF C st D Sh (z :: F) a w) (hl : like z.t t = true) : ∃ (Sh' : Nat → Prop) (z' : DV), z'.er = fitV d z.er t ∧ z'.cs = z.cs ∧ like z'.t t = true ∧ z'.t.agg = z.t.agg ∧ (∀ b, Sh b → Sh' b) ∧ Keeps w w Sh Sh' st.roots st.roots D D ∧ RelF C st D Sh' (z' :: F) a w := by
  have same : ∃ (Sh' : Nat → Prop) (z' : DV), z'.er = z.er ∧ z'.cs = z.cs ∧ like z'.t t = true ∧ z'.t.agg = z.t.agg ∧ (∀ b, Sh b → Sh' b) ∧ Keeps w w Sh Sh' st.roots st.roots D D ∧ RelF C st D Sh' (z' :: F) a w :=
    ⟨Sh, z, rfl, rfl, hl, rfl, fun _ h => h, Keeps.grow (fun _ _ => rfl), hF⟩
  unfold fitV
  cases hb : Nat.beq d 0 with
  | true => exact same
  | false =>
    simp only [cond_false]
    cases ht : toT z.er t with
    | none => exact same
    | some x =>
      obtain ⟨hlow, hx⟩ := toT_some ht
      obtain ⟨Sh', d', e1, e2, e3, K, F'⟩ := hF.low (t' := t) hlow
      refine ⟨Sh', ⟨t, d'⟩, ?_, e2, like_refl t, (Ty.agg_same (lowB_shr hlow)).symm, e3, K, F'⟩
      show (⟨t, t.er d'⟩ : V) = ⟨t, x⟩
      rw [e1, hx]
      rfl
theorem sound_storeQ (hT : TabOK C.P T) {t : TypeId} {x y : Operand} (ho : o.op = .store t x y) {row : TRow} (hrow : tget T t = some row) (hd : o.dst = none) {ws : Writes}
    (h : (storeQ row (evalA st.tmps x) (evalA st.tmps y)).go st.roots = some ws) : Sound C o st ⟨.any, ws⟩ := by
  intro D Sh a w K Q hR hK
  have hr := hT t row hrow
  unfold storeQ at h
  rw [Prog.go_bind] at h
  cases hq : (takeQ row.ty (evalA st.tmps y) []).go st.roots with
  | none => rw [hq] at h; cases h
  | some q =>
    obtain ⟨u, ws1⟩ := q
    rw [hq] at h
    simp only at h
    obtain ⟨D1, Sh1, z, hz, hv, hl, s1, K1, F1⟩ := takeQ_ok (T := st.tmps) (ws := []) hq hR.F (hR.eval y)
    have hzt : z.t = u.t := by rw [← hz]; rfl
    have he := K1.avr (hR.eval x)
    generalize hx : evalA st.tmps x = ax at he h
    cases ax with
    | ptr id p s =>
      simp only [getR_go] at h
      cases hr1 : app ws1 st.roots id with
      | none => rw [hr1] at h; cases h
      | some r =>
        rw [hr1] at h
        simp only at h
        cases hs : okR r s (depth p) true with
        | false => rw [hs] at h; cases h
        | true =>
          rw [hs] at h
          obtain ⟨k, o', uq, hlk, hpv⟩ := ptr_look he hr1 (okR_spec hs).2
          obtain ⟨hgv, hok, hloc⟩ := F1.rel.look hr1 hlk
          simp only [cond_true, hgv] at h
          cases hlike : like u.t uq.er.t with
          | false => rw [hlike] at h; cases h
          | true =>
            rw [hlike] at h
            simp only [cond_true] at h
            cases hp : putV r.v p (fitV (depth p) u uq.er.t) with
            | none => rw [hp] at h; cases h
            | some v' =>
              rw [hp] at h; cases h
              have hlz : like z.t uq.t = true := by rw [hzt]; exact hlike
              obtain ⟨Sh2, z', g1, g2, g3, g4, s2, K2, F2⟩ := fitV_ok (d := depth p) F1 hlz
              rw [hz] at g1
              obtain ⟨row0, e0, hrow0, hc0⟩ := hloc k o' rfl
              have hzok : z'.OK w Sh2 := F2.fok z' (by simp)
              have hlen : z'.cs.length = row.ty.sz := by rw [g2]; exact (Ty.cs_len z.t z.d).trans (by rw [hzt]; exact like_sz hl)
              have hlen2 : z'.cs.length = uq.t.sz := (Ty.cs_len z'.t z'.d).trans (like_sz g3)
              have hpos : z'.cs.length ≠ 0 := by rw [hlen]; exact hr.nz
              have hfit : o' + z'.cs.length ≤ row0.size := by
                have hul : uq.cs.length = z'.cs.length := (Ty.cs_len uq.t uq.d).trans hlen2.symm
                have hj : z'.cs.length - 1 < uq.cs.length := by omega
                have := hc0 (z'.cs.length - 1) _ (List.getElem?_eq_getElem hj)
                have := (Array.getElem?_eq_some_iff.1 this).1
                omega
              have hone : ∀ v ∈ z'.cs, v.oneCell' = true := Ty.OK_one hzok
              obtain ⟨_, w1, w2, w3, w4, w5, row', r1, r2, r3, r4⟩ := setR_spec k e0 z'.cs w o' row0 hrow0 hfit hone
              have hrun := hr.store (w := w) hlen (mkw_cells (u := z'.er) rfl hzok) hone hrow0 hfit
              have hev : a.eval y = mkw z'.er.t.agg z'.cs := by
                rw [hv, g2]
                have : u.t.agg = z'.er.t.agg := by rw [← hzt]; exact g4.symm
                rw [this]
              have hex : (execOp a.eval o).run C.P w = .ok .skip (setR w k o' z'.cs) := by
                simp only [execOp, ho, Instr.storeAt, Instr.sureAddr, hpv, hev, Sem.run_bind, Sem.run_pure, Result.andThen_ok, hrun]
              obtain ⟨D2, K3, F3⟩ := F2.store (w' := setR w k o' z'.cs) hr1 hlk g3 (v' := v') (by rw [g1]; exact hp) w1 w2 w3 w4 w5 (fun rw0 el hrw => by
                obtain ⟨rfl, rfl⟩ := hrow0.uniq hrw
                exact ⟨row', r1, r2, fun j hj => r3 j (by rw [hlen2]; exact hj), r4⟩)
              rw [g1] at F3
              refine wp_skip' hex (hK D2 Sh2 _ _ ?_)
              rw [hd]
              exact F3.rel
    | _ => cases h

/-! ### parts of slices -/
theorem optI_eval (hR : Rel C st D Sh a w) {lo : Option Operand} {l : Option Int} (h : optI (lo.map (evalA st.tmps)) = some l) : lo.map a.eval = l.map (fun n => a.eval (lo.getD (.const undef))) ∧ ∀ n, l = some n → ∃ k, lo.map a.eval = some (.int k n) := by
  cases lo with
  | none => cases h; exact ⟨rfl, fun n e => by cases e⟩
  | some x =>
    simp only [Option.map_some, optI] at h
    have hx := hR.eval x
    cases hxx : idx1 (evalA st.tmps x) with
    | none => rw [hxx] at h; cases h
    | some n =>
      rw [hxx] at h; cases h
      refine ⟨rfl, fun m e => ?_⟩
      cases e
      unfold idx1 at hxx
      split at hxx
      · rename_i k n' e
        cases hxx
        rw [e] at hx
        exact ⟨k, by rw [Option.map_some, avr_int hx]⟩
      · cases hxx
theorem elem_of {P : Program} {t e : TypeId} (h : P.underlying t = some (.slice e)) : P.elem t = e := by unfold Program.elem; rw [h]
theorem run_cut {P : Program} {t e : TypeId} (hu : P.underlying t = some (.slice e)) {A : Option Addr} {len cap s : Nat} (hsz : ∀ w, (sizeOf e).run P w = .ok s w) {lo hi : Option Value} {l h : Option Int} (hlo : l = none → lo = none) (hhi : h = none → hi = none)
    (hl : ∀ n, l = some n → ∃ k, lo = some (.int k n)) (hh : ∀ n, h = some n → ∃ k, hi = some (.int k n)) (hlc : len ≤ cap) (hc : cutOk (l.getD 0) (h.getD (len : Nat)) len = true) (w : World) :
    (Instr.sliceAt t (.slice A len cap) lo hi none).run P w = .ok (sliced A (l.getD 0).toNat (h.getD (len : Nat)).toNat cap s) w := by
  have he := elem_of hu
  have ht : P.underlying t = some (.slice (P.elem t)) := by rw [he]; exact hu
  rw [run_sliceAt_slice w t _ _ _ _ ht]
  unfold cutOk at hc
  simp only [Bool.and_eq_true, decide_eq_true_eq] at hc
  obtain ⟨⟨c1, c2⟩, c3⟩ := hc
  cases l with
  | none =>
    rw [hlo rfl]
    cases h with
    | none => rw [hhi rfl, run_slice_all w t A len cap ht, he, hsz]; simp
    | some n =>
      obtain ⟨k, hk⟩ := hh n rfl
      simp only [Option.getD_none, Option.getD_some] at c1 c2 c3
      rw [hk, run_slice_h w t A len cap ht k n c2 (by omega), he, hsz]; simp
  | some m =>
    obtain ⟨k, hk⟩ := hl m rfl
    cases h with
    | none =>
      simp only [Option.getD_none, Option.getD_some] at c1 c2 c3
      rw [hhi rfl, hk, run_slice_l w t A len cap ht k m c1 c2, he, hsz]; simp
    | some n =>
      obtain ⟨k', hk'⟩ := hh n rfl
      simp only [Option.getD_some] at c1 c2 c3
      rw [hk, hk', run_slice_lh w t A len cap ht k k' m n c1 c2 (by omega), he, hsz]; simp
theorem opt_none {lo : Option Operand} {T : Nat → AV} {l : Option Int} (h : optI (lo.map (evalA T)) = some l) (e : l = none) (f : Operand → Value) : lo.map f = none := by
  cases lo with
  | none => rfl
  | some x =>
    simp only [Option.map_some, optI] at h
    cases hxx : idx1 (evalA T x) with
    | none => rw [hxx] at h; cases h
    | some n => rw [hxx, e] at h; cases h
theorem sliced_at {A : Option Addr} {l h m s : Nat} (hA : h - l = 0 ∨ ∃ k o, A = some ⟨k, o, none⟩) (hl : l ≤ h) (hm : h ≤ m) : ∃ A', sliced A l h m s = .slice A' (h - l) (m - l) ∧ (h - l = 0 ∨ ∃ k o, A = some ⟨k, o, none⟩ ∧ A' = some ⟨k, o + l * s, none⟩) := by
  refine ⟨_, rfl, ?_⟩
  rcases hA with hA | ⟨k, o, rfl⟩
  · exact .inl hA
  · by_cases e : h - l = 0
    · exact .inl e
    · right
      refine ⟨k, o, rfl, ?_⟩
      rw [if_neg (by omega)]
      show some ((⟨k, o, none⟩ : Addr).add (l * s)) = _
      rw [add_at]
theorem sound_slice (hT : TabOK C.P T) {t : TypeId} {x : Operand} {lo hi : Option Operand} (ho : o.op = .slice t x lo hi none) {row : TRow} (hrow : tget T t = some row) (hd : dstOk C.n o.dst = true) {res : Res}
    (h : (sliceP row (evalA st.tmps x) (lo.map (evalA st.tmps)) (hi.map (evalA st.tmps))).go st.roots = some res) : Sound C o st res := by
  unfold sliceP at h
  split at h
  case h_2 => cases h
  rename_i e te l hh he hlo hhi
  obtain ⟨hu, ⟨re, hre, hte⟩, hnz, hpl⟩ := (hT t row hrow).elem he
  have hsz : ∀ w, (sizeOf e).run C.P w = .ok te.sz w := fun w => by rw [(hT e re hre).sizeOf w, hte]
  have hrun : ∀ {D : Nat → DRoot} {Sh : Nat → Prop} {a : Act} {w : World} {A : Option Addr} {len cap : Nat}, Rel C st D Sh a w → a.eval x = .slice A len cap → len ≤ cap → cutOk (l.getD 0) (hh.getD (len : Nat)) len = true → (execOp a.eval o).run C.P w = .ok (.value (sliced A (l.getD 0).toNat (hh.getD (len : Nat)).toNat cap te.sz)) w := by
    intro D Sh a w A len cap hR hx hlc hc
    have := run_cut hu hsz (lo := lo.map a.eval) (hi := hi.map a.eval) (fun e => opt_none hlo e _) (fun e => opt_none hhi e _) (optI_eval hR hlo).2 (optI_eval hR hhi).2 hlc hc w (A := A)
    simp only [execOp, ho, hx, Option.map_none, Sem.run_bind, Sem.run_pure, Result.andThen_ok, this]
  generalize hxx : evalA st.tmps x = ax at h
  cases ax with
  | sh tx y =>
    cases tx with
    | sl o1 e1 t1 =>
      simp only at h
      cases hsb : Nat.beq t1.sz te.sz with
      | false => rw [hsb] at h; cases h
      | true =>
      rw [hsb] at h
      have hsz1 : t1.sz = te.sz := Nat.eq_of_beq_eq_true hsb
      simp only [cond_true, Prog.go] at h
      cases hc : cutOk (l.getD 0) (hh.getD (List.length y : Nat)) (List.length y) with
      | false => rw [hc] at h; cases h
      | true =>
        rw [hc] at h
        simp only [cond_true, Prog.go] at h
        cases h
        refine sound_quiet hd (fun D Sh a w hR => ?_)
        have hx := hR.eval x
        rw [hxx] at hx
        obtain ⟨cs, hcs, hv⟩ := hx
        have hcs' : Ty.RR w Sh (.sl o1 e1 t1) y cs := hcs
        obtain ⟨A, c, rfl, h1, h2, h3⟩ := hcs
        have hev : a.eval x = .slice A (List.length y) c := hv
        have hcc := hc
        unfold cutOk at hcc
        simp only [Bool.and_eq_true, decide_eq_true_eq] at hcc
        obtain ⟨⟨c1, c2⟩, c3⟩ := hcc
        obtain ⟨A', g1, g2⟩ := sliced_at (A := A) (l := (l.getD 0).toNat) (h := (hh.getD (List.length y : Nat)).toNat) (m := c) (s := te.sz) (by
          by_cases e0 : (hh.getD (List.length y : Nat)).toNat - (l.getD 0).toNat = 0
          · exact .inl e0
          · right
            have hlt : 0 < List.length y := by omega
            obtain ⟨b, o', hA, _⟩ := h3 0 _ (List.getElem?_eq_getElem hlt)
            exact ⟨b, o', hA⟩) (by omega) (by omega)
        have hr := hrun hR hev h1 hc
        rw [g1] at hr
        refine ⟨_, hr, ⟨_, RR_cut hcs' (lo := (l.getD 0).toNat) (n := (hh.getD (List.length y : Nat)).toNat - (l.getD 0).toNat) (by omega) (A' := A') (by rw [hsz1]; exact g2), rfl⟩⟩
    | _ => cases h
  | al id p s tx =>
    cases tx with
    | sl o1 e1 t1 =>
      cases o1 with
      | false => cases h
      | true =>
        simp only at h
        cases hsb : Nat.beq t1.sz te.sz with
        | false => rw [hsb] at h; cases h
        | true =>
        rw [hsb] at h
        have hsz1 : t1.sz = te.sz := Nat.eq_of_beq_eq_true hsb
        simp only [cond_true] at h
        obtain ⟨r, hr, hs1, hs2, h⟩ := withR_go h
        split at h
        case h_2 => cases h
        rename_i e2 t2 xs hgv
        simp only [Prog.go] at h
        cases hc : cutOk (l.getD 0) (hh.getD (List.length xs : Nat)) (List.length xs) with
        | false => rw [hc] at h; cases h
        | true =>
          rw [hc] at h
          simp only [cond_true, Prog.go] at h
          cases h
          refine sound_quiet hd (fun D Sh a w hR => ?_)
          have hx := hR.eval x
          rw [hxx] at hx
          obtain ⟨cs, ⟨_, r', hr', _, hcv⟩, hv⟩ := hx
          rw [hr] at hr'; cases hr'
          obtain ⟨b, u, hlk, hut, rfl⟩ := hcv hs2
          obtain ⟨hg, huok, _⟩ := hR.look hr hlk
          obtain ⟨ut, ud⟩ := u
          have hut : ut = .sl true e1 t1 := hut
          subst hut
          obtain ⟨⟨A, c⟩, ds⟩ := ud
          rw [hgv] at hg
          have hg : some (⟨.sl true e2 t2, xs⟩ : V) = some ⟨.sl true e1 t1, ds.map t1.er⟩ := hg
          cases hg
          rw [List.length_map] at hc ⊢
          have hev : a.eval x = .slice A ds.length c := hv
          have hcc := hc
          unfold cutOk at hcc
          simp only [Bool.and_eq_true, decide_eq_true_eq] at hcc
          obtain ⟨⟨c1, c2⟩, c3⟩ := hcc
          have hlc : ds.length ≤ c := by
            rcases huok with ⟨g1, g2⟩ | ⟨b', o', row', g1, g2, g3, _⟩
            · have g2 : ds = [] := g2
              subst g2; exact Nat.zero_le _
            · exact g3
          obtain ⟨A', g1, g2⟩ := sliced_at (A := A) (l := (l.getD 0).toNat) (h := (hh.getD (ds.length : Nat)).toNat) (m := c) (s := te.sz) (by
            by_cases e0 : (hh.getD (ds.length : Nat)).toNat - (l.getD 0).toNat = 0
            · exact .inl e0
            · right
              exact own_some huok (i := 0) (by omega)) (by omega) (by omega)
          have hr2 := hrun hR hev hlc hc
          rw [g1] at hr2
          exact ⟨_, hr2, ⟨_, ⟨r, hr, Nat.le_refl _, fun _ => ⟨b, e1, t1, A, c, ds, rfl, hlk, by omega, A', rfl, by rw [hsz1]; exact g2⟩⟩, rfl⟩⟩
    | _ => cases h
  | _ => cases h
end
end Go.Proofs.Ytabjfkongckhaaa.Vm
