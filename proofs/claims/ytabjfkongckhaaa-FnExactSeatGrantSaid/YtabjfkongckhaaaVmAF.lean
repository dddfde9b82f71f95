/- Operations: append and slices written out, joined. -/
import Derived.Test.YtabjfkongckhaaaVmAE
namespace Go.Proofs.Ytabjfkongckhaaa.Vm
open Go Go.RowKit
set_option linter.unusedVariables false

theorem run_append_op {P : Program} {c : Call} (hc : c.callee = .builtin .append) {x y : Operand} {t tx : TypeId} (ha : c.args.toList = [x, y]) (hty : c.argTypes.toList = [t, tx]) {o : Oper} (ho : o.op = .call c) {a : Act} {w w' : World} {v : Value}
    (h : (Builtin.append_ #[t, tx] o.type #[a.eval x, a.eval y]).run P w = .ok v w') : (execOp a.eval o).run P w = .ok (.value v) w' := by
  have e1 : Array.map a.eval c.args = #[a.eval x, a.eval y] := by
    apply Array.ext'
    rw [Array.toList_map, ha]; rfl
  have e2 : c.argTypes = #[t, tx] := by
    apply Array.ext'
    rw [hty]
  simp only [execOp, ho, resolve, hc, invoke, builtin, e1, e2, Sem.run_bind, Sem.run_pure, Result.andThen_ok, h]
theorem lowB_elem {e : TypeId} {t t' : Ty} (h : lowB (.sl true e t) (.sl true e t') = true) : lowB t t' = true := by
  simp only [lowB, Bool.true_and, Bool.and_eq_true] at h
  exact h.2
theorem list_len_map {α β : Type} {f : α → β} {es : List α} {ys : List β} (h : es.map f = ys) : ys.length = es.length := by rw [← h, List.length_map]
section
variable {C : Ctx} {st : St} {D : Nat → DRoot} {Sh : Nat → Prop} {F : List DV} {a : Act} {w : World} {T : List (TypeId × TRow)} {o : Oper}
theorem sound_append (hT : TabOK C.P T) {c : Call} (ho : o.op = .call c) (hc : c.callee = .builtin .append) {x y : Operand} {t tx : TypeId} (ha : c.args.toList = [x, y]) (hty : c.argTypes.toList = [t, tx]) {row rx : TRow} (hrow : tget T t = some row) (hrx : tget T tx = some rx) (hk : kindOk rx = true)
    {e : TypeId} {te : Ty} (he : elemSz row = some (e, te)) {re : TRow} (hre : tget T e = some re) {d : Nat} (hd : o.dst = some d) (hdn : dstOk C.n o.dst = true) {res : Res}
    (h : (appendP row re.bytes (evalA st.tmps x) (evalA st.tmps y) d).go st.roots = some res) : Sound C o st res := by
  intro D Sh a w K Q hR hK
  obtain ⟨hu, ⟨re', hre', hte⟩, hnz, hpl⟩ := (hT t row hrow).elem he
  rw [hre] at hre'; cases hre'
  have hkind : Kind C.P tx := by
    have := (hT tx rx hrx).desc
    unfold DescOK at this
    unfold kindOk at hk
    cases hty' : rx.ty <;> rw [hty'] at hk this <;> first | exact .inr this | exact .inl ⟨_, this.2.1⟩ | cases hk
  unfold appendP at h
  rw [he] at h
  simp only [Prog.go_bind] at h
  cases h1 : (takeP row.ty (evalA st.tmps x) []).go st.roots with
  | none => rw [h1] at h; cases h
  | some q =>
    obtain ⟨u, ws1⟩ := q
    rw [h1] at h
    simp only at h
    cases h2 : (srcP te (evalA st.tmps y) ws1).go st.roots with
    | none => rw [h2] at h; cases h
    | some q =>
      obtain ⟨v, ws2⟩ := q
      rw [h2] at h
      simp only at h
      obtain ⟨D1, z, hz, hvx, hl, K1, F1⟩ := hR.take (hR.eval x) h1
      split at h
      case h_2 => cases h
      rename_i e1 t1 xs e2 t2 ys
      cases hb : Nat.beq t2.sz te.sz with
      | false => rw [hb] at h; cases h
      | true =>
        rw [hb] at h
        simp only [cond_true] at h
        have hsz2 : t2.sz = te.sz := Nat.eq_of_beq_eq_true hb
        obtain ⟨D2, Sh2, es, g1, s2, K2, F2, hsrc⟩ := srcP_ok (T := st.tmps) h2 (by rw [hsz2]; exact hnz) F1 (K1.avr (hR.eval y))
        have hlen : List.length ys = es.length := list_len_map g1
        split at h
        · rename_i hax
          have hev : a.eval x = .slice none 0 0 := by
            have := hR.eval x
            rw [hax] at this
            obtain ⟨cs, hcs, hv⟩ := this
            cases hcs; exact hv
          simp only [Prog.go] at h
          cases hfit : fits (List.length ys) re.bytes with
          | false => rw [hfit] at h; cases h
          | true =>
            rw [hfit] at h
            simp only [newRoot, getR_go, cond_true] at h
            cases hn : app ws2 st.roots d with
            | some r => rw [hn] at h; cases h
            | none =>
              rw [hn] at h; cases h
              have F3 : RelF C ⟨st.tmps, app ws2 st.roots⟩ D2 Sh2 (⟨.sl true e t2, ((none, 0), [])⟩ :: (eHand t2 es ++ [])) a w := by
                rw [List.append_nil]
                exact RelF.free (v := ⟨.sl true e t2, ((none, 0), [])⟩) (RelF.drop (F2.perm (F' := z :: eHand t2 es) (List.perm_append_comm))) (.inl ⟨rfl, rfl⟩) rfl
              obtain ⟨A', c', w', r1, r2, r3⟩ := app_run (C := C) (st := ⟨st.tmps, app ws2 st.roots⟩) hT (tx := tx) (ty := o.type) hu hre (by rw [hsz2, hte]) F3 (hsrc C.P tx hkind) (by rw [List.length_nil, Nat.zero_add, ← hlen]; exact hfit)
              have r1' : (Builtin.append_ #[t, tx] o.type #[a.eval x, a.eval y]).run C.P w = .ok (.slice A' ([] ++ es).length c') w' := by
                rw [hev, List.nil_append]
                simpa using r1
              exact done_hold (C := C) (st := st) hd hdn hn r3 (run_append_op hc ha hty ho r1') rfl (congrArg (V.mk (.sl true e t2)) (by show ([] ++ es).map t2.er = ys; rw [List.nil_append]; exact g1)) hK
        · cases hb2 : (Nat.beq e1 e && Nat.beq t1.sz te.sz) with
          | false => rw [hb2] at h; cases h
          | true =>
            rw [hb2] at h
            rw [Bool.and_eq_true] at hb2
            have hee := Nat.eq_of_beq_eq_true hb2.1
            subst hee
            have hsz1 : t1.sz = te.sz := Nat.eq_of_beq_eq_true hb2.2
            simp only [cond_true] at h
            split at h
            case h_2 => cases h
            rename_i xs' ys' hx' hy'
            simp only [Prog.go] at h
            cases hfit : fits (List.length xs + List.length ys) re.bytes with
            | false => rw [hfit] at h; cases h
            | true =>
              rw [hfit] at h
              simp only [newRoot, getR_go, cond_true] at h
              cases hn : app ws2 st.roots d with
              | some r => rw [hn] at h; cases h
              | none =>
                rw [hn] at h; cases h
                obtain ⟨hl1, hxx⟩ := toT_some (show toT ⟨.sl true e1 t1, xs⟩ (.sl true e1 (meetT t1 t2)) = some xs' from hx')
                obtain ⟨hl2, hyy⟩ := toT_some (show toT ⟨.sl true e2 t2, ys⟩ (.sl true e2 (meetT t1 t2)) = some ys' from hy')
                generalize meetT t1 t2 = tm at *
                obtain ⟨zt, zd⟩ := z
                have hzt : zt = .sl true e1 t1 := congrArg V.t hz
                subst hzt
                obtain ⟨⟨A, c0⟩, ds⟩ := zd
                have hz : (⟨.sl true e1 t1, ds.map t1.er⟩ : V) = ⟨.sl true e1 t1, xs⟩ := hz
                cases hz
                have hev : a.eval x = .slice A ds.length c0 := hvx
                obtain ⟨Sh3, d', p1, p2, s3, K3, F3⟩ := RelF.low (C := C) (u := ⟨.sl true e1 t1, ((A, c0), ds)⟩) (F := eHand t2 es) (F2.perm List.perm_append_comm) (t' := .sl true e1 tm) hl1
                obtain ⟨⟨A3, c3⟩, ds3⟩ := d'
                have p2 : [Value.slice A3 ds3.length c3] = [Value.slice A ds.length c0] := p2
                simp only [List.cons.injEq, Value.slice.injEq, and_true] at p2
                obtain ⟨rfl, p3, rfl⟩ := p2
                obtain ⟨Sh4, es', q1, q2, q3, s4, K4, F4⟩ := RelF.lowEs (C := C) (lowB_elem hl2) (es := es) (F := [⟨.sl true e1 tm, ((A3, c3), ds3)⟩]) (F3.perm (List.perm_append_comm (l₁ := [_])))
                have hszm : tm.sz = te.sz := by rw [← Ty.sz_same (lowB_shr (lowB_elem hl2))]; exact hsz2
                have F5 : RelF C ⟨st.tmps, app ws2 st.roots⟩ D2 Sh4 (⟨.sl true e1 tm, ((A3, c3), ds3)⟩ :: (eHand tm es' ++ [])) a w := by
                  rw [List.append_nil]
                  exact F4.perm List.perm_append_comm
                have hs5 : Src C.P tm.sz tx (a.eval y) es'.length (flatC tm es') w := by
                  have := hsrc C.P tx hkind
                  rw [q2, q3, ← Ty.sz_same (lowB_shr (lowB_elem hl2))]; exact this
                obtain ⟨A', c', w', r1, r2, r3⟩ := app_run (C := C) (st := ⟨st.tmps, app ws2 st.roots⟩) hT (tx := tx) (ty := o.type) hu hre (by rw [hszm, hte]) F5 hs5 (by rw [p3, q3, ← hlen]; simpa using hfit)
                have r1' : (Builtin.append_ #[t, tx] o.type #[a.eval x, a.eval y]).run C.P w = .ok (.slice A' (ds3 ++ es').length c') w' := by
                  rw [hev, ← p3, List.length_append]
                  exact r1
                refine done_hold (C := C) (st := st) hd hdn hn r3 (run_append_op hc ha hty ho r1') rfl (congrArg (V.mk (.sl true e1 tm)) ?_) hK
                show (ds3 ++ es').map tm.er = xs' ++ ys'
                rw [List.map_append]
                congr 1
                · rw [hxx]; exact p1
                · rw [hyy, q1, g1]
                  exact (Ty.cast_list (Ty.den_same (lowB_shr (lowB_elem hl2))) _ ys).symm
end
end Go.Proofs.Ytabjfkongckhaaa.Vm
