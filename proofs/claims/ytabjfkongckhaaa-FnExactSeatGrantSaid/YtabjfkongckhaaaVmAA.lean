/- Operations: the small ones. -/
import Derived.Test.YtabjfkongckhaaaVmZ
namespace Go.Proofs.Ytabjfkongckhaaa.Vm
open Go Go.RowKit
set_option linter.unusedVariables false

section
variable {C : Ctx} {st : St} {D : Nat → DRoot} {Sh : Nat → Prop} {a : Act} {w : World} {T : List (TypeId × TRow)} {o : Oper}
theorem q_go {p : Prog AV} {R : Nat → Option Root} {res : Res} (h : (q p).go R = some res) : ∃ x, p.go R = some x ∧ res = ⟨x, []⟩ := by
  unfold q at h
  rw [Prog.go_bind] at h
  cases hp : p.go R with
  | none => rw [hp] at h; cases h
  | some x => rw [hp] at h; cases h; exact ⟨x, rfl, rfl⟩
theorem sound_nil {x : Operand} (ho : o.op = .nilCheck x) (hd : dstOk C.n o.dst = true) {av : AV} (h : (nilP (evalA st.tmps x)).go st.roots = some av) : Sound C o st ⟨av, []⟩ := by
  refine sound_quiet hd (fun D Sh a w hR => ?_)
  have hx := hR.eval x
  generalize evalA st.tmps x = ax at h hx
  have hex : ∀ k o', a.eval x = .pointer (some ⟨k, o', none⟩) → (execOp a.eval o).run C.P w = .ok (.value (a.eval x)) w := by
    intro k o' e
    simp only [execOp, ho, e, Sem.run_pure]
  cases ax with
  | ptr id p s =>
    have hin : since ((st.roots id).map (·.log) |>.getD []) s (depth p) true = true → ∃ v, (execOp a.eval o).run C.P w = .ok (.value v) w ∧ AVR w Sh st.roots D (.ptr id p s) v := by
      intro hs
      obtain ⟨cs, ⟨v, rfl, r, hr, hsl, hp⟩, hv⟩ := hx
      rw [hr] at hs
      obtain ⟨k, o', u, hl, hvv⟩ := hp hs
      have hv : a.eval x = v := hv
      subst hv
      exact ⟨_, hex k o' hvv, ⟨[a.eval x], ⟨_, rfl, r, hr, hsl, hp⟩, rfl⟩⟩
    simp only [nilP] at h
    cases hb : Nat.beq (depth p) 0 with
    | true =>
      rw [hb] at h; cases h
      exact hin (by rw [Nat.eq_of_beq_eq_true hb]; exact since0 _ _ _)
    | false =>
      rw [hb] at h
      obtain ⟨r, hr, _, hs, h⟩ := withR_go h
      cases h
      exact hin (by rw [hr]; exact hs)
  | sptr t y =>
    cases h
    obtain ⟨b, o', cc, hv, h2⟩ := sptr_look hx
    exact ⟨_, hex b o' hv, ⟨_, ⟨b, o', cc, rfl, h2⟩, hv⟩⟩
  | _ => cases h

/-! ### min, max -/
theorem run_mm {P : Program} {mx : Bool} {R : Nat → Option Root} : ∀ {l : List AV} {vs : List Value} {k : IntKind} {x : Int} {av : AV}, (mmP mx x k l).go R = some av → AVRs w Sh R D l vs →
    ∃ v, (vs.foldlM (if mx then Builtin.max2 else Builtin.min2) (.int k x)).run P w = .ok v w ∧ AVR w Sh R D av v
  | [], vs, k, x, av, h, hv => by
    cases h
    have hv : vs = [] := hv
    subst hv
    exact ⟨_, rfl, mk_int _ _⟩
  | .sh (.int k') y :: l, vs, k, x, av, h, hv => by
    obtain ⟨v, vs', rfl, h1, h2⟩ := hv
    have e := avr_int h1
    subst e
    obtain ⟨v, g1, g2⟩ := run_mm (P := P) (l := l) h h2
    refine ⟨v, ?_, g2⟩
    rw [List.foldlM_cons, Sem.run_bind]
    cases mx with
    | true => simpa [Builtin.max2, mxI] using g1
    | false => simpa [Builtin.min2, mnI] using g1
  | .sh .bool _ :: l, vs, k, x, av, h, hv | .sh .str _ :: l, vs, k, x, av, h, hv | .sh .hole _ :: l, vs, k, x, av, h, hv | .sh (.sl _ _ _) _ :: l, vs, k, x, av, h, hv | .sh .nil _ :: l, vs, k, x, av, h, hv | .sh (.cons _ _) _ :: l, vs, k, x, av, h, hv
  | .any :: l, vs, k, x, av, h, hv | .nilsl :: l, vs, k, x, av, h, hv | .al _ _ _ _ :: l, vs, k, x, av, h, hv | .cut _ _ _ _ _ _ :: l, vs, k, x, av, h, hv | .nilf :: l, vs, k, x, av, h, hv | .consf _ _ :: l, vs, k, x, av, h, hv
  | .ptr _ _ _ :: l, vs, k, x, av, h, hv | .sptr _ _ :: l, vs, k, x, av, h, hv | .fn _ _ :: l, vs, k, x, av, h, hv | .tup _ :: l, vs, k, x, av, h, hv => by cases h
theorem sound_mm {mx : Bool} {c : Call} (ho : o.op = .call c) (hc : c.callee = .builtin (if mx then .max else .min)) (hd : dstOk C.n o.dst = true) {k : IntKind} {x : Int} {l : List AV} (hl : c.args.toList.map (evalA st.tmps) = .sh (.int k) x :: l) {av : AV}
    (h : (mmP mx x k l).go st.roots = some av) : Sound C o st ⟨av, []⟩ := by
  refine sound_quiet hd (fun D Sh a w hR => ?_)
  have hav := avrs_map (T := st.tmps) hR c.args.toList
  rw [hl] at hav
  obtain ⟨v0, vs, hvs, h1, h2⟩ := hav
  have e := avr_int h1
  subst e
  obtain ⟨v, g1, g2⟩ := run_mm (P := C.P) h h2
  refine ⟨v, ?_, g2⟩
  have hvs' : (Array.map a.eval c.args).toList = .int k x :: vs := by rw [Array.toList_map, hvs]
  cases mx with
  | true =>
    have hc' : c.callee = .builtin .max := hc
    have g1 : (vs.foldlM Builtin.max2 (.int k x)).run C.P w = .ok v w := g1
    simp only [execOp, ho, resolve, hc', invoke, builtin, Builtin.max_, hvs', Sem.run_bind, Sem.run_pure, Result.andThen_ok, g1]
  | false =>
    have hc' : c.callee = .builtin .min := hc
    have g1 : (vs.foldlM Builtin.min2 (.int k x)).run C.P w = .ok v w := g1
    simp only [execOp, ho, resolve, hc', invoke, builtin, Builtin.min_, hvs', Sem.run_bind, Sem.run_pure, Result.andThen_ok, g1]

/-! ### a text's byte -/
theorem sound_index (hT : TabOK C.P T) {t : TypeId} {x i : Operand} (ho : o.op = .index t x i) {row : TRow} (hrow : tget T t = some row) (hd : dstOk C.n o.dst = true) {av : AV}
    (h : (indexP row (evalA st.tmps x) (evalA st.tmps i)).go st.roots = some av) : Sound C o st ⟨av, []⟩ := by
  refine sound_quiet hd (fun D Sh a w hR => ?_)
  have hx := hR.eval x
  have hi := hR.eval i
  have hr := hT t row hrow
  unfold indexP at h
  split at h
  case h_2 => cases h
  rename_i t1 b k n hty hxx hii
  rw [hxx] at hx
  rw [hii] at hi
  obtain ⟨g1, g2, h⟩ := within_go h
  cases h
  have hu : C.P.underlying t = some .string := by
    have := hr.desc
    unfold DescOK at this
    rw [hty] at this; exact this
  have e1 := avr_str hx
  have e2 := avr_int hi
  have hlt : n.toNat < b.size := by omega
  refine ⟨.int .u8 (byteAt b n.toNat), ?_, mk_int _ _⟩
  have hb : (if 0 ≤ n then b[n.toNat]? else none) = some b[n.toNat] := by
    rw [if_pos g1]
    exact getElem?_pos b n.toNat hlt
  have hbv : ((b[n.toNat].toNat : Nat) : Int) = byteAt b n.toNat := by
    unfold byteAt
    rw [List.getD_eq_getElem?_getD]
    have : b.data.toList[n.toNat]? = some b[n.toNat] := by
      rw [Array.getElem?_toList]
      exact Array.getElem?_eq_getElem hlt
    rw [this]; rfl
  simp only [execOp, ho, Instr.index, e1, e2, asIntOf, run_underlying hu, Sem.run_bind, Sem.run_pure, Result.andThen_ok, hb, hbv]

/-! ### a field of a struct in a slot -/
theorem sound_field (hT : TabOK C.P T) {t : TypeId} {x : Operand} {i : Nat} (ho : o.op = .field t x i) {row : TRow} (hrow : tget T t = some row) (hd : dstOk C.n o.dst = true) {av : AV}
    (h : (fieldP row (evalA st.tmps x) i).go st.roots = some av) : Sound C o st ⟨av, []⟩ := by
  refine sound_quiet hd (fun D Sh a w hR => ?_)
  have hx := hR.eval x
  have hr := hT t row hrow
  unfold fieldP at h
  cases hb : (row.ty.agg && Nat.blt i row.fs.length) with
  | false => rw [hb] at h; cases h
  | true =>
    rw [hb] at h
    simp only [cond_true] at h
    rw [Bool.and_eq_true] at hb
    obtain ⟨fs, hu, hfo⟩ := hr.fields hb.1
    generalize hxx : evalA st.tmps x = ax at h hx
    cases ax with
    | sh t' y =>
      simp only at h
      cases hl : like t' row.ty with
      | false => rw [hl] at h; cases h
      | true =>
        rw [hl] at h
        simp only [cond_true] at h
        obtain ⟨cs, hc, hv⟩ := hx
        have hc : Ty.RR w Sh t' y cs := hc
        have hlt : i < fs.toList.length := by rw [hfo.len]; simpa [Nat.blt_eq] using hb.2
        have hfi : fs.toList[i]? = some fs.toList[i] := List.getElem?_eq_getElem hlt
        generalize fs.toList[i] = f at hfi
        obtain ⟨v, n, c, g1, g2, g3, g4, g5, rf, g6, g7, g8⟩ := get_fld hfo hfi hl hc
        rw [g1] at h
        cases h
        have hrf := hT _ rf g6
        have hlc : c.length = v.t.sz := Ty.RR_len g3
        have hsz : v.t.sz = rf.ty.sz := like_sz g7
        have hag : v.t.agg = rf.ty.agg := like_agg g7
        have hagx : t'.agg = true := (like_agg hl).trans hb.1
        have hval : a.eval x = .agg cs.toArray := by rw [hv]; show mkw t'.agg cs = _; rw [hagx]; rfl
        rw [Nat.zero_add] at g2
        refine ⟨mkw v.t.agg c, ?_, ⟨c, g3, rfl⟩⟩
        have hpart : (part f.type cs.toArray f.offset).run C.P w = .ok (mkw v.t.agg c) w := by
          unfold part
          simp only [Sem.run_bind, hrf.isAgg, Result.andThen_ok, hag]
          cases hg : rf.ty.agg with
          | true =>
            simp only [if_true, Sem.run_bind, hrf.sizeOf, Result.andThen_ok, Sem.run_pure]
            congr 1
            show Value.agg _ = Value.agg _
            congr 1
            apply Array.ext'
            rw [Array.toList_extract]
            simp only [List.extract]
            rw [g5, hsz, ← g2]
            congr 1
            omega
          | false =>
            have hone := one_of (t := v.t) (cs := c) hlc (Ty.RR_one g3) (by rw [hag, hg])
            obtain ⟨u, rfl, _⟩ := hone
            have := g4 0 u rfl
            rw [Nat.add_zero, g2] at this
            simp [this, mkw]
        have hfa : fs[i]? = some f := by rw [← Array.getElem?_toList]; exact hfi
        simp only [execOp, ho, Instr.field, hval, run_underlying hu, Sem.run_bind, Sem.run_pure, Result.andThen_ok, hfa, asAgg, hpart]
    | _ => cases h
end
end Go.Proofs.Ytabjfkongckhaaa.Vm
