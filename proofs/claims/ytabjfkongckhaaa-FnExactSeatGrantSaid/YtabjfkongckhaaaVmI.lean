/- Operations: addresses, loads, stores, new variables. -/
import Derived.Test.YtabjfkongckhaaaVmH
namespace Go.Proofs.Ytabjfkongckhaaa.Vm
open Go Go.RowKit
set_option linter.unusedVariables false

def fldP : Nat → Path
  | 0 => [.fst]
  | i + 1 => .snd :: fldP i
theorem depth_append (p q : Path) : depth (p ++ q) = depth p + depth q := by
  induction p with
  | nil => simp [depth]
  | cons s p ih => cases s <;> simp only [List.cons_append, depth, ih] <;> omega
theorem depth_fldP : ∀ i, depth (fldP i) = 0
  | 0 => rfl
  | i + 1 => depth_fldP i
theorem lookD_append : ∀ (p q : Path) (v : DV) (b : Base), lookD v b (p ++ q) = match lookD v b p with
    | some (b', u) => lookD u b' q
    | none => none
  | [], q, v, b => rfl
  | s :: p, q, ⟨t, x⟩, b => by
    cases s with
    | fst =>
      cases t with
      | cons a r => exact lookD_append p q ⟨a, x.1⟩ b
      | _ => rfl
    | snd =>
      cases t with
      | cons a r => exact lookD_append p q ⟨r, x.2⟩ _
      | _ => rfl
    | idx n =>
      cases t with
      | sl o e t =>
        cases o with
        | false => rfl
        | true =>
          simp only [List.cons_append, lookD]
          cases hA : x.1.1 with
          | none => rfl
          | some A =>
            cases hd : x.2[n]? with
            | none => rfl
            | some d => exact lookD_append p q ⟨t, d⟩ _
      | _ => rfl
theorem getV_append : ∀ (p q : Path) (v : V), getV v (p ++ q) = match getV v p with
    | some u => getV u q
    | none => none
  | [], q, v => rfl
  | s :: p, q, ⟨t, x⟩ => by
    cases s with
    | fst =>
      cases t with
      | cons a r => exact getV_append p q ⟨a, x.1⟩
      | _ => rfl
    | snd =>
      cases t with
      | cons a r => exact getV_append p q ⟨r, x.2⟩
      | _ => rfl
    | idx n =>
      cases t with
      | sl o e t =>
        cases o with
        | false => rfl
        | true => exact getV_append p q ⟨t, _⟩
      | _ => rfl

/-- Field i of a struct that the table tells. -/
theorem look_fld {T : List (TypeId × TRow)} : ∀ {i off : Nat} {ty : Ty} {ts : List TypeId} {fs : List Field} {f : Field}, FldOK T off ty ts fs → fs[i]? = some f → ∀ {t : Ty} {d : t.dec}, like t ty = true → ∀ (b : Base),
    ∃ u n, lookD ⟨t, d⟩ b (fldP i) = some (Base.up b n, u) ∧ off + n = f.offset ∧ ∃ rf, tget T f.type = some rf ∧ like u.t rf.ty = true ∧ rf.ty.sz ≠ 0
  | i, off, .cons a r, t0 :: ts, f0 :: fs, f, h, hi, t, d, hl, b => by
    cases t with
    | cons a' r' =>
      simp only [like, Bool.and_eq_true] at hl
      obtain ⟨h1, h2, _, ⟨rf, h3, h4⟩, h5, h6⟩ := h
      cases i with
      | zero =>
        simp only [List.getElem?_cons_zero, Option.some.injEq] at hi
        subst hi
        refine ⟨⟨a', d.1⟩, 0, ?_, by omega, rf, by rw [h1]; exact h3, by rw [h4]; exact hl.1, by rw [h4]; exact h5⟩
        show some (b, (⟨a', d.1⟩ : DV)) = some (Base.up b 0, ⟨a', d.1⟩)
        cases b <;> rfl
      | succ i =>
        obtain ⟨u, n, g1, g2, g3⟩ := look_fld h6 (by simpa using hi) (d := d.2) hl.2 (Base.up b a'.sz)
        refine ⟨u, a'.sz + n, ?_, ?_, g3⟩
        · show lookD ⟨r', d.2⟩ (Base.up b a'.sz) (fldP i) = _
          rw [g1]
          cases b with
          | none => rfl
          | some z => simp only [Base.up, Option.map_some, Nat.add_assoc]
        · rw [like_sz hl.1]; omega
    | _ => cases hl
  | i, off, .nil, [], [], f, h, hi, t, d, hl, b => by cases hi
  | i, off, .nil, _ :: _, _, f, h, hi, t, d, hl, b => by cases h
  | i, off, .nil, [], _ :: _, f, h, hi, t, d, hl, b => by cases h
  | i, off, .cons _ _, [], _, f, h, hi, t, d, hl, b => by cases h
  | i, off, .cons _ _, _ :: _, [], f, h, hi, t, d, hl, b => by cases h
  | i, off, .int _, _, _, f, h, hi, t, d, hl, b | i, off, .bool, _, _, f, h, hi, t, d, hl, b | i, off, .str, _, _, f, h, hi, t, d, hl, b | i, off, .hole, _, _, f, h, hi, t, d, hl, b | i, off, .sl _ _ _, _, _, f, h, hi, t, d, hl, b => by cases h
/-- .. of what is shared. -/
theorem get_fld {T : List (TypeId × TRow)} {w : World} {Sh : Nat → Prop} : ∀ {i off : Nat} {ty : Ty} {ts : List TypeId} {fs : List Field} {f : Field}, FldOK T off ty ts fs → fs[i]? = some f → ∀ {t : Ty} {x : t.den} {cs : List Value}, like t ty = true → Ty.RR w Sh t x cs →
    ∃ v n c, getV ⟨t, x⟩ (fldP i) = some v ∧ off + n = f.offset ∧ Ty.RR w Sh v.t v.x c ∧ (∀ j u, c[j]? = some u → cs[n + j]? = some u) ∧ c = (cs.drop n).take v.t.sz ∧ ∃ rf, tget T f.type = some rf ∧ like v.t rf.ty = true ∧ rf.ty.sz ≠ 0
  | i, off, .cons a r, t0 :: ts, f0 :: fs, f, h, hi, t, x, cs, hl, hR => by
    cases t with
    | cons a' r' =>
      simp only [like, Bool.and_eq_true] at hl
      obtain ⟨h1, h2, _, ⟨rf, h3, h4⟩, h5, h6⟩ := h
      obtain ⟨c0, c1, rfl, r0, r1⟩ := hR
      cases i with
      | zero =>
        simp only [List.getElem?_cons_zero, Option.some.injEq] at hi
        subst hi
        refine ⟨⟨a', x.1⟩, 0, c0, rfl, by omega, r0, fun j u hj => ?_, ?_, rf, by rw [h1]; exact h3, by rw [h4]; exact hl.1, by rw [h4]; exact h5⟩
        · rw [Nat.zero_add, List.getElem?_append_left (List.getElem?_eq_some_iff.1 hj).1]; exact hj
        · show c0 = List.take a'.sz (List.drop 0 (c0 ++ c1))
          rw [List.drop_zero, ← Ty.RR_len r0, List.take_left]
      | succ i =>
        obtain ⟨v, n, c, g1, g2, g3, g4, g5, g6⟩ := get_fld h6 (by simpa using hi) (x := x.2) hl.2 r1
        have hl0 : c0.length = a'.sz := Ty.RR_len r0
        refine ⟨v, a'.sz + n, c, g1, by rw [like_sz hl.1]; omega, g3, fun j u hj => ?_, ?_, g6⟩
        · rw [List.getElem?_append_right (by omega)]
          rw [show a'.sz + n + j - c0.length = n + j by omega]
          exact g4 j u hj
        · rw [g5, ← hl0, ← List.drop_drop, List.drop_left]
    | _ => cases hl
  | i, off, .nil, [], [], f, h, hi, t, x, cs, hl, hR => by cases hi
  | i, off, .nil, _ :: _, _, f, h, hi, t, x, cs, hl, hR => by cases h
  | i, off, .nil, [], _ :: _, f, h, hi, t, x, cs, hl, hR => by cases h
  | i, off, .cons _ _, [], _, f, h, hi, t, x, cs, hl, hR => by cases h
  | i, off, .cons _ _, _ :: _, [], f, h, hi, t, x, cs, hl, hR => by cases h
  | i, off, .int _, _, _, f, h, hi, t, x, cs, hl, hR | i, off, .bool, _, _, f, h, hi, t, x, cs, hl, hR | i, off, .str, _, _, f, h, hi, t, x, cs, hl, hR | i, off, .hole, _, _, f, h, hi, t, x, cs, hl, hR | i, off, .sl _ _ _, _, _, f, h, hi, t, x, cs, hl, hR => by cases h

/-- A struct's row of the table. -/
def isStruct (r : TRow) : Bool := r.ty.agg
theorem RowOK.fields {P : Program} {T : List (TypeId × TRow)} {t : TypeId} {r : TRow} (h : RowOK P T t r) (hs : r.ty.agg = true) : ∃ fs, P.underlying t = some (.struct fs) ∧ FldOK T 0 r.ty r.fs fs.toList := by
  have d := h.desc
  unfold DescOK at d
  split at d <;> first | exact d | (rename_i hty; rw [hty] at hs; cases hs) | exact d.elim
theorem FldOK.len {T : List (TypeId × TRow)} : ∀ {off : Nat} {ty : Ty} {ts : List TypeId} {fs : List Field}, FldOK T off ty ts fs → fs.length = ts.length
  | off, .nil, [], [], _ => rfl
  | off, .cons a r, t :: ts, f :: fs, h => by simp only [List.length_cons, FldOK.len h.2.2.2.2.2]
  | off, .nil, _ :: _, _, h => by cases h
  | off, .nil, [], _ :: _, h => by cases h
  | off, .cons _ _, [], _, h => by cases h
  | off, .cons _ _, _ :: _, [], h => by cases h
  | off, .int _, _, _, h | off, .bool, _, _, h | off, .str, _, _, h | off, .hole, _, _, h | off, .sl _ _ _, _, _, h => by cases h

/-- A root, if what is told by it still stands. -/
def withR (id s m : Nat) (ho : Bool) {α : Type} (k : Root → Prog α) : Prog α := .ask id fun
  | some r => bif Nat.ble s r.log.length && since r.log s m ho then k r else .fail
  | none => .fail
theorem withR_go {id s m : Nat} {ho : Bool} {α : Type} {k : Root → Prog α} {R : Nat → Option Root} {x : α} (h : (withR id s m ho k).go R = some x) : ∃ r, R id = some r ∧ s ≤ r.log.length ∧ since r.log s m ho = true ∧ (k r).go R = some x := by
  simp only [withR, Prog.go] at h
  cases hr : R id with
  | none => rw [hr] at h; cases h
  | some r =>
    simp only [hr] at h
    cases hb : (Nat.ble s r.log.length && since r.log s m ho) with
    | false => rw [hb] at h; cases h
    | true =>
      rw [hb] at h
      rw [Bool.and_eq_true] at hb
      exact ⟨r, rfl, by simpa [Nat.ble_eq] using hb.1, hb.2, h⟩

def fieldAddrP (row : TRow) (x : AV) (i : Nat) : Prog AV := bif row.ty.agg && Nat.blt i row.fs.length then match x with
  | .ptr id p s => withR id s (depth p) true fun r => match getV r.v p with
    | some v => bif like v.t row.ty then .ret (.ptr id (p ++ fldP i) r.log.length) else .fail
    | none => .fail
  | .sptr t x => bif like t row.ty then match getV ⟨t, x⟩ (fldP i) with
      | some v => .ret (.sptr v.t v.x)
      | none => .fail
    else .fail
  | _ => .fail else .fail
def loadP (row : TRow) (x : AV) : Prog AV := match x with
  | .ptr id p s => withR id s (depth p) true fun r => match getV r.v p with
    | some v => bif like v.t row.ty then .ret (bif v.t.plain then .sh v.t v.x else .al id p r.log.length v.t) else .fail
    | none => .fail
  | .sptr t x => bif like t row.ty then .ret (.sh t x) else .fail
  | _ => .fail

theorem flat_plain : ∀ {t : Ty}, t.flat = true → t.plain = true
  | .int _, _ | .bool, _ | .str, _ | .nil, _ => rfl
  | .hole, h => by cases h
  | .sl _ _ _, h => by cases h
  | .cons a r, h => by
    simp only [Ty.flat, Bool.and_eq_true] at h
    simp only [Ty.plain, flat_plain h.1, flat_plain h.2, Bool.and_self]
theorem since_now (log : List (Nat × Bool)) (m : Nat) (ho : Bool) : since log log.length m ho = true := by simp [since]

section
variable {C : Ctx} {st : St} {D : Nat → DRoot} {Sh : Nat → Prop} {a : Act} {w w' : World} {T : List (TypeId × TRow)}
/-- What a pointer leads to. -/
theorem ptr_look {R : Nat → Option Root} {id : Nat} {p : Path} {s : Nat} {v : Value} {r : Root} (h : AVR w Sh R D (.ptr id p s) v) (hr : R id = some r) (hs : since r.log s (depth p) true = true) :
    ∃ k o u, lookD (D id).dv (D id).base p = some (some (k, o), u) ∧ v = .pointer (some ⟨k, o, none⟩) := by
  obtain ⟨cs, ⟨v', rfl, r', hr', _, hv⟩, rfl⟩ := h
  rw [hr] at hr'; cases hr'
  exact hv hs
theorem mk_ptr {R : Nat → Option Root} {id : Nat} {p : Path} {r : Root} {k o : Nat} {u : DV} (hr : R id = some r) (hl : lookD (D id).dv (D id).base p = some (some (k, o), u)) : AVR w Sh R D (.ptr id p r.log.length) (.pointer (some ⟨k, o, none⟩)) :=
  ⟨_, ⟨_, rfl, r, hr, Nat.le_refl _, fun _ => ⟨k, o, u, hl, rfl⟩⟩, rfl⟩
theorem sptr_look {R : Nat → Option Root} {t : Ty} {x : t.den} {v : Value} (h : AVR w Sh R D (.sptr t x) v) : ∃ b o cc, v = .pointer (some ⟨b, o, none⟩) ∧ Sh b ∧ Ty.RR w Sh t x cc ∧ ∀ j u, cc[j]? = some u → w.cell? ⟨b, o + j, none⟩ = some u := by
  obtain ⟨cs, ⟨b, o, cc, rfl, hb, hR, hc⟩, rfl⟩ := h
  exact ⟨b, o, cc, rfl, hb, hR, hc⟩
theorem Rel.look (h : Rel C st D Sh a w) {id : Nat} {r : Root} (hr : st.roots id = some r) {p : Path} {b : Base} {u : DV} (hl : lookD (D id).dv (D id).base p = some (b, u)) :
    getV r.v p = some u.er ∧ u.OK w Sh ∧ ∀ k o, b = some (k, o) → Loc w k o u := by
  have R := h.root id r hr
  have hg := er_look hl
  rw [R.er] at hg
  exact ⟨hg, look_loc hl R.ok (fun k o hk => by obtain ⟨e1, rfl⟩ := base_some hk; exact R.loc k e1)⟩

theorem sound_fieldAddr (hT : TabOK C.P T) {o : Oper} {s : TypeId} {x : Operand} {i : Nat} (ho : o.op = .fieldAddr s x i) {row : TRow} (hrow : tget T s = some row) {av : AV} (hd : dstOk C.n o.dst = true)
    (h : (fieldAddrP row (evalA st.tmps x) i).go st.roots = some av) : Sound C o st ⟨av, []⟩ := by
  refine sound_quiet hd (fun D Sh a w hR => ?_)
  have he := hR.eval x
  have hr := hT s row hrow
  unfold fieldAddrP at h
  cases hg : (row.ty.agg && Nat.blt i row.fs.length) with
  | false => rw [hg] at h; cases h
  | true =>
    rw [hg] at h
    rw [Bool.and_eq_true] at hg
    obtain ⟨fs, hu, hf⟩ := hr.fields hg.1
    have hlt : i < fs.toList.length := by rw [hf.len]; simpa [Nat.blt_eq] using hg.2
    have hfi : fs.toList[i]? = some fs.toList[i] := List.getElem?_eq_getElem hlt
    have hfa : fs[i]? = some fs.toList[i] := by rw [← hfi, Array.getElem?_toList]
    simp only [cond_true] at h
    have hex : ∀ (k o : Nat) (n : Nat) (rf : TRow), n = fs.toList[i].offset → tget T fs.toList[i].type = some rf → rf.ty.sz ≠ 0 → a.eval x = .pointer (some ⟨k, o, none⟩) →
        ∀ (or : Oper), or.op = .fieldAddr s x i → (execOp a.eval or).run C.P w = .ok (.value (.pointer (some ⟨k, o + n, none⟩))) w := by
      intro k o n rf hn hrf hz hx or hor
      have hsz := (hT _ rf hrf).sizeOf w
      have hz' : (rf.ty.sz = 0) = False := by simpa using hz
      simp only [execOp, hor, Instr.fieldAt, Instr.sureAddr, fieldPlace, hx, Sem.run_bind, run_underlying hu, Result.andThen_ok, hfa, hsz, hz', if_false, Sem.run_pure, add_at, hn]
    generalize hx : evalA st.tmps x = ax at he h
    cases ax with
    | ptr id p s' =>
      simp only at h
      obtain ⟨r, hr1, hs1, hs2, h⟩ := withR_go h
      obtain ⟨k, o', u, hl, hv⟩ := ptr_look he hr1 hs2
      obtain ⟨hgv, _, _⟩ := hR.look hr1 hl
      simp only [hgv] at h
      cases hlk : like u.er.t row.ty with
      | false => rw [hlk] at h; cases h
      | true =>
        rw [hlk] at h; cases h
        obtain ⟨u', n, g1, g2, rf, g3, _, g4⟩ := look_fld (T := T) hf hfi (t := u.t) (d := u.d) hlk (some (k, o'))
        refine ⟨_, hex k o' n rf (by omega) g3 g4 hv o ho, mk_ptr hr1 (u := u') ?_⟩
        rw [lookD_append, hl]; exact g1
    | sptr t xx =>
      simp only at h
      obtain ⟨b, o', cc, hv, hb, hRR, hc⟩ := sptr_look he
      cases hlk : like t row.ty with
      | false => rw [hlk] at h; cases h
      | true =>
        rw [hlk] at h
        obtain ⟨v, n, c, g1, g2, g3, g4, _, rf, g5, _, g6⟩ := get_fld (T := T) hf hfi (t := t) (x := xx) hlk hRR
        simp only [cond_true, g1] at h
        cases h
        refine ⟨_, hex b o' n rf (by omega) g5 g6 hv o ho, ⟨_, ⟨b, o' + n, c, rfl, hb, g3, fun j u hj => ?_⟩, rfl⟩⟩
        have := hc (n + j) u (g4 j u hj)
        rw [← this]; congr 2; omega
    | _ => cases h

theorem sound_load (hT : TabOK C.P T) {o : Oper} {t : TypeId} {x : Operand} (ho : o.op = .load t x) {row : TRow} (hrow : tget T t = some row) {av : AV} (hd : dstOk C.n o.dst = true)
    (h : (loadP row (evalA st.tmps x)).go st.roots = some av) : Sound C o st ⟨av, []⟩ := by
  refine sound_quiet hd (fun D Sh a w hR => ?_)
  have he := hR.eval x
  have hr := hT t row hrow
  have hex : ∀ (k o' : Nat) (cs : List Value), cs.length = row.ty.sz → (∀ j v, cs[j]? = some v → w.cell? ⟨k, o' + j, none⟩ = some v) → a.eval x = .pointer (some ⟨k, o', none⟩) →
      (execOp a.eval o).run C.P w = .ok (.value (mkw row.ty.agg cs)) w := by
    intro k o' cs hl hc hx
    have := hr.load (w := w) hl hc
    simp only [execOp, ho, Instr.loadAt, Instr.sureAddr, hx, Sem.run_bind, Sem.run_pure, Result.andThen_ok, this]
  unfold loadP at h
  generalize hx : evalA st.tmps x = ax at he h
  cases ax with
  | ptr id p s =>
    obtain ⟨r, hr1, hs1, hs2, h⟩ := withR_go h
    obtain ⟨k, o', u, hl, hv⟩ := ptr_look he hr1 hs2
    obtain ⟨hgv, hok, hloc⟩ := hR.look hr1 hl
    simp only [hgv] at h
    cases hlk : like u.er.t row.ty with
    | false => rw [hlk] at h; cases h
    | true =>
      rw [hlk] at h; cases h
      obtain ⟨rw_, e, hrw, hc⟩ := hloc k o' rfl
      have hlen : u.cs.length = row.ty.sz := (Ty.cs_len u.t u.d).trans (like_sz hlk)
      have hag : u.t.agg = row.ty.agg := like_agg hlk
      refine ⟨_, hex k o' u.cs hlen (fun j v hj => by rw [hrw.cell]; exact hc j v hj) hv, ?_⟩
      cases hp : u.t.plain with
      | true =>
        show AVR w Sh st.roots D (bif u.t.plain then .sh u.t (u.t.er u.d) else _) _
        rw [hp]
        exact ⟨u.cs, Ty.OK_RR (fun _ h => h) hok (fun b hb => by rw [Ty.plain_foot u.d hp] at hb; cases hb), by rw [← hag]; rfl⟩
      | false =>
        show AVR w Sh st.roots D (bif u.t.plain then _ else .al id p r.log.length u.t) _
        rw [hp]
        refine ⟨u.cs, ⟨?_, r, hr1, Nat.le_refl _, fun _ => ⟨_, u, hl, rfl, rfl⟩⟩, by rw [← hag]; rfl⟩
        cases hf : u.t.flat with
        | false => rfl
        | true => rw [flat_plain hf] at hp; cases hp
  | sptr t' xx =>
    simp only at h
    obtain ⟨b, o', cc, hv, hb, hRR, hc⟩ := sptr_look he
    cases hlk : like t' row.ty with
    | false => rw [hlk] at h; cases h
    | true =>
      rw [hlk] at h; cases h
      exact ⟨_, hex b o' cc ((Ty.RR_len hRR).trans (like_sz hlk)) hc hv, ⟨cc, hRR, by rw [← like_agg hlk]; rfl⟩⟩
  | _ => cases h
end
end Go.Proofs.Ytabjfkongckhaaa.Vm
