/- Operations: structs written out; conversions. -/
import Derived.Test.YtabjfkongckhaaaVmAG
namespace Go.Proofs.Ytabjfkongckhaaa.Vm
open Go Go.RowKit
set_option linter.unusedVariables false

theorem putL_len : ∀ (ps : List (Nat × List Value)) (L : List (List Value)), (putL ps L).length = L.length
  | [], L => rfl
  | (i, c) :: ps, L => by simp only [putL]; rw [putL_len ps]; simp
theorem look_asc : ∀ {ps : List (Nat × Operand)} {n i : Nat}, ascend n ps = true → i < n → lookN ps i = none
  | [], n, i, _, _ => rfl
  | (j, x) :: ps, n, i, h, hi => by
    simp only [ascend, Bool.and_eq_true, Nat.ble_eq] at h
    simp only [lookN]
    rw [nbeq (show j ≠ i by omega)]
    exact look_asc h.2 (by omega)
theorem look_mem : ∀ {ps : List (Nat × Operand)} {n i : Nat} {x : Operand}, ascend n ps = true → (i, x) ∈ ps → lookN ps i = some x
  | [], n, i, x, _, h => by cases h
  | (j, y) :: ps, n, i, x, h, hm => by
    simp only [ascend, Bool.and_eq_true, Nat.ble_eq] at h
    simp only [lookN]
    rcases List.mem_cons.1 hm with hm | hm
    · injection hm with e1 e2
      subst e1; subst e2
      rw [show Nat.beq i i = true by simp]; rfl
    · have hl := look_mem h.2 hm
      by_cases e : j = i
      · subst e
        rw [look_asc h.2 (by omega)] at hl; cases hl
      · rw [nbeq e]; exact hl
theorem putL_get (f : Operand → List Value) : ∀ {ps : List (Nat × Operand)} {n : Nat} {L : List (List Value)} {i : Nat} {c : List Value}, ascend n ps = true → L[i]? = some c → (putL (ps.map fun p => (p.1, f p.2)) L)[i]? = some (((lookN ps i).map f).getD c)
  | [], n, L, i, c, _, h => h
  | (j, x) :: ps, n, L, i, c, h, hc => by
    simp only [ascend, Bool.and_eq_true, Nat.ble_eq] at h
    simp only [List.map_cons, putL, lookN]
    by_cases e : j = i
    · subst e
      rw [show Nat.beq j j = true by simp, putL_get f h.2 (c := f x) (by rw [getElem?_set_self' hc]), look_asc h.2 (by omega)]
      rfl
    · rw [nbeq e, putL_get f h.2 (c := c) (by rw [List.getElem?_set_ne e]; exact hc)]
      rfl
theorem partL_get (f : Nat → Option (List Value)) : ∀ (L : List (List Value)) (k i : Nat), (partL f k L)[i]? = L[i]?.map fun c => (f (k + i)).getD c
  | [], k, i => rfl
  | c :: L, k, 0 => rfl
  | c :: L, k, i + 1 => by
    simp only [partL, List.getElem?_cons_succ]
    rw [partL_get f L (k + 1) i, show k + 1 + i = k + (i + 1) by omega]
theorem putL_part (f : Operand → List Value) {ps : List (Nat × Operand)} {n : Nat} (h : ascend n ps = true) (L : List (List Value)) : putL (ps.map fun p => (p.1, f p.2)) L = partL (fun i => (lookN ps i).map f) 0 L := by
  refine List.ext_getElem? fun i => ?_
  rw [partL_get, Nat.zero_add]
  cases hc : L[i]? with
  | none =>
    rw [List.getElem?_eq_none_iff] at hc
    rw [Option.map_none, List.getElem?_eq_none_iff, putL_len]; exact hc
  | some c => rw [putL_get f h hc]; rfl
theorem zeroL_len {T : List (TypeId × TRow)} : ∀ {off : Nat} {ty : Ty} {ts : List TypeId} {fs : List Field}, FldOK T off ty ts fs → (zeroL ty).length = ts.length
  | off, .nil, [], [], _ => rfl
  | off, .cons a r, t :: ts, f :: fs, h => by simp only [zeroL, List.length_cons, zeroL_len h.2.2.2.2.2]
  | off, .nil, _ :: _, _, h => by cases h
  | off, .nil, [], _ :: _, h => by cases h
  | off, .cons _ _, [], _, h => by cases h
  | off, .cons _ _, _ :: _, [], h => by cases h
  | off, .int _, _, _, h | off, .bool, _, _, h | off, .str, _, _, h | off, .hole, _, _, h | off, .sl _ _ _, _, _, h => by cases h
section
variable {C : Ctx} {st : St} {D : Nat → DRoot} {Sh : Nat → Prop} {F : List DV} {a : Act} {w : World} {T : List (TypeId × TRow)} {o : Oper}
theorem fit_val {x : Operand} {ty : Ty} {av : AV} (hR : Rel C st D Sh a w) (h : (fitP ty (evalA st.tmps x) (.ret (evalA st.tmps x))).go st.roots = some av) :
    av = evalA st.tmps x ∧ ∃ cs, AVC w Sh st.roots D av cs ∧ (a.eval x).cells.toList = cs ∧ cs.length = ty.sz := by
  have hx := hR.eval x
  generalize evalA st.tmps x = ax at h hx
  have h1 := (fit_go (C := C) h).1
  cases h1
  refine ⟨rfl, ?_⟩
  have hs : AVS w Sh st.roots D av (a.eval x) := avs_of_avr hx (fun e => by subst e; simp only [fitP] at h; cases h) (fun c e => by subst e; simp only [fitP] at h; cases h)
  obtain ⟨cs, hc, hv⟩ := hs
  obtain ⟨g1, g2, g3⟩ := (fit_go (C := C) h).2 rfl hR cs hc
  refine ⟨cs, hc, ?_, g1⟩
  rw [hv, g2]
  exact cells_mkw (fun hg => one_of (t := ty) g1 g3 hg)
theorem buildC_ok (hR : Rel C st D Sh a w) {ps : List (Nat × Operand)} : ∀ {ty : Ty} {i : Nat} {av : AV}, ty.full = true → (buildC (evalA st.tmps) ps i ty).go st.roots = some av →
    AVC w Sh st.roots D av (partL (fun j => (lookN ps j).map fun x => (a.eval x).cells.toList) i (zeroL ty)).flatten ∧ av.agg = true ∧
      ∀ j c x, (zeroL ty)[j]? = some c → lookN ps (i + j) = some x → (a.eval x).cells.toList.length = c.length
  | .nil, i, av, hf, h => by
    cases h
    exact ⟨rfl, rfl, fun j c x hj => by cases hj⟩
  | .cons t r, i, av, hf, h => by
    simp only [Ty.full, Bool.and_eq_true] at hf
    simp only [buildC, Prog.go_bind] at h
    -- the first field
    have first : ∀ {q : AV}, (match lookN ps i with
        | some x => fitP t (evalA st.tmps x) (.ret (evalA st.tmps x))
        | none => .ret (zeroA t) : Prog AV).go st.roots = some q →
        AVC w Sh st.roots D q (((lookN ps i).map fun x => (a.eval x).cells.toList).getD t.zeroC) ∧ ∀ x, lookN ps i = some x → (a.eval x).cells.toList.length = t.zeroC.length := by
      intro q hq
      cases hl : lookN ps i with
      | none =>
        rw [hl] at hq; cases hq
        exact ⟨zeroA_avc hf.1, fun x e => by cases e⟩
      | some x =>
        rw [hl] at hq
        obtain ⟨rfl, cs, hc, hcs, hlen⟩ := fit_val hR hq
        refine ⟨by show AVC w Sh st.roots D _ (a.eval x).cells.toList; rw [hcs]; exact hc, fun y e => ?_⟩
        cases e
        rw [hcs, hlen, Ty.zeroC_len t hf.1]
    cases h1 : (match lookN ps i with
        | some x => fitP t (evalA st.tmps x) (.ret (evalA st.tmps x))
        | none => .ret (zeroA t) : Prog AV).go st.roots with
    | none => 
      have h1' := h1
      cases hl : lookN ps i with
      | none => rw [hl] at h1; cases h1
      | some x =>
        rw [hl] at h h1
        simp only at h h1
        rw [h1] at h; cases h
    | some q =>
      obtain ⟨f1, f2⟩ := first h1
      have h' : (match (buildC (evalA st.tmps) ps (i + 1) r).go st.roots with
        | some y => some (AV.consf q y)
        | none => none) = some av := by
        cases hl : lookN ps i with
        | none =>
          rw [hl] at h h1
          simp only at h h1
          rw [h1] at h
          simp only at h
          rw [← h]
          cases (buildC (evalA st.tmps) ps (i + 1) r).go st.roots <;> rfl
        | some x =>
          rw [hl] at h h1
          simp only at h h1
          rw [h1] at h
          simp only at h
          rw [← h]
          cases (buildC (evalA st.tmps) ps (i + 1) r).go st.roots <;> rfl
      cases h2 : (buildC (evalA st.tmps) ps (i + 1) r).go st.roots with
      | none => rw [h2] at h'; cases h'
      | some y =>
        rw [h2] at h'; cases h'
        obtain ⟨g1, _, g3⟩ := buildC_ok hR hf.2 h2
        refine ⟨⟨_, _, ?_, f1, g1⟩, rfl, fun j c x hj hx => ?_⟩
        · simp only [zeroL, partL, List.flatten_cons]
        · cases j with
          | zero =>
            simp only [zeroL, List.getElem?_cons_zero, Option.some.injEq] at hj
            subst hj
            exact f2 x hx
          | succ j =>
            simp only [zeroL, List.getElem?_cons_succ] at hj
            exact g3 j c x hj (by rw [show i + 1 + j = i + (j + 1) by omega]; exact hx)
  | .int _, i, av, hf, h | .bool, i, av, hf, h | .str, i, av, hf, h | .hole, i, av, hf, h | .sl _ _ _, i, av, hf, h => by cases h
theorem sound_build (hT : TabOK C.P T) {t : TypeId} {ps : Array (Nat × Operand)} (ho : o.op = .build t ps) {row : TRow} (hrow : tget T t = some row) (hd : dstOk C.n o.dst = true) {av : AV}
    (h : (buildP row (evalA st.tmps) ps.toList).go st.roots = some av) : Sound C o st ⟨av, []⟩ := by
  refine sound_quiet hd (fun D Sh a w hR => ?_)
  have hr := hT t row hrow
  unfold buildP at h
  cases hb : (row.ty.agg && ascend 0 ps.toList && ps.toList.all (fun p => Nat.blt p.1 row.fs.length)) with
  | false => rw [hb] at h; cases h
  | true =>
    rw [hb] at h
    simp only [cond_true] at h
    rw [Bool.and_eq_true, Bool.and_eq_true] at hb
    obtain ⟨⟨hag, hasc⟩, hall⟩ := hb
    obtain ⟨fs, hu, hfo⟩ := hr.fields hag
    obtain ⟨i, hi, hi1, hi2, hi3⟩ := hr.info
    obtain ⟨g1, g2, g3⟩ := buildC_ok hR hr.full h
    obtain ⟨pl, p1, p2, p3⟩ := places_ok hT hfo hr.full
    have hzc : (mkw row.ty.agg row.ty.zeroC).cells.toList = (zeroL row.ty).flatten := by rw [hr.zcells, zeroL_flatten (fldOK_ended hfo)]
    obtain ⟨arr, f1, f2⟩ := fill_spec (pl.toArray[·]?) (ps.toList.map fun p => (p.1, a.eval p.2)) (zeroL row.ty) (mkw row.ty.agg row.ty.zeroC).cells hzc (fun j v hj => by
        obtain ⟨⟨j', x⟩, hm, hjx⟩ := List.mem_map.1 hj
        cases hjx
        have hlt := List.all_eq_true.1 hall _ hm
        have hlt : j' < (zeroL row.ty).length := by rw [zeroL_len hfo]; simpa [Nat.blt_eq] using hlt
        have hL : (zeroL row.ty)[j']? = some (zeroL row.ty)[j'] := List.getElem?_eq_getElem hlt
        refine ⟨_, hL, ?_⟩
        rw [← Array.length_toList]
        exact g3 j' _ x hL (by rw [Nat.zero_add]; exact look_mem hasc hm))
      (fun j c hj => by
        have := p3 j c hj
        rw [Nat.zero_add] at this
        simpa using this)
    have hparts : (ps.map fun (i, x) => (i, a.eval x)).toList = ps.toList.map fun p => (p.1, a.eval p.2) := by rw [Array.toList_map]
    have hbuilt : C.P.built t (ps.map fun (i, x) => (i, a.eval x)).toList = some arr := by
      unfold Program.built
      rw [hi, hu]
      simp only [hi3, p1, hparts]
      exact f1
    have hrun := run_build (P := C.P) w t _ _ hbuilt
    refine ⟨.agg arr, ?_, avr_of_avs ⟨_, g1, ?_⟩⟩
    · simp only [execOp, ho, Sem.run_bind, Sem.run_pure, Result.andThen_ok, hrun]
    · rw [g2]
      show Value.agg arr = Value.agg _
      congr 1
      apply Array.ext'
      rw [f2, List.map_map]
      have := putL_part (fun x => (a.eval x).cells.toList) hasc (zeroL row.ty)
      show (putL (ps.toList.map fun p => (p.1, (a.eval p.2).cells.toList)) (zeroL row.ty)).flatten = _
      rw [this]

/-! ### conversions -/
theorem bytes_push : ∀ (ns : List Int) (s : ByteArray), ns.foldl (fun r n => r.push (UInt8.ofNat n.toNat)) s = ⟨s.data ++ (ns.map fun n => UInt8.ofNat n.toNat).toArray⟩
  | [], s => by simp
  | n :: ns, s => by
    rw [List.foldl_cons, bytes_push ns]
    simp [ByteArray.push]
theorem ty_of {P : Program} {t : TypeId} {r : TRow} (h : RowOK P T t r) {ty : Ty} (e : r.ty = ty) : (match ty with
  | .int k => P.underlying t = some (.int k)
  | .str => P.underlying t = some .string
  | _ => True) := by
  have := h.desc
  unfold DescOK at this
  rw [e] at this
  cases ty <;> first | exact this | trivial
end
end Go.Proofs.Ytabjfkongckhaaa.Vm
