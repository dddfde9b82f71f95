/- Operations: slices written out. -/
import Derived.Test.YtabjfkongckhaaaVmAF
namespace Go.Proofs.Ytabjfkongckhaaa.Vm
open Go Go.RowKit
set_option linter.unusedVariables false

theorem chunks {sz : Nat} : ∀ (n : Nat) (l : List Value), l.length = n * sz → ∃ L : List (List Value), L.length = n ∧ L.flatten = l ∧ ∀ c ∈ L, c.length = sz
  | 0, l, h => ⟨[], rfl, (List.eq_nil_of_length_eq_zero (by simpa using h)).symm, fun c hc => by cases hc⟩
  | n + 1, l, h => by
    obtain ⟨L, h1, h2, h3⟩ := chunks (sz := sz) n (l.drop sz) (by rw [List.length_drop, h, Nat.add_mul, Nat.one_mul]; omega)
    refine ⟨l.take sz :: L, by simp [h1], by rw [List.flatten_cons, h2, List.take_append_drop], fun c hc => ?_⟩
    rcases List.mem_cons.1 hc with rfl | hc
    · rw [List.length_take, h, Nat.add_mul, Nat.one_mul]; exact Nat.min_eq_left (by omega)
    · exact h3 c hc
theorem flatten_uniform {sz : Nat} : ∀ (L : List (List Value)), (∀ c ∈ L, c.length = sz) → L.flatten.length = L.length * sz
  | [], _ => by simp
  | c :: L, h => by rw [List.flatten_cons, List.length_append, flatten_uniform L (fun d hd => h d (by simp [hd])), h c (by simp), List.length_cons, Nat.add_mul, Nat.one_mul]; omega
theorem putL_seq (f : Operand → List Value) : ∀ (ps : List (Nat × Operand)) (n : Nat) (pre suf : List (List Value)), seqParts n ps = true → pre.length = n → suf.length = ps.length → putL (ps.map fun p => (p.1, f p.2)) (pre ++ suf) = pre ++ ps.map fun p => f p.2
  | [], n, pre, suf, _, _, hs => by
    have : suf = [] := List.eq_nil_of_length_eq_zero (by simpa using hs)
    subst this; rfl
  | (i, x) :: ps, n, pre, [], h, hp, hs => by cases hs
  | (i, x) :: ps, n, pre, s :: suf, h, hp, hs => by
    simp only [seqParts, Bool.and_eq_true] at h
    have e := Nat.eq_of_beq_eq_true h.1
    subst e
    simp only [List.map_cons, putL]
    have hset : (pre ++ s :: suf).set i (f x) = (pre ++ [f x]) ++ suf := by
      rw [List.set_append_right _ _ (by omega), hp, Nat.sub_self]; simp
    rw [hset, putL_seq f ps (i + 1) (pre ++ [f x]) suf h.2 (by simp [hp]) (by simpa using hs)]
    simp
theorem seq_mem : ∀ (ps : List (Nat × Operand)) (n i : Nat) (x : Operand), seqParts n ps = true → (i, x) ∈ ps → n ≤ i ∧ i < n + ps.length
  | [], n, i, x, _, h => by cases h
  | (j, y) :: ps, n, i, x, h, hm => by
    simp only [seqParts, Bool.and_eq_true] at h
    have e := Nat.eq_of_beq_eq_true h.1
    subst e
    rcases List.mem_cons.1 hm with hm | hm
    · cases hm; simp
    · have := seq_mem ps (j + 1) i x h.2 hm
      simp only [List.length_cons]; omega
section
variable {C : Ctx} {st : St} {D : Nat → DRoot} {Sh : Nat → Prop} {F : List DV} {a : Act} {w : World} {T : Nat → AV} {R : Nat → Option Root} {o : Oper}
theorem takeAll_ok {te : Ty} : ∀ {xs : List AV} {ws ws' : Writes} {us : List V} {D : Nat → DRoot} {F : List DV} {vs : List Value}, (takeAll te xs ws).go R = some (us, ws') → RelF C ⟨T, app ws R⟩ D Sh F a w → AVRs w Sh (app ws R) D xs vs →
    ∃ (D' : Nat → DRoot) (zs : List DV), zs.map DV.er = us ∧ vs = zs.map valV ∧ (∀ z ∈ zs, like z.t te = true) ∧ Keeps w w Sh Sh (app ws R) (app ws' R) D D' ∧ RelF C ⟨T, app ws' R⟩ D' Sh (zs ++ F) a w
  | [], ws, ws', us, D, F, vs, h, hF, hv => by
    cases h
    have hv : vs = [] := hv
    subst hv
    exact ⟨D, [], rfl, rfl, (fun z hz => by cases hz), Keeps.grow (fun _ _ => rfl), hF⟩
  | x :: xs, ws, ws', us, D, F, vs, h, hF, hv => by
    simp only [takeAll, Prog.go_bind] at h
    cases h1 : (takeP te x ws).go R with
    | none => rw [h1] at h; cases h
    | some q =>
      obtain ⟨u, ws1⟩ := q
      rw [h1] at h
      simp only at h
      cases h2 : (takeAll te xs ws1).go R with
      | none => rw [h2] at h; cases h
      | some q2 =>
        obtain ⟨us2, ws2⟩ := q2
        rw [h2] at h; cases h
        obtain ⟨v, vs', rfl, hv1, hv2⟩ := hv
        have hk := takeP_take h1
        have hs : AVS w Sh (app ws R) D x v := avs_of_avr hv1 (fun e => by subst e; simp only [takeP] at h1; cases h1) (fun c e => by subst e; simp only [takeP] at h1; cases h1)
        obtain ⟨cs, hc, rfl⟩ := hs
        obtain ⟨D1, z, hz, hcs, hl, hg, K1, F1⟩ := take_ok hk hF hc
        obtain ⟨D2, zs, g1, g2, g3, K2, F2⟩ := takeAll_ok h2 F1 (hv2.mono K1)
        refine ⟨D2, z :: zs, by rw [List.map_cons, hz, g1], ?_, fun y hy => ?_, K1.trans K2, F2.perm List.perm_middle⟩
        · rw [List.map_cons, g2]
          congr 1
          show mkw x.agg cs = mkw z.t.agg z.cs
          rw [hcs, hg, ← hz]; rfl
        · rcases List.mem_cons.1 hy with rfl | hy
          · rw [← hz] at hl; exact hl
          · exact g3 y hy
theorem uni_ok {t : Ty} : ∀ {zs : List DV} {xs : List t.den} {Sh : Nat → Prop} {F : List DV}, uni t (zs.map DV.er) = some xs → RelF C st D Sh (zs ++ F) a w → ∃ (Sh' : Nat → Prop) (es : List t.dec), es.map t.er = xs ∧ es.map t.cs = zs.map DV.cs ∧ (∀ b, Sh b → Sh' b) ∧
    Keeps w w Sh Sh' st.roots st.roots D D ∧ RelF C st D Sh' (eHand t es ++ F) a w
  | [], xs, Sh, F, h, hF => by cases h; exact ⟨Sh, [], rfl, rfl, fun _ h => h, Keeps.grow (fun _ _ => rfl), hF⟩
  | z :: zs, xs, Sh, F, h, hF => by
    simp only [List.map_cons, uni] at h
    cases h1 : toT z.er t with
    | none => rw [h1] at h; cases h
    | some x =>
      cases h2 : uni t (zs.map DV.er) with
      | none => rw [h1, h2] at h; cases h
      | some xs2 =>
        rw [h1, h2] at h; cases h
        obtain ⟨hl, hx⟩ := toT_some h1
        obtain ⟨Sh1, d', e1, e2, s1, K1, F1⟩ := RelF.low (F := zs ++ F) hF (t' := t) hl
        obtain ⟨Sh2, es, g1, g2, s2, K2, F2⟩ := uni_ok (F := ⟨t, d'⟩ :: F) h2 (F1.perm List.perm_middle.symm)
        refine ⟨Sh2, d' :: es, ?_, ?_, fun b hb => s2 b (s1 b hb), K1.trans K2, F2.perm List.perm_middle⟩
        · rw [List.map_cons, g1, hx, e1]; rfl
        · rw [List.map_cons, List.map_cons, g2, e2]
theorem sound_buildSlice {TT : List (TypeId × TRow)} (hT : TabOK C.P TT) {t : TypeId} {len : Nat} {ps : Array (Nat × Operand)} (ho : o.op = .buildSlice t len ps) {row : TRow} (hrow : tget TT t = some row) {d : Nat} (hd : o.dst = some d) (hdn : dstOk C.n o.dst = true) {res : Res}
    (h : (buildSliceP row len ps.toList (evalA st.tmps) d).go st.roots = some res) : Sound C o st res := by
  intro D Sh a w K Q hR hK
  unfold buildSliceP at h
  split at h
  case h_2 => cases h
  rename_i e te he
  obtain ⟨hu, ⟨re, hre, hte⟩, hnz, hpl⟩ := (hT t row hrow).elem he
  have hr := hT e re hre
  obtain ⟨i, hi, hi1, hi2, hi3⟩ := hr.info
  have hisz : i.size = te.sz := by rw [hi1, hte]
  cases hb : (seqParts 0 ps.toList && Nat.beq ps.toList.length len && Nat.ble (len * te.sz) 16777216) with
  | false => rw [hb] at h; cases h
  | true =>
    rw [hb] at h
    simp only [cond_true, Prog.go_bind] at h
    rw [Bool.and_eq_true, Bool.and_eq_true] at hb
    obtain ⟨⟨hseq, hlen⟩, hbig⟩ := hb
    have hlen := Nat.eq_of_beq_eq_true hlen
    have hbig : len * te.sz ≤ 16777216 := by simpa [Nat.ble_eq] using hbig
    cases h1 : (takeAll te (ps.toList.map fun p => evalA st.tmps p.2) []).go st.roots with
    | none => rw [h1] at h; cases h
    | some q =>
      obtain ⟨us, ws⟩ := q
      rw [h1] at h
      simp only at h
      have hav := avrs_map (T := st.tmps) hR (ps.toList.map (·.2))
      rw [List.map_map, List.map_map] at hav
      obtain ⟨D1, zs, g1, g2, g3, K1, F1⟩ := takeAll_ok (T := st.tmps) (ws := []) h1 hR.F hav
      have hzl : zs.length = len := by
        have := congrArg List.length g2
        simp only [List.length_map] at this
        rw [← this, ← hlen]
      have hlenm : len ≤ maxLen := by
        have : len ≤ len * te.sz := Nat.le_mul_of_pos_right _ (Nat.pos_of_ne_zero hnz)
        simp only [maxLen]; omega
      have hparts : (ps.map fun (i, x) => (i, a.eval x)).toList = ps.toList.map fun p => (p.1, a.eval p.2) := by rw [Array.toList_map]
      -- what the machine does
      have run : ∀ (t2 : Ty) (es : List t2.dec), t2.sz = te.sz → es.map t2.cs = zs.map DV.cs → ∃ row : Array Value, row.toList = flatC t2 es ∧ (execOp a.eval o).run C.P w = .ok (.value (.slice (some ⟨w.heap.size, 0, none⟩) len len)) (w.alloc (.cells row e)) := by
        intro t2 es hsz hcs
        have hvals : ps.toList.map (fun p => (a.eval p.2).cells.toList) = zs.map DV.cs := by
          have e1 : ps.toList.map (fun p => (a.eval p.2).cells.toList) = (ps.toList.map (a.eval ∘ fun p => p.2)).map fun v => v.cells.toList := by rw [List.map_map]; rfl
          rw [e1, g2, List.map_map]
          refine List.map_congr_left fun z hz => ?_
          exact mkw_cells (u := z.er) rfl (F1.fok z (List.mem_append_left _ hz))
        have hflat : (zs.map DV.cs).flatten = flatC t2 es := by
          rw [← hcs]
          exact List.flatMap_def.symm
        by_cases h0 : len = 0
        · have hps : ps = #[] := by
            apply Array.eq_empty_of_size_eq_zero
            rw [← Array.length_toList, hlen, h0]
          have hzs : zs = [] := List.eq_nil_of_length_eq_zero (by rw [hzl, h0])
          refine ⟨#[], ?_, ?_⟩
          · rw [← hflat, hzs]; rfl
          · subst hps; subst h0
            simp [execOp, ho, Instr.buildSlice, run_underlying hu, sizeOf, typeInfo, hi, Instr.fill, newRow]
            congr 2
            apply Array.ext'
            simp [Array.range]
        · let zc := (mkw re.ty.agg re.ty.zeroC).cells
          let arr : Array Value := (Array.range (len * i.size)).map (zc[· % zc.size]!)
          obtain ⟨L, l1, l2, l3⟩ := chunks (sz := te.sz) len arr.toList (by simp [arr, hisz])
          have htk : ∀ i, i ≤ len → (L.take i).flatten.length = i * te.sz := fun i hi' => by
            rw [flatten_uniform (sz := te.sz) _ (fun c hc => l3 c (List.mem_of_mem_take hc)), List.length_take, l1, Nat.min_eq_left hi']
          obtain ⟨row, f1, f2⟩ := fill_spec (fun j => some (j * i.size, i.size)) (ps.toList.map fun p => (p.1, a.eval p.2)) L arr l2.symm (fun j v hj => by
              obtain ⟨⟨j', x⟩, hm, hjx⟩ := List.mem_map.1 hj
              cases hjx
              have hlt := (seq_mem _ 0 _ _ hseq hm).2
              rw [Nat.zero_add, hlen] at hlt
              have hL : L[j']? = some L[j'] := List.getElem?_eq_getElem (by rw [l1]; exact hlt)
              refine ⟨_, hL, ?_⟩
              rw [l3 _ (List.mem_of_getElem? hL)]
              have hmv : (a.eval x).cells.toList ∈ ps.toList.map (fun p => (a.eval p.2).cells.toList) := List.mem_map.2 ⟨(j', x), hm, rfl⟩
              rw [hvals] at hmv
              obtain ⟨z, hz, hzc⟩ := List.mem_map.1 hmv
              rw [← Array.length_toList, ← hzc]
              exact (Ty.cs_len z.t z.d).trans (like_sz (g3 z hz)))
            (fun j c hj => by
              have hlt := (List.getElem?_eq_some_iff.1 hj).1
              rw [htk j (by omega), l3 c (List.mem_of_getElem? hj), hisz])
          have hput := putL_seq (fun x => (a.eval x).cells.toList) ps.toList 0 [] L hseq rfl (by rw [l1, hlen])
          have f2' : row.toList = flatC t2 es := by
            rw [f2, List.map_map]
            show (putL (ps.toList.map fun p => (p.1, (a.eval p.2).cells.toList)) L).flatten = _
            rw [List.nil_append] at hput
            rw [hput, List.nil_append, hvals, hflat]
          refine ⟨row, f2', ?_⟩
          have hrb := run_buildSlice (P := C.P) w t e len (ps.map fun (i, x) => (i, a.eval x)) row i _ hu hi hi3 (by rw [hisz]; omega) (by rw [hisz]; exact Nat.mul_ne_zero h0 hnz) (by rw [hparts]; exact f1)
          simp only [execOp, ho, Sem.run_bind, Sem.run_pure, Result.andThen_ok, hrb]
      -- a new row of them
      have fin : ∀ (t2 : Ty) (es : List t2.dec) (xs : List t2.den) (D2 : Nat → DRoot) (Sh2 : Nat → Prop), t2.sz = te.sz → es.map t2.cs = zs.map DV.cs → es.map t2.er = xs → RelF C ⟨st.tmps, app ws st.roots⟩ D2 Sh2 (eHand t2 es ++ []) a w →
          (newRoot d ⟨.sl true e t2, xs⟩ ws).go st.roots = some res → o.wp C.P a w K Q := by
        intro t2 es xs D2 Sh2 hsz hcs her hF h
        simp only [newRoot, getR_go] at h
        cases hn : app ws st.roots d with
        | some r => rw [hn] at h; cases h
        | none =>
          rw [hn] at h; cases h
          obtain ⟨row, hrow', hrun⟩ := run t2 es hsz hcs
          have hel : es.length = len := by
            have := congrArg List.length hcs
            simp only [List.length_map] at this
            rw [this, hzl]
          have hrs : row.size = len * te.sz := by rw [← Array.length_toList, hrow', flatC_len, hel, hsz]
          obtain ⟨_, F3⟩ := RelF.rowNew (e := e) (cap := len) (row := row) (w' := w.alloc (.cells row e)) hF rfl rfl rfl (by simp) (fun b hb => Below.heap_alloc _ _ _ hb) (Row.new (heap_new w _)) (fun j v hj => by rw [← hrow'] at hj; simpa using hj) (by omega) hlenm (by rw [hrs, hsz]; exact Nat.le_refl _)
          refine done_hold (C := C) (st := st) hd hdn hn F3 ?_ rfl (congrArg (V.mk (.sl true e t2)) her) hK
          rw [hrun]
          show _ = Result.ok (Next.value (.slice (some ⟨w.heap.size, 0, none⟩) es.length len)) _
          rw [hel]
      cases us with
      | nil =>
        have hzs : zs = [] := List.map_eq_nil_iff.1 g1
        subst hzs
        exact fin te.own [] [] D1 Sh (Ty.own_sz te) rfl rfl F1 h
      | cons v vs =>
        simp only at h
        cases hun : uni (meetL v.t vs) (v :: vs) with
        | none => rw [hun] at h; cases h
        | some xs =>
          rw [hun] at h
          simp only at h
          rw [← g1] at hun
          obtain ⟨Sh2, es, q1, q2, s2, K2, F2⟩ := uni_ok hun F1
          refine fin _ es xs D1 Sh2 ?_ q2 q1 F2 h
          -- its size
          cases zs with
          | nil => cases g1
          | cons z zs =>
            cases es with
            | nil => cases q2
            | cons d' es =>
              simp only [List.map_cons, List.cons.injEq] at q2
              have e1 := congrArg List.length q2.1
              rw [Ty.cs_len] at e1
              rw [e1]
              exact (Ty.cs_len z.t z.d).trans (like_sz (g3 z (by simp)))
end
end Go.Proofs.Ytabjfkongckhaaa.Vm
