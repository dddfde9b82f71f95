/- Operations: structs and slices that are built, made. -/
import Derived.Test.YtabjfkongckhaaaVmK
namespace Go.Proofs.Ytabjfkongckhaaa.Vm
open Go Go.RowKit
set_option linter.unusedVariables false

theorem foldl_put : ∀ (l : List Value) (s off : Nat) (arr : Array Value), off + s + l.length ≤ arr.size →
    ((l.zipIdx s).foldl (fun (cs : Array Value) (p : Value × Nat) => cs.setIfInBounds (off + p.2) p.1) arr).toList = arr.toList.take (off + s) ++ l ++ arr.toList.drop (off + s + l.length)
  | [], s, off, arr, _ => by simp
  | v :: l, s, off, arr, h => by
    simp only [List.length_cons] at h
    simp only [List.zipIdx_cons, List.foldl_cons]
    rw [foldl_put l (s + 1) off _ (by simp; omega)]
    have hlt : off + s < arr.toList.length := by rw [Array.length_toList]; omega
    simp only [Array.toList_setIfInBounds, List.length_cons]
    rw [show off + (s + 1) = off + s + 1 by omega, show off + s + 1 + l.length = off + s + (l.length + 1) by omega]
    rw [List.take_set, List.drop_set_of_lt (by omega)]
    have : (arr.toList.take (off + s + 1)).set (off + s) v = arr.toList.take (off + s) ++ [v] := by
      rw [List.take_succ_eq_append_getElem hlt, List.set_append_right _ _ (by simp; omega)]
      simp [Nat.min_eq_left (show off + s ≤ arr.size by omega)]
    rw [this]
    simp

theorem drop_at (a b c : List Value) : (a ++ b ++ c).drop (a.length + b.length) = c := by rw [← List.length_append, List.drop_left]
theorem take_at (a b c : List Value) : (a ++ b ++ c).take a.length = a := by rw [List.append_assoc, List.take_left]
def putL : List (Nat × List Value) → List (List Value) → List (List Value)
  | [], L => L
  | (i, c) :: ps, L => putL ps (L.set i c)
theorem flatten_split {L : List (List Value)} {i : Nat} {c : List Value} (h : L[i]? = some c) : L.flatten = (L.take i).flatten ++ c ++ (L.drop (i + 1)).flatten := by
  have hlt := (List.getElem?_eq_some_iff.1 h).1
  have e := (List.getElem?_eq_some_iff.1 h).2
  conv => lhs; rw [← List.take_append_drop i L, List.drop_eq_getElem_cons hlt, e]
  simp
theorem flatten_set {L : List (List Value)} {i : Nat} {c d : List Value} (h : L[i]? = some c) : (L.set i d).flatten = (L.take i).flatten ++ d ++ (L.drop (i + 1)).flatten := by
  have hlt := (List.getElem?_eq_some_iff.1 h).1
  rw [flatten_split (L := L.set i d) (i := i) (c := d) (by rw [List.getElem?_set_self hlt]), List.take_set_of_le (Nat.le_refl _), List.drop_set_of_lt (by omega)]
/-- Parts are put at their places. -/
theorem fill_spec (place : Nat → Option (Nat × Nat)) : ∀ (ps : List (Nat × Value)) (L : List (List Value)) (arr : Array Value), arr.toList = L.flatten →
    (∀ i v, (i, v) ∈ ps → ∃ c, L[i]? = some c ∧ v.cells.size = c.length) → (∀ i c, L[i]? = some c → place i = some (((L.take i).flatten.length), c.length)) →
    ∃ arr', Instr.fill place arr ps = some arr' ∧ arr'.toList = (putL (ps.map fun p => (p.1, p.2.cells.toList)) L).flatten
  | [], L, arr, ha, _, _ => ⟨arr, rfl, ha⟩
  | (i, v) :: ps, L, arr, ha, hp, hpl => by
    obtain ⟨c, hc, hsz⟩ := hp i v (by simp)
    have hpi := hpl i c hc
    have hvl : v.cells.toList.length = c.length := by rw [Array.length_toList]; exact hsz
    have hfit : (L.take i).flatten.length + v.cells.size ≤ arr.size := by
      have e1 : arr.size = ((L.take i).flatten ++ c ++ (L.drop (i + 1)).flatten).length := by rw [← flatten_split hc, ← ha, Array.length_toList]
      rw [List.length_append, List.length_append] at e1
      omega
    have hlt := (List.getElem?_eq_some_iff.1 hc).1
    let arr1 := v.cells.zipIdx.foldl (fun cs (c, j) => cs.setIfInBounds ((L.take i).flatten.length + j) c) arr
    have harr1 : arr1.toList = (L.set i v.cells.toList).flatten := by
      have h1 := foldl_put v.cells.toList 0 (L.take i).flatten.length arr (by rw [hvl]; omega)
      have h2 : arr1 = (v.cells.toList.zipIdx 0).foldl (fun (cs : Array Value) (p : Value × Nat) => cs.setIfInBounds ((L.take i).flatten.length + p.2) p.1) arr := by
        show v.cells.zipIdx.foldl _ arr = _
        rw [← Array.foldl_toList, Array.toList_zipIdx]
      rw [h2, h1, flatten_set hc, ha, flatten_split hc, hvl]
      simp only [Nat.add_zero]
      rw [take_at, drop_at]
    obtain ⟨arr', e1, e2⟩ := fill_spec place ps (L.set i v.cells.toList) arr1 harr1 (fun j u hj => by
        obtain ⟨d, hd, hz⟩ := hp j u (by simp [hj])
        by_cases e : j = i
        · subst e
          rw [hd] at hc; cases hc
          exact ⟨v.cells.toList, by rw [List.getElem?_set_self hlt], by rw [hvl, hz]⟩
        · exact ⟨d, by rw [List.getElem?_set_ne (Ne.symm e)]; exact hd, hz⟩)
      (fun j d hd => by
        have hlen : ((L.set i v.cells.toList).take j).flatten.length = (L.take j).flatten.length := by
          rw [List.take_set]
          by_cases hji : i < j
          · have hc' : (L.take j)[i]? = some c := by rw [List.getElem?_take, if_pos hji]; exact hc
            rw [flatten_set hc', flatten_split hc']
            rw [List.length_append, List.length_append, List.length_append, List.length_append, hvl]
          · rw [List.set_eq_of_length_le (by simp; omega)]
        by_cases e : j = i
        · subst e
          rw [List.getElem?_set_self hlt] at hd; cases hd
          rw [hlen, hpi, hvl]
        · rw [List.getElem?_set_ne (Ne.symm e)] at hd
          rw [hlen]; exact hpl j d hd)
    refine ⟨arr', ?_, e2⟩
    simp only [Instr.fill, hpi]
    have hcond : (decide (v.cells.size ≠ c.length) || decide ((L.take i).flatten.length + v.cells.size > arr.size)) = false := by
      rw [Bool.or_eq_false_iff]; exact ⟨decide_eq_false (by omega), decide_eq_false (by omega)⟩
    rw [if_neg (by rw [hcond]; exact Bool.false_ne_true)]
    exact e1

/-- Values in hand turn with memory. -/
theorem RelF.turn {C : Ctx} {st : St} {D : Nat → DRoot} {Sh : Nat → Prop} {F F' : List DV} {a : Act} {w w' : World} (h : RelF C st D Sh F a w) (ho : w'.os = w.os) (ht : w'.tape = w.tape) (hp : w'.output = w.output) (hz : w.heap.size ≤ w'.heap.size)
    (hb : ∀ b, b < w.heap.size → b ∉ F.flatMap DV.foot → w'.heap[b]? = w.heap[b]?) (hok : ∀ v ∈ F', v.OK w' Sh) (hnd : (F'.flatMap DV.foot).Nodup)
    (hsub : ∀ b ∈ F'.flatMap DV.foot, b ∈ F.flatMap DV.foot ∨ (w.heap.size ≤ b ∧ b < w'.heap.size)) : Keeps w w' Sh Sh st.roots st.roots D D ∧ RelF C st D Sh F' a w' := by
  have hsh : ∀ b, Sh b → w'.heap[b]? = w.heap[b]? := fun b hs => hb b (h.rel.shn b hs).2 (fun hm => (h.fdis b hm).2.1 hs)
  have hroot : ∀ id r, st.roots id = some r → ∀ b ∈ (D id).foot, w'.heap[b]? = w.heap[b]? := fun id r hr b hm =>
    hb b (h.rel.fresh id r hr b hm).2.1 (fun hm' => (h.fdis b hm').1 id r hr hm)
  have K : Keeps w w' Sh Sh st.roots st.roots D D := Keeps.grow hsh
  refine ⟨K, ⟨⟨ho.trans h.rel.os, ht.trans h.rel.tape, hp.trans h.rel.output, Nat.le_trans h.rel.hsz hz, fun b hlt hm => ?_, h.rel.sh0, fun b hs => ⟨(h.rel.shn b hs).1, Nat.lt_of_lt_of_le (h.rel.shn b hs).2 hz⟩, fun id r hr => ?_, h.rel.dis,
    fun id r hr b hm => let f := h.rel.fresh id r hr b hm; ⟨f.1, Nat.lt_of_lt_of_le f.2.1 hz, f.2.2⟩, fun t => K.avr (h.rel.tmp t), h.rel.size, h.rel.defers⟩, hok, hnd, fun b hm => ?_⟩⟩
  · refine (hb b (Nat.lt_of_lt_of_le hlt h.rel.hsz) (fun hm' => ?_)).trans (h.rel.block b hlt hm)
    rcases (h.fdis b hm').2.2.2 with h1 | h1
    · omega
    · exact hm h1
  · have R := h.rel.root id r hr
    refine ⟨R.er, Ty.OK_frame hsh (fun _ hs => hs) (fun b hm => hroot id r hr b (mem_dv hm)) R.ok, R.blk, fun k hk => ?_, R.nd, R.top, R.org, R.pin⟩
    obtain ⟨row, e, hrow, hc⟩ := R.loc k hk
    exact ⟨row, e, hrow.frame (hroot id r hr k (mem_b hk)), hc⟩
  · rcases hsub b hm with hm | hm
    · obtain ⟨g1, g2, g3, g4⟩ := h.fdis b hm
      exact ⟨g1, g2, by omega, g4⟩
    · refine ⟨fun id r hr hm' => ?_, fun hs => ?_, hm.2, .inl (Nat.le_trans h.rel.hsz hm.1)⟩
      · have := (h.rel.fresh id r hr b hm').2.1; omega
      · have := (h.rel.shn b hs).2; omega

/-! ### make -/
def mk (b : Nat) (n m : Int) : Bool := n == m && decide ((0 : Int) ≤ n) && decide ((b : Int) * n ≤ 140737488355328)
def makeP (row : TRow) (bytes : Nat) (l c : AV) (d : Nat) : Prog Res := match elemSz row, l, c with
  | some (e, te), .sh (.int _) n, .sh (.int _) m => .test (mk bytes n m) (newP d (.ret ⟨.al d [] 0 (.sl true e te.own), [(d, ⟨⟨.sl true e te.own, List.replicate (Int.toNat n) te.own.dft⟩, false, [], none, none⟩)]⟩)) .fail
  | _, _, _ => .fail
theorem map_replicate' {α β : Type} (f : α → β) (n : Nat) (x : α) : (List.replicate n x).map f = List.replicate n (f x) := List.map_replicate ..
theorem flatMap_nil_of {α β : Type} {l : List α} {f : α → List β} (h : ∀ x ∈ l, f x = []) : l.flatMap f = [] := by
  induction l with
  | nil => rfl
  | cons x l ih => rw [List.flatMap_cons, h x (by simp), ih (fun y hy => h y (by simp [hy]))]; rfl
theorem madeCells_at {z : Array Value} {n : Nat} (hz : z.size ≠ 0) {i j : Nat} (hi : i < n) {v : Value} (hj : z[j]? = some v) : (madeCells z (n * z.size))[i * z.size + j]? = some v := by
  have hjl := (Array.getElem?_eq_some_iff.1 hj).1
  have hlt : i * z.size + j < n * z.size := by
    have : (i + 1) * z.size ≤ n * z.size := Nat.mul_le_mul_right _ hi
    rw [Nat.add_mul, Nat.one_mul] at this; omega
  unfold madeCells
  rw [Array.getElem?_map, Array.getElem?_range, if_pos hlt]
  simp only [Option.map_some]
  congr 1
  have hm : (i * z.size + j) % z.size = j := by rw [Nat.mul_comm, Nat.mul_add_mod, Nat.mod_eq_of_lt hjl]
  rw [hm, getElem!_pos z j hjl]
  exact (Array.getElem?_eq_some_iff.1 hj).2
section
variable {C : Ctx} {st : St} {D : Nat → DRoot} {Sh : Nat → Prop} {F : List DV} {a : Act} {w w' : World} {T : List (TypeId × TRow)}
theorem RowOK.zcells {P : Program} {t : TypeId} {r : TRow} (h : RowOK P T t r) : (mkw r.ty.agg r.ty.zeroC).cells.toList = r.ty.zeroC := by
  have hcs : DV.cs ⟨r.ty.own, r.ty.dftD⟩ = r.ty.zeroC := Ty.dftD_cs r.ty h.full
  have hone := one_of (t := r.ty.own) (cs := r.ty.zeroC) (by rw [Ty.zeroC_len r.ty h.full, Ty.own_sz]) (by rw [← hcs]; exact Ty.OK_one (Ty.dftD_ok (default : World) (fun _ => False) r.ty h.full))
  exact cells_mkw (g := r.ty.agg) (cs := r.ty.zeroC) (fun hg => hone (by rw [Ty.own_agg]; exact hg))
/-- A new value is held by the operation's slot. -/
theorem done_hold {o : Oper} {d : Nat} (hd : o.dst = some d) (hdn : dstOk C.n o.dst = true) {dv : DV} {ws : Writes} {D1 : Nat → DRoot} (hn : app ws st.roots d = none) (F1 : RelF C ⟨st.tmps, app ws st.roots⟩ D1 Sh [dv] a w') (hex : (execOp a.eval o).run C.P w = .ok (.value (mkw dv.t.agg dv.cs)) w')
    (hf : dv.t.flat = false) {v : V} (hv : dv.er = v) {K : Act → World → Prop} {Q : Exit → Act → World → Prop} (hK : ∀ D' Sh' a' w', Rel C (st.after o.dst ⟨.al d [] 0 v.t, (d, ⟨v, false, [], none, none⟩) :: ws⟩) D' Sh' a' w' → K a' w') : o.wp C.P a w K Q := by
  subst hv
  obtain ⟨K2, F2⟩ := F1.hold (id := d) hn (org := none) (fun i hi => by cases hi)
  refine wp_value hex (hK (upt D1 d ⟨dv, none, dv.cs⟩) Sh _ _ ?_)
  rw [hd]
  rw [hd] at hdn
  exact F2.rel.put (by simpa [dstOk, Nat.blt_eq] using hdn) ⟨_, al_of_hold hf, rfl⟩
theorem sound_make (hT : TabOK C.P T) {o : Oper} {t : TypeId} {l c : Operand} (ho : o.op = .makeSlice t l c) {row : TRow} (hrow : tget T t = some row) {e : TypeId} {te : Ty} (he : elemSz row = some (e, te)) {re : TRow} (hre : tget T e = some re) {d : Nat} (hd : o.dst = some d) (hdn : dstOk C.n o.dst = true) {res : Res}
    (h : (makeP row re.bytes (evalA st.tmps l) (evalA st.tmps c) d).go st.roots = some res) : Sound C o st res := by
  intro D Sh a w K Q hR hK
  obtain ⟨hu, ⟨re', hre', hte⟩, hnz, hpl⟩ := (hT t row hrow).elem he
  rw [hre] at hre'; cases hre'
  have hr := hT e re hre
  have hl := hR.eval l
  have hc := hR.eval c
  unfold makeP at h
  split at h
  case h_2 => cases h
  rename_i e' te' k1 n k2 m he' hln hcm
  rw [he] at he'; cases he'
  rw [hln] at hl; rw [hcm] at hc
  have e1 := avr_int hl
  have e2 := avr_int hc
  simp only [Prog.go] at h
  cases h1 : mk re.bytes n m with
  | false => rw [h1] at h; cases h
  | true =>
        rw [h1] at h
        simp only [mk, Bool.and_eq_true, decide_eq_true_eq, beq_iff_eq] at h1
        obtain ⟨⟨hnm, h0⟩, hby⟩ := h1
        replace hnm : (n : Int) = m := hnm
        simp only [cond_true, newP, Prog.go] at h
        cases hn : st.roots d with
        | some r => rw [hn] at h; cases h
        | none =>
          rw [hn] at h; cases h
          obtain ⟨i, hi, hsz, hbs, hzr⟩ := hr.info
          have hnm' : (m : Int) = n := hnm.symm
          have hm0 : (0 : Int) ≤ m := by rw [hnm']; exact h0
          have hb1 : (1 : Int) ≤ (re.bytes : Int) := by have := hr.nb; omega
          have hle : (n : Int) ≤ (re.bytes : Int) * n := by
            have := Int.mul_le_mul_of_nonneg_right hb1 h0
            rwa [Int.one_mul] at this
          have hn47 : (n : Int) ≤ 140737488355328 := Int.le_trans hle hby
          have hm47 : (m : Int) ≤ 140737488355328 := by rw [hnm']; exact hn47
          have hrun := run_make (P := C.P) w t e i _ hu hi hzr k1 k2 n m h0 (Int.le_of_eq hnm) (by rw [hbs, hnm']; exact Int.le_trans hby (show (140737488355328 : Int) ≤ 281474976710656 by decide)) (Int.le_trans hm47 (show (140737488355328 : Int) ≤ 9223372036854775807 by decide))
          have hzc : (mkw re.ty.agg re.ty.zeroC).cells.size = te.sz := by
            rw [← Array.length_toList, hr.zcells, Ty.zeroC_len re.ty hr.full, hte]
          have hsz' : i.size = (mkw re.ty.agg re.ty.zeroC).cells.size := by rw [hzc, hsz, hte]
          rw [hsz'] at hrun
          let N := Int.toNat m
          have hN : Int.toNat n = N := congrArg Int.toNat hnm
          let dv : DV := ⟨.sl true e te.own, ((some ⟨w.heap.size, 0, none⟩, N), List.replicate N te.dftD)⟩
          have hfl : te.full = true := by rw [← hte]; exact hr.full
          have hrf : (List.replicate N te.dftD).flatMap te.own.foot = [] := flatMap_nil_of (fun x hx => by rw [List.eq_of_mem_replicate hx]; exact Ty.dftD_foot te)
          have hfoot : dv.foot = [w.heap.size] := by
            show (Option.map (·.block) (some (⟨w.heap.size, 0, none⟩ : Addr))).toList ++ (List.replicate N te.dftD).flatMap te.own.foot = _
            rw [hrf]; rfl
          let w1 := w.alloc (.cells (madeCells (mkw re.ty.agg re.ty.zeroC).cells (N * (mkw re.ty.agg re.ty.zeroC).cells.size)) e)
          have hok : dv.OK w1 Sh := by
            refine .inr ⟨w.heap.size, 0, _, rfl, Row.new (heap_new w _), ?_, ?_, ?_, fun j dj hj => ?_⟩
            · show (List.replicate N te.dftD).length ≤ N
              rw [List.length_replicate]; exact Nat.le_refl _
            · show N ≤ maxLen
              have : N ≤ 140737488355328 := Int.toNat_le.2 hm47
              unfold maxLen; omega
            · show 0 + N * te.own.sz ≤ _
              rw [size_madeCells, hzc, Ty.own_sz]; omega
            · have hj : (List.replicate N te.dftD)[j]? = some dj := hj
              have hjl := (List.getElem?_eq_some_iff.1 hj).1
              have hjd := List.eq_of_mem_replicate (List.mem_of_getElem? hj)
              subst hjd
              refine ⟨Ty.dftD_ok _ _ te hfl, fun q v hq => ?_⟩
              rw [Ty.own_sz, ← hzc, Nat.zero_add]
              refine madeCells_at (by rw [hzc]; exact hnz) (by simpa using hjl) ?_
              rw [Ty.dftD_cs te hfl] at hq
              rw [← Array.getElem?_toList, hr.zcells, hte]; exact hq
          obtain ⟨K1, F1⟩ := hR.F.turn (w' := w1) (F' := [dv]) rfl rfl rfl (by simp [w1]) (fun b hb _ => Below.heap_alloc _ _ _ hb) (fun v hv => by rw [List.mem_singleton.1 hv]; exact hok)
            (by show (dv.foot ++ []).Nodup; rw [hfoot]; simp) (fun b hb => by
              have hb : b ∈ dv.foot ++ [] := hb
              rw [hfoot] at hb
              simp at hb; subst hb; exact .inr ⟨Nat.le_refl _, by simp [w1]⟩)
          have her : dv.er = ⟨.sl true e te.own, List.replicate (Int.toNat n) te.own.dft⟩ := by
            refine congrArg (V.mk _) ?_
            show (List.replicate N te.dftD).map te.own.er = _
            rw [map_replicate', Ty.dftD_er, hN]
          have hlr : (List.replicate N te.dftD).length = N := List.length_replicate
          have hex : (execOp a.eval o).run C.P w = .ok (.value (mkw dv.t.agg dv.cs)) w1 := by
            show _ = Result.ok (Next.value (Value.slice (some ⟨w.heap.size, 0, none⟩) (List.replicate N te.dftD).length N)) w1
            rw [hlr]
            simp only [execOp, ho, e1, e2, Sem.run_bind, hrun, Result.andThen_ok, Sem.run_pure, hN]
            rfl
          exact done_hold (ws := []) hd hdn hn F1 hex rfl her hK
end
end Go.Proofs.Ytabjfkongckhaaa.Vm
