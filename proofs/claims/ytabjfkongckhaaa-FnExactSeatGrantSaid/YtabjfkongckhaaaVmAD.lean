/- Operations: append. -/
import Derived.Test.YtabjfkongckhaaaVmAC
namespace Go.Proofs.Ytabjfkongckhaaa.Vm
open Go Go.RowKit
set_option linter.unusedVariables false

def Kind (P : Program) (tx : TypeId) : Prop := (∃ e', P.underlying tx = some (.slice e')) ∨ P.underlying tx = some .string
theorem src_of {P : Program} {tx : TypeId} (hk : Kind P tx) {w : World} {t : Ty} (hz : t.sz ≠ 0) {A : Option Addr} {c : Nat} {es : List t.dec} (hc : ∀ i d, es[i]? = some d → ∃ b o, A = some ⟨b, o, none⟩ ∧ ∀ j v, (t.cs d)[j]? = some v → w.cell? ⟨b, o + i * t.sz + j, none⟩ = some v)
    (h1 : ∀ u ∈ flatC t es, u.oneCell' = true) : Src P t.sz tx (.slice A es.length c) es.length (flatC t es) w := by
  cases A with
  | none =>
    cases es with
    | nil => exact ⟨hk, fun _ => rfl, run_firstCells_none w t.sz 0 0 c, run_firstCells_none w.drew t.sz 0 0 c, by simp [flatC], fun _ h => by cases h⟩
    | cons d es => obtain ⟨b, o, hA, _⟩ := hc 0 d rfl; cases hA
  | some A =>
    have hcell : ∀ (j : Nat) (u : Value), (flatC t es)[j]? = some u → w.cell? (A.add j) = some u := by
      intro k u hu
      obtain ⟨i, d, j, h1, h2, rfl⟩ := flatC_from t hz es k u hu
      obtain ⟨b, o, hA, h3⟩ := hc i d h1
      cases hA
      rw [add_at, ← Nat.add_assoc]
      exact h3 j u h2
    exact ⟨hk, fun _ => rfl, run_firstCells_some w t.sz es.length A es.length c _ (flatC_len t es) hcell, run_firstCells_some w.drew t.sz es.length A es.length c _ (flatC_len t es) (by simpa using hcell), flatC_len t es, h1⟩
theorem src_own {P : Program} {tx : TypeId} (hk : Kind P tx) {w : World} {Sh : Nat → Prop} {e : TypeId} {t : Ty} (hz : t.sz ≠ 0) {A : Option Addr} {c : Nat} {ds : List t.dec} (h : DV.OK w Sh ⟨.sl true e t, ((A, c), ds)⟩) : Src P t.sz tx (.slice A ds.length c) ds.length (flatC t ds) w := by
  refine src_of hk hz (fun i d hi => ?_) (fun u hu => ?_)
  · rcases h with ⟨_, hn⟩ | ⟨b, o, row, hA, hrow, _, _, _, hel⟩
    · have hn : ds = [] := hn
      subst hn; cases hi
    · refine ⟨b, o, hA, fun j v hj => ?_⟩
      rw [hrow.cell]
      exact (hel i d hi).2 j v hj
  · obtain ⟨d, hd, hu⟩ := List.mem_flatMap.1 hu
    rcases h with ⟨_, hn⟩ | ⟨b, o, row, hA, hrow, _, _, _, hel⟩
    · have hn : ds = [] := hn
      subst hn; cases hd
    · obtain ⟨i, hi⟩ := List.mem_iff_getElem?.1 hd
      exact Ty.OK_one (hel i d hi).1 u hu
section
variable {C : Ctx} {st : St} {D : Nat → DRoot} {Sh : Nat → Prop} {F : List DV} {a : Act} {w : World} {T : List (TypeId × TRow)} {o : Oper}
theorem RelF.frees {t : Ty} : ∀ {es : List t.dec}, (∀ d ∈ es, t.OK w Sh d ∧ t.foot d = []) → RelF C st D Sh F a w → RelF C st D Sh (eHand t es ++ F) a w
  | [], _, h => h
  | d :: es, hd, h => RelF.free (v := ⟨t, d⟩) (RelF.frees (fun d hm => hd d (by simp [hm])) h) (hd d (by simp)).1 (hd d (by simp)).2
/-- The machine's append, on values in hand. -/
theorem app_run (hT : TabOK C.P T) {t tx ty e : TypeId} (hu : C.P.underlying t = some (.slice e)) {re : TRow} (hre : tget T e = some re) {tm : Ty} (hsz : tm.sz = re.ty.sz) {A : Option Addr} {c : Nat} {ds es : List tm.dec}
    (hF : RelF C st D Sh (⟨.sl true e tm, ((A, c), ds)⟩ :: (eHand tm es ++ F)) a w) {vy : Value} (hs : Src C.P tm.sz tx vy es.length (flatC tm es) w) (hfit : fits (ds.length + es.length) re.bytes = true) :
    ∃ A' c' w', (Builtin.append_ #[t, tx] ty #[.slice A ds.length c, vy]).run C.P w = .ok (.slice A' (ds.length + es.length) c') w' ∧ Keeps w w' Sh Sh st.roots st.roots D D ∧ RelF C st D Sh (⟨.sl true e tm, ((A', c'), ds ++ es)⟩ :: F) a w' := by
  have hr := hT e re hre
  obtain ⟨i, hi, hi1, hi2, hi3⟩ := hr.info
  have hnz : tm.sz ≠ 0 := by rw [hsz]; exact hr.nz
  have hok : DV.OK w Sh ⟨.sl true e tm, ((A, c), ds)⟩ := hF.fok _ (by simp)
  have hisz : i.size = tm.sz := hi1.trans hsz.symm
  rw [← hisz] at hs
  by_cases hroom : ds.length + es.length ≤ c
  · rcases hok with ⟨h1, h2⟩ | ⟨k, off, row, hA, hrow, _⟩
    · have h1 : (A, c) = (none, 0) := h1
      have h2 : ds = [] := h2
      cases h1
      subst h2
      have hes : es = [] := List.eq_nil_of_length_eq_zero (by simp at hroom; simpa using hroom)
      subst hes
      refine ⟨none, 0, w, ?_, Keeps.grow (fun _ _ => rfl), hF⟩
      have hl : (Builtin.lenOf vy).run C.P w = .ok 0 w := hs.len w
      have hc0 : (Builtin.firstCells i.size 0 vy).run C.P w = .ok #[] w := hs.cells
      rcases hs.kind with ⟨e', hk⟩ | hk <;> simp [Builtin.append_, run_underlying hu, run_underlying hk, sizeOf, typeInfo, hi, hl, hc0]
    · have hA : A = some ⟨k, off, none⟩ := hA
      subst hA
      obtain ⟨g1, g2, g3⟩ := hF.rowRoom hnz hroom
      refine ⟨_, _, _, ?_, g2, g3⟩
      have g1 := g1 C.P
      have hcc := hs.cells
      rw [hisz] at hcc
      rcases hs.kind with ⟨e', hk⟩ | hk <;> simp [Builtin.append_, run_underlying hu, run_underlying hk, sizeOf, typeInfo, hi, hs.len, hroom, hcc, add_at, g1, hisz]
  · have hlt : c < ds.length + es.length := by omega
    have hfit' : (ds.length + es.length) * re.bytes ≤ 140737488355328 := by simpa [fits] using hfit
    have hnb : 0 < re.bytes := Nat.pos_of_ne_zero hr.nb
    have hle : ds.length + es.length ≤ 140737488355328 := Nat.le_trans (Nat.le_mul_of_pos_right _ hnb) hfit'
    have hold := (src_own (tx := tx) hs.kind hnz hok).cellsD
    rw [← hisz] at hold
    have hrun := run_append_grow_src (P := C.P) w t tx ty e i _ hu hi hi3 A ds.length c (flatC tm ds) hold vy es.length (flatC tm es) hs hlt (by omega) (growslice_fits hlt (by rw [hi2]; exact hfit'))
    refine ⟨_, _, _, hrun, ?_⟩
    have hcap := grownCap_ge w (ds.length + es.length) c e
    have hF2 : RelF C st D Sh (eHand tm (ds ++ es) ++ F) a w := by
      have := hF.open
      rw [show eHand tm (ds ++ es) ++ F = eHand tm ds ++ (eHand tm es ++ F) by unfold eHand; rw [List.map_append, List.append_assoc]]
      exact this
    have hzc : (mkw re.ty.agg re.ty.zeroC).cells.size = tm.sz := by
      rw [← Array.length_toList, hr.zcells, Ty.zeroC_len _ hr.full, hsz]
    refine RelF.rowNew (es := ds ++ es) (row := (flatC tm ds ++ flatC tm es).toArray ++ Builtin.zeroCells (mkw re.ty.agg re.ty.zeroC).cells (grownCap w (ds.length + es.length) c e - (ds.length + es.length))) hF2 rfl rfl rfl (by simp) (fun b hb => by
        have := Below.heap_alloc w.drew (.cells ((flatC tm ds ++ flatC tm es).toArray ++ Builtin.zeroCells (mkw re.ty.agg re.ty.zeroC).cells (grownCap w (ds.length + es.length) c e - (ds.length + es.length))) e (0, 0)) b hb
        exact this) (Row.new (heap_new w.drew _)) (fun j v hj => ?_) (by rw [List.length_append]; exact hcap) (grownCap_le_maxLen w _ c e (by simp only [maxLen]; omega)) ?_
    · rw [flatC_append] at hj
      rw [Array.getElem?_append_left (by simpa using (List.getElem?_eq_some_iff.1 hj).1)]
      simpa using hj
    · simp only [Array.size_append, size_zeroCells, hzc, List.size_toArray, List.length_append, flatC_len]
      rw [← Nat.add_mul, ← Nat.add_mul]
      refine Nat.mul_le_mul_right _ ?_
      omega
end
end Go.Proofs.Ytabjfkongckhaaa.Vm
