/- Elements in hand: rows are made of them, and read. -/
import Derived.Test.YtabjfkongckhaaaVmAB
import Derived.Deep.AppendSrc
namespace Go.Proofs.Ytabjfkongckhaaa.Vm
open Go Go.RowKit
set_option linter.unusedVariables false

def flatC (t : Ty) (es : List t.dec) : List Value := es.flatMap t.cs
theorem flatC_len (t : Ty) : ∀ es : List t.dec, (flatC t es).length = es.length * t.sz
  | [] => by simp [flatC]
  | e :: es => by
    have : (flatC t (e :: es)) = t.cs e ++ flatC t es := rfl
    rw [this, List.length_append, flatC_len t es, Ty.cs_len, List.length_cons, Nat.add_mul, Nat.one_mul, Nat.add_comm]
theorem flatC_at (t : Ty) : ∀ (es : List t.dec) (i : Nat) (d : t.dec) (j : Nat) (v : Value), es[i]? = some d → (t.cs d)[j]? = some v → (flatC t es)[i * t.sz + j]? = some v
  | [], i, d, j, v, h, _ => by cases h
  | e :: es, 0, d, j, v, h, hj => by
    cases h
    show (t.cs e ++ flatC t es)[0 * t.sz + j]? = some v
    rw [Nat.zero_mul, Nat.zero_add, List.getElem?_append_left (List.getElem?_eq_some_iff.1 hj).1]; exact hj
  | e :: es, i + 1, d, j, v, h, hj => by
    have ih := flatC_at t es i d j v (by simpa using h) hj
    show (t.cs e ++ flatC t es)[(i + 1) * t.sz + j]? = some v
    rw [List.getElem?_append_right (by rw [Ty.cs_len, Nat.add_mul]; omega), Ty.cs_len, Nat.add_mul, Nat.one_mul, show i * t.sz + t.sz + j - t.sz = i * t.sz + j by omega]
    exact ih
/-- Where a cell of the elements comes from. -/
theorem flatC_from (t : Ty) (hz : t.sz ≠ 0) : ∀ (es : List t.dec) (k : Nat) (v : Value), (flatC t es)[k]? = some v → ∃ i d j, es[i]? = some d ∧ (t.cs d)[j]? = some v ∧ k = i * t.sz + j
  | [], k, v, h => by cases h
  | e :: es, k, v, h => by
    have h : (t.cs e ++ flatC t es)[k]? = some v := h
    by_cases hk : k < t.sz
    · rw [List.getElem?_append_left (by rw [Ty.cs_len]; exact hk)] at h
      exact ⟨0, e, k, rfl, h, by omega⟩
    · rw [List.getElem?_append_right (by rw [Ty.cs_len]; omega), Ty.cs_len] at h
      obtain ⟨i, d, j, h1, h2, h3⟩ := flatC_from t hz es _ v h
      exact ⟨i + 1, d, j, by simpa using h1, h2, by rw [Nat.add_mul, Nat.one_mul]; omega⟩
theorem flatC_append (t : Ty) (es fs : List t.dec) : flatC t (es ++ fs) = flatC t es ++ flatC t fs := List.flatMap_append
def eHand (t : Ty) (es : List t.dec) : List DV := es.map (DV.mk t)
theorem eHand_foot (t : Ty) (es : List t.dec) : (eHand t es).flatMap DV.foot = es.flatMap t.foot := by
  unfold eHand
  rw [List.flatMap_map]
  rfl

section
variable {C : Ctx} {st : St} {D : Nat → DRoot} {Sh Sh' : Nat → Prop} {F : List DV} {a : Act} {w w' : World}
theorem el_one {t : Ty} {es : List t.dec} (h : ∀ v ∈ eHand t es, v.OK w Sh) : ∀ u ∈ flatC t es, u.oneCell' = true := by
  intro u hu
  obtain ⟨d, hd, hu⟩ := List.mem_flatMap.1 hu
  exact Ty.OK_one (h ⟨t, d⟩ (List.mem_map.2 ⟨d, hd, rfl⟩)) u hu
/-- An own slice in hand: its elements. -/
theorem RelF.open {e : TypeId} {t : Ty} {x : (Option Addr × Nat) × List t.dec} (h : RelF C st D Sh (⟨.sl true e t, x⟩ :: F) a w) : RelF C st D Sh (eHand t x.2 ++ F) a w := by
  have hsub : ∀ b ∈ (eHand t x.2 ++ F).flatMap DV.foot, b ∈ ((⟨.sl true e t, x⟩ : DV) :: F).flatMap DV.foot := by
    intro b hb
    rw [List.flatMap_append, eHand_foot] at hb
    rcases List.mem_append.1 hb with hb | hb
    · exact List.mem_append_left _ (List.mem_append_right _ hb)
    · exact List.mem_append_right _ hb
  refine ⟨h.rel, fun v hv => ?_, ?_, fun b hb => h.fdis b (hsub b hb)⟩
  · rcases List.mem_append.1 hv with hv | hv
    · obtain ⟨d, hd, rfl⟩ := List.mem_map.1 hv
      have hok : DV.OK w Sh ⟨.sl true e t, x⟩ := h.fok _ (by simp)
      rcases hok with ⟨_, hn⟩ | ⟨b, o, row, _, _, _, _, _, hel⟩
      · rw [hn] at hd; cases hd
      · obtain ⟨i, hi⟩ := List.mem_iff_getElem?.1 hd
        exact (hel i d hi).1
    · exact h.fok v (List.mem_cons_of_mem _ hv)
  · have hn : (((x.1.1.map (·.block)).toList ++ x.2.flatMap t.foot) ++ F.flatMap DV.foot).Nodup := h.fnd
    rw [List.flatMap_append, eHand_foot]
    rw [List.append_assoc] at hn
    exact (List.nodup_append.1 hn).2.1
theorem RelF.lowEs {t t' : Ty} (hl : lowB t t' = true) : ∀ {es : List t.dec} {Sh : Nat → Prop} {F : List DV}, RelF C st D Sh (eHand t es ++ F) a w → ∃ (Sh' : Nat → Prop) (es' : List t'.dec), es'.map t'.er = (es.map t.er).map (cast (Ty.den_same (lowB_shr hl))) ∧ flatC t' es' = flatC t es ∧ es'.length = es.length ∧
    (∀ b, Sh b → Sh' b) ∧ Keeps w w Sh Sh' st.roots st.roots D D ∧ RelF C st D Sh' (eHand t' es' ++ F) a w
  | [], Sh, F, h => ⟨Sh, [], rfl, rfl, rfl, fun _ h => h, Keeps.grow (fun _ _ => rfl), h⟩
  | e :: es, Sh, F, h => by
    obtain ⟨Sh1, d', e1, e2, s1, K1, F1⟩ := RelF.low (u := ⟨t, e⟩) (F := eHand t es ++ F) h (t' := t') hl
    obtain ⟨Sh2, es', g1, g2, g3, s2, K2, F2⟩ := RelF.lowEs hl (es := es) (F := ⟨t', d'⟩ :: F) (F1.perm (List.perm_middle.symm))
    refine ⟨Sh2, d' :: es', ?_, ?_, by simp [g3], fun b hb => s2 b (s1 b hb), K1.trans K2, F2.perm List.perm_middle⟩
    · simp only [List.map_cons, g1, e1]; rfl
    · show t'.cs d' ++ flatC t' es' = t.cs e ++ flatC t es
      rw [g2]; congr 1
/-- A new row of them. -/
theorem RelF.rowNew {e : TypeId} {t : Ty} {es : List t.dec} {cap : Nat} {row : Array Value} (h : RelF C st D Sh (eHand t es ++ F) a w) (ho : w'.os = w.os) (ht : w'.tape = w.tape) (hp : w'.output = w.output) (hz : w'.heap.size = w.heap.size + 1) (hb : ∀ b, b < w.heap.size → w'.heap[b]? = w.heap[b]?)
    (hrow : Row w' w.heap.size row e) (hc : ∀ (j : Nat) (v : Value), (flatC t es)[j]? = some v → row[j]? = some v) (hl : es.length ≤ cap) (hm : cap ≤ maxLen) (hsz : cap * t.sz ≤ row.size) :
    Keeps w w' Sh Sh st.roots st.roots D D ∧ RelF C st D Sh (⟨.sl true e t, ((some ⟨w.heap.size, 0, none⟩, cap), es)⟩ :: F) a w' := by
  have hlt : ∀ b ∈ (eHand t es ++ F).flatMap DV.foot, b < w.heap.size := fun b hb => (h.fdis b hb).2.2.1
  have hfe : (eHand t es ++ F).flatMap DV.foot = es.flatMap t.foot ++ F.flatMap DV.foot := by rw [List.flatMap_append, eHand_foot]
  have hnew : ((⟨.sl true e t, ((some ⟨w.heap.size, 0, none⟩, cap), es)⟩ : DV) :: F).flatMap DV.foot = w.heap.size :: (es.flatMap t.foot ++ F.flatMap DV.foot) := rfl
  refine h.turn ho ht hp (by omega) (fun b hb' _ => hb b hb') (fun v hv => ?_) ?_ (fun b hm' => ?_)
  · rcases List.mem_cons.1 hv with rfl | hv
    · refine .inr ⟨w.heap.size, 0, row, rfl, hrow, hl, hm, by rw [Nat.zero_add]; exact hsz, fun i d hi => ⟨?_, fun j v hj => ?_⟩⟩
      · have hmem : (⟨t, d⟩ : DV) ∈ eHand t es := List.mem_map.2 ⟨d, List.mem_of_getElem? hi, rfl⟩
        exact Ty.OK_frame (fun b hs => hb b (h.rel.shn b hs).2) (fun _ h => h) (fun b hb' => hb b (hlt b (List.mem_flatMap.2 ⟨_, List.mem_append_left _ hmem, hb'⟩))) (h.fok _ (List.mem_append_left _ hmem))
      · rw [Nat.zero_add]; exact hc _ v (flatC_at t es i d j v hi hj)
    · exact Ty.OK_frame (fun b hs => hb b (h.rel.shn b hs).2) (fun _ h => h) (fun b hb' => hb b (hlt b (List.mem_flatMap.2 ⟨v, List.mem_append_right _ hv, hb'⟩))) (h.fok v (List.mem_append_right _ hv))
  · rw [hnew, ← hfe]
    exact List.nodup_cons.2 ⟨fun hm' => Nat.lt_irrefl _ (hlt _ hm'), h.fnd⟩
  · rw [hnew, ← hfe] at hm'
    rcases List.mem_cons.1 hm' with rfl | hm'
    · exact .inr ⟨Nat.le_refl _, by omega⟩
    · exact .inl hm'
/-- There is room: they go behind the others. -/
theorem RelF.rowRoom {e : TypeId} {t : Ty} {es ds : List t.dec} {k o c : Nat} (hzt : t.sz ≠ 0) (h : RelF C st D Sh (⟨.sl true e t, ((some ⟨k, o, none⟩, c), ds)⟩ :: (eHand t es ++ F)) a w) (hroom : ds.length + es.length ≤ c) :
    (∀ (P : Program), (storeCells ⟨k, o + ds.length * t.sz, none⟩ (flatC t es)).run P w = .ok () (setR w k (o + ds.length * t.sz) (flatC t es))) ∧
    Keeps w (setR w k (o + ds.length * t.sz) (flatC t es)) Sh Sh st.roots st.roots D D ∧ RelF C st D Sh (⟨.sl true e t, ((some ⟨k, o, none⟩, c), ds ++ es)⟩ :: F) a (setR w k (o + ds.length * t.sz) (flatC t es)) := by
  have hok : DV.OK w Sh ⟨.sl true e t, ((some ⟨k, o, none⟩, c), ds)⟩ := h.fok _ (by simp)
  have hone := el_one (t := t) (es := es) (fun v hv => h.fok v (by simp [hv]))
  rcases hok with ⟨hn, _⟩ | ⟨k', o', row, hA, hrow, hl, hm, hfit, hel⟩
  · cases hn
  have hA : some (⟨k, o, none⟩ : Addr) = some ⟨k', o', none⟩ := hA
  simp only [Option.some.injEq, Addr.mk.injEq, and_true] at hA
  obtain ⟨rfl, rfl⟩ := hA
  have hmul : ds.length * t.sz + es.length * t.sz ≤ c * t.sz := by rw [← Nat.add_mul]; exact Nat.mul_le_mul_right _ hroom
  obtain ⟨r0, s1, s2, s3, s4, s5, row', r1, r2, r3, r4⟩ := setR_spec k e (flatC t es) w (o + ds.length * t.sz) row hrow (by rw [flatC_len]; have hfit : o + c * t.sz ≤ row.size := hfit; omega) hone
  have hnd : ((k :: ds.flatMap t.foot) ++ (es.flatMap t.foot ++ F.flatMap DV.foot)).Nodup := by
    have := h.fnd
    have e1 : ((⟨.sl true e t, ((some ⟨k, o, none⟩, c), ds)⟩ : DV) :: (eHand t es ++ F)).flatMap DV.foot = (k :: ds.flatMap t.foot) ++ (es.flatMap t.foot ++ F.flatMap DV.foot) := by
      rw [List.flatMap_cons, List.flatMap_append, eHand_foot]; rfl
    rw [e1] at this; exact this
  have hkn : k ∉ ds.flatMap t.foot ++ (es.flatMap t.foot ++ F.flatMap DV.foot) := (List.nodup_cons.1 (by simpa using hnd)).1
  have e1 : ((⟨.sl true e t, ((some ⟨k, o, none⟩, c), ds)⟩ : DV) :: (eHand t es ++ F)).flatMap DV.foot = (k :: ds.flatMap t.foot) ++ (es.flatMap t.foot ++ F.flatMap DV.foot) := by
    rw [List.flatMap_cons, List.flatMap_append, eHand_foot]; rfl
  have e2 : ((⟨.sl true e t, ((some ⟨k, o, none⟩, c), ds ++ es)⟩ : DV) :: F).flatMap DV.foot = (k :: ds.flatMap t.foot) ++ (es.flatMap t.foot ++ F.flatMap DV.foot) := by
    show (k :: (ds ++ es).flatMap t.foot) ++ F.flatMap DV.foot = _
    rw [List.flatMap_append]; simp
  have hsame : ∀ b, Sh b → (setR w k (o + ds.length * t.sz) (flatC t es)).heap[b]? = w.heap[b]? := fun b hs => s5 b (fun eq => (h.fdis k (by rw [e1]; simp)).2.1 (eq ▸ hs))
  refine ⟨fun P => ?_, ?_⟩
  · have := r0 P 0
    rw [if_pos (Nat.zero_le _)] at this
    exact this
  · refine h.turn s1 s2 s3 (by omega) (fun b _ hb => s5 b (fun eq => hb (by subst eq; rw [e1]; simp))) (fun v hv => ?_) (by rw [e2, ← e1]; exact h.fnd) (fun b hb => .inl (by rw [e2] at hb; rw [e1]; exact hb))
    rcases List.mem_cons.1 hv with rfl | hv
    · refine .inr ⟨k, o, row', rfl, r1, by show (ds ++ es).length ≤ c; rw [List.length_append]; exact hroom, hm, by rw [r2]; exact hfit, fun i d hi => ?_⟩
      replace hi : (ds ++ es)[i]? = some d := hi
      by_cases hlt : i < ds.length
      · rw [List.getElem?_append_left hlt] at hi
        obtain ⟨g1, g2⟩ := hel i d hi
        refine ⟨Ty.OK_frame hsame (fun _ h => h) (fun b hb => s5 b (fun eq => hkn (List.mem_append_left _ (List.mem_flatMap.2 ⟨d, List.mem_of_getElem? hi, eq ▸ hb⟩)))) g1, fun j v hj => ?_⟩
        rw [r3]
        · exact g2 j v hj
        · left
          have hj' : j < t.sz := by rw [← Ty.cs_len t d]; exact (List.getElem?_eq_some_iff.1 hj).1
          have : (i + 1) * t.sz ≤ ds.length * t.sz := Nat.mul_le_mul_right _ hlt
          rw [Nat.add_mul, Nat.one_mul] at this
          show o + i * t.sz + j < _
          omega
      · rw [List.getElem?_append_right (by omega)] at hi
        have hmem : (⟨t, d⟩ : DV) ∈ eHand t es := List.mem_map.2 ⟨d, List.mem_of_getElem? hi, rfl⟩
        refine ⟨Ty.OK_frame hsame (fun _ h => h) (fun b hb => s5 b (fun eq => hkn (List.mem_append_right _ (List.mem_append_left _ (List.mem_flatMap.2 ⟨d, List.mem_of_getElem? hi, eq ▸ hb⟩))))) (h.fok ⟨t, d⟩ (by simp [hmem])), fun j v hj => ?_⟩
        have := r4 _ v (flatC_at t es _ d j v hi hj)
        rw [← this]
        congr 1
        have : i * t.sz = ds.length * t.sz + (i - ds.length) * t.sz := by rw [← Nat.add_mul]; congr 1; omega
        show o + i * t.sz + j = _
        omega
    · exact Ty.OK_frame hsame (fun _ h => h) (fun b hb => s5 b (fun eq => hkn (List.mem_append_right _ (List.mem_append_right _ (List.mem_flatMap.2 ⟨v, hv, eq ▸ hb⟩))))) (h.fok v (by simp [hv]))
end
end Go.Proofs.Ytabjfkongckhaaa.Vm
