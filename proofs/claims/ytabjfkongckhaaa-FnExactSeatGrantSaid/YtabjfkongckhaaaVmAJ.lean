/- Laws: arguments are read; a law's function, called. -/
import Derived.Test.YtabjfkongckhaaaVmAI
import Derived.ChangeOld
import Derived.ChangeReads
import Derived.ChangeStays
import Derived.OpenShut
import Derived.SizedLaws
namespace Go.Proofs.Ytabjfkongckhaaa.Vm
open Go Go.RowKit Go.ChangeShapes Go.WideShapes
set_option linter.unusedVariables false

/-- Numbers fit; rows are no longer than they may be. -/
def Fits : (t : Ty) → t.den → Prop
  | .int k, x => k.min ≤ (x : Int) ∧ (x : Int) ≤ k.max
  | .str, b => (b : ByteArray).size ≤ maxLen
  | .sl _ _ t, xs => xs.length ≤ maxLen ∧ ∀ x ∈ xs, Fits t x
  | .cons a r, x => Fits a x.1 ∧ Fits r x.2
  | _, _ => True
section
variable {H : Type} {enc : TypeId × Value → H} {P : Program} {w : World} {base : Nat} {spare : Nat → Bool} {held : Bool} {T : List (TypeId × TRow)}
theorem cellsOf_sz {t : TypeId} {r : TRow} (h : RowOK P T t r) : P.cellsOf t = r.ty.sz := by
  obtain ⟨i, h1, h2, _⟩ := h.info
  simp [Program.cellsOf, h1, h2]
def Old (w : World) : Nat → Prop := fun b => b < w.heap.size
theorem trod_fields (hT : TabOK P T) {n : Nat} (ih : ∀ (t : TypeId) (row : TRow) (cs : List Value) (x : DataW H × List MemPlace), tget T t = some row → DataW.trod enc P w base spare held n t cs = some x → ∃ y : row.ty.den, Ty.RR w (Old w) row.ty y cs ∧ Fits row.ty y) {cs : List Value} :
    ∀ {off : Nat} {ty : Ty} {ts : List TypeId} {fs : List Field}, FldOK T off ty ts fs → (∀ (i : Nat) (f : Field), fs[i]? = some f → ∃ x, DataW.trod enc P w base spare held n f.type ((cs.drop f.offset).take (P.cellsOf f.type)) = some x) →
      ∃ y : ty.den, Ty.RR w (Old w) ty y ((cs.drop off).take ty.sz) ∧ Fits ty y
  | off, .nil, [], [], _, _ => ⟨(), by simp [Ty.RR, Ty.sz], trivial⟩
  | off, .cons a r, t :: ts, f :: fs, h, hx => by
    obtain ⟨h1, h2, _, ⟨rf, h3, h4⟩, h5, h6⟩ := h
    obtain ⟨x, hx0⟩ := hx 0 f rfl
    have hrf := hT t rf h3
    subst h4
    rw [h1, h2, cellsOf_sz hrf] at hx0
    obtain ⟨y0, g1, g2⟩ := ih t rf _ x h3 hx0
    obtain ⟨y1, k1, k2⟩ := trod_fields hT ih h6 (fun i f' hi => hx (i + 1) f' (by simpa using hi))
    refine ⟨(y0, y1), ⟨_, _, ?_, g1, k1⟩, g2, k2⟩
    show List.take (rf.ty.sz + r.sz) (List.drop off cs) = _
    rw [List.take_add, List.drop_drop]
  | off, .nil, _ :: _, _, h, _ => by cases h
  | off, .nil, [], _ :: _, h, _ => by cases h
  | off, .cons _ _, [], _, h, _ => by cases h
  | off, .cons _ _, _ :: _, [], h, _ => by cases h
  | off, .int _, _, _, h, _ | off, .bool, _, _, h, _ | off, .str, _, _, h, _ | off, .hole, _, _, h, _ | off, .sl _ _ _, _, _, h, _ => by cases h
theorem trod_rr (hT : TabOK P T) : ∀ (n : Nat) (t : TypeId) (row : TRow) (cs : List Value) (x : DataW H × List MemPlace), tget T t = some row → DataW.trod enc P w base spare held n t cs = some x → ∃ y : row.ty.den, Ty.RR w (Old w) row.ty y cs ∧ Fits row.ty y := by
  intro n
  induction n with
  | zero => intro t row cs x _ h; simp [DataW.trod] at h
  | succ n ih =>
    intro t row cs x hrow h
    have hr := hT t row hrow
    have hd := hr.desc
    unfold DescOK at hd
    have struct : ∀ {fs : Array Field}, P.underlying t = some (.struct fs) → FldOK T 0 row.ty row.fs fs.toList → ∃ y : row.ty.den, Ty.RR w (Old w) row.ty y cs ∧ Fits row.ty y := by
      intro fs hu hfo
      obtain ⟨xs, m, hm, _, hl, hlen, hf⟩ := DataW.trod_struct hu h
      cases hm
      obtain ⟨y, g1, g2⟩ := trod_fields hT ih (cs := cs) hfo (fun i f hi => by
        have hi : fs[i]? = some f := by rw [← Array.getElem?_toList]; exact hi
        have := hf i f hi
        have hlt : i < xs.length := by rw [hlen]; exact (Array.getElem?_eq_some_iff.1 hi).1
        exact ⟨_, this.trans (List.getElem?_eq_getElem hlt)⟩)
      rw [List.drop_zero, ← cellsOf_sz hr, ← hl, List.take_length] at g1
      exact ⟨y, g1, g2⟩
    cases hty : row.ty with
    | int k =>
      rw [hty] at hd
      obtain ⟨m, rfl, _, hw⟩ := DataW.trod_int hd h
      simp only [Lit.wf, Bool.and_eq_true, decide_eq_true_eq] at hw
      exact ⟨m, rfl, hw⟩
    | bool =>
      rw [hty] at hd
      obtain ⟨b, rfl, _⟩ := DataW.trod_bool hd h
      exact ⟨b, rfl, trivial⟩
    | str =>
      rw [hty] at hd
      obtain ⟨b, rfl, _, hs⟩ := DataW.trod_string hd h
      exact ⟨b, rfl, hs⟩
    | hole => rw [hty] at hd; exact hd.elim
    | nil =>
      rw [hty] at hd
      obtain ⟨fs, hu, hfo⟩ := hd
      rw [← hty] at hfo ⊢
      exact struct hu hfo
    | cons a r =>
      rw [hty] at hd
      obtain ⟨fs, hu, hfo⟩ := hd
      rw [← hty] at hfo ⊢
      exact struct hu hfo
    | sl o e te =>
      rw [hty] at hd
      obtain ⟨_, hu, re, hre, hte, hnz, _⟩ := hd
      have hrr := hT e re hre
      subst hte
      rcases DataW.trod_slice hu h with ⟨rfl, _⟩ | ⟨A, len, cap, elems, rest, m, hm, rfl, _, hb, hl, hmx, hel, hi, _, _⟩
      · exact ⟨[], ⟨none, 0, rfl, Nat.le_refl _, Nat.zero_le _, fun i y hy => by cases hy⟩, Nat.zero_le _, fun y hy => by cases hy⟩
      · cases hm
        have each : ∀ (i : Nat) (z : DataW H × List MemPlace), elems[i]? = some z → ∃ y : re.ty.den, (∃ b o, A = ⟨b, o, none⟩ ∧ Old w b ∧ ∃ cc, Ty.RR w (Old w) re.ty y cc ∧ ∀ j v, cc[j]? = some v → w.cell? ⟨b, o + i * re.ty.sz + j, none⟩ = some v) ∧ Fits re.ty y := by
          intro i z hz
          have hlt : i < len := by have := (List.getElem?_eq_some_iff.1 hz).1; omega
          have hx := hi i hlt
          rw [hz] at hx
          obtain ⟨ci, hc, ht⟩ := Option.bind_eq_some_iff.1 hx
          rw [cellsOf_sz hrr] at hc
          obtain ⟨_, hcl, hcc⟩ := World.cells?_some hc
          obtain ⟨y, g1, g2⟩ := ih e re ci z hre ht
          refine ⟨y, ?_, g2⟩
          -- the array's own place
          have h0 : 0 < len := by omega
          have hz0 : elems[0]? = some elems[0] := List.getElem?_eq_getElem (by omega)
          have hx0 := hi 0 h0
          rw [hz0] at hx0
          obtain ⟨c0, hc0, _⟩ := Option.bind_eq_some_iff.1 hx0
          rw [cellsOf_sz hrr] at hc0
          obtain ⟨_, hcl0, hcc0⟩ := World.cells?_some hc0
          have hfirst := hcc0 0 (by omega)
          rw [List.getElem?_eq_getElem (show 0 < c0.length by omega)] at hfirst
          have hadd0 : (A.add (0 * re.ty.sz)).add 0 = A := by simp [Addr.add]
          rw [hadd0] at hfirst
          obtain ⟨b, off, sp⟩ := A
          have hsp : sp = none ∧ b < w.heap.size := by
            unfold World.cell? at hfirst
            cases hh : w.heap[b]? with
            | none => rw [hh] at hfirst; cases hfirst
            | some ob =>
              refine ⟨?_, (Array.getElem?_eq_some_iff.1 hh).1⟩
              rw [hh] at hfirst
              cases ob <;> simp at hfirst
              exact hfirst.1
          obtain ⟨rfl, hbl⟩ := hsp
          refine ⟨b, off, rfl, hbl, ci, g1, fun j v hj => ?_⟩
          have := hcc j (by have := (List.getElem?_eq_some_iff.1 hj).1; omega)
          rw [add_at, add_at, hj] at this
          exact this
        obtain ⟨ys, l1, l2⟩ := choose_idx (P := fun i z (y : re.ty.den) => (∃ b o, A = ⟨b, o, none⟩ ∧ Old w b ∧ ∃ cc, Ty.RR w (Old w) re.ty y cc ∧ ∀ j v, cc[j]? = some v → w.cell? ⟨b, o + i * re.ty.sz + j, none⟩ = some v) ∧ Fits re.ty y) elems each
        have hat : ∀ (i : Nat) (y : re.ty.den), ys[i]? = some y → (∃ b o, A = ⟨b, o, none⟩ ∧ Old w b ∧ ∃ cc, Ty.RR w (Old w) re.ty y cc ∧ ∀ j v, cc[j]? = some v → w.cell? ⟨b, o + i * re.ty.sz + j, none⟩ = some v) ∧ Fits re.ty y := by
          intro i y hy
          have hlt : i < elems.length := by have := (List.getElem?_eq_some_iff.1 hy).1; omega
          exact l2 i _ y (List.getElem?_eq_getElem hlt) hy
        have hyl : ys.length = len := l1.trans hel
        refine ⟨ys, ⟨some A, cap, by rw [hyl], by rw [hyl]; exact hl, hmx, fun i y hy => ?_⟩, by show ys.length ≤ maxLen; omega, fun y hy => ?_⟩
        · obtain ⟨⟨b, o', rfl, h2⟩, _⟩ := hat i y hy
          exact ⟨b, o', rfl, h2⟩
        · obtain ⟨i, hi'⟩ := List.mem_iff_getElem?.1 hy
          exact (hat i y hi').2
/-- An argument. -/
theorem open_arg (hT : TabOK P T) {r : Reach} {b0 : Nat} {t : TypeId} {row : TRow} (hrow : tget T t = some row) {v : Value} {d : DataW H} {ps : List MemPlace} (hval : Value.okWide P w r b0 t v) (hd : DataW.Trod enc P w base spare held t v d ps) :
    ∃ y : row.ty.den, AVS w (Old w) noR noD ((Pat.val row.ty).av y) v ∧ Fits row.ty y := by
  obtain ⟨fuel, hf⟩ := hd
  obtain ⟨y, h1, h2⟩ := trod_rr hT fuel t row _ _ hrow hf
  refine ⟨y, ⟨v.cells.toList, h1, ?_⟩, h2⟩
  have hde := (hT t row hrow).desc
  unfold DescOK at hde
  show v = mkw row.ty.agg v.cells.toList
  cases hty : row.ty with
  | int k => rw [hty] at hde; obtain ⟨n, rfl⟩ := okWide_int hde hval; rfl
  | bool => rw [hty] at hde; obtain ⟨n, rfl⟩ := okWide_bool hde hval; rfl
  | str => rw [hty] at hde; obtain ⟨n, rfl⟩ := okWide_string hde hval; rfl
  | hole => rw [hty] at hde; exact hde.elim
  | sl o e te => rw [hty] at hde; obtain ⟨_, hu, _⟩ := hde; obtain ⟨x, y, z, rfl⟩ := okWide_slice hu hval; rfl
  | nil => rw [hty] at hde; obtain ⟨fs, hu, _⟩ := hde; obtain ⟨cs, rfl, _⟩ := okWide_struct hu hval; simp [mkw, Ty.agg, Value.cells]
  | cons a r => rw [hty] at hde; obtain ⟨fs, hu, _⟩ := hde; obtain ⟨cs, rfl, _⟩ := okWide_struct hu hval; simp [mkw, Ty.agg, Value.cells]
theorem trod_same {w' : World} (hb : ∀ b, b < w.heap.size → w'.heap[b]? = w.heap[b]?) {t : TypeId} {v : Value} {d : DataW H} {ps : List MemPlace} (h : DataW.Trod enc P w base spare held t v d ps) : DataW.Trod enc P w' base spare held t v d ps := by
  obtain ⟨fuel, hf⟩ := h
  refine ⟨fuel, DataW.trod_carry fuel t _ _ hf (fun p hp => ?_)⟩
  have hlt := DataW.trod_lt fuel t _ _ hf p hp
  cases p with
  | cell b off => simp only [World.sameAt, World.cell?]; rw [hb b hlt]
  | map b => exact hb b hlt
theorem trodAll_same {w' : World} (hb : ∀ b, b < w.heap.size → w'.heap[b]? = w.heap[b]?) : ∀ {ts : List TypeId} {vs : List Value} {ds : List (DataW H)} {ps : List MemPlace}, DataW.TrodAll enc P w base spare held ts vs ds ps → DataW.TrodAll enc P w' base spare held ts vs ds ps
  | [], [], [], ps, h => h
  | t :: ts, v :: vs, d :: ds, ps, h => by
    obtain ⟨p, q, h1, h2, h3⟩ := h
    exact ⟨p, q, trod_same hb h1, trodAll_same hb h2, h3⟩
  | [], [], _ :: _, _, h => h.elim
  | [], _ :: _, _, _, h => h.elim
  | _ :: _, [], _, _, h => h.elim
  | _ :: _, _ :: _, [], _, h => h.elim
end
section
variable {H : Type} {enc : TypeId × Value → H} {P : Program} {w : World} {T : List (TypeId × TRow)}
def InT (T : List (TypeId × TRow)) (t : TypeId) : Prop := ∃ r, tget T t = some r
theorem fld_kids (hT : TabOK P T) : ∀ {off : Nat} {ty : Ty} {ts : List TypeId} {fs : List Field}, FldOK T off ty ts fs → (∀ f ∈ fs, InT T f.type) ∧ ty.sz = (fs.map fun f => P.cellsOf f.type).sum ∧ ∀ (j : Nat) (f : Field), fs[j]? = some f → f.offset = off + ((fs.take j).map fun f => P.cellsOf f.type).sum
  | off, .nil, [], [], _ => ⟨(fun f hf => by cases hf), rfl, (fun j f hj => by cases hj)⟩
  | off, .cons a r, t :: ts, f :: fs, h => by
    obtain ⟨h1, h2, _, ⟨rf, h3, h4⟩, h5, h6⟩ := h
    obtain ⟨g1, g2, g3⟩ := fld_kids hT h6
    have hc : P.cellsOf f.type = a.sz := by rw [h1, cellsOf_sz (hT t rf h3), h4]
    refine ⟨fun f' hf => ?_, ?_, fun j f' hj => ?_⟩
    · rcases List.mem_cons.1 hf with rfl | hf
      · exact ⟨rf, by rw [h1]; exact h3⟩
      · exact g1 f' hf
    · rw [List.map_cons, List.sum_cons, hc, ← g2]; rfl
    · cases j with
      | zero =>
        simp only [List.getElem?_cons_zero, Option.some.injEq] at hj
        subst hj
        rw [h2]; simp
      | succ j =>
        rw [g3 j f' (by simpa using hj), List.take_succ_cons, List.map_cons, List.sum_cons, hc, Nat.add_assoc]
  | off, .nil, _ :: _, _, h => by cases h
  | off, .nil, [], _ :: _, h => by cases h
  | off, .cons _ _, [], _, h => by cases h
  | off, .cons _ _, _ :: _, [], h => by cases h
  | off, .int _, _, _, h | off, .bool, _, _, h | off, .str, _, _, h | off, .hole, _, _, h | off, .sl _ _ _, _, _, h => by cases h
theorem under_of (hT : TabOK P T) {t : TypeId} {k : TypeDesc} (h : InT T t) (hu : P.underlying t = some k) : (∃ i, k = .int i) ∨ k = .bool ∨ k = .string ∨ (∃ e, k = .slice e ∧ InT T e ∧ 0 < P.cellsOf e) ∨ ∃ fs, k = .struct fs ∧ ∃ r, tget T t = some r ∧ FldOK T 0 r.ty r.fs fs.toList := by
  obtain ⟨r, hr⟩ := h
  have hd := (hT t r hr).desc
  unfold DescOK at hd
  cases hty : r.ty with
  | int i => rw [hty] at hd; rw [hu] at hd; cases hd; exact .inl ⟨i, rfl⟩
  | bool => rw [hty] at hd; rw [hu] at hd; cases hd; exact .inr (.inl rfl)
  | str => rw [hty] at hd; rw [hu] at hd; cases hd; exact .inr (.inr (.inl rfl))
  | hole => rw [hty] at hd; exact hd.elim
  | sl o e te =>
    rw [hty] at hd
    obtain ⟨_, h1, re, h2, h3, h4, _⟩ := hd
    rw [hu] at h1; cases h1
    exact .inr (.inr (.inr (.inl ⟨e, rfl, ⟨re, h2⟩, by rw [cellsOf_sz (hT e re h2), h3]; exact Nat.pos_of_ne_zero h4⟩)))
  | nil =>
    rw [hty] at hd
    obtain ⟨fs, h1, h2⟩ := hd
    rw [hu] at h1; cases h1
    exact .inr (.inr (.inr (.inr ⟨fs, rfl, r, hr, by rw [hty]; exact h2⟩)))
  | cons a b =>
    rw [hty] at hd
    obtain ⟨fs, h1, h2⟩ := hd
    rw [hu] at h1; cases h1
    exact .inr (.inr (.inr (.inr ⟨fs, rfl, r, hr, by rw [hty]; exact h2⟩)))
theorem kids_tab (hT : TabOK P T) : Kids P (InT T) where
  pointer := fun ht hu => by rcases under_of hT ht hu with ⟨_, h⟩ | h | h | ⟨_, h, _⟩ | ⟨_, h, _⟩ <;> cases h
  slice := fun ht hu => by
    rcases under_of hT ht hu with ⟨_, h⟩ | h | h | ⟨_, h, h2, _⟩ | ⟨_, h, _⟩ <;> cases h
    exact h2
  array := fun ht hu => by rcases under_of hT ht hu with ⟨_, h⟩ | h | h | ⟨_, h, _⟩ | ⟨_, h, _⟩ <;> cases h
  struct := fun ht hu => by
    rcases under_of hT ht hu with ⟨_, h⟩ | h | h | ⟨_, h, _⟩ | ⟨_, h, r, hr, hfo⟩ <;> cases h
    obtain ⟨g1, g2, g3⟩ := fld_kids hT hfo
    exact ⟨g1, (cellsOf_sz (hT _ r hr)).trans g2, fun j f hj => by rw [g3 j f hj, Nat.zero_add]⟩
  map := fun ht hu => by rcases under_of hT ht hu with ⟨_, h⟩ | h | h | ⟨_, h, _⟩ | ⟨_, h, _⟩ <;> cases h
theorem trod_after (hT : TabOK P T) {w' : World} (hb : ∀ b, b < w.heap.size → w'.heap[b]? = w.heap[b]?) {t : TypeId} (ht : InT T t) {v : Value} {d : DataW H} {ps : List MemPlace} (h : DataW.Trod enc P w 0 (fun _ => true) true t v d ps) :
    DataW.Trod enc P w' 0 (fun b => decide (b < w.heap.size)) true t v d ps := by
  have hs := trod_same hb h
  obtain ⟨f0, h0⟩ := h
  obtain ⟨fuel, hf⟩ := hs
  refine ⟨fuel, DataW.trod_yes (kids_tab hT) (fun ht hu => ?_) (fun e => by cases e) fuel t _ _ ht hf (fun p hp => ?_)⟩
  · rcases under_of hT ht hu with ⟨_, h⟩ | h | h | ⟨_, h, _, h3⟩ | ⟨_, h, _⟩ <;> cases h
    exact h3
  · exact decide_eq_true (DataW.trod_lt f0 t _ _ h0 p hp)
theorem trodAll_after (hT : TabOK P T) {w' : World} (hb : ∀ b, b < w.heap.size → w'.heap[b]? = w.heap[b]?) : ∀ {ts : List TypeId} {vs : List Value} {ds : List (DataW H)} {ps : List MemPlace}, (ts.all fun t => (tget T t).isSome) = true → DataW.TrodAll enc P w 0 (fun _ => true) true ts vs ds ps →
    DataW.TrodAll enc P w' 0 (fun b => decide (b < w.heap.size)) true ts vs ds ps
  | [], [], [], ps, _, h => h
  | t :: ts, v :: vs, d :: ds, ps, hi, h => by
    obtain ⟨p, q, h1, h2, h3⟩ := h
    rw [List.all_cons, Bool.and_eq_true] at hi
    exact ⟨p, q, trod_after hT hb (Option.isSome_iff_exists.1 hi.1) h1, trodAll_after hT hb hi.2 h2, h3⟩
  | [], [], _ :: _, _, _, h => h.elim
  | [], _ :: _, _, _, _, h => h.elim
  | _ :: _, [], _, _, _, h => h.elim
  | _ :: _, _ :: _, [], _, _, h => h.elim
end
/-- A law's function, all its arguments read, answers with a flag. -/
theorem law_calls {P : Program} {f : FuncId} (ks : List Pat) {cf : argsT (ks.map .r) → Option (ansT (.one .bool) (ks.map .r))} (hc : CallOK P f ⟨ks.map .r, .one .bool, cf⟩) {w : World} {x : argsT (ks.map .r)} {y : ansT (.one .bool) (ks.map .r)} {vs : List Value} (hfn : cf x = some y)
    (hy : (cutA [Ty.bool] (backs (ks.map .r)) y).1.1 = true) (hA : ArgsOK w (Old w) (ks.map .r) x vs (ks.map fun _ => noZ)) : Calls P f vs.toArray w fun e w' => e = .returned (.bool true) ∧ Below w.heap.size w w' := by
  have hfe : feet (ks.map fun _ => noZ) = [] := by
    unfold feet
    exact flatMap_nil_of (fun z hz => by obtain ⟨_, _, rfl⟩ := List.mem_map.1 hz; rfl)
  refine Calls.mono (hc.2.2 w (Old w) x y vs _ hfn (fun b hb => hb) hA (by rw [hfe]; exact List.nodup_nil) (by rw [hfe]; intro b hb; cases hb)) (fun e w' he => ?_)
  obtain ⟨v, Sh', rs, bs, rfl, L, hr, _⟩ := he
  obtain ⟨d, h1, _, rfl, _⟩ := hr
  have h1 : (d : Bool) = (cutA [Ty.bool] (backs (ks.map .r)) y).1.1 := h1
  have hd : (d : Bool) = true := h1.trans hy
  refine ⟨?_, ⟨L.os, L.tape, L.output, L.hsz, fun b hb => L.block b hb (by rw [hfe]; intro hm; cases hm)⟩⟩
  show Ending.returned (Value.bool d) = _
  rw [hd]
end Go.Proofs.Ytabjfkongckhaaa.Vm
