/- Regions whose order is drawn. -/
import Derived.Test.YtabjfkongckhaaaVmO
namespace Go.Proofs.Ytabjfkongckhaaa.Vm
open Go Go.RowKit
set_option linter.unusedVariables false

theorem memN_iff {x : Nat} : ∀ {l : List Nat}, memN x l = true ↔ x ∈ l
  | [] => by simp [memN]
  | y :: l => by simp [memN, memN_iff (l := l)]
theorem meets_false {a b : List Nat} (h : (!meets a b) = true) : ∀ x ∈ a, x ∉ b := by
  intro x hx hb
  simp only [Bool.not_eq_true', meets, List.any_eq_false] at h
  exact h x hx (memN_iff.2 hb)
structure Apart (x y : Rec) : Prop where
  xr : ∀ d, x.dst = some d → d ∉ y.rd
  yr : ∀ d, y.dst = some d → d ∉ x.rd
  xy : ∀ d, x.dst = some d → y.dst ≠ some d
  wa : ∀ i ∈ x.wr, i ∉ y.ask
  ww : ∀ i ∈ x.wr, i ∉ y.wr
  aw : ∀ i ∈ x.ask, i ∉ y.wr
theorem apart_of {x y : Rec} (h : apart2 x y = true) : Apart x y := by
  unfold apart2 at h
  simp only [Bool.and_eq_true] at h
  obtain ⟨⟨⟨⟨h1, h2⟩, h3⟩, h4⟩, h5⟩ := h
  refine ⟨fun d hd hm => ?_, fun d hd hm => ?_, fun d hd he => ?_, meets_false h3, meets_false h4, meets_false h5⟩
  · rw [hd] at h1
    simp only [Bool.and_eq_true, Bool.not_eq_true'] at h1
    rw [memN_iff.2 hm] at h1; cases h1.1
  · rw [hd] at h2
    simp only [Bool.not_eq_true'] at h2
    rw [memN_iff.2 hm] at h2; cases h2
  · rw [hd, he] at h1
    simp at h1

theorem wr_out {id : Nat} : ∀ {ws : Writes} {R : Nat → Option Root}, id ∉ wrIds ws → app ws R id = R id
  | [], R, h => rfl
  | (i, r) :: ws, R, h => by
    have hne : id ≠ i := fun e => h (by subst e; exact List.mem_cons_self)
    show upt (app ws R) i (some r) id = _
    rw [upt_ne _ _ hne]
    exact wr_out (fun hm => h (List.mem_cons_of_mem _ hm))
theorem wr_in {id : Nat} : ∀ {ws : Writes} {R R' : Nat → Option Root}, id ∈ wrIds ws → app ws R id = app ws R' id
  | [], R, R', h => by cases h
  | (i, r) :: ws, R, R', h => by
    show upt (app ws R) i (some r) id = upt (app ws R') i (some r) id
    by_cases e : id = i
    · subst e; rw [upt_same, upt_same]
    · rw [upt_ne _ _ e, upt_ne _ _ e]
      rcases List.mem_cons.1 h with h | h
      · exact absurd h e
      · exact wr_in h
theorem app_comm {ws vs : Writes} (h : ∀ i ∈ wrIds ws, i ∉ wrIds vs) (R : Nat → Option Root) : app ws (app vs R) = app vs (app ws R) := by
  funext id
  by_cases h1 : id ∈ wrIds ws
  · rw [wr_in (R' := R) h1, wr_out (h id h1)]
  · rw [wr_out h1]
    by_cases h2 : id ∈ wrIds vs
    · exact wr_in h2
    · rw [wr_out h2, wr_out h2, wr_out h1]
theorem after_comm {st : St} {x y : Rec × Res} (h1 : ∀ d, x.1.dst = some d → y.1.dst ≠ some d) (h2 : ∀ i ∈ wrIds x.2.ws, i ∉ wrIds y.2.ws) : (st.after x.1.dst x.2).after y.1.dst y.2 = (st.after y.1.dst y.2).after x.1.dst x.2 := by
  unfold St.after
  congr 1
  · cases hx : x.1.dst with
    | none => rfl
    | some d =>
      cases hy : y.1.dst with
      | none => rfl
      | some e => exact upt_comm _ _ _ (fun he => h1 d hx (he ▸ hy))
  · exact (app_comm h2 st.roots).symm
theorem Sof_comm {L : Nat → Bool} {x : Rec × Res} : ∀ (xs : List (Rec × Res)) (i : Nat) (st : St), (∀ n y, xs[n]? = some y → L (i + n) = true → (∀ d, x.1.dst = some d → y.1.dst ≠ some d) ∧ ∀ k ∈ wrIds x.2.ws, k ∉ wrIds y.2.ws) →
    Sof L i xs (st.after x.1.dst x.2) = (Sof L i xs st).after x.1.dst x.2
  | [], i, st, h => rfl
  | y :: xs, i, st, h => by
    simp only [Sof]
    have ht : ∀ st : St, Sof L (i + 1) xs (st.after x.1.dst x.2) = (Sof L (i + 1) xs st).after x.1.dst x.2 := fun st => Sof_comm xs (i + 1) st (fun n z hz hl => h (n + 1) z (by simpa using hz) (by rw [← hl]; congr 1; omega))
    cases hl : L i with
    | false => exact ht st
    | true =>
      simp only [cond_true]
      obtain ⟨h1, h2⟩ := h 0 y rfl (by simpa using hl)
      rw [after_comm h1 h2]
      exact ht _
theorem Sof_congr {L L' : Nat → Bool} : ∀ (xs : List (Rec × Res)) (i : Nat) (st : St), (∀ n, n < xs.length → L (i + n) = L' (i + n)) → Sof L i xs st = Sof L' i xs st
  | [], i, st, h => rfl
  | x :: xs, i, st, h => by
    simp only [Sof]
    have h0 : L i = L' i := by simpa using h 0 (by simp)
    rw [h0]
    exact Sof_congr xs (i + 1) _ (fun n hn => by have := h (n + 1) (by simpa using hn); rw [show i + 1 + n = i + (n + 1) by omega]; exact this)
/-- One more was carried out. -/
theorem Sof_add {L L' : Nat → Bool} {x : Rec × Res} : ∀ (n : Nat) (xs : List (Rec × Res)) (i : Nat) (st : St), xs[n]? = some x → L (i + n) = false → L' (i + n) = true → (∀ m, m ≠ i + n → L' m = L m) →
    (∀ m y, n < m → xs[m]? = some y → L (i + m) = true → (∀ d, x.1.dst = some d → y.1.dst ≠ some d) ∧ ∀ k ∈ wrIds x.2.ws, k ∉ wrIds y.2.ws) → Sof L' i xs st = (Sof L i xs st).after x.1.dst x.2
  | 0, y :: xs, i, st, hx, h0, h1, hne, hc => by
    simp only [List.getElem?_cons_zero, Option.some.injEq] at hx
    subst hx
    simp only [Sof]
    rw [show L i = false from h0, show L' i = true from h1]
    simp only [cond_true, cond_false]
    rw [Sof_congr (L := L') (L' := L) xs (i + 1) _ (fun n _ => hne _ (by omega))]
    exact Sof_comm xs (i + 1) st (fun n z hz hl => hc (n + 1) z (by omega) (by simpa using hz) (by rw [← hl]; congr 1; omega))
  | n + 1, y :: xs, i, st, hx, h0, h1, hne, hc => by
    simp only [Sof]
    rw [hne i (by omega)]
    exact Sof_add n xs (i + 1) _ (by simpa using hx) (by rw [← h0]; congr 1; omega) (by rw [← h1]; congr 1; omega) (fun m hm => hne m (by omega))
      (fun m z hm hz hl => hc (m + 1) z (by omega) (by simpa using hz) (by rw [← hl]; congr 1; omega))
  | n, [], i, st, hx, _, _, _, _ => by cases hx
theorem Sof_tmp {L L' : Nat → Bool} {t : Nat} : ∀ (xs : List (Rec × Res)) (i : Nat) (st st' : St), (∀ n x, xs[n]? = some x → x.1.dst = some t → L (i + n) = L' (i + n)) → st.tmps t = st'.tmps t → (Sof L i xs st).tmps t = (Sof L' i xs st').tmps t
  | [], i, st, st', h, e => e
  | x :: xs, i, st, st', h, e => by
    simp only [Sof]
    refine Sof_tmp xs (i + 1) _ _ (fun n y hy hd => ?_) ?_
    · have := h (n + 1) y (by simpa using hy) hd
      rw [show i + 1 + n = i + (n + 1) by omega]; exact this
    · have hput : ∀ st : St, x.1.dst ≠ some t → (st.after x.1.dst x.2).tmps t = st.tmps t := by
        intro st hd
        unfold St.after
        cases hx : x.1.dst with
        | none => rfl
        | some d => exact upt_ne _ _ (fun he => hd (by rw [hx, he]))
      by_cases hd : x.1.dst = some t
      · have h0 : L i = L' i := by simpa using h 0 x rfl hd
        rw [h0]
        cases L' i with
        | false => exact e
        | true => simp only [cond_true, St.after, hd, upt_same]
      · cases L i <;> cases L' i <;> simp only [cond_true, cond_false, hput _ hd, e]
theorem Sof_root {L L' : Nat → Bool} {id : Nat} : ∀ (xs : List (Rec × Res)) (i : Nat) (st st' : St), (∀ n x, xs[n]? = some x → id ∈ wrIds x.2.ws → L (i + n) = L' (i + n)) → st.roots id = st'.roots id → (Sof L i xs st).roots id = (Sof L' i xs st').roots id
  | [], i, st, st', h, e => e
  | x :: xs, i, st, st', h, e => by
    simp only [Sof]
    refine Sof_root xs (i + 1) _ _ (fun n y hy hd => ?_) ?_
    · have := h (n + 1) y (by simpa using hy) hd
      rw [show i + 1 + n = i + (n + 1) by omega]; exact this
    · have hr : ∀ st : St, (st.after x.1.dst x.2).roots id = app x.2.ws st.roots id := fun st => rfl
      by_cases hd : id ∈ wrIds x.2.ws
      · have h0 : L i = L' i := by simpa using h 0 x rfl hd
        rw [h0]
        cases L' i with
        | false => exact e
        | true => simp only [cond_true, hr]; exact wr_in hd
      · cases L i <;> cases L' i <;> simp only [cond_true, cond_false, hr, wr_out hd, e]

theorem looks_guard {all : List Oper} {o og : Oper} {g : Nat} {want : Bool} {d : Nat} (h : o.guard = some (g, want)) (hg : all[g]? = some og) (hd : og.dst = some d) : d ∈ looks all o := by
  unfold looks
  rw [h]; simp only [hg, hd]
  simp
theorem looks_tmp {all : List Oper} {o : Oper} {t : Nat} (h : Operand.tmp t ∈ o.op.operands.toList) : t ∈ looks all o := by
  unfold looks
  refine List.mem_append_left _ ?_
  generalize o.op.operands.toList = l at h
  induction l with
  | nil => cases h
  | cons x l ih =>
    have hh := List.mem_cons.1 h
    clear h
    rcases hh with hh | hh
    · subst hh; exact List.mem_cons_self
    · have hi := ih hh
      clear hh ih
      cases x <;> simp only [opTmps] <;> first | exact hi | exact List.mem_cons_of_mem _ hi
theorem Fact.of {T : List (TypeId × TRow)} {K : Cons} {all : List Oper} {st st' : St} {o : Oper} {x : Rec × Res} (h : Fact T K all st o x) (hr : x.1.rd = looks all o) (h1 : ∀ t ∈ x.1.rd, st'.tmps t = st.tmps t) (h2 : ∀ id ∈ x.1.ask, st'.roots id = st.roots id) : Fact T K all st' o x := by
  have hw : wantedP all st'.tmps o = wantedP all st.tmps o := by
    unfold wantedP
    cases hg : o.guard with
    | none => rfl
    | some gw =>
      obtain ⟨g, want⟩ := gw
      simp only
      cases hog : all[g]? with
      | none => rfl
      | some og =>
        simp only
        cases hd : og.dst with
        | none => rfl
        | some d => simp only [h1 d (by rw [hr]; exact looks_guard hg hog hd)]
  have hp : opP T K o (evalA st'.tmps) = opP T K o (evalA st.tmps) := opP_congr T K o (fun y hy => by
    cases y with
    | tmp t => exact h1 t (by rw [hr]; exact looks_tmp hy)
    | _ => rfl)
  rcases h with ⟨a1, a2, a3⟩ | ⟨a1, a2⟩
  · left
    obtain ⟨g1, g2⟩ := Prog.go_congr (R := st.roots) (R' := st'.roots) (opP T K o (evalA st.tmps)) (fun id hid => h2 id (a3 id hid))
    exact ⟨hw.trans a1, by rw [hp, g1]; exact a2, by rw [hp, g2]; exact a3⟩
  · exact .inr ⟨hw.trans a1, a2⟩

theorem edgeM_bit {i : Nat} : ∀ {es : List Edge} {acc : List Nat}, Nat.testBit (edgeM es acc) i = true → ∃ e ∈ es, Region.binds .any e = true ∧ (i = e.on ∨ Nat.testBit (acc.getD e.on 0) i = true)
  | [], acc, h => by simp [edgeM] at h
  | e :: es, acc, h => by
    simp only [edgeM] at h
    cases hb : Region.binds .any e with
    | false =>
      rw [hb] at h
      obtain ⟨e', h1, h2⟩ := edgeM_bit (es := es) h
      exact ⟨e', List.mem_cons_of_mem _ h1, h2⟩
    | true =>
      rw [hb] at h
      simp only [cond_true, Nat.testBit_or, Bool.or_eq_true] at h
      rcases h with (h | h) | h
      · refine ⟨e, List.mem_cons_self, hb, .inl ?_⟩
        rw [Nat.testBit_two_pow] at h
        exact (of_decide_eq_true h).symm
      · exact ⟨e, List.mem_cons_self, hb, .inr h⟩
      · obtain ⟨e', h1, h2⟩ := edgeM_bit (es := es) h
        exact ⟨e', List.mem_cons_of_mem _ h1, h2⟩
theorem masks_get : ∀ (os : List Oper) (acc : List Nat), (masks os acc).take acc.length = acc ∧ ∀ n o, os[n]? = some o → (masks os acc).getD (acc.length + n) 0 = edgeM o.after.toList ((masks os acc).take (acc.length + n))
  | [], acc => ⟨by simp [masks], fun n o h => by cases h⟩
  | o :: os, acc => by
    obtain ⟨h1, h2⟩ := masks_get os (acc ++ [edgeM o.after.toList acc])
    simp only [masks]
    have e0 : (masks os (acc ++ [edgeM o.after.toList acc])).take acc.length = acc := by
      have := congrArg (List.take acc.length) h1
      rw [List.take_take] at this
      simpa using this
    refine ⟨e0, fun n p hp => ?_⟩
    cases n with
    | zero =>
      simp only [List.getElem?_cons_zero, Option.some.injEq] at hp
      subst hp
      rw [Nat.add_zero, e0]
      have hl := congrArg (fun l => l[acc.length]?) h1
      simp only [List.getElem?_take] at hl
      simp at hl
      rw [List.getD_eq_getElem?_getD, hl]; rfl
    | succ n =>
      have := h2 n p (by simpa using hp)
      simp only [List.length_append, List.length_cons, List.length_nil] at this
      rw [show acc.length + (n + 1) = acc.length + (0 + 1) + n by omega]
      exact this
/-- What the bits tell is listed, where all that is waited for is. -/
theorem masks_closed {ops : List Oper} {L : Nat → Bool} (hcl : ∀ i o, ops[i]? = some o → L i = true → ∀ e ∈ o.after.toList, Region.binds .any e = true → L e.on = true) :
    ∀ (n j : Nat), j ≤ n → ∀ o, ops[j]? = some o → (∀ e ∈ o.after.toList, Region.binds .any e = true → L e.on = true) → ∀ i, Nat.testBit ((masks ops []).getD j 0) i = true → L i = true
  | n, j, hj, o, ho, he, i, hb => by
    have hm := (masks_get ops []).2 j o ho
    simp only [List.length_nil, Nat.zero_add] at hm
    rw [hm] at hb
    obtain ⟨e, h1, h2, h3⟩ := edgeM_bit hb
    rcases h3 with h3 | h3
    · rw [h3]; exact he e h1 h2
    · have hlt : e.on < j := by
        rcases Nat.lt_or_ge e.on j with h | h
        · exact h
        · rw [List.getD_eq_getElem?_getD, List.getElem?_take, if_neg (by omega)] at h3
          simp at h3
      rw [List.getD_eq_getElem?_getD, List.getElem?_take, if_pos hlt, ← List.getD_eq_getElem?_getD] at h3
      cases n with
      | zero => omega
      | succ n =>
        have hon := he e h1 h2
        have hlo : e.on < ops.length := by have := (List.getElem?_eq_some_iff.1 ho).1; omega
        exact masks_closed hcl n e.on (by omega) ops[e.on] (List.getElem?_eq_getElem hlo) (hcl e.on _ (List.getElem?_eq_getElem hlo) hon) i h3
theorem calm_pair {bf : List Nat} : ∀ {rs : List Rec}, calm bf rs = true → rs.Pairwise fun y x => Nat.testBit (bf.getD y.i 0) x.i = true ∨ apart2 x y = true
  | [], _ => List.Pairwise.nil
  | y :: l, h => by
    simp only [calm, Bool.and_eq_true, List.all_eq_true, Bool.or_eq_true] at h
    exact List.Pairwise.cons (fun x hx => h.1 x hx) (calm_pair h.2)
theorem calm_get {bf : List Nat} {xs : List (Rec × Res)} (h : calm bf ((xs.map (·.1)).reverse) = true) {m n : Nat} {x y : Rec × Res} (hlt : m < n) (hx : xs[m]? = some x) (hy : xs[n]? = some y) : Nat.testBit (bf.getD y.1.i 0) x.1.i = true ∨ apart2 x.1 y.1 = true := by
  have hp := List.pairwise_reverse.1 (calm_pair h)
  obtain ⟨m1, m2⟩ := List.getElem?_eq_some_iff.1 hx
  obtain ⟨n1, n2⟩ := List.getElem?_eq_some_iff.1 hy
  have := (List.pairwise_iff_getElem.1 hp) m n (by simpa using m1) (by simpa using n1) hlt
  simpa [m2, n2] using this

section
variable {C : Ctx} {T : List (TypeId × TRow)} {K : Cons}
def left (n : Nat) (listed : Array Bool) : Nat := ((List.range n).filter fun i => !listed.getD i false).length
theorem left_set {n j : Nat} {listed : Array Bool} (hj : j < n) (hl : listed.getD j true = false) : left n (listed.setIfInBounds j true) < left n listed := by
  have hsz : j < listed.size := by
    rcases Nat.lt_or_ge j listed.size with h | h
    · exact h
    · simp [Array.getElem?_eq_none h] at hl
  unfold left
  have hsub : ∀ i, (!(listed.setIfInBounds j true).getD i false) = true → (!listed.getD i false) = true := by
    intro i hi
    by_cases e : i = j
    · subst e; simp [hsz] at hi
    · rw [getD_set_ne false (Ne.symm e)] at hi; exact hi
  have : ∀ l : List Nat, (l.filter fun i => !(listed.setIfInBounds j true).getD i false).length ≤ (l.filter fun i => !listed.getD i false).length ∧ (j ∈ l → (l.filter fun i => !(listed.setIfInBounds j true).getD i false).length < (l.filter fun i => !listed.getD i false).length) := by
    intro l
    induction l with
    | nil => exact ⟨Nat.le_refl _, fun h => by cases h⟩
    | cons a l ih =>
      rw [List.filter_cons, List.filter_cons]
      by_cases ha : a = j
      · subst ha
        have h1 : (!(listed.setIfInBounds a true).getD a false) = false := by simp [hsz]
        have h2 : (!listed.getD a false) = true := by
          simp [hsz] at hl ⊢; exact hl
        rw [if_neg (by rw [h1]; exact Bool.false_ne_true), if_pos h2]
        refine ⟨by simp only [List.length_cons]; omega, fun _ => by simp only [List.length_cons]; omega⟩
      · have h1 : (listed.setIfInBounds j true).getD a false = listed.getD a false := getD_set_ne false (Ne.symm ha)
        rw [h1]
        split
        · refine ⟨by simp only [List.length_cons]; omega, fun h => ?_⟩
          rcases List.mem_cons.1 h with h | h
          · exact absurd h.symm ha
          · simp only [List.length_cons]; have := ih.2 h; omega
        · refine ⟨ih.1, fun h => ?_⟩
          rcases List.mem_cons.1 h with h | h
          · exact absurd h.symm ha
          · exact ih.2 h
  exact (this (List.range n)).2 (List.mem_range.2 hj)

/-- A region whose edges lead back, and whose slots lie in the frame. -/
def okOps (n : Nat) : Nat → List Oper → Bool
  | _, [] => true
  | i, o :: os => dstOk n o.dst && o.after.toList.all (fun e => !Region.binds .any e || Nat.blt e.on i) && okOps n (i + 1) os
theorem okOps_get {n : Nat} : ∀ {i : Nat} {os : List Oper} {m : Nat} {o : Oper}, okOps n i os = true → os[m]? = some o → dstOk n o.dst = true ∧ ∀ e ∈ o.after.toList, Region.binds .any e = true → e.on < i + m
  | i, p :: os, 0, o, h, ho => by
    simp only [List.getElem?_cons_zero, Option.some.injEq] at ho
    subst ho
    simp only [okOps, Bool.and_eq_true, List.all_eq_true, Bool.or_eq_true, Bool.not_eq_true'] at h
    refine ⟨h.1.1, fun e he hb => ?_⟩
    rcases h.1.2 e he with h1 | h1
    · rw [hb] at h1; cases h1
    · rw [Nat.blt_eq] at h1; exact h1
  | i, p :: os, m + 1, o, h, ho => by
    simp only [okOps, Bool.and_eq_true] at h
    obtain ⟨h1, h2⟩ := okOps_get (i := i + 1) h.2 (by simpa using ho)
    exact ⟨h1, fun e he hb => by have := h2 e he hb; omega⟩
  | i, [], m, o, h, ho => by cases ho

theorem any_ok (hop : AllSound C T K) {all : Array Oper} {Q : Exit → Act → World → Prop} {st0 : St} {xs : List (Rec × Res)} (hok : okOps C.n 0 all.toList = true) (hlen : xs.length = all.toList.length)
    (hfact : ∀ n x o, xs[n]? = some x → all.toList[n]? = some o → RecOK all.toList n o x ∧ Fact T K all.toList (Sof (fun m => Nat.blt m n) 0 xs st0) o x)
    (hcalm : calm (masks all.toList []) ((xs.map (·.1)).reverse) = true)
    (hQ : ∀ D Sh act w, Rel C (Sof (fun _ => true) 0 xs st0) D Sh act w → Q .normal act w) :
    ∀ (fuel : Nat) (listed : Array Bool) (D : Nat → DRoot) (Sh : Nat → Prop) (act : Act) (w : World), listed.size = all.size → left all.size listed ≤ fuel →
      (∀ i o, all.toList[i]? = some o → listed.getD i false = true → ∀ e ∈ o.after.toList, Region.binds .any e = true → listed.getD e.on false = true) →
      Rel C (Sof (fun i => listed.getD i false) 0 xs st0) D Sh act w → wpAny C.P .any all Q fuel listed act w := by
  have hn : all.toList.length = all.size := Array.length_toList
  have hall : ∀ (listed : Array Bool), listed.size = all.size → Region.ready .any all listed = [] → ∀ i, i < all.size → listed.getD i false = true := by
    intro listed hsz hr i
    induction i using Nat.strongRecOn with
    | _ i ih =>
      intro hi
      cases hl : listed.getD i false with
      | true => rfl
      | false =>
        exfalso
        have hoi : all[i]? = some all[i] := Array.getElem?_eq_getElem hi
        have hm : i ∈ Region.ready .any all listed := mem_ready.2 ⟨by simp [hsz, hi] at hl ⊢; exact hl, all[i], hoi, fun e he hb => by
          obtain ⟨_, h2⟩ := okOps_get hok (m := i) (o := all[i]) (by rw [Array.getElem?_toList]; exact hoi)
          have := h2 e (by simpa using he) hb
          exact ih e.on (by omega) (by omega)⟩
        rw [hr] at hm; cases hm
  have hend : ∀ (listed : Array Bool) (D : Nat → DRoot) (Sh : Nat → Prop) (act : Act) (w : World), listed.size = all.size → Region.ready .any all listed = [] → Rel C (Sof (fun i => listed.getD i false) 0 xs st0) D Sh act w → Q .normal act w := by
    intro listed D Sh act w hsz hr hR
    refine hQ D Sh act w ?_
    rw [Sof_congr (L := fun _ => true) (L' := fun i => listed.getD i false) xs 0 st0 (fun n hlt => by
      rw [Nat.zero_add]
      exact (hall listed hsz hr n (by omega)).symm)]
    exact hR
  intro fuel
  induction fuel with
  | zero =>
    intro listed D Sh act w hsz hleft hcl hR
    have hr : Region.ready .any all listed = [] := by
      rw [List.eq_nil_iff_forall_not_mem]
      intro j hj
      obtain ⟨h1, o, h2, _⟩ := mem_ready.1 hj
      have := left_set (n := all.size) (Array.getElem?_eq_some_iff.1 h2).1 h1
      omega
    exact ⟨hr, hend listed D Sh act w hsz hr hR⟩
  | succ fuel ih =>
    intro listed D Sh act w hsz hleft hcl hR
    refine ⟨fun hr => hend listed D Sh act w hsz hr hR, fun j hj => ?_⟩
    obtain ⟨hun, o, hoj, hedge⟩ := mem_ready.1 hj
    have hjn : j < all.size := (Array.getElem?_eq_some_iff.1 hoj).1
    have hoj' : all.toList[j]? = some o := by rw [Array.getElem?_toList]; exact hoj
    have hxl : j < xs.length := by omega
    have hxj : xs[j]? = some xs[j] := List.getElem?_eq_getElem hxl
    generalize hxe : xs[j] = x at hxj
    obtain ⟨⟨r1, r2, r3, r4⟩, hF⟩ := hfact j x o hxj hoj'
    have hLj : listed.getD j false = false := by
      simp [hsz, hjn] at hun ⊢; exact hun
    have hedge' : ∀ e ∈ o.after.toList, Region.binds .any e = true → listed.getD e.on false = true := fun e he hb => hedge e (by simpa using he) hb
    have hbelow : ∀ m y, m < j → xs[m]? = some y → listed.getD m false = false → Apart y.1 x.1 := by
      intro m y hm hy hl
      rcases calm_get hcalm hm hy hxj with hb | hb
      · exfalso
        have hom : all.toList[m]? = some all.toList[m] := List.getElem?_eq_getElem (by omega)
        have ry := (hfact m y _ hy hom).1
        rw [r1, ry.1] at hb
        have := masks_closed (L := fun i => listed.getD i false) hcl j j (Nat.le_refl _) o hoj' hedge' m hb
        rw [hl] at this; cases this
      · exact apart_of hb
    have habove : ∀ m y, j < m → xs[m]? = some y → listed.getD m false = true → Apart x.1 y.1 := by
      intro m y hm hy hl
      rcases calm_get hcalm hm hxj hy with hb | hb
      · exfalso
        have hmn : m < all.toList.length := by have := (List.getElem?_eq_some_iff.1 hy).1; omega
        have hom : all.toList[m]? = some all.toList[m] := List.getElem?_eq_getElem hmn
        have ry := (hfact m y _ hy hom).1
        rw [r1, ry.1] at hb
        have := masks_closed (L := fun i => listed.getD i false) hcl m m (Nat.le_refl _) _ hom (hcl m _ hom hl) j hb
        rw [hLj] at this; cases this
      · exact apart_of hb
    have hF2 : Fact T K all.toList (Sof (fun i => listed.getD i false) 0 xs st0) o x := by
      refine hF.of r3 (fun t ht => ?_) (fun id hid => ?_)
      · refine Sof_tmp xs 0 st0 st0 (fun m y hy hd => ?_) rfl
        rw [Nat.zero_add]
        rcases Nat.lt_trichotomy m j with hm | hm | hm
        · rw [show Nat.blt m j = true by rw [Nat.blt_eq]; exact hm]
          cases hl : listed.getD m false with
          | true => rfl
          | false => exact absurd ht ((hbelow m y hm hy hl).xr t hd)
        · subst hm
          rw [hLj]
          cases hb : Nat.blt m m with
          | false => rfl
          | true => rw [Nat.blt_eq] at hb; omega
        · rw [show Nat.blt m j = false by
            cases hb : Nat.blt m j with
            | false => rfl
            | true => rw [Nat.blt_eq] at hb; omega]
          cases hl : listed.getD m false with
          | false => rfl
          | true => exact absurd ht ((habove m y hm hy hl).yr t hd)
      · refine Sof_root xs 0 st0 st0 (fun m y hy hd => ?_) rfl
        rw [Nat.zero_add]
        have hmn : m < all.toList.length := by have := (List.getElem?_eq_some_iff.1 hy).1; omega
        have ry := (hfact m y _ hy (List.getElem?_eq_getElem hmn)).1
        rcases Nat.lt_trichotomy m j with hm | hm | hm
        · rw [show Nat.blt m j = true by rw [Nat.blt_eq]; exact hm]
          cases hl : listed.getD m false with
          | true => rfl
          | false => exact absurd hid ((hbelow m y hm hy hl).wa id (by rw [ry.2.2.2]; exact hd))
        · subst hm
          rw [hLj]
          cases hb : Nat.blt m m with
          | false => rfl
          | true => rw [Nat.blt_eq] at hb; omega
        · rw [show Nat.blt m j = false by
            cases hb : Nat.blt m j with
            | false => rfl
            | true => rw [Nat.blt_eq] at hb; omega]
          cases hl : listed.getD m false with
          | false => rfl
          | true => exact absurd (show id ∈ y.1.wr by rw [ry.2.2.2]; exact hd) ((habove m y hm hy hl).aw id hid)
    have hstep : Sof (fun i => (listed.setIfInBounds j true).getD i false) 0 xs st0 = (Sof (fun i => listed.getD i false) 0 xs st0).after o.dst x.2 := by
      rw [← r2]
      refine Sof_add j xs 0 st0 hxj (by rw [Nat.zero_add]; exact hLj) ?_ (fun m hm => ?_) (fun m y hm hy hl => ?_)
      · rw [Nat.zero_add]; simp [hsz, hjn]
      · exact getD_set_ne false (fun e => hm (by omega))
      · rw [Nat.zero_add] at hl
        have hmn : m < all.toList.length := by have := (List.getElem?_eq_some_iff.1 hy).1; omega
        have ry := (hfact m y _ hy (List.getElem?_eq_getElem hmn)).1
        have A := habove m y hm hy hl
        exact ⟨A.xy, fun k hk => by rw [← ry.2.2.2]; exact A.ww k (by rw [r4]; exact hk)⟩
    have hdst := (okOps_get hok hoj').1
    have hnext : ∀ (D' : Nat → DRoot) (Sh' : Nat → Prop) (act' : Act) (w' : World), Rel C ((Sof (fun i => listed.getD i false) 0 xs st0).after o.dst x.2) D' Sh' act' w' → wpAny C.P .any all Q fuel (listed.setIfInBounds j true) act' w' := by
      intro D' Sh' act' w' hR'
      refine ih _ D' Sh' act' w' (by simp [hsz]) ?_ (fun i oi hoi hli e he hb => ?_) (by rw [hstep]; exact hR')
      · have := left_set (n := all.size) hjn hun
        omega
      · by_cases hij : i = j
        · subst hij
          rw [hoj'] at hoi; cases hoi
          exact getD_set_true (hedge' e he hb)
        · rw [getD_set_ne false (Ne.symm hij)] at hli
          exact getD_set_true (hcl i oi hoi hli e he hb)
    unfold wpOp
    rw [hoj]
    simp only
    rcases hF2 with ⟨a1, a2, a3⟩ | ⟨a1, a2⟩
    · rw [wanted_ok hR a1]
      simp only [if_true]
      exact .inl (hop o _ x.2 hdst a2 D Sh act w _ Q hR hnext)
    · rw [wanted_ok hR a1]
      simp only [Bool.false_eq_true, if_false]
      refine hnext D Sh _ w ?_
      rw [a2]
      exact hR.undef hdst
/-- A region. -/
theorem region_ok {A : Type} (hop : AllSound C T K) (hm : C.P.follows .mixedOrders = true) {id : Nat} {all : Array Oper} {draw : Bool} {a : A} {Q : Exit → Act → World → Prop} {st : St} {k : St → Option A} (hok : okOps C.n 0 all.toList = true)
    (h : runOps T K all.toList 0 all.toList st [] (fun st' rs => bif !draw || calm (masks all.toList []) rs then k st' else none) = some a) (hk : ∀ st', k st' = some a → ∀ D Sh act w, Rel C st' D Sh act w → Q .normal act w) :
    ∀ D Sh act w, Rel C st D Sh act w → (Code.region id all draw).wp C.P Q act w := by
  intro D Sh act w hR
  cases draw with
  | false =>
    refine wp_region ?_
    have := seq_ok hop all.toList 0 st [] _ rfl (List.all_eq_true.2 fun o ho => by
      obtain ⟨i, hi⟩ := List.mem_iff_getElem?.1 ho
      exact (okOps_get hok hi).1) h (Q := Q) (fun st' rs' h' => hk st' (by simpa using h')) D Sh act w hR
    rw [Array.length_toList] at this
    rw [List.range_eq_range']
    exact this
  | true =>
    obtain ⟨xs, e1, e2, e3⟩ := ran_of all.toList 0 st [] _ h
    simp only [Bool.not_true, Bool.false_or, List.append_nil] at e2
    cases hc : calm (masks all.toList []) (xs.map (·.1)).reverse with
    | false => rw [hc] at e2; cases e2
    | true =>
      rw [hc] at e2
      simp only [cond_true] at e2
      refine wp_region_any hm ?_
      refine any_ok hop hok e1 (st0 := st) (fun n x o hx ho => ?_) hc (fun D' Sh' act' w' hR' => hk _ e2 D' Sh' act' w' hR') all.size _ D Sh act _ (by simp) ?_ (fun i o hi hl => ?_) ?_
      · have := e3 n x o hx ho
        rw [Nat.zero_add] at this
        exact this
      · unfold left
        refine Nat.le_trans (List.length_filter_le _ _) ?_
        rw [List.length_range]; exact Nat.le_refl _
      · exfalso
        simp [Array.getElem?_replicate] at hl
        split at hl <;> simp at hl
      · rw [Sof_none _ _ _ _ (fun m _ => by simp [Array.getElem?_replicate]; split <;> rfl)]
        exact hR.drew
end
end Go.Proofs.Ytabjfkongckhaaa.Vm
