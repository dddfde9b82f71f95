-- compact
import Derived.Test.YtipaepbmdooekaaGreatPA
namespace Go.Proofs.YtipaepbmdooekaaGreat.Vm
open Go Go.RowKit
set_option linter.unusedVariables false
theorem implMerge_eq (a b : DSketch) (ha : SkR a) (hb : SkR b) : F.impl_Merge a b = some (mergeS a b, true) := by
 have za := zSkR ha
 have zb := zSkR hb
 unfold F.impl_Merge
 rw [implSk_dec a (by omega), implSk_dec b (by omega), decB_pos ha, decB_pos hb, copySketch_eq a (by omega)]
 simp only [Option.bind_some, Bool.not_true, cond_false]
 obtain ⟨p0, p1, ep, lp0, lp1, gp0, gp1, gph, lph, lpr⟩ := skR_len ha
 obtain ⟨q0, q1, eq, lq0, lq1, gq0, gq1, gqh, lqh, lqr⟩ := skR_len hb
 rw [implAdd_eq ha.cnt hb.cnt, implAdd_eq ha.sum hb.sum]
 simp only [Option.bind_some]
 have main : ∀ mn : Int, (afterO (loopO F.impl_Merge.s10 (b.2.2.2.2.1, len b.2.2.2.2.1, 0, b, (0, 0, 0, 0, ([] : List Int), ([] : List Int), ([] : List (List Int)), ()), (adI a.1 b.1, adI a.2.1 b.2.1, mn, mxI a.2.2.2.1 b.2.2.2.1, a.2.2.2.2), ())) fun (x13, x14, x15, x16, x17, x18, _) =>
   afterO (loopO F.impl_Merge.s15 (x16.2.2.2.2.2.1, len x16.2.2.2.2.2.1, 0, x16, x17, x18, ())) fun (x26, x27, x28, x29, x30, x31, _) =>
   afterO (loopO F.impl_Merge.s20 (x29.2.2.2.2.2.2.1, len x29.2.2.2.2.2.2.1, 0, x30, x31, ())) fun (x57, x58, x59, x60, x61, _) =>
   some (x61, true)) = some ((adI a.1 b.1, adI a.2.1 b.2.1, mn, mxI a.2.2.2.1 b.2.2.2.1, List.zipWith adI a.2.2.2.2.1 b.2.2.2.2.1, List.zipWith mxI a.2.2.2.2.2.1 b.2.2.2.2.2.1, [List.zipWith adI p0 q0, List.zipWith adI p1 q1], ()), true) := fun mn => by
  have h1 := iHist_loop b.2.2.2.2.1 b (0, 0, 0, 0, [], [], [], ()) (adI a.1 b.1) (adI a.2.1 b.2.1) mn (mxI a.2.2.2.1 b.2.2.2.1) a.2.2.2.2.1 a.2.2.2.2.2.1 a.2.2.2.2.2.2.1 a.2.2.2.2.2.2.2 gph gqh (by omega) (by omega)
  refine (congrArg (fun z => afterO z _) h1).trans ?_
  have h2 := iRegs_loop b.2.2.2.2.2.1 b (0, 0, 0, 0, [], [], [], ()) (adI a.1 b.1) (adI a.2.1 b.2.1) mn (mxI a.2.2.2.1 b.2.2.2.1) (List.zipWith adI a.2.2.2.2.1 b.2.2.2.2.1) a.2.2.2.2.2.1 a.2.2.2.2.2.2.1 a.2.2.2.2.2.2.2 (by omega) (by omega)
  simp only [afterO]
  rw [h2]
  obtain ⟨e, h3⟩ := iRows_loop p0 p1 q0 q1 (0, 0, 0, 0, [], [], [], ()) (adI a.1 b.1) (adI a.2.1 b.2.1) mn (mxI a.2.2.2.1 b.2.2.2.1) (List.zipWith adI a.2.2.2.2.1 b.2.2.2.2.1) (List.zipWith mxI a.2.2.2.2.2.1 b.2.2.2.2.2.1) () gp0 gp1 gq0 gq1 (by omega) (by omega) (by omega) (by omega)
  simp only [ep, eq]
  rw [h3]
 have fin : ∀ mn : Int, mn = (if b.1 = 0 then a.2.2.1 else if a.1 = 0 then b.2.2.1 else mnI a.2.2.1 b.2.2.1) -> some (((adI a.1 b.1, adI a.2.1 b.2.1, mn, mxI a.2.2.2.1 b.2.2.2.1, List.zipWith adI a.2.2.2.2.1 b.2.2.2.2.1, List.zipWith mxI a.2.2.2.2.2.1 b.2.2.2.2.2.1, [List.zipWith adI p0 q0, List.zipWith adI p1 q1], ()) : DSketch), true) = some (mergeS a b, true) := fun mn e => by
  subst e
  unfold mergeS
  rw [ep, eq]; rfl
 have b0 := hb.cnt
 by_cases h1 : a.1 = 0
 ·rw [show (a.1 == 0) = true by simp [h1]]
  refine (main _).trans (fin _ ?_)
  by_cases h2 : b.1 = 0
  ·rw [if_pos h2]
   have e1 := (ha.zero h1).2; have e2 := (hb.zero h2).2
   have := ha.mn; have := ha.mm; have := hb.mn; have := hb.mm
   omega
  ·rw [if_neg h2, if_pos h1]
 ·rw [show (a.1 == 0) = false by simp [h1]]
  simp only [cond_false]
  by_cases h2 : b.1 = 0
  ·rw [show decide (b.1 > 0) = false from decide_eq_false (by omega)]
   exact (main _).trans (fin _ (by rw [if_pos h2]))
  ·rw [show decide (b.1 > 0) = true from decide_eq_true (by omega)]
   simp only [cond_true]
   by_cases h3 : b.2.2.1 < a.2.2.1
   ·rw [decide_eq_true h3]
    refine (main _).trans (fin _ ?_)
    rw [if_neg h2, if_neg h1]
    unfold mnI
    rw [if_pos h3]
   ·rw [decide_eq_false h3]
    refine (main _).trans (fin _ ?_)
    rw [if_neg h2, if_neg h1]
    unfold mnI
    rw [if_neg h3]
theorem zipM_all {f : Int -> Int -> Int} {P : Int -> Prop} : ∀ {a b : List Int}, (∀ x ∈ a, ∀ y ∈ b, P (f x y)) -> ∀ z ∈ List.zipWith f a b, P z
 | [], _, _, z, hz => by simp at hz
 | _ :: _, [], _, z, hz => by simp at hz
 | x :: a, y :: b, h, z, hz => by
  rw [List.zipWith_cons_cons] at hz
  rcases List.mem_cons.1 hz with rfl | hz
  ·exact h x (by simp) y (by simp)
  ·exact zipM_all (fun x hx y hy => h x (by simp [hx]) y (by simp [hy])) z hz
theorem adI_zero {a b : Int} (ha : rg a) (hb : rg b) : adI a b = 0 ↔ a = 0 /\ b = 0 := by
 unfold rg adI mnI at *
 split <;> simp_all <;> omega
theorem zipAd {c d : Int} (hc : rg c) (hd : rg d) {a b : List Int} (ha : ∀ x ∈ a, (0 <= x /\ x <= 1000000000) /\ (c = 0 -> x = 0)) (hb : ∀ x ∈ b, (0 <= x /\ x <= 1000000000) /\ (d = 0 -> x = 0)) :
  ∀ z ∈ List.zipWith adI a b, (0 <= z /\ z <= 1000000000) /\ (adI c d = 0 -> z = 0) :=
 zipM_all (P := fun z => (0 <= z /\ z <= 1000000000) /\ (adI c d = 0 -> z = 0)) fun x hx y hy => ⟨adI_rg (ha x hx).1 (hb y hy).1, fun e => by
  obtain ⟨e1, e2⟩ := (adI_zero hc hd).1 e
  exact (adI_zero (ha x hx).1 (hb y hy).1).2 ⟨(ha x hx).2 e1, (hb y hy).2 e2⟩⟩
theorem mxI_cases (a b : Int) : mxI a b = a \/ mxI a b = b := by
 unfold mxI
 split
 ·first | exact .inl rfl | exact .inr rfl
 ·first | exact .inr rfl | exact .inl rfl
theorem mxI_ge (a b : Int) : a <= mxI a b /\ b <= mxI a b := by
 unfold mxI
 split <;> simp_all <;> omega
theorem mnI_cases (a b : Int) : mnI a b = a \/ mnI a b = b := by
 unfold mnI
 split
 ·first | exact .inl rfl | exact .inr rfl
 ·first | exact .inr rfl | exact .inl rfl
theorem mnI_le (a b : Int) : mnI a b <= a /\ mnI a b <= b := by
 unfold mnI
 split <;> simp_all <;> omega
theorem mergeS_ok {a b : DSketch} (ha : SkR a) (hb : SkR b) : SkR (mergeS a b) := by
 obtain ⟨p0, p1, ep, ⟨lp0, gp0⟩, ⟨lp1, gp1⟩⟩ := ha.rows
 obtain ⟨q0, q1, eq, ⟨lq0, gq0⟩, ⟨lq1, gq1⟩⟩ := hb.rows
 have hm := mxI_ge a.2.2.2.1 b.2.2.2.1
 have hc := mxI_cases a.2.2.2.1 b.2.2.2.1
 have hn := mnI_le a.2.2.1 b.2.2.1
 have hnc := mnI_cases a.2.2.1 b.2.2.1
 have a1 := ha.mn; have a2 := ha.mm; have a3 := ha.mx
 have b1 := hb.mn; have b2 := hb.mm; have b3 := hb.mx
 refine ⟨adI_rg ha.cnt hb.cnt, adI_rg ha.sum hb.sum, ?_, ?_, ?_, fun e => ?_, ⟨?_, zipAd ha.cnt hb.cnt ha.hist.2 hb.hist.2⟩, ⟨?_, ?_⟩, ⟨List.zipWith adI p0 q0, List.zipWith adI p1 q1, ?_, ⟨?_, zipAd ha.cnt hb.cnt gp0 gq0⟩, ⟨?_, zipAd ha.cnt hb.cnt gp1 gq1⟩⟩⟩
 ·show 0 <= (if b.1 = 0 then a.2.2.1 else if a.1 = 0 then b.2.2.1 else mnI a.2.2.1 b.2.2.1)
  (repeat' split) <;> omega
 ·show (if b.1 = 0 then a.2.2.1 else if a.1 = 0 then b.2.2.1 else mnI a.2.2.1 b.2.2.1) <= mxI a.2.2.2.1 b.2.2.2.1
  (repeat' split) <;> omega
 ·show mxI a.2.2.2.1 b.2.2.2.1 <= 1000000
  omega
 ·obtain ⟨e1, e2⟩ := (adI_zero ha.cnt hb.cnt).1 (show adI a.1 b.1 = 0 from e)
  have z1 := ha.zero e1; have z2 := hb.zero e2
  refine ⟨(adI_zero ha.sum hb.sum).2 ⟨z1.1, z2.1⟩, ?_⟩
  show mxI a.2.2.2.1 b.2.2.2.1 = 0
  omega
 ·show (List.zipWith adI a.2.2.2.2.1 b.2.2.2.2.1).length = 8
  rw [List.length_zipWith, ha.hist.1, hb.hist.1]; rfl
 ·show (List.zipWith mxI a.2.2.2.2.2.1 b.2.2.2.2.2.1).length = 8
  rw [List.length_zipWith, ha.regs.1, hb.regs.1]; rfl
 ·exact zipM_all (P := fun z => (0 <= z /\ z <= 17) /\ (adI a.1 b.1 = 0 -> z = 0)) fun x hx y hy => by
   have := mxI_cases x y
   have h1 := ha.regs.2 x hx; have h2 := hb.regs.2 y hy
   refine ⟨by omega, fun e => ?_⟩
   obtain ⟨e1, e2⟩ := (adI_zero ha.cnt hb.cnt).1 e
   have := h1.2 e1; have := h2.2 e2
   omega
 ·show [List.zipWith adI (a.2.2.2.2.2.2.1.getD 0 []) (b.2.2.2.2.2.2.1.getD 0 []), List.zipWith adI (a.2.2.2.2.2.2.1.getD 1 []) (b.2.2.2.2.2.2.1.getD 1 [])] = _
  rw [ep, eq]; rfl
 ·rw [List.length_zipWith, lp0, lq0]; rfl
 ·rw [List.length_zipWith, lp1, lq1]; rfl
theorem spSet_eq (a : List DSpan) (h : a.length <= 1048576) : F.spec_l5Copy a = some a := by
 unfold F.spec_l5Copy
 simp only [List.length_nil, List.nil_append, Nat.zero_add]
 rw [fits_of (by omega)]; rfl
theorem imSet_eq (a : List DSpan) (h : a.length <= 1048576) : F.impl_copySet a = some a := by
 unfold F.impl_copySet
 rw [fits_of (by omega)]; rfl
theorem l6Copy_eq (e : DEntry) (h : zEntry e <= 1048576) : F.spec_l6Copy e = some e := by
 have hz : e.2.2.1.length + zSketch e.2.2.2.1 <= 1048576 := h
 unfold F.spec_l6Copy
 rw [spSet_eq _ (by omega), l3Copy_eq _ (by omega)]; rfl
theorem copyEntry_eq (e : DEntry) (h : zEntry e <= 1048576) : F.impl_copyEntry e = some e := by
 have hz : e.2.2.1.length + zSketch e.2.2.2.1 <= 1048576 := h
 unfold F.impl_copyEntry
 rw [imSet_eq _ (by omega), copySketch_eq _ (by omega)]; rfl
theorem zEnR {e : DEntry} (h : EnR e) : zEntry e <= 5027 := by
 have h1 : e.2.2.1.length <= 5001 := okF_small (good_ok.1 h.ids)
 have h2 := zSkR h.sk
 show e.2.2.1.length + zSketch e.2.2.2.1 <= 5027
 omega
def addE (a b : DEntry) : DEntry := (a.1, a.2.1, joinS a.2.2.1 b.2.2.1, mergeS a.2.2.2.1 b.2.2.2.1, ())
theorem joinS_ne {a b : List Sp} (ha : Good a) (hb : Good b) (h0 : a ≠ []) : joinS a b ≠ [] := by
 intro e
 cases a with
 | nil => exact h0 rfl
 | cons x l =>
  have hx := okF_all (good_ok.1 ha) x (by simp)
  have := (joinS_mem (n := x.1) (good_ok.1 ha) (okF_ends (good_ok.1 hb))).2 (.inl ⟨x, by simp, Int.le_refl _, hx.2.1⟩)
  rw [e] at this
  exact memS_nil this
theorem addE_ok {a b : DEntry} (ha : EnR a) (hb : EnR b) : EnR (addE a b) :=
 ⟨ha.key, ha.win, good_ok.2 (joinS_ok (good_ok.1 ha.ids) (okF_ends (good_ok.1 hb.ids))), joinS_ne ha.ids hb.ids ha.some, mergeS_ok ha.sk hb.sk⟩
theorem l6Add_eq {a b : DEntry} (ha : EnR a) (hb : EnR b) : F.spec_l6Add a b = some (addE a b) := by
 have h2 : b.2.2.1.length <= 5001 := okF_small (good_ok.1 hb.ids)
 unfold F.spec_l6Add
 rw [l5Join_eq _ _ (good_ok.1 ha.ids) (okF_ends (good_ok.1 hb.ids)) (by omega), l3Merge_eq _ _ ha.sk hb.sk]; rfl
theorem apB_iff {a b : List Sp} (ha : ∀ x ∈ a, x.1 <= x.2.1) (hb : ∀ y ∈ b, y.1 <= y.2.1) : apB a b = true ↔ ∀ n, memS a n -> ¬ memS b n := by
 unfold apB
 rw [List.all_eq_true]
 constructor
 ·rintro h n ⟨x, hx, h1, h2⟩ ⟨y, hy, h3, h4⟩
  have := h x hx
  rw [List.all_eq_true] at this
  have := this y hy
  unfold ap1 at this
  rw [show decide (x.1 <= y.2.1) = true from decide_eq_true (by omega), show decide (y.1 <= x.2.1) = true from decide_eq_true (by omega)] at this
  cases this
 ·intro h x hx
  rw [List.all_eq_true]
  intro y hy
  unfold ap1
  have h1 := ha x hx
  have h2 := hb y hy
  by_cases c1 : x.1 <= y.2.1
  ·by_cases c2 : y.1 <= x.2.1
   ·exfalso
    rcases Int.le_total x.1 y.1 with c | c
    ·exact h y.1 ⟨x, hx, c, c2⟩ ⟨y, hy, Int.le_refl _, h2⟩
    ·exact h x.1 ⟨x, hx, Int.le_refl _, h1⟩ ⟨y, hy, c, c1⟩
   ·rw [decide_eq_false c2, Bool.and_false]; rfl
  ·rw [decide_eq_false c1]; rfl
theorem good_le {a : List Sp} (h : Good a) : ∀ x ∈ a, x.1 <= x.2.1 := fun x hx => (okF_all (good_ok.1 h) x hx).2.1
theorem good_join {a b : List Sp} (ha : Good a) (hb : Good b) : Good (joinS a b) := good_ok.2 (joinS_ok (good_ok.1 ha) (okF_ends (good_ok.1 hb)))
theorem apB_join {a b c : List Sp} (ha : Good a) (hb : Good b) (hc : Good c) : apB (joinS a b) c = true ↔ apB a c = true /\ apB b c = true := by
 rw [apB_iff (good_le (good_join ha hb)) (good_le hc), apB_iff (good_le ha) (good_le hc), apB_iff (good_le hb) (good_le hc)]
 constructor
 ·intro h
  exact ⟨fun n h1 => h n ((joinS_mem (good_ok.1 ha) (okF_ends (good_ok.1 hb))).2 (.inl h1)), fun n h1 => h n ((joinS_mem (good_ok.1 ha) (okF_ends (good_ok.1 hb))).2 (.inr h1))⟩
 ·rintro ⟨h1, h2⟩ n h3
  rcases (joinS_mem (good_ok.1 ha) (okF_ends (good_ok.1 hb))).1 h3 with h | h
  ·exact h1 n h
  ·exact h2 n h
def apRow (l : List DEntry) (ids : List Sp) : Bool := l.all fun x => apB x.2.2.1 ids
theorem l10Apart_eq (r : DRow) (e : DEntry) (hr : RoR r) (he : EnR e) : F.spec_l10Apart r e.2.2.1 = some (apRow r.1 e.2.2.1) := by
 unfold F.spec_l10Apart
 have hf := hr.few
 have h2 : e.2.2.1.length <= 5001 := okF_small (good_ok.1 he.ids)
 have hh := loop_all (step := F.spec_l10Apart.s2) r.1 (fun i => (e.2.2.1, (i : Int), r, ())) (fun x => apB x.2.2.1 e.2.2.1) false (fun i hi => by
  have hx := hr.ok.all _ (List.getElem_mem hi)
  have h1 : r.1[i].2.2.1.length <= 5001 := okF_small (good_ok.1 hx.ids)
  unfold F.spec_l10Apart.s2
  simp only
  rw [lt_len hi, inb_nat hi, Int.toNat_natCast, getD_at hi, specApart_eq _ _ (by omega) (by omega), decB_pos hx.ids, decB_pos he.ids, w64_nat (by omega)]
  simp only [cond_true, chk_true, Option.bind_some, Bool.true_and]
  cases apB r.1[i].2.2.1 e.2.2.1 <;> rfl) (by
  unfold F.spec_l10Apart.s2
  simp only [ge_len, cond_false])
 refine (congrArg (fun z => afterO z _) hh).trans ?_
 unfold apRow
 cases r.1.all (fun x => apB x.2.2.1 e.2.2.1) <;> rfl
def atP (k w : Int) (x : DEntry) : Bool := x.1 == k && x.2.1 == w
theorem placeOf_eq (l : List DEntry) (k w : Int) (hn : l.length <= 1048576) : F.impl_placeOf l k w = some (match l.findIdx? (atP k w) with
  | some i => (i : Int)
  | none => -1) := by
 unfold F.impl_placeOf F.slices_IndexFunc_Entry__impl_placeOf_1
 have step : ∀ i (hi : i < l.length), F.slices_IndexFunc_Entry__impl_placeOf_1.s2 (l, (k, w, ()), len l, (i : Int), ()) = some (if atP k w l[i] = true then .ret (i : Int) else .again (l, (k, w, ()), len l, ((i + 1 : Nat) : Int), ())) := fun i hi => by
  unfold F.slices_IndexFunc_Entry__impl_placeOf_1.s2 F.impl_placeOf_1
  simp only
  rw [lt_len hi, inb_nat hi, Int.toNat_natCast, getD_at hi, w64_nat (by omega)]
  simp only [cond_true, chk_true]
  unfold atP
  cases (l[i].1 == k) <;> cases (l[i].2.1 == w) <;> rfl
 have key : ∀ (m p : List DEntry), p ++ m = l -> iterO F.slices_IndexFunc_Entry__impl_placeOf_1.s2 (m.length + 1) (l, (k, w, ()), len l, (p.length : Int), ()) = some (match m.findIdx? (atP k w) with
   | some i => .inr ((p.length + i : Nat) : Int)
   | none => .inl (l, (k, w, ()), len l, (l.length : Int), ())) := by
  intro m
  induction m with
  | nil =>
   intro p hp
   have hp : p = l := by simpa using hp
   subst hp
   have : F.slices_IndexFunc_Entry__impl_placeOf_1.s2 (p, (k, w, ()), len p, (p.length : Int), ()) = some (.exit (p, (k, w, ()), len p, (p.length : Int), ())) := by
    unfold F.slices_IndexFunc_Entry__impl_placeOf_1.s2
    simp only [ge_len, cond_false]
   rw [iterO, this]; rfl
  | cons x m ih =>
   intro p hp
   have hi : p.length < l.length := by rw [<- hp]; simp
   have hx : l[p.length] = x := by subst hp; simp
   rw [iterO, step _ hi, hx, List.findIdx?_cons]
   cases h : atP k w x with
   | true => simp
   | false =>
    have q := ih (p ++ [x]) (by rw [<- hp]; simp)
    rw [List.length_append] at q
    simp only [Bool.false_eq_true, if_false, List.length_cons]
    rw [show ((p.length + 1 : Nat) : Int) = ((p.length + [x].length : Nat) : Int) from rfl, q]
    cases List.findIdx? (atP k w) m with
    | none => rfl
    | some i =>
     simp only [Option.map_some, List.length_cons, List.length_nil]
     congr 2; omega
 have hh := loopO_of (key l [] rfl)
 have hh : loopO F.slices_IndexFunc_Entry__impl_placeOf_1.s2 (l, (k, w, ()), len l, 0, ()) = _ := hh
 simp only
 rw [hh]
 cases l.findIdx? (atP k w) with
 | none => rfl
 | some i => simp [afterO]
theorem atP_iff {k w : Int} {x : DEntry} : atP k w x = true ↔ x.1 = k /\ x.2.1 = w := by
 unfold atP
 rw [Bool.and_eq_true, beq_iff_eq, beq_iff_eq]
theorem entryAdd_eq {a b : DEntry} (ha : EnR a) (hb : EnR b) (h1 : a.1 = b.1) (h2 : a.2.1 = b.2.1) : F.impl_EntryAdd a b = some (bif apB a.2.2.1 b.2.2.1 then (addE a b, true) else ((0, 0, [], (0, 0, 0, 0, [], [], [], ()), ()), false)) := by
 have za := zEnR ha
 have zb := zEnR hb
 have la : a.2.2.1.length <= 5001 := okF_small (good_ok.1 ha.ids)
 have lb : b.2.2.1.length <= 5001 := okF_small (good_ok.1 hb.ids)
 unfold F.impl_EntryAdd
 rw [implEn_dec a (by omega), implEn_dec b (by omega), decB_pos ha, decB_pos hb, show (a.1 != b.1) = false by simp [h1], show (a.2.1 != b.2.1) = false by simp [h2], implApart_eq _ _ (by omega) (by omega), decB_pos ha.ids, decB_pos hb.ids]
 simp only [Option.bind_some, Bool.not_true, cond_false, Bool.true_and]
 cases apB a.2.2.1 b.2.2.1 with
 | false => rfl
 | true =>
  have hj : F.impl_SetJoin a.2.2.1 b.2.2.1 = some (joinS a.2.2.1 b.2.2.1, true) := by
   unfold F.impl_SetJoin
   rw [implSet_dec _ (by omega), implSet_dec _ (by omega), decB_pos ha.ids, decB_pos hb.ids, copySet_big _ (by omega)]
   simp only [Option.bind_some, Bool.not_true, cond_false]
   rw [fits_of (by omega), union_join _ _ (by rw [List.length_append]; omega) (good_ok.1 ha.ids) (okF_ends (good_ok.1 hb.ids))]
   rfl
  simp only [Bool.not_true, cond_false, hj, implMerge_eq _ _ ha.sk hb.sk, Option.bind_some]
  rfl
theorem zEnL : ∀ m : List DEntry, (∀ x ∈ m, EnR x) -> zEntryS m <= 5028 * m.length := by
 intro m
 unfold zEntryS
 induction m with
 | nil => intro _; simp
 | cons x m ih =>
  intro h
  have h1 := zEnR (h x (by simp))
  have h2 := ih (fun y hy => h y (by simp [hy]))
  simp only [List.map_cons, List.sum_cons, List.length_cons]
  omega
theorem l10Copy_eq (r : DRow) (h : zRow r <= 1048576) : F.spec_l10Copy r = some r := by
 have hz : zEntryS r.1 <= 1048576 := h
 have hn : r.1.length <= 1048576 := by unfold zEntryS at hz; omega
 unfold F.spec_l10Copy
 have hh := loop_run (step := F.spec_l10Copy.s3) (fun i => ((i : Int), r, ([], ()), (r.1.take i, ()), ())) r.1.length (fun i hi => by
  unfold F.spec_l10Copy.s3
  simp only
  rw [lt_len hi, inb_nat hi, Int.toNat_natCast, getD_at hi, l6Copy_eq _ (zE_mem hz (List.getElem_mem hi)), w64_nat (by omega)]
  simp only [cond_true, chk_true, Option.bind_some, List.length_cons, List.length_nil, List.length_take]
  rw [fits_of (by omega), take_snoc hi]; rfl) (l := .exit (((r.1.length : Nat) : Int), r, ([], ()), (r.1.take r.1.length, ()), ())) (by
  unfold F.spec_l10Copy.s3
  simp only [ge_len, cond_false]) rfl
 rw [List.take_length] at hh
 exact (congrArg (fun z => afterO z _) hh).trans rfl
theorem copyRow_eq (r : DRow) (h : zRow r <= 1048576) : F.impl_copyRow r = some r := by
 have hz : zEntryS r.1 <= 1048576 := h
 have hn : r.1.length <= 1048576 := by unfold zEntryS at hz; omega
 unfold F.impl_copyRow
 have hc : F.impl_copyEntries r.1 = some r.1 := by
  unfold F.impl_copyEntries
  have hh := loop_run (step := F.impl_copyEntries.s3) (fun i => (r.1.take i, r.1, len r.1, (i : Int), ())) r.1.length (fun i hi => by
   unfold F.impl_copyEntries.s3
   simp only
   rw [lt_len hi, inb_nat hi, Int.toNat_natCast, getD_at hi, copyEntry_eq _ (zE_mem hz (List.getElem_mem hi)), w64_nat (by omega)]
   simp only [cond_true, chk_true, Option.bind_some, List.length_cons, List.length_nil, List.length_take]
   rw [fits_of (by omega), take_snoc hi]; rfl) (l := .exit (r.1.take r.1.length, r.1, len r.1, ((r.1.length : Nat) : Int), ())) (by
   unfold F.impl_copyEntries.s3
   simp only [ge_len, cond_false]) rfl
  rw [List.take_length] at hh
  exact (congrArg (fun z => afterO z _) hh).trans rfl
 rw [hc]; rfl
theorem apB_sym {a b : List Sp} : apB a b = true ↔ apB b a = true := by rw [apB_comm]
theorem ror_app {r : DRow} {e : DEntry} (hr : RoR r) (he : EnR e) : RoR (r.1 ++ [e], r.2) ↔ r.1.length + 1 <= 24 /\ apRow r.1 e.2.2.1 = true := by
 constructor
 ·rintro ⟨h1, h2⟩
  simp only [List.length_append, List.length_cons, List.length_nil] at h1
  refine ⟨by omega, ?_⟩
  unfold apRow
  rw [List.all_eq_true]
  intro x hx
  rw [apB_sym]
  exact (List.pairwise_append.1 h2.ap).2.2 x hx e (by simp)
 ·rintro ⟨h1, h2⟩
  unfold apRow at h2
  rw [List.all_eq_true] at h2
  refine ⟨by simpa using h1, fun x hx => ?_, List.pairwise_append.2 ⟨hr.ok.ap, List.pairwise_singleton _ _, fun x hx y hy => ?_⟩⟩
  ·rcases List.mem_append.1 (show x ∈ r.1 ++ [e] from hx) with h | h
   ·exact hr.ok.all x h
   ·rw [List.mem_singleton.1 h]; exact he
  ·rw [List.mem_singleton.1 hy, apB_sym]
   exact h2 x hx
theorem ror_set {r : DRow} {e : DEntry} (hr : RoR r) (he : EnR e) {k : Nat} (hk : k < r.1.length) (hap : apB r.1[k].2.2.1 e.2.2.1 = true) : RoR (r.1.set k (addE r.1[k] e), r.2) ↔ apRow r.1 e.2.2.1 = true := by
 have hek := hr.ok.all _ (List.getElem_mem hk)
 have hpw := List.pairwise_iff_getElem.1 hr.ok.ap
 have both : ∀ i j (hi : i < r.1.length) (hj : j < r.1.length), i ≠ j -> apB r.1[i].2.2.1 r.1[j].2.2.1 = true := fun i j hi hj hij => by
  rcases Nat.lt_or_gt_of_ne hij with h | h
  ·rw [apB_sym]; exact hpw i j hi hj h
  ·exact hpw j i hj hi h
 have jn : ∀ j (hj : j < r.1.length), j ≠ k -> (apB (addE r.1[k] e).2.2.1 r.1[j].2.2.1 = true ↔ apB r.1[j].2.2.1 e.2.2.1 = true) := fun j hj hjk => by
  have hx := hr.ok.all _ (List.getElem_mem hj)
  show apB (joinS r.1[k].2.2.1 e.2.2.1) r.1[j].2.2.1 = true ↔ _
  rw [apB_join hek.ids he.ids hx.ids]
  constructor
  ·intro h; rw [apB_sym]; exact h.2
  ·intro h; exact ⟨both k j hk hj (Ne.symm hjk), by rw [apB_sym]; exact h⟩
 unfold apRow
 rw [List.all_eq_true]
 constructor
 ·rintro ⟨h1, h2⟩ x hx
  obtain ⟨j, hj, rfl⟩ := List.getElem_of_mem hx
  by_cases e1 : j = k
  ·subst e1; exact hap
  ·have h3 := List.pairwise_iff_getElem.1 h2.ap
   have hjs : j < (r.1.set k (addE r.1[k] e)).length := by rw [List.length_set]; exact hj
   have hks : k < (r.1.set k (addE r.1[k] e)).length := by rw [List.length_set]; exact hk
   rcases Nat.lt_or_gt_of_ne e1 with h | h
   ·have := h3 j k hjs hks h
    simp only [List.getElem_set_self, List.getElem_set_ne (Ne.symm e1)] at this
    exact (jn j hj e1).1 this
   ·have := h3 k j hks hjs h
    simp only [List.getElem_set_self, List.getElem_set_ne (Ne.symm e1)] at this
    rw [apB_sym] at this
    exact (jn j hj e1).1 this
 ·intro h
  refine ⟨by simp only [List.length_set]; exact hr.few, fun x hx => ?_, List.pairwise_iff_getElem.2 fun i j hi hj hij => ?_⟩
  ·rcases List.mem_or_eq_of_mem_set (show x ∈ r.1.set k (addE r.1[k] e) from hx) with h1 | rfl
   ·exact hr.ok.all x h1
   ·exact addE_ok hek he
  ·have hi' : i < r.1.length := by rw [List.length_set] at hi; exact hi
   have hj' : j < r.1.length := by rw [List.length_set] at hj; exact hj
   simp only [List.getElem_set]
   by_cases e1 : k = i
   ·subst e1
    rw [if_pos rfl, if_neg (by omega), apB_sym]
    exact (jn j hj' (by omega)).2 (h _ (List.getElem_mem hj'))
   ·by_cases e2 : k = j
    ·subst e2
     rw [if_pos rfl, if_neg e1]
     exact (jn i hi' (by omega)).2 (h _ (List.getElem_mem hi'))
    ·rw [if_neg e1, if_neg e2]
     exact hpw i j hi' hj' hij
def pushed (r : DRow) (e : DEntry) (j : Bool) : DRow × Bool := match (bif j then r.1.findIdx? (atP e.1 e.2.1) else none) with
 | some k => ((r.1.set k (addE (r.1.getD k e) e), r.2), true)
 | none => if r.1.length = 24 then (r, false) else ((r.1 ++ [e], r.2), true)
theorem push_loop (r : DRow) (e : DEntry) (hr : RoR r) (he : EnR e) (t : DRow) : loopO F.spec_RowPush.s5 (true, 0, r, e, t, r, ()) = some (match r.1.findIdx? (atP e.1 e.2.1) with
  | some k => .inr ((r.1.set k (addE (r.1.getD k e) e), r.2), true)
  | none => .inl (true, (r.1.length : Int), r, e, t, r, ())) := by
 have hf := hr.few
 have step : ∀ i (hi : i < r.1.length), F.spec_RowPush.s5 (true, (i : Int), r, e, t, r, ()) = some (if atP e.1 e.2.1 r.1[i] = true then .ret ((r.1.set i (addE r.1[i] e), r.2), true) else .again (true, ((i + 1 : Nat) : Int), r, e, t, r, ())) := fun i hi => by
  have hx := hr.ok.all _ (List.getElem_mem hi)
  unfold F.spec_RowPush.s5
  simp only
  rw [lt_len hi, inb_nat hi, Int.toNat_natCast, getD_at hi, w64_nat (by omega), l6Add_eq hx he]
  simp only [cond_true, chk_true, Option.bind_some]
  unfold atP
  cases (r.1[i].1 == e.1) <;> cases (r.1[i].2.1 == e.2.1) <;> rfl
 have key : ∀ (m p : List DEntry), p ++ m = r.1 -> iterO F.spec_RowPush.s5 (m.length + 1) (true, (p.length : Int), r, e, t, r, ()) = some (match m.findIdx? (atP e.1 e.2.1) with
   | some k => .inr ((r.1.set (p.length + k) (addE (r.1.getD (p.length + k) e) e), r.2), true)
   | none => .inl (true, (r.1.length : Int), r, e, t, r, ())) := by
  intro m
  induction m with
  | nil =>
   intro p hp
   have hp : p = r.1 := by simpa using hp
   have : F.spec_RowPush.s5 (true, (p.length : Int), r, e, t, r, ()) = some (.exit (true, (r.1.length : Int), r, e, t, r, ())) := by
    rw [hp]
    unfold F.spec_RowPush.s5
    simp only [ge_len, cond_false]
   rw [List.length_nil, iterO, this]; rfl
  | cons x m ih =>
   intro p hp
   have hi : p.length < r.1.length := by rw [<- hp]; simp
   have hx : r.1[p.length] = x := by
    have : r.1[p.length]'hi = (p ++ x :: m)[p.length]'(by simp) := by congr 1; exact hp.symm
    rw [this]; simp
   rw [iterO, step _ hi, hx, List.findIdx?_cons]
   cases h : atP e.1 e.2.1 x with
   | true =>
    simp only [if_true, Nat.add_zero]
    rw [getD_at hi, hx]
   | false =>
    have q := ih (p ++ [x]) (by rw [<- hp]; simp)
    rw [List.length_append] at q
    simp only [Bool.false_eq_true, if_false, List.length_cons]
    rw [show ((p.length + 1 : Nat) : Int) = ((p.length + [x].length : Nat) : Int) from rfl, q]
    cases List.findIdx? (atP e.1 e.2.1) m with
    | none => rfl
    | some i =>
     simp only [Option.map_some, List.length_cons, List.length_nil]
     rw [show p.length + (0 + 1) + i = p.length + (i + 1) by omega]
 have hh := loopO_of (key r.1 [] rfl)
 have hh : loopO F.spec_RowPush.s5 (true, 0, r, e, t, r, ()) = _ := hh
 rw [hh]
 cases r.1.findIdx? (atP e.1 e.2.1) with
 | none => rfl
 | some k => simp
theorem find_at {l : List DEntry} {k w : Int} {i : Nat} (h : l.findIdx? (atP k w) = some i) : ∃ hi : i < l.length, l[i].1 = k /\ l[i].2.1 = w := by
 obtain ⟨hi, h1, _⟩ := List.findIdx?_eq_some_iff_getElem.1 h
 exact ⟨hi, atP_iff.1 h1⟩
theorem specPush_eq (r : DRow) (e : DEntry) (j : Bool) (h : zRow r <= 1048576) (h' : zEntry e <= 1048576) : F.spec_RowPush r e j = some (bif decB (RoR r /\ EnR e /\ apRow r.1 e.2.2.1 = true) then pushed r e j else (r, false)) := by
 unfold F.spec_RowPush
 rw [l10Copy_eq r h, specRow_dec r h, specEn_dec e h']
 simp only [Option.bind_some]
 by_cases hr : RoR r
 case neg => rw [decB_neg hr, decB_neg (show ¬ (RoR r /\ EnR e /\ apRow r.1 e.2.2.1 = true) from fun hh => hr hh.1)]; rfl
 by_cases he : EnR e
 case neg => rw [decB_pos hr, decB_neg he, decB_neg (show ¬ (RoR r /\ EnR e /\ apRow r.1 e.2.2.1 = true) from fun hh => he hh.2.1)]; rfl
 rw [decB_pos hr, decB_pos he, l10Apart_eq r e hr he]
 simp only [Option.bind_some, Bool.not_true, cond_false]
 cases ha : apRow r.1 e.2.2.1 with
 | false => rw [decB_neg (fun hh => by cases hh.2.2)]; rfl
 | true =>
  rw [decB_pos ⟨hr, he, rfl⟩]
  have hf := hr.few
  have tail : (bif (len r.1 == 24) then some (r, false) else (F.spec_l6Copy e).bind fun r18 => chk (fits (List.length r.1 + List.length ([r18])) 144) <| some ((r.1 ++ ([r18]), r.2), true)) = some (if r.1.length = 24 then (r, false) else ((r.1 ++ [e], r.2), true)) := by
   rw [l6Copy_eq e h']
   by_cases h24 : r.1.length = 24
   ·rw [show (len r.1 == 24) = true by simp [len, h24], if_pos h24]; rfl
   ·rw [show (len r.1 == 24) = false by simp only [len, beq_eq_false_iff_ne, ne_eq]; omega, if_neg h24]
    simp only [cond_false, Option.bind_some, List.length_cons, List.length_nil]
    rw [fits_of (by omega)]; rfl
  simp only [Bool.not_true, cond_false, cond_true]
  unfold pushed
  cases j with
  | true =>
   rw [push_loop r e hr he ([], ())]
   simp only [cond_true]
   cases r.1.findIdx? (atP e.1 e.2.1) with
   | some k => rfl
   | none => exact tail
  | false =>
   simp only [cond_false]
   have hex : F.spec_RowPush.s5 (false, 0, r, e, ([], ()), r, ()) = some (.exit (false, 0, r, e, ([], ()), r, ())) := by
    unfold F.spec_RowPush.s5
    simp only
    cases decide ((0 : Int) < len r.1) <;> rfl
   have hh : loopO F.spec_RowPush.s5 (false, 0, r, e, ([], ()), r, ()) = some (.inl (false, 0, r, e, ([], ()), r, ())) := loopO_of (n := 1) (by rw [iterO, hex])
   rw [hh]
   exact tail
theorem implPush_eq (r : DRow) (e : DEntry) (j : Bool) (h : zRow r <= 1048576) (h' : zEntry e <= 1048576) : F.impl_RowPush r e j = some (bif decB (RoR r /\ EnR e /\ apRow r.1 e.2.2.1 = true) then pushed r e j else (r, false)) := by
 unfold F.impl_RowPush
 rw [copyRow_eq r h, implRow_dec r h, implEn_dec e h']
 simp only [Option.bind_some]
 by_cases hr : RoR r
 case neg => rw [decB_neg hr, decB_neg (show ¬ (RoR r /\ EnR e /\ apRow r.1 e.2.2.1 = true) from fun hh => hr hh.1)]; rfl
 by_cases he : EnR e
 case neg => rw [decB_pos hr, decB_neg he, decB_neg (show ¬ (RoR r /\ EnR e /\ apRow r.1 e.2.2.1 = true) from fun hh => he hh.2.1)]; rfl
 have hf := hr.few
 have hz := zEnL r.1 hr.ok.all
 have hze := zEnR he
 have hzs : zEntryS (r.1 ++ [e]) <= 1048576 := by
  have := zEnL (r.1 ++ [e]) (fun x hx => by
   rcases List.mem_append.1 hx with h1 | h1
   ·exact hr.ok.all x h1
   ·rw [List.mem_singleton.1 h1]; exact he)
  rw [List.length_append] at this
  simp only [List.length_cons, List.length_nil] at this
  omega
 have tail : (chk (fits (List.length r.1 + List.length [e]) 144) <| (F.impl_RowOk (r.1 ++ [e], r.2)).bind fun r11 => bif !r11 then some (r, false) else some ((r.1 ++ [e], r.2), true)) = some (bif decB (RoR r /\ EnR e /\ apRow r.1 e.2.2.1 = true) then (if r.1.length = 24 then (r, false) else ((r.1 ++ [e], r.2), true)) else (r, false)) := by
  simp only [List.length_cons, List.length_nil]
  rw [fits_of (by omega), implRow_dec (r.1 ++ [e], r.2) hzs]
  simp only [chk_true, Option.bind_some]
  by_cases hq : RoR (r.1 ++ [e], r.2)
  ·obtain ⟨q1, q2⟩ := (ror_app hr he).1 hq
   rw [decB_pos hq, decB_pos ⟨hr, he, q2⟩, if_neg (by omega)]; rfl
  ·rw [decB_neg hq]
   by_cases ha : apRow r.1 e.2.2.1 = true
   ·rw [decB_pos ⟨hr, he, ha⟩, if_pos]
    ·rfl
    ·have : ¬ (r.1.length + 1 <= 24) := fun h1 => hq ((ror_app hr he).2 ⟨h1, ha⟩)
     omega
   ·rw [decB_neg (fun hh => ha hh.2.2)]; rfl
 rw [decB_pos hr, decB_pos he, placeOf_eq _ _ _ (by omega), copyEntry_eq e h']
 simp only [Option.bind_some, Bool.not_true, cond_false]
 unfold pushed
 cases j with
 | false => exact tail
 | true =>
  simp only [cond_true]
  cases hk : r.1.findIdx? (atP e.1 e.2.1) with
  | none =>
   rw [show decide ((-1 : Int) >= 0) = false from rfl]
   exact tail
  | some k =>
   obtain ⟨hi, h1, h2⟩ := find_at hk
   have hek := hr.ok.all _ (List.getElem_mem hi)
   simp only
   rw [show decide (((k : Nat) : Int) >= 0) = true from decide_eq_true (by omega), inb_nat hi, Int.toNat_natCast, getD_at hi, entryAdd_eq hek he h1 h2]
   simp only [cond_true, chk_true, Option.bind_some]
   have hgd : r.1.getD k e = r.1[k] := getD_at hi
   rw [hgd]
   cases hap : apB r.1[k].2.2.1 e.2.2.1 with
   | false =>
    have : ¬ (RoR r /\ EnR e /\ apRow r.1 e.2.2.1 = true) := fun hh => by
     have h3 := hh.2.2
     unfold apRow at h3
     rw [List.all_eq_true] at h3
     have := h3 _ (List.getElem_mem hi)
     rw [hap] at this; cases this
    rw [decB_neg this]; rfl
   | true =>
    have hzt : zEntryS (r.1.set k (addE r.1[k] e)) <= 1048576 := by
     have := zEnL (r.1.set k (addE r.1[k] e)) (fun x hx => by
      rcases List.mem_or_eq_of_mem_set hx with h1 | rfl
      ·exact hr.ok.all x h1
      ·exact addE_ok hek he)
     rw [List.length_set] at this
     omega
    simp only [cond_true, Bool.not_true, cond_false]
    rw [implRow_dec (r.1.set k (addE r.1[k] e), r.2) hzt]
    simp only [Option.bind_some]
    by_cases hq : RoR (r.1.set k (addE r.1[k] e), r.2)
    ·rw [decB_pos hq, decB_pos ⟨hr, he, (ror_set hr he hi hap).1 hq⟩]; rfl
    ·rw [decB_neg hq, decB_neg (fun hh => hq ((ror_set hr he hi hap).2 hh.2.2))]; rfl
theorem set_split {α : Type} {l : List α} {k : Nat} (h : k < l.length) : ∃ A B, l = A ++ l[k] :: B /\ ∀ y, l.set k y = A ++ y :: B :=
 ⟨l.take k, l.drop (k + 1), by rw [<- List.drop_eq_getElem_cons h, List.take_append_drop], fun y => by rw [List.set_eq_take_append_cons_drop, if_pos h]⟩
theorem getD_set_ne {α : Type} {l : List α} {k j : Nat} (h : k ≠ j) (y d : α) : (l.set k y).getD j d = l.getD j d := by
 rw [List.getD_eq_getElem?_getD, List.getElem?_set_ne h, <- List.getD_eq_getElem?_getD]
theorem getD_set_eq {α : Type} {l : List α} {k : Nat} (h : k < l.length) (y d : α) : (l.set k y).getD k d = y := by
 rw [List.getD_eq_getElem?_getD, List.getElem?_set_self h]; rfl
theorem mem_idsL {l : List DEntry} {n : Int} : memS (idsL l) n ↔ ∃ e ∈ l, memS e.2.2.1 n := by
 unfold memS idsL
 constructor
 ·rintro ⟨x, hx, h⟩
  obtain ⟨e, he, hx⟩ := List.mem_flatMap.1 hx
  exact ⟨e, he, x, hx, h⟩
 ·rintro ⟨e, he, x, hx, h⟩
  exact ⟨x, List.mem_flatMap.2 ⟨e, he, hx⟩, h⟩
theorem mem_join0 {l : List Sp} (h : ends l) (n : Int) : memS (joinS [] l) n ↔ memS l n := by
 rw [joinS_mem (show okF 0 ([] : List Sp) from trivial) h]
 exact ⟨fun h => h.elim (fun h => absurd h memS_nil) id, .inr⟩
theorem rng_iff {S : List Sp} (h : ∀ x ∈ S, x.1 <= x.2.1) {lo hi : Int} : Rng S lo hi ↔ ∀ n, memS S n -> lo <= n /\ n <= hi := by
 constructor
 ·rintro hr n ⟨x, hx, h1, h2⟩
  have := hr x hx
  omega
 ·intro hm x hx
  have h0 := h x hx
  have h1 := hm x.1 ⟨x, hx, Int.le_refl _, h0⟩
  have h2 := hm x.2.1 ⟨x, hx, h0, Int.le_refl _⟩
  omega
theorem ap_iff {a b : List Sp} (ha : Good a) (hb : Good b) : apB a b = true ↔ ∀ n, memS a n -> ¬ memS b n := apB_iff (good_le ha) (good_le hb)
def setSeat (h : DHouse) (k : Nat) (s : DSeat) : DHouse := (h.1, h.2.1, h.2.2.1, h.2.2.2.1.set k s, h.2.2.2.2)
theorem tkL_set {l : List DSeat} {k : Nat} {s : DSeat} (hk : k < l.length) (hs : s.2.2.1 = (l.getD k noS).2.2.1) : ∀ n, tkL (l.set k s) n = tkL l n
 | 0 => rfl
 | n + 1 => by
  rw [tkL_succ, tkL_succ, tkL_set hk hs n]
  by_cases h : k = n
  ·subst h
   rw [getD_set_eq hk, hs]
  ·rw [getD_set_ne h]
theorem house_seat {h : DHouse} (hH : HouseR h) {k : Nat} (hk : k < 3) {s : DSeat} (hs : SeatG s h.1.1) (ht : s.2.2.1 = (h.2.2.2.1.getD k noS).2.2.1) (hm : s.2.2.2.1 = (h.2.2.2.1.getD k noS).2.2.2.1) : HouseR (setSeat h k s) := by
 have hn := hH.parts.ns
 have hk' : k < h.2.2.2.1.length := by omega
 refine ⟨hH.conf, ⟨by show (h.2.2.2.1.set k s).length = 3; rw [List.length_set]; exact hn, hH.parts.nr, hH.parts.nt, hH.parts.since, hH.parts.clock, fun j hj => ?_, hH.parts.turns⟩, hH.order, hH.gens, hH.ap, ?_, fun j hj => ?_⟩
 ·have hsr := hH.parts.seats j hj
  refine ⟨?_, hsr.two, hsr.rows⟩
  show SeatG ((h.2.2.2.1.set k s).getD j noS) h.1.1
  by_cases hjk : k = j
  ·subst hjk
   rw [getD_set_eq hk']; exact hs
  ·rw [getD_set_ne hjk]; exact hsr.seat
 ·show joinS [] (idsL (allE h)) = joinS [] (tkL (h.2.2.2.1.set k s) 3)
  rw [tkL_set hk' ht]; exact hH.tk
 ·have hmj := hH.mg j hj
  unfold mgAt at hmj ⊢
  show (((blk (joinS [] (idsL (addL h))) (100 * (j : Int) + 1) 60 : Nat) : Int) == ((h.2.2.2.1.set k s).getD j noS).2.2.2.1) = true
  by_cases hjk : k = j
  ·subst hjk
   rw [getD_set_eq hk', hm]; exact hmj
  ·rw [getD_set_ne hjk]; exact hmj
theorem countP_lt {p : Nat -> Bool} {g : Nat} : ∀ n, (∀ i, i < n -> p i = true -> i < g) -> (List.range n).countP p <= g
 | 0, _ => by simp
 | n + 1, h => by
  have ih := countP_lt (p := p) (g := g) n (fun i hi => h i (by omega))
  rw [List.range_succ, List.countP_append, List.countP_singleton]
  by_cases hp : p n = true
  ·have h1 := h n (by omega) hp
   have h2 : (List.range n).countP p <= n := Nat.le_trans List.countP_le_length (by rw [List.length_range]; exact Nat.le_refl _)
   rw [if_pos hp]; omega
  ·rw [if_neg hp]; omega
theorem mem_tkL {l : List DSeat} {n : Int} : ∀ {m : Nat}, memS (tkL l m) n ↔ ∃ j, j < m /\ memS (l.getD j noS).2.2.1 (n - 100 * (j : Int))
 | 0 => ⟨fun h => absurd h memS_nil, fun ⟨j, hj, _⟩ => by omega⟩
 | m + 1 => by
  rw [tkL_succ, memS_append, mem_tkL]
  have hs : memS (shf (m : Int) (l.getD m noS).2.2.1) n ↔ memS (l.getD m noS).2.2.1 (n - 100 * (m : Int)) := by
   unfold memS shf
   constructor
   ·rintro ⟨x, hx, h1, h2⟩
    obtain ⟨y, hy, rfl⟩ := List.mem_map.1 hx
    exact ⟨y, hy, by simp only at h1; omega, by simp only at h2; omega⟩
   ·rintro ⟨y, hy, h1, h2⟩
    exact ⟨_, List.mem_map.2 ⟨y, hy, rfl⟩, by simp only; omega, by simp only; omega⟩
  rw [hs]
  constructor
  ·rintro (⟨j, hj, h⟩ | h)
   ·exact ⟨j, by omega, h⟩
   ·exact ⟨m, by omega, h⟩
  ·rintro ⟨j, hj, h⟩
   by_cases hjm : j = m
   ·subst hjm; exact .inr h
   ·exact .inl ⟨j, by omega, h⟩
theorem seatG_mem {s : DSeat} {m n : Int} (h : SeatG s m) (hn : memS s.2.2.1 n) : 1 <= n /\ n <= s.2.1 /\ n <= 60 := by
 obtain ⟨x, hx, h1, h2⟩ := hn
 obtain ⟨i, hi, rfl⟩ := List.getElem_of_mem hx
 have h3 := h.tk.2 i hi
 have h4 := h.gr
 omega
theorem tk_own {h : DHouse} (hH : HouseR h) {k : Nat} (hk : k < 3) {n : Int} (h1 : 1 <= n) (h2 : n <= 60) : memS (idsL (allE h)) (100 * (k : Int) + n) ↔ memS (h.2.2.2.1.getD k noS).2.2.1 n := by
 have hsG : ∀ j, j < 3 -> SeatG (h.2.2.2.1.getD j noS) h.1.1 := fun j hj => (hH.parts.seats j hj).seat
 have e1 : ends (idsL (allE h)) := enR_ends fun e he => (hH.ap.all e he).ids
 have e2 := tkL_ends 3 (Nat.le_refl _) hsG
 rw [<- mem_join0 e1, hH.tk, mem_join0 e2, mem_tkL]
 constructor
 ·rintro ⟨j, hj, hm⟩
  have hg := seatG_mem (hsG j hj) hm
  have : j = k := by omega
  subst this
  rwa [show 100 * (j : Int) + n - 100 * (j : Int) = n by omega] at hm
 ·intro hm
  exact ⟨k, hk, by rwa [show 100 * (k : Int) + n - 100 * (k : Int) = n by omega]⟩
theorem allE_row {h : DHouse} {k c : Nat} (hk : k < h.2.2.2.2.1.length) (hc : c < h.2.2.2.2.1[k].length) : ∃ P Q, allE h = P ++ (h.2.2.2.2.1[k][c].1 ++ (Q ++ addL h)) /\ ∀ X : DRow, entRR (h.2.2.2.2.1.set k (h.2.2.2.2.1[k].set c X)) = P ++ (X.1 ++ Q) := by
 obtain ⟨A, B, h1, hA⟩ := set_split hk
 obtain ⟨C, D, g1, hC⟩ := set_split hc
 refine ⟨entRR A ++ entR C, entR D ++ entRR B, ?_, fun X => ?_⟩
 ·unfold allE
  have : entRR h.2.2.2.2.1 = entRR A ++ ((entR C ++ (h.2.2.2.2.1[k][c].1 ++ entR D)) ++ entRR B) := by
   conv => lhs; rw [h1]
   unfold entRR
   rw [List.flatMap_append, List.flatMap_cons]
   congr 2
   conv => lhs; rw [g1]
   unfold entR
   rw [List.flatMap_append, List.flatMap_cons]
  rw [this]
  simp only [List.append_assoc]
 ·have e1 : h.2.2.2.2.1.set k (h.2.2.2.2.1[k].set c X) = A ++ (C ++ X :: D) :: B := by rw [hA, hC]
  rw [e1]
  unfold entRR
  rw [List.flatMap_append, List.flatMap_cons]
  unfold entR
  rw [List.flatMap_append, List.flatMap_cons]
  simp only [List.append_assoc]
theorem szS_pos {S : List Sp} (h : ∀ x ∈ S, x.1 <= x.2.1) (hn : S ≠ []) : 1 <= szS S := by
 cases S with
 | nil => exact absurd rfl hn
 | cons x l =>
  have h1 := h x (List.mem_cons_self ..)
  have h2 := szS_part (S := l) 0 (fun y hy => h y (List.mem_cons_of_mem _ hy))
  unfold szS at *
  simp only [List.take_zero, List.map_nil, List.sum_nil, List.map_cons, List.sum_cons] at *
  omega
theorem row_cnt {k : Int} {r : DRow} (hr : RowI k r) : ((r.1.length : Nat) : Int) <= sumO r.1 k := by
 have hen : ends (idsL r.1) := enR_ends fun e he => (hr.1.ok.all e he).ids
 have hok := joined_ok hen
 have hm := (rng_iff (fun x hx => (okF_all hok x hx).2.1)).1 hr.2
 have key : ∀ l : List DEntry, (∀ e ∈ l, e ∈ r.1) -> ((l.length : Nat) : Int) <= sumO l k := by
  intro l
  induction l with
  | nil => intro _; simp [sumO]
  | cons x l ih =>
   intro h
   have ih := ih (fun e he => h e (List.mem_cons_of_mem _ he))
   have hx := hr.1.ok.all x (h x (List.mem_cons_self ..))
   have hle := good_le hx.ids
   have hrx : Rng x.2.2.1 (100 * k + 1) (100 * k + 60) := (rng_iff hle).2 (fun n hn => hm n ((mem_join0 hen n).2 (mem_idsL.2 ⟨x, h x (List.mem_cons_self ..), hn⟩)))
   have h1 := (ofS_size k hle).2.2 hrx
   have h2 := szS_pos hle hx.some
   unfold sumO at *
   simp only [List.map_cons, List.sum_cons, List.length_cons]
   push_cast
   omega
 exact key r.1 (fun e he => he)
theorem row_room {h : DHouse} (hH : HouseR h) {k c : Nat} (hk : k < h.2.2.2.2.1.length) (hc : c < h.2.2.2.2.1[k].length) : h.2.2.2.2.1[k][c].1.length <= 8 := by
 have hn := hH.parts.nr
 have hsr := hH.parts.seats k (by omega)
 have hrows := hsr.rows
 rw [getD_at hk] at hrows
 have hrI := hrows _ (List.getElem_mem hc)
 have hcnt := row_cnt hrI
 obtain ⟨P, Q, hPQ, _⟩ := allE_row hk hc
 have hE := hH.ap.all
 have hb := blk_sum (k : Int) hH.ap
 have hbm := blk_sum (k : Int) (apR_add hH.ap)
 have hmg := hH.mg k (by omega)
 unfold mgAt at hmg
 have hmg := beq_iff_eq.1 hmg
 have hsum : sumO (allE h) (k : Int) = sumO P (k : Int) + (sumO h.2.2.2.2.1[k][c].1 (k : Int) + (sumO Q (k : Int) + sumO (addL h) (k : Int))) := by
  rw [hPQ, sumO_app, sumO_app, sumO_app]
 have hP0 := sumO_le (k : Int) (l := P) (fun e he => hE e (by rw [hPQ]; exact List.mem_append_left _ he))
 have hQ0 := sumO_le (k : Int) (l := Q) (fun e he => hE e (by rw [hPQ]; exact List.mem_append_right _ (List.mem_append_right _ (List.mem_append_left _ he))))
 have hg := hsr.seat
 have hle : blk (joinS [] (idsL (allE h))) (100 * (k : Int) + 1) 60 <= (h.2.2.2.1.getD k noS).2.1.toNat := by
  unfold blk
  refine countP_lt 60 (fun i hi hp => ?_)
  have hm := (mem_join0 (enR_ends fun e he => (hE e he).ids) _).1 (has_memS.1 hp)
  rw [show 100 * (k : Int) + 1 + (i : Int) = 100 * (k : Int) + ((i : Int) + 1) by omega, tk_own hH (by omega) (by omega) (by omega)] at hm
  have := seatG_mem hg hm
  omega
 have hgr := hg.gr
 have hcr := hg.cr
 have hper := hg.per
 omega
theorem apR_repl {P M Q L : List DEntry} {n0 : Int} (hA : ApR (P ++ (M ++ Q))) (hL : ApR L) (hids : ∀ n, memS (idsL L) n ↔ memS (idsL M) n \/ n = n0) (hn : ¬ memS (idsL (P ++ (M ++ Q))) n0) : ApR (P ++ (L ++ Q)) := by
 obtain ⟨hE, hp⟩ := hA
 obtain ⟨p1, p2, p3⟩ := List.pairwise_append.1 hp
 obtain ⟨p4, p5, p6⟩ := List.pairwise_append.1 p2
 have hEP : ∀ e ∈ P, EnR e := fun e he => hE e (List.mem_append_left _ he)
 have hEM : ∀ e ∈ M, EnR e := fun e he => hE e (List.mem_append_right _ (List.mem_append_left _ he))
 have hEQ : ∀ e ∈ Q, EnR e := fun e he => hE e (List.mem_append_right _ (List.mem_append_right _ he))
 have hcross : ∀ x, EnR x -> (∀ m ∈ M, ∀ n, memS m.2.2.1 n -> ¬ memS x.2.2.1 n) -> ¬ memS x.2.2.1 n0 -> ∀ y ∈ L, ∀ n, memS y.2.2.1 n -> ¬ memS x.2.2.1 n := fun x hx hm hx0 y hy n hn1 hn2 => by
  rcases (hids n).1 (mem_idsL.2 ⟨y, hy, hn1⟩) with h | h
  ·obtain ⟨m, hmM, hmn⟩ := mem_idsL.1 h
   exact hm m hmM n hmn hn2
  ·subst h; exact hx0 hn2
 refine ⟨fun e he => ?_, List.pairwise_append.2 ⟨p1, List.pairwise_append.2 ⟨hL.ap, p5, fun y hy x hx => ?_⟩, fun x hx y hy => ?_⟩⟩
 ·rcases List.mem_append.1 he with he | he
  ·exact hEP e he
  ·rcases List.mem_append.1 he with he | he
   ·exact hL.all e he
   ·exact hEQ e he
 ·
  have hxE := hEQ x hx
  have := hcross x hxE (fun m hm n h1 h2 => (ap_iff hxE.ids (hEM m hm).ids).1 (p6 m hm x hx) n h2 h1) (fun h0 => hn (mem_idsL.2 ⟨x, List.mem_append_right _ (List.mem_append_right _ hx), h0⟩)) y hy
  exact (ap_iff hxE.ids (hL.all y hy).ids).2 (fun n h1 h2 => this n h2 h1)
 ·have hxE := hEP x hx
  rcases List.mem_append.1 hy with hy | hy
  ·have := hcross x hxE (fun m hm n h1 h2 => (ap_iff (hEM m hm).ids hxE.ids).1 (p3 x hx m (List.mem_append_left _ hm)) n h1 h2) (fun h0 => hn (mem_idsL.2 ⟨x, List.mem_append_left _ hx, h0⟩)) y hy
   exact (ap_iff (hL.all y hy).ids hxE.ids).2 this
  ·exact p3 x hx y (List.mem_append_right _ hy)
theorem ids_repl {P M Q L : List DEntry} {n0 : Int} (hids : ∀ n, memS (idsL L) n ↔ memS (idsL M) n \/ n = n0) (n : Int) : memS (idsL (P ++ (L ++ Q))) n ↔ memS (idsL (P ++ (M ++ Q))) n \/ n = n0 := by
 have e : ∀ A B : List DEntry, idsL (A ++ B) = idsL A ++ idsL B := fun A B => List.flatMap_append
 rw [e, e, e, e, memS_append, memS_append, memS_append, memS_append, hids]
 constructor
 ·rintro (h | (h | h) | h)
  ·exact .inl (.inl h)
  ·exact .inl (.inr (.inl h))
  ·exact .inr h
  ·exact .inl (.inr (.inr h))
 ·rintro ((h | h | h) | h)
  ·exact .inl h
  ·exact .inr (.inl (.inl h))
  ·exact .inr (.inr h)
  ·exact .inr (.inl (.inr h))
def setBoth (h : DHouse) (k c : Nat) (s : DSeat) (X : DRow) : DHouse := (h.1, h.2.1, h.2.2.1, h.2.2.2.1.set k s, h.2.2.2.2.1.set k ((h.2.2.2.2.1.getD k []).set c X), h.2.2.2.2.2)
theorem house_push {h : DHouse} (hH : HouseR h) {k c : Nat} (hk : k < 3) (hc : c < 2) {s : DSeat} {X : DRow} {n : Int} (h1 : 1 <= n) (h2 : n <= 60)
  (hs : SeatG s h.1.1) (hm : s.2.2.2.1 = (h.2.2.2.1.getD k noS).2.2.2.1) (ht : ∀ i, memS s.2.2.1 i ↔ memS (h.2.2.2.1.getD k noS).2.2.1 i \/ i = n) (hnew : ¬ memS (h.2.2.2.1.getD k noS).2.2.1 n)
  (hX : RoR X) (hids : ∀ i, memS (idsL X.1) i ↔ memS (idsL ((h.2.2.2.2.1.getD k []).getD c ([], ())).1) i \/ i = 100 * (k : Int) + n) : HouseR (setBoth h k c s X) := by
 have hns := hH.parts.ns
 have hnr := hH.parts.nr
 have hk1 : k < h.2.2.2.1.length := by omega
 have hk2 : k < h.2.2.2.2.1.length := by omega
 have hsr := hH.parts.seats k hk
 have htwo := hsr.two
 have hrows := hsr.rows
 have hrk : h.2.2.2.2.1.getD k [] = h.2.2.2.2.1[k] := getD_at hk2
 rw [hrk] at htwo hrows hids
 have hc' : c < h.2.2.2.2.1[k].length := by omega
 rw [getD_at hc'] at hids
 obtain ⟨P, Q, hPQ, hset⟩ := allE_row hk2 hc'
 have hnot : ¬ memS (idsL (allE h)) (100 * (k : Int) + n) := fun hh => hnew ((tk_own hH hk h1 h2).1 hh)
 have hall : allE (setBoth h k c s X) = P ++ (X.1 ++ (Q ++ addL h)) := by
  show entRR (h.2.2.2.2.1.set k ((h.2.2.2.2.1.getD k []).set c X)) ++ addL h = _
  rw [hrk, hset X]
  simp only [List.append_assoc]
 have hap : ApR (allE (setBoth h k c s X)) := by
  have hA := hH.ap
  rw [hPQ] at hA hnot
  rw [hall]
  exact apR_repl hA hX.ok hids hnot
 have hsG : ∀ j, j < 3 -> SeatG ((h.2.2.2.1.set k s).getD j noS) h.1.1 := fun j hj => by
  by_cases hjk : k = j
  ·subst hjk; rw [getD_set_eq hk1]; exact hs
  ·rw [getD_set_ne hjk]; exact (hH.parts.seats j hj).seat
 refine ⟨hH.conf, ⟨by show (h.2.2.2.1.set k s).length = 3; rw [List.length_set]; exact hns, by show (h.2.2.2.2.1.set k _).length = 3; rw [List.length_set]; exact hnr, hH.parts.nt, hH.parts.since, hH.parts.clock, fun j hj => ?_, hH.parts.turns⟩, hH.order, hH.gens, hap, ?_, fun j hj => ?_⟩
 ·have hsj := hH.parts.seats j hj
  by_cases hjk : k = j
  ·subst hjk
   refine ⟨hsG k hj, ?_, ?_⟩
   ·show ((h.2.2.2.2.1.set k ((h.2.2.2.2.1.getD k []).set c X)).getD k []).length = 2
    rw [getD_set_eq hk2, List.length_set, hrk]; exact htwo
   ·show ∀ r ∈ (h.2.2.2.2.1.set k ((h.2.2.2.2.1.getD k []).set c X)).getD k [], RowI (k : Int) r
    rw [getD_set_eq hk2, hrk]
    intro r hr
    rcases List.mem_or_eq_of_mem_set hr with hr | rfl
    ·exact hrows r hr
    ·refine ⟨hX, ?_⟩
     have hrI := hrows _ (List.getElem_mem hc')
     have en0 : ends (idsL h.2.2.2.2.1[k][c].1) := enR_ends fun e he => (hrI.1.ok.all e he).ids
     have en1 : ends (idsL r.1) := enR_ends fun e he => (hX.ok.all e he).ids
     have ok0 := joined_ok en0
     have ok1 := joined_ok en1
     have hm0 := (rng_iff (fun x hx => (okF_all ok0 x hx).2.1)).1 hrI.2
     refine (rng_iff (fun x hx => (okF_all ok1 x hx).2.1)).2 (fun i hi => ?_)
     rw [mem_join0 en1, hids] at hi
     rcases hi with hi | hi
     ·exact hm0 i ((mem_join0 en0 i).2 hi)
     ·omega
  ·refine ⟨hsG j hj, ?_, ?_⟩
   ·show ((h.2.2.2.2.1.set k ((h.2.2.2.2.1.getD k []).set c X)).getD j []).length = 2
    rw [getD_set_ne hjk]; exact hsj.two
   ·show ∀ r ∈ (h.2.2.2.2.1.set k ((h.2.2.2.2.1.getD k []).set c X)).getD j [], RowI (j : Int) r
    rw [getD_set_ne hjk]; exact hsj.rows
 ·show joinS [] (idsL (allE (setBoth h k c s X))) = joinS [] (tkL (h.2.2.2.1.set k s) 3)
  have en1 : ends (idsL (allE (setBoth h k c s X))) := enR_ends fun e he => (hap.all e he).ids
  have en0 : ends (idsL (allE h)) := enR_ends fun e he => (hH.ap.all e he).ids
  have en2 : ends (tkL (h.2.2.2.1.set k s) 3) := tkL_ends 3 (Nat.le_refl _) hsG
  have en3 : ends (tkL h.2.2.2.1 3) := tkL_ends 3 (Nat.le_refl _) fun j hj => (hH.parts.seats j hj).seat
  refine okF_ext (joined_ok en1) (joined_ok en2) (fun i => ?_)
  have hold : memS (idsL (allE h)) i ↔ memS (tkL h.2.2.2.1 3) i := by rw [<- mem_join0 en0, hH.tk, mem_join0 en3]
  rw [mem_join0 en1, mem_join0 en2, hall, ids_repl hids, <- hPQ, hold, mem_tkL, mem_tkL]
  constructor
  ·rintro (⟨j, hj, hji⟩ | hi)
   ·refine ⟨j, hj, ?_⟩
    by_cases hjk : k = j
    ·subst hjk; rw [getD_set_eq hk1, ht]; exact .inl hji
    ·rw [getD_set_ne hjk]; exact hji
   ·refine ⟨k, hk, ?_⟩
    rw [getD_set_eq hk1, ht]
    exact .inr (by omega)
  ·rintro ⟨j, hj, hji⟩
   by_cases hjk : k = j
   ·subst hjk
    rw [getD_set_eq hk1, ht] at hji
    rcases hji with hji | hji
    ·exact .inl ⟨k, hj, hji⟩
    ·exact .inr (by omega)
   ·rw [getD_set_ne hjk] at hji
    exact .inl ⟨j, hj, hji⟩
 ·have hmj := hH.mg j hj
  unfold mgAt at hmj ⊢
  show (((blk (joinS [] (idsL (addL h))) (100 * (j : Int) + 1) 60 : Nat) : Int) == ((h.2.2.2.1.set k s).getD j noS).2.2.2.1) = true
  by_cases hjk : k = j
  ·subst hjk
   rw [getD_set_eq hk1, hm]; exact hmj
  ·rw [getD_set_ne hjk]; exact hmj
theorem zRS_eq (l : List DRow) : zRowS l = l.length + zEntryS (entR l) := by
 induction l with
 | nil => rfl
 | cons x l ih =>
  unfold zRowS entR at *
  rw [List.flatMap_cons, zEn_app]
  simp only [List.map_cons, List.sum_cons, List.length_cons]
  have : zRow x = zEntryS x.1 := rfl
  omega
theorem zRSS_eq (l : List (List DRow)) : zRowSS l = l.length + (l.map List.length).sum + zEntryS (entRR l) := by
 induction l with
 | nil => rfl
 | cons x l ih =>
  unfold zRowSS entRR at *
  rw [List.flatMap_cons, zEn_app]
  simp only [List.map_cons, List.sum_cons, List.length_cons]
  have := zRS_eq x
  omega
theorem zOS_eq (l : List DOut) : zOutS l = zEntryS (l.map fun o => o.2.1) := by
 unfold zOutS zEntryS
 rw [List.length_map, List.map_map]
 rfl
theorem sum_le_mul {α : Type} {f : α -> Nat} {b : Nat} : ∀ {l : List α}, (∀ x ∈ l, f x <= b) -> (l.map f).sum <= b * l.length
 | [], _ => by simp
 | x :: l, h => by
  have h1 := h x (List.mem_cons_self ..)
  have h2 := sum_le_mul (f := f) (b := b) (l := l) (fun y hy => h y (List.mem_cons_of_mem _ hy))
  simp only [List.map_cons, List.sum_cons, List.length_cons]
  rw [Nat.mul_add]; omega
theorem blk_pos {S : List Sp} {b n : Int} {m : Nat} (h : memS S n) (h0 : b <= n) (h1 : n < b + (m : Int)) : 1 <= blk S b m := by
 unfold blk
 have : 0 < (List.range m).countP fun (k : Nat) => hasB S (b + (k : Int)) := List.countP_pos_iff.2 ⟨(n - b).toNat, by rw [List.mem_range]; omega, by
  rw [show b + ((n - b).toNat : Int) = n by omega]
  exact has_memS.2 h⟩
 omega
theorem few_all {h : DHouse} (hH : HouseR h) : (allE h).length <= 180 := by
 have hE := hH.ap.all
 have en0 : ends (idsL (allE h)) := enR_ends fun e he => (hE e he).ids
 have en3 : ends (tkL h.2.2.2.1 3) := tkL_ends 3 (Nat.le_refl _) fun j hj => (hH.parts.seats j hj).seat
 have key : ∀ l : List DEntry, (∀ e ∈ l, e ∈ allE h) -> ((l.length : Nat) : Int) <= sumO l 0 + sumO l 1 + sumO l 2 := by
  intro l
  induction l with
  | nil => intro _; simp [sumO]
  | cons x l ih =>
   intro hl
   have ih := ih (fun e he => hl e (List.mem_cons_of_mem _ he))
   have hx := hE x (hl x (List.mem_cons_self ..))
   have hxo := good_ok.1 hx.ids
   have hone : 1 <= ofS x.2.2.1 0 + ofS x.2.2.1 1 + ofS x.2.2.1 2 := by
    obtain ⟨n, hn⟩ : ∃ n, memS x.2.2.1 n := by
     have hne := hx.some
     cases hs : x.2.2.1 with
     | nil => exact absurd hs hne
     | cons s t =>
      have := good_le hx.ids s (by rw [hs]; exact List.mem_cons_self ..)
      exact ⟨s.1, s, List.mem_cons_self .., Int.le_refl _, this⟩
    have hm : memS (tkL h.2.2.2.1 3) n := by
     rw [<- mem_join0 en3, <- hH.tk, mem_join0 en0]
     exact mem_idsL.2 ⟨x, hl x (List.mem_cons_self ..), hn⟩
    obtain ⟨j, hj, hjn⟩ := mem_tkL.1 hm
    have hg := seatG_mem (hH.parts.seats j hj).seat hjn
    have hb := blk_pos (b := 100 * (j : Int) + 1) (m := 60) hn (by omega) (by omega)
    have hbo := blk_of (j : Int) hxo
    have q0 := (ofS_le 0 x.2.2.1).1
    have q1 := (ofS_le 1 x.2.2.1).1
    have q2 := (ofS_le 2 x.2.2.1).1
    have : j = 0 \/ j = 1 \/ j = 2 := by omega
    rcases this with rfl | rfl | rfl
    ·have hbo : ((blk x.2.2.1 (100 * ((0 : Nat) : Int) + 1) 60 : Nat) : Int) = ofS x.2.2.1 0 := hbo
     omega
    ·have hbo : ((blk x.2.2.1 (100 * ((1 : Nat) : Int) + 1) 60 : Nat) : Int) = ofS x.2.2.1 1 := hbo
     omega
    ·have hbo : ((blk x.2.2.1 (100 * ((2 : Nat) : Int) + 1) 60 : Nat) : Int) = ofS x.2.2.1 2 := hbo
     omega
   unfold sumO at *
   simp only [List.map_cons, List.sum_cons, List.length_cons]
   push_cast
   omega
 have h0 := key (allE h) (fun e he => he)
 have b0 := blk_sum 0 hH.ap
 have b1 := blk_sum 1 hH.ap
 have b2 := blk_sum 2 hH.ap
 have l0 := blk_le (joinS [] (idsL (allE h))) (100 * 0 + 1) 60
 have l1 := blk_le (joinS [] (idsL (allE h))) (100 * 1 + 1) 60
 have l2 := blk_le (joinS [] (idsL (allE h))) (100 * 2 + 1) 60
 omega
theorem house_z {h : DHouse} (hH : HouseR h) : zHouse h <= 1000000 := by
 have hfew := few_all hH
 have hzE := zEnL (allE h) hH.ap.all
 have hsplit : zEntryS (allE h) = zEntryS (entRR h.2.2.2.2.1) + (zEntryS h.2.2.2.2.2.2.2.1 + zEntryS (h.2.2.2.2.2.2.2.2.1.map fun o => o.2.1)) := by
  unfold allE addL
  rw [zEn_app, zEn_app]
 have hc : zConf h.1 <= 3 := by
  have := hH.conf
  unfold confB at this
  simp only [Bool.and_eq_true, beq_iff_eq] at this
  have h3 : len h.1.2.2.2.1 = 3 := this.2.2.2.1.1
  have : zConf h.1 = h.1.2.2.2.1.length := rfl
  simp only [len] at h3
  omega
 have hns := hH.parts.ns
 have hnr := hH.parts.nr
 have hnt := hH.parts.nt
 have hs : zSeatS h.2.2.2.1 <= 3 + 15003 := by
  have := sum_le_mul (f := zSeat) (b := 5001) (l := h.2.2.2.1) (fun s hs => by
   obtain ⟨j, hj, rfl⟩ := List.getElem_of_mem hs
   have hg := (hH.parts.seats j (by omega)).seat
   rw [getD_at hj] at hg
   exact okF_small (good_ok.1 hg.tk.1))
  unfold zSeatS
  omega
 have hr : (h.2.2.2.2.1.map List.length).sum <= 6 := by
  have := sum_le_mul (f := List.length) (b := 2) (l := h.2.2.2.2.1) (fun r hr => by
   obtain ⟨j, hj, rfl⟩ := List.getElem_of_mem hr
   have hg := (hH.parts.seats j (by omega)).two
   rw [getD_at hj] at hg
   omega)
  omega
 have ht : zTurnS h.2.2.2.2.2.1 <= 2 + 6 := by
  have := sum_le_mul (f := zTurn) (b := 3) (l := h.2.2.2.2.2.1) (fun t ht => by
   have := hH.parts.turns t ht
   unfold turnB at this
   simp only [Bool.and_eq_true, beq_iff_eq] at this
   have h3 : len t.2.2.1 = 3 := this.2.1
   have : zTurn t = t.2.2.1.length := rfl
   simp only [len] at h3
   omega)
  unfold zTurnS
  omega
 have e1 := zRSS_eq h.2.2.2.2.1
 have e2 := zOS_eq h.2.2.2.2.2.2.2.2.1
 unfold zHouse
 omega
theorem snoc_take {α : Type} {l : List α} {i : Nat} (h : i < l.length) : l.take i ++ [l[i]] = l.take (i + 1) := (List.take_succ_eq_append_getElem h).symm
theorem fits_take {α : Type} {l : List α} {i b : Nat} (h : i < l.length) (hl : l.length <= 1048576) (x : α) (hb : b <= 1000) : fits ((l.take i).length + [x].length) b = true := by
 refine fits_of ?_
 have h1 : (l.take i).length + [x].length <= 1048576 := by
  simp only [List.length_take, List.length_cons, List.length_nil]; omega
 have := Nat.mul_le_mul h1 hb
 omega
theorem specTurnCopy_eq (t : DTurn) (h : t.2.2.1.length <= 1048576) : F.spec_l11Copy t = some t := by
 unfold F.spec_l11Copy
 rw [fits_of (by simp; omega)]; rfl
theorem implTurnCopy_eq (t : DTurn) (h : t.2.2.1.length <= 1048576) : F.impl_copyTurn t = some t := by
 unfold F.impl_copyTurn
 rw [copyInts_eq _ h]; rfl
abbrev nilH : DHouse := ((0, 0, 0, ([] : List Int), 0, 0, 0, 0, ()), 0, false, ([] : List DSeat), ([] : List (List DRow)), ([] : List DTurn), 0, ([] : List DEntry), ([] : List DOut), ())
theorem zRootIn {h : DHouse} (hz : zHouse h <= 1048576) {k : Nat} (hk : k < h.2.2.2.2.2.2.2.1.length) : zEntry h.2.2.2.2.2.2.2.1[k] <= 1048576 :=
 zE_mem (n := 1048576) (by unfold zHouse at hz; omega) (List.getElem_mem hk)
theorem zOutIn {h : DHouse} (hz : zHouse h <= 1048576) {k : Nat} (hk : k < h.2.2.2.2.2.2.2.2.1.length) : zEntry h.2.2.2.2.2.2.2.2.1[k].2.1 <= 1048576 := by
 have h1 := sum_mem (f := zOut) (List.getElem_mem hk)
 have h2 : zOut h.2.2.2.2.2.2.2.2.1[k] = zEntry h.2.2.2.2.2.2.2.2.1[k].2.1 := rfl
 unfold zHouse zOutS at hz
 omega
theorem l12Copy_eq (h : DHouse) (hz : zHouse h <= 1048576) : F.spec_l12Copy h = some h := by
 have n1 : h.2.2.2.1.length <= 1048576 := by unfold zHouse zSeatS at hz; omega
 have n2 : h.2.2.2.2.1.length <= 1048576 := by unfold zHouse zRowSS at hz; omega
 have n3 : h.2.2.2.2.2.1.length <= 1048576 := by unfold zHouse zTurnS at hz; omega
 have n4 : h.2.2.2.2.2.2.2.1.length <= 1048576 := by unfold zHouse zEntryS at hz; omega
 have n5 : h.2.2.2.2.2.2.2.2.1.length <= 1048576 := by unfold zHouse zOutS at hz; omega
 unfold F.spec_l12Copy
 rw [l12Conf_eq h.1 (by unfold zHouse at hz; omega)]
 simp only [Option.bind_some]
 have l1 := loop_run (step := F.spec_l12Copy.s3) (fun i => ((i : Int), h, nilH, ((h.1, h.2.1, h.2.2.1, h.2.2.2.1.take i, ([] : List (List DRow)), ([] : List DTurn), h.2.2.2.2.2.2.1, ([] : List DEntry), ([] : List DOut), ()) : DHouse), ())) h.2.2.2.1.length (fun i hi => by
  unfold F.spec_l12Copy.s3
  simp only
  rw [lt_len hi, inb_nat hi, Int.toNat_natCast, getD_at hi, l9Copy_eq _ (zSeatIn hz hi), w64_nat (by omega)]
  simp only [cond_true, chk_true, Option.bind_some]
  rw [fits_take hi n1 _ (by omega), snoc_take hi]; rfl) (l := .exit (((h.2.2.2.1.length : Nat) : Int), h, nilH, ((h.1, h.2.1, h.2.2.1, h.2.2.2.1.take h.2.2.2.1.length, ([] : List (List DRow)), ([] : List DTurn), h.2.2.2.2.2.2.1, ([] : List DEntry), ([] : List DOut), ()) : DHouse), ())) (by
  unfold F.spec_l12Copy.s3
  simp only [ge_len, cond_false]) rfl
 rw [List.take_length] at l1
 refine (congrArg (fun z => afterO z _) l1).trans ?_
 simp only [afterO]
 have l2 := loop_run (step := F.spec_l12Copy.s7) (fun i => ((i : Int), h, nilH, ((h.1, h.2.1, h.2.2.1, h.2.2.2.1, h.2.2.2.2.1.take i, ([] : List DTurn), h.2.2.2.2.2.2.1, ([] : List DEntry), ([] : List DOut), ()) : DHouse), ())) h.2.2.2.2.1.length (fun i hi => by
  obtain ⟨q1, q2⟩ := zRowIn hz hi
  have li := loop_run (step := F.spec_l12Copy.s11) (fun j => ((i : Int), h.2.2.2.2.1[i].take j, (j : Int), h, nilH, ((h.1, h.2.1, h.2.2.1, h.2.2.2.1, h.2.2.2.2.1.take i, ([] : List DTurn), h.2.2.2.2.2.2.1, ([] : List DEntry), ([] : List DOut), ()) : DHouse), ())) h.2.2.2.2.1[i].length (fun j hj => by
   unfold F.spec_l12Copy.s11
   simp only
   rw [inb_nat hi, Int.toNat_natCast, getD_at hi, lt_len hj, inb_nat hj, Int.toNat_natCast, getD_at hj, l10Copy_eq _ (q2 _ (List.getElem_mem hj)), w64_nat (by omega)]
   simp only [cond_true, chk_true, Option.bind_some]
   rw [fits_take hj q1 _ (by omega), snoc_take hj]; rfl) (l := .exit ((i : Int), h.2.2.2.2.1[i].take h.2.2.2.2.1[i].length, ((h.2.2.2.2.1[i].length : Nat) : Int), h, nilH, ((h.1, h.2.1, h.2.2.1, h.2.2.2.1, h.2.2.2.2.1.take i, ([] : List DTurn), h.2.2.2.2.2.2.1, ([] : List DEntry), ([] : List DOut), ()) : DHouse), ())) (by
   unfold F.spec_l12Copy.s11
   simp only
   rw [inb_nat hi, Int.toNat_natCast, getD_at hi]
   simp only [ge_len, chk_true, cond_false]) rfl
  rw [List.take_length] at li
  have li : loopO F.spec_l12Copy.s11 ((i : Int), [], 0, h, nilH, ((h.1, h.2.1, h.2.2.1, h.2.2.2.1, h.2.2.2.2.1.take i, ([] : List DTurn), h.2.2.2.2.2.2.1, ([] : List DEntry), ([] : List DOut), ()) : DHouse), ()) = _ := li
  unfold F.spec_l12Copy.s7
  simp only
  rw [lt_len hi, li]
  simp only [cond_true, afterO]
  rw [fits_take hi n2 _ (by omega), snoc_take hi, w64_nat (by omega)]; rfl) (l := .exit (((h.2.2.2.2.1.length : Nat) : Int), h, nilH, ((h.1, h.2.1, h.2.2.1, h.2.2.2.1, h.2.2.2.2.1.take h.2.2.2.2.1.length, ([] : List DTurn), h.2.2.2.2.2.2.1, ([] : List DEntry), ([] : List DOut), ()) : DHouse), ())) (by
  unfold F.spec_l12Copy.s7
  simp only [ge_len, cond_false]) rfl
 rw [List.take_length] at l2
 have l2 : loopO F.spec_l12Copy.s7 (0, h, nilH, ((h.1, h.2.1, h.2.2.1, h.2.2.2.1, ([] : List (List DRow)), ([] : List DTurn), h.2.2.2.2.2.2.1, ([] : List DEntry), ([] : List DOut), ()) : DHouse), ()) = _ := l2
 rw [l2]
 simp only
 have l3 := loop_run (step := F.spec_l12Copy.s16) (fun i => ((i : Int), h, nilH, ((h.1, h.2.1, h.2.2.1, h.2.2.2.1, h.2.2.2.2.1, h.2.2.2.2.2.1.take i, h.2.2.2.2.2.2.1, ([] : List DEntry), ([] : List DOut), ()) : DHouse), ())) h.2.2.2.2.2.1.length (fun i hi => by
  unfold F.spec_l12Copy.s16
  simp only
  rw [lt_len hi, inb_nat hi, Int.toNat_natCast, getD_at hi, specTurnCopy_eq _ (zTurnIn hz (List.getElem_mem hi)), w64_nat (by omega)]
  simp only [cond_true, chk_true, Option.bind_some]
  rw [fits_take hi n3 _ (by omega), snoc_take hi]; rfl) (l := .exit (((h.2.2.2.2.2.1.length : Nat) : Int), h, nilH, ((h.1, h.2.1, h.2.2.1, h.2.2.2.1, h.2.2.2.2.1, h.2.2.2.2.2.1.take h.2.2.2.2.2.1.length, h.2.2.2.2.2.2.1, ([] : List DEntry), ([] : List DOut), ()) : DHouse), ())) (by
  unfold F.spec_l12Copy.s16
  simp only [ge_len, cond_false]) rfl
 rw [List.take_length] at l3
 have l3 : loopO F.spec_l12Copy.s16 (0, h, nilH, ((h.1, h.2.1, h.2.2.1, h.2.2.2.1, h.2.2.2.2.1, ([] : List DTurn), h.2.2.2.2.2.2.1, ([] : List DEntry), ([] : List DOut), ()) : DHouse), ()) = _ := l3
 rw [l3]
 simp only
 have l4 := loop_run (step := F.spec_l12Copy.s20) (fun i => ((i : Int), h, nilH, ((h.1, h.2.1, h.2.2.1, h.2.2.2.1, h.2.2.2.2.1, h.2.2.2.2.2.1, h.2.2.2.2.2.2.1, h.2.2.2.2.2.2.2.1.take i, ([] : List DOut), ()) : DHouse), ())) h.2.2.2.2.2.2.2.1.length (fun i hi => by
  unfold F.spec_l12Copy.s20
  simp only
  rw [lt_len hi, inb_nat hi, Int.toNat_natCast, getD_at hi, l6Copy_eq _ (zRootIn hz hi), w64_nat (by omega)]
  simp only [cond_true, chk_true, Option.bind_some]
  rw [fits_take hi n4 _ (by omega), snoc_take hi]; rfl) (l := .exit (((h.2.2.2.2.2.2.2.1.length : Nat) : Int), h, nilH, ((h.1, h.2.1, h.2.2.1, h.2.2.2.1, h.2.2.2.2.1, h.2.2.2.2.2.1, h.2.2.2.2.2.2.1, h.2.2.2.2.2.2.2.1.take h.2.2.2.2.2.2.2.1.length, ([] : List DOut), ()) : DHouse), ())) (by
  unfold F.spec_l12Copy.s20
  simp only [ge_len, cond_false]) rfl
 rw [List.take_length] at l4
 have l4 : loopO F.spec_l12Copy.s20 (0, h, nilH, ((h.1, h.2.1, h.2.2.1, h.2.2.2.1, h.2.2.2.2.1, h.2.2.2.2.2.1, h.2.2.2.2.2.2.1, ([] : List DEntry), ([] : List DOut), ()) : DHouse), ()) = _ := l4
 rw [l4]
 simp only
 have l5 := loop_run (step := F.spec_l12Copy.s24) (fun i => ((i : Int), h, nilH, ((h.1, h.2.1, h.2.2.1, h.2.2.2.1, h.2.2.2.2.1, h.2.2.2.2.2.1, h.2.2.2.2.2.2.1, h.2.2.2.2.2.2.2.1, h.2.2.2.2.2.2.2.2.1.take i, ()) : DHouse), ())) h.2.2.2.2.2.2.2.2.1.length (fun i hi => by
  unfold F.spec_l12Copy.s24
  simp only
  rw [lt_len hi, inb_nat hi, Int.toNat_natCast, getD_at hi, l6Copy_eq _ (zOutIn hz hi), w64_nat (by omega)]
  simp only [cond_true, chk_true, Option.bind_some]
  rw [fits_take hi n5 _ (by omega), show (h.2.2.2.2.2.2.2.2.1[i].1, h.2.2.2.2.2.2.2.2.1[i].2.1, ()) = h.2.2.2.2.2.2.2.2.1[i] from rfl, snoc_take hi]; rfl) (l := .exit (((h.2.2.2.2.2.2.2.2.1.length : Nat) : Int), h, nilH, ((h.1, h.2.1, h.2.2.1, h.2.2.2.1, h.2.2.2.2.1, h.2.2.2.2.2.1, h.2.2.2.2.2.2.1, h.2.2.2.2.2.2.2.1, h.2.2.2.2.2.2.2.2.1.take h.2.2.2.2.2.2.2.2.1.length, ()) : DHouse), ())) (by
  unfold F.spec_l12Copy.s24
  simp only [ge_len, cond_false]) rfl
 rw [List.take_length] at l5
 have l5 : loopO F.spec_l12Copy.s24 (0, h, nilH, ((h.1, h.2.1, h.2.2.1, h.2.2.2.1, h.2.2.2.2.1, h.2.2.2.2.2.1, h.2.2.2.2.2.2.1, h.2.2.2.2.2.2.2.1, ([] : List DOut), ()) : DHouse), ()) = _ := l5
 rw [l5]
theorem copyEntries_eq (l : List DEntry) (hz : zEntryS l <= 1048576) : F.impl_copyEntries l = some l := by
 have hn : l.length <= 1048576 := by unfold zEntryS at hz; omega
 unfold F.impl_copyEntries
 have hh := loop_run (step := F.impl_copyEntries.s3) (fun i => (l.take i, l, len l, (i : Int), ())) l.length (fun i hi => by
  unfold F.impl_copyEntries.s3
  simp only
  rw [lt_len hi, inb_nat hi, Int.toNat_natCast, getD_at hi, copyEntry_eq _ (zE_mem hz (List.getElem_mem hi)), w64_nat (by omega)]
  simp only [cond_true, chk_true, Option.bind_some]
  rw [fits_take hi hn _ (by omega), snoc_take hi]; rfl) (l := .exit (l.take l.length, l, len l, ((l.length : Nat) : Int), ())) (by
  unfold F.impl_copyEntries.s3
  simp only [ge_len, cond_false]) rfl
 rw [List.take_length] at hh
 exact (congrArg (fun z => afterO z _) hh).trans rfl
theorem copyOuts_eq (h : DHouse) (hz : zHouse h <= 1048576) : F.impl_copyOuts h.2.2.2.2.2.2.2.2.1 = some h.2.2.2.2.2.2.2.2.1 := by
 have hn : h.2.2.2.2.2.2.2.2.1.length <= 1048576 := by unfold zHouse zOutS at hz; omega
 unfold F.impl_copyOuts
 have hh := loop_run (step := F.impl_copyOuts.s3) (fun i => (h.2.2.2.2.2.2.2.2.1.take i, h.2.2.2.2.2.2.2.2.1, len h.2.2.2.2.2.2.2.2.1, (i : Int), ())) h.2.2.2.2.2.2.2.2.1.length (fun i hi => by
  unfold F.impl_copyOuts.s3
  simp only
  rw [lt_len hi, inb_nat hi, Int.toNat_natCast, getD_at hi, copyEntry_eq _ (zOutIn hz hi), w64_nat (by omega)]
  simp only [cond_true, chk_true, Option.bind_some]
  rw [fits_take hi hn _ (by omega), show (h.2.2.2.2.2.2.2.2.1[i].1, h.2.2.2.2.2.2.2.2.1[i].2.1, ()) = h.2.2.2.2.2.2.2.2.1[i] from rfl, snoc_take hi]; rfl) (l := .exit (h.2.2.2.2.2.2.2.2.1.take h.2.2.2.2.2.2.2.2.1.length, h.2.2.2.2.2.2.2.2.1, len h.2.2.2.2.2.2.2.2.1, ((h.2.2.2.2.2.2.2.2.1.length : Nat) : Int), ())) (by
  unfold F.impl_copyOuts.s3
  simp only [ge_len, cond_false]) rfl
 rw [List.take_length] at hh
 exact (congrArg (fun z => afterO z _) hh).trans rfl
theorem copyHouse_eq (h : DHouse) (hz : zHouse h <= 1048576) : F.impl_copyHouse h = some h := by
 have n1 : h.2.2.2.1.length <= 1048576 := by unfold zHouse zSeatS at hz; omega
 have n2 : h.2.2.2.2.1.length <= 1048576 := by unfold zHouse zRowSS at hz; omega
 have n3 : h.2.2.2.2.2.1.length <= 1048576 := by unfold zHouse zTurnS at hz; omega
 unfold F.impl_copyHouse
 rw [copyConf_eq h.1 (by unfold zHouse at hz; omega), copyEntries_eq _ (by unfold zHouse at hz; omega), copyOuts_eq h hz]
 simp only [Option.bind_some]
 have l1 := loop_run (step := F.impl_copyHouse.s3) (fun i => (h.2.2.2.1, len h.2.2.2.1, (i : Int), h, nilH, ((h.1, h.2.1, h.2.2.1, h.2.2.2.1.take i, ([] : List (List DRow)), ([] : List DTurn), h.2.2.2.2.2.2.1, h.2.2.2.2.2.2.2.1, h.2.2.2.2.2.2.2.2.1, ()) : DHouse), ())) h.2.2.2.1.length (fun i hi => by
  unfold F.impl_copyHouse.s3
  simp only
  rw [lt_len hi, inb_nat hi, Int.toNat_natCast, getD_at hi, copySeat_eq _ (zSeatIn hz hi), w64_nat (by omega)]
  simp only [cond_true, chk_true, Option.bind_some]
  rw [fits_take hi n1 _ (by omega), snoc_take hi]; rfl) (l := .exit (h.2.2.2.1, len h.2.2.2.1, ((h.2.2.2.1.length : Nat) : Int), h, nilH, ((h.1, h.2.1, h.2.2.1, h.2.2.2.1.take h.2.2.2.1.length, ([] : List (List DRow)), ([] : List DTurn), h.2.2.2.2.2.2.1, h.2.2.2.2.2.2.2.1, h.2.2.2.2.2.2.2.2.1, ()) : DHouse), ())) (by
  unfold F.impl_copyHouse.s3
  simp only [ge_len, cond_false]) rfl
 rw [List.take_length] at l1
 refine (congrArg (fun z => afterO z _) l1).trans ?_
 simp only [afterO]
 have l2 := loop_run (step := F.impl_copyHouse.s8) (fun i => (h.2.2.2.2.1, len h.2.2.2.2.1, (i : Int), h, nilH, ((h.1, h.2.1, h.2.2.1, h.2.2.2.1, h.2.2.2.2.1.take i, ([] : List DTurn), h.2.2.2.2.2.2.1, h.2.2.2.2.2.2.2.1, h.2.2.2.2.2.2.2.2.1, ()) : DHouse), ())) h.2.2.2.2.1.length (fun i hi => by
  obtain ⟨q1, q2⟩ := zRowIn hz hi
  have li := loop_run (step := F.impl_copyHouse.s12) (fun j => (h.2.2.2.2.1[i].take j, h.2.2.2.2.1, len h.2.2.2.2.1, (i : Int), h.2.2.2.2.1[i], len h.2.2.2.2.1[i], (j : Int), h, nilH, ((h.1, h.2.1, h.2.2.1, h.2.2.2.1, h.2.2.2.2.1.take i, ([] : List DTurn), h.2.2.2.2.2.2.1, h.2.2.2.2.2.2.2.1, h.2.2.2.2.2.2.2.2.1, ()) : DHouse), ())) h.2.2.2.2.1[i].length (fun j hj => by
   unfold F.impl_copyHouse.s12
   simp only
   rw [lt_len hj, inb_nat hj, Int.toNat_natCast, getD_at hj, copyRow_eq _ (q2 _ (List.getElem_mem hj)), w64_nat (by omega)]
   simp only [cond_true, chk_true, Option.bind_some]
   rw [fits_take hj q1 _ (by omega), snoc_take hj]; rfl) (l := .exit (h.2.2.2.2.1[i].take h.2.2.2.2.1[i].length, h.2.2.2.2.1, len h.2.2.2.2.1, (i : Int), h.2.2.2.2.1[i], len h.2.2.2.2.1[i], ((h.2.2.2.2.1[i].length : Nat) : Int), h, nilH, ((h.1, h.2.1, h.2.2.1, h.2.2.2.1, h.2.2.2.2.1.take i, ([] : List DTurn), h.2.2.2.2.2.2.1, h.2.2.2.2.2.2.2.1, h.2.2.2.2.2.2.2.2.1, ()) : DHouse), ())) (by
   unfold F.impl_copyHouse.s12
   simp only [ge_len, cond_false]) rfl
  rw [List.take_length] at li
  have li : loopO F.impl_copyHouse.s12 ([], h.2.2.2.2.1, len h.2.2.2.2.1, (i : Int), h.2.2.2.2.1[i], len h.2.2.2.2.1[i], 0, h, nilH, ((h.1, h.2.1, h.2.2.1, h.2.2.2.1, h.2.2.2.2.1.take i, ([] : List DTurn), h.2.2.2.2.2.2.1, h.2.2.2.2.2.2.2.1, h.2.2.2.2.2.2.2.2.1, ()) : DHouse), ()) = _ := li
  unfold F.impl_copyHouse.s8
  simp only
  rw [lt_len hi, inb_nat hi, Int.toNat_natCast, getD_at hi, li]
  simp only [cond_true, chk_true, afterO]
  rw [fits_take hi n2 _ (by omega), snoc_take hi, w64_nat (by omega)]; rfl) (l := .exit (h.2.2.2.2.1, len h.2.2.2.2.1, ((h.2.2.2.2.1.length : Nat) : Int), h, nilH, ((h.1, h.2.1, h.2.2.1, h.2.2.2.1, h.2.2.2.2.1.take h.2.2.2.2.1.length, ([] : List DTurn), h.2.2.2.2.2.2.1, h.2.2.2.2.2.2.2.1, h.2.2.2.2.2.2.2.2.1, ()) : DHouse), ())) (by
  unfold F.impl_copyHouse.s8
  simp only [ge_len, cond_false]) rfl
 rw [List.take_length] at l2
 have l2 : loopO F.impl_copyHouse.s8 (h.2.2.2.2.1, len h.2.2.2.2.1, 0, h, nilH, ((h.1, h.2.1, h.2.2.1, h.2.2.2.1, ([] : List (List DRow)), ([] : List DTurn), h.2.2.2.2.2.2.1, h.2.2.2.2.2.2.2.1, h.2.2.2.2.2.2.2.2.1, ()) : DHouse), ()) = _ := l2
 rw [l2]
 simp only
 have l3 := loop_run (step := F.impl_copyHouse.s19) (fun i => (h.2.2.2.2.2.1, len h.2.2.2.2.2.1, (i : Int), nilH, ((h.1, h.2.1, h.2.2.1, h.2.2.2.1, h.2.2.2.2.1, h.2.2.2.2.2.1.take i, h.2.2.2.2.2.2.1, h.2.2.2.2.2.2.2.1, h.2.2.2.2.2.2.2.2.1, ()) : DHouse), ())) h.2.2.2.2.2.1.length (fun i hi => by
  unfold F.impl_copyHouse.s19
  simp only
  rw [lt_len hi, inb_nat hi, Int.toNat_natCast, getD_at hi, implTurnCopy_eq _ (zTurnIn hz (List.getElem_mem hi)), w64_nat (by omega)]
  simp only [cond_true, chk_true, Option.bind_some]
  rw [fits_take hi n3 _ (by omega), snoc_take hi]; rfl) (l := .exit (h.2.2.2.2.2.1, len h.2.2.2.2.2.1, ((h.2.2.2.2.2.1.length : Nat) : Int), nilH, ((h.1, h.2.1, h.2.2.1, h.2.2.2.1, h.2.2.2.2.1, h.2.2.2.2.2.1.take h.2.2.2.2.2.1.length, h.2.2.2.2.2.2.1, h.2.2.2.2.2.2.2.1, h.2.2.2.2.2.2.2.2.1, ()) : DHouse), ())) (by
  unfold F.impl_copyHouse.s19
  simp only [ge_len, cond_false]) rfl
 rw [List.take_length] at l3
 have l3 : loopO F.impl_copyHouse.s19 (h.2.2.2.2.2.1, len h.2.2.2.2.2.1, 0, nilH, ((h.1, h.2.1, h.2.2.1, h.2.2.2.1, h.2.2.2.2.1, ([] : List DTurn), h.2.2.2.2.2.2.1, h.2.2.2.2.2.2.2.1, h.2.2.2.2.2.2.2.2.1, ()) : DHouse), ()) = _ := l3
 rw [l3]
def zFrame (a : DFrame) : Nat := zSpanS a.2.2.2.2.1 + zItem a.2.2.2.2.2.1
def fFrame (a : DFrame) : Prop := fSpanS a.2.2.2.2.1 /\ fItem a.2.2.2.2.2.1
abbrev nilR : DRow := (([] : List DEntry), ())
abbrev nilF : DFrame := (0, 0, 0, 0, ([] : List DSpan), (0, 0, 0, 0, (0, 0, 0, 0, ([] : List Int), ([] : List Int), ([] : List (List Int)), ()), ()), ())
theorem zEnR' {e : DEntry} (h : EnR e) : zEntry e <= 1048576 := by
 obtain ⟨r0, r1, hr, ⟨h0, _⟩, h1, _⟩ := h.sk.rows
 have hh := h.sk.hist.1
 have hg := h.sk.regs.1
 have hi := okF_small (good_ok.1 h.ids)
 unfold zEntry zSpanS zSketch zIntS zIntSS
 rw [hr]
 simp only [List.map_cons, List.map_nil, List.sum_cons, List.sum_nil, List.length_cons, List.length_nil, zIntS]
 omega
def full (l : List Int) : Nat := l.countP fun x => decide (x > 0)
def entSize (e : DEntry) : Int := 4 + 2 * (e.2.2.1.length : Int) + ((full ((e.2.2.2.1.2.2.2.2.1 ++ e.2.2.2.1.2.2.2.2.2.1) ++ e.2.2.2.1.2.2.2.2.2.2.1.flatten) : Nat) : Int)
def firstSz (r : DRow) : Int := match r.1 with
 | [] => 0
 | e :: _ => mnI 200 (entSize e)
def sizesOf (h : DHouse) (c : Nat) : List Int := h.2.2.2.2.1.map fun rs => firstSz (rs.getD c nilR)
def answerOf (h : DHouse) (k : Nat) : DFrame := (2, (k : Int), (h.2.2.2.1.getD k noS).1, (h.2.2.2.1.getD k noS).2.1, (h.2.2.2.1.getD k noS).2.2.1, (0, 0, 0, 0, (0, 0, 0, 0, ([] : List Int), ([] : List Int), ([] : List (List Int)), ()), ()), ())
theorem l13Answer_eq (h : DHouse) (hP : PartsR h) (k : Nat) (hk : k < 3) : F.spec_l13Answer h (k : Int) = some (answerOf h k) := by
 have hs := (hP.seats k hk).seat
 have hi := okF_small (good_ok.1 hs.tk.1)
 unfold F.spec_l13Answer answerOf
 rw [inb_nat (show k < h.2.2.2.1.length by have := hP.ns; omega), Int.toNat_natCast, l5Copy_eq (h.2.2.2.1.getD k noS).2.2.1 (by omega)]
 rfl
theorem implAnswer_eq (h : DHouse) (hz : zHouse h <= 1048576) (hH : HouseR h) (k : Nat) (hk : k < 3) : F.impl_Answer h (k : Int) = some (answerOf h k) := by
 have hs := (hH.parts.seats k hk).seat
 have hi := okF_small (good_ok.1 hs.tk.1)
 unfold F.impl_Answer answerOf
 rw [implHouse_dec h hz, decB_pos hH]
 simp only [Option.bind_some, within_eq, Bool.not_true, cond_false]
 rw [show inR 0 2 (k : Int) = true from inR_iff.2 ⟨by omega, by omega⟩, inb_nat (show k < h.2.2.2.1.length by have := hH.parts.ns; omega), Int.toNat_natCast, copySet_eq (h.2.2.2.1.getD k noS).2.2.1 (by omega)]
 rfl
theorem slices_Equal_int_dec (a b : List Int) (h : a.length <= 1099511627776) : F.slices_Equal_int a b = some (eqd a b) := by
 unfold F.slices_Equal_int
 by_cases hl : a.length = b.length
 ·rw [show (len a != len b) = false by simp only [len, hl, bne_self_eq_false]]
  have := loop_dec (step := F.slices_Equal_int.s4) a b (fun i => (a, b, len a, (i : Int), ())) hl (fun i ha hb => by
   unfold F.slices_Equal_int.s4
   simp only
   rw [lt_len ha, inb_nat ha, inb_nat hb, Int.toNat_natCast, w64_nat (by omega), getD_at ha, getD_at hb]
   simp only [cond_true, chk_true, bne_dec]
   generalize eqd a[i] b[i] = d
   cases d <;> rfl) (by
   unfold F.slices_Equal_int.s4
   simp only [ge_len, cond_false])
  simp only [cond_false]
  refine (congrArg (fun z => afterO z _) this).trans ?_
  cases eqd a b <;> rfl
 ·rw [show (len a != len b) = true by simp only [len, bne_iff_ne, ne_eq]; omega, eqd_ne (fun e => hl (congrArg List.length e))]; rfl
theorem slices_EqualFunc_SSint__slices_Equal_int_dec (a b : List (List Int)) (h : a.length <= 1099511627776) (hs : ∀ x ∈ a, x.length <= 1099511627776) : F.slices_EqualFunc_SSint__slices_Equal_int a b () = some (eqd a b) := by
 unfold F.slices_EqualFunc_SSint__slices_Equal_int
 by_cases hl : a.length = b.length
 ·rw [show (len a != len b) = false by simp only [len, hl, bne_self_eq_false]]
  have := loop_dec (step := F.slices_EqualFunc_SSint__slices_Equal_int.s4) a b (fun i => (b, (), a, len a, (i : Int), ())) hl (fun i ha hb => by
   unfold F.slices_EqualFunc_SSint__slices_Equal_int.s4
   simp only
   rw [lt_len ha, inb_nat ha, inb_nat hb, Int.toNat_natCast, w64_nat (by omega), getD_at ha, getD_at hb]
   simp only [cond_true, chk_true, slices_Equal_int_dec _ _ (hs _ (List.getElem_mem ha)), Option.bind_some]
   generalize eqd a[i] b[i] = d
   cases d <;> rfl) (by
   unfold F.slices_EqualFunc_SSint__slices_Equal_int.s4
   simp only [ge_len, cond_false])
  simp only [cond_false]
  refine (congrArg (fun z => afterO z _) this).trans ?_
  cases eqd a b <;> rfl
 ·rw [show (len a != len b) = true by simp only [len, bne_iff_ne, ne_eq]; omega, eqd_ne (fun e => hl (congrArg List.length e))]; rfl
theorem impl_SketchSame_dec (a b : DSketch) (h : zSketch a <= 1099511627776) : F.impl_SketchSame a b = some (eqd a b) := by
 have hh : a.2.2.2.2.1.length <= 1099511627776 /\ a.2.2.2.2.2.1.length <= 1099511627776 /\ a.2.2.2.2.2.2.1.length <= 1099511627776 /\ ∀ x ∈ a.2.2.2.2.2.2.1, x.length <= 1099511627776 := by
  unfold zSketch zIntS zIntSS at h
  exact ⟨by omega, by omega, by omega, fun x hx => by have := sum_mem (f := zIntS) hx; unfold zIntS at this; unfold zIntS at h; omega⟩
 obtain ⟨g1, g2, g3, g4⟩ := hh
 unfold F.impl_SketchSame
 simp only [beq_dec, slices_Equal_int_dec _ _ g1, slices_Equal_int_dec _ _ g2, slices_EqualFunc_SSint__slices_Equal_int_dec _ _ g3 g4, Option.bind_some]
 obtain ⟨a0, a1, a2, a3, a4, a5, a6, u⟩ := a
 obtain ⟨b0, b1, b2, b3, b4, b5, b6, v⟩ := b
 by_cases h0 : a0 = b0
 case neg => simp [eqd, h0]
 subst h0
 by_cases h1 : a1 = b1
 case neg => simp [eqd, h1]
 subst h1
 by_cases h2 : a2 = b2
 case neg => simp [eqd, h2]
 subst h2
 by_cases h3 : a3 = b3
 case neg => simp [eqd, h3]
 subst h3
 by_cases h4 : a4 = b4
 case neg => simp [eqd, h4]
 subst h4
 by_cases h5 : a5 = b5
 case neg => simp [eqd, h5]
 subst h5
 by_cases h6 : a6 = b6
 case neg => simp [eqd, h6]
 subst h6
 simp [eqd]
theorem impl_itemSame_dec (a b : DItem) (h : zItem a <= 1099511627776) : F.impl_itemSame a b = some (eqd a b) := by
 obtain ⟨a0, a1, a2, a3, a4, u⟩ := a
 obtain ⟨b0, b1, b2, b3, b4, v⟩ := b
 unfold F.impl_itemSame
 simp only [beq_dec, impl_SketchSame_dec _ _ h, Option.bind_some]
 by_cases h0 : a0 = b0
 case neg => simp [eqd, h0]
 subst h0
 by_cases h1 : a1 = b1
 case neg => simp [eqd, h1]
 subst h1
 by_cases h2 : a2 = b2
 case neg => simp [eqd, h2]
 subst h2
 by_cases h3 : a3 = b3
 case neg => simp [eqd, h3]
 subst h3
 by_cases h4 : a4 = b4
 case neg => simp [eqd, h4]
 subst h4
 simp [eqd]
abbrev zeroItem : DItem := (0, 0, 0, 0, (0, 0, 0, 0, [], [], [], ()), ())
structure FrR (f : DFrame) : Prop where
 kind : 0 <= f.1 /\ f.1 <= 3
 agent : 0 <= f.2.1 /\ f.2.1 <= 2
 epoch : 0 <= f.2.2.1 /\ f.2.2.1 <= 1000
 granted : 0 <= f.2.2.2.1 /\ f.2.2.2.1 <= 60
 taken : Good f.2.2.2.2.1 /\ Within f.2.2.2.2.1 60
 data : f.1 = 1 -> ItR f.2.2.2.2.2.1
 none : f.1 ≠ 1 -> f.2.2.2.2.2.1 = zeroItem
theorem l7Zero_eq (x : DItem) : F.spec_l7Zero x = some (eqd x zeroItem) := by
 obtain ⟨a, b, c, d, ⟨e, f, g, h, i, j, k, u⟩, v⟩ := x
 unfold F.spec_l7Zero
 have hl : ∀ {α : Type} (l : List α), (len l == 0) = eqd l [] := by
  intro α l
  cases l with
  | nil => simp [len, eqd]
  | cons x l => simp [len, eqd]; omega
 simp only [hl]
 simp only [beq_dec]
 by_cases h0 : a = 0
 case neg => simp [eqd, h0]
 by_cases h1 : b = 0
 case neg => simp [eqd, h0, h1]
 by_cases h2 : c = 0
 case neg => simp [eqd, h0, h1, h2]
 by_cases h3 : d = 0
 case neg => simp [eqd, h0, h1, h2, h3]
 by_cases h4 : e = 0
 case neg => simp [eqd, h0, h1, h2, h3, h4]
 by_cases h5 : f = 0
 case neg => simp [eqd, h0, h1, h2, h3, h4, h5]
 by_cases h6 : g = 0
 case neg => simp [eqd, h0, h1, h2, h3, h4, h5, h6]
 by_cases h7 : h = 0
 case neg => simp [eqd, h0, h1, h2, h3, h4, h5, h6, h7]
 by_cases h8 : i = []
 case neg => simp [eqd, h0, h1, h2, h3, h4, h5, h6, h7, h8]
 by_cases h9 : j = []
 case neg => simp [eqd, h0, h1, h2, h3, h4, h5, h6, h7, h8, h9]
 simp [eqd, h0, h1, h2, h3, h4, h5, h6, h7, h8, h9]
theorem frLoop (f : DFrame) (h : f.2.2.2.2.1.length <= 1048576) : ∃ y, loopO F.spec_FrameOk.s4 (0, f, ()) = some y /\ ((y = .inl ((f.2.2.2.2.1.length : Int), f, ()) /\ Within f.2.2.2.2.1 60) \/ (y = .inr false /\ ¬ Within f.2.2.2.2.1 60)) := by
 have hh := loop_all (step := F.spec_FrameOk.s4) f.2.2.2.2.1 (fun i => ((i : Int), f, ())) (fun x => !decide (x.1 < 1) && !decide (x.2.1 > 60)) false (fun i hi => by
  unfold F.spec_FrameOk.s4
  simp only
  rw [lt_len hi, inb_nat hi, Int.toNat_natCast, w64_nat (by omega), getD_at hi]
  simp only [cond_true, chk_true]
  cases decide (f.2.2.2.2.1[i].1 < 1) with
  | true => rfl
  | false => cases decide (f.2.2.2.2.1[i].2.1 > 60) <;> rfl) (by
  unfold F.spec_FrameOk.s4
  simp only [ge_len, cond_false])
 have hw : f.2.2.2.2.1.all (fun x => !decide (x.1 < 1) && !decide (x.2.1 > 60)) = true ↔ Within f.2.2.2.2.1 60 := by
  rw [List.all_eq_true]
  constructor
  ·intro h i hi
   have := h _ (List.getElem_mem hi)
   simp at this; omega
  ·intro h x hx
   obtain ⟨i, hi, rfl⟩ := List.getElem_of_mem hx
   have := h i hi
   simp; omega
 refine ⟨_, hh, ?_⟩
 cases hb : f.2.2.2.2.1.all (fun x => !decide (x.1 < 1) && !decide (x.2.1 > 60)) with
 | true => exact .inl ⟨rfl, hw.1 hb⟩
 | false => exact .inr ⟨rfl, fun e => by rw [hw.2 e] at hb; cases hb⟩
theorem frOk_same (f : DFrame) (h : zFrame f <= 1048576) : ∃ b, F.spec_FrameOk f = some b /\ F.impl_FrameOk f = some b /\ (b = true ↔ FrR f) := by
 have hz : f.2.2.2.2.1.length + zItem f.2.2.2.2.2.1 <= 1048576 := h
 obtain ⟨b, hs, hi, hb⟩ := itOk_same f.2.2.2.2.2.1 (by omega)
 obtain ⟨c, ha1, ha2, hc⟩ := allIn_iff f.2.2.2.2.1 60 (by omega)
 have hsame := impl_itemSame_dec f.2.2.2.2.2.1 zeroItem (by omega)
 obtain ⟨y, hy, hw⟩ := frLoop f (by omega)
 unfold F.spec_FrameOk F.impl_FrameOk F.spec_l6Agent
 simp only [l1In_eq, within_eq, ha2, hi, hsame, Option.bind_some, hy]
 cases h1 : inR 0 3 f.1 with
 | false => exact ⟨false, rfl, rfl, fun e => (by cases e), fun e => by rw [inR_iff.2 e.kind] at h1; cases h1⟩
 | true => cases h2 : inR 0 2 f.2.1 with
  | false => exact ⟨false, rfl, rfl, fun e => (by cases e), fun e => by rw [inR_iff.2 e.agent] at h2; cases h2⟩
  | true => cases h3 : inR 0 1000 f.2.2.1 with
   | false => exact ⟨false, rfl, rfl, fun e => (by cases e), fun e => by rw [inR_iff.2 e.epoch] at h3; cases h3⟩
   | true => cases h4 : inR 0 60 f.2.2.2.1 with
    | false => exact ⟨false, rfl, rfl, fun e => (by cases e), fun e => by rw [inR_iff.2 e.granted] at h4; cases h4⟩
    | true =>
     rcases specSet_ok f.2.2.2.2.1 (by omega) with ⟨e1, hg⟩ | ⟨e1, hg⟩
     ·rcases hw with ⟨rfl, hw⟩ | ⟨rfl, hw⟩
      ·have hc := hc.2 ⟨hg, hw⟩
       subst hc
       simp only [e1, Option.bind_some, Bool.not_true, cond_false, afterO]
       by_cases hk : f.1 = 1
       ·rw [show (f.1 == 1) = true by simp [hk]]
        simp only [cond_true, hs, Option.bind_some]
        exact ⟨b, rfl, rfl, fun e => ⟨inR_iff.1 h1, inR_iff.1 h2, inR_iff.1 h3, inR_iff.1 h4, ⟨hg, hw⟩, fun _ => hb.1 e, fun e => absurd hk e⟩, fun e => hb.2 (e.data hk)⟩
       ·rw [show (f.1 == 1) = false by simp [hk]]
        simp only [cond_false, l7Zero_eq, Option.bind_some]
        exact ⟨_, rfl, rfl, fun e => ⟨inR_iff.1 h1, inR_iff.1 h2, inR_iff.1 h3, inR_iff.1 h4, ⟨hg, hw⟩, fun e => absurd e hk, fun _ => eqd_true.1 e⟩, fun e => eqd_true.2 (e.none hk)⟩
      ·have hc : c = false := by
        cases c with
        | false => rfl
        | true => exact absurd (hc.1 rfl).2 hw
       subst hc
       simp only [e1, Option.bind_some, Bool.not_true, cond_false, afterO]
       exact ⟨false, rfl, rfl, fun e => (by cases e), fun e => absurd e.taken.2 hw⟩
     ·have hc : c = false := by
       cases c with
       | false => rfl
       | true => exact absurd (hc.1 rfl).1 hg
      subst hc
      simp only [e1]
      exact ⟨false, rfl, rfl, fun e => (by cases e), fun e => absurd e.taken.1 hg⟩
theorem push_room {r : DRow} {e : DEntry} (j : Bool) (hr : RoR r) (he : EnR e) (ha : apRow r.1 e.2.2.1 = true) (hl : r.1.length < 24) : ∃ L, pushed r e j = ((L, ()), true) /\ RoR (L, ()) /\ ∀ n, memS (idsL L) n ↔ memS (idsL r.1) n \/ memS e.2.2.1 n := by
 unfold pushed
 cases hf : (bif j then r.1.findIdx? (atP e.1 e.2.1) else none) with
 | none =>
  simp only
  rw [if_neg (by omega)]
  refine ⟨_, rfl, (ror_app hr he).2 ⟨by omega, ha⟩, fun n => ?_⟩
  rw [mem_idsL, mem_idsL]
  constructor
  ·rintro ⟨x, hx, h⟩
   rcases List.mem_append.1 hx with hx | hx
   ·exact .inl ⟨x, hx, h⟩
   ·rw [List.mem_singleton.1 hx] at h; exact .inr h
  ·rintro (⟨x, hx, h⟩ | h)
   ·exact ⟨x, List.mem_append_left _ hx, h⟩
   ·exact ⟨e, List.mem_append_right _ (List.mem_singleton.2 rfl), h⟩
 | some k =>
  have hk : r.1.findIdx? (atP e.1 e.2.1) = some k := by
   cases j with
   | true => exact hf
   | false => cases hf
  obtain ⟨hi, hk1, hk2⟩ := find_at hk
  have hek := hr.ok.all _ (List.getElem_mem hi)
  have hap : apB r.1[k].2.2.1 e.2.2.1 = true := by
   unfold apRow at ha
   rw [List.all_eq_true] at ha
   exact ha _ (List.getElem_mem hi)
  simp only
  refine ⟨_, rfl, by rw [getD_at hi]; exact (ror_set hr he hi hap).2 ha, fun n => ?_⟩
  rw [mem_idsL, mem_idsL, getD_at hi]
  have hj : ∀ m, memS (addE r.1[k] e).2.2.1 m ↔ memS r.1[k].2.2.1 m \/ memS e.2.2.1 m := fun m => joinS_mem (good_ok.1 hek.ids) (okF_ends (good_ok.1 he.ids))
  constructor
  ·rintro ⟨x, hx, h⟩
   obtain ⟨i, hi', rfl⟩ := List.getElem_of_mem hx
   rw [List.getElem_set] at h
   split at h
   ·rcases (hj n).1 h with h | h
    ·exact .inl ⟨_, List.getElem_mem hi, h⟩
    ·exact .inr h
   ·exact .inl ⟨_, List.getElem_mem (by simpa using hi'), h⟩
  ·rintro (⟨x, hx, h⟩ | h)
   ·obtain ⟨i, hi', rfl⟩ := List.getElem_of_mem hx
    by_cases hik : k = i
    ·subst hik
     exact ⟨_, List.mem_set (h := hi) .., (hj n).2 (.inl h)⟩
    ·refine ⟨(r.1.set k (addE r.1[k] e))[i]'(by rw [List.length_set]; exact hi'), List.getElem_mem _, ?_⟩
     rw [List.getElem_set_ne hik]
     exact h
   ·exact ⟨_, List.mem_set (h := hi) .., (hj n).2 (.inr h)⟩
def grantS (s : DSeat) (n : Int) : DSeat := (s.1, mnI 60 (s.2.2.2.1 + n), s.2.2)
theorem seat_small {s : DSeat} {n : Int} (h : SeatG s n) : s.2.2.1.length <= 5001 /\ szS s.2.2.1 <= 10000 := by
 have h1 := okF_small (good_ok.1 h.tk.1)
 have h2 := szS_rng (Int.le_refl 0) (good_ok.1 h.tk.1)
 omega
theorem grant_eq {s : DSeat} {n : Int} (h : SeatG s n) : F.spec_SeatGrant s n = some (grantS s n) /\ F.impl_SeatGrant s n = some (grantS s n) := by
 obtain ⟨h1, h2⟩ := seat_small h
 have h3 := h.mg
 have h4 := h.per
 obtain ⟨d1, d2⟩ := seatG_dec s n (by omega)
 unfold F.spec_SeatGrant F.impl_SeatGrant grantS
 rw [l9Copy_eq s (by omega), copySeat_eq s (by omega), d1, d2, decB_pos h]
 simp only [Option.bind_some, cond_true, l1Min_eq]
 rw [w64_id (by omega) (by omega)]
 exact ⟨rfl, rfl⟩
theorem within_mono {S : List Sp} {a b : Int} (h : Within S a) (hab : a <= b) : Within S b := fun i hi => by
 have := h i hi
 omega
theorem grant_ok {s : DSeat} {n : Int} (h : SeatG s n) : SeatG (grantS s n) n := by
 have h3 := h.mg
 have h4 := h.per
 have h5 := h.gr
 have h6 := h.cr
 have hm := mn3 60 (s.2.2.2.1 + n)
 refine ⟨h4, h.ep, ?_, ⟨h.tk.1, within_mono h.tk.2 ?_⟩, h3, ?_, h.la⟩
 ·show 0 <= mnI 60 (s.2.2.2.1 + n) /\ mnI 60 (s.2.2.2.1 + n) <= 60
  omega
 ·show s.2.1 <= mnI 60 (s.2.2.2.1 + n)
  omega
 ·show mnI 60 (s.2.2.2.1 + n) <= s.2.2.2.1 + n
  omega
def lastS (s : DSeat) (t : Int) : DSeat := (s.1, s.2.1, s.2.2.1, s.2.2.2.1, t, s.2.2.2.2.2)
theorem last_ok {s : DSeat} {n t : Int} (h : SeatG s n) (h0 : 0 <= t) (h1 : t <= 100000) : SeatG (lastS s t) n := ⟨h.per, h.ep, h.gr, h.tk, h.mg, h.cr, ⟨h0, by show t <= 1000000; omega⟩⟩
def takeS (s : DSeat) (q : Int) : DSeat := (s.1, s.2.1, put (q, q, ()) s.2.2.1, s.2.2.2)
theorem take_mem {s : DSeat} {n : Int} (h : SeatG s n) (q i : Int) : memS (takeS s q).2.2.1 i ↔ memS s.2.2.1 i \/ i = q := by
 have := put_mem (s := s.2.2.1) (x := (q, q, ())) (n := i) (Int.le_refl _) (good_le h.tk.1)
 unfold takeS
 simp only
 rw [this]
 constructor
 ·rintro (h | h)
  ·exact .inl h
  ·exact .inr (by simp only at h; omega)
 ·rintro (h | h)
  ·exact .inl h
  ·exact .inr (by simp only; omega)
theorem takeS_ok {s : DSeat} {n q : Int} (h : SeatG s n) (h1 : 1 <= q) (h2 : q <= s.2.1) (hn : ¬ memS s.2.2.1 q) : SeatG (takeS s q) n := by
 have h3 := h.gr
 have hok := good_ok.1 h.tk.1
 have hp : okF 0 (put (q, q, ()) s.2.2.1) := put_ok hok (by simp only; omega) (Int.le_refl _) (by simp only; omega)
 have hq : okF 0 ([(q, q, ())] : List Sp) := ⟨by simp only; omega, Int.le_refl _, by simp only; omega, trivial⟩
 have hsz : szS (put (q, q, ()) s.2.2.1) = szS s.2.2.1 + szS [(q, q, ())] := szS_join hok hq (fun i hi ⟨x, hx, h4, h5⟩ => by
  rw [List.mem_singleton.1 hx] at h4 h5
  have : i = q := by simp only at h4 h5; omega
  subst this; exact hn hi)
 have hs1 : szS ([(q, q, ())] : List Sp) = 1 := by unfold szS; simp
 have hmg := h.mg
 refine ⟨h.per, h.ep, h.gr, ⟨good_ok.2 hp, fun i hi => ?_⟩, ?_, h.cr, h.la⟩
 ·have hr : Rng (takeS s q).2.2.1 1 s.2.1 := (rng_iff (fun x hx => (okF_all hp x hx).2.1)).2 (fun i hi => by
   rcases (take_mem h q i).1 hi with hi | hi
   ·have := seatG_mem h hi; omega
   ·omega)
  exact hr _ (List.getElem_mem hi)
 ·show 0 <= s.2.2.2.1 /\ s.2.2.2.1 <= szS (put (q, q, ()) s.2.2.1)
  omega
theorem data_eq {s : DSeat} {n e q : Int} (h : SeatG s n) (h1 : 1 <= q) (h2 : q <= 60) : ∃ r : DSeat × Int, F.spec_SeatData s n e q = some r /\ F.impl_SeatData s n e q = some r /\
  (r.2 = 2 \/ r.2 = 1 \/ r.2 = 3 \/ (r.2 = 0 /\ r.1 = takeS s q /\ q <= s.2.1 /\ ¬ memS s.2.2.1 q)) := by
 obtain ⟨l1, _⟩ := seat_small h
 obtain ⟨d1, d2⟩ := seatG_dec s n (by omega)
 unfold F.spec_SeatData F.impl_SeatData
 rw [l9Copy_eq s (by omega), copySeat_eq s (by omega), d1, d2, decB_pos h, specHas_eq _ _ (by omega), implHas_eq _ _ (by omega)]
 simp only [Option.bind_some, l1In_eq, within_eq]
 rw [show inR 1 60 q = true from inR_iff.2 ⟨h1, h2⟩]
 simp only [Bool.not_true, cond_false]
 cases (e != s.1) with
 | true => exact ⟨_, rfl, rfl, .inl rfl⟩
 | false =>
  cases hh : hasB s.2.2.1 q with
  | true => exact ⟨_, rfl, rfl, .inr (.inl rfl)⟩
  | false =>
   by_cases hg : q > s.2.1
   ·rw [decide_eq_true hg]
    exact ⟨_, rfl, rfl, .inr (.inr (.inl rfl))⟩
   ·rw [decide_eq_false hg, setAdd_eq s.2.2.1 q (by omega) h.tk.1 (by omega) (by omega) hh]
    have e1 : F.spec_l8One q = some (q, q, ()) := rfl
    rw [e1]
    simp only [cond_false, Option.bind_some]
    rw [l5Put_eq s.2.2.1 (q, q, ()) (by omega) (Int.le_refl 0) (good_ok.1 h.tk.1) (by simp only; omega) (Int.le_refl _) (by simp only; omega)]
    refine ⟨_, rfl, rfl, .inr (.inr (.inr ⟨rfl, rfl, by omega, fun hm => ?_⟩))⟩
    rw [has_memS.2 hm] at hh; cases hh
theorem entryOf_eq {k : Int} {x : DItem} (h0 : 0 <= k) (h1 : k <= 2) (h : ItR x) : F.spec_EntryOf k x = some ((x.2.2.1, x.2.2.2.1, [(100 * k + x.1, 100 * k + x.1, ())], x.2.2.2.2.1, ()), true) /\ F.impl_EntryOf k x = some ((x.2.2.1, x.2.2.2.1, [(100 * k + x.1, 100 * k + x.1, ())], x.2.2.2.2.1, ()), true) := by
 have hs := h.seq
 have hz := zSkR h.sk
 obtain ⟨b, o1, o2, o3⟩ := itOk_same x (by show zSketch _ <= _; omega)
 have hb := o3.2 h
 subst hb
 have hid : F.spec_IdOf k x.1 = some (100 * k + x.1) := by
  unfold F.spec_IdOf F.spec_l6Agent
  simp only [l1In_eq, Option.bind_some]
  rw [show inR 0 2 k = true from inR_iff.2 ⟨h0, h1⟩, show inR 1 60 x.1 = true from inR_iff.2 hs, w64_id (x := 100 * k) (by omega) (by omega), w64_id (by omega) (by omega)]
  rfl
 unfold F.spec_EntryOf F.impl_EntryOf
 rw [hid, idOf_eq k x.1 h0 h1 hs.1 hs.2, o1, o2, l3Copy_eq _ (by omega), copySketch_eq _ (by omega)]
 simp only [Option.bind_some, Bool.not_true, cond_false]
 rw [decide_eq_false (by omega)]
 exact ⟨rfl, rfl⟩
theorem implItems_eq (a : DHouse) (h : zRowSS a.2.2.2.2.1 <= 1048576) : F.impl_Items a = some ((cntRR a.2.2.2.2.1 : Nat) : Int) := by
 unfold F.impl_Items
 rw [rowEntries_eq a h]
 simp only [Option.bind_some, len, entRR_len]
theorem zAns {h : DHouse} (hH : HouseR h) {k : Nat} (hk : k < 3) : zFrame (answerOf h k) <= 10000 := by
 have hs := (hH.parts.seats k hk).seat
 have hi := okF_small (good_ok.1 hs.tk.1)
 unfold answerOf
 simp only [zFrame, zSpanS, zItem, zSketch, zIntS, zIntSS, List.length_nil, List.map_nil, List.sum_nil]
 omega
theorem ans_eq {h : DHouse} (hH : HouseR h) {k : Nat} (hk : k < 3) : F.spec_l13Answer h (k : Int) = some (answerOf h k) /\ F.impl_Answer h (k : Int) = some (answerOf h k) :=
 ⟨l13Answer_eq h hH.parts k hk, implAnswer_eq h (by have := house_z hH; omega) hH k hk⟩
theorem ingress_eq (h : DHouse) (f : DFrame) (hz : zHouse h <= 1048576) (hf : zFrame f <= 1048576) : ∃ r : DHouse × DFrame × Int, F.spec_Ingress h f = some r /\ F.impl_Ingress h f = some r /\ zHouse r.1 <= 1048576 /\ zFrame r.2.1 <= 10000 := by
 obtain ⟨bf, o1, o2, o3⟩ := frOk_same f hf
 have zn : zFrame nilF <= 10000 := by simp [zFrame, zSpanS, zItem, zSketch, zIntS, zIntSS]
 unfold F.spec_Ingress F.impl_Ingress
 rw [l12Copy_eq h hz, copyHouse_eq h hz, specHouse_dec h hz, implHouse_dec h hz, o1, o2]
 simp only [Option.bind_some]
 by_cases hH : HouseR h
 case neg => rw [decB_neg hH]; exact ⟨_, rfl, rfl, by simp only; omega, zn⟩
 rw [decB_pos hH]
 cases bf with
 | false => exact ⟨_, rfl, rfl, by simp only; omega, zn⟩
 | true =>
 have hF := o3.1 rfl
 clear o1 o2 o3 hf
 obtain ⟨kind, ag, ep, gr, tk, ⟨sq, cls, key, win, sk, u1⟩, u⟩ := f
 have hag : 0 <= ag /\ ag <= 2 := hF.agent
 obtain ⟨k, rfl⟩ : ∃ k : Nat, ag = (k : Int) := ⟨ag.toNat, by omega⟩
 have hk : k < 3 := by omega
 have hns := hH.parts.ns
 have hnr := hH.parts.nr
 have hk1 : k < h.2.2.2.1.length := by omega
 have hk2 : k < h.2.2.2.2.1.length := by omega
 have hsr := hH.parts.seats k hk
 have hcl := hH.parts.clock
 have hL := last_ok hsr.seat hcl.1 hcl.2
 have hH1 : HouseR (setSeat h k (lastS (h.2.2.2.1.getD k noS) h.2.1)) := house_seat hH hk hL rfl rfl
 obtain ⟨a1, a2⟩ := ans_eq hH1 hk
 have hz1 := house_z hH1
 have za := zAns hH1 hk
 have a1 : F.spec_l13Answer (h.1, h.2.1, h.2.2.1, h.2.2.2.1.set k (lastS (h.2.2.2.1.getD k noS) h.2.1), h.2.2.2.2) (k : Int) = some (answerOf (setSeat h k (lastS (h.2.2.2.1.getD k noS) h.2.1)) k) := a1
 have a2 : F.impl_Answer (h.1, h.2.1, h.2.2.1, h.2.2.2.1.set k (lastS (h.2.2.2.1.getD k noS) h.2.1), h.2.2.2.2) (k : Int) = some (answerOf (setSeat h k (lastS (h.2.2.2.1.getD k noS) h.2.1)) k) := a2
 have hz1 : zHouse (h.1, h.2.1, h.2.2.1, h.2.2.2.1.set k (lastS (h.2.2.2.1.getD k noS) h.2.1), h.2.2.2.2) <= 1000000 := hz1
 have e2 : ((h.2.2.2.1.getD k noS).1, (h.2.2.2.1.getD k noS).2.1, (h.2.2.2.1.getD k noS).2.2.1, (h.2.2.2.1.getD k noS).2.2.2.1, h.2.1, (h.2.2.2.1.getD k noS).2.2.2.2.2) = lastS (h.2.2.2.1.getD k noS) h.2.1 := rfl
 simp only [Bool.not_true, cond_false]
 by_cases hk0 : kind = 0
 ·subst hk0
  have hG : HouseR (setSeat h k (grantS (lastS (h.2.2.2.1.getD k noS) h.2.1) h.1.1)) := house_seat hH hk (grant_ok hL) rfl rfl
  obtain ⟨b1, b2⟩ := ans_eq hG hk
  have hz2 := house_z hG
  have zb := zAns hG hk
  have b1 : F.spec_l13Answer (h.1, h.2.1, h.2.2.1, h.2.2.2.1.set k (grantS (lastS (h.2.2.2.1.getD k noS) h.2.1) h.1.1), h.2.2.2.2) (k : Int) = some (answerOf (setSeat h k (grantS (lastS (h.2.2.2.1.getD k noS) h.2.1) h.1.1)) k) := b1
  have b2 : F.impl_Answer (h.1, h.2.1, h.2.2.1, h.2.2.2.1.set k (grantS (lastS (h.2.2.2.1.getD k noS) h.2.1) h.1.1), h.2.2.2.2) (k : Int) = some (answerOf (setSeat h k (grantS (lastS (h.2.2.2.1.getD k noS) h.2.1) h.1.1)) k) := b2
  have hz2 : zHouse (h.1, h.2.1, h.2.2.1, h.2.2.2.1.set k (grantS (lastS (h.2.2.2.1.getD k noS) h.2.1) h.1.1), h.2.2.2.2) <= 1000000 := hz2
  simp only [bne_self_eq_false, cond_false, beq_self_eq_true, cond_true]
  rw [inb_nat hk1, Int.toNat_natCast]
  simp only [chk_true, Option.bind_some, List.length_set]
  rw [inb_nat hk1]
  simp only [chk_true, e2, getD_set_eq hk1, (grant_eq hL).1, (grant_eq hL).2, Option.bind_some, List.set_set]
  by_cases hc : h.2.2.1 = true
  ·rw [show (!h.2.2.1) = false by rw [hc]; rfl]
   simp only [cond_false, a1, a2, Option.bind_some]
   exact ⟨_, rfl, rfl, by simp only; omega, za⟩
  ·rw [show (!h.2.2.1) = true by simpa using hc]
   simp only [cond_true, b1, b2, Option.bind_some]
   exact ⟨_, rfl, rfl, by simp only; omega, zb⟩
 ·rw [show (kind != 0) = true by simpa using hk0]
  simp only [cond_true]
  by_cases hk3 : kind = 1
  case neg =>
   rw [show (kind != 1) = true by simpa using hk3]
   exact ⟨_, rfl, rfl, by simp only; omega, zn⟩
  subst hk3
  have hit : ItR (sq, cls, key, win, sk, u1) := hF.data rfl
  have hsq : 1 <= sq /\ sq <= 60 := hit.seq
  have hcls : 0 <= cls /\ cls <= 1 := hit.cls
  obtain ⟨c, rfl⟩ : ∃ c : Nat, cls = (c : Int) := ⟨cls.toNat, by omega⟩
  have hc2 : c < 2 := by omega
  simp only [bne_self_eq_false, cond_false]
  rw [inb_nat hk1, Int.toNat_natCast]
  simp only [chk_true, Option.bind_some, List.length_set]
  rw [inb_nat hk1]
  obtain ⟨r, d1, d2, d3⟩ := data_eq (e := ep) hL hsq.1 hsq.2
  simp only [chk_true, e2, getD_set_eq hk1, d1, d2, Option.bind_some, List.set_set, show ((1 : Int) == 0) = false from rfl, cond_false]
  rcases d3 with e | e | e | ⟨e, es, hgr, hnm⟩
  ·simp only [e, show ((2 : Int) == 2) = true from rfl, cond_true, a1, a2, Option.bind_some]
   exact ⟨_, rfl, rfl, by simp only; omega, za⟩
  ·simp only [e, show ((1 : Int) == 2) = false from rfl, show ((1 : Int) == 1) = true from rfl, cond_true, cond_false, a1, a2, Option.bind_some]
   exact ⟨_, rfl, rfl, by simp only; omega, za⟩
  ·simp only [e, show ((3 : Int) == 2) = false from rfl, show ((3 : Int) == 1) = false from rfl, show ((3 : Int) == 3) = true from rfl, cond_true, cond_false, a1, a2, Option.bind_some]
   exact ⟨_, rfl, rfl, by simp only; omega, za⟩
  ·simp only [e, es, show ((0 : Int) == 2) = false from rfl, show ((0 : Int) == 1) = false from rfl, show ((0 : Int) == 3) = false from rfl, show ((0 : Int) == 0) = true from rfl, cond_true, cond_false]
   by_cases hc : h.2.2.1 = true
   ·simp only [hc, cond_true]
    simp only [hc] at a1 a2 hz1
    simp only [a1, a2, Option.bind_some]
    exact ⟨_, rfl, rfl, by simp only; omega, za⟩
   have hcf : h.2.2.1 = false := by simpa using hc
   have htwo := hsr.two
   have hcr : c < (h.2.2.2.2.1.getD k []).length := by omega
   have hrI := hsr.rows _ (List.getElem_mem hcr)
   have hgd : (h.2.2.2.2.1.getD k []).getD c nilR = (h.2.2.2.2.1.getD k [])[c] := getD_at hcr
   obtain ⟨e3, e4⟩ := entryOf_eq (k := (k : Int)) (by omega) (by omega) hit
   have zr : zRowSS h.2.2.2.2.1 <= 1048576 := by unfold zHouse at hz; omega
   have i1 : F.spec_Items (h.1, h.2.1, h.2.2.1, h.2.2.2.1.set k (lastS (h.2.2.2.1.getD k noS) h.2.1), h.2.2.2.2) = some ((cntRR h.2.2.2.2.1 : Nat) : Int) := specItems_eq _ zr
   have i2 := implItems_eq h zr
   have hze : EnR (key, win, [(100 * (k : Int) + sq, 100 * (k : Int) + sq, ())], sk, ()) := ⟨hit.key, hit.win, good_ok.2 ⟨by simp only; omega, Int.le_refl _, by simp only; omega, trivial⟩, by simp, hit.sk⟩
   have hzn := zEnR' hze
   have hzr : zRow ((h.2.2.2.2.1.getD k []).getD c nilR) <= 1048576 := by
    have hmem : ∀ y ∈ h.2.2.2.2.1.getD k [], zRow y <= 1048576 := by rw [getD_at hk2]; exact (zRowIn hz hk2).2
    rw [hgd]
    exact hmem _ (List.getElem_mem hcr)
   have hro : RoR ((h.2.2.2.2.1.getD k []).getD c nilR) := by rw [hgd]; exact hrI.1
   have hfew : ((h.2.2.2.2.1.getD k []).getD c nilR).1.length < 24 := by
    have hcr' : c < h.2.2.2.2.1[k].length := by rw [getD_at hk2] at hcr; exact hcr
    have := row_room hH hk2 hcr'
    rw [getD_at hk2, getD_at hcr']
    omega
   have hnm0 : ¬ memS (h.2.2.2.1.getD k noS).2.2.1 sq := hnm
   have hnot : ¬ memS (idsL (allE h)) (100 * (k : Int) + sq) := fun hh => hnm0 ((tk_own hH hk hsq.1 hsq.2).1 hh)
   have hapr : apRow ((h.2.2.2.2.1.getD k []).getD c nilR).1 [(100 * (k : Int) + sq, 100 * (k : Int) + sq, ())] = true := by
    have hcr' : c < h.2.2.2.2.1[k].length := by rw [getD_at hk2] at hcr; exact hcr
    obtain ⟨P, Q, hPQ, _⟩ := allE_row hk2 hcr'
    unfold apRow
    rw [List.all_eq_true]
    intro y hy
    refine (ap_iff (hro.ok.all y hy).ids hze.ids).2 (fun n hn1 hn2 => ?_)
    obtain ⟨z, hz', q1, q2⟩ := hn2
    rw [List.mem_singleton.1 hz'] at q1 q2
    have : n = 100 * (k : Int) + sq := by simp only at q1 q2; omega
    subst this
    refine hnot (mem_idsL.2 ⟨y, ?_, hn1⟩)
    rw [getD_at hk2, getD_at hcr'] at hy
    rw [hPQ]
    exact List.mem_append_right _ (List.mem_append_left _ hy)
   obtain ⟨X, hX1, hX2, hX3⟩ := push_room (decide (((cntRR h.2.2.2.2.1 : Nat) : Int) >= h.1.2.2.2.2.1)) hro hze hapr hfew
   have p1 := specPush_eq ((h.2.2.2.2.1.getD k []).getD c nilR) (key, win, [(100 * (k : Int) + sq, 100 * (k : Int) + sq, ())], sk, ()) (decide (((cntRR h.2.2.2.2.1 : Nat) : Int) >= h.1.2.2.2.2.1)) hzr hzn
   have p2 := implPush_eq ((h.2.2.2.2.1.getD k []).getD c nilR) (key, win, [(100 * (k : Int) + sq, 100 * (k : Int) + sq, ())], sk, ()) (decide (((cntRR h.2.2.2.2.1 : Nat) : Int) >= h.1.2.2.2.2.1)) hzr hzn
   rw [decB_pos ⟨hro, hze, hapr⟩, cond_true, hX1] at p1 p2
   have hB : HouseR (setBoth h k c (takeS (lastS (h.2.2.2.1.getD k noS) h.2.1) sq) (X, ())) := by
    refine house_push hH hk hc2 (n := sq) hsq.1 hsq.2 (takeS_ok hL hsq.1 hgr hnm) rfl (fun i => take_mem hL sq i) hnm0 hX2 (fun i => ?_)
    rw [hX3]
    have : memS [(100 * (k : Int) + sq, 100 * (k : Int) + sq, ())] i ↔ i = 100 * (k : Int) + sq := by
     constructor
     ·rintro ⟨z, hz', q1, q2⟩
      rw [List.mem_singleton.1 hz'] at q1 q2
      simp only at q1 q2; omega
     ·intro q
      exact ⟨_, List.mem_singleton.2 rfl, by simp only; omega, by simp only; omega⟩
    show _ \/ memS [(100 * (k : Int) + sq, 100 * (k : Int) + sq, ())] i ↔ _
    rw [this]
   obtain ⟨b1, b2⟩ := ans_eq hB hk
   have hz2 := house_z hB
   have zb := zAns hB hk
   have b1 : F.spec_l13Answer (h.1, h.2.1, h.2.2.1, h.2.2.2.1.set k (takeS (lastS (h.2.2.2.1.getD k noS) h.2.1) sq), h.2.2.2.2.1.set k ((h.2.2.2.2.1.getD k []).set c (X, ())), h.2.2.2.2.2) (k : Int) = some (answerOf (setBoth h k c (takeS (lastS (h.2.2.2.1.getD k noS) h.2.1) sq) (X, ())) k) := b1
   have b2 : F.impl_Answer (h.1, h.2.1, h.2.2.1, h.2.2.2.1.set k (takeS (lastS (h.2.2.2.1.getD k noS) h.2.1) sq), h.2.2.2.2.1.set k ((h.2.2.2.2.1.getD k []).set c (X, ())), h.2.2.2.2.2) (k : Int) = some (answerOf (setBoth h k c (takeS (lastS (h.2.2.2.1.getD k noS) h.2.1) sq) (X, ())) k) := b2
   have hz2 : zHouse (h.1, h.2.1, h.2.2.1, h.2.2.2.1.set k (takeS (lastS (h.2.2.2.1.getD k noS) h.2.1) sq), h.2.2.2.2.1.set k ((h.2.2.2.2.1.getD k []).set c (X, ())), h.2.2.2.2.2) <= 1000000 := hz2
   have e3 : F.spec_EntryOf (k : Int) (sq, (c : Int), key, win, sk, u1) = some ((key, win, [(100 * (k : Int) + sq, 100 * (k : Int) + sq, ())], sk, ()), true) := e3
   have e4 : F.impl_EntryOf (k : Int) (sq, (c : Int), key, win, sk, u1) = some ((key, win, [(100 * (k : Int) + sq, 100 * (k : Int) + sq, ())], sk, ()), true) := e4
   simp only [hcf] at i1 b1 b2 hz2
   simp only [hcf, cond_false]
   rw [e3, e4]
   simp only [Option.bind_some]
   rw [inb_nat hk2, Int.toNat_natCast, inb_nat hcr, i1, i2]
   simp only [chk_true, Option.bind_some]
   rw [p1, p2]
   simp only [Option.bind_some]
   rw [b1, b2]
   simp only [Option.bind_some]
   exact ⟨_, rfl, rfl, by simp only; omega, zb⟩
def numP : Nat -> Int -> List Int -> Int × List Int
 | 0, x, acc => (x, acc)
 | f + 1, x, acc => if x > 127 then numP f (x / 128) (acc ++ [IntKind.wrap .u8 (x % 128 + 128)]) else (x, acc)
def numB (x : Int) : List Int := if 0 <= x /\ x <= 2147483647 then (numP 4 x []).2 ++ [IntKind.wrap .u8 (numP 4 x []).1] else []
theorem numP_len : ∀ (f : Nat) (x : Int) (acc : List Int), (numP f x acc).2.length <= acc.length + f
 | 0, x, acc => by simp [numP]
 | f + 1, x, acc => by
  unfold numP
  split
  ·have := numP_len f (x / 128) (acc ++ [IntKind.wrap .u8 (x % 128 + 128)])
   simp at this ⊢; omega
  ·simp
theorem numB_len (x : Int) : (numB x).length <= 5 := by
 unfold numB
 split
 ·have := numP_len 4 x []
  simp at this ⊢; omega
 ·simp
theorem numP_spec : ∀ (f : Nat) (x : Int) (acc : List Int), 0 <= x -> x < 128 ^ (f + 1) -> x <= 2147483647 -> acc.length + f <= 10 -> iterO F.spec_PutNum.s4 (f + 1) (x, acc, ()) = some (.inl ((numP f x acc).1, (numP f x acc).2, ()))
 | 0, x, acc, h0, h1, h2, hl => by
  unfold iterO F.spec_PutNum.s4 numP
  simp only
  rw [show decide (x > 127) = false from decide_eq_false (by simp at h1; omega)]; rfl
 | f + 1, x, acc, h0, h1, h2, hl => by
  rw [iterO]
  unfold F.spec_PutNum.s4
  rw [numP]
  simp only
  by_cases hx : x > 127
  ·rw [decide_eq_true hx, if_pos hx]
   simp only [cond_true, List.length_cons, List.length_nil]
   rw [fits_of (by omega)]
   simp only [chk_true]
   rw [Int.tmod_eq_emod_of_nonneg h0, Int.tdiv_eq_ediv_of_nonneg h0, w64_id (by omega) (by omega), w64_id (by omega) (by omega)]
   exact numP_spec f (x / 128) _ (by omega) (by rw [Int.pow_succ] at h1; omega) (by omega) (by simp; omega)
  ·rw [decide_eq_false hx, if_neg hx]; rfl
theorem numP_impl : ∀ (f : Nat) (x : Int) (acc : List Int), 0 <= x -> x < 128 ^ (f + 1) -> x <= 2147483647 -> acc.length + f <= 10 -> iterO F.impl_PutNum.s4 (f + 1) (x, acc, ()) = some (.inl ((numP f x acc).1, (numP f x acc).2, ()))
 | 0, x, acc, h0, h1, h2, hl => by
  unfold iterO F.impl_PutNum.s4 numP
  simp only
  rw [show decide (x >= 128) = false from decide_eq_false (by simp at h1; omega)]; rfl
 | f + 1, x, acc, h0, h1, h2, hl => by
  rw [iterO]
  unfold F.impl_PutNum.s4
  rw [numP]
  simp only
  by_cases hx : x > 127
  ·rw [show decide (x >= 128) = true from decide_eq_true (by omega), if_pos hx]
   simp only [cond_true, List.length_cons, List.length_nil]
   rw [fits_of (by omega)]
   simp only [chk_true]
   rw [Int.tmod_eq_emod_of_nonneg h0, Int.tdiv_eq_ediv_of_nonneg h0, w64_id (by omega) (by omega), w64_id (by omega) (by omega)]
   exact numP_impl f (x / 128) _ (by omega) (by rw [Int.pow_succ] at h1; omega) (by omega) (by simp; omega)
  ·rw [show decide (x >= 128) = false from decide_eq_false (by omega), if_neg hx]; rfl
theorem specPut_eq (x : Int) : F.spec_PutNum x = some (numB x) := by
 unfold F.spec_PutNum numB
 rw [l1In_eq]
 simp only [Option.bind_some]
 by_cases h : 0 <= x /\ x <= 2147483647
 ·rw [if_pos h, show inR 0 2147483647 x = true from inR_iff.2 h, loopO_of (numP_spec 4 x [] h.1 (by omega) h.2 (by simp))]
  have := numP_len 4 x []
  simp only [List.length_nil] at this
  simp only [Bool.not_true, cond_false, afterO, List.length_cons, List.length_nil]
  rw [fits_of (by omega)]; rfl
 ·rw [if_neg h, show inR 0 2147483647 x = false by cases hb : inR 0 2147483647 x with | false => rfl | true => exact absurd (inR_iff.1 hb) h]; rfl
theorem implPut_eq (x : Int) : F.impl_PutNum x = some (numB x) := by
 unfold F.impl_PutNum numB
 rw [within_eq]
 simp only [Option.bind_some]
 by_cases h : 0 <= x /\ x <= 2147483647
 ·rw [if_pos h, show inR 0 2147483647 x = true from inR_iff.2 h, loopO_of (numP_impl 4 x [] h.1 (by omega) h.2 (by simp))]
  have := numP_len 4 x []
  simp only [List.length_nil] at this
  simp only [Bool.not_true, cond_false, afterO, List.length_cons, List.length_nil]
  rw [fits_of (by omega)]; rfl
 ·rw [if_neg h, show inR 0 2147483647 x = false by cases hb : inR 0 2147483647 x with | false => rfl | true => exact absurd (inR_iff.1 hb) h]; rfl
def numsB (l : List Int) : List Int := l.flatMap numB
theorem numsB_len (l : List Int) : (numsB l).length <= 5 * l.length := by
 unfold numsB
 induction l with
 | nil => simp
 | cons x l ih =>
  have := numB_len x
  simp only [List.flatMap_cons, List.length_append, List.length_cons]
  omega
theorem tkS {α : Type} {l : List α} {i : Nat} (h : i < l.length) : l.take i ++ [l[i]] = l.take (i + 1) := by
 rw [List.take_add_one, List.getElem?_eq_getElem h]; rfl
theorem numsB_take {l : List Int} {i : Nat} (h : i < l.length) : numsB (l.take (i + 1)) = numsB (l.take i) ++ numB l[i] := by
 unfold numsB
 rw [<- tkS h, List.flatMap_append]; simp only [List.flatMap_cons, List.flatMap_nil, List.append_nil]
theorem l7Put_eq (l : List Int) (h : l.length <= 2097152) : F.spec_l7Put l = some (numsB l) := by
 unfold F.spec_l7Put
 have hh := loop_run (step := F.spec_l7Put.s3) (fun i => (l, numsB (l.take i), (i : Int), ())) l.length (fun i hi => by
  have h1 := numsB_len (l.take i)
  have h2 := numB_len l[i]
  rw [List.length_take] at h1
  unfold F.spec_l7Put.s3
  simp only
  rw [lt_len hi, inb_nat hi, Int.toNat_natCast, getD_at hi, w64_nat (by omega), specPut_eq, numsB_take hi]
  simp only [cond_true, chk_true, Option.bind_some]
  rw [fits_of (by omega)]; rfl) (l := .exit (l, numsB (l.take l.length), ((l.length : Nat) : Int), ())) (by
  unfold F.spec_l7Put.s3
  simp only [ge_len, cond_false]) rfl
 rw [List.take_length] at hh
 refine (congrArg (fun z => afterO z _) hh).trans ?_
 rfl
theorem putNums_eq (l : List Int) (h : l.length <= 2097152) : F.impl_putNums l = some (numsB l) := by
 unfold F.impl_putNums
 have hh := loop_run (step := F.impl_putNums.s3) (fun i => (numsB (l.take i), l, len l, (i : Int), ())) l.length (fun i hi => by
  have h1 := numsB_len (l.take i)
  have h2 := numB_len l[i]
  rw [List.length_take] at h1
  unfold F.impl_putNums.s3
  simp only
  rw [lt_len hi, inb_nat hi, Int.toNat_natCast, getD_at hi, w64_nat (by omega), implPut_eq, numsB_take hi]
  simp only [cond_true, chk_true, Option.bind_some]
  rw [fits_of (by omega)]; rfl) (l := .exit (numsB (l.take l.length), l, len l, ((l.length : Nat) : Int), ())) (by
  unfold F.impl_putNums.s3
  simp only [ge_len, cond_false]) rfl
 rw [List.take_length] at hh
 refine (congrArg (fun z => afterO z _) hh).trans ?_
 rfl
def spansB (l : List DSpan) : List Int := l.flatMap fun x => numB x.1 ++ numB x.2.1
theorem spansB_len (l : List DSpan) : (spansB l).length <= 10 * l.length := by
 unfold spansB
 induction l with
 | nil => simp
 | cons x l ih =>
  have := numB_len x.1
  have := numB_len x.2.1
  simp only [List.flatMap_cons, List.length_append, List.length_cons]
  omega
theorem spansB_take {l : List DSpan} {i : Nat} (h : i < l.length) : spansB (l.take (i + 1)) = spansB (l.take i) ++ (numB l[i].1 ++ numB l[i].2.1) := by
 unfold spansB
 rw [<- tkS h, List.flatMap_append]; simp only [List.flatMap_cons, List.flatMap_nil, List.append_nil]
theorem numsB_two (x y : Int) : numsB [x, y] = numB x ++ numB y := by simp [numsB]
theorem putSpans_eq (l : List DSpan) (h : l.length <= 1048576) : F.impl_putSpans l = some (numB (len l) ++ spansB l) := by
 unfold F.impl_putSpans
 rw [implPut_eq]
 simp only [Option.bind_some]
 have hh := loop_run (step := F.impl_putSpans.s3) (fun i => (numB (len l) ++ spansB (l.take i), l, len l, (i : Int), ())) l.length (fun i hi => by
  have h1 := spansB_len (l.take i)
  have h2 := numB_len l[i].1
  have h3 := numB_len l[i].2.1
  have h4 := numB_len (len l)
  rw [List.length_take] at h1
  unfold F.impl_putSpans.s3
  simp only
  rw [lt_len hi, inb_nat hi, Int.toNat_natCast, getD_at hi, w64_nat (by omega), putNums_eq _ (by simp), numsB_two, spansB_take hi]
  simp only [cond_true, chk_true, Option.bind_some, List.length_append]
  rw [fits_of (by omega), List.append_assoc]; rfl) (l := .exit (numB (len l) ++ spansB (l.take l.length), l, len l, ((l.length : Nat) : Int), ())) (by
  unfold F.impl_putSpans.s3
  simp only [ge_len, cond_false]) rfl
 rw [List.take_length] at hh
 have e0 : numB (len l) ++ spansB (l.take 0) = numB (len l) := by simp [spansB]
 rw [e0] at hh
 refine (congrArg (fun z => afterO z _) hh).trans ?_
 rfl
def bytes (l : List Int) : Prop := ∀ b ∈ l, 0 <= b /\ b < 256
theorem w8 (x : Int) : IntKind.wrap .u8 x = x % 256 := by simp [IntKind.wrap, IntKind.bits, IntKind.signed]
theorem bytes_app {a b : List Int} (ha : bytes a) (hb : bytes b) : bytes (a ++ b) := fun x hx => (List.mem_append.1 hx).elim (ha x) (hb x)
theorem numP_bytes : ∀ (f : Nat) (x : Int) (acc : List Int), bytes acc -> bytes (numP f x acc).2
 | 0, x, acc, h => h
 | f + 1, x, acc, h => by
  unfold numP
  split
  ·exact numP_bytes f _ _ (bytes_app h (fun b hb => by rw [List.mem_singleton.1 hb, w8]; omega))
  ·exact h
theorem numB_bytes (x : Int) : bytes (numB x) := by
 unfold numB
 split
 ·exact bytes_app (numP_bytes 4 x [] (fun b hb => by cases hb)) (fun b hb => by rw [List.mem_singleton.1 hb, w8]; omega)
 ·exact fun b hb => by cases hb
theorem numsB_bytes (l : List Int) : bytes (numsB l) := fun b hb => by
 obtain ⟨x, _, hx⟩ := List.mem_flatMap.1 hb
 exact numB_bytes x b hx
theorem spansB_bytes (l : List DSpan) : bytes (spansB l) := fun b hb => by
 obtain ⟨x, _, hx⟩ := List.mem_flatMap.1 hb
 exact bytes_app (numB_bytes x.1) (numB_bytes x.2.1) b hx
theorem xor_nat (n m : Nat) (hn : n < 4294967296) (hm : m < 4294967296) : ibits .xor .i64 (n : Int) (m : Int) = ((n ^^^ m : Nat) : Int) /\ n ^^^ m < 4294967296 := by
 have hx : n ^^^ m < 4294967296 := Nat.xor_lt_two_pow (n := 32) hn hm
 refine ⟨?_, hx⟩
 unfold ibits
 simp only
 have e : ∀ k : Nat, k < 4294967296 -> (BitVec.ofInt IntKind.i64.bits (k : Int)).toNat = k := fun k hk => by simp [IntKind.bits]; omega
 rw [BitVec.toNat_xor, e n hn, e m hm]
 exact w64_id (by omega) (by omega)
theorem and_one (n : Nat) (hn : n < 4294967296) : ibits .and .i64 (n : Int) 1 = ((n % 2 : Nat) : Int) := by
 unfold ibits
 simp only
 have e : ∀ k : Nat, k < 4294967296 -> (BitVec.ofInt IntKind.i64.bits (k : Int)).toNat = k := fun k hk => by simp [IntKind.bits]; omega
 have e1 : (BitVec.ofInt IntKind.i64.bits 1).toNat = 1 := by decide
 rw [BitVec.toNat_and, e n hn, e1, Nat.and_one_is_mod]
 exact w64_id (by omega) (by omega)
def crc1 (x : Nat) : Nat := if x % 2 = 1 then (x / 2) ^^^ 3988292384 else x / 2
def crcK : Nat -> Nat -> Nat
 | 0, c => c
 | k + 1, c => crc1 (crcK k c)
theorem crc1_lt {x : Nat} (h : x < 4294967296) : crc1 x < 4294967296 := by
 unfold crc1
 split
 ·exact (xor_nat (x / 2) 3988292384 (by omega) (by omega)).2
 ·omega
theorem crcK_lt {x : Nat} (h : x < 4294967296) : ∀ k, crcK k x < 4294967296
 | 0 => h
 | k + 1 => crc1_lt (crcK_lt h k)
def crcL (c : Nat) (l : List Int) : Nat := l.foldl (fun c b => crcK 8 (c ^^^ b.toNat)) c
theorem specCrc_in (l : List Int) (c : Nat) (k : Int) (hc : c < 4294967296) : loopO F.spec_Crc.s7 (l, (c : Int), k, 0, ()) = some (.inl (l, (crcK 8 c : Nat), k, 8, ())) :=
 loop_run (step := F.spec_Crc.s7) (fun i => (l, ((crcK i c : Nat) : Int), k, (i : Int), ())) 8 (fun i hi => by
  have hl := crcK_lt hc i
  unfold F.spec_Crc.s7
  simp only
  rw [show decide ((i : Int) < 8) = true from decide_eq_true (by omega), w64_nat (by omega), Int.tmod_eq_emod_of_nonneg (by omega), Int.tdiv_eq_ediv_of_nonneg (by omega), w64_id (by omega) (by omega)]
  simp only [cond_true]
  have e2 : ((crcK i c : Nat) : Int) / 2 = ((crcK i c / 2 : Nat) : Int) := by omega
  show _ = some (Lp.again (l, ((crc1 (crcK i c) : Nat) : Int), k, ((i + 1 : Nat) : Int), ()))
  unfold crc1
  by_cases ho : crcK i c % 2 = 1
  ·rw [show (((crcK i c : Nat) : Int) % 2 == 1) = true by rw [beq_iff_eq]; omega, if_pos ho, e2, show (3988292384 : Int) = ((3988292384 : Nat) : Int) from rfl, (xor_nat _ _ (by omega) (by omega)).1]; rfl
  ·rw [show (((crcK i c : Nat) : Int) % 2 == 1) = false by rw [beq_eq_false_iff_ne]; omega, if_neg ho, e2]; rfl) (l := .exit (l, (crcK 8 c : Nat), k, 8, ())) (by
  unfold F.spec_Crc.s7; rfl) rfl
theorem implCrc_in (c : Nat) (x y z : _) (hc : c < 4294967296) : loopO F.impl_Crc.s7 ((c : Int), 0, x, y, z, ()) = some (.inl ((crcK 8 c : Nat), 8, x, y, z, ())) :=
 loop_run (step := F.impl_Crc.s7) (fun i => (((crcK i c : Nat) : Int), (i : Int), x, y, z, ())) 8 (fun i hi => by
  have hl := crcK_lt hc i
  unfold F.impl_Crc.s7
  simp only
  rw [show decide ((i : Int) < 8) = true from decide_eq_true (by omega), w64_nat (by omega), and_one _ hl, show ((2 : Int) ^ (min 1 64)) = 2 from rfl, Int.fdiv_eq_ediv_of_nonneg _ (by omega)]
  simp only [cond_true]
  have e2 : ((crcK i c : Nat) : Int) / 2 = ((crcK i c / 2 : Nat) : Int) := by omega
  show _ = some (Lp.again (((crc1 (crcK i c) : Nat) : Int), ((i + 1 : Nat) : Int), x, y, z, ()))
  unfold crc1
  by_cases ho : crcK i c % 2 = 1
  ·rw [show (((crcK i c % 2 : Nat) : Int) == 1) = true by rw [beq_iff_eq]; omega, if_pos ho, e2, show (3988292384 : Int) = ((3988292384 : Nat) : Int) from rfl, (xor_nat _ _ (by omega) (by omega)).1]; rfl
  ·rw [show (((crcK i c % 2 : Nat) : Int) == 1) = false by rw [beq_eq_false_iff_ne]; omega, if_neg ho, e2]; rfl) (l := .exit ((crcK 8 c : Nat), 8, x, y, z, ())) (by
  unfold F.impl_Crc.s7; rfl) rfl
theorem xor_byte (c : Nat) (b : Int) (hc : c < 4294967296) (hb : 0 <= b /\ b < 256) : ibits .xor .i64 (c : Int) (w64 b) = ((c ^^^ b.toNat : Nat) : Int) /\ c ^^^ b.toNat < 4294967296 := by
 have h := xor_nat c b.toNat hc (by omega)
 rw [w64_id (by omega) (by omega)]
 rwa [show ((b.toNat : Nat) : Int) = b by omega] at h
def crcB (l : List Int) : Nat := (crcL 4294967295 l) ^^^ 4294967295
theorem crcL_lt (l : List Int) : ∀ c : Nat, bytes l -> c < 4294967296 -> crcL c l < 4294967296 := by
 induction l with
 | nil => exact fun c _ h => h
 | cons b l ih =>
  intro c hb hc
  exact ih _ (fun x hx => hb x (List.mem_cons_of_mem _ hx)) (crcK_lt (xor_byte c b hc (hb b (List.mem_cons_self ..))).2 8)
theorem crcB_lt (l : List Int) (hb : bytes l) : crcB l < 4294967296 := (xor_nat _ 4294967295 (crcL_lt l _ hb (by omega)) (by omega)).2
theorem specCrc_eq (l : List Int) (hl : l.length <= 1099511627776) (hb : bytes l) : F.spec_Crc l = some ((crcB l : Nat) : Int) := by
 unfold F.spec_Crc
 have hh := loop_foldP (step := F.spec_Crc.s3) l (fun (i : Nat) (s : Nat) => (l, (s : Int), (i : Int), ())) (fun c b => crcK 8 (c ^^^ b.toNat)) (fun _ s => s < 4294967296) (fun i s hi hs => by
  have hx := xor_byte s l[i] hs (hb _ (List.getElem_mem hi))
  refine ⟨?_, crcK_lt hx.2 8⟩
  unfold F.spec_Crc.s3
  simp only
  rw [lt_len hi, inb_nat hi, Int.toNat_natCast, getD_at hi, hx.1, specCrc_in _ _ _ hx.2]
  simp only [cond_true, chk_true, afterO]
  rw [w64_nat (by omega)]) (fun s hs => by
  unfold F.spec_Crc.s3
  simp only [ge_len, cond_false]) (s := 4294967295) (by omega)
 have h1 : loopO F.spec_Crc.s3 (l, 4294967295, 0, ()) = _ := hh.1
 rw [h1]
 simp only [afterO]
 have := xor_nat _ 4294967295 hh.2 (by omega)
 exact congrArg some this.1
theorem implCrc_eq (l : List Int) (hl : l.length <= 1099511627776) (hb : bytes l) : F.impl_Crc l = some ((crcB l : Nat) : Int) := by
 unfold F.impl_Crc
 have hh := loop_foldP (step := F.impl_Crc.s3) l (fun (i : Nat) (s : Nat) => ((s : Int), l, len l, (i : Int), ())) (fun c b => crcK 8 (c ^^^ b.toNat)) (fun _ s => s < 4294967296) (fun i s hi hs => by
  have hx := xor_byte s l[i] hs (hb _ (List.getElem_mem hi))
  refine ⟨?_, crcK_lt hx.2 8⟩
  unfold F.impl_Crc.s3
  simp only
  rw [lt_len hi, inb_nat hi, Int.toNat_natCast, getD_at hi, hx.1, implCrc_in _ _ _ _ hx.2]
  simp only [cond_true, chk_true, afterO]
  rw [w64_nat (by omega)]) (fun s hs => by
  unfold F.impl_Crc.s3
  simp only [ge_len, cond_false]) (s := 4294967295) (by omega)
 have h1 : loopO F.impl_Crc.s3 (4294967295, l, len l, 0, ()) = _ := hh.1
 rw [h1]
 simp only [afterO]
 have := xor_nat _ 4294967295 hh.2 (by omega)
 exact congrArg some this.1
def sumB (l : List Int) : List Int := [((crcB l : Nat) : Int) / 16777216 % 256, ((crcB l : Nat) : Int) / 65536 % 256, ((crcB l : Nat) : Int) / 256 % 256, ((crcB l : Nat) : Int) % 256]
theorem l7Sum_eq (l : List Int) (hl : l.length <= 1099511627776) (hb : bytes l) : F.spec_l7Sum l = some (sumB l) := by
 have hc := crcB_lt l hb
 unfold F.spec_l7Sum sumB
 rw [specCrc_eq l hl hb]
 simp only [Option.bind_some, w8]
 rw [Int.tdiv_eq_ediv_of_nonneg (by omega), Int.tdiv_eq_ediv_of_nonneg (by omega), Int.tdiv_eq_ediv_of_nonneg (by omega), w64_id (by omega) (by omega), w64_id (by omega) (by omega), w64_id (by omega) (by omega), Int.tmod_eq_emod_of_nonneg (by omega), Int.tmod_eq_emod_of_nonneg (by omega), Int.tmod_eq_emod_of_nonneg (by omega), Int.emod_emod, Int.emod_emod, Int.emod_emod]
theorem sum_impl (l : List Int) : ([IntKind.wrap .u8 (Int.fdiv ((crcB l : Nat) : Int) (2 ^ (min 24 64))), IntKind.wrap .u8 (Int.fdiv ((crcB l : Nat) : Int) (2 ^ (min 16 64))), IntKind.wrap .u8 (Int.fdiv ((crcB l : Nat) : Int) (2 ^ (min 8 64))), IntKind.wrap .u8 ((crcB l : Nat) : Int)] : List Int) = sumB l := by
 unfold sumB
 simp only [w8]
 rw [show ((2 : Int) ^ (min 24 64)) = 16777216 from rfl, show ((2 : Int) ^ (min 16 64)) = 65536 from rfl, show ((2 : Int) ^ (min 8 64)) = 256 from rfl, Int.fdiv_eq_ediv_of_nonneg _ (by omega), Int.fdiv_eq_ediv_of_nonneg _ (by omega), Int.fdiv_eq_ediv_of_nonneg _ (by omega)]
def digs : Nat -> Int -> List Int
 | 0, x => [x]
 | f + 1, x => if x > 127 then (x % 128 + 128) :: digs f (x / 128) else [x]
theorem numP_digs : ∀ (f : Nat) (x : Int) (acc : List Int), 0 <= x -> x < 128 ^ (f + 1) -> x <= 2147483647 -> (numP f x acc).2 ++ [IntKind.wrap .u8 (numP f x acc).1] = acc ++ digs f x
 | 0, x, acc, h0, h1, h2 => by
  simp only [numP, digs, w8]
  rw [Int.emod_eq_of_lt h0 (by simp at h1; omega)]
 | f + 1, x, acc, h0, h1, h2 => by
  unfold numP digs
  by_cases hx : x > 127
  ·rw [if_pos hx, if_pos hx, numP_digs f (x / 128) _ (by omega) (by rw [Int.pow_succ] at h1; omega) (by omega), w8]
   rw [show (x % 128 + 128) % 256 = x % 128 + 128 by omega]; simp
  ·rw [if_neg hx, if_neg hx]
   simp only [w8]
   rw [Int.emod_eq_of_lt h0 (by omega)]
theorem numB_digs {x : Int} (h0 : 0 <= x) (h1 : x <= 2147483647) : numB x = digs 4 x := by
 unfold numB
 rw [if_pos ⟨h0, h1⟩, numP_digs 4 x [] h0 (by omega) h1]; rfl
theorem or_add (n m k : Nat) (h : n < 2 ^ k) (hk : n + m * 2 ^ k < 9223372036854775808) : ibits .or .i64 (n : Int) ((m * 2 ^ k : Nat) : Int) = ((n + m * 2 ^ k : Nat) : Int) := by
 have hn : n < 9223372036854775808 := by omega
 have hm : m * 2 ^ k < 9223372036854775808 := by omega
 unfold ibits
 simp only
 have e : ∀ q : Nat, q < 9223372036854775808 -> (BitVec.ofInt IntKind.i64.bits (q : Int)).toNat = q := fun q hq => by simp [IntKind.bits]; omega
 rw [BitVec.toNat_or, e n hn, e _ hm, Nat.or_comm, Nat.mul_comm, <- Nat.two_pow_add_eq_or_of_lt h, Nat.mul_comm]
 rw [show m * 2 ^ k + n = n + m * 2 ^ k by omega]
 exact w64_id (by omega) (by omega)
theorem pow7 {i : Nat} (h : i < 5) : 2 ^ (7 * i) <= 268435456 := Nat.le_trans (Nat.pow_le_pow_right (by omega) (show 7 * i <= 28 by omega)) (by decide)
theorem addend {b : Nat} {i : Nat} (hb : b < 256) (hi : i < 5) : w64 ((Int.tmod (w64 (b : Int)) 128) * 2 ^ (min (Int.toNat (w64 (7 * (i : Int)))) 64)) = ((b % 128 * 2 ^ (7 * i) : Nat) : Int) /\ b % 128 * 2 ^ (7 * i) <= 34091302912 := by
 have hp := pow7 hi
 have h1 : b % 128 * 2 ^ (7 * i) <= 127 * 268435456 := Nat.mul_le_mul (by omega) hp
 refine ⟨?_, by omega⟩
 rw [w64_id (x := (b : Int)) (by omega) (by omega), w64_id (x := 7 * (i : Int)) (by omega) (by omega), Int.tmod_eq_emod_of_nonneg (by omega), show (7 * (i : Int)).toNat = 7 * i by omega, show min (7 * i) 64 = 7 * i by omega]
 have e : ((b : Int) % 128) * 2 ^ (7 * i) = ((b % 128 * 2 ^ (7 * i) : Nat) : Int) := by
  rw [Int.natCast_mul, Int.natCast_pow, Int.natCast_emod]; rfl
 rw [e]
 exact w64_id (by omega) (by omega)
theorem specGet_step (l : List Int) (p i acc b : Nat) (hi : i < 5) (hl : l.length <= 1099511627776) (h : p + i < l.length) (hb : l[p + i] = (b : Int)) (hb2 : b < 256) (ha : acc < 2 ^ (7 * i)) :
  F.spec_GetNum.s3 (l, (p : Int), (acc : Int), (i : Int), ()) = some (if b < 128 then (if (i > 0 /\ b = 0) \/ acc + b % 128 * 2 ^ (7 * i) > 2147483647 then .ret (0, 0, false) else .ret (((acc + b % 128 * 2 ^ (7 * i) : Nat) : Int), ((p + i + 1 : Nat) : Int), true)) else .again (l, (p : Int), ((acc + b % 128 * 2 ^ (7 * i) : Nat) : Int), ((i + 1 : Nat) : Int), ())) := by
 obtain ⟨ea, hx⟩ := addend hb2 hi
 have hp := pow7 hi
 have hor := or_add acc (b % 128) (7 * i) ha (by omega)
 have hw : w64 ((p : Int) + (i : Int)) = ((p + i : Nat) : Int) := w64_id (by omega) (by omega)
 unfold F.spec_GetNum.s3
 simp only
 rw [show decide ((i : Int) < 5) = true from decide_eq_true (by omega), show decide ((p : Int) < 0) = false from decide_eq_false (by omega), w64_id (x := len l - (i : Int)) (by simp only [len]; omega) (by simp only [len]; omega), show decide ((p : Int) >= len l - (i : Int)) = false from decide_eq_false (by simp only [len]; omega), hw, inb_nat h, Int.toNat_natCast, getD_at h, hb, ea, hor, w64_nat (i := i) (by omega), w64_nat (i := p + i) (by omega), w64_id (x := (b : Int)) (by omega) (by omega), show decide (w64 (7 * (i : Int)) < 0) = false from decide_eq_false (by rw [w64_id (by omega) (by omega)]; omega)]
 simp only [cond_true, cond_false, chk_true, nchk]
 by_cases h1 : b < 128
 ·rw [show decide ((b : Int) < 128) = true from decide_eq_true (by omega), if_pos h1]
  simp only [cond_true]
  by_cases h2 : i > 0
  ·rw [show decide ((i : Int) > 0) = true from decide_eq_true (by omega)]
   simp only [cond_true]
   by_cases h3 : b = 0
   ·rw [show ((b : Int) == 0) = true by rw [beq_iff_eq]; omega, if_pos (.inl ⟨h2, h3⟩)]; rfl
   ·rw [show ((b : Int) == 0) = false by rw [beq_eq_false_iff_ne]; omega]
    simp only [cond_false]
    by_cases h4 : acc + b % 128 * 2 ^ (7 * i) > 2147483647
    ·rw [show decide (((acc + b % 128 * 2 ^ (7 * i) : Nat) : Int) > 2147483647) = true from decide_eq_true (by omega), if_pos (.inr h4)]; rfl
    ·rw [show decide (((acc + b % 128 * 2 ^ (7 * i) : Nat) : Int) > 2147483647) = false from decide_eq_false (by omega), if_neg (fun h => h.elim (fun h => h3 h.2) h4)]; rfl
  ·rw [show decide ((i : Int) > 0) = false from decide_eq_false (by omega)]
   simp only [cond_false]
   by_cases h4 : acc + b % 128 * 2 ^ (7 * i) > 2147483647
   ·rw [show decide (((acc + b % 128 * 2 ^ (7 * i) : Nat) : Int) > 2147483647) = true from decide_eq_true (by omega), if_pos (.inr h4)]; rfl
   ·rw [show decide (((acc + b % 128 * 2 ^ (7 * i) : Nat) : Int) > 2147483647) = false from decide_eq_false (by omega), if_neg (fun h => h.elim (fun h => h2 h.1) h4)]; rfl
 ·rw [show decide ((b : Int) < 128) = false from decide_eq_false (by omega), if_neg h1]; rfl
theorem implGet_step (l : List Int) (p i acc b : Nat) (hi : i < 5) (hl : l.length <= 1099511627776) (h : p + i < l.length) (hb : l[p + i] = (b : Int)) (hb2 : b < 256) (ha : acc < 2 ^ (7 * i)) :
  F.impl_GetNum.s5 (l, (p : Int), (acc : Int), (i : Int), ()) = some (if b < 128 then (if (numB ((acc + b % 128 * 2 ^ (7 * i) : Nat) : Int)).length ≠ i + 1 then .ret (0, 0, false) else .ret (((acc + b % 128 * 2 ^ (7 * i) : Nat) : Int), ((p + i + 1 : Nat) : Int), true)) else .again (l, (p : Int), ((acc + b % 128 * 2 ^ (7 * i) : Nat) : Int), ((i + 1 : Nat) : Int), ())) := by
 obtain ⟨ea, hx⟩ := addend hb2 hi
 have hp := pow7 hi
 have hw : w64 ((p : Int) + (i : Int)) = ((p + i : Nat) : Int) := w64_id (by omega) (by omega)
 have hv : w64 ((acc : Int) + ((b % 128 * 2 ^ (7 * i) : Nat) : Int)) = ((acc + b % 128 * 2 ^ (7 * i) : Nat) : Int) := w64_id (by omega) (by omega)
 unfold F.impl_GetNum.s5
 simp only
 rw [show decide ((i : Int) < 5) = true from decide_eq_true (by omega), hw, show decide (((p + i : Nat) : Int) < len l) = true from decide_eq_true (by simp only [len]; omega), inb_nat h, Int.toNat_natCast, getD_at h, hb, ea, hv, w64_nat (i := i) (by omega), w64_nat (i := p + i) (by omega), w64_id (x := (b : Int)) (by omega) (by omega), show decide (w64 (7 * (i : Int)) < 0) = false from decide_eq_false (by rw [w64_id (by omega) (by omega)]; omega), implPut_eq]
 simp only [cond_true, cond_false, chk_true, nchk, Option.bind_some]
 by_cases h1 : b < 128
 ·rw [show decide ((b : Int) < 128) = true from decide_eq_true (by omega), if_pos h1]
  simp only [cond_true]
  by_cases h2 : (numB ((acc + b % 128 * 2 ^ (7 * i) : Nat) : Int)).length = i + 1
  ·rw [show (len (numB ((acc + b % 128 * 2 ^ (7 * i) : Nat) : Int)) != ((i + 1 : Nat) : Int)) = false by simp only [len, h2, bne_self_eq_false], if_neg (fun h => h h2)]; rfl
  ·rw [show (len (numB ((acc + b % 128 * 2 ^ (7 * i) : Nat) : Int)) != ((i + 1 : Nat) : Int)) = true by simp only [len, bne_iff_ne, ne_eq]; omega, if_pos h2]; rfl
 ·rw [show decide ((b : Int) < 128) = false from decide_eq_false (by omega), if_neg h1]; rfl
theorem get_digs : ∀ (f i y acc x : Nat) (l : List Int) (p : Nat) (post : List Int), i + f = 4 -> l.length <= 1099511627776 -> l.drop (p + i) = digs f y ++ post -> acc < 2 ^ (7 * i) -> x = acc + y * 2 ^ (7 * i) -> x <= 2147483647 -> (i > 0 -> 1 <= y) -> (numB (x : Int)).length = i + (digs f y).length ->
  iterO F.spec_GetNum.s3 (f + 1) (l, (p : Int), (acc : Int), (i : Int), ()) = some (.inr ((x : Int), ((p + i + (digs f y).length : Nat) : Int), true)) /\
  iterO F.impl_GetNum.s5 (f + 1) (l, (p : Int), (acc : Int), (i : Int), ()) = some (.inr ((x : Int), ((p + i + (digs f y).length : Nat) : Int), true)) := by
 intro f
 have last : ∀ (f i y acc x : Nat) (l : List Int) (p : Nat) (post : List Int), i + f = 4 -> l.length <= 1099511627776 -> l.drop (p + i) = [(y : Int)] ++ post -> acc < 2 ^ (7 * i) -> x = acc + y * 2 ^ (7 * i) -> x <= 2147483647 -> (i > 0 -> 1 <= y) -> (numB (x : Int)).length = i + 1 -> y <= 127 ->
   iterO F.spec_GetNum.s3 (f + 1) (l, (p : Int), (acc : Int), (i : Int), ()) = some (.inr ((x : Int), ((p + i + 1 : Nat) : Int), true)) /\
   iterO F.impl_GetNum.s5 (f + 1) (l, (p : Int), (acc : Int), (i : Int), ()) = some (.inr ((x : Int), ((p + i + 1 : Nat) : Int), true)) := by
  intro f i y acc x l p post hif hl hd ha hx hx2 hy hn hy2
  have hlt : p + i < l.length := by
   have := congrArg List.length hd
   simp at this; omega
  have hg : l[p + i] = (y : Int) := by
   have := congrArg (fun q => q[0]?) hd
   simp only [List.getElem?_drop, Nat.add_zero, List.singleton_append, List.getElem?_cons_zero] at this
   rw [List.getElem?_eq_getElem hlt] at this
   exact Option.some.inj this
  have hm : y % 128 = y := Nat.mod_eq_of_lt (by omega)
  constructor
  ·rw [iterO, specGet_step l p i acc y (by omega) hl hlt hg (by omega) ha, if_pos (by omega), hm, <- hx, if_neg (fun h => h.elim (fun h => by have := hy h.1; omega) (fun h => by omega))]
  ·rw [iterO, implGet_step l p i acc y (by omega) hl hlt hg (by omega) ha, if_pos (by omega), hm, <- hx, if_neg (fun h => h hn)]
 induction f with
 | zero =>
  intro i y acc x l p post hif hl hd ha hx hx2 hy hn
  have hi : i = 4 := by omega
  subst hi
  have hy2 : y <= 127 := by
   have e : (2 : Nat) ^ (7 * 4) = 268435456 := by decide
   rw [e] at hx
   omega
  exact last 0 4 y acc x l p post hif hl hd ha hx hx2 hy hn hy2
 | succ f ih =>
  intro i y acc x l p post hif hl hd ha hx hx2 hy hn
  unfold digs at hd hn ⊢
  by_cases hc : (y : Int) > 127
  ·rw [if_pos hc] at hd hn ⊢
   have hp7 : (2 : Nat) ^ (7 * (i + 1)) = 128 * 2 ^ (7 * i) := by rw [show 7 * (i + 1) = 7 * i + 7 by omega, Nat.pow_add]; omega
   have hlt : p + i < l.length := by
    have := congrArg List.length hd
    simp at this; omega
   have hg : l[p + i] = ((y % 128 + 128 : Nat) : Int) := by
    have := congrArg (fun q => q[0]?) hd
    simp only [List.getElem?_drop, Nat.add_zero, List.cons_append, List.getElem?_cons_zero] at this
    rw [List.getElem?_eq_getElem hlt] at this
    have := Option.some.inj this
    omega
   have hd2 : l.drop (p + (i + 1)) = digs f ((y / 128 : Nat) : Int) ++ post := by
    have := congrArg (List.drop 1) hd
    rw [List.drop_drop] at this
    simpa [Nat.add_assoc] using this
   have hmod : (y % 128 + 128) % 128 = y % 128 := by omega
   have hxx : x = (acc + y % 128 * 2 ^ (7 * i)) + y / 128 * 2 ^ (7 * (i + 1)) := by
    rw [hp7, hx]
    have : y * 2 ^ (7 * i) = (y % 128 + 128 * (y / 128)) * 2 ^ (7 * i) := by rw [Nat.mod_add_div]
    rw [this, Nat.add_mul, Nat.add_assoc]
    congr 2
    rw [Nat.mul_comm 128 (y / 128), Nat.mul_assoc]
   have hacc : acc + y % 128 * 2 ^ (7 * i) < 2 ^ (7 * (i + 1)) := by
    rw [hp7]
    have : y % 128 * 2 ^ (7 * i) <= 127 * 2 ^ (7 * i) := Nat.mul_le_mul_right _ (by omega)
    omega
   have hdl : digs f ((y : Int) / 128) = digs f ((y / 128 : Nat) : Int) := by rw [Int.natCast_ediv]; rfl
   rw [hdl] at hn ⊢
   simp only [List.length_cons] at hn ⊢
   obtain ⟨q1, q2⟩ := ih (i + 1) (y / 128) (acc + y % 128 * 2 ^ (7 * i)) x l p post (by omega) hl hd2 hacc hxx hx2 (fun _ => by omega) (by omega)
   rw [show p + (i + 1) + (digs f ((y / 128 : Nat) : Int)).length = p + i + ((digs f ((y / 128 : Nat) : Int)).length + 1) by omega] at q1 q2
   constructor
   ·rw [iterO, specGet_step l p i acc (y % 128 + 128) (by omega) hl hlt hg (by omega) ha, if_neg (by omega), hmod]
    exact q1
   ·rw [iterO, implGet_step l p i acc (y % 128 + 128) (by omega) hl hlt hg (by omega) ha, if_neg (by omega), hmod]
    exact q2
  ·rw [if_neg hc] at hd hn ⊢
   exact last (f + 1) i y acc x l p post hif hl hd ha hx hx2 hy hn (by omega)
theorem get_num (l : List Int) (p : Nat) (post : List Int) (x : Int) (h0 : 0 <= x) (h1 : x <= 2147483647) (hl : l.length <= 1099511627776) (hd : l.drop p = numB x ++ post) :
  F.spec_GetNum l p = some (x, ((p + (numB x).length : Nat) : Int), true) /\ F.impl_GetNum l p = some (x, ((p + (numB x).length : Nat) : Int), true) := by
 have hb := numB_digs h0 h1
 have hx : ((x.toNat : Nat) : Int) = x := by omega
 obtain ⟨q1, q2⟩ := get_digs 4 0 x.toNat 0 x.toNat l p post rfl hl (by rw [hx, <- hb]; exact hd) (by simp) (by simp) (by omega) (fun h => absurd h (by omega)) (by rw [hx, hb]; simp)
 rw [hx, <- hb] at q1 q2
 have hne : numB x ≠ [] := by
  rw [hb]
  unfold digs
  split <;> simp
 have hlt : p < l.length := by
  have := congrArg List.length hd
  have h2 := List.length_pos_iff.2 hne
  simp at this; omega
 constructor
 ·unfold F.spec_GetNum
  have q1 : loopO F.spec_GetNum.s3 (l, (p : Int), 0, 0, ()) = _ := loopO_of q1
  rw [q1]; rfl
 ·unfold F.impl_GetNum
  rw [within_eq, w64_id (by simp only [len]; omega) (by simp only [len]; omega), show inR 0 (len l - 1) (p : Int) = true from inR_iff.2 ⟨by omega, by simp only [len]; omega⟩]
  have q2 : loopO F.impl_GetNum.s5 (l, (p : Int), 0, 0, ()) = _ := loopO_of q2
  simp only [Option.bind_some, Bool.not_true, cond_false, q2]; rfl
theorem numB_in {x : Int} (h : numB x ≠ []) : 0 <= x /\ x <= 2147483647 := by
 unfold numB at h
 split at h
 ·assumption
 ·exact absurd rfl h
def GetR (l : List Int) (p : Nat) (r : Int × Int × Bool) : Prop := (r.2.2 = true /\ (p : Int) < r.2.1 /\ r.2.1 <= (l.length : Int) /\ 0 <= r.1 /\ r.1 <= 2147483647) \/ r = (0, 0, false)
theorem acc_next {acc b i : Nat} (hi : i < 5) (ha : acc < 2 ^ (7 * i)) : acc + b % 128 * 2 ^ (7 * i) < 2 ^ (7 * (i + 1)) := by
 have hp7 : (2 : Nat) ^ (7 * (i + 1)) = 128 * 2 ^ (7 * i) := by rw [show 7 * (i + 1) = 7 * i + 7 by omega, Nat.pow_add]; omega
 rw [hp7]
 have : b % 128 * 2 ^ (7 * i) <= 127 * 2 ^ (7 * i) := Nat.mul_le_mul_right _ (by omega)
 omega
theorem specGet_iter (l : List Int) (p : Nat) (hl : l.length <= 1099511627776) (hp : p <= 1099511627778) (hb : bytes l) : ∀ (n i acc : Nat), n + i = 5 -> acc < 2 ^ (7 * i) -> ∃ y, iterO F.spec_GetNum.s3 (n + 1) (l, (p : Int), (acc : Int), (i : Int), ()) = some y /\ ((∃ z, y = .inl z) \/ ∃ r, y = .inr r /\ GetR l p r) := by
 intro n
 induction n with
 | zero =>
  intro i acc hi ha
  have : i = 5 := by omega
  subst this
  exact ⟨_, rfl, .inl ⟨_, rfl⟩⟩
 | succ n ih =>
  intro i acc hi ha
  by_cases h : p + i < l.length
  ·obtain ⟨h0, h1⟩ := hb _ (List.getElem_mem h)
   rw [iterO, specGet_step l p i acc l[p + i].toNat (by omega) hl h (by omega) (by omega) ha]
   by_cases h2 : l[p + i].toNat < 128
   ·rw [if_pos h2]
    by_cases h3 : (i > 0 /\ l[p + i].toNat = 0) \/ acc + l[p + i].toNat % 128 * 2 ^ (7 * i) > 2147483647
    ·rw [if_pos h3]
     exact ⟨_, rfl, .inr ⟨_, rfl, .inr rfl⟩⟩
    ·rw [if_neg h3]
     refine ⟨_, rfl, .inr ⟨_, rfl, .inl ⟨rfl, ?_, ?_, ?_, ?_⟩⟩⟩
     all_goals simp only
     ·omega
     ·omega
     ·omega
     ·have := not_or.1 h3; omega
   ·rw [if_neg h2]
    exact ih (i + 1) _ (by omega) (acc_next (by omega) ha)
  ·refine ⟨.inr (0, 0, false), ?_, .inr ⟨_, rfl, .inr rfl⟩⟩
   have hst : F.spec_GetNum.s3 (l, (p : Int), (acc : Int), (i : Int), ()) = some (.ret (0, 0, false)) := by
    unfold F.spec_GetNum.s3
    simp only
    rw [show decide ((i : Int) < 5) = true from decide_eq_true (by omega), show decide ((p : Int) < 0) = false from decide_eq_false (by omega), w64_id (x := len l - (i : Int)) (by simp only [len]; omega) (by simp only [len]; omega), show decide ((p : Int) >= len l - (i : Int)) = true from decide_eq_true (by simp only [len]; omega)]
    rfl
   rw [iterO, hst]
theorem implGet_iter (l : List Int) (p : Nat) (hl : l.length <= 1099511627776) (hp : p <= 1099511627778) (hb : bytes l) : ∀ (n i acc : Nat), n + i = 5 -> acc < 2 ^ (7 * i) -> ∃ y, iterO F.impl_GetNum.s5 (n + 1) (l, (p : Int), (acc : Int), (i : Int), ()) = some y /\ ((∃ z, y = .inl z) \/ ∃ r, y = .inr r /\ GetR l p r) := by
 intro n
 induction n with
 | zero =>
  intro i acc hi ha
  have : i = 5 := by omega
  subst this
  exact ⟨_, rfl, .inl ⟨_, rfl⟩⟩
 | succ n ih =>
  intro i acc hi ha
  by_cases h : p + i < l.length
  ·obtain ⟨h0, h1⟩ := hb _ (List.getElem_mem h)
   rw [iterO, implGet_step l p i acc l[p + i].toNat (by omega) hl h (by omega) (by omega) ha]
   by_cases h2 : l[p + i].toNat < 128
   ·rw [if_pos h2]
    by_cases h3 : (numB ((acc + l[p + i].toNat % 128 * 2 ^ (7 * i) : Nat) : Int)).length ≠ i + 1
    ·rw [if_pos h3]
     exact ⟨_, rfl, .inr ⟨_, rfl, .inr rfl⟩⟩
    ·rw [if_neg h3]
     have hin := numB_in (x := ((acc + l[p + i].toNat % 128 * 2 ^ (7 * i) : Nat) : Int)) (fun e => by rw [e] at h3; simp at h3)
     refine ⟨_, rfl, .inr ⟨_, rfl, .inl ⟨rfl, ?_, ?_, hin.1, hin.2⟩⟩⟩
     all_goals simp only
     ·omega
     ·omega
   ·rw [if_neg h2]
    exact ih (i + 1) _ (by omega) (acc_next (by omega) ha)
  ·refine ⟨.inl (l, (p : Int), (acc : Int), (i : Int), ()), ?_, .inl ⟨_, rfl⟩⟩
   have hst : F.impl_GetNum.s5 (l, (p : Int), (acc : Int), (i : Int), ()) = some (.exit (l, (p : Int), (acc : Int), (i : Int), ())) := by
    unfold F.impl_GetNum.s5
    simp only
    rw [show decide ((i : Int) < 5) = true from decide_eq_true (by omega), w64_id (x := (p : Int) + (i : Int)) (by omega) (by omega), show decide ((p : Int) + (i : Int) < len l) = false from decide_eq_false (by simp only [len]; omega)]
    rfl
   rw [iterO, hst]
theorem specGet_any (l : List Int) (p : Nat) (hl : l.length <= 1099511627776) (hp : p <= 1099511627778) (hb : bytes l) : ∃ r, F.spec_GetNum l p = some r /\ GetR l p r := by
 obtain ⟨y, h1, h2⟩ := specGet_iter l p hl hp hb 5 0 0 rfl (by simp)
 have h1 : loopO F.spec_GetNum.s3 (l, (p : Int), 0, 0, ()) = _ := loopO_of h1
 unfold F.spec_GetNum
 rw [h1]
 rcases h2 with ⟨z, rfl⟩ | ⟨r, rfl, hr⟩
 ·exact ⟨_, rfl, .inr rfl⟩
 ·exact ⟨r, rfl, hr⟩
theorem implGet_any (l : List Int) (p : Nat) (hl : l.length <= 1099511627776) (hp : p <= 1099511627778) (hb : bytes l) : ∃ r, F.impl_GetNum l p = some r /\ GetR l p r := by
 obtain ⟨y, h1, h2⟩ := implGet_iter l p hl hp hb 5 0 0 rfl (by simp)
 have h1 : loopO F.impl_GetNum.s5 (l, (p : Int), 0, 0, ()) = _ := loopO_of h1
 unfold F.impl_GetNum
 rw [within_eq]
 simp only [Option.bind_some]
 cases inR 0 (w64 (len l - 1)) (p : Int) with
 | false => exact ⟨_, rfl, .inr rfl⟩
 | true =>
  simp only [Bool.not_true, cond_false, h1]
  rcases h2 with ⟨z, rfl⟩ | ⟨r, rfl, hr⟩
  ·exact ⟨_, rfl, .inr rfl⟩
  ·exact ⟨r, rfl, hr⟩
def zByteS (l : List Int) : Nat := l.length
def fByteS (l : List Int) : Prop := l.length <= maxLen
theorem toByteS (l : List Int) (h : zByteS l <= 1048576) : F.laws_toByteS l = some l := by
 have hl : l.length <= 1048576 := by unfold zByteS at h; omega
 unfold F.laws_toByteS
 rw [show mk 1 (len l) (len l) = true from mk_ok (by omega), chk_true, show Int.toNat (len l) = l.length from Int.toNat_natCast _]
 have hh := loop_to (step := F.laws_toByteS.s3) l 0 (fun i m hi hm => by
  unfold F.laws_toByteS.s3
  simp only
  rw [lt_len hi, inb_nat hi, inb_nat hm, Int.toNat_natCast, w64_nat (by omega), getD_at hi]
  simp only [cond_true, chk_true]) (fun m => by
  unfold F.laws_toByteS.s3
  simp only [ge_len, cond_false])
 simp only [hh, afterO]
theorem eqByteS (l : List Int) (h : zByteS l <= 1099511627776) : F.laws_eqByteS l l = some true := by
 have hl : l.length <= 1099511627776 := by unfold zByteS at h; omega
 unfold F.laws_eqByteS
 rw [show (len l != len l) = false by simp]
 have hh := loop_eq (step := F.laws_eqByteS.s4) l (fun i hi => by
  unfold F.laws_eqByteS.s4
  simp only
  rw [lt_len hi, inb_nat hi, Int.toNat_natCast, w64_nat (by omega), bne_self_eq_false]
  simp only [cond_true, cond_false, chk_true]) (by
  unfold F.laws_eqByteS.s4
  simp only [ge_len, cond_false])
 simp only [cond_false, hh, afterO]
def skNums (s : DSketch) : List Int := [s.1, s.2.1, s.2.2.1, s.2.2.2.1] ++ ((s.2.2.2.2.1 ++ s.2.2.2.2.2.1) ++ s.2.2.2.2.2.2.1.flatten)
theorem zSk_len (s : DSketch) (h : zSketch s <= 1048576) : s.2.2.2.2.1.length + s.2.2.2.2.2.1.length + s.2.2.2.2.2.2.1.length + s.2.2.2.2.2.2.1.flatten.length <= 1048576 := by
 unfold zSketch zIntS zIntSS at h
 have := flat_len s.2.2.2.2.2.2.1
 have e : (s.2.2.2.2.2.2.1.map zIntS) = s.2.2.2.2.2.2.1.map List.length := rfl
 rw [e] at h
 omega
theorem l7Nums_eq (s : DSketch) (h : zSketch s <= 1048576) : F.spec_l7Nums s = some (skNums s) := by
 have hz := zSk_len s h
 obtain ⟨a, b, c, d, hi, re, rs, u⟩ := s
 simp only at hz
 unfold F.spec_l7Nums skNums
 simp only [List.length_cons, List.length_nil, List.length_append]
 rw [fits_of (by omega), fits_of (by omega)]
 simp only [chk_true]
 have hh := loop_run (step := F.spec_l7Nums.s5) (fun i => (([a, b, c, d] ++ hi ++ re) ++ (rs.take i).flatten, (i : Int), (a, b, c, d, hi, re, rs, u), ())) rs.length (fun i hi' => by
  have h1 := take_flat_le rs i
  have h2 : rs[i].length <= rs.flatten.length := by
   rw [flat_len]
   exact sum_mem (f := List.length) (List.getElem_mem hi')
  unfold F.spec_l7Nums.s5
  simp only
  rw [lt_len hi', inb_nat hi', Int.toNat_natCast, getD_at hi', w64_nat (by omega)]
  simp only [cond_true, chk_true, List.length_append, List.length_cons, List.length_nil]
  rw [fits_of (by omega), <- tkS hi', List.flatten_append, List.append_assoc]
  simp only [chk_true, List.flatten_cons, List.flatten_nil, List.append_nil]) (l := .exit (([a, b, c, d] ++ hi ++ re) ++ (rs.take rs.length).flatten, ((rs.length : Nat) : Int), (a, b, c, d, hi, re, rs, u), ())) (by
  unfold F.spec_l7Nums.s5
  simp only [ge_len, cond_false]) rfl
 rw [List.take_length] at hh
 have e0 : ([a, b, c, d] ++ hi ++ re) ++ (rs.take 0).flatten = [a, b, c, d] ++ hi ++ re := by simp
 rw [e0] at hh
 refine (congrArg (fun z => afterO z _) hh).trans ?_
 simp only [afterO, List.append_assoc]
theorem skNums_len (s : DSketch) (h : zSketch s <= 1048576) : (skNums s).length <= 1048580 := by
 have := zSk_len s h
 unfold skNums
 simp only [List.length_append, List.length_cons, List.length_nil]
 omega
open Classical in
noncomputable def skB (s : DSketch) : List Int := if SkR s then numsB (skNums s) else []
theorem skB_len (s : DSketch) (h : zSketch s <= 1048576) : (skB s).length <= 5242900 := by
 have h1 := skNums_len s h
 have h2 := numsB_len (skNums s)
 unfold skB
 split
 ·omega
 ·simp
theorem skB_bytes (s : DSketch) : bytes (skB s) := by
 unfold skB
 split
 ·exact numsB_bytes _
 ·exact fun b hb => by cases hb
theorem skBytes_eq (s : DSketch) (h : zSketch s <= 1048576) : F.spec_SketchBytes s = some (skB s) /\ F.impl_SketchBytes s = some (skB s) := by
 obtain ⟨b, h1, h2, h3⟩ := skOk_same s h
 have hz := zSk_len s h
 have hn := skNums_len s h
 unfold F.spec_SketchBytes F.impl_SketchBytes skB
 rw [h1, h2]
 simp only [Option.bind_some]
 cases b with
 | false => rw [if_neg (fun hs => by cases h3.2 hs)]; exact ⟨rfl, rfl⟩
 | true =>
  rw [if_pos (h3.1 rfl), l7Nums_eq s h, counts_eq s h]
  simp only [Bool.not_true, cond_false, Option.bind_some]
  rw [fits_of (by simp only [List.length_append, List.length_cons, List.length_nil]; omega), l7Put_eq _ (by omega)]
  have e : [s.1, s.2.1, s.2.2.1, s.2.2.2.1] ++ (s.2.2.2.2.1 ++ s.2.2.2.2.2.1 ++ s.2.2.2.2.2.2.1.flatten) = skNums s := rfl
  rw [e, putNums_eq _ (by omega)]
  exact ⟨rfl, rfl⟩
noncomputable def bodyB (f : DFrame) : List Int := [87, 82] ++ (numsB [f.1, f.2.1, f.2.2.1, f.2.2.2.1] ++ (numB (len f.2.2.2.2.1) ++ spansB f.2.2.2.2.1)) ++
 (if f.1 = 1 then numsB [f.2.2.2.2.2.1.1, f.2.2.2.2.2.1.2.1, f.2.2.2.2.2.1.2.2.1, f.2.2.2.2.2.1.2.2.2.1] ++ skB f.2.2.2.2.2.1.2.2.2.2.1 else [])
theorem bodyB_bytes (f : DFrame) : bytes (bodyB f) := by
 unfold bodyB
 refine bytes_app (bytes_app (fun b hb => by simp at hb; omega) (bytes_app (numsB_bytes _) (bytes_app (numB_bytes _) (spansB_bytes _)))) ?_
 split
 ·exact bytes_app (numsB_bytes _) (skB_bytes _)
 ·exact fun b hb => by cases hb
theorem bodyB_len (f : DFrame) (h : zFrame f <= 1048576) : (bodyB f).length <= 20000000 := by
 have hz : f.2.2.2.2.1.length + zSketch f.2.2.2.2.2.1.2.2.2.2.1 <= 1048576 := h
 have h1 := numsB_len [f.1, f.2.1, f.2.2.1, f.2.2.2.1]
 have h2 := numB_len (len f.2.2.2.2.1)
 have h3 := spansB_len f.2.2.2.2.1
 have h4 := numsB_len [f.2.2.2.2.2.1.1, f.2.2.2.2.2.1.2.1, f.2.2.2.2.2.1.2.2.1, f.2.2.2.2.2.1.2.2.2.1]
 have h5 := skB_len f.2.2.2.2.2.1.2.2.2.2.1 (by omega)
 simp only [List.length_cons, List.length_nil] at h1 h4
 unfold bodyB
 split
 ·simp only [List.length_append, List.length_cons, List.length_nil]; omega
 ·simp only [List.length_append, List.length_cons, List.length_nil]; omega
theorem l7Body_eq (f : DFrame) (h : zFrame f <= 1048576) : F.spec_l7Body f = some (bodyB f) := by
 have hz : f.2.2.2.2.1.length + zSketch f.2.2.2.2.2.1.2.2.2.2.1 <= 1048576 := h
 have n5 : numsB [f.1, f.2.1, f.2.2.1, f.2.2.2.1, len f.2.2.2.2.1] = numsB [f.1, f.2.1, f.2.2.1, f.2.2.2.1] ++ numB (len f.2.2.2.2.1) := by simp [numsB]
 have h1 := numsB_len [f.1, f.2.1, f.2.2.1, f.2.2.2.1]
 have h2 := numB_len (len f.2.2.2.2.1)
 have h4 := numsB_len [f.2.2.2.2.2.1.1, f.2.2.2.2.2.1.2.1, f.2.2.2.2.2.1.2.2.1, f.2.2.2.2.2.1.2.2.2.1]
 have h5 := skB_len f.2.2.2.2.2.1.2.2.2.2.1 (by omega)
 simp only [List.length_cons, List.length_nil] at h1 h4
 unfold F.spec_l7Body
 rw [l7Put_eq _ (by simp), n5]
 simp only [Option.bind_some, List.length_append, List.length_cons, List.length_nil]
 rw [fits_of (by omega)]
 simp only [chk_true]
 have hh := loop_run (step := F.spec_l7Body.s3) (fun i => (([87, 82] ++ (numsB [f.1, f.2.1, f.2.2.1, f.2.2.2.1] ++ numB (len f.2.2.2.2.1))) ++ spansB (f.2.2.2.2.1.take i), (i : Int), f, ())) f.2.2.2.2.1.length (fun i hi => by
  have g1 := spansB_len (f.2.2.2.2.1.take i)
  have g2 := numB_len f.2.2.2.2.1[i].1
  have g3 := numB_len f.2.2.2.2.1[i].2.1
  rw [List.length_take] at g1
  unfold F.spec_l7Body.s3
  simp only
  rw [lt_len hi, inb_nat hi, Int.toNat_natCast, getD_at hi, w64_nat (by omega), l7Put_eq _ (by simp), numsB_two, spansB_take hi]
  simp only [cond_true, chk_true, Option.bind_some, List.length_append, List.length_cons, List.length_nil]
  rw [fits_of (by omega), List.append_assoc]; rfl) (l := .exit (([87, 82] ++ (numsB [f.1, f.2.1, f.2.2.1, f.2.2.2.1] ++ numB (len f.2.2.2.2.1))) ++ spansB (f.2.2.2.2.1.take f.2.2.2.2.1.length), ((f.2.2.2.2.1.length : Nat) : Int), f, ())) (by
  unfold F.spec_l7Body.s3
  simp only [ge_len, cond_false]) rfl
 rw [List.take_length] at hh
 have e0 : ([87, 82] ++ (numsB [f.1, f.2.1, f.2.2.1, f.2.2.2.1] ++ numB (len f.2.2.2.2.1))) ++ spansB (f.2.2.2.2.1.take 0) = [87, 82] ++ (numsB [f.1, f.2.1, f.2.2.1, f.2.2.2.1] ++ numB (len f.2.2.2.2.1)) := by simp [spansB]
 rw [e0] at hh
 refine (congrArg (fun z => afterO z _) hh).trans ?_
 have h3 := spansB_len f.2.2.2.2.1
 simp only [afterO]
 unfold bodyB
 by_cases hk : f.1 = 1
 ·rw [show (f.1 == 1) = true by rw [beq_iff_eq]; exact hk, if_pos hk, l7Put_eq _ (by simp), (skBytes_eq _ (by omega)).1]
  simp only [cond_true, Option.bind_some, List.length_append, List.length_cons, List.length_nil]
  rw [fits_of (by omega), fits_of (by omega)]
  simp only [chk_true, List.append_assoc]
 ·rw [show (f.1 == 1) = false by rw [beq_eq_false_iff_ne]; exact hk, if_neg hk]
  simp only [cond_false, List.append_assoc, List.append_nil]
open Classical in
noncomputable def frB (f : DFrame) : List Int := if FrR f then bodyB f ++ sumB (bodyB f) else []
theorem frB_eq (f : DFrame) (h : zFrame f <= 1048576) : F.spec_FrameBytes f = some (frB f) /\ F.impl_FrameBytes f = some (frB f) := by
 have hz : f.2.2.2.2.1.length + zSketch f.2.2.2.2.2.1.2.2.2.2.1 <= 1048576 := h
 obtain ⟨b, h1, h2, h3⟩ := frOk_same f h
 have hl := bodyB_len f h
 have hb := bodyB_bytes f
 have hsl : (sumB (bodyB f)).length = 4 := rfl
 unfold F.spec_FrameBytes F.impl_FrameBytes frB
 rw [h1, h2]
 simp only [Option.bind_some]
 cases b with
 | false => rw [if_neg (fun hs => by cases h3.2 hs)]; exact ⟨rfl, rfl⟩
 | true =>
  rw [if_pos (h3.1 rfl), l7Body_eq f h]
  simp only [Bool.not_true, cond_false, Option.bind_some]
  rw [l7Sum_eq _ (by omega) hb]
  simp only [Option.bind_some]
  rw [fits_of (by omega)]
  refine ⟨rfl, ?_⟩
  have g1 := numsB_len [f.1, f.2.1, f.2.2.1, f.2.2.2.1]
  have g2 := numB_len (len f.2.2.2.2.1)
  have g3 := spansB_len f.2.2.2.2.1
  have g4 := numsB_len [f.2.2.2.2.2.1.1, f.2.2.2.2.2.1.2.1, f.2.2.2.2.2.1.2.2.1, f.2.2.2.2.2.1.2.2.2.1]
  have g5 := skB_len f.2.2.2.2.2.1.2.2.2.2.1 (by omega)
  simp only [List.length_cons, List.length_nil] at g1 g4
  rw [putNums_eq _ (by simp), putSpans_eq _ (by omega)]
  simp only [Option.bind_some, List.length_append, List.length_cons, List.length_nil]
  rw [fits_of (by omega), fits_of (by omega)]
  simp only [chk_true]
  by_cases hk : f.1 = 1
  ·have e : bodyB f = [87, 82] ++ numsB [f.1, f.2.1, f.2.2.1, f.2.2.2.1] ++ (numB (len f.2.2.2.2.1) ++ spansB f.2.2.2.2.1) ++ numsB [f.2.2.2.2.2.1.1, f.2.2.2.2.2.1.2.1, f.2.2.2.2.2.1.2.2.1, f.2.2.2.2.2.1.2.2.2.1] ++ skB f.2.2.2.2.2.1.2.2.2.2.1 := by
    unfold bodyB
    rw [if_pos hk]
    simp only [List.append_assoc]
   rw [show (f.1 == 1) = true by rw [beq_iff_eq]; exact hk, putNums_eq _ (by simp), (skBytes_eq _ (by omega)).2]
   simp only [cond_true, Option.bind_some, List.length_append, List.length_cons, List.length_nil]
   rw [fits_of (by omega), fits_of (by omega), <- e, implCrc_eq _ (by omega) hb]
   simp only [chk_true, Option.bind_some, sum_impl]
   rw [fits_of (by omega)]; rfl
  ·have e : bodyB f = [87, 82] ++ numsB [f.1, f.2.1, f.2.2.1, f.2.2.2.1] ++ (numB (len f.2.2.2.2.1) ++ spansB f.2.2.2.2.1) := by
    unfold bodyB
    rw [if_neg hk]
    simp only [List.append_assoc, List.append_nil]
   rw [show (f.1 == 1) = false by rw [beq_eq_false_iff_ne]; exact hk]
   simp only [cond_false, List.length_append, List.length_cons, List.length_nil]
   rw [<- e, implCrc_eq _ (by omega) hb]
   simp only [chk_true, Option.bind_some, sum_impl]
   rw [fits_of (by omega)]; rfl
theorem frBytes_same (f : DFrame) (h : zFrame f <= 1048576) : ∃ r, F.spec_FrameBytes f = some r /\ F.impl_FrameBytes f = some r /\ zByteS r <= 1099511627776 := by
 refine ⟨frB f, (frB_eq f h).1, (frB_eq f h).2, ?_⟩
 have := bodyB_len f h
 have hs : (sumB (bodyB f)).length = 4 := rfl
 unfold zByteS frB
 split
 ·rw [List.length_append]; omega
 ·simp
def nums (l : List Int) : Prop := ∀ x ∈ l, 0 <= x /\ x <= 2147483647
theorem drp_at {l : List Int} {p : Nat} {a b : List Int} (h : l.drop p = a ++ b) : l.drop (p + a.length) = b := by
 rw [<- List.drop_drop, h, List.drop_left]
theorem numsB_split (xs : List Int) (i : Nat) (hi : i < xs.length) : numsB xs = numsB (xs.take i) ++ (numB xs[i] ++ numsB (xs.drop (i + 1))) := by
 have e : xs = xs.take i ++ xs[i] :: xs.drop (i + 1) := by rw [<- List.drop_eq_getElem_cons hi, List.take_append_drop]
 refine (congrArg numsB e).trans ?_
 unfold numsB
 rw [List.flatMap_append, List.flatMap_cons]
theorem l7Get_put (l : List Int) (p : Nat) (xs post : List Int) (hx : nums xs) (hl : l.length <= 1099511627776) (hn : xs.length <= 4194304) (hd : l.drop p = numsB xs ++ post) :
  F.spec_l7Get l p ((xs.length : Nat) : Int) = some (xs, ((p + (numsB xs).length : Nat) : Int), true) := by
 unfold F.spec_l7Get
 have hh := loop_run (step := F.spec_l7Get.s3) (fun i => (l, ((p + (numsB (xs.take i)).length : Nat) : Int), ((xs.length : Nat) : Int), xs.take i, (i : Int), ())) xs.length (fun i hi => by
  have e := numsB_split xs i hi
  have hd2 : l.drop (p + (numsB (xs.take i)).length) = numB xs[i] ++ (numsB (xs.drop (i + 1)) ++ post) := by
   rw [e] at hd
   have := drp_at (a := numsB (xs.take i)) (b := (numB xs[i] ++ numsB (xs.drop (i + 1))) ++ post) (by rw [hd]; simp)
   rw [this]; simp
  obtain ⟨q, _⟩ := get_num l (p + (numsB (xs.take i)).length) _ xs[i] (hx _ (List.getElem_mem hi)).1 (hx _ (List.getElem_mem hi)).2 hl hd2
  unfold F.spec_l7Get.s3
  simp only
  rw [show decide ((i : Int) < ((xs.length : Nat) : Int)) = true from decide_eq_true (by omega), q, w64_nat (by omega)]
  simp only [cond_true, Option.bind_some, Bool.not_true, cond_false, List.length_cons, List.length_nil, List.length_take]
  rw [fits_of (by omega), tkS hi, numsB_take hi, List.length_append, Nat.add_assoc]; rfl) (l := .exit (l, ((p + (numsB (xs.take xs.length)).length : Nat) : Int), ((xs.length : Nat) : Int), xs.take xs.length, ((xs.length : Nat) : Int), ())) (by
  unfold F.spec_l7Get.s3
  simp only
  rw [show decide (((xs.length : Nat) : Int) < ((xs.length : Nat) : Int)) = false from decide_eq_false (by omega)]; rfl) rfl
 rw [List.take_length] at hh
 have e0 : ((p + (numsB (xs.take 0)).length : Nat) : Int) = (p : Int) := by simp [numsB]
 rw [e0] at hh
 refine (congrArg (fun z => afterO z _) hh).trans ?_
 rfl
theorem l7Get_any (l : List Int) (p : Nat) (n : Int) (hl : l.length <= 1048576) (hp : p <= l.length) (hb : bytes l) (hn : n <= 4194304) :
  ∃ r : List Int × Int × Bool, F.spec_l7Get l p n = some r /\ ((r.2.2 = true /\ (r.1.length : Int) = (if 0 <= n then n else 0) /\ (p : Int) <= r.2.1 /\ r.2.1 <= (l.length : Int) /\ nums r.1) \/ r = ([], 0, false)) := by
 unfold F.spec_l7Get
 obtain ⟨y, h1, h2⟩ := loopO_rule (step := F.spec_l7Get.s3) (fun x => x.1 = l /\ (p : Int) <= x.2.1 /\ x.2.1 <= (l.length : Int) /\ x.2.2.1 = n /\ (x.2.2.2.1.length : Int) = x.2.2.2.2.1 /\ 0 <= x.2.2.2.2.1 /\ (x.2.2.2.2.1 <= n \/ x.2.2.2.2.1 = 0) /\ nums x.2.2.2.1)
  (fun y => (∃ z : List Int × Int × Int × List Int × Int × Unit, y = .inl z /\ (p : Int) <= z.2.1 /\ z.2.1 <= (l.length : Int) /\ (z.2.2.2.1.length : Int) = (if 0 <= n then n else 0) /\ nums z.2.2.2.1) \/ y = .inr ([], 0, false))
  (fun x => 4194305 - x.2.2.2.2.1.toNat) (fun x hx => by
   obtain ⟨x1, x2, x3, x4, x5, u⟩ := x
   obtain ⟨rfl, g1, g2, g3, g4, g5, g6, g7⟩ := hx
   simp only at g1 g2 g3 g4 g5 g6 g7
   have hl : x1.length <= 1048576 := hl
   have hb : bytes x1 := hb
   subst g3
   unfold F.spec_l7Get.s3
   simp only
   by_cases hlt : x5 < x3
   ·rw [decide_eq_true hlt]
    obtain ⟨r, q, hr⟩ := specGet_any x1 x2.toNat (by omega) (by omega) hb
    rw [show ((x2.toNat : Nat) : Int) = x2 by omega] at q
    rw [q]
    simp only [cond_true, Option.bind_some]
    rcases hr with ⟨a1, a2, a3, a4, a5⟩ | rfl
    ·rw [a1]
     simp only [Bool.not_true, cond_false, List.length_cons, List.length_nil]
     rw [fits_of (by omega)]
     refine ⟨_, rfl, ⟨rfl, ?_, ?_, rfl, ?_, ?_, ?_, ?_⟩, ?_⟩
     all_goals simp only
     ·omega
     ·omega
     ·rw [w64_id (by omega) (by omega)]; simp; omega
     ·rw [w64_id (by omega) (by omega)]; omega
     ·rw [w64_id (by omega) (by omega)]; omega
     ·intro z hz
      rcases List.mem_append.1 hz with hz | hz
      ·exact g7 z hz
      ·rw [List.mem_singleton.1 hz]; exact ⟨a4, a5⟩
     ·rw [w64_id (by omega) (by omega)]; omega
    ·exact ⟨.ret ([], 0, false), rfl, .inr rfl⟩
   ·rw [decide_eq_false hlt]
    refine ⟨_, rfl, .inl ⟨_, rfl, g1, g2, ?_, g7⟩⟩
    simp only
    split <;> omega) (x := (l, (p : Int), n, [], 0, ())) ⟨rfl, Int.le_refl _, by simp only; omega, rfl, rfl, Int.le_refl 0, .inr rfl, fun z hz => by cases hz⟩
 rw [h1]
 rcases h2 with ⟨⟨z1, z2, z3, z4, z5, u⟩, rfl, k1, k2, k3, k4⟩ | rfl
 ·exact ⟨_, rfl, .inl ⟨rfl, k3, k1, k2, k4⟩⟩
 ·exact ⟨_, rfl, .inr rfl⟩
def RdOk (l : List Int) (r : DReader) : Prop := r.1 = l /\ 0 <= r.2.1 /\ r.2.1 <= 1099511627778
theorem rnum_put (l : List Int) (p : Nat) (x : Int) (post : List Int) (h0 : 0 <= x /\ x <= 2147483647) (hl : l.length <= 1099511627776) (hd : l.drop p = numB x ++ post) :
  F.impl_reader_num (l, (p : Int), false, ()) = some (x, (l, ((p + (numB x).length : Nat) : Int), false, ())) := by
 unfold F.impl_reader_num
 rw [(get_num l p post x h0.1 h0.2 hl hd).2]; rfl
theorem rnum_any (l : List Int) (r : DReader) (hl : l.length <= 1099511627776) (hb : bytes l) (h : RdOk l r) : ∃ v r', F.impl_reader_num r = some (v, r') /\ RdOk l r' /\ (r'.2.2.1 = false -> r.2.2.1 = false /\ r.2.1 < r'.2.1 /\ r'.2.1 <= (l.length : Int)) := by
 obtain ⟨r0, r1, r2, u⟩ := r
 obtain ⟨rfl, h1, h2⟩ := h
 simp only at h1 h2
 have hl : r0.length <= 1099511627776 := hl
 obtain ⟨q, hq, hr⟩ := implGet_any r0 r1.toNat hl (by omega) hb
 rw [show ((r1.toNat : Nat) : Int) = r1 by omega] at hq
 unfold F.impl_reader_num
 simp only [hq, Option.bind_some]
 cases r2 with
 | true => exact ⟨_, _, rfl, ⟨rfl, h1, h2⟩, fun h => by cases h⟩
 | false =>
  rcases hr with ⟨a1, a2, a3, a4, a5⟩ | rfl
  ·rw [a1]
   refine ⟨_, _, rfl, ⟨rfl, ?_, ?_⟩, fun _ => ⟨rfl, ?_, a3⟩⟩
   all_goals simp only
   ·omega
   ·omega
   ·omega
  ·exact ⟨_, _, rfl, ⟨rfl, h1, h2⟩, fun h => by cases h⟩
theorem rnums_put (l : List Int) (p : Nat) (xs post : List Int) (hx : nums xs) (hl : l.length <= 1099511627776) (hn : xs.length <= 4194304) (hd : l.drop p = numsB xs ++ post) :
  F.impl_reader_nums (l, (p : Int), false, ()) ((xs.length : Nat) : Int) = some (xs, (l, ((p + (numsB xs).length : Nat) : Int), false, ())) := by
 unfold F.impl_reader_nums
 have hh := loop_run (step := F.impl_reader_nums.s3) (fun i => (((xs.length : Nat) : Int), xs.take i, (i : Int), (l, ((p + (numsB (xs.take i)).length : Nat) : Int), false, ()), ())) xs.length (fun i hi => by
  have e := numsB_split xs i hi
  have hd2 : l.drop (p + (numsB (xs.take i)).length) = numB xs[i] ++ (numsB (xs.drop (i + 1)) ++ post) := by
   rw [e] at hd
   have := drp_at (a := numsB (xs.take i)) (b := (numB xs[i] ++ numsB (xs.drop (i + 1))) ++ post) (by rw [hd]; simp)
   rw [this]; simp
  have q := rnum_put l (p + (numsB (xs.take i)).length) xs[i] _ (hx _ (List.getElem_mem hi)) hl hd2
  unfold F.impl_reader_nums.s3
  simp only
  rw [show decide ((i : Int) < ((xs.length : Nat) : Int)) = true from decide_eq_true (by omega), q, w64_nat (by omega)]
  simp only [cond_true, Option.bind_some, Bool.not_false, List.length_cons, List.length_nil, List.length_take]
  rw [fits_of (by omega), tkS hi, numsB_take hi, List.length_append, Nat.add_assoc]; rfl) (l := .exit (((xs.length : Nat) : Int), xs.take xs.length, ((xs.length : Nat) : Int), (l, ((p + (numsB (xs.take xs.length)).length : Nat) : Int), false, ()), ())) (by
  unfold F.impl_reader_nums.s3
  simp only
  rw [show decide (((xs.length : Nat) : Int) < ((xs.length : Nat) : Int)) = false from decide_eq_false (by omega)]; rfl) rfl
 rw [List.take_length] at hh
 have e0 : ((p + (numsB (xs.take 0)).length : Nat) : Int) = (p : Int) := by simp [numsB]
 rw [e0] at hh
 refine (congrArg (fun z => afterO z _) hh).trans ?_
 rfl
theorem rnums_any (l : List Int) (r : DReader) (n : Nat) (hn : n <= 100) (hl : l.length <= 1099511627776) (hb : bytes l) (h : RdOk l r) : ∃ xs r', F.impl_reader_nums r n = some (xs, r') /\ RdOk l r' /\ xs.length <= 100 := by
 unfold F.impl_reader_nums
 obtain ⟨y, h1, z, rfl, h2, h3⟩ := loopO_rule (step := F.impl_reader_nums.s3) (fun x => x.1 = (n : Int) /\ (x.2.1.length : Int) <= x.2.2.1 /\ 0 <= x.2.2.1 /\ x.2.2.1 <= 100 /\ RdOk l x.2.2.2.1)
  (fun y => ∃ z : Int × List Int × Int × DReader × Unit, y = .inl z /\ RdOk l z.2.2.2.1 /\ z.2.1.length <= 100)
  (fun x => 101 - x.2.2.1.toNat) (fun x hx => by
   obtain ⟨x1, x2, x3, x4, u⟩ := x
   obtain ⟨g1, g2, g3, g4, g5⟩ := hx
   simp only at g1 g2 g3 g4 g5
   unfold F.impl_reader_nums.s3
   simp only
   by_cases hlt : x3 < x1
   ·rw [decide_eq_true hlt]
    cases hbad : x4.2.2.1 with
    | true => exact ⟨_, rfl, _, rfl, g5, by simp only; omega⟩
    | false =>
     obtain ⟨v, r', q, k1, k2⟩ := rnum_any l x4 hl hb g5
     simp only [Bool.not_false, cond_true, q, Option.bind_some, List.length_cons, List.length_nil]
     rw [fits_of (by omega)]
     refine ⟨_, rfl, ⟨g1, ?_, ?_, ?_, k1⟩, ?_⟩
     all_goals simp only
     all_goals rw [w64_id (by omega) (by omega)]
     ·simp; omega
     ·omega
     ·omega
     ·omega
   ·rw [decide_eq_false hlt]
    exact ⟨_, rfl, _, rfl, g5, by simp only; omega⟩) (x := ((n : Int), [], 0, r, ())) ⟨rfl, Int.le_refl 0, Int.le_refl 0, by simp, h⟩
 rw [h1]
 obtain ⟨z1, z2, z3, z4, u⟩ := z
 exact ⟨_, _, rfl, h2, h3⟩
def spNums (s : List DSpan) : Prop := ∀ x ∈ s, (0 <= x.1 /\ x.1 <= 2147483647) /\ (0 <= x.2.1 /\ x.2.1 <= 2147483647)
theorem spansB_split (xs : List DSpan) (i : Nat) (hi : i < xs.length) : spansB xs = spansB (xs.take i) ++ (numB xs[i].1 ++ (numB xs[i].2.1 ++ spansB (xs.drop (i + 1)))) := by
 have e : xs = xs.take i ++ xs[i] :: xs.drop (i + 1) := by rw [<- List.drop_eq_getElem_cons hi, List.take_append_drop]
 refine (congrArg spansB e).trans ?_
 unfold spansB
 rw [List.flatMap_append, List.flatMap_cons, List.append_assoc]
theorem rspans_put (l : List Int) (p : Nat) (xs : List DSpan) (post : List Int) (hx : spNums xs) (hl : l.length <= 1099511627776) (hn : xs.length <= 1048576) (hd : l.drop p = numB (len xs) ++ (spansB xs ++ post)) :
  F.impl_reader_spans (l, (p : Int), false, ()) = some (xs, (l, ((p + (numB (len xs)).length + (spansB xs).length : Nat) : Int), false, ())) := by
 unfold F.impl_reader_spans
 rw [rnum_put l p (len xs) _ (by simp only [len]; omega) hl hd]
 simp only [Option.bind_some]
 have hd1 := drp_at hd
 generalize p + (numB (len xs)).length = p1 at hd1
 have hh := loop_run (step := F.impl_reader_spans.s4) (fun i => (xs.take i, len xs, (i : Int), (l, ((p1 + (spansB (xs.take i)).length : Nat) : Int), false, ()), ())) xs.length (fun i hi => by
  have e := spansB_split xs i hi
  have hd2 : l.drop (p1 + (spansB (xs.take i)).length) = numB xs[i].1 ++ (numB xs[i].2.1 ++ (spansB (xs.drop (i + 1)) ++ post)) := by
   rw [e] at hd1
   have := drp_at (a := spansB (xs.take i)) (b := (numB xs[i].1 ++ (numB xs[i].2.1 ++ spansB (xs.drop (i + 1)))) ++ post) (by rw [hd1]; simp)
   rw [this]; simp
  have q := rnum_put l _ xs[i].1 _ (hx _ (List.getElem_mem hi)).1 hl hd2
  have q2 := rnum_put l _ xs[i].2.1 _ (hx _ (List.getElem_mem hi)).2 hl (drp_at hd2)
  unfold F.impl_reader_spans.s4
  simp only
  rw [lt_len hi, q, w64_nat (by omega)]
  simp only [cond_true, Option.bind_some, Bool.not_false, q2, List.length_cons, List.length_nil, List.length_take]
  rw [fits_of (by omega), show ((xs[i].1, xs[i].2.1, ()) : DSpan) = xs[i] from rfl, tkS hi, spansB_take hi, List.length_append, List.length_append]
  simp only [chk_true, Nat.add_assoc]) (l := .exit (xs.take xs.length, len xs, ((xs.length : Nat) : Int), (l, ((p1 + (spansB (xs.take xs.length)).length : Nat) : Int), false, ()), ())) (by
  unfold F.impl_reader_spans.s4
  simp only [ge_len, cond_false]) rfl
 rw [List.take_length] at hh
 have e0 : ((p1 + (spansB (xs.take 0)).length : Nat) : Int) = (p1 : Int) := by simp [spansB]
 rw [e0] at hh
 refine (congrArg (fun z => afterO z _) hh).trans ?_
 rfl
theorem rspans_any (l : List Int) (r : DReader) (hl : l.length <= 1048576) (hb : bytes l) (h : RdOk l r) : ∃ xs r', F.impl_reader_spans r = some (xs, r') /\ RdOk l r' /\ 2 * xs.length <= l.length + 2 := by
 unfold F.impl_reader_spans
 obtain ⟨n, r1, q, k1, k2⟩ := rnum_any l r (by omega) hb h
 simp only [q, Option.bind_some]
 obtain ⟨y, h1, z, rfl, h2, h3⟩ := loopO_rule (step := F.impl_reader_spans.s4) (fun x => (x.1.length : Int) = x.2.2.1 /\ RdOk l x.2.2.2.1 /\ 0 <= x.2.2.1 /\ 2 * x.2.2.1 <= (l.length : Int) + 2 /\ (x.2.2.2.1.2.2.1 = false -> 2 * x.2.2.1 <= x.2.2.2.1.2.1 /\ x.2.2.2.1.2.1 <= (l.length : Int)))
  (fun y => ∃ z : List DSpan × Int × Int × DReader × Unit, y = .inl z /\ RdOk l z.2.2.2.1 /\ 2 * z.1.length <= l.length + 2)
  (fun x => if x.2.2.2.1.2.2.1 = true then 0 else (l.length + 2) - x.2.2.2.1.2.1.toNat) (fun x hx => by
   obtain ⟨x1, x2, x3, x4, u⟩ := x
   obtain ⟨g1, g2, g3, g4, g5⟩ := hx
   simp only at g1 g2 g3 g4 g5
   unfold F.impl_reader_spans.s4
   simp only
   by_cases hlt : x3 < x2
   ·rw [decide_eq_true hlt]
    cases hbad : x4.2.2.1 with
    | true => exact ⟨_, rfl, _, rfl, g2, by simp only; omega⟩
    | false =>
     obtain ⟨v, r2, q1, a1, a2⟩ := rnum_any l x4 (by omega) hb g2
     obtain ⟨v2, r3, q2, b1, b2⟩ := rnum_any l r2 (by omega) hb a1
     have g6 := g5 hbad
     simp only [Bool.not_false, cond_true, q1, q2, Option.bind_some, List.length_cons, List.length_nil]
     rw [fits_of (by omega)]
     refine ⟨_, rfl, ⟨?_, b1, ?_, ?_, fun hb3 => ?_⟩, ?_⟩
     all_goals simp only
     all_goals try rw [w64_id (by omega) (by omega)]
     ·simp; omega
     ·omega
     ·omega
     ·obtain ⟨c1, c2, c3⟩ := b2 hb3
      obtain ⟨d1, d2, d3⟩ := a2 c1
      omega
     ·cases hb3 : r3.2.2.1 with
      | true => simp; have := g2.2.1; omega
      | false =>
       obtain ⟨c1, c2, c3⟩ := b2 hb3
       obtain ⟨d1, d2, d3⟩ := a2 c1
       simp
       have := b1.2.1
       have := g2.2.1
       omega
   ·rw [decide_eq_false hlt]
    exact ⟨_, rfl, _, rfl, g2, by simp only; omega⟩) (x := ([], n, 0, r1, ())) ⟨rfl, k1, Int.le_refl 0, by simp only; omega, fun hb3 => ⟨by have := k1.2.1; simp only; omega, (k2 hb3).2.2⟩⟩
 rw [h1]
 obtain ⟨z1, z2, z3, z4, u⟩ := z
 exact ⟨_, _, rfl, h2, h3⟩
theorem numsB_app (a b : List Int) : numsB (a ++ b) = numsB a ++ numsB b := by unfold numsB; rw [List.flatMap_append]
theorem numsB_cons (x : Int) (l : List Int) : numsB (x :: l) = numB x ++ numsB l := rfl
theorem nums_of {l : List Int} {m : Int} {c : Int} (hm : m <= 2147483647) (h : ∀ x ∈ l, (0 <= x /\ x <= m) /\ (c = 0 -> x = 0)) : nums l := fun x hx => ⟨(h x hx).1.1, by have := (h x hx).1.2; omega⟩
theorem skR_parts {s : DSketch} (h : SkR s) : ∃ a b c d hi re r0 r1, s = (a, b, c, d, hi, re, [r0, r1], ()) /\ hi.length = 8 /\ re.length = 8 /\ r0.length = 4 /\ r1.length = 4 /\ (0 <= a /\ a <= 2147483647) /\ (0 <= b /\ b <= 2147483647) /\ (0 <= c /\ c <= 2147483647) /\ (0 <= d /\ d <= 2147483647) /\ nums hi /\ nums re /\ nums r0 /\ nums r1 := by
 obtain ⟨a, b, c, d, hi, re, rs, u⟩ := s
 obtain ⟨h1, h2, h3, h4, h5, _, h7, h8, r0, r1, h9, h10, h11⟩ := h
 simp only at h1 h2 h3 h4 h5 h7 h8 h9 h10 h11
 subst h9
 exact ⟨a, b, c, d, hi, re, r0, r1, rfl, h7.1, h8.1, h10.1, h11.1, by omega, by omega, by omega, by omega, nums_of (by omega) h7.2, nums_of (by omega) h8.2, nums_of (by omega) h10.2, nums_of (by omega) h11.2⟩
theorem skNums_eq (a b c d : Int) (hi re r0 r1 : List Int) : skNums (a, b, c, d, hi, re, [r0, r1], ()) = a :: b :: c :: d :: (hi ++ (re ++ (r0 ++ r1))) := by
 simp [skNums]
theorem rsketch_put (l : List Int) (p : Nat) (s : DSketch) (post : List Int) (hs : SkR s) (hl : l.length <= 1099511627776) (hd : l.drop p = numsB (skNums s) ++ post) :
  F.impl_reader_sketch (l, (p : Int), false, ()) = some (s, (l, ((p + (numsB (skNums s)).length : Nat) : Int), false, ())) := by
 obtain ⟨a, b, c, d, hi, re, r0, r1, rfl, l1, l2, l3, l4, ha, hb, hc, hdd, n1, n2, n3, n4⟩ := skR_parts hs
 rw [skNums_eq] at hd ⊢
 simp only [numsB_cons, numsB_app, List.append_assoc, List.length_append] at hd ⊢
 unfold F.impl_reader_sketch
 have q1 := rnum_put l p a _ ha hl hd
 have d1 := drp_at hd
 have q2 := rnum_put l _ b _ hb hl d1
 have d2 := drp_at d1
 have q3 := rnum_put l _ c _ hc hl d2
 have d3 := drp_at d2
 have q4 := rnum_put l _ d _ hdd hl d3
 have d4 := drp_at d3
 have q5 := rnums_put l _ hi _ n1 hl (by omega) d4
 have d5 := drp_at d4
 have q6 := rnums_put l _ re _ n2 hl (by omega) d5
 have d6 := drp_at d5
 have q7 := rnums_put l _ r0 _ n3 hl (by omega) d6
 have d7 := drp_at d6
 have q8 := rnums_put l _ r1 _ n4 hl (by omega) d7
 rw [l1] at q5
 rw [l2] at q6
 rw [l3] at q7
 rw [l4] at q8
 rw [show ((8 : Nat) : Int) = 8 from rfl] at q5 q6
 rw [show ((4 : Nat) : Int) = 4 from rfl] at q7 q8
 simp only [q1, q2, q3, q4, q5, q6, q7, q8, Option.bind_some]
 simp only [Nat.add_assoc]
theorem rsketch_any (l : List Int) (r : DReader) (hl : l.length <= 1099511627776) (hb : bytes l) (h : RdOk l r) : ∃ s r', F.impl_reader_sketch r = some (s, r') /\ RdOk l r' /\ zSketch s <= 1000 := by
 obtain ⟨v1, r1, e1, k1, _⟩ := rnum_any l r hl hb h
 obtain ⟨v2, r2, e2, k2, _⟩ := rnum_any l r1 hl hb k1
 obtain ⟨v3, r3, e3, k3, _⟩ := rnum_any l r2 hl hb k2
 obtain ⟨v4, r4, e4, k4, _⟩ := rnum_any l r3 hl hb k3
 obtain ⟨x5, r5, e5, k5, z5⟩ := rnums_any l r4 8 (by omega) hl hb k4
 obtain ⟨x6, r6, e6, k6, z6⟩ := rnums_any l r5 8 (by omega) hl hb k5
 obtain ⟨x7, r7, e7, k7, z7⟩ := rnums_any l r6 4 (by omega) hl hb k6
 obtain ⟨x8, r8, e8, k8, z8⟩ := rnums_any l r7 4 (by omega) hl hb k7
 rw [show ((8 : Nat) : Int) = 8 from rfl] at e5 e6
 rw [show ((4 : Nat) : Int) = 4 from rfl] at e7 e8
 unfold F.impl_reader_sketch
 simp only [e1, e2, e3, e4, e5, e6, e7, e8, Option.bind_some]
 refine ⟨_, _, rfl, k8, ?_⟩
 simp only [zSketch, zIntS, zIntSS, List.length_cons, List.length_nil, List.map_cons, List.map_nil, List.sum_cons, List.sum_nil]
 omega
theorem skOf_put (s : DSketch) (hs : SkR s) (hz : zSketch s <= 1048576) : F.spec_SketchOf (numsB (skNums s)) = some (s, true) := by
 obtain ⟨b, o1, _, o3⟩ := skOk_same s hz
 have ob := o3.2 hs
 subst ob
 obtain ⟨a, b, c, d, hi, re, r0, r1, rfl, l1, l2, l3, l4, ha, hb, hc, hdd, n1, n2, n3, n4⟩ := skR_parts hs
 have hn : nums (skNums (a, b, c, d, hi, re, [r0, r1], ())) := by
  rw [skNums_eq]
  intro x hx
  simp only [List.mem_cons, List.mem_append] at hx
  rcases hx with rfl | rfl | rfl | rfl | hx | hx | hx | hx
  ·exact ha
  ·exact hb
  ·exact hc
  ·exact hdd
  ·exact n1 x hx
  ·exact n2 x hx
  ·exact n3 x hx
  ·exact n4 x hx
 have hlen : (skNums (a, b, c, d, hi, re, [r0, r1], ())).length = 28 := by rw [skNums_eq]; simp [l1, l2, l3, l4]
 have hB := numsB_len (skNums (a, b, c, d, hi, re, [r0, r1], ()))
 have q := l7Get_put (numsB (skNums (a, b, c, d, hi, re, [r0, r1], ()))) 0 (skNums (a, b, c, d, hi, re, [r0, r1], ())) [] hn (by omega) (by omega) (by simp)
 rw [hlen] at q
 have q : F.spec_l7Get (numsB (skNums (a, b, c, d, hi, re, [r0, r1], ()))) 0 28 = _ := q
 unfold F.spec_SketchOf
 rw [q]
 simp only [Option.bind_some, Bool.not_true, cond_false, Nat.zero_add]
 rw [show ((((numsB (skNums (a, b, c, d, hi, re, [r0, r1], ()))).length : Nat) : Int) != len (numsB (skNums (a, b, c, d, hi, re, [r0, r1], ())))) = false by simp [len]]
 simp only [cond_false, show w64 (4 + 8) = 12 from rfl, show w64 (12 + 8) = 20 from rfl, show w64 (20 + 4) = 24 from rfl, hlen, show len (skNums (a, b, c, d, hi, re, [r0, r1], ())) = 28 by simp only [len, hlen]; rfl]
 have t1 : List.take ((12 : Int).toNat - 4) (List.drop 4 (skNums (a, b, c, d, hi, re, [r0, r1], ()))) = hi := by
  rw [skNums_eq]; simp [l1, List.take_append_of_le_length]
 have t2 : List.take ((20 : Int).toNat - (12 : Int).toNat) (List.drop (12 : Int).toNat (skNums (a, b, c, d, hi, re, [r0, r1], ()))) = re := by
  rw [skNums_eq]; simp [List.drop_append, l1, l2, List.take_append_of_le_length]
 have t3 : List.take ((24 : Int).toNat - (20 : Int).toNat) (List.drop (20 : Int).toNat (skNums (a, b, c, d, hi, re, [r0, r1], ()))) = r0 := by
  rw [skNums_eq]; simp [List.drop_append, l1, l2, l3, List.take_append_of_le_length, List.drop_eq_nil_of_le (show hi.length <= 16 by omega), List.drop_eq_nil_of_le (show re.length <= 8 by omega)]
 have t4 : List.take ((28 : Int).toNat - (24 : Int).toNat) (List.drop (24 : Int).toNat (skNums (a, b, c, d, hi, re, [r0, r1], ()))) = r1 := by
  rw [skNums_eq]; simp [List.drop_append, l1, l2, l3, List.take_of_length_le (show r1.length <= 4 by omega), List.drop_eq_nil_of_le (show hi.length <= 20 by omega), List.drop_eq_nil_of_le (show re.length <= 12 by omega), List.drop_eq_nil_of_le (show r0.length <= 4 by omega)]
 rw [t1, t2, t3, t4]
 simp only [List.nil_append, List.length_nil, l1, l2, l3, l4]
 rw [show inb 0 28 = true from rfl, show inb 1 28 = true from rfl, show inb 2 28 = true from rfl, show inb 3 28 = true from rfl, show cutOk 4 12 28 = true from rfl, show cutOk 12 20 28 = true from rfl, show cutOk 20 24 28 = true from rfl, show cutOk 24 28 28 = true from rfl, fits_of (n := 0 + 8) (by omega), fits_of (n := 0 + 4) (by omega)]
 have g0 : (skNums (a, b, c, d, hi, re, [r0, r1], ())).getD 0 0 = a := by rw [skNums_eq]; rfl
 have g1 : (skNums (a, b, c, d, hi, re, [r0, r1], ())).getD 1 0 = b := by rw [skNums_eq]; rfl
 have g2 : (skNums (a, b, c, d, hi, re, [r0, r1], ())).getD 2 0 = c := by rw [skNums_eq]; rfl
 have g3 : (skNums (a, b, c, d, hi, re, [r0, r1], ())).getD 3 0 = d := by rw [skNums_eq]; rfl
 simp only [chk_true, g0, g1, g2, g3, o1, Option.bind_some, Bool.not_true, cond_false]
theorem skOf_any (l : List Int) (hl : l.length <= 1048576) (hb : bytes l) : ∃ s ok, F.spec_SketchOf l = some (s, ok) /\ zSketch s <= 1000 := by
 obtain ⟨r, q, hr⟩ := l7Get_any l 0 28 hl (by omega) hb (by omega)
 have q : F.spec_l7Get l 0 28 = some r := q
 have hz0 : zSketch ((0, 0, 0, 0, [], [], [], ()) : DSketch) <= 1000 := by simp [zSketch, zIntS, zIntSS]
 unfold F.spec_SketchOf
 rw [q]
 simp only [Option.bind_some]
 rcases hr with ⟨h1, h2, h3, h4, _⟩ | rfl
 case inr => exact ⟨_, _, rfl, hz0⟩
 rw [h1]
 simp only [Bool.not_true, cond_false]
 cases (r.2.1 != len l) with
 | true => exact ⟨_, _, rfl, hz0⟩
 | false =>
  have hlen : r.1.length = 28 := by simp at h2; omega
  simp only [cond_false, show w64 (4 + 8) = 12 from rfl, show w64 (12 + 8) = 20 from rfl, show w64 (20 + 4) = 24 from rfl, hlen, show len r.1 = 28 by simp only [len, hlen]; rfl]
  simp only [List.nil_append, List.length_nil]
  have f1 : ∀ (k m : Nat), (List.take k (List.drop m r.1)).length <= 28 := fun k m => by rw [List.length_take, List.length_drop]; omega
  rw [show inb 0 28 = true from rfl, show inb 1 28 = true from rfl, show inb 2 28 = true from rfl, show inb 3 28 = true from rfl, show cutOk 4 12 28 = true from rfl, show cutOk 12 20 28 = true from rfl, show cutOk 20 24 28 = true from rfl, show cutOk 24 28 28 = true from rfl]
  have f2 : ∀ (k m : Nat), fits (0 + (List.take k (List.drop m r.1)).length) 8 = true := fun k m => fits_of (by have := f1 k m; omega)
  simp only [f2, chk_true]
  generalize hS : ((r.1.getD 0 0, r.1.getD 1 0, r.1.getD 2 0, r.1.getD 3 0, List.take ((12 : Int).toNat - 4) (List.drop 4 r.1), List.take ((20 : Int).toNat - (12 : Int).toNat) (List.drop (12 : Int).toNat r.1), [List.take ((24 : Int).toNat - (20 : Int).toNat) (List.drop (20 : Int).toNat r.1), List.take ((28 : Int).toNat - (24 : Int).toNat) (List.drop (24 : Int).toNat r.1)], ()) : DSketch) = S
  have hzS : zSketch S <= 1000 := by
   rw [<- hS]
   simp only [zSketch, zIntS, zIntSS, List.length_cons, List.length_nil, List.map_cons, List.map_nil, List.sum_cons, List.sum_nil]
   have a1 := f1 ((12 : Int).toNat - 4) 4
   have a2 := f1 ((20 : Int).toNat - (12 : Int).toNat) (12 : Int).toNat
   have a3 := f1 ((24 : Int).toNat - (20 : Int).toNat) (20 : Int).toNat
   have a4 := f1 ((28 : Int).toNat - (24 : Int).toNat) (24 : Int).toNat
   omega
  obtain ⟨b, o1, _, _⟩ := skOk_same S (by omega)
  rw [o1]
  simp only [Option.bind_some]
  cases b with
  | false => exact ⟨_, _, rfl, hz0⟩
  | true => exact ⟨_, _, rfl, hzS⟩
theorem u8_inj {a b : Int} (ha : 0 <= a /\ a < 256) (hb : 0 <= b /\ b < 256) (h : UInt8.ofNat a.toNat = UInt8.ofNat b.toNat) : a = b := by
 have := congrArg UInt8.toNat h
 simp at this
 omega
theorem map_u8_inj : ∀ {a b : List Int}, bytes a -> bytes b -> a.map (fun n => UInt8.ofNat n.toNat) = b.map (fun n => UInt8.ofNat n.toNat) -> a = b
 | [], [], _, _, _ => rfl
 | [], _ :: _, _, _, h => by simp at h
 | _ :: _, [], _, _, h => by simp at h
 | x :: a, y :: b, ha, hb, h => by
  simp only [List.map_cons, List.cons.injEq] at h
  rw [u8_inj (ha x (by simp)) (hb y (by simp)) h.1, map_u8_inj (fun z hz => ha z (by simp [hz])) (fun z hz => hb z (by simp [hz])) h.2]
theorem tb_self (a : List Int) : (ByteArray.toList (toBytes a) == ByteArray.toList (toBytes a)) = true := by simp
theorem tb_eq {a b : List Int} (ha : bytes a) (hb : bytes b) (h : (ByteArray.toList (toBytes a) == ByteArray.toList (toBytes b)) = true) : a = b := by
 rw [beq_iff_eq, ByteArray.toList_eq, ByteArray.toList_eq] at h
 exact map_u8_inj ha hb (by simpa [toBytes] using h)
theorem okF_most : ∀ {s : List Sp} {lo m : Int}, okF lo s -> (∀ x ∈ s, x.2.1 <= m) -> lo + 2 * (s.length : Int) <= m + 2 \/ s = []
 | [], lo, m, _, _ => .inr rfl
 | x :: l, lo, m, ⟨h1, h2, h3, h4⟩, hm => by
  left
  have hx := hm x (by simp)
  rcases okF_most h4 (fun y hy => hm y (by simp [hy])) with h | h
  ·simp only [List.length_cons]; omega
  ·subst h; simp only [List.length_cons, List.length_nil]; omega
theorem frR_spans {f : DFrame} (h : FrR f) : spNums f.2.2.2.2.1 /\ f.2.2.2.2.1.length <= 31 := by
 have hg := good_ok.1 h.taken.1
 have hw := h.taken.2
 have hm : ∀ x ∈ f.2.2.2.2.1, x.2.1 <= 60 := fun x hx => by
  obtain ⟨i, hi, rfl⟩ := List.getElem_of_mem hx
  exact (hw i hi).2
 refine ⟨fun x hx => ?_, ?_⟩
 ·have := okF_all hg x hx
  have := hm x hx
  exact ⟨⟨by omega, by omega⟩, ⟨by omega, by omega⟩⟩
 ·rcases okF_most hg hm with e | e
  ·omega
  ·rw [e]; simp
theorem skB_right {s : DSketch} (h : SkR s) : skB s = numsB (skNums s) := by unfold skB; rw [if_pos h]
theorem frB_right {f : DFrame} (h : FrR f) : frB f = bodyB f ++ sumB (bodyB f) := by unfold frB; rw [if_pos h]
noncomputable def tailB (f : DFrame) : List Int := if f.1 = 1 then numsB [f.2.2.2.2.2.1.1, f.2.2.2.2.2.1.2.1, f.2.2.2.2.2.1.2.2.1, f.2.2.2.2.2.1.2.2.2.1] ++ skB f.2.2.2.2.2.1.2.2.2.2.1 else []
theorem frB_parts {f : DFrame} (h : FrR f) : frB f = [87, 82] ++ (numB f.1 ++ (numB f.2.1 ++ (numB f.2.2.1 ++ (numB f.2.2.2.1 ++ (numB (len f.2.2.2.2.1) ++ (spansB f.2.2.2.2.1 ++ (tailB f ++ sumB (bodyB f)))))))) := by
 rw [frB_right h]
 conv => lhs; arg 1; unfold bodyB
 unfold tailB
 simp [numsB]
theorem frB_len {f : DFrame} (h : zFrame f <= 1048576) : (frB f).length <= 20000004 := by
 have := bodyB_len f h
 have hs : (sumB (bodyB f)).length = 4 := rfl
 unfold frB
 split
 ·rw [List.length_append]; omega
 ·simp
theorem implFrameOf_put (f : DFrame) (hf : FrR f) (hz : zFrame f <= 1048576) : F.impl_FrameOf (frB f) = some (f, true) := by
 have hd := frB_parts hf
 have hl := frB_len hz
 obtain ⟨hsp, hsn⟩ := frR_spans hf
 obtain ⟨b, _, o2, o3⟩ := frOk_same f hz
 have ob := o3.2 hf
 subst ob
 have hB := (frB_eq f hz).2
 generalize hL : frB f = L at hd hl hB ⊢
 have d0 : L.drop 2 = numB f.1 ++ (numB f.2.1 ++ (numB f.2.2.1 ++ (numB f.2.2.2.1 ++ (numB (len f.2.2.2.2.1) ++ (spansB f.2.2.2.2.1 ++ (tailB f ++ sumB (bodyB f))))))) := by rw [hd]; rfl
 have hk := hf.kind
 have q1 := rnum_put L 2 f.1 _ ⟨hk.1, by omega⟩ (by omega) d0
 have d1 := drp_at d0
 have q2 := rnum_put L _ f.2.1 _ ⟨hf.agent.1, by have := hf.agent.2; omega⟩ (by omega) d1
 have d2 := drp_at d1
 have q3 := rnum_put L _ f.2.2.1 _ ⟨hf.epoch.1, by have := hf.epoch.2; omega⟩ (by omega) d2
 have d3 := drp_at d2
 have q4 := rnum_put L _ f.2.2.2.1 _ ⟨hf.granted.1, by have := hf.granted.2; omega⟩ (by omega) d3
 have d4 := drp_at d3
 have q5 := rspans_put L _ f.2.2.2.2.1 _ hsp (by omega) (by omega) d4
 have d5 := drp_at (drp_at d4)
 have hrd : F.impl_reader_num (L, 2, false, ()) = _ := q1
 unfold F.impl_FrameOf
 rw [hrd]
 simp only [Option.bind_some, q2, q3, q4, q5]
 by_cases hk1 : f.1 = 1
 ·have hi := hf.data hk1
  have ht : tailB f = numB f.2.2.2.2.2.1.1 ++ (numB f.2.2.2.2.2.1.2.1 ++ (numB f.2.2.2.2.2.1.2.2.1 ++ (numB f.2.2.2.2.2.1.2.2.2.1 ++ numsB (skNums f.2.2.2.2.2.1.2.2.2.2.1)))) := by
   unfold tailB
   rw [if_pos hk1, skB_right hi.sk]
   simp [numsB]
  rw [ht] at d5
  simp only [List.append_assoc] at d5
  have q6 := rnum_put L _ f.2.2.2.2.2.1.1 _ ⟨by have := hi.seq.1; omega, by have := hi.seq.2; omega⟩ (by omega) d5
  have d6 := drp_at d5
  have q7 := rnum_put L _ f.2.2.2.2.2.1.2.1 _ ⟨hi.cls.1, by have := hi.cls.2; omega⟩ (by omega) d6
  have d7 := drp_at d6
  have q8 := rnum_put L _ f.2.2.2.2.2.1.2.2.1 _ ⟨hi.key.1, by have := hi.key.2; omega⟩ (by omega) d7
  have d8 := drp_at d7
  have q9 := rnum_put L _ f.2.2.2.2.2.1.2.2.2.1 _ ⟨hi.win.1, by have := hi.win.2; omega⟩ (by omega) d8
  have d9 := drp_at d8
  have q10 := rsketch_put L _ f.2.2.2.2.2.1.2.2.2.2.1 _ hi.sk (by omega) d9
  rw [show (f.1 == 1) = true by rw [beq_iff_eq]; exact hk1]
  simp only [cond_true, q6, q7, q8, q9, q10, Option.bind_some, cond_false]
  have e : ((f.1, f.2.1, f.2.2.1, f.2.2.2.1, f.2.2.2.2.1, (f.2.2.2.2.2.1.1, f.2.2.2.2.2.1.2.1, f.2.2.2.2.2.1.2.2.1, f.2.2.2.2.2.1.2.2.2.1, f.2.2.2.2.2.1.2.2.2.2.1, ()), ()) : DFrame) = f := rfl
  rw [e, o2]
  simp only [Option.bind_some, Bool.not_true, cond_false, hB]
  unfold F.bytes_Equal
  rw [tb_self]; rfl
 ·have hzr := hf.none hk1
  rw [show (f.1 == 1) = false by rw [beq_eq_false_iff_ne]; exact hk1]
  simp only [cond_false]
  have e : ((f.1, f.2.1, f.2.2.1, f.2.2.2.1, f.2.2.2.2.1, zeroItem, ()) : DFrame) = f := by
   rw [<- hzr]
  rw [e, o2]
  simp only [Option.bind_some, Bool.not_true, cond_false, hB]
  unfold F.bytes_Equal
  rw [tb_self]; rfl
theorem implFrameOf_any (l : List Int) (hl : l.length <= 1048576) (hb : bytes l) : ∃ r : DFrame × Bool, F.impl_FrameOf l = some r /\ ((r.2 = true /\ FrR r.1 /\ frB r.1 = l /\ zFrame r.1 <= 1048576) \/ r = ((0, 0, 0, 0, [], zeroItem, ()), false)) := by
 obtain ⟨v1, r1, e1, k1, _⟩ := rnum_any l (l, 2, false, ()) (by omega) hb ⟨rfl, by show (0 : Int) <= 2; omega, by show (2 : Int) <= 1099511627778; omega⟩
 obtain ⟨v2, r2, e2, k2, _⟩ := rnum_any l r1 (by omega) hb k1
 obtain ⟨v3, r3, e3, k3, _⟩ := rnum_any l r2 (by omega) hb k2
 obtain ⟨v4, r4, e4, k4, _⟩ := rnum_any l r3 (by omega) hb k3
 obtain ⟨s5, r5, e5, k5, z5⟩ := rspans_any l r4 hl hb k4
 unfold F.impl_FrameOf
 simp only [e1, e2, e3, e4, e5, Option.bind_some]
 -- the end of both ways
 have fin : ∀ f : DFrame, zFrame f <= 1048576 -> ∃ r : DFrame × Bool, ((F.impl_FrameOk f).bind fun r14 => bif !r14 then some ((0, 0, 0, 0, [], zeroItem, ()), false) else (F.impl_FrameBytes f).bind fun r15 => (F.bytes_Equal r15 l).bind fun r16 => bif !r16 then some ((0, 0, 0, 0, [], zeroItem, ()), false) else some (f, true)) = some r /\ ((r.2 = true /\ FrR r.1 /\ frB r.1 = l /\ zFrame r.1 <= 1048576) \/ r = ((0, 0, 0, 0, [], zeroItem, ()), false)) := by
  intro f hz
  obtain ⟨b, _, o2, o3⟩ := frOk_same f hz
  rw [o2]
  simp only [Option.bind_some]
  cases b with
  | false => exact ⟨_, rfl, .inr rfl⟩
  | true =>
   have hf := o3.1 rfl
   rw [(frB_eq f hz).2]
   unfold F.bytes_Equal
   simp only [Option.bind_some, Bool.not_true, cond_false]
   cases hq : (ByteArray.toList (toBytes (frB f)) == ByteArray.toList (toBytes l)) with
   | false => exact ⟨_, rfl, .inr rfl⟩
   | true =>
    refine ⟨_, rfl, .inl ⟨rfl, hf, tb_eq ?_ hb hq, hz⟩⟩
    rw [frB_right hf]
    exact bytes_app (bodyB_bytes f) (fun x hx => by
     simp only [sumB, List.mem_cons, List.not_mem_nil, or_false] at hx
     rcases hx with rfl | rfl | rfl | rfl <;> omega)
 by_cases hk1 : v1 = 1
 ·rw [show (v1 == 1) = true by rw [beq_iff_eq]; exact hk1]
  obtain ⟨v6, r6, e6, k6, _⟩ := rnum_any l r5 (by omega) hb k5
  obtain ⟨v7, r7, e7, k7, _⟩ := rnum_any l r6 (by omega) hb k6
  obtain ⟨v8, r8, e8, k8, _⟩ := rnum_any l r7 (by omega) hb k7
  obtain ⟨v9, r9, e9, k9, _⟩ := rnum_any l r8 (by omega) hb k8
  obtain ⟨s10, r10, e10, k10, z10⟩ := rsketch_any l r9 (by omega) hb k9
  simp only [cond_true, e6, e7, e8, e9, e10, Option.bind_some]
  cases r10.2.2.1 with
  | true => exact ⟨_, rfl, .inr rfl⟩
  | false => exact fin (v1, v2, v3, v4, s5, (v6, v7, v8, v9, s10, ()), ()) (by show s5.length + zSketch s10 <= _; omega)
 ·rw [show (v1 == 1) = false by rw [beq_eq_false_iff_ne]; exact hk1]
  simp only [cond_false]
  cases r5.2.2.1 with
  | true => exact ⟨_, rfl, .inr rfl⟩
  | false => exact fin (v1, v2, v3, v4, s5, zeroItem, ()) (by show s5.length + zSketch (0, 0, 0, 0, [], [], [], ()) <= _; simp [zSketch, zIntS, zIntSS]; omega)
def flatN (s : List DSpan) : List Int := s.flatMap fun x => [x.1, x.2.1]
theorem flatN_len (s : List DSpan) : (flatN s).length = 2 * s.length := by
 unfold flatN
 induction s with
 | nil => rfl
 | cons x s ih => simp only [List.flatMap_cons, List.length_append, List.length_cons, List.length_nil, ih]; omega
theorem flatN_bytes (s : List DSpan) : numsB (flatN s) = spansB s := by
 unfold flatN numsB spansB
 induction s with
 | nil => rfl
 | cons x s ih => simp only [List.flatMap_cons, List.flatMap_append, List.flatMap_nil, List.append_nil, ih]
theorem flatN_nums {s : List DSpan} (h : spNums s) : nums (flatN s) := fun z hz => by
 obtain ⟨x, hx, hz⟩ := List.mem_flatMap.1 hz
 simp only [List.mem_cons, List.not_mem_nil, or_false] at hz
 rcases hz with rfl | rfl
 ·exact (h x hx).1
 ·exact (h x hx).2
theorem flatN_get : ∀ (s : List DSpan) (j : Nat) (h : j < s.length), (flatN s).getD (2 * j) 0 = s[j].1 /\ (flatN s).getD (2 * j + 1) 0 = s[j].2.1
 | x :: s, 0, h => ⟨rfl, rfl⟩
 | x :: s, j + 1, h => by
  have := flatN_get s j (by simpa using h)
  have e : flatN (x :: s) = x.1 :: x.2.1 :: flatN s := rfl
  rw [e, show 2 * (j + 1) = 2 * j + 1 + 1 by omega]
  simpa using this
theorem spLoop_put (L B : List Int) (p : Int) (z f : DFrame) (s : List DSpan) (hs : s.length <= 1000) : ∃ e, loopO F.spec_FrameOf.s12 (L, B, flatN s, p, 0, z, (f.1, f.2.1, f.2.2.1, f.2.2.2.1, [], f.2.2.2.2.2), ()) = some (.inl (L, B, flatN s, p, e, z, (f.1, f.2.1, f.2.2.1, f.2.2.2.1, s, f.2.2.2.2.2), ())) := by
 have hl := flatN_len s
 have hh := loop_run (step := F.spec_FrameOf.s12) (fun j => (L, B, flatN s, p, ((2 * j : Nat) : Int), z, (f.1, f.2.1, f.2.2.1, f.2.2.2.1, s.take j, f.2.2.2.2.2), ())) s.length (fun j hj => by
  obtain ⟨g1, g2⟩ := flatN_get s j hj
  unfold F.spec_FrameOf.s12
  simp only
  have w1 : w64 (((2 * j : Nat) : Int) + 1) = ((2 * j + 1 : Nat) : Int) := by rw [w64_id (by omega) (by omega)]; omega
  have w2 : w64 (((2 * j : Nat) : Int) + 2) = ((2 * (j + 1) : Nat) : Int) := by rw [w64_id (by omega) (by omega)]; omega
  rw [w1, w2, show decide (((2 * j + 1 : Nat) : Int) < len (flatN s)) = true from decide_eq_true (by simp only [len]; omega), inb_nat (show 2 * j < (flatN s).length by omega), inb_nat (show 2 * j + 1 < (flatN s).length by omega), Int.toNat_natCast, Int.toNat_natCast, g1, g2]
  simp only [cond_true, chk_true, List.length_cons, List.length_nil, List.length_take]
  rw [fits_of (by omega), show ((s[j].1, s[j].2.1, ()) : DSpan) = s[j] from rfl, tkS hj]; rfl) (l := .exit (L, B, flatN s, p, ((2 * s.length : Nat) : Int), z, (f.1, f.2.1, f.2.2.1, f.2.2.2.1, s.take s.length, f.2.2.2.2.2), ())) (by
  unfold F.spec_FrameOf.s12
  simp only
  rw [w64_id (by omega) (by omega), show decide (((2 * s.length : Nat) : Int) + 1 < len (flatN s)) = false from decide_eq_false (by simp only [len]; omega)]; rfl) rfl
 rw [List.take_length] at hh
 exact ⟨_, hh⟩
theorem spLoop_any (L B q : List Int) (p : Int) (z f : DFrame) (hq : q.length <= 1000) : ∃ e s, loopO F.spec_FrameOf.s12 (L, B, q, p, 0, z, (f.1, f.2.1, f.2.2.1, f.2.2.2.1, [], f.2.2.2.2.2), ()) = some (.inl (L, B, q, p, e, z, (f.1, f.2.1, f.2.2.1, f.2.2.2.1, s, f.2.2.2.2.2), ())) /\ s.length <= 2000 := by
 obtain ⟨y, h1, e, s, rfl, h2⟩ := loopO_rule (step := F.spec_FrameOf.s12) (fun x => ∃ e s, x = (L, B, q, p, e, z, (f.1, f.2.1, f.2.2.1, f.2.2.2.1, s, f.2.2.2.2.2), ()) /\ 0 <= e /\ e <= 1002 /\ (s.length : Int) <= e)
  (fun y => ∃ e s, y = .inl (L, B, q, p, e, z, (f.1, f.2.1, f.2.2.1, f.2.2.2.1, s, f.2.2.2.2.2), ()) /\ s.length <= 2000)
  (fun x => 1003 - x.2.2.2.2.1.toNat) (fun x hx => by
   obtain ⟨e, s, rfl, g1, g2, g3⟩ := hx
   unfold F.spec_FrameOf.s12
   simp only
   rw [w64_id (x := e + 1) (by omega) (by omega), w64_id (x := e + 2) (by omega) (by omega)]
   by_cases hlt : e + 1 < len q
   ·have hlt' : e + 1 < (q.length : Int) := hlt
    have i1 : e.toNat < q.length := by omega
    have i2 : (e + 1).toNat < q.length := by omega
    rw [decide_eq_true hlt, inb_of g1 (by omega), inb_of (by omega) hlt']
    simp only [cond_true, chk_true, List.length_cons, List.length_nil]
    rw [fits_of (by omega)]
    exact ⟨_, rfl, ⟨_, _, rfl, by omega, by omega, by simp; omega⟩, by simp only; omega⟩
   ·rw [decide_eq_false hlt]
    exact ⟨_, rfl, e, s, rfl, by omega⟩) (x := (L, B, q, p, 0, z, (f.1, f.2.1, f.2.2.1, f.2.2.2.1, [], f.2.2.2.2.2), ())) ⟨0, [], rfl, Int.le_refl 0, by omega, by simp⟩
 exact ⟨e, s, h1, h2⟩
theorem cutOk_of {l n : Int} {m : Nat} (h0 : 0 <= l) (h1 : l <= n) (h2 : n <= (m : Int)) : cutOk l n m = true := by
 unfold cutOk
 rw [decide_eq_true h0, decide_eq_true h1, decide_eq_true h2]; rfl
theorem spec_fin (L : List Int) (hb : bytes L) (f : DFrame) (hz : zFrame f <= 1048576) : ∃ r : DFrame × Bool, ((F.spec_FrameOk f).bind fun r22 => bif !r22 then some (((0, 0, 0, 0, [], zeroItem, ()) : DFrame), false) else (F.spec_FrameBytes f).bind fun r23 => bif !(ByteArray.toList (toBytes r23) == ByteArray.toList (toBytes L)) then some (((0, 0, 0, 0, [], zeroItem, ()) : DFrame), false) else some (f, true)) = some r /\ ((r.2 = true /\ FrR r.1 /\ frB r.1 = L /\ zFrame r.1 <= 1048576) \/ r = ((0, 0, 0, 0, [], zeroItem, ()), false)) /\ (FrR f -> frB f = L -> r = (f, true)) := by
 obtain ⟨b, o1, _, o3⟩ := frOk_same f hz
 rw [o1]
 simp only [Option.bind_some]
 cases b with
 | false => exact ⟨_, rfl, .inr rfl, fun h _ => by cases o3.2 h⟩
 | true =>
  have hf := o3.1 rfl
  rw [(frB_eq f hz).1]
  simp only [Option.bind_some, Bool.not_true, cond_false]
  cases hq : (ByteArray.toList (toBytes (frB f)) == ByteArray.toList (toBytes L)) with
  | false => exact ⟨_, rfl, .inr rfl, fun _ h => by rw [h, tb_self] at hq; cases hq⟩
  | true =>
   refine ⟨_, rfl, .inl ⟨rfl, hf, tb_eq ?_ hb hq, hz⟩, fun _ _ => rfl⟩
   rw [frB_right hf]
   exact bytes_app (bodyB_bytes f) (fun x hx => by
    simp only [sumB, List.mem_cons, List.not_mem_nil, or_false] at hx
    rcases hx with rfl | rfl | rfl | rfl <;> omega)
theorem specFrameOf_any (L : List Int) (hl : L.length <= 1048576) (hb : bytes L) : ∃ r : DFrame × Bool, F.spec_FrameOf L = some r /\ ((r.2 = true /\ FrR r.1 /\ frB r.1 = L /\ zFrame r.1 <= 1048576) \/ r = ((0, 0, 0, 0, [], zeroItem, ()), false)) /\ (∀ f, FrR f -> zFrame f <= 1048576 -> frB f = L -> r = (f, true)) := by
 -- what is so of a right frame's bytes
 have hlong : ∀ f, FrR f -> frB f = L -> (bodyB f).length + 4 = L.length /\ 2 <= (bodyB f).length := fun f hf e => by
  rw [<- e, frB_right hf, List.length_append]
  refine ⟨rfl, ?_⟩
  unfold bodyB
  simp only [List.length_append, List.length_cons, List.length_nil]
  omega
 unfold F.spec_FrameOf
 by_cases h6 : L.length < 6
 ·rw [show decide (len L < 6) = true from decide_eq_true (by simp only [len]; omega)]
  refine ⟨_, rfl, .inr rfl, fun f hf hz e => ?_⟩
  have := hlong f hf e
  omega
 rw [show decide (len L < 6) = false from decide_eq_false (by simp only [len]; omega)]
 have hw : w64 (len L - 4) = ((L.length - 4 : Nat) : Int) := by rw [w64_id (by simp only [len]; omega) (by simp only [len]; omega)]; simp only [len]; omega
 rw [hw]
 have hB : List.take (((L.length - 4 : Nat) : Int).toNat - 0) (List.drop 0 L) = L.take (L.length - 4) := by rw [Int.toNat_natCast, Nat.sub_zero, List.drop_zero]
 have hS : List.take ((len L).toNat - ((L.length - 4 : Nat) : Int).toNat) (List.drop ((L.length - 4 : Nat) : Int).toNat L) = L.drop (L.length - 4) := by
  rw [Int.toNat_natCast]
  refine List.take_of_length_le ?_
  rw [List.length_drop]
  show L.length - (L.length - 4) <= (((L.length : Nat) : Int)).toNat - (L.length - 4)
  rw [Int.toNat_natCast]; exact Nat.le_refl _
 rw [hB, hS, cutOk_of (l := 0) (n := ((L.length - 4 : Nat) : Int)) (by omega) (by omega) (by omega), cutOk_of (l := ((L.length - 4 : Nat) : Int)) (n := len L) (by omega) (by simp only [len]; omega) (by simp only [len]; omega)]
 have hbody : ∀ f, FrR f -> frB f = L -> L.take (L.length - 4) = bodyB f /\ L.drop (L.length - 4) = sumB (bodyB f) := fun f hf e => by
  obtain ⟨g1, g2⟩ := hlong f hf e
  rw [show L.length - 4 = (bodyB f).length by omega, <- e, frB_right hf]
  exact ⟨List.take_left, List.drop_left⟩
 generalize hX : L.take (L.length - 4) = X at hbody
 have hXl : X.length = L.length - 4 := by rw [<- hX, List.length_take]; omega
 have hXb : bytes X := fun x hx => hb x (by rw [<- hX] at hx; exact List.mem_of_mem_take hx)
 rw [l7Sum_eq X (by omega) hXb]
 simp only [cond_false, chk_true, Option.bind_some]
 cases hq : (ByteArray.toList (toBytes (sumB X)) == ByteArray.toList (toBytes (L.drop (L.length - 4)))) with
 | false =>
  refine ⟨_, rfl, .inr rfl, fun f hf hz e => ?_⟩
  obtain ⟨g1, g2⟩ := hbody f hf e
  rw [g1, g2, tb_self] at hq; cases hq
 | true =>
  simp only [Bool.not_true, cond_false]
  obtain ⟨r2, e2, k2⟩ := l7Get_any X 2 5 (by omega) (by omega) hXb (by omega)
  have e2 : F.spec_l7Get X 2 5 = some r2 := e2
  rw [e2]
  simp only [Option.bind_some]
  -- the right frame's first numbers
  have put2 : ∀ f, FrR f -> frB f = L -> r2 = ([f.1, f.2.1, f.2.2.1, f.2.2.2.1, len f.2.2.2.2.1], ((2 + (numsB [f.1, f.2.1, f.2.2.1, f.2.2.2.1, len f.2.2.2.2.1]).length : Nat) : Int), true) /\ X.drop 2 = numsB [f.1, f.2.1, f.2.2.1, f.2.2.2.1, len f.2.2.2.2.1] ++ (numsB (flatN f.2.2.2.2.1) ++ tailB f) := fun f hf e => by
   have hx := (hbody f hf e).1
   have hd : X.drop 2 = numsB [f.1, f.2.1, f.2.2.1, f.2.2.2.1, len f.2.2.2.2.1] ++ (numsB (flatN f.2.2.2.2.1) ++ tailB f) := by
    rw [hx, flatN_bytes]
    unfold bodyB tailB
    simp [numsB]
   have hn : nums [f.1, f.2.1, f.2.2.1, f.2.2.2.1, len f.2.2.2.2.1] := by
    have a := hf.kind; have b := hf.agent; have c := hf.epoch; have d := hf.granted; have g := (frR_spans hf).2
    intro z hz
    simp only [List.mem_cons, List.not_mem_nil, or_false] at hz
    rcases hz with rfl | rfl | rfl | rfl | rfl
    ·omega
    ·omega
    ·omega
    ·omega
    ·simp only [len]; omega
   have q := l7Get_put X 2 _ _ hn (by omega) (by simp) hd
   have q : F.spec_l7Get X 2 5 = _ := q
   rw [e2] at q
   exact ⟨Option.some.inj q, hd⟩
  rcases k2 with ⟨a1, a2, a3, a4, a5⟩ | rfl
  case inr =>
   refine ⟨_, rfl, .inr rfl, fun f hf hz e => ?_⟩
   have := (put2 f hf e).1
   simp at this
  rw [a1]
  have hl5 : r2.1.length = 5 := by simp at a2; omega
  simp only [Bool.not_true, cond_false, hl5]
  rw [show inb 0 5 = true from rfl, show inb 1 5 = true from rfl, show inb 2 5 = true from rfl, show inb 3 5 = true from rfl, show inb 4 5 = true from rfl]
  simp only [chk_true]
  by_cases h100 : r2.1.getD 4 0 > 100
  ·rw [decide_eq_true h100]
   refine ⟨_, rfl, .inr rfl, fun f hf hz e => ?_⟩
   have h1 := (put2 f hf e).1
   have h2 := (frR_spans hf).2
   have h3 : r2.1.getD 4 0 = len f.2.2.2.2.1 := by rw [h1]; rfl
   rw [h3] at h100
   simp only [len] at h100
   omega
  rw [decide_eq_false h100]
  have hn4 := a5 (r2.1.getD 4 0) (by rw [List.getD_eq_getElem?_getD, List.getElem?_eq_getElem (by omega)]; exact List.getElem_mem _)
  have hw2 : w64 (2 * r2.1.getD 4 0) = 2 * r2.1.getD 4 0 := w64_id (by omega) (by omega)
  obtain ⟨r3, e3, k3⟩ := l7Get_any X r2.2.1.toNat (2 * r2.1.getD 4 0) (by omega) (by omega) hXb (by omega)
  rw [show ((r2.2.1.toNat : Nat) : Int) = r2.2.1 by omega] at e3
  rw [hw2, e3]
  simp only [cond_false, Option.bind_some]
  have put3 : ∀ f, FrR f -> frB f = L -> r3 = (flatN f.2.2.2.2.1, ((2 + (numsB [f.1, f.2.1, f.2.2.1, f.2.2.2.1, len f.2.2.2.2.1]).length + (numsB (flatN f.2.2.2.2.1)).length : Nat) : Int), true) := fun f hf e => by
   obtain ⟨h1, hd⟩ := put2 f hf e
   obtain ⟨h3, h4⟩ := frR_spans hf
   have q := l7Get_put X _ _ _ (flatN_nums h3) (by omega) (by rw [flatN_len]; omega) (drp_at hd)
   rw [flatN_len] at q
   have e5 : 2 * r2.1.getD 4 0 = ((2 * f.2.2.2.2.1.length : Nat) : Int) := by rw [h1]; simp [len]
   have e6 : r2.2.1 = ((2 + (numsB [f.1, f.2.1, f.2.2.1, f.2.2.2.1, len f.2.2.2.2.1]).length : Nat) : Int) := by rw [h1]
   rw [e5, e6, q] at e3
   exact (Option.some.inj e3).symm
  rcases k3 with ⟨b1, b2, b3, b4, b5⟩ | rfl
  case inr =>
   refine ⟨_, rfl, .inr rfl, fun f hf hz e => ?_⟩
   have := put3 f hf e
   simp at this
  rw [b1]
  simp only [Bool.not_true, cond_false]
  have hl3 : r3.1.length <= 200 := by
   split at b2 <;> omega
  obtain ⟨e, s, hloop, hs⟩ := spLoop_any L X r3.1 r3.2.1 (0, 0, 0, 0, [], zeroItem, ()) (r2.1.getD 0 0, r2.1.getD 1 0, r2.1.getD 2 0, r2.1.getD 3 0, [], zeroItem, ()) (by omega)
  simp only at hloop
  have putS : ∀ f, FrR f -> frB f = L -> s = f.2.2.2.2.1 /\ r2.1.getD 0 0 = f.1 /\ r2.1.getD 1 0 = f.2.1 /\ r2.1.getD 2 0 = f.2.2.1 /\ r2.1.getD 3 0 = f.2.2.2.1 := fun f hf ef => by
   have h1 := (put2 f hf ef).1
   have h3 := put3 f hf ef
   obtain ⟨e', q⟩ := spLoop_put L X r3.2.1 (0, 0, 0, 0, [], zeroItem, ()) (r2.1.getD 0 0, r2.1.getD 1 0, r2.1.getD 2 0, r2.1.getD 3 0, [], zeroItem, ()) f.2.2.2.2.1 (by have := (frR_spans hf).2; omega)
   simp only at q
   have h31 : r3.1 = flatN f.2.2.2.2.1 := by rw [h3]
   rw [h31, q] at hloop
   simp only [Option.some.injEq, Sum.inl.injEq, Prod.mk.injEq] at hloop
   refine ⟨?_, by rw [h1]; rfl, by rw [h1]; rfl, by rw [h1]; rfl, by rw [h1]; rfl⟩
   exact hloop.2.2.2.2.2.2.1.2.2.2.2.1.symm
  rw [hloop]
  simp only [afterO]
  by_cases hk1 : r2.1.getD 0 0 = 1
  ·rw [show (r2.1.getD 0 0 == 1) = true by rw [beq_iff_eq]; exact hk1]
   obtain ⟨r4, e4, k4⟩ := l7Get_any X r3.2.1.toNat 4 (by omega) (by omega) hXb (by omega)
   rw [show ((r3.2.1.toNat : Nat) : Int) = r3.2.1 by omega] at e4
   rw [e4]
   simp only [cond_true, Option.bind_some]
   have put4 : ∀ f, FrR f -> frB f = L -> r4 = ([f.2.2.2.2.2.1.1, f.2.2.2.2.2.1.2.1, f.2.2.2.2.2.1.2.2.1, f.2.2.2.2.2.1.2.2.2.1], ((2 + (numsB [f.1, f.2.1, f.2.2.1, f.2.2.2.1, len f.2.2.2.2.1]).length + (numsB (flatN f.2.2.2.2.1)).length + (numsB [f.2.2.2.2.2.1.1, f.2.2.2.2.2.1.2.1, f.2.2.2.2.2.1.2.2.1, f.2.2.2.2.2.1.2.2.2.1]).length : Nat) : Int), true) /\ ItR f.2.2.2.2.2.1 /\ X.drop (2 + (numsB [f.1, f.2.1, f.2.2.1, f.2.2.2.1, len f.2.2.2.2.1]).length + (numsB (flatN f.2.2.2.2.1)).length + (numsB [f.2.2.2.2.2.1.1, f.2.2.2.2.2.1.2.1, f.2.2.2.2.2.1.2.2.1, f.2.2.2.2.2.1.2.2.2.1]).length) = numsB (skNums f.2.2.2.2.2.1.2.2.2.2.1) := fun f hf ef => by
    have hkf : f.1 = 1 := by rw [<- (putS f hf ef).2.1]; exact hk1
    have hi := hf.data hkf
    have hd := drp_at (drp_at (put2 f hf ef).2)
    have ht : tailB f = numsB [f.2.2.2.2.2.1.1, f.2.2.2.2.2.1.2.1, f.2.2.2.2.2.1.2.2.1, f.2.2.2.2.2.1.2.2.2.1] ++ numsB (skNums f.2.2.2.2.2.1.2.2.2.2.1) := by
     unfold tailB
     rw [if_pos hkf, skB_right hi.sk]
    rw [ht] at hd
    have hn : nums [f.2.2.2.2.2.1.1, f.2.2.2.2.2.1.2.1, f.2.2.2.2.2.1.2.2.1, f.2.2.2.2.2.1.2.2.2.1] := by
     have a := hi.seq; have b := hi.cls; have c := hi.key; have d := hi.win
     intro z hz
     simp only [List.mem_cons, List.not_mem_nil, or_false] at hz
     rcases hz with rfl | rfl | rfl | rfl <;> omega
    have q := l7Get_put X _ _ _ hn (by omega) (by simp) hd
    have h3 := put3 f hf ef
    have e6 : r3.2.1 = ((2 + (numsB [f.1, f.2.1, f.2.2.1, f.2.2.2.1, len f.2.2.2.2.1]).length + (numsB (flatN f.2.2.2.2.1)).length : Nat) : Int) := by rw [h3]
    rw [e6] at e4
    have e4 : F.spec_l7Get X _ 4 = _ := e4
    have q : F.spec_l7Get X _ 4 = _ := q
    rw [q] at e4
    exact ⟨(Option.some.inj e4).symm, hi, drp_at hd⟩
   rcases k4 with ⟨c1, c2, c3, c4, c5⟩ | rfl
   case inr =>
    refine ⟨_, rfl, .inr rfl, fun f hf hz ef => ?_⟩
    have := (put4 f hf ef).1
    simp at this
   rw [c1]
   have hl4 : r4.1.length = 4 := by simp at c2; omega
   simp only [Bool.not_true, cond_false, hl4]
   rw [cutOk_of (l := r4.2.1) (n := len X) (by omega) (by simp only [len]; omega) (by simp only [len]; omega)]
   have hY : List.take ((len X).toNat - r4.2.1.toNat) (List.drop r4.2.1.toNat X) = X.drop r4.2.1.toNat := by
    refine List.take_of_length_le ?_
    rw [List.length_drop]
    show X.length - r4.2.1.toNat <= (((X.length : Nat) : Int)).toNat - r4.2.1.toNat
    rw [Int.toNat_natCast]; exact Nat.le_refl _
   rw [hY]
   obtain ⟨sk, ok, e5, hsk⟩ := skOf_any (X.drop r4.2.1.toNat) (by rw [List.length_drop]; omega) (fun x hx => hXb x (List.mem_of_mem_drop hx))
   rw [e5]
   simp only [chk_true, Option.bind_some]
   have put5 : ∀ f, FrR f -> zFrame f <= 1048576 -> frB f = L -> sk = f.2.2.2.2.2.1.2.2.2.2.1 /\ ok = true := fun f hf hz ef => by
    obtain ⟨h4, hi, hd⟩ := put4 f hf ef
    have hzz : f.2.2.2.2.1.length + zSketch f.2.2.2.2.2.1.2.2.2.2.1 <= 1048576 := hz
    have q := skOf_put _ hi.sk (by omega)
    have e6 : r4.2.1.toNat = 2 + (numsB [f.1, f.2.1, f.2.2.1, f.2.2.2.1, len f.2.2.2.2.1]).length + (numsB (flatN f.2.2.2.2.1)).length + (numsB [f.2.2.2.2.2.1.1, f.2.2.2.2.2.1.2.1, f.2.2.2.2.2.1.2.2.1, f.2.2.2.2.2.1.2.2.2.1]).length := by rw [h4]; simp only [Int.toNat_natCast]
    rw [e6, hd, q] at e5
    simp only [Option.some.injEq, Prod.mk.injEq] at e5
    exact ⟨e5.1.symm, e5.2.symm⟩
   cases ok with
   | false =>
    refine ⟨_, rfl, .inr rfl, fun f hf hz ef => ?_⟩
    have := (put5 f hf hz ef).2
    cases this
   | true =>
    rw [show inb 0 4 = true from rfl, show inb 1 4 = true from rfl, show inb 2 4 = true from rfl, show inb 3 4 = true from rfl]
    obtain ⟨r, z1, z2, z3⟩ := spec_fin L hb (r2.1.getD 0 0, r2.1.getD 1 0, r2.1.getD 2 0, r2.1.getD 3 0, s, (r4.1.getD 0 0, r4.1.getD 1 0, r4.1.getD 2 0, r4.1.getD 3 0, sk, ()), ()) (by show s.length + zSketch sk <= _; omega)
    refine ⟨r, z1, z2, fun f hf hz ef => ?_⟩
    obtain ⟨p1, p2, p3, p4, p5⟩ := putS f hf ef
    have p6 := (put4 f hf ef).1
    have p7 := (put5 f hf hz ef).1
    have efr : ((r2.1.getD 0 0, r2.1.getD 1 0, r2.1.getD 2 0, r2.1.getD 3 0, s, (r4.1.getD 0 0, r4.1.getD 1 0, r4.1.getD 2 0, r4.1.getD 3 0, sk, ()), ()) : DFrame) = f := by
     rw [p1, p2, p3, p4, p5, p6, p7]; rfl
    rw [efr] at z3
    exact z3 hf ef
  ·rw [show (r2.1.getD 0 0 == 1) = false by rw [beq_eq_false_iff_ne]; exact hk1]
   simp only [cond_false]
   obtain ⟨r, z1, z2, z3⟩ := spec_fin L hb (r2.1.getD 0 0, r2.1.getD 1 0, r2.1.getD 2 0, r2.1.getD 3 0, s, zeroItem, ()) (by show s.length + zSketch (0, 0, 0, 0, [], [], [], ()) <= _; simp [zSketch, zIntS, zIntSS]; omega)
   refine ⟨r, z1, z2, fun f hf hz ef => ?_⟩
   obtain ⟨p1, p2, p3, p4, p5⟩ := putS f hf ef
   have hzr := hf.none (by rw [<- p2]; exact hk1)
   have efr : ((r2.1.getD 0 0, r2.1.getD 1 0, r2.1.getD 2 0, r2.1.getD 3 0, s, zeroItem, ()) : DFrame) = f := by
    rw [p1, p2, p3, p4, p5, <- hzr]
   rw [efr] at z3
   exact z3 hf ef
theorem frameOf_same (L : List Int) (hl : L.length <= 1048576) (hb : bytes L) : ∃ r : DFrame × Bool, F.spec_FrameOf L = some r /\ F.impl_FrameOf L = some r /\ zFrame r.1 <= 1048576 := by
 obtain ⟨r, e1, h1, h2⟩ := specFrameOf_any L hl hb
 obtain ⟨q, e2, h3⟩ := implFrameOf_any L hl hb
 rcases h3 with ⟨a1, a2, a3, a4⟩ | rfl
 ·have hr := h2 q.1 a2 a4 a3
  have e3 := implFrameOf_put q.1 a2 a4
  rw [a3] at e3
  exact ⟨(q.1, true), by rw [e1, hr], e3, a4⟩
 ·rcases h1 with ⟨b1, b2, b3, b4⟩ | rfl
  ·have e3 := implFrameOf_put r.1 b2 b4
   rw [b3, e2] at e3
   simp at e3
  ·exact ⟨_, e1, e2, by simp [zFrame, zSpanS, zItem, zSketch, zIntS, zIntSS]⟩
theorem ingressBytes_same (h : DHouse) (b : List Int) (hz : zHouse h <= 1048576) (hl : b.length <= 1048576) (hb : bytes b) : ∃ r : DHouse × List Int × Int, F.spec_IngressBytes h b = some r /\ F.impl_IngressBytes h b = some r /\ zHouse r.1 <= 1099511627776 /\ zByteS r.2.1 <= 1099511627776 := by
 obtain ⟨⟨f, ok⟩, f1, f2, f3⟩ := frameOf_same b hl hb
 have z0 : zByteS ([] : List Int) <= 1099511627776 := by simp [zByteS]
 unfold F.spec_IngressBytes F.impl_IngressBytes
 rw [f1, f2]
 simp only [Option.bind_some]
 cases ok with
 | false =>
  rw [l12Copy_eq h hz, copyHouse_eq h hz]
  exact ⟨_, rfl, rfl, by simp only; omega, z0⟩
 | true =>
  obtain ⟨r, g1, g2, g3, g4⟩ := ingress_eq h f hz f3
  simp only [Bool.not_true, cond_false]
  rw [g1, g2]
  simp only [Option.bind_some]
  by_cases h6 : r.2.2 = 6
  ·rw [show (r.2.2 == 6) = true by simpa using h6, h6]
   exact ⟨_, rfl, rfl, by simp only; omega, z0⟩
  ·rw [show (r.2.2 == 6) = false by simpa using h6]
   obtain ⟨q, q1, q2, q3⟩ := frBytes_same r.2.1 (by omega)
   simp only [cond_false]
   rw [q1, q2]
   exact ⟨_, rfl, rfl, by simp only; omega, q3⟩
def sIntS (l : List Int) : Prop := l.length <= 1099511627776
def cIntS (l : List Int) : Nat := l.length
theorem smIntS {a : List Int} (h : zIntS a <= 1099511627776) : sIntS a := h
theorem czIntS (a : List Int) : cIntS a <= 10 * zIntS a := by unfold cIntS zIntS; omega
def sConf (a : DConf) : Prop := sIntS a.2.2.2.1
def cConf (a : DConf) : Nat := cIntS a.2.2.2.1
theorem smConf {a : DConf} (h : zConf a <= 1099511627776) : sConf a := by
 unfold zConf at h
 exact smIntS (by omega)
theorem czConf (a : DConf) : cConf a <= 10 * zConf a := by
 unfold cConf zConf
 have h0 := czIntS a.2.2.2.1
 omega
def sSpanS (l : List DSpan) : Prop := l.length <= 1099511627776 /\ ∀ x ∈ l, True
def kSpan (a : DSpan) : Nat := 2
def cSpanS (l : List DSpan) : Nat := (l.map kSpan).sum
theorem smSpanS {a : List DSpan} (h : zSpanS a <= 1099511627776) : sSpanS a := ⟨h, fun _ _ => trivial⟩
theorem czSpanS (a : List DSpan) : cSpanS a <= 10 * zSpanS a := by
 unfold cSpanS zSpanS
 have := sum_le (f := kSpan) (g := fun _ => 0) (n := 2) (l := a) (fun x _ => by unfold kSpan; omega)
 have e : (a.map fun _ => 0).sum = 0 := by
  clear this
  induction a with
  | nil => rfl
  | cons x l ih => simp only [List.map_cons, List.sum_cons, ih]
 rw [e] at this
 omega
def sSeatS (l : List DSeat) : Prop := l.length <= 1099511627776 /\ ∀ x ∈ l, sSpanS x.2.2.1
def kSeat (a : DSeat) : Nat := 4 + cSpanS a.2.2.1
def cSeatS (l : List DSeat) : Nat := (l.map kSeat).sum
theorem smSeatS {a : List DSeat} (h : zSeatS a <= 1099511627776) : sSeatS a := by
 unfold zSeatS at h
 refine ⟨by omega, fun x hm => ?_⟩
 have hx : zSeat x <= 1099511627776 := by have := sum_mem (f := zSeat) hm; omega
 unfold zSeat at hx
 exact smSpanS (by omega)
theorem czSeatS (a : List DSeat) : cSeatS a <= 10 * zSeatS a := by
 unfold cSeatS zSeatS
 have := sum_le (f := kSeat) (g := zSeat) (n := 4) (l := a) (fun x _ => by
  unfold kSeat zSeat
  have h0 := czSpanS x.2.2.1
  omega)
 omega
def sIntSS (l : List (List Int)) : Prop := l.length <= 1099511627776 /\ ∀ x ∈ l, sIntS x
def cIntSS (l : List (List Int)) : Nat := (l.map cIntS).sum
theorem smIntSS {a : List (List Int)} (h : zIntSS a <= 1099511627776) : sIntSS a := by
 unfold zIntSS at h
 exact ⟨by omega, fun x hm => smIntS (by have := sum_mem (f := zIntS) hm; omega)⟩
theorem czIntSS (a : List (List Int)) : cIntSS a <= 10 * zIntSS a := by
 unfold cIntSS zIntSS
 have := sum_le (f := cIntS) (g := zIntS) (n := 0) (l := a) (fun x _ => by have := czIntS x; omega)
 omega
def sEntryS (l : List DEntry) : Prop := l.length <= 1099511627776 /\ ∀ x ∈ l, sSpanS x.2.2.1 /\ sIntS x.2.2.2.1.2.2.2.2.1 /\ sIntS x.2.2.2.1.2.2.2.2.2.1 /\ sIntSS x.2.2.2.1.2.2.2.2.2.2.1
def kEntry (a : DEntry) : Nat := 6 + cSpanS a.2.2.1 + cIntS a.2.2.2.1.2.2.2.2.1 + cIntS a.2.2.2.1.2.2.2.2.2.1 + cIntSS a.2.2.2.1.2.2.2.2.2.2.1
def cEntryS (l : List DEntry) : Nat := (l.map kEntry).sum
theorem smEntryS {a : List DEntry} (h : zEntryS a <= 1099511627776) : sEntryS a := by
 unfold zEntryS at h
 refine ⟨by omega, fun x hm => ?_⟩
 have hx : zEntry x <= 1099511627776 := by have := sum_mem (f := zEntry) hm; omega
 unfold zEntry zSketch at hx
 exact ⟨smSpanS (by omega), smIntS (by omega), smIntS (by omega), smIntSS (by omega)⟩
theorem czEntryS (a : List DEntry) : cEntryS a <= 10 * zEntryS a := by
 unfold cEntryS zEntryS
 have := sum_le (f := kEntry) (g := zEntry) (n := 6) (l := a) (fun x _ => by
  unfold kEntry zEntry zSketch
  have h0 := czSpanS x.2.2.1
  have h1 := czIntS x.2.2.2.1.2.2.2.2.1
  have h2 := czIntS x.2.2.2.1.2.2.2.2.2.1
  have h3 := czIntSS x.2.2.2.1.2.2.2.2.2.2.1
  omega)
 omega
def sRowS (l : List DRow) : Prop := l.length <= 1099511627776 /\ ∀ x ∈ l, sEntryS x.1
def kRow (a : DRow) : Nat := cEntryS a.1
def cRowS (l : List DRow) : Nat := (l.map kRow).sum
theorem smRowS {a : List DRow} (h : zRowS a <= 1099511627776) : sRowS a := by
 unfold zRowS at h
 refine ⟨by omega, fun x hm => ?_⟩
 have hx : zRow x <= 1099511627776 := by have := sum_mem (f := zRow) hm; omega
 unfold zRow at hx
 exact smEntryS (by omega)
theorem czRowS (a : List DRow) : cRowS a <= 10 * zRowS a := by
 unfold cRowS zRowS
 have := sum_le (f := kRow) (g := zRow) (n := 0) (l := a) (fun x _ => by
  unfold kRow zRow
  have h0 := czEntryS x.1
  omega)
 omega
def sRowSS (l : List (List DRow)) : Prop := l.length <= 1099511627776 /\ ∀ x ∈ l, sRowS x
def cRowSS (l : List (List DRow)) : Nat := (l.map cRowS).sum
theorem smRowSS {a : List (List DRow)} (h : zRowSS a <= 1099511627776) : sRowSS a := by
 unfold zRowSS at h
 exact ⟨by omega, fun x hm => smRowS (by have := sum_mem (f := zRowS) hm; omega)⟩
theorem czRowSS (a : List (List DRow)) : cRowSS a <= 10 * zRowSS a := by
 unfold cRowSS zRowSS
 have := sum_le (f := cRowS) (g := zRowS) (n := 0) (l := a) (fun x _ => by have := czRowS x; omega)
 omega
def sTurnS (l : List DTurn) : Prop := l.length <= 1099511627776 /\ ∀ x ∈ l, sIntS x.2.2.1
def kTurn (a : DTurn) : Nat := 2 + cIntS a.2.2.1
def cTurnS (l : List DTurn) : Nat := (l.map kTurn).sum
theorem smTurnS {a : List DTurn} (h : zTurnS a <= 1099511627776) : sTurnS a := by
 unfold zTurnS at h
 refine ⟨by omega, fun x hm => ?_⟩
 have hx : zTurn x <= 1099511627776 := by have := sum_mem (f := zTurn) hm; omega
 unfold zTurn at hx
 exact smIntS (by omega)
theorem czTurnS (a : List DTurn) : cTurnS a <= 10 * zTurnS a := by
 unfold cTurnS zTurnS
 have := sum_le (f := kTurn) (g := zTurn) (n := 2) (l := a) (fun x _ => by
  unfold kTurn zTurn
  have h0 := czIntS x.2.2.1
  omega)
 omega
def sOutS (l : List DOut) : Prop := l.length <= 1099511627776 /\ ∀ x ∈ l, sSpanS x.2.1.2.2.1 /\ sIntS x.2.1.2.2.2.1.2.2.2.2.1 /\ sIntS x.2.1.2.2.2.1.2.2.2.2.2.1 /\ sIntSS x.2.1.2.2.2.1.2.2.2.2.2.2.1
def kOut (a : DOut) : Nat := 7 + cSpanS a.2.1.2.2.1 + cIntS a.2.1.2.2.2.1.2.2.2.2.1 + cIntS a.2.1.2.2.2.1.2.2.2.2.2.1 + cIntSS a.2.1.2.2.2.1.2.2.2.2.2.2.1
def cOutS (l : List DOut) : Nat := (l.map kOut).sum
theorem smOutS {a : List DOut} (h : zOutS a <= 1099511627776) : sOutS a := by
 unfold zOutS at h
 refine ⟨by omega, fun x hm => ?_⟩
 have hx : zOut x <= 1099511627776 := by have := sum_mem (f := zOut) hm; omega
 unfold zOut zEntry zSketch at hx
 exact ⟨smSpanS (by omega), smIntS (by omega), smIntS (by omega), smIntSS (by omega)⟩
theorem czOutS (a : List DOut) : cOutS a <= 10 * zOutS a := by
 unfold cOutS zOutS
 have := sum_le (f := kOut) (g := zOut) (n := 7) (l := a) (fun x _ => by
  unfold kOut zOut zEntry zSketch
  have h0 := czSpanS x.2.1.2.2.1
  have h1 := czIntS x.2.1.2.2.2.1.2.2.2.2.1
  have h2 := czIntS x.2.1.2.2.2.1.2.2.2.2.2.1
  have h3 := czIntSS x.2.1.2.2.2.1.2.2.2.2.2.2.1
  omega)
 omega
def sHouse (a : DHouse) : Prop := sConf a.1 /\ sSeatS a.2.2.2.1 /\ sRowSS a.2.2.2.2.1 /\ sTurnS a.2.2.2.2.2.1 /\ sEntryS a.2.2.2.2.2.2.2.1 /\ sOutS a.2.2.2.2.2.2.2.2.1
def cHouse (a : DHouse) : Nat := cConf a.1 + cSeatS a.2.2.2.1 + cRowSS a.2.2.2.2.1 + cTurnS a.2.2.2.2.2.1 + cEntryS a.2.2.2.2.2.2.2.1 + cOutS a.2.2.2.2.2.2.2.2.1
theorem smHouse {a : DHouse} (h : zHouse a <= 1099511627776) : sHouse a := by
 unfold zHouse at h
 exact ⟨smConf (by omega), smSeatS (by omega), smRowSS (by omega), smTurnS (by omega), smEntryS (by omega), smOutS (by omega)⟩
theorem czHouse (a : DHouse) : cHouse a <= 10 * zHouse a := by
 unfold cHouse zHouse
 have h0 := czConf a.1
 have h1 := czSeatS a.2.2.2.1
 have h2 := czRowSS a.2.2.2.2.1
 have h3 := czTurnS a.2.2.2.2.2.1
 have h4 := czEntryS a.2.2.2.2.2.2.2.1
 have h5 := czOutS a.2.2.2.2.2.2.2.2.1
 omega
theorem maIntS (l : List Int) (k : Int) (hh : sIntS l) (h0 : 0 <= k) (h1 : k + (cIntS l : Int) <= 1000000000000000) : ∃ l', F.laws_markIntS l k = some (k + (cIntS l : Int), l') := by
 have h : l.length <= 1099511627776 := hh
 have hsum : (l.map fun _ => 1).sum = cIntS l := by
  unfold cIntS
  clear hh h h1
  induction l with
  | nil => rfl
  | cons x l ih => simp only [List.map_cons, List.sum_cons, ih, List.length_cons]; omega
 obtain ⟨l', g1⟩ := loop_mark1 (mstep := F.laws_markIntS.s2) 0 (fun _ => 1) 1000000000000000 l k h0 (by rw [hsum]; exact h1) (fun x hx k hk hB => by
  refine ⟨k, fun i m hi hl hx => ?_⟩
  ·unfold F.laws_markIntS.s2
   simp only
   rw [lt_len hi]
   simp only [cond_true, inb_nat hi, chk_true, Int.toNat_natCast, w64_nat (show i < 9223372036854775807 by omega), w64_id (x := k + 1) (by omega) (by omega)]
   rfl) (fun m k => by
  unfold F.laws_markIntS.s2
  simp only [ge_len, cond_false])
 rw [hsum] at g1
 refine ⟨l', ?_⟩
 unfold F.laws_markIntS
 simp only [g1, afterO]
theorem maConf (a : DConf) (k : Int) (hh : sConf a) (h0 : 0 <= k) (h1 : k + (cConf a : Int) <= 1000000000000000) : ∃ a', F.laws_markConf a k = some (k + (cConf a : Int), a') := by
 have hc : cConf a = cIntS a.2.2.2.1 := rfl
 unfold sConf at hh
 obtain ⟨l0, a0⟩ := maIntS a.2.2.2.1 (k) hh (by omega) (by omega)
 have ho : k + (cIntS a.2.2.2.1 : Int) = k + (cConf a : Int) := by omega
 refine ⟨_, by unfold F.laws_markConf; simp only [a0, Option.bind_some]; rw [ho]⟩
theorem maSpanS (l : List DSpan) (k : Int) (hh : sSpanS l) (h0 : 0 <= k) (h1 : k + (cSpanS l : Int) <= 1000000000000000) : ∃ l', F.laws_markSpanS l k = some (k + (cSpanS l : Int), l') := by
 obtain ⟨h, hs⟩ := hh
 obtain ⟨l', g1⟩ := loop_mark1 (mstep := F.laws_markSpanS.s2) (0, 0, ()) kSpan 1000000000000000 l k h0 h1 (fun x hx k hk hB => by
  have hc : kSpan x = 2 := rfl
  have ho : k + 1 + 1 = k + (kSpan x : Int) := by omega
  refine ⟨(k, k + 1, ()), fun i m hi hl hx => ?_⟩
  ·unfold F.laws_markSpanS.s2
   simp only
   rw [lt_len hi]
   simp only [cond_true, inb_nat hi, chk_true, Int.toNat_natCast, Option.bind_some, List.length_set, getD_set_self hi, hx, List.set_set, w64_nat (show i < 9223372036854775807 by omega), w64_id (x := k + 1) (by omega) (by omega), w64_id (x := k + 1 + 1) (by omega) (by omega)]
   rw [ho]) (fun m k => by
  unfold F.laws_markSpanS.s2
  simp only [ge_len, cond_false])
 refine ⟨l', ?_⟩
 unfold F.laws_markSpanS
 simp only [g1, afterO]; rfl
theorem maSeatS (l : List DSeat) (k : Int) (hh : sSeatS l) (h0 : 0 <= k) (h1 : k + (cSeatS l : Int) <= 1000000000000000) : ∃ l', F.laws_markSeatS l k = some (k + (cSeatS l : Int), l') := by
 obtain ⟨h, hs⟩ := hh
 obtain ⟨l', g1⟩ := loop_mark1 (mstep := F.laws_markSeatS.s2) (0, 0, ([] : List DSpan), 0, 0, ()) kSeat 1000000000000000 l k h0 h1 (fun x hx k hk hB => by
  have hc : kSeat x = 4 + cSpanS x.2.2.1 := rfl
  obtain ⟨l1, a1⟩ := maSpanS x.2.2.1 (k + 1 + 1) (hs x hx) (by omega) (by omega)
  have ho : k + 1 + 1 + (cSpanS x.2.2.1 : Int) + 1 + 1 = k + (kSeat x : Int) := by omega
  refine ⟨(k, k + 1, l1, k + 1 + 1 + (cSpanS x.2.2.1 : Int), k + 1 + 1 + (cSpanS x.2.2.1 : Int) + 1, ()), fun i m hi hl hx => ?_⟩
  ·unfold F.laws_markSeatS.s2
   simp only
   rw [lt_len hi]
   simp only [cond_true, inb_nat hi, chk_true, Int.toNat_natCast, Option.bind_some, List.length_set, getD_set_self hi, hx, List.set_set, w64_nat (show i < 9223372036854775807 by omega), w64_id (x := k + 1) (by omega) (by omega), w64_id (x := k + 1 + 1) (by omega) (by omega), w64_id (x := k + 1 + 1 + (cSpanS x.2.2.1 : Int) + 1) (by omega) (by omega), w64_id (x := k + 1 + 1 + (cSpanS x.2.2.1 : Int) + 1 + 1) (by omega) (by omega), a1]
   rw [ho]) (fun m k => by
  unfold F.laws_markSeatS.s2
  simp only [ge_len, cond_false])
 refine ⟨l', ?_⟩
 unfold F.laws_markSeatS
 simp only [g1, afterO]; rfl
theorem maIntSS (l : List (List Int)) (k : Int) (hh : sIntSS l) (h0 : 0 <= k) (h1 : k + (cIntSS l : Int) <= 1000000000000000) : ∃ l', F.laws_markIntSS l k = some (k + (cIntSS l : Int), l') := by
 obtain ⟨h, hs⟩ := hh
 obtain ⟨l', g1⟩ := loop_mark1 (mstep := F.laws_markIntSS.s2) ([] : List Int) cIntS 1000000000000000 l k h0 h1 (fun x hx k hk hB => by
  obtain ⟨x', a1⟩ := maIntS x k (hs x hx) hk hB
  refine ⟨x', fun i m hi hl hx => ?_⟩
  ·unfold F.laws_markIntSS.s2
   simp only
   rw [lt_len hi]
   simp only [cond_true, inb_nat hi, chk_true, Int.toNat_natCast, hx, a1, Option.bind_some, w64_nat (show i < 9223372036854775807 by omega)]) (fun m k => by
  unfold F.laws_markIntSS.s2
  simp only [ge_len, cond_false])
 refine ⟨l', ?_⟩
 unfold F.laws_markIntSS
 simp only [g1, afterO]; rfl
theorem maEntryS (l : List DEntry) (k : Int) (hh : sEntryS l) (h0 : 0 <= k) (h1 : k + (cEntryS l : Int) <= 1000000000000000) : ∃ l', F.laws_markEntryS l k = some (k + (cEntryS l : Int), l') := by
 obtain ⟨h, hs⟩ := hh
 obtain ⟨l', g1⟩ := loop_mark1 (mstep := F.laws_markEntryS.s2) (0, 0, ([] : List DSpan), (0, 0, 0, 0, ([] : List Int), ([] : List Int), ([] : List (List Int)), ()), ()) kEntry 1000000000000000 l k h0 h1 (fun x hx k hk hB => by
  have hc : kEntry x = 6 + cSpanS x.2.2.1 + cIntS x.2.2.2.1.2.2.2.2.1 + cIntS x.2.2.2.1.2.2.2.2.2.1 + cIntSS x.2.2.2.1.2.2.2.2.2.2.1 := rfl
  obtain ⟨l1, a1⟩ := maSpanS x.2.2.1 (k + 1 + 1) (hs x hx).1 (by omega) (by omega)
  obtain ⟨l2, a2⟩ := maIntS x.2.2.2.1.2.2.2.2.1 (k + 1 + 1 + (cSpanS x.2.2.1 : Int) + 1 + 1 + 1 + 1) (hs x hx).2.1 (by omega) (by omega)
  obtain ⟨l3, a3⟩ := maIntS x.2.2.2.1.2.2.2.2.2.1 (k + 1 + 1 + (cSpanS x.2.2.1 : Int) + 1 + 1 + 1 + 1 + (cIntS x.2.2.2.1.2.2.2.2.1 : Int)) (hs x hx).2.2.1 (by omega) (by omega)
  obtain ⟨l4, a4⟩ := maIntSS x.2.2.2.1.2.2.2.2.2.2.1 (k + 1 + 1 + (cSpanS x.2.2.1 : Int) + 1 + 1 + 1 + 1 + (cIntS x.2.2.2.1.2.2.2.2.1 : Int) + (cIntS x.2.2.2.1.2.2.2.2.2.1 : Int)) (hs x hx).2.2.2 (by omega) (by omega)
  have ho : k + 1 + 1 + (cSpanS x.2.2.1 : Int) + 1 + 1 + 1 + 1 + (cIntS x.2.2.2.1.2.2.2.2.1 : Int) + (cIntS x.2.2.2.1.2.2.2.2.2.1 : Int) + (cIntSS x.2.2.2.1.2.2.2.2.2.2.1 : Int) = k + (kEntry x : Int) := by omega
  refine ⟨(k, k + 1, l1, (k + 1 + 1 + (cSpanS x.2.2.1 : Int), k + 1 + 1 + (cSpanS x.2.2.1 : Int) + 1, k + 1 + 1 + (cSpanS x.2.2.1 : Int) + 1 + 1, k + 1 + 1 + (cSpanS x.2.2.1 : Int) + 1 + 1 + 1, l2, l3, l4, ()), ()), fun i m hi hl hx => ?_⟩
  ·unfold F.laws_markEntryS.s2
   simp only
   rw [lt_len hi]
   simp only [cond_true, inb_nat hi, chk_true, Int.toNat_natCast, Option.bind_some, List.length_set, getD_set_self hi, hx, List.set_set, w64_nat (show i < 9223372036854775807 by omega), w64_id (x := k + 1) (by omega) (by omega), w64_id (x := k + 1 + 1) (by omega) (by omega), w64_id (x := k + 1 + 1 + (cSpanS x.2.2.1 : Int) + 1) (by omega) (by omega), w64_id (x := k + 1 + 1 + (cSpanS x.2.2.1 : Int) + 1 + 1) (by omega) (by omega), w64_id (x := k + 1 + 1 + (cSpanS x.2.2.1 : Int) + 1 + 1 + 1) (by omega) (by omega), w64_id (x := k + 1 + 1 + (cSpanS x.2.2.1 : Int) + 1 + 1 + 1 + 1) (by omega) (by omega), a1, a2, a3, a4]
   rw [ho]) (fun m k => by
  unfold F.laws_markEntryS.s2
  simp only [ge_len, cond_false])
 refine ⟨l', ?_⟩
 unfold F.laws_markEntryS
 simp only [g1, afterO]; rfl
theorem maRowS (l : List DRow) (k : Int) (hh : sRowS l) (h0 : 0 <= k) (h1 : k + (cRowS l : Int) <= 1000000000000000) : ∃ l', F.laws_markRowS l k = some (k + (cRowS l : Int), l') := by
 obtain ⟨h, hs⟩ := hh
 obtain ⟨l', g1⟩ := loop_mark1 (mstep := F.laws_markRowS.s2) (([] : List DEntry), ()) kRow 1000000000000000 l k h0 h1 (fun x hx k hk hB => by
  have hc : kRow x = cEntryS x.1 := rfl
  obtain ⟨l1, a1⟩ := maEntryS x.1 (k) (hs x hx) (by omega) (by omega)
  have ho : k + (cEntryS x.1 : Int) = k + (kRow x : Int) := by omega
  refine ⟨(l1, ()), fun i m hi hl hx => ?_⟩
  ·unfold F.laws_markRowS.s2
   simp only
   rw [lt_len hi]
   simp only [cond_true, inb_nat hi, chk_true, Int.toNat_natCast, Option.bind_some, List.length_set, getD_set_self hi, hx, List.set_set, w64_nat (show i < 9223372036854775807 by omega), a1]
   rw [ho]) (fun m k => by
  unfold F.laws_markRowS.s2
  simp only [ge_len, cond_false])
 refine ⟨l', ?_⟩
 unfold F.laws_markRowS
 simp only [g1, afterO]; rfl
theorem maRowSS (l : List (List DRow)) (k : Int) (hh : sRowSS l) (h0 : 0 <= k) (h1 : k + (cRowSS l : Int) <= 1000000000000000) : ∃ l', F.laws_markRowSS l k = some (k + (cRowSS l : Int), l') := by
 obtain ⟨h, hs⟩ := hh
 obtain ⟨l', g1⟩ := loop_mark1 (mstep := F.laws_markRowSS.s2) ([] : List DRow) cRowS 1000000000000000 l k h0 h1 (fun x hx k hk hB => by
  obtain ⟨x', a1⟩ := maRowS x k (hs x hx) hk hB
  refine ⟨x', fun i m hi hl hx => ?_⟩
  ·unfold F.laws_markRowSS.s2
   simp only
   rw [lt_len hi]
   simp only [cond_true, inb_nat hi, chk_true, Int.toNat_natCast, hx, a1, Option.bind_some, w64_nat (show i < 9223372036854775807 by omega)]) (fun m k => by
  unfold F.laws_markRowSS.s2
  simp only [ge_len, cond_false])
 refine ⟨l', ?_⟩
 unfold F.laws_markRowSS
 simp only [g1, afterO]; rfl
theorem maTurnS (l : List DTurn) (k : Int) (hh : sTurnS l) (h0 : 0 <= k) (h1 : k + (cTurnS l : Int) <= 1000000000000000) : ∃ l', F.laws_markTurnS l k = some (k + (cTurnS l : Int), l') := by
 obtain ⟨h, hs⟩ := hh
 obtain ⟨l', g1⟩ := loop_mark1 (mstep := F.laws_markTurnS.s2) (0, false, ([] : List Int), ()) kTurn 1000000000000000 l k h0 h1 (fun x hx k hk hB => by
  have hc : kTurn x = 2 + cIntS x.2.2.1 := rfl
  obtain ⟨l1, a1⟩ := maIntS x.2.2.1 (k + 1 + 1) (hs x hx) (by omega) (by omega)
  have ho : k + 1 + 1 + (cIntS x.2.2.1 : Int) = k + (kTurn x : Int) := by omega
  refine ⟨(k, Int.tmod (k + 1) 3 == 0, l1, ()), fun i m hi hl hx => ?_⟩
  ·unfold F.laws_markTurnS.s2
   simp only
   rw [lt_len hi]
   simp only [cond_true, inb_nat hi, chk_true, Int.toNat_natCast, Option.bind_some, List.length_set, getD_set_self hi, hx, List.set_set, w64_nat (show i < 9223372036854775807 by omega), w64_id (x := k + 1) (by omega) (by omega), w64_id (x := k + 1 + 1) (by omega) (by omega), a1]
   rw [ho]) (fun m k => by
  unfold F.laws_markTurnS.s2
  simp only [ge_len, cond_false])
 refine ⟨l', ?_⟩
 unfold F.laws_markTurnS
 simp only [g1, afterO]; rfl
theorem maOutS (l : List DOut) (k : Int) (hh : sOutS l) (h0 : 0 <= k) (h1 : k + (cOutS l : Int) <= 1000000000000000) : ∃ l', F.laws_markOutS l k = some (k + (cOutS l : Int), l') := by
 obtain ⟨h, hs⟩ := hh
 obtain ⟨l', g1⟩ := loop_mark1 (mstep := F.laws_markOutS.s2) (0, (0, 0, ([] : List DSpan), (0, 0, 0, 0, ([] : List Int), ([] : List Int), ([] : List (List Int)), ()), ()), ()) kOut 1000000000000000 l k h0 h1 (fun x hx k hk hB => by
  have hc : kOut x = 7 + cSpanS x.2.1.2.2.1 + cIntS x.2.1.2.2.2.1.2.2.2.2.1 + cIntS x.2.1.2.2.2.1.2.2.2.2.2.1 + cIntSS x.2.1.2.2.2.1.2.2.2.2.2.2.1 := rfl
  obtain ⟨l1, a1⟩ := maSpanS x.2.1.2.2.1 (k + 1 + 1 + 1) (hs x hx).1 (by omega) (by omega)
  obtain ⟨l2, a2⟩ := maIntS x.2.1.2.2.2.1.2.2.2.2.1 (k + 1 + 1 + 1 + (cSpanS x.2.1.2.2.1 : Int) + 1 + 1 + 1 + 1) (hs x hx).2.1 (by omega) (by omega)
  obtain ⟨l3, a3⟩ := maIntS x.2.1.2.2.2.1.2.2.2.2.2.1 (k + 1 + 1 + 1 + (cSpanS x.2.1.2.2.1 : Int) + 1 + 1 + 1 + 1 + (cIntS x.2.1.2.2.2.1.2.2.2.2.1 : Int)) (hs x hx).2.2.1 (by omega) (by omega)
  obtain ⟨l4, a4⟩ := maIntSS x.2.1.2.2.2.1.2.2.2.2.2.2.1 (k + 1 + 1 + 1 + (cSpanS x.2.1.2.2.1 : Int) + 1 + 1 + 1 + 1 + (cIntS x.2.1.2.2.2.1.2.2.2.2.1 : Int) + (cIntS x.2.1.2.2.2.1.2.2.2.2.2.1 : Int)) (hs x hx).2.2.2 (by omega) (by omega)
  have ho : k + 1 + 1 + 1 + (cSpanS x.2.1.2.2.1 : Int) + 1 + 1 + 1 + 1 + (cIntS x.2.1.2.2.2.1.2.2.2.2.1 : Int) + (cIntS x.2.1.2.2.2.1.2.2.2.2.2.1 : Int) + (cIntSS x.2.1.2.2.2.1.2.2.2.2.2.2.1 : Int) = k + (kOut x : Int) := by omega
  refine ⟨(k, (k + 1, k + 1 + 1, l1, (k + 1 + 1 + 1 + (cSpanS x.2.1.2.2.1 : Int), k + 1 + 1 + 1 + (cSpanS x.2.1.2.2.1 : Int) + 1, k + 1 + 1 + 1 + (cSpanS x.2.1.2.2.1 : Int) + 1 + 1, k + 1 + 1 + 1 + (cSpanS x.2.1.2.2.1 : Int) + 1 + 1 + 1, l2, l3, l4, ()), ()), ()), fun i m hi hl hx => ?_⟩
  ·unfold F.laws_markOutS.s2
   simp only
   rw [lt_len hi]
   simp only [cond_true, inb_nat hi, chk_true, Int.toNat_natCast, Option.bind_some, List.length_set, getD_set_self hi, hx, List.set_set, w64_nat (show i < 9223372036854775807 by omega), w64_id (x := k + 1) (by omega) (by omega), w64_id (x := k + 1 + 1) (by omega) (by omega), w64_id (x := k + 1 + 1 + 1) (by omega) (by omega), w64_id (x := k + 1 + 1 + 1 + (cSpanS x.2.1.2.2.1 : Int) + 1) (by omega) (by omega), w64_id (x := k + 1 + 1 + 1 + (cSpanS x.2.1.2.2.1 : Int) + 1 + 1) (by omega) (by omega), w64_id (x := k + 1 + 1 + 1 + (cSpanS x.2.1.2.2.1 : Int) + 1 + 1 + 1) (by omega) (by omega), w64_id (x := k + 1 + 1 + 1 + (cSpanS x.2.1.2.2.1 : Int) + 1 + 1 + 1 + 1) (by omega) (by omega), a1, a2, a3, a4]
   rw [ho]) (fun m k => by
  unfold F.laws_markOutS.s2
  simp only [ge_len, cond_false])
 refine ⟨l', ?_⟩
 unfold F.laws_markOutS
 simp only [g1, afterO]; rfl
theorem maHouse (a : DHouse) (k : Int) (hh : sHouse a) (h0 : 0 <= k) (h1 : k + (cHouse a : Int) <= 1000000000000000) : ∃ a', F.laws_markHouse a k = some (k + (cHouse a : Int), a') := by
 have hc : cHouse a = cConf a.1 + cSeatS a.2.2.2.1 + cRowSS a.2.2.2.2.1 + cTurnS a.2.2.2.2.2.1 + cEntryS a.2.2.2.2.2.2.2.1 + cOutS a.2.2.2.2.2.2.2.2.1 := rfl
 unfold sHouse at hh
 obtain ⟨l0, a0⟩ := maConf a.1 (k) hh.1 (by omega) (by omega)
 obtain ⟨l1, a1⟩ := maSeatS a.2.2.2.1 (k + (cConf a.1 : Int)) hh.2.1 (by omega) (by omega)
 obtain ⟨l2, a2⟩ := maRowSS a.2.2.2.2.1 (k + (cConf a.1 : Int) + (cSeatS a.2.2.2.1 : Int)) hh.2.2.1 (by omega) (by omega)
 obtain ⟨l3, a3⟩ := maTurnS a.2.2.2.2.2.1 (k + (cConf a.1 : Int) + (cSeatS a.2.2.2.1 : Int) + (cRowSS a.2.2.2.2.1 : Int)) hh.2.2.2.1 (by omega) (by omega)
 obtain ⟨l4, a4⟩ := maEntryS a.2.2.2.2.2.2.2.1 (k + (cConf a.1 : Int) + (cSeatS a.2.2.2.1 : Int) + (cRowSS a.2.2.2.2.1 : Int) + (cTurnS a.2.2.2.2.2.1 : Int)) hh.2.2.2.2.1 (by omega) (by omega)
 obtain ⟨l5, a5⟩ := maOutS a.2.2.2.2.2.2.2.2.1 (k + (cConf a.1 : Int) + (cSeatS a.2.2.2.1 : Int) + (cRowSS a.2.2.2.2.1 : Int) + (cTurnS a.2.2.2.2.2.1 : Int) + (cEntryS a.2.2.2.2.2.2.2.1 : Int)) hh.2.2.2.2.2 (by omega) (by omega)
 have ho : k + (cConf a.1 : Int) + (cSeatS a.2.2.2.1 : Int) + (cRowSS a.2.2.2.2.1 : Int) + (cTurnS a.2.2.2.2.2.1 : Int) + (cEntryS a.2.2.2.2.2.2.2.1 : Int) + (cOutS a.2.2.2.2.2.2.2.2.1 : Int) = k + (cHouse a : Int) := by omega
 refine ⟨_, by unfold F.laws_markHouse; simp only [a0, a1, a2, a3, a4, a5, Option.bind_some]; rw [ho]⟩
def sByteS (l : List Int) : Prop := l.length <= 1099511627776
def cByteS (l : List Int) : Nat := l.length
theorem smByteS {a : List Int} (h : zByteS a <= 1099511627776) : sByteS a := h
theorem czByteS (a : List Int) : cByteS a <= 10 * zByteS a := by unfold cByteS zByteS; omega
theorem maByteS (l : List Int) (k : Int) (hh : sByteS l) (h0 : 0 <= k) (h1 : k + (cByteS l : Int) <= 1000000000000000) : ∃ l', F.laws_markByteS l k = some (k + (cByteS l : Int), l') := by
 have h : l.length <= 1099511627776 := hh
 have hsum : (l.map fun _ => 1).sum = cByteS l := by
  unfold cByteS
  clear hh h h1
  induction l with
  | nil => rfl
  | cons x l ih => simp only [List.map_cons, List.sum_cons, ih, List.length_cons]; omega
 obtain ⟨l', g1⟩ := loop_mark1 (mstep := F.laws_markByteS.s2) 0 (fun _ => 1) 1000000000000000 l k h0 (by rw [hsum]; exact h1) (fun x hx k hk hB => by
  refine ⟨IntKind.wrap .u8 k, fun i m hi hl hx => ?_⟩
  ·unfold F.laws_markByteS.s2
   simp only
   rw [lt_len hi]
   simp only [cond_true, inb_nat hi, chk_true, Int.toNat_natCast, w64_nat (show i < 9223372036854775807 by omega), w64_id (x := k + 1) (by omega) (by omega)]
   rfl) (fun m k => by
  unfold F.laws_markByteS.s2
  simp only [ge_len, cond_false])
 rw [hsum] at g1
 refine ⟨l', ?_⟩
 unfold F.laws_markByteS
 simp only [g1, afterO]
theorem mhIntS (l : List Int) (k : Int) (hh : sIntS l) (h0 : 0 <= k) (h1 : k + (cIntS l : Int) <= 1000000000000000) : ∃ l', F.laws_markIntS l k = some (k + (cIntS l : Int), l') /\ F.laws_heldIntS l' k = some (k + (cIntS l : Int)) := by
 have h : l.length <= 1099511627776 := hh
 have hsum : (l.map fun _ => 1).sum = cIntS l := by
  unfold cIntS
  clear hh h h1
  induction l with
  | nil => rfl
  | cons x l ih => simp only [List.map_cons, List.sum_cons, ih, List.length_cons]; omega
 obtain ⟨l', g1, g2⟩ := loop_mark (mstep := F.laws_markIntS.s2) (hstep := F.laws_heldIntS.s2) 0 (fun _ => 1) 1000000000000000 l k h0 (by rw [hsum]; exact h1) (fun x hx k hk hB => by
  refine ⟨k, fun i m hi hl hx => ?_, fun i m hi hl hx => ?_⟩
  ·unfold F.laws_markIntS.s2
   simp only
   rw [lt_len hi]
   simp only [cond_true, inb_nat hi, chk_true, Int.toNat_natCast, w64_nat (show i < 9223372036854775807 by omega), w64_id (x := k + 1) (by omega) (by omega)]
   rfl
  ·unfold F.laws_heldIntS.s2
   simp only
   rw [lt_len hi]
   simp only [cond_true, cond_false, inb_nat hi, chk_true, Int.toNat_natCast, hx, bne_self_eq_false, w64_nat (show i < 9223372036854775807 by omega), w64_id (x := k + 1) (by omega) (by omega)]
   rfl) (fun m k => by
  unfold F.laws_markIntS.s2
  simp only [ge_len, cond_false]) (fun m k => by
  unfold F.laws_heldIntS.s2
  simp only [ge_len, cond_false])
 rw [hsum] at g1 g2
 refine ⟨l', ?_, ?_⟩
 ·unfold F.laws_markIntS
  simp only [g1, afterO]
 ·unfold F.laws_heldIntS
  simp only [g2, afterO]
theorem mhConf (a : DConf) (k : Int) (hh : sConf a) (h0 : 0 <= k) (h1 : k + (cConf a : Int) <= 1000000000000000) : ∃ a', F.laws_markConf a k = some (k + (cConf a : Int), a') /\ F.laws_heldConf a' k = some (k + (cConf a : Int)) := by
 have hc : cConf a = cIntS a.2.2.2.1 := rfl
 unfold sConf at hh
 obtain ⟨l0, a0, b0⟩ := mhIntS a.2.2.2.1 (k) hh (by omega) (by omega)
 have ho : k + (cIntS a.2.2.2.1 : Int) = k + (cConf a : Int) := by omega
 refine ⟨_, by unfold F.laws_markConf; simp only [a0, Option.bind_some]; rw [ho], ?_⟩
 unfold F.laws_heldConf
 simp only [b0, show decide (k + (cIntS a.2.2.2.1 : Int) < 0) = false from decide_eq_false (by omega), Option.bind_some, cond_false]
 rw [ho]
theorem mhSpanS (l : List DSpan) (k : Int) (hh : sSpanS l) (h0 : 0 <= k) (h1 : k + (cSpanS l : Int) <= 1000000000000000) : ∃ l', F.laws_markSpanS l k = some (k + (cSpanS l : Int), l') /\ F.laws_heldSpanS l' k = some (k + (cSpanS l : Int)) := by
 obtain ⟨h, hs⟩ := hh
 obtain ⟨l', g1, g2⟩ := loop_mark (mstep := F.laws_markSpanS.s2) (hstep := F.laws_heldSpanS.s2) (0, 0, ()) kSpan 1000000000000000 l k h0 h1 (fun x hx k hk hB => by
  have hc : kSpan x = 2 := rfl
  have ho : k + 1 + 1 = k + (kSpan x : Int) := by omega
  refine ⟨(k, k + 1, ()), fun i m hi hl hx => ?_, fun i m hi hl hx => ?_⟩
  ·unfold F.laws_markSpanS.s2
   simp only
   rw [lt_len hi]
   simp only [cond_true, inb_nat hi, chk_true, Int.toNat_natCast, Option.bind_some, List.length_set, getD_set_self hi, hx, List.set_set, w64_nat (show i < 9223372036854775807 by omega), w64_id (x := k + 1) (by omega) (by omega), w64_id (x := k + 1 + 1) (by omega) (by omega)]
   rw [ho]
  ·unfold F.laws_heldSpanS.s2
   simp only
   rw [lt_len hi]
   simp only [cond_true, cond_false, inb_nat hi, chk_true, Int.toNat_natCast, Option.bind_some, hx, bne_self_eq_false, beq_self_eq_true, Bool.not_true, w64_nat (show i < 9223372036854775807 by omega), w64_id (x := k + 1) (by omega) (by omega), w64_id (x := k + 1 + 1) (by omega) (by omega)]
   rw [ho]) (fun m k => by
  unfold F.laws_markSpanS.s2
  simp only [ge_len, cond_false]) (fun m k => by
  unfold F.laws_heldSpanS.s2
  simp only [ge_len, cond_false])
 refine ⟨l', ?_, ?_⟩
 ·unfold F.laws_markSpanS
  simp only [g1, afterO]; rfl
 ·unfold F.laws_heldSpanS
  simp only [g2, afterO]; rfl
theorem mhSeatS (l : List DSeat) (k : Int) (hh : sSeatS l) (h0 : 0 <= k) (h1 : k + (cSeatS l : Int) <= 1000000000000000) : ∃ l', F.laws_markSeatS l k = some (k + (cSeatS l : Int), l') /\ F.laws_heldSeatS l' k = some (k + (cSeatS l : Int)) := by
 obtain ⟨h, hs⟩ := hh
 obtain ⟨l', g1, g2⟩ := loop_mark (mstep := F.laws_markSeatS.s2) (hstep := F.laws_heldSeatS.s2) (0, 0, ([] : List DSpan), 0, 0, ()) kSeat 1000000000000000 l k h0 h1 (fun x hx k hk hB => by
  have hc : kSeat x = 4 + cSpanS x.2.2.1 := rfl
  obtain ⟨l1, a1, b1⟩ := mhSpanS x.2.2.1 (k + 1 + 1) (hs x hx) (by omega) (by omega)
  have ho : k + 1 + 1 + (cSpanS x.2.2.1 : Int) + 1 + 1 = k + (kSeat x : Int) := by omega
  refine ⟨(k, k + 1, l1, k + 1 + 1 + (cSpanS x.2.2.1 : Int), k + 1 + 1 + (cSpanS x.2.2.1 : Int) + 1, ()), fun i m hi hl hx => ?_, fun i m hi hl hx => ?_⟩
  ·unfold F.laws_markSeatS.s2
   simp only
   rw [lt_len hi]
   simp only [cond_true, inb_nat hi, chk_true, Int.toNat_natCast, Option.bind_some, List.length_set, getD_set_self hi, hx, List.set_set, w64_nat (show i < 9223372036854775807 by omega), w64_id (x := k + 1) (by omega) (by omega), w64_id (x := k + 1 + 1) (by omega) (by omega), w64_id (x := k + 1 + 1 + (cSpanS x.2.2.1 : Int) + 1) (by omega) (by omega), w64_id (x := k + 1 + 1 + (cSpanS x.2.2.1 : Int) + 1 + 1) (by omega) (by omega), a1]
   rw [ho]
  ·unfold F.laws_heldSeatS.s2
   simp only
   rw [lt_len hi]
   simp only [cond_true, cond_false, inb_nat hi, chk_true, Int.toNat_natCast, Option.bind_some, hx, bne_self_eq_false, beq_self_eq_true, Bool.not_true, w64_nat (show i < 9223372036854775807 by omega), w64_id (x := k + 1) (by omega) (by omega), w64_id (x := k + 1 + 1) (by omega) (by omega), w64_id (x := k + 1 + 1 + (cSpanS x.2.2.1 : Int) + 1) (by omega) (by omega), w64_id (x := k + 1 + 1 + (cSpanS x.2.2.1 : Int) + 1 + 1) (by omega) (by omega), b1, show decide (k + 1 + 1 + (cSpanS x.2.2.1 : Int) < 0) = false from decide_eq_false (by omega)]
   rw [ho]) (fun m k => by
  unfold F.laws_markSeatS.s2
  simp only [ge_len, cond_false]) (fun m k => by
  unfold F.laws_heldSeatS.s2
  simp only [ge_len, cond_false])
 refine ⟨l', ?_, ?_⟩
 ·unfold F.laws_markSeatS
  simp only [g1, afterO]; rfl
 ·unfold F.laws_heldSeatS
  simp only [g2, afterO]; rfl
theorem mhIntSS (l : List (List Int)) (k : Int) (hh : sIntSS l) (h0 : 0 <= k) (h1 : k + (cIntSS l : Int) <= 1000000000000000) : ∃ l', F.laws_markIntSS l k = some (k + (cIntSS l : Int), l') /\ F.laws_heldIntSS l' k = some (k + (cIntSS l : Int)) := by
 obtain ⟨h, hs⟩ := hh
 obtain ⟨l', g1, g2⟩ := loop_mark (mstep := F.laws_markIntSS.s2) (hstep := F.laws_heldIntSS.s2) ([] : List Int) cIntS 1000000000000000 l k h0 h1 (fun x hx k hk hB => by
  obtain ⟨x', a1, b1⟩ := mhIntS x k (hs x hx) hk hB
  refine ⟨x', fun i m hi hl hx => ?_, fun i m hi hl hx => ?_⟩
  ·unfold F.laws_markIntSS.s2
   simp only
   rw [lt_len hi]
   simp only [cond_true, inb_nat hi, chk_true, Int.toNat_natCast, hx, a1, Option.bind_some, w64_nat (show i < 9223372036854775807 by omega)]
  ·unfold F.laws_heldIntSS.s2
   simp only
   rw [lt_len hi]
   simp only [cond_true, inb_nat hi, chk_true, Int.toNat_natCast, hx, b1, Option.bind_some, w64_nat (show i < 9223372036854775807 by omega), show decide (k + (cIntS x : Int) < 0) = false from decide_eq_false (by omega), cond_false]) (fun m k => by
  unfold F.laws_markIntSS.s2
  simp only [ge_len, cond_false]) (fun m k => by
  unfold F.laws_heldIntSS.s2
  simp only [ge_len, cond_false])
 refine ⟨l', ?_, ?_⟩
 ·unfold F.laws_markIntSS
  simp only [g1, afterO]; rfl
 ·unfold F.laws_heldIntSS
  simp only [g2, afterO]; rfl
theorem mhEntryS (l : List DEntry) (k : Int) (hh : sEntryS l) (h0 : 0 <= k) (h1 : k + (cEntryS l : Int) <= 1000000000000000) : ∃ l', F.laws_markEntryS l k = some (k + (cEntryS l : Int), l') /\ F.laws_heldEntryS l' k = some (k + (cEntryS l : Int)) := by
 obtain ⟨h, hs⟩ := hh
 obtain ⟨l', g1, g2⟩ := loop_mark (mstep := F.laws_markEntryS.s2) (hstep := F.laws_heldEntryS.s2) (0, 0, ([] : List DSpan), (0, 0, 0, 0, ([] : List Int), ([] : List Int), ([] : List (List Int)), ()), ()) kEntry 1000000000000000 l k h0 h1 (fun x hx k hk hB => by
  have hc : kEntry x = 6 + cSpanS x.2.2.1 + cIntS x.2.2.2.1.2.2.2.2.1 + cIntS x.2.2.2.1.2.2.2.2.2.1 + cIntSS x.2.2.2.1.2.2.2.2.2.2.1 := rfl
  obtain ⟨l1, a1, b1⟩ := mhSpanS x.2.2.1 (k + 1 + 1) (hs x hx).1 (by omega) (by omega)
  obtain ⟨l2, a2, b2⟩ := mhIntS x.2.2.2.1.2.2.2.2.1 (k + 1 + 1 + (cSpanS x.2.2.1 : Int) + 1 + 1 + 1 + 1) (hs x hx).2.1 (by omega) (by omega)
  obtain ⟨l3, a3, b3⟩ := mhIntS x.2.2.2.1.2.2.2.2.2.1 (k + 1 + 1 + (cSpanS x.2.2.1 : Int) + 1 + 1 + 1 + 1 + (cIntS x.2.2.2.1.2.2.2.2.1 : Int)) (hs x hx).2.2.1 (by omega) (by omega)
  obtain ⟨l4, a4, b4⟩ := mhIntSS x.2.2.2.1.2.2.2.2.2.2.1 (k + 1 + 1 + (cSpanS x.2.2.1 : Int) + 1 + 1 + 1 + 1 + (cIntS x.2.2.2.1.2.2.2.2.1 : Int) + (cIntS x.2.2.2.1.2.2.2.2.2.1 : Int)) (hs x hx).2.2.2 (by omega) (by omega)
  have ho : k + 1 + 1 + (cSpanS x.2.2.1 : Int) + 1 + 1 + 1 + 1 + (cIntS x.2.2.2.1.2.2.2.2.1 : Int) + (cIntS x.2.2.2.1.2.2.2.2.2.1 : Int) + (cIntSS x.2.2.2.1.2.2.2.2.2.2.1 : Int) = k + (kEntry x : Int) := by omega
  refine ⟨(k, k + 1, l1, (k + 1 + 1 + (cSpanS x.2.2.1 : Int), k + 1 + 1 + (cSpanS x.2.2.1 : Int) + 1, k + 1 + 1 + (cSpanS x.2.2.1 : Int) + 1 + 1, k + 1 + 1 + (cSpanS x.2.2.1 : Int) + 1 + 1 + 1, l2, l3, l4, ()), ()), fun i m hi hl hx => ?_, fun i m hi hl hx => ?_⟩
  ·unfold F.laws_markEntryS.s2
   simp only
   rw [lt_len hi]
   simp only [cond_true, inb_nat hi, chk_true, Int.toNat_natCast, Option.bind_some, List.length_set, getD_set_self hi, hx, List.set_set, w64_nat (show i < 9223372036854775807 by omega), w64_id (x := k + 1) (by omega) (by omega), w64_id (x := k + 1 + 1) (by omega) (by omega), w64_id (x := k + 1 + 1 + (cSpanS x.2.2.1 : Int) + 1) (by omega) (by omega), w64_id (x := k + 1 + 1 + (cSpanS x.2.2.1 : Int) + 1 + 1) (by omega) (by omega), w64_id (x := k + 1 + 1 + (cSpanS x.2.2.1 : Int) + 1 + 1 + 1) (by omega) (by omega), w64_id (x := k + 1 + 1 + (cSpanS x.2.2.1 : Int) + 1 + 1 + 1 + 1) (by omega) (by omega), a1, a2, a3, a4]
   rw [ho]
  ·unfold F.laws_heldEntryS.s2
   simp only
   rw [lt_len hi]
   simp only [cond_true, cond_false, inb_nat hi, chk_true, Int.toNat_natCast, Option.bind_some, hx, bne_self_eq_false, beq_self_eq_true, Bool.not_true, w64_nat (show i < 9223372036854775807 by omega), w64_id (x := k + 1) (by omega) (by omega), w64_id (x := k + 1 + 1) (by omega) (by omega), w64_id (x := k + 1 + 1 + (cSpanS x.2.2.1 : Int) + 1) (by omega) (by omega), w64_id (x := k + 1 + 1 + (cSpanS x.2.2.1 : Int) + 1 + 1) (by omega) (by omega), w64_id (x := k + 1 + 1 + (cSpanS x.2.2.1 : Int) + 1 + 1 + 1) (by omega) (by omega), w64_id (x := k + 1 + 1 + (cSpanS x.2.2.1 : Int) + 1 + 1 + 1 + 1) (by omega) (by omega), b1, show decide (k + 1 + 1 + (cSpanS x.2.2.1 : Int) < 0) = false from decide_eq_false (by omega), b2, show decide (k + 1 + 1 + (cSpanS x.2.2.1 : Int) + 1 + 1 + 1 + 1 + (cIntS x.2.2.2.1.2.2.2.2.1 : Int) < 0) = false from decide_eq_false (by omega), b3, show decide (k + 1 + 1 + (cSpanS x.2.2.1 : Int) + 1 + 1 + 1 + 1 + (cIntS x.2.2.2.1.2.2.2.2.1 : Int) + (cIntS x.2.2.2.1.2.2.2.2.2.1 : Int) < 0) = false from decide_eq_false (by omega), b4, show decide (k + 1 + 1 + (cSpanS x.2.2.1 : Int) + 1 + 1 + 1 + 1 + (cIntS x.2.2.2.1.2.2.2.2.1 : Int) + (cIntS x.2.2.2.1.2.2.2.2.2.1 : Int) + (cIntSS x.2.2.2.1.2.2.2.2.2.2.1 : Int) < 0) = false from decide_eq_false (by omega)]
   rw [ho]) (fun m k => by
  unfold F.laws_markEntryS.s2
  simp only [ge_len, cond_false]) (fun m k => by
  unfold F.laws_heldEntryS.s2
  simp only [ge_len, cond_false])
 refine ⟨l', ?_, ?_⟩
 ·unfold F.laws_markEntryS
  simp only [g1, afterO]; rfl
 ·unfold F.laws_heldEntryS
  simp only [g2, afterO]; rfl
theorem mhRowS (l : List DRow) (k : Int) (hh : sRowS l) (h0 : 0 <= k) (h1 : k + (cRowS l : Int) <= 1000000000000000) : ∃ l', F.laws_markRowS l k = some (k + (cRowS l : Int), l') /\ F.laws_heldRowS l' k = some (k + (cRowS l : Int)) := by
 obtain ⟨h, hs⟩ := hh
 obtain ⟨l', g1, g2⟩ := loop_mark (mstep := F.laws_markRowS.s2) (hstep := F.laws_heldRowS.s2) (([] : List DEntry), ()) kRow 1000000000000000 l k h0 h1 (fun x hx k hk hB => by
  have hc : kRow x = cEntryS x.1 := rfl
  obtain ⟨l1, a1, b1⟩ := mhEntryS x.1 (k) (hs x hx) (by omega) (by omega)
  have ho : k + (cEntryS x.1 : Int) = k + (kRow x : Int) := by omega
  refine ⟨(l1, ()), fun i m hi hl hx => ?_, fun i m hi hl hx => ?_⟩
  ·unfold F.laws_markRowS.s2
   simp only
   rw [lt_len hi]
   simp only [cond_true, inb_nat hi, chk_true, Int.toNat_natCast, Option.bind_some, List.length_set, getD_set_self hi, hx, List.set_set, w64_nat (show i < 9223372036854775807 by omega), a1]
   rw [ho]
  ·unfold F.laws_heldRowS.s2
   simp only
   rw [lt_len hi]
   simp only [cond_true, cond_false, inb_nat hi, chk_true, Int.toNat_natCast, Option.bind_some, hx, bne_self_eq_false, beq_self_eq_true, Bool.not_true, w64_nat (show i < 9223372036854775807 by omega), b1, show decide (k + (cEntryS x.1 : Int) < 0) = false from decide_eq_false (by omega)]
   rw [ho]) (fun m k => by
  unfold F.laws_markRowS.s2
  simp only [ge_len, cond_false]) (fun m k => by
  unfold F.laws_heldRowS.s2
  simp only [ge_len, cond_false])
 refine ⟨l', ?_, ?_⟩
 ·unfold F.laws_markRowS
  simp only [g1, afterO]; rfl
 ·unfold F.laws_heldRowS
  simp only [g2, afterO]; rfl
theorem mhRowSS (l : List (List DRow)) (k : Int) (hh : sRowSS l) (h0 : 0 <= k) (h1 : k + (cRowSS l : Int) <= 1000000000000000) : ∃ l', F.laws_markRowSS l k = some (k + (cRowSS l : Int), l') /\ F.laws_heldRowSS l' k = some (k + (cRowSS l : Int)) := by
 obtain ⟨h, hs⟩ := hh
 obtain ⟨l', g1, g2⟩ := loop_mark (mstep := F.laws_markRowSS.s2) (hstep := F.laws_heldRowSS.s2) ([] : List DRow) cRowS 1000000000000000 l k h0 h1 (fun x hx k hk hB => by
  obtain ⟨x', a1, b1⟩ := mhRowS x k (hs x hx) hk hB
  refine ⟨x', fun i m hi hl hx => ?_, fun i m hi hl hx => ?_⟩
  ·unfold F.laws_markRowSS.s2
   simp only
   rw [lt_len hi]
   simp only [cond_true, inb_nat hi, chk_true, Int.toNat_natCast, hx, a1, Option.bind_some, w64_nat (show i < 9223372036854775807 by omega)]
  ·unfold F.laws_heldRowSS.s2
   simp only
   rw [lt_len hi]
   simp only [cond_true, inb_nat hi, chk_true, Int.toNat_natCast, hx, b1, Option.bind_some, w64_nat (show i < 9223372036854775807 by omega), show decide (k + (cRowS x : Int) < 0) = false from decide_eq_false (by omega), cond_false]) (fun m k => by
  unfold F.laws_markRowSS.s2
  simp only [ge_len, cond_false]) (fun m k => by
  unfold F.laws_heldRowSS.s2
  simp only [ge_len, cond_false])
 refine ⟨l', ?_, ?_⟩
 ·unfold F.laws_markRowSS
  simp only [g1, afterO]; rfl
 ·unfold F.laws_heldRowSS
  simp only [g2, afterO]; rfl
theorem mhTurnS (l : List DTurn) (k : Int) (hh : sTurnS l) (h0 : 0 <= k) (h1 : k + (cTurnS l : Int) <= 1000000000000000) : ∃ l', F.laws_markTurnS l k = some (k + (cTurnS l : Int), l') /\ F.laws_heldTurnS l' k = some (k + (cTurnS l : Int)) := by
 obtain ⟨h, hs⟩ := hh
 obtain ⟨l', g1, g2⟩ := loop_mark (mstep := F.laws_markTurnS.s2) (hstep := F.laws_heldTurnS.s2) (0, false, ([] : List Int), ()) kTurn 1000000000000000 l k h0 h1 (fun x hx k hk hB => by
  have hc : kTurn x = 2 + cIntS x.2.2.1 := rfl
  obtain ⟨l1, a1, b1⟩ := mhIntS x.2.2.1 (k + 1 + 1) (hs x hx) (by omega) (by omega)
  have ho : k + 1 + 1 + (cIntS x.2.2.1 : Int) = k + (kTurn x : Int) := by omega
  refine ⟨(k, Int.tmod (k + 1) 3 == 0, l1, ()), fun i m hi hl hx => ?_, fun i m hi hl hx => ?_⟩
  ·unfold F.laws_markTurnS.s2
   simp only
   rw [lt_len hi]
   simp only [cond_true, inb_nat hi, chk_true, Int.toNat_natCast, Option.bind_some, List.length_set, getD_set_self hi, hx, List.set_set, w64_nat (show i < 9223372036854775807 by omega), w64_id (x := k + 1) (by omega) (by omega), w64_id (x := k + 1 + 1) (by omega) (by omega), a1]
   rw [ho]
  ·unfold F.laws_heldTurnS.s2
   simp only
   rw [lt_len hi]
   simp only [cond_true, cond_false, inb_nat hi, chk_true, Int.toNat_natCast, Option.bind_some, hx, bne_self_eq_false, beq_self_eq_true, Bool.not_true, w64_nat (show i < 9223372036854775807 by omega), w64_id (x := k + 1) (by omega) (by omega), w64_id (x := k + 1 + 1) (by omega) (by omega), b1, show decide (k + 1 + 1 + (cIntS x.2.2.1 : Int) < 0) = false from decide_eq_false (by omega)]
   rw [ho]) (fun m k => by
  unfold F.laws_markTurnS.s2
  simp only [ge_len, cond_false]) (fun m k => by
  unfold F.laws_heldTurnS.s2
  simp only [ge_len, cond_false])
 refine ⟨l', ?_, ?_⟩
 ·unfold F.laws_markTurnS
  simp only [g1, afterO]; rfl
 ·unfold F.laws_heldTurnS
  simp only [g2, afterO]; rfl
theorem mhOutS (l : List DOut) (k : Int) (hh : sOutS l) (h0 : 0 <= k) (h1 : k + (cOutS l : Int) <= 1000000000000000) : ∃ l', F.laws_markOutS l k = some (k + (cOutS l : Int), l') /\ F.laws_heldOutS l' k = some (k + (cOutS l : Int)) := by
 obtain ⟨h, hs⟩ := hh
 obtain ⟨l', g1, g2⟩ := loop_mark (mstep := F.laws_markOutS.s2) (hstep := F.laws_heldOutS.s2) (0, (0, 0, ([] : List DSpan), (0, 0, 0, 0, ([] : List Int), ([] : List Int), ([] : List (List Int)), ()), ()), ()) kOut 1000000000000000 l k h0 h1 (fun x hx k hk hB => by
  have hc : kOut x = 7 + cSpanS x.2.1.2.2.1 + cIntS x.2.1.2.2.2.1.2.2.2.2.1 + cIntS x.2.1.2.2.2.1.2.2.2.2.2.1 + cIntSS x.2.1.2.2.2.1.2.2.2.2.2.2.1 := rfl
  obtain ⟨l1, a1, b1⟩ := mhSpanS x.2.1.2.2.1 (k + 1 + 1 + 1) (hs x hx).1 (by omega) (by omega)
  obtain ⟨l2, a2, b2⟩ := mhIntS x.2.1.2.2.2.1.2.2.2.2.1 (k + 1 + 1 + 1 + (cSpanS x.2.1.2.2.1 : Int) + 1 + 1 + 1 + 1) (hs x hx).2.1 (by omega) (by omega)
  obtain ⟨l3, a3, b3⟩ := mhIntS x.2.1.2.2.2.1.2.2.2.2.2.1 (k + 1 + 1 + 1 + (cSpanS x.2.1.2.2.1 : Int) + 1 + 1 + 1 + 1 + (cIntS x.2.1.2.2.2.1.2.2.2.2.1 : Int)) (hs x hx).2.2.1 (by omega) (by omega)
  obtain ⟨l4, a4, b4⟩ := mhIntSS x.2.1.2.2.2.1.2.2.2.2.2.2.1 (k + 1 + 1 + 1 + (cSpanS x.2.1.2.2.1 : Int) + 1 + 1 + 1 + 1 + (cIntS x.2.1.2.2.2.1.2.2.2.2.1 : Int) + (cIntS x.2.1.2.2.2.1.2.2.2.2.2.1 : Int)) (hs x hx).2.2.2 (by omega) (by omega)
  have ho : k + 1 + 1 + 1 + (cSpanS x.2.1.2.2.1 : Int) + 1 + 1 + 1 + 1 + (cIntS x.2.1.2.2.2.1.2.2.2.2.1 : Int) + (cIntS x.2.1.2.2.2.1.2.2.2.2.2.1 : Int) + (cIntSS x.2.1.2.2.2.1.2.2.2.2.2.2.1 : Int) = k + (kOut x : Int) := by omega
  refine ⟨(k, (k + 1, k + 1 + 1, l1, (k + 1 + 1 + 1 + (cSpanS x.2.1.2.2.1 : Int), k + 1 + 1 + 1 + (cSpanS x.2.1.2.2.1 : Int) + 1, k + 1 + 1 + 1 + (cSpanS x.2.1.2.2.1 : Int) + 1 + 1, k + 1 + 1 + 1 + (cSpanS x.2.1.2.2.1 : Int) + 1 + 1 + 1, l2, l3, l4, ()), ()), ()), fun i m hi hl hx => ?_, fun i m hi hl hx => ?_⟩
  ·unfold F.laws_markOutS.s2
   simp only
   rw [lt_len hi]
   simp only [cond_true, inb_nat hi, chk_true, Int.toNat_natCast, Option.bind_some, List.length_set, getD_set_self hi, hx, List.set_set, w64_nat (show i < 9223372036854775807 by omega), w64_id (x := k + 1) (by omega) (by omega), w64_id (x := k + 1 + 1) (by omega) (by omega), w64_id (x := k + 1 + 1 + 1) (by omega) (by omega), w64_id (x := k + 1 + 1 + 1 + (cSpanS x.2.1.2.2.1 : Int) + 1) (by omega) (by omega), w64_id (x := k + 1 + 1 + 1 + (cSpanS x.2.1.2.2.1 : Int) + 1 + 1) (by omega) (by omega), w64_id (x := k + 1 + 1 + 1 + (cSpanS x.2.1.2.2.1 : Int) + 1 + 1 + 1) (by omega) (by omega), w64_id (x := k + 1 + 1 + 1 + (cSpanS x.2.1.2.2.1 : Int) + 1 + 1 + 1 + 1) (by omega) (by omega), a1, a2, a3, a4]
   rw [ho]
  ·unfold F.laws_heldOutS.s2
   simp only
   rw [lt_len hi]
   simp only [cond_true, cond_false, inb_nat hi, chk_true, Int.toNat_natCast, Option.bind_some, hx, bne_self_eq_false, beq_self_eq_true, Bool.not_true, w64_nat (show i < 9223372036854775807 by omega), w64_id (x := k + 1) (by omega) (by omega), w64_id (x := k + 1 + 1) (by omega) (by omega), w64_id (x := k + 1 + 1 + 1) (by omega) (by omega), w64_id (x := k + 1 + 1 + 1 + (cSpanS x.2.1.2.2.1 : Int) + 1) (by omega) (by omega), w64_id (x := k + 1 + 1 + 1 + (cSpanS x.2.1.2.2.1 : Int) + 1 + 1) (by omega) (by omega), w64_id (x := k + 1 + 1 + 1 + (cSpanS x.2.1.2.2.1 : Int) + 1 + 1 + 1) (by omega) (by omega), w64_id (x := k + 1 + 1 + 1 + (cSpanS x.2.1.2.2.1 : Int) + 1 + 1 + 1 + 1) (by omega) (by omega), b1, show decide (k + 1 + 1 + 1 + (cSpanS x.2.1.2.2.1 : Int) < 0) = false from decide_eq_false (by omega), b2, show decide (k + 1 + 1 + 1 + (cSpanS x.2.1.2.2.1 : Int) + 1 + 1 + 1 + 1 + (cIntS x.2.1.2.2.2.1.2.2.2.2.1 : Int) < 0) = false from decide_eq_false (by omega), b3, show decide (k + 1 + 1 + 1 + (cSpanS x.2.1.2.2.1 : Int) + 1 + 1 + 1 + 1 + (cIntS x.2.1.2.2.2.1.2.2.2.2.1 : Int) + (cIntS x.2.1.2.2.2.1.2.2.2.2.2.1 : Int) < 0) = false from decide_eq_false (by omega), b4, show decide (k + 1 + 1 + 1 + (cSpanS x.2.1.2.2.1 : Int) + 1 + 1 + 1 + 1 + (cIntS x.2.1.2.2.2.1.2.2.2.2.1 : Int) + (cIntS x.2.1.2.2.2.1.2.2.2.2.2.1 : Int) + (cIntSS x.2.1.2.2.2.1.2.2.2.2.2.2.1 : Int) < 0) = false from decide_eq_false (by omega)]
   rw [ho]) (fun m k => by
  unfold F.laws_markOutS.s2
  simp only [ge_len, cond_false]) (fun m k => by
  unfold F.laws_heldOutS.s2
  simp only [ge_len, cond_false])
 refine ⟨l', ?_, ?_⟩
 ·unfold F.laws_markOutS
  simp only [g1, afterO]; rfl
 ·unfold F.laws_heldOutS
  simp only [g2, afterO]; rfl
theorem mhHouse (a : DHouse) (k : Int) (hh : sHouse a) (h0 : 0 <= k) (h1 : k + (cHouse a : Int) <= 1000000000000000) : ∃ a', F.laws_markHouse a k = some (k + (cHouse a : Int), a') /\ F.laws_heldHouse a' k = some (k + (cHouse a : Int)) := by
 have hc : cHouse a = cConf a.1 + cSeatS a.2.2.2.1 + cRowSS a.2.2.2.2.1 + cTurnS a.2.2.2.2.2.1 + cEntryS a.2.2.2.2.2.2.2.1 + cOutS a.2.2.2.2.2.2.2.2.1 := rfl
 unfold sHouse at hh
 obtain ⟨l0, a0, b0⟩ := mhConf a.1 (k) hh.1 (by omega) (by omega)
 obtain ⟨l1, a1, b1⟩ := mhSeatS a.2.2.2.1 (k + (cConf a.1 : Int)) hh.2.1 (by omega) (by omega)
 obtain ⟨l2, a2, b2⟩ := mhRowSS a.2.2.2.2.1 (k + (cConf a.1 : Int) + (cSeatS a.2.2.2.1 : Int)) hh.2.2.1 (by omega) (by omega)
 obtain ⟨l3, a3, b3⟩ := mhTurnS a.2.2.2.2.2.1 (k + (cConf a.1 : Int) + (cSeatS a.2.2.2.1 : Int) + (cRowSS a.2.2.2.2.1 : Int)) hh.2.2.2.1 (by omega) (by omega)
 obtain ⟨l4, a4, b4⟩ := mhEntryS a.2.2.2.2.2.2.2.1 (k + (cConf a.1 : Int) + (cSeatS a.2.2.2.1 : Int) + (cRowSS a.2.2.2.2.1 : Int) + (cTurnS a.2.2.2.2.2.1 : Int)) hh.2.2.2.2.1 (by omega) (by omega)
 obtain ⟨l5, a5, b5⟩ := mhOutS a.2.2.2.2.2.2.2.2.1 (k + (cConf a.1 : Int) + (cSeatS a.2.2.2.1 : Int) + (cRowSS a.2.2.2.2.1 : Int) + (cTurnS a.2.2.2.2.2.1 : Int) + (cEntryS a.2.2.2.2.2.2.2.1 : Int)) hh.2.2.2.2.2 (by omega) (by omega)
 have ho : k + (cConf a.1 : Int) + (cSeatS a.2.2.2.1 : Int) + (cRowSS a.2.2.2.2.1 : Int) + (cTurnS a.2.2.2.2.2.1 : Int) + (cEntryS a.2.2.2.2.2.2.2.1 : Int) + (cOutS a.2.2.2.2.2.2.2.2.1 : Int) = k + (cHouse a : Int) := by omega
 refine ⟨_, by unfold F.laws_markHouse; simp only [a0, a1, a2, a3, a4, a5, Option.bind_some]; rw [ho], ?_⟩
 unfold F.laws_heldHouse
 simp only [b0, show decide (k + (cConf a.1 : Int) < 0) = false from decide_eq_false (by omega), b1, show decide (k + (cConf a.1 : Int) + (cSeatS a.2.2.2.1 : Int) < 0) = false from decide_eq_false (by omega), b2, show decide (k + (cConf a.1 : Int) + (cSeatS a.2.2.2.1 : Int) + (cRowSS a.2.2.2.2.1 : Int) < 0) = false from decide_eq_false (by omega), b3, show decide (k + (cConf a.1 : Int) + (cSeatS a.2.2.2.1 : Int) + (cRowSS a.2.2.2.2.1 : Int) + (cTurnS a.2.2.2.2.2.1 : Int) < 0) = false from decide_eq_false (by omega), b4, show decide (k + (cConf a.1 : Int) + (cSeatS a.2.2.2.1 : Int) + (cRowSS a.2.2.2.2.1 : Int) + (cTurnS a.2.2.2.2.2.1 : Int) + (cEntryS a.2.2.2.2.2.2.2.1 : Int) < 0) = false from decide_eq_false (by omega), b5, show decide (k + (cConf a.1 : Int) + (cSeatS a.2.2.2.1 : Int) + (cRowSS a.2.2.2.2.1 : Int) + (cTurnS a.2.2.2.2.2.1 : Int) + (cEntryS a.2.2.2.2.2.2.2.1 : Int) + (cOutS a.2.2.2.2.2.2.2.2.1 : Int) < 0) = false from decide_eq_false (by omega), Option.bind_some, cond_false]
 rw [ho]
theorem mhByteS (l : List Int) (k : Int) (hh : sByteS l) (h0 : 0 <= k) (h1 : k + (cByteS l : Int) <= 1000000000000000) : ∃ l', F.laws_markByteS l k = some (k + (cByteS l : Int), l') /\ F.laws_heldByteS l' k = some (k + (cByteS l : Int)) := by
 have h : l.length <= 1099511627776 := hh
 have hsum : (l.map fun _ => 1).sum = cByteS l := by
  unfold cByteS
  clear hh h h1
  induction l with
  | nil => rfl
  | cons x l ih => simp only [List.map_cons, List.sum_cons, ih, List.length_cons]; omega
 obtain ⟨l', g1, g2⟩ := loop_mark (mstep := F.laws_markByteS.s2) (hstep := F.laws_heldByteS.s2) 0 (fun _ => 1) 1000000000000000 l k h0 (by rw [hsum]; exact h1) (fun x hx k hk hB => by
  refine ⟨IntKind.wrap .u8 k, fun i m hi hl hx => ?_, fun i m hi hl hx => ?_⟩
  ·unfold F.laws_markByteS.s2
   simp only
   rw [lt_len hi]
   simp only [cond_true, inb_nat hi, chk_true, Int.toNat_natCast, w64_nat (show i < 9223372036854775807 by omega), w64_id (x := k + 1) (by omega) (by omega)]
   rfl
  ·unfold F.laws_heldByteS.s2
   simp only
   rw [lt_len hi]
   simp only [cond_true, cond_false, inb_nat hi, chk_true, Int.toNat_natCast, hx, bne_self_eq_false, w64_nat (show i < 9223372036854775807 by omega), w64_id (x := k + 1) (by omega) (by omega)]
   rfl) (fun m k => by
  unfold F.laws_markByteS.s2
  simp only [ge_len, cond_false]) (fun m k => by
  unfold F.laws_heldByteS.s2
  simp only [ge_len, cond_false])
 rw [hsum] at g1 g2
 refine ⟨l', ?_, ?_⟩
 ·unfold F.laws_markByteS
  simp only [g1, afterO]
 ·unfold F.laws_heldByteS
  simp only [g2, afterO]
theorem fnExactIngressBytes_law (a : DHouse) (b : List Int) (fa : fHouse a) (hb : bytes b) : F.laws_FnExactIngressBytes a b = some true := by
 unfold F.laws_FnExactIngressBytes
 by_cases gb : b.length <= 1048576
 case neg => rw [show decide (len b > 1048576) = true from decide_eq_true (by simp only [len]; omega)]; rfl
 rw [show decide (len b > 1048576) = false from decide_eq_false (by simp only [len]; omega)]
 simp only [cond_false]
 have hzb : zByteS b <= 1048576 := gb
 rw [szHouse a (1048576) fa (by omega) (by omega)]
 by_cases ga : (zHouse a : Int) <= (1048576 : Int)
 case neg => rw [if_neg ga]; rfl
 rw [if_pos ga]
 simp only [Option.bind_some]
 rw [show decide ((1048576 : Int) - (zHouse a : Int) < 0) = false from decide_eq_false (by omega)]
 simp only [cond_false]
 obtain ⟨r, hs, hi, hz⟩ := ingressBytes_same a b (by omega) gb hb
 have qa := czHouse a
 obtain ⟨ma, a0⟩ := maHouse a (1) (smHouse (by omega)) (by omega) (by omega)
 have qb := czByteS b
 obtain ⟨mb, a1⟩ := maByteS b (1 + (cHouse a : Int)) (smByteS (by omega)) (by omega) (by omega)
 have hz0 := hz.1
 have p0 := czHouse r.1
 obtain ⟨n0, b0, d0⟩ := mhHouse r.1 (1) (smHouse hz.1) (by omega) (by omega)
 have hz1 := hz.2
 have p1 := czByteS r.2.1
 obtain ⟨n1, b1, d1⟩ := mhByteS r.2.1 (1 + (cHouse r.1 : Int)) (smByteS hz.2) (by omega) (by omega)
 simp only [hs, hi, Option.bind_some, bne_self_eq_false, beq_self_eq_true, Bool.not_true, cond_false, toHouse a (by omega), eqHouse a (by omega), toByteS b hzb, eqByteS b (by omega), eqHouse r.1 hz.1, eqByteS r.2.1 hz.2, a0, a1, show decide ((1 : Int) + (cHouse a : Int) + (cByteS b : Int) < 0) = false from decide_eq_false (by omega), b0, d0, show decide ((1 : Int) + (cHouse r.1 : Int) < 0) = false from decide_eq_false (by omega), b1, d1, show decide ((1 : Int) + (cHouse r.1 : Int) + (cByteS r.2.1 : Int) < 0) = false from decide_eq_false (by omega)]
end Go.Proofs.YtipaepbmdooekaaGreat.Vm
