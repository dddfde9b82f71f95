import Derived.Test.YtdnknkfnfnlajaaGreatPA
namespace Go.Proofs.YtdnknkfnfnlajaaGreat.Vm
open Go Go.RowKit
set_option linter.unusedVariables false
/- Sizes: of an entry, of what is first in each row; answers. -/

theorem zEnR' {e : DEntry} (h : EnR e) : zEntry e ≤ 1048576 := by
  obtain ⟨r0, r1, hr, ⟨h0, _⟩, h1, _⟩ := h.sk.rows
  have hh := h.sk.hist.1
  have hg := h.sk.regs.1
  have hi := okF_small (good_ok.1 h.ids)
  unfold zEntry zSpanS zSketch zIntS zIntSS
  rw [hr]
  simp only [List.map_cons, List.map_nil, List.sum_cons, List.sum_nil, List.length_cons, List.length_nil, zIntS]
  omega
/-- How many are above 0. -/
def full (l : List Int) : Nat := l.countP fun x => decide (x > 0)
theorem l6Full_eq (l : List Int) (h : l.length ≤ 1048576) : F.spec_l6Full l = some ((full l : Nat) : Int) := by
  unfold F.spec_l6Full full
  have hh := loop_run (step := F.spec_l6Full.s3) (fun i => (l, (((l.take i).countP (fun x => decide (x > 0)) : Nat) : Int), (i : Int), ())) l.length (fun i hi => by
    have hc := cnt_le (fun x : Int => decide (x > 0)) l i
    unfold F.spec_l6Full.s3 F.spec_l1Bit
    simp only
    rw [lt_len hi, inb_nat hi, Int.toNat_natCast, getD_at hi, w64_nat (i := i) (by omega), cnt_take hi]
    simp only [cond_true, chk_true]
    cases decide (l[i] > 0) with
    | false =>
      simp only [cond_false, Bool.false_eq_true, if_false, Nat.add_zero, Option.bind_some, Int.add_zero]
      rw [w64_id (by omega) (by omega)]
    | true =>
      simp only [cond_true, if_true, Option.bind_some]
      rw [w64_id (by omega) (by omega)]
      rfl) (l := .exit (l, (((l.take l.length).countP (fun x => decide (x > 0)) : Nat) : Int), ((l.length : Nat) : Int), ())) (by
    unfold F.spec_l6Full.s3
    simp only [ge_len, cond_false]) rfl
  rw [List.take_length] at hh
  exact (congrArg (fun z => afterO z _) hh).trans rfl
/-- An entry's size. -/
def entSize (e : DEntry) : Int := 4 + 2 * (e.2.2.1.length : Int) + ((full ((e.2.2.2.1.2.2.2.2.1 ++ e.2.2.2.1.2.2.2.2.2.1) ++ e.2.2.2.1.2.2.2.2.2.2.1.flatten) : Nat) : Int)
theorem full_app (l m : List Int) : full (l ++ m) = full l + full m := List.countP_append
theorem full_le (l : List Int) : full l ≤ l.length := List.countP_le_length
theorem specESize_eq {e : DEntry} (h : EnR e) : F.spec_EntrySize e = some (entSize e) := by
  have hz := zEnR' h
  obtain ⟨r0, r1, hr, ⟨h0, _⟩, h1, _⟩ := h.sk.rows
  have hh := h.sk.hist.1
  have hg := h.sk.regs.1
  have hi := okF_small (good_ok.1 h.ids)
  have f1 := full_le e.2.2.2.1.2.2.2.2.1
  have f2 := full_le e.2.2.2.1.2.2.2.2.2.1
  have f3 := full_le r0
  have f4 := full_le r1
  unfold F.spec_EntrySize entSize
  rw [specEn_dec e hz, decB_pos h, hr]
  simp only [Option.bind_some, Bool.not_true, cond_false]
  rw [l6Full_eq _ (by omega), l6Full_eq _ (by omega), show inb 0 [r0, r1].length = true from rfl, show inb 1 [r0, r1].length = true from rfl, show [r0, r1].getD 0 [] = r0 from rfl, show [r0, r1].getD 1 [] = r1 from rfl, l6Full_eq _ (by omega), l6Full_eq _ (by omega)]
  simp only [Option.bind_some, chk_true, List.flatten_cons, List.flatten_nil, List.append_nil, full_app]
  rw [w64_id (x := 4 + _) (by omega) (by omega), w64_id (x := 4 + _ + _) (by omega) (by omega), w64_id (x := 4 + _ + _ + _) (by omega) (by omega), w64_id (x := 4 + _ + _ + _ + _) (by omega) (by omega), w64_id (x := 2 * len e.2.2.1) (by simp only [len]; omega) (by simp only [len]; omega), w64_id (by simp only [len]; omega) (by simp only [len]; omega)]
  simp only [len, Option.some.injEq]
  push_cast
  omega
theorem implESize_eq {e : DEntry} (h : EnR e) : F.impl_EntrySize e = some (entSize e) := by
  have hz := zEnR' h
  obtain ⟨r0, r1, hr, ⟨h0, _⟩, h1, _⟩ := h.sk.rows
  have hh := h.sk.hist.1
  have hg := h.sk.regs.1
  have hi := okF_small (good_ok.1 h.ids)
  have hzs : zSketch e.2.2.2.1 ≤ 1048576 := by unfold zEntry at hz; omega
  unfold F.impl_EntrySize entSize
  rw [implEn_dec e hz, decB_pos h, counts_eq _ hzs, w64_id (x := 2 * len e.2.2.1) (by simp only [len]; omega) (by simp only [len]; omega), w64_id (x := 4 + 2 * len e.2.2.1) (by simp only [len]; omega) (by simp only [len]; omega)]
  simp only [Option.bind_some, Bool.not_true, cond_false]
  have hlen : ((e.2.2.2.1.2.2.2.2.1 ++ e.2.2.2.1.2.2.2.2.2.1) ++ e.2.2.2.1.2.2.2.2.2.2.1.flatten).length ≤ 100 := by
    rw [hr]
    simp only [List.length_append, List.flatten_cons, List.flatten_nil, List.append_nil]
    omega
  generalize (e.2.2.2.1.2.2.2.2.1 ++ e.2.2.2.1.2.2.2.2.2.1) ++ e.2.2.2.1.2.2.2.2.2.2.1.flatten = l at hlen
  have hl := loop_run (step := F.impl_EntrySize.s5) (fun i => (4 + 2 * len e.2.2.1 + (((l.take i).countP (fun x => decide (x > 0)) : Nat) : Int), l, len l, (i : Int), ())) l.length (fun i hi => by
    have hc := cnt_le (fun x : Int => decide (x > 0)) l i
    unfold F.impl_EntrySize.s5
    simp only
    rw [lt_len hi, inb_nat hi, Int.toNat_natCast, getD_at hi, w64_nat (i := i) (by omega), cnt_take hi]
    simp only [cond_true, chk_true]
    cases decide (l[i] > 0) with
    | false => rfl
    | true =>
      simp only [cond_true, if_true]
      rw [w64_id (by simp only [len]; omega) (by simp only [len]; omega), Int.add_assoc]
      rfl) (l := .exit (4 + 2 * len e.2.2.1 + (((l.take l.length).countP (fun x => decide (x > 0)) : Nat) : Int), l, len l, ((l.length : Nat) : Int), ())) (by
    unfold F.impl_EntrySize.s5
    simp only [ge_len, cond_false]) rfl
  have hl : loopO F.impl_EntrySize.s5 (4 + 2 * len e.2.2.1 + 0, l, len l, 0, ()) = _ := hl
  rw [Int.add_zero, List.take_length] at hl
  exact (congrArg (fun z => afterO z _) hl).trans rfl
/-! ### of a house -/
abbrev nilR : DRow := (([] : List DEntry), ())
/-- What is first, in size. -/
def firstSz (r : DRow) : Int := match r.1 with
  | [] => 0
  | e :: _ => mnI 200 (entSize e)
def sizesOf (h : DHouse) (c : Nat) : List Int := h.2.2.2.2.1.map fun rs => firstSz (rs.getD c nilR)
theorem row_at {h : DHouse} (hP : PartsR h) {k : Nat} (hk : k < h.2.2.2.2.1.length) : h.2.2.2.2.1[k].length = 2 ∧ ∀ r ∈ h.2.2.2.2.1[k], RoR r := by
  have hs := hP.seats k (by have := hP.nr; omega)
  have h2 := hs.two
  have h3 := hs.rows
  rw [getD_at hk] at h2 h3
  exact ⟨h2, fun r hr => (h3 r hr).1⟩
theorem specSizes_eq (h : DHouse) (hP : PartsR h) (c : Nat) (hc : c ≤ 1) : F.spec_l14Sizes h (c : Int) = some (sizesOf h c) := by
  have hn := hP.nr
  unfold F.spec_l14Sizes
  have hh := loop_run (step := F.spec_l14Sizes.s3) (fun i => ((c : Int), (sizesOf h c).take i, (i : Int), h, ())) h.2.2.2.2.1.length (fun i hi => by
    obtain ⟨h2, h3⟩ := row_at hP hi
    have hc' : c < h.2.2.2.2.1[i].length := by omega
    have hsl : i < (sizesOf h c).length := by unfold sizesOf; rw [List.length_map]; exact hi
    have hsg : (sizesOf h c)[i] = firstSz h.2.2.2.2.1[i][c] := (List.getElem_map (fun rs : List DRow => firstSz (rs.getD c nilR)) (h := hsl)).trans (by rw [getD_at hc'])
    unfold F.spec_l14Sizes.s3
    simp only
    rw [show decide ((i : Int) < 3) = true from decide_eq_true (by omega), inb_nat hi, Int.toNat_natCast, getD_at hi, inb_nat hc', Int.toNat_natCast, getD_at hc', w64_nat (by omega), List.take_succ_eq_append_getElem hsl, hsg]
    simp only [cond_true, chk_true, List.length_cons, List.length_nil, List.length_take]
    have hr := h3 _ (List.getElem_mem hc')
    unfold firstSz
    cases hl : h.2.2.2.2.1[i][c].1 with
    | nil =>
      rw [show decide (len ([] : List DEntry) > 0) = false from rfl]
      simp only [cond_false]
      rw [fits_of (by omega)]; rfl
    | cons e l =>
      have he := hr.ok.all e (by rw [hl]; exact List.mem_cons_self ..)
      rw [show decide (len (e :: l) > 0) = true from decide_eq_true (by simp only [len, List.length_cons]; omega), show inb 0 (e :: l).length = true from inb_nat (i := 0) (by simp), show (e :: l).getD 0 nilE = e from rfl, specESize_eq he]
      simp only [cond_true, chk_true, Option.bind_some, l1Min_eq]
      rw [fits_of (by omega), mnI_comm]; rfl) (l := .exit ((c : Int), (sizesOf h c).take h.2.2.2.2.1.length, ((h.2.2.2.2.1.length : Nat) : Int), h, ())) (by
    unfold F.spec_l14Sizes.s3
    simp only
    rw [show decide (((h.2.2.2.2.1.length : Nat) : Int) < 3) = false from decide_eq_false (by omega)]; rfl) rfl
  rw [show (sizesOf h c).take h.2.2.2.2.1.length = sizesOf h c from List.take_of_length_le (by unfold sizesOf; rw [List.length_map]; omega)] at hh
  exact (congrArg (fun z => afterO z _) hh).trans rfl
theorem implSizes_loop (h : DHouse) (hP : PartsR h) (c : Nat) (hc : c ≤ 1) : loopO F.impl_Sizes.s5 ((c : Int), [], h.2.2.2.2.1, len h.2.2.2.2.1, 0, ()) = some (.inl ((c : Int), sizesOf h c, h.2.2.2.2.1, len h.2.2.2.2.1, ((h.2.2.2.2.1.length : Nat) : Int), ())) := by
  have hn := hP.nr
  have hh := loop_run (step := F.impl_Sizes.s5) (fun i => ((c : Int), (sizesOf h c).take i, h.2.2.2.2.1, len h.2.2.2.2.1, (i : Int), ())) h.2.2.2.2.1.length (fun i hi => by
    obtain ⟨h2, h3⟩ := row_at hP hi
    have hc' : c < h.2.2.2.2.1[i].length := by omega
    have hsl : i < (sizesOf h c).length := by unfold sizesOf; rw [List.length_map]; exact hi
    have hsg : (sizesOf h c)[i] = firstSz h.2.2.2.2.1[i][c] := (List.getElem_map (fun rs : List DRow => firstSz (rs.getD c nilR)) (h := hsl)).trans (by rw [getD_at hc'])
    unfold F.impl_Sizes.s5
    simp only
    rw [lt_len hi, inb_nat hi, Int.toNat_natCast, getD_at hi, inb_nat hc', Int.toNat_natCast, getD_at hc', w64_nat (by omega), List.take_succ_eq_append_getElem hsl, hsg]
    simp only [cond_true, chk_true, List.length_cons, List.length_nil, List.length_take]
    have hr := h3 _ (List.getElem_mem hc')
    unfold firstSz
    cases hl : h.2.2.2.2.1[i][c].1 with
    | nil =>
      rw [show decide (len ([] : List DEntry) > 0) = false from rfl]
      simp only [cond_false]
      rw [fits_of (by omega)]; rfl
    | cons e l =>
      have he := hr.ok.all e (by rw [hl]; exact List.mem_cons_self ..)
      rw [show decide (len (e :: l) > 0) = true from decide_eq_true (by simp only [len, List.length_cons]; omega), show inb 0 (e :: l).length = true from inb_nat (i := 0) (by simp), show (e :: l).getD 0 nilE = e from rfl, implESize_eq he]
      simp only [cond_true, chk_true, Option.bind_some]
      rw [fits_of (by omega)]; rfl) (l := .exit ((c : Int), (sizesOf h c).take h.2.2.2.2.1.length, h.2.2.2.2.1, len h.2.2.2.2.1, ((h.2.2.2.2.1.length : Nat) : Int), ())) (by
    unfold F.impl_Sizes.s5
    simp only [ge_len, cond_false]) rfl
  rw [show (sizesOf h c).take h.2.2.2.2.1.length = sizesOf h c from List.take_of_length_le (by unfold sizesOf; rw [List.length_map]; omega)] at hh
  exact hh
theorem sizes_same (h : DHouse) (c : Int) (hz : zHouse h ≤ 1048576) : ∃ r, F.spec_Sizes h c = some r ∧ F.impl_Sizes h c = some r ∧ zIntS r ≤ 1099511627776 := by
  unfold F.spec_Sizes F.impl_Sizes
  rw [specHouse_dec h hz, implHouse_dec h hz]
  simp only [Option.bind_some, l1In_eq, within_eq]
  by_cases hH : HouseR h
  case neg => rw [decB_neg hH]; exact ⟨_, rfl, rfl, by simp [zIntS]⟩
  rw [decB_pos hH]
  simp only [Bool.not_true, cond_false]
  cases hc : inR 0 1 c with
  | false => exact ⟨_, rfl, rfl, by simp [zIntS]⟩
  | true =>
    have hc := inR_iff.1 hc
    obtain ⟨k, rfl⟩ : ∃ k : Nat, c = (k : Int) := ⟨c.toNat, by omega⟩
    simp only [Bool.not_true, cond_false]
    rw [specSizes_eq h hH.parts k (by omega), implSizes_loop h hH.parts k (by omega)]
    refine ⟨_, rfl, rfl, ?_⟩
    have := hH.parts.nr
    unfold zIntS sizesOf
    rw [List.length_map]; omega
/-! ### answers -/
abbrev nilF : DFrame := (0, 0, 0, 0, ([] : List DSpan), (0, 0, 0, 0, (0, 0, 0, 0, ([] : List Int), ([] : List Int), ([] : List (List Int)), ()), ()), ())
/-- The answer to agent k. -/
def answerOf (h : DHouse) (k : Nat) : DFrame := (2, (k : Int), (h.2.2.2.1.getD k noS).1, (h.2.2.2.1.getD k noS).2.1, (h.2.2.2.1.getD k noS).2.2.1, (0, 0, 0, 0, (0, 0, 0, 0, ([] : List Int), ([] : List Int), ([] : List (List Int)), ()), ()), ())
theorem l13Answer_eq (h : DHouse) (hP : PartsR h) (k : Nat) (hk : k < 3) : F.spec_l13Answer h (k : Int) = some (answerOf h k) := by
  have hs := (hP.seats k hk).seat
  have hi := okF_small (good_ok.1 hs.tk.1)
  unfold F.spec_l13Answer answerOf
  rw [inb_nat (show k < h.2.2.2.1.length by have := hP.ns; omega), Int.toNat_natCast, l5Copy_eq (h.2.2.2.1.getD k noS).2.2.1 (by omega)]
  rfl
theorem implAnswer_eq (h : DHouse) (hz : zHouse h ≤ 1048576) (hH : HouseR h) (k : Nat) (hk : k < 3) : F.impl_Answer h (k : Int) = some (answerOf h k) := by
  have hs := (hH.parts.seats k hk).seat
  have hi := okF_small (good_ok.1 hs.tk.1)
  unfold F.impl_Answer answerOf
  rw [implHouse_dec h hz, decB_pos hH]
  simp only [Option.bind_some, within_eq, Bool.not_true, cond_false]
  rw [show inR 0 2 (k : Int) = true from inR_iff.2 ⟨by omega, by omega⟩, inb_nat (show k < h.2.2.2.1.length by have := hH.parts.ns; omega), Int.toNat_natCast, copySet_eq (h.2.2.2.1.getD k noS).2.2.1 (by omega)]
  rfl
theorem answer_same (h : DHouse) (a : Int) (hz : zHouse h ≤ 1048576) : ∃ r, F.spec_Answer h a = some r ∧ F.impl_Answer h a = some r ∧ zFrame r ≤ 1099511627776 := by
  by_cases hH : HouseR h
  case neg =>
    unfold F.spec_Answer F.impl_Answer
    rw [specHouse_dec h hz, implHouse_dec h hz, decB_neg hH]
    exact ⟨_, rfl, rfl, by simp [zFrame, zSpanS, zItem, zSketch, zIntS, zIntSS]⟩
  by_cases ha : 0 ≤ a ∧ a ≤ 2
  case neg =>
    unfold F.spec_Answer F.impl_Answer F.spec_l6Agent
    rw [specHouse_dec h hz, implHouse_dec h hz, decB_pos hH]
    simp only [Option.bind_some, l1In_eq, within_eq, Bool.not_true, cond_false]
    rw [show inR 0 2 a = false by rw [Bool.eq_false_iff]; exact fun q => ha (inR_iff.1 q)]
    exact ⟨_, rfl, rfl, by simp [zFrame, zSpanS, zItem, zSketch, zIntS, zIntSS]⟩
  obtain ⟨k, rfl⟩ : ∃ k : Nat, a = (k : Int) := ⟨a.toNat, by omega⟩
  refine ⟨_, ?_, implAnswer_eq h hz hH k (by omega), ?_⟩
  · unfold F.spec_Answer F.spec_l6Agent
    rw [specHouse_dec h hz, decB_pos hH]
    simp only [Option.bind_some, l1In_eq, Bool.not_true, cond_false]
    rw [show inR 0 2 (k : Int) = true from inR_iff.2 ⟨by omega, by omega⟩, l13Answer_eq h hH.parts k (by omega)]
    rfl
  · have hs := (hH.parts.seats k (by omega)).seat
    have hi := okF_small (good_ok.1 hs.tk.1)
    unfold answerOf
    simp only [zFrame, zSpanS, zItem, zSketch, zIntS, zIntSS, List.length_nil, List.map_nil, List.sum_nil]
    omega
/- IntS: how much is marked. -/

def sIntS (l : List Int) : Prop := l.length ≤ 1099511627776
def cIntS (l : List Int) : Nat := l.length
theorem smIntS {a : List Int} (h : zIntS a ≤ 1099511627776) : sIntS a := h
theorem czIntS (a : List Int) : cIntS a ≤ 10 * zIntS a := by unfold cIntS zIntS; omega
/- Conf: how much is marked. -/

def sConf (a : DConf) : Prop := sIntS a.2.2.2.1
def cConf (a : DConf) : Nat := cIntS a.2.2.2.1
theorem smConf {a : DConf} (h : zConf a ≤ 1099511627776) : sConf a := by
  unfold zConf at h
  exact smIntS (by omega)
theorem czConf (a : DConf) : cConf a ≤ 10 * zConf a := by
  unfold cConf zConf
  have h0 := czIntS a.2.2.2.1
  omega
/- SpanS: how much is marked. -/

def sSpanS (l : List DSpan) : Prop := l.length ≤ 1099511627776 ∧ ∀ x ∈ l, True
/-- What one of them bears. -/
def kSpan (a : DSpan) : Nat := 2
def cSpanS (l : List DSpan) : Nat := (l.map kSpan).sum
theorem smSpanS {a : List DSpan} (h : zSpanS a ≤ 1099511627776) : sSpanS a := ⟨h, fun _ _ => trivial⟩
theorem czSpanS (a : List DSpan) : cSpanS a ≤ 10 * zSpanS a := by
  unfold cSpanS zSpanS
  have := sum_le (f := kSpan) (g := fun _ => 0) (n := 2) (l := a) (fun x _ => by unfold kSpan; omega)
  have e : (a.map fun _ => 0).sum = 0 := by
    clear this
    induction a with
    | nil => rfl
    | cons x l ih => simp only [List.map_cons, List.sum_cons, ih]
  rw [e] at this
  omega
/- SeatS: how much is marked. -/

def sSeatS (l : List DSeat) : Prop := l.length ≤ 1099511627776 ∧ ∀ x ∈ l, sSpanS x.2.2.1
/-- What one of them bears. -/
def kSeat (a : DSeat) : Nat := 4 + cSpanS a.2.2.1
def cSeatS (l : List DSeat) : Nat := (l.map kSeat).sum
theorem smSeatS {a : List DSeat} (h : zSeatS a ≤ 1099511627776) : sSeatS a := by
  unfold zSeatS at h
  refine ⟨by omega, fun x hm => ?_⟩
  have hx : zSeat x ≤ 1099511627776 := by have := sum_mem (f := zSeat) hm; omega
  unfold zSeat at hx
  exact smSpanS (by omega)
theorem czSeatS (a : List DSeat) : cSeatS a ≤ 10 * zSeatS a := by
  unfold cSeatS zSeatS
  have := sum_le (f := kSeat) (g := zSeat) (n := 4) (l := a) (fun x _ => by
    unfold kSeat zSeat
    have h0 := czSpanS x.2.2.1
    omega)
  omega
/- IntSS: how much is marked. -/

def sIntSS (l : List (List Int)) : Prop := l.length ≤ 1099511627776 ∧ ∀ x ∈ l, sIntS x
def cIntSS (l : List (List Int)) : Nat := (l.map cIntS).sum
theorem smIntSS {a : List (List Int)} (h : zIntSS a ≤ 1099511627776) : sIntSS a := by
  unfold zIntSS at h
  exact ⟨by omega, fun x hm => smIntS (by have := sum_mem (f := zIntS) hm; omega)⟩
theorem czIntSS (a : List (List Int)) : cIntSS a ≤ 10 * zIntSS a := by
  unfold cIntSS zIntSS
  have := sum_le (f := cIntS) (g := zIntS) (n := 0) (l := a) (fun x _ => by have := czIntS x; omega)
  omega
/- EntryS: how much is marked. -/

def sEntryS (l : List DEntry) : Prop := l.length ≤ 1099511627776 ∧ ∀ x ∈ l, sSpanS x.2.2.1 ∧ sIntS x.2.2.2.1.2.2.2.2.1 ∧ sIntS x.2.2.2.1.2.2.2.2.2.1 ∧ sIntSS x.2.2.2.1.2.2.2.2.2.2.1
/-- What one of them bears. -/
def kEntry (a : DEntry) : Nat := 6 + cSpanS a.2.2.1 + cIntS a.2.2.2.1.2.2.2.2.1 + cIntS a.2.2.2.1.2.2.2.2.2.1 + cIntSS a.2.2.2.1.2.2.2.2.2.2.1
def cEntryS (l : List DEntry) : Nat := (l.map kEntry).sum
theorem smEntryS {a : List DEntry} (h : zEntryS a ≤ 1099511627776) : sEntryS a := by
  unfold zEntryS at h
  refine ⟨by omega, fun x hm => ?_⟩
  have hx : zEntry x ≤ 1099511627776 := by have := sum_mem (f := zEntry) hm; omega
  unfold zEntry zSketch at hx
  exact ⟨smSpanS (by omega), smIntS (by omega), smIntS (by omega), smIntSS (by omega)⟩
theorem czEntryS (a : List DEntry) : cEntryS a ≤ 10 * zEntryS a := by
  unfold cEntryS zEntryS
  have := sum_le (f := kEntry) (g := zEntry) (n := 6) (l := a) (fun x _ => by
    unfold kEntry zEntry zSketch
    have h0 := czSpanS x.2.2.1
    have h1 := czIntS x.2.2.2.1.2.2.2.2.1
    have h2 := czIntS x.2.2.2.1.2.2.2.2.2.1
    have h3 := czIntSS x.2.2.2.1.2.2.2.2.2.2.1
    omega)
  omega
/- RowS: how much is marked. -/

def sRowS (l : List DRow) : Prop := l.length ≤ 1099511627776 ∧ ∀ x ∈ l, sEntryS x.1
/-- What one of them bears. -/
def kRow (a : DRow) : Nat := cEntryS a.1
def cRowS (l : List DRow) : Nat := (l.map kRow).sum
theorem smRowS {a : List DRow} (h : zRowS a ≤ 1099511627776) : sRowS a := by
  unfold zRowS at h
  refine ⟨by omega, fun x hm => ?_⟩
  have hx : zRow x ≤ 1099511627776 := by have := sum_mem (f := zRow) hm; omega
  unfold zRow at hx
  exact smEntryS (by omega)
theorem czRowS (a : List DRow) : cRowS a ≤ 10 * zRowS a := by
  unfold cRowS zRowS
  have := sum_le (f := kRow) (g := zRow) (n := 0) (l := a) (fun x _ => by
    unfold kRow zRow
    have h0 := czEntryS x.1
    omega)
  omega
/- RowSS: how much is marked. -/

def sRowSS (l : List (List DRow)) : Prop := l.length ≤ 1099511627776 ∧ ∀ x ∈ l, sRowS x
def cRowSS (l : List (List DRow)) : Nat := (l.map cRowS).sum
theorem smRowSS {a : List (List DRow)} (h : zRowSS a ≤ 1099511627776) : sRowSS a := by
  unfold zRowSS at h
  exact ⟨by omega, fun x hm => smRowS (by have := sum_mem (f := zRowS) hm; omega)⟩
theorem czRowSS (a : List (List DRow)) : cRowSS a ≤ 10 * zRowSS a := by
  unfold cRowSS zRowSS
  have := sum_le (f := cRowS) (g := zRowS) (n := 0) (l := a) (fun x _ => by have := czRowS x; omega)
  omega
/- TurnS: how much is marked. -/

def sTurnS (l : List DTurn) : Prop := l.length ≤ 1099511627776 ∧ ∀ x ∈ l, sIntS x.2.2.1
/-- What one of them bears. -/
def kTurn (a : DTurn) : Nat := 2 + cIntS a.2.2.1
def cTurnS (l : List DTurn) : Nat := (l.map kTurn).sum
theorem smTurnS {a : List DTurn} (h : zTurnS a ≤ 1099511627776) : sTurnS a := by
  unfold zTurnS at h
  refine ⟨by omega, fun x hm => ?_⟩
  have hx : zTurn x ≤ 1099511627776 := by have := sum_mem (f := zTurn) hm; omega
  unfold zTurn at hx
  exact smIntS (by omega)
theorem czTurnS (a : List DTurn) : cTurnS a ≤ 10 * zTurnS a := by
  unfold cTurnS zTurnS
  have := sum_le (f := kTurn) (g := zTurn) (n := 2) (l := a) (fun x _ => by
    unfold kTurn zTurn
    have h0 := czIntS x.2.2.1
    omega)
  omega
/- OutS: how much is marked. -/

def sOutS (l : List DOut) : Prop := l.length ≤ 1099511627776 ∧ ∀ x ∈ l, sSpanS x.2.1.2.2.1 ∧ sIntS x.2.1.2.2.2.1.2.2.2.2.1 ∧ sIntS x.2.1.2.2.2.1.2.2.2.2.2.1 ∧ sIntSS x.2.1.2.2.2.1.2.2.2.2.2.2.1
/-- What one of them bears. -/
def kOut (a : DOut) : Nat := 7 + cSpanS a.2.1.2.2.1 + cIntS a.2.1.2.2.2.1.2.2.2.2.1 + cIntS a.2.1.2.2.2.1.2.2.2.2.2.1 + cIntSS a.2.1.2.2.2.1.2.2.2.2.2.2.1
def cOutS (l : List DOut) : Nat := (l.map kOut).sum
theorem smOutS {a : List DOut} (h : zOutS a ≤ 1099511627776) : sOutS a := by
  unfold zOutS at h
  refine ⟨by omega, fun x hm => ?_⟩
  have hx : zOut x ≤ 1099511627776 := by have := sum_mem (f := zOut) hm; omega
  unfold zOut zEntry zSketch at hx
  exact ⟨smSpanS (by omega), smIntS (by omega), smIntS (by omega), smIntSS (by omega)⟩
theorem czOutS (a : List DOut) : cOutS a ≤ 10 * zOutS a := by
  unfold cOutS zOutS
  have := sum_le (f := kOut) (g := zOut) (n := 7) (l := a) (fun x _ => by
    unfold kOut zOut zEntry zSketch
    have h0 := czSpanS x.2.1.2.2.1
    have h1 := czIntS x.2.1.2.2.2.1.2.2.2.2.1
    have h2 := czIntS x.2.1.2.2.2.1.2.2.2.2.2.1
    have h3 := czIntSS x.2.1.2.2.2.1.2.2.2.2.2.2.1
    omega)
  omega
/- House: how much is marked. -/

def sHouse (a : DHouse) : Prop := sConf a.1 ∧ sSeatS a.2.2.2.1 ∧ sRowSS a.2.2.2.2.1 ∧ sTurnS a.2.2.2.2.2.1 ∧ sEntryS a.2.2.2.2.2.2.2.1 ∧ sOutS a.2.2.2.2.2.2.2.2.1
def cHouse (a : DHouse) : Nat := cConf a.1 + cSeatS a.2.2.2.1 + cRowSS a.2.2.2.2.1 + cTurnS a.2.2.2.2.2.1 + cEntryS a.2.2.2.2.2.2.2.1 + cOutS a.2.2.2.2.2.2.2.2.1
theorem smHouse {a : DHouse} (h : zHouse a ≤ 1099511627776) : sHouse a := by
  unfold zHouse at h
  exact ⟨smConf (by omega), smSeatS (by omega), smRowSS (by omega), smTurnS (by omega), smEntryS (by omega), smOutS (by omega)⟩
theorem czHouse (a : DHouse) : cHouse a ≤ 10 * zHouse a := by
  unfold cHouse zHouse
  have h0 := czConf a.1
  have h1 := czSeatS a.2.2.2.1
  have h2 := czRowSS a.2.2.2.2.1
  have h3 := czTurnS a.2.2.2.2.2.1
  have h4 := czEntryS a.2.2.2.2.2.2.2.1
  have h5 := czOutS a.2.2.2.2.2.2.2.2.1
  omega
/- IntS: marked. -/

theorem maIntS (l : List Int) (k : Int) (hh : sIntS l) (h0 : 0 ≤ k) (h1 : k + (cIntS l : Int) ≤ 1000000000000000) : ∃ l', F.laws_markIntS l k = some (k + (cIntS l : Int), l') := by
  have h : l.length ≤ 1099511627776 := hh
  have hsum : (l.map fun _ => 1).sum = cIntS l := by
    unfold cIntS
    clear hh h h1
    induction l with
    | nil => rfl
    | cons x l ih => simp only [List.map_cons, List.sum_cons, ih, List.length_cons]; omega
  obtain ⟨l', g1⟩ := loop_mark1 (mstep := F.laws_markIntS.s2) 0 (fun _ => 1) 1000000000000000 l k h0 (by rw [hsum]; exact h1) (fun x hx k hk hB => by
    refine ⟨k, fun i m hi hl hx => ?_⟩
    · unfold F.laws_markIntS.s2
      simp only
      rw [lt_len hi]
      simp only [cond_true, inb_nat hi, chk_true, Int.toNat_natCast, w64_nat (show i < 9223372036854775807 by omega), w64_id (x := k + 1) (by omega) (by omega)]
      rfl) (fun m k => by
    unfold F.laws_markIntS.s2
    simp only [ge_len, cond_false])
  rw [hsum] at g1
  refine ⟨l', ?_⟩
  unfold F.laws_markIntS
  simp only [g1, afterO]
/- Conf: marked. -/

theorem maConf (a : DConf) (k : Int) (hh : sConf a) (h0 : 0 ≤ k) (h1 : k + (cConf a : Int) ≤ 1000000000000000) : ∃ a', F.laws_markConf a k = some (k + (cConf a : Int), a') := by
  have hc : cConf a = cIntS a.2.2.2.1 := rfl
  unfold sConf at hh
  obtain ⟨l0, a0⟩ := maIntS a.2.2.2.1 (k) hh (by omega) (by omega)
  have ho : k + (cIntS a.2.2.2.1 : Int) = k + (cConf a : Int) := by omega
  refine ⟨_, by unfold F.laws_markConf; simp only [a0, Option.bind_some]; rw [ho]⟩
/- SpanS: marked. -/

theorem maSpanS (l : List DSpan) (k : Int) (hh : sSpanS l) (h0 : 0 ≤ k) (h1 : k + (cSpanS l : Int) ≤ 1000000000000000) : ∃ l', F.laws_markSpanS l k = some (k + (cSpanS l : Int), l') := by
  obtain ⟨h, hs⟩ := hh
  obtain ⟨l', g1⟩ := loop_mark1 (mstep := F.laws_markSpanS.s2) (0, 0, ()) kSpan 1000000000000000 l k h0 h1 (fun x hx k hk hB => by
    have hc : kSpan x = 2 := rfl
    have ho : k + 1 + 1 = k + (kSpan x : Int) := by omega
    refine ⟨(k, k + 1, ()), fun i m hi hl hx => ?_⟩
    · unfold F.laws_markSpanS.s2
      simp only
      rw [lt_len hi]
      simp only [cond_true, inb_nat hi, chk_true, Int.toNat_natCast, Option.bind_some, List.length_set, getD_set_self hi, hx, List.set_set, w64_nat (show i < 9223372036854775807 by omega), w64_id (x := k + 1) (by omega) (by omega), w64_id (x := k + 1 + 1) (by omega) (by omega)]
      rw [ho]) (fun m k => by
    unfold F.laws_markSpanS.s2
    simp only [ge_len, cond_false])
  refine ⟨l', ?_⟩
  unfold F.laws_markSpanS
  simp only [g1, afterO]; rfl
/- SeatS: marked. -/

theorem maSeatS (l : List DSeat) (k : Int) (hh : sSeatS l) (h0 : 0 ≤ k) (h1 : k + (cSeatS l : Int) ≤ 1000000000000000) : ∃ l', F.laws_markSeatS l k = some (k + (cSeatS l : Int), l') := by
  obtain ⟨h, hs⟩ := hh
  obtain ⟨l', g1⟩ := loop_mark1 (mstep := F.laws_markSeatS.s2) (0, 0, ([] : List DSpan), 0, 0, ()) kSeat 1000000000000000 l k h0 h1 (fun x hx k hk hB => by
    have hc : kSeat x = 4 + cSpanS x.2.2.1 := rfl
    obtain ⟨l1, a1⟩ := maSpanS x.2.2.1 (k + 1 + 1) (hs x hx) (by omega) (by omega)
    have ho : k + 1 + 1 + (cSpanS x.2.2.1 : Int) + 1 + 1 = k + (kSeat x : Int) := by omega
    refine ⟨(k, k + 1, l1, k + 1 + 1 + (cSpanS x.2.2.1 : Int), k + 1 + 1 + (cSpanS x.2.2.1 : Int) + 1, ()), fun i m hi hl hx => ?_⟩
    · unfold F.laws_markSeatS.s2
      simp only
      rw [lt_len hi]
      simp only [cond_true, inb_nat hi, chk_true, Int.toNat_natCast, Option.bind_some, List.length_set, getD_set_self hi, hx, List.set_set, w64_nat (show i < 9223372036854775807 by omega), w64_id (x := k + 1) (by omega) (by omega), w64_id (x := k + 1 + 1) (by omega) (by omega), w64_id (x := k + 1 + 1 + (cSpanS x.2.2.1 : Int) + 1) (by omega) (by omega), w64_id (x := k + 1 + 1 + (cSpanS x.2.2.1 : Int) + 1 + 1) (by omega) (by omega), a1]
      rw [ho]) (fun m k => by
    unfold F.laws_markSeatS.s2
    simp only [ge_len, cond_false])
  refine ⟨l', ?_⟩
  unfold F.laws_markSeatS
  simp only [g1, afterO]; rfl
/- IntSS: marked. -/

theorem maIntSS (l : List (List Int)) (k : Int) (hh : sIntSS l) (h0 : 0 ≤ k) (h1 : k + (cIntSS l : Int) ≤ 1000000000000000) : ∃ l', F.laws_markIntSS l k = some (k + (cIntSS l : Int), l') := by
  obtain ⟨h, hs⟩ := hh
  obtain ⟨l', g1⟩ := loop_mark1 (mstep := F.laws_markIntSS.s2) ([] : List Int) cIntS 1000000000000000 l k h0 h1 (fun x hx k hk hB => by
    obtain ⟨x', a1⟩ := maIntS x k (hs x hx) hk hB
    refine ⟨x', fun i m hi hl hx => ?_⟩
    · unfold F.laws_markIntSS.s2
      simp only
      rw [lt_len hi]
      simp only [cond_true, inb_nat hi, chk_true, Int.toNat_natCast, hx, a1, Option.bind_some, w64_nat (show i < 9223372036854775807 by omega)]) (fun m k => by
    unfold F.laws_markIntSS.s2
    simp only [ge_len, cond_false])
  refine ⟨l', ?_⟩
  unfold F.laws_markIntSS
  simp only [g1, afterO]; rfl
/- EntryS: marked. -/

theorem maEntryS (l : List DEntry) (k : Int) (hh : sEntryS l) (h0 : 0 ≤ k) (h1 : k + (cEntryS l : Int) ≤ 1000000000000000) : ∃ l', F.laws_markEntryS l k = some (k + (cEntryS l : Int), l') := by
  obtain ⟨h, hs⟩ := hh
  obtain ⟨l', g1⟩ := loop_mark1 (mstep := F.laws_markEntryS.s2) (0, 0, ([] : List DSpan), (0, 0, 0, 0, ([] : List Int), ([] : List Int), ([] : List (List Int)), ()), ()) kEntry 1000000000000000 l k h0 h1 (fun x hx k hk hB => by
    have hc : kEntry x = 6 + cSpanS x.2.2.1 + cIntS x.2.2.2.1.2.2.2.2.1 + cIntS x.2.2.2.1.2.2.2.2.2.1 + cIntSS x.2.2.2.1.2.2.2.2.2.2.1 := rfl
    obtain ⟨l1, a1⟩ := maSpanS x.2.2.1 (k + 1 + 1) (hs x hx).1 (by omega) (by omega)
    obtain ⟨l2, a2⟩ := maIntS x.2.2.2.1.2.2.2.2.1 (k + 1 + 1 + (cSpanS x.2.2.1 : Int) + 1 + 1 + 1 + 1) (hs x hx).2.1 (by omega) (by omega)
    obtain ⟨l3, a3⟩ := maIntS x.2.2.2.1.2.2.2.2.2.1 (k + 1 + 1 + (cSpanS x.2.2.1 : Int) + 1 + 1 + 1 + 1 + (cIntS x.2.2.2.1.2.2.2.2.1 : Int)) (hs x hx).2.2.1 (by omega) (by omega)
    obtain ⟨l4, a4⟩ := maIntSS x.2.2.2.1.2.2.2.2.2.2.1 (k + 1 + 1 + (cSpanS x.2.2.1 : Int) + 1 + 1 + 1 + 1 + (cIntS x.2.2.2.1.2.2.2.2.1 : Int) + (cIntS x.2.2.2.1.2.2.2.2.2.1 : Int)) (hs x hx).2.2.2 (by omega) (by omega)
    have ho : k + 1 + 1 + (cSpanS x.2.2.1 : Int) + 1 + 1 + 1 + 1 + (cIntS x.2.2.2.1.2.2.2.2.1 : Int) + (cIntS x.2.2.2.1.2.2.2.2.2.1 : Int) + (cIntSS x.2.2.2.1.2.2.2.2.2.2.1 : Int) = k + (kEntry x : Int) := by omega
    refine ⟨(k, k + 1, l1, (k + 1 + 1 + (cSpanS x.2.2.1 : Int), k + 1 + 1 + (cSpanS x.2.2.1 : Int) + 1, k + 1 + 1 + (cSpanS x.2.2.1 : Int) + 1 + 1, k + 1 + 1 + (cSpanS x.2.2.1 : Int) + 1 + 1 + 1, l2, l3, l4, ()), ()), fun i m hi hl hx => ?_⟩
    · unfold F.laws_markEntryS.s2
      simp only
      rw [lt_len hi]
      simp only [cond_true, inb_nat hi, chk_true, Int.toNat_natCast, Option.bind_some, List.length_set, getD_set_self hi, hx, List.set_set, w64_nat (show i < 9223372036854775807 by omega), w64_id (x := k + 1) (by omega) (by omega), w64_id (x := k + 1 + 1) (by omega) (by omega), w64_id (x := k + 1 + 1 + (cSpanS x.2.2.1 : Int) + 1) (by omega) (by omega), w64_id (x := k + 1 + 1 + (cSpanS x.2.2.1 : Int) + 1 + 1) (by omega) (by omega), w64_id (x := k + 1 + 1 + (cSpanS x.2.2.1 : Int) + 1 + 1 + 1) (by omega) (by omega), w64_id (x := k + 1 + 1 + (cSpanS x.2.2.1 : Int) + 1 + 1 + 1 + 1) (by omega) (by omega), a1, a2, a3, a4]
      rw [ho]) (fun m k => by
    unfold F.laws_markEntryS.s2
    simp only [ge_len, cond_false])
  refine ⟨l', ?_⟩
  unfold F.laws_markEntryS
  simp only [g1, afterO]; rfl
/- RowS: marked. -/

theorem maRowS (l : List DRow) (k : Int) (hh : sRowS l) (h0 : 0 ≤ k) (h1 : k + (cRowS l : Int) ≤ 1000000000000000) : ∃ l', F.laws_markRowS l k = some (k + (cRowS l : Int), l') := by
  obtain ⟨h, hs⟩ := hh
  obtain ⟨l', g1⟩ := loop_mark1 (mstep := F.laws_markRowS.s2) (([] : List DEntry), ()) kRow 1000000000000000 l k h0 h1 (fun x hx k hk hB => by
    have hc : kRow x = cEntryS x.1 := rfl
    obtain ⟨l1, a1⟩ := maEntryS x.1 (k) (hs x hx) (by omega) (by omega)
    have ho : k + (cEntryS x.1 : Int) = k + (kRow x : Int) := by omega
    refine ⟨(l1, ()), fun i m hi hl hx => ?_⟩
    · unfold F.laws_markRowS.s2
      simp only
      rw [lt_len hi]
      simp only [cond_true, inb_nat hi, chk_true, Int.toNat_natCast, Option.bind_some, List.length_set, getD_set_self hi, hx, List.set_set, w64_nat (show i < 9223372036854775807 by omega), a1]
      rw [ho]) (fun m k => by
    unfold F.laws_markRowS.s2
    simp only [ge_len, cond_false])
  refine ⟨l', ?_⟩
  unfold F.laws_markRowS
  simp only [g1, afterO]; rfl
/- RowSS: marked. -/

theorem maRowSS (l : List (List DRow)) (k : Int) (hh : sRowSS l) (h0 : 0 ≤ k) (h1 : k + (cRowSS l : Int) ≤ 1000000000000000) : ∃ l', F.laws_markRowSS l k = some (k + (cRowSS l : Int), l') := by
  obtain ⟨h, hs⟩ := hh
  obtain ⟨l', g1⟩ := loop_mark1 (mstep := F.laws_markRowSS.s2) ([] : List DRow) cRowS 1000000000000000 l k h0 h1 (fun x hx k hk hB => by
    obtain ⟨x', a1⟩ := maRowS x k (hs x hx) hk hB
    refine ⟨x', fun i m hi hl hx => ?_⟩
    · unfold F.laws_markRowSS.s2
      simp only
      rw [lt_len hi]
      simp only [cond_true, inb_nat hi, chk_true, Int.toNat_natCast, hx, a1, Option.bind_some, w64_nat (show i < 9223372036854775807 by omega)]) (fun m k => by
    unfold F.laws_markRowSS.s2
    simp only [ge_len, cond_false])
  refine ⟨l', ?_⟩
  unfold F.laws_markRowSS
  simp only [g1, afterO]; rfl
/- TurnS: marked. -/

theorem maTurnS (l : List DTurn) (k : Int) (hh : sTurnS l) (h0 : 0 ≤ k) (h1 : k + (cTurnS l : Int) ≤ 1000000000000000) : ∃ l', F.laws_markTurnS l k = some (k + (cTurnS l : Int), l') := by
  obtain ⟨h, hs⟩ := hh
  obtain ⟨l', g1⟩ := loop_mark1 (mstep := F.laws_markTurnS.s2) (0, false, ([] : List Int), ()) kTurn 1000000000000000 l k h0 h1 (fun x hx k hk hB => by
    have hc : kTurn x = 2 + cIntS x.2.2.1 := rfl
    obtain ⟨l1, a1⟩ := maIntS x.2.2.1 (k + 1 + 1) (hs x hx) (by omega) (by omega)
    have ho : k + 1 + 1 + (cIntS x.2.2.1 : Int) = k + (kTurn x : Int) := by omega
    refine ⟨(k, Int.tmod (k + 1) 3 == 0, l1, ()), fun i m hi hl hx => ?_⟩
    · unfold F.laws_markTurnS.s2
      simp only
      rw [lt_len hi]
      simp only [cond_true, inb_nat hi, chk_true, Int.toNat_natCast, Option.bind_some, List.length_set, getD_set_self hi, hx, List.set_set, w64_nat (show i < 9223372036854775807 by omega), w64_id (x := k + 1) (by omega) (by omega), w64_id (x := k + 1 + 1) (by omega) (by omega), a1]
      rw [ho]) (fun m k => by
    unfold F.laws_markTurnS.s2
    simp only [ge_len, cond_false])
  refine ⟨l', ?_⟩
  unfold F.laws_markTurnS
  simp only [g1, afterO]; rfl
/- OutS: marked. -/

theorem maOutS (l : List DOut) (k : Int) (hh : sOutS l) (h0 : 0 ≤ k) (h1 : k + (cOutS l : Int) ≤ 1000000000000000) : ∃ l', F.laws_markOutS l k = some (k + (cOutS l : Int), l') := by
  obtain ⟨h, hs⟩ := hh
  obtain ⟨l', g1⟩ := loop_mark1 (mstep := F.laws_markOutS.s2) (0, (0, 0, ([] : List DSpan), (0, 0, 0, 0, ([] : List Int), ([] : List Int), ([] : List (List Int)), ()), ()), ()) kOut 1000000000000000 l k h0 h1 (fun x hx k hk hB => by
    have hc : kOut x = 7 + cSpanS x.2.1.2.2.1 + cIntS x.2.1.2.2.2.1.2.2.2.2.1 + cIntS x.2.1.2.2.2.1.2.2.2.2.2.1 + cIntSS x.2.1.2.2.2.1.2.2.2.2.2.2.1 := rfl
    obtain ⟨l1, a1⟩ := maSpanS x.2.1.2.2.1 (k + 1 + 1 + 1) (hs x hx).1 (by omega) (by omega)
    obtain ⟨l2, a2⟩ := maIntS x.2.1.2.2.2.1.2.2.2.2.1 (k + 1 + 1 + 1 + (cSpanS x.2.1.2.2.1 : Int) + 1 + 1 + 1 + 1) (hs x hx).2.1 (by omega) (by omega)
    obtain ⟨l3, a3⟩ := maIntS x.2.1.2.2.2.1.2.2.2.2.2.1 (k + 1 + 1 + 1 + (cSpanS x.2.1.2.2.1 : Int) + 1 + 1 + 1 + 1 + (cIntS x.2.1.2.2.2.1.2.2.2.2.1 : Int)) (hs x hx).2.2.1 (by omega) (by omega)
    obtain ⟨l4, a4⟩ := maIntSS x.2.1.2.2.2.1.2.2.2.2.2.2.1 (k + 1 + 1 + 1 + (cSpanS x.2.1.2.2.1 : Int) + 1 + 1 + 1 + 1 + (cIntS x.2.1.2.2.2.1.2.2.2.2.1 : Int) + (cIntS x.2.1.2.2.2.1.2.2.2.2.2.1 : Int)) (hs x hx).2.2.2 (by omega) (by omega)
    have ho : k + 1 + 1 + 1 + (cSpanS x.2.1.2.2.1 : Int) + 1 + 1 + 1 + 1 + (cIntS x.2.1.2.2.2.1.2.2.2.2.1 : Int) + (cIntS x.2.1.2.2.2.1.2.2.2.2.2.1 : Int) + (cIntSS x.2.1.2.2.2.1.2.2.2.2.2.2.1 : Int) = k + (kOut x : Int) := by omega
    refine ⟨(k, (k + 1, k + 1 + 1, l1, (k + 1 + 1 + 1 + (cSpanS x.2.1.2.2.1 : Int), k + 1 + 1 + 1 + (cSpanS x.2.1.2.2.1 : Int) + 1, k + 1 + 1 + 1 + (cSpanS x.2.1.2.2.1 : Int) + 1 + 1, k + 1 + 1 + 1 + (cSpanS x.2.1.2.2.1 : Int) + 1 + 1 + 1, l2, l3, l4, ()), ()), ()), fun i m hi hl hx => ?_⟩
    · unfold F.laws_markOutS.s2
      simp only
      rw [lt_len hi]
      simp only [cond_true, inb_nat hi, chk_true, Int.toNat_natCast, Option.bind_some, List.length_set, getD_set_self hi, hx, List.set_set, w64_nat (show i < 9223372036854775807 by omega), w64_id (x := k + 1) (by omega) (by omega), w64_id (x := k + 1 + 1) (by omega) (by omega), w64_id (x := k + 1 + 1 + 1) (by omega) (by omega), w64_id (x := k + 1 + 1 + 1 + (cSpanS x.2.1.2.2.1 : Int) + 1) (by omega) (by omega), w64_id (x := k + 1 + 1 + 1 + (cSpanS x.2.1.2.2.1 : Int) + 1 + 1) (by omega) (by omega), w64_id (x := k + 1 + 1 + 1 + (cSpanS x.2.1.2.2.1 : Int) + 1 + 1 + 1) (by omega) (by omega), w64_id (x := k + 1 + 1 + 1 + (cSpanS x.2.1.2.2.1 : Int) + 1 + 1 + 1 + 1) (by omega) (by omega), a1, a2, a3, a4]
      rw [ho]) (fun m k => by
    unfold F.laws_markOutS.s2
    simp only [ge_len, cond_false])
  refine ⟨l', ?_⟩
  unfold F.laws_markOutS
  simp only [g1, afterO]; rfl
/- House: marked. -/

theorem maHouse (a : DHouse) (k : Int) (hh : sHouse a) (h0 : 0 ≤ k) (h1 : k + (cHouse a : Int) ≤ 1000000000000000) : ∃ a', F.laws_markHouse a k = some (k + (cHouse a : Int), a') := by
  have hc : cHouse a = cConf a.1 + cSeatS a.2.2.2.1 + cRowSS a.2.2.2.2.1 + cTurnS a.2.2.2.2.2.1 + cEntryS a.2.2.2.2.2.2.2.1 + cOutS a.2.2.2.2.2.2.2.2.1 := rfl
  unfold sHouse at hh
  obtain ⟨l0, a0⟩ := maConf a.1 (k) hh.1 (by omega) (by omega)
  obtain ⟨l1, a1⟩ := maSeatS a.2.2.2.1 (k + (cConf a.1 : Int)) hh.2.1 (by omega) (by omega)
  obtain ⟨l2, a2⟩ := maRowSS a.2.2.2.2.1 (k + (cConf a.1 : Int) + (cSeatS a.2.2.2.1 : Int)) hh.2.2.1 (by omega) (by omega)
  obtain ⟨l3, a3⟩ := maTurnS a.2.2.2.2.2.1 (k + (cConf a.1 : Int) + (cSeatS a.2.2.2.1 : Int) + (cRowSS a.2.2.2.2.1 : Int)) hh.2.2.2.1 (by omega) (by omega)
  obtain ⟨l4, a4⟩ := maEntryS a.2.2.2.2.2.2.2.1 (k + (cConf a.1 : Int) + (cSeatS a.2.2.2.1 : Int) + (cRowSS a.2.2.2.2.1 : Int) + (cTurnS a.2.2.2.2.2.1 : Int)) hh.2.2.2.2.1 (by omega) (by omega)
  obtain ⟨l5, a5⟩ := maOutS a.2.2.2.2.2.2.2.2.1 (k + (cConf a.1 : Int) + (cSeatS a.2.2.2.1 : Int) + (cRowSS a.2.2.2.2.1 : Int) + (cTurnS a.2.2.2.2.2.1 : Int) + (cEntryS a.2.2.2.2.2.2.2.1 : Int)) hh.2.2.2.2.2 (by omega) (by omega)
  have ho : k + (cConf a.1 : Int) + (cSeatS a.2.2.2.1 : Int) + (cRowSS a.2.2.2.2.1 : Int) + (cTurnS a.2.2.2.2.2.1 : Int) + (cEntryS a.2.2.2.2.2.2.2.1 : Int) + (cOutS a.2.2.2.2.2.2.2.2.1 : Int) = k + (cHouse a : Int) := by omega
  refine ⟨_, by unfold F.laws_markHouse; simp only [a0, a1, a2, a3, a4, a5, Option.bind_some]; rw [ho]⟩
/- Sketch: how much is marked. -/

def sSketch (a : DSketch) : Prop := sIntS a.2.2.2.2.1 ∧ sIntS a.2.2.2.2.2.1 ∧ sIntSS a.2.2.2.2.2.2.1
def cSketch (a : DSketch) : Nat := cIntS a.2.2.2.2.1 + cIntS a.2.2.2.2.2.1 + cIntSS a.2.2.2.2.2.2.1
theorem smSketch {a : DSketch} (h : zSketch a ≤ 1099511627776) : sSketch a := by
  unfold zSketch at h
  exact ⟨smIntS (by omega), smIntS (by omega), smIntSS (by omega)⟩
theorem czSketch (a : DSketch) : cSketch a ≤ 10 * zSketch a := by
  unfold cSketch zSketch
  have h0 := czIntS a.2.2.2.2.1
  have h1 := czIntS a.2.2.2.2.2.1
  have h2 := czIntSS a.2.2.2.2.2.2.1
  omega
/- Item: how much is marked. -/

def sItem (a : DItem) : Prop := sSketch a.2.2.2.2.1
def cItem (a : DItem) : Nat := cSketch a.2.2.2.2.1
theorem smItem {a : DItem} (h : zItem a ≤ 1099511627776) : sItem a := by
  unfold zItem at h
  exact smSketch (by omega)
theorem czItem (a : DItem) : cItem a ≤ 10 * zItem a := by
  unfold cItem zItem
  have h0 := czSketch a.2.2.2.2.1
  omega
/- Frame: how much is marked. -/

def sFrame (a : DFrame) : Prop := sSpanS a.2.2.2.2.1 ∧ sItem a.2.2.2.2.2.1
def cFrame (a : DFrame) : Nat := cSpanS a.2.2.2.2.1 + cItem a.2.2.2.2.2.1
theorem smFrame {a : DFrame} (h : zFrame a ≤ 1099511627776) : sFrame a := by
  unfold zFrame at h
  exact ⟨smSpanS (by omega), smItem (by omega)⟩
theorem czFrame (a : DFrame) : cFrame a ≤ 10 * zFrame a := by
  unfold cFrame zFrame
  have h0 := czSpanS a.2.2.2.2.1
  have h1 := czItem a.2.2.2.2.2.1
  omega
/- SpanS: marked and held. -/

theorem mhSpanS (l : List DSpan) (k : Int) (hh : sSpanS l) (h0 : 0 ≤ k) (h1 : k + (cSpanS l : Int) ≤ 1000000000000000) : ∃ l', F.laws_markSpanS l k = some (k + (cSpanS l : Int), l') ∧ F.laws_heldSpanS l' k = some (k + (cSpanS l : Int)) := by
  obtain ⟨h, hs⟩ := hh
  obtain ⟨l', g1, g2⟩ := loop_mark (mstep := F.laws_markSpanS.s2) (hstep := F.laws_heldSpanS.s2) (0, 0, ()) kSpan 1000000000000000 l k h0 h1 (fun x hx k hk hB => by
    have hc : kSpan x = 2 := rfl
    have ho : k + 1 + 1 = k + (kSpan x : Int) := by omega
    refine ⟨(k, k + 1, ()), fun i m hi hl hx => ?_, fun i m hi hl hx => ?_⟩
    · unfold F.laws_markSpanS.s2
      simp only
      rw [lt_len hi]
      simp only [cond_true, inb_nat hi, chk_true, Int.toNat_natCast, Option.bind_some, List.length_set, getD_set_self hi, hx, List.set_set, w64_nat (show i < 9223372036854775807 by omega), w64_id (x := k + 1) (by omega) (by omega), w64_id (x := k + 1 + 1) (by omega) (by omega)]
      rw [ho]
    · unfold F.laws_heldSpanS.s2
      simp only
      rw [lt_len hi]
      simp only [cond_true, cond_false, inb_nat hi, chk_true, Int.toNat_natCast, Option.bind_some, hx, bne_self_eq_false, beq_self_eq_true, Bool.not_true, w64_nat (show i < 9223372036854775807 by omega), w64_id (x := k + 1) (by omega) (by omega), w64_id (x := k + 1 + 1) (by omega) (by omega)]
      rw [ho]) (fun m k => by
    unfold F.laws_markSpanS.s2
    simp only [ge_len, cond_false]) (fun m k => by
    unfold F.laws_heldSpanS.s2
    simp only [ge_len, cond_false])
  refine ⟨l', ?_, ?_⟩
  · unfold F.laws_markSpanS
    simp only [g1, afterO]; rfl
  · unfold F.laws_heldSpanS
    simp only [g2, afterO]; rfl
/- IntS: marked and held. -/

theorem mhIntS (l : List Int) (k : Int) (hh : sIntS l) (h0 : 0 ≤ k) (h1 : k + (cIntS l : Int) ≤ 1000000000000000) : ∃ l', F.laws_markIntS l k = some (k + (cIntS l : Int), l') ∧ F.laws_heldIntS l' k = some (k + (cIntS l : Int)) := by
  have h : l.length ≤ 1099511627776 := hh
  have hsum : (l.map fun _ => 1).sum = cIntS l := by
    unfold cIntS
    clear hh h h1
    induction l with
    | nil => rfl
    | cons x l ih => simp only [List.map_cons, List.sum_cons, ih, List.length_cons]; omega
  obtain ⟨l', g1, g2⟩ := loop_mark (mstep := F.laws_markIntS.s2) (hstep := F.laws_heldIntS.s2) 0 (fun _ => 1) 1000000000000000 l k h0 (by rw [hsum]; exact h1) (fun x hx k hk hB => by
    refine ⟨k, fun i m hi hl hx => ?_, fun i m hi hl hx => ?_⟩
    · unfold F.laws_markIntS.s2
      simp only
      rw [lt_len hi]
      simp only [cond_true, inb_nat hi, chk_true, Int.toNat_natCast, w64_nat (show i < 9223372036854775807 by omega), w64_id (x := k + 1) (by omega) (by omega)]
      rfl
    · unfold F.laws_heldIntS.s2
      simp only
      rw [lt_len hi]
      simp only [cond_true, cond_false, inb_nat hi, chk_true, Int.toNat_natCast, hx, bne_self_eq_false, w64_nat (show i < 9223372036854775807 by omega), w64_id (x := k + 1) (by omega) (by omega)]
      rfl) (fun m k => by
    unfold F.laws_markIntS.s2
    simp only [ge_len, cond_false]) (fun m k => by
    unfold F.laws_heldIntS.s2
    simp only [ge_len, cond_false])
  rw [hsum] at g1 g2
  refine ⟨l', ?_, ?_⟩
  · unfold F.laws_markIntS
    simp only [g1, afterO]
  · unfold F.laws_heldIntS
    simp only [g2, afterO]
/- IntSS: marked and held. -/

theorem mhIntSS (l : List (List Int)) (k : Int) (hh : sIntSS l) (h0 : 0 ≤ k) (h1 : k + (cIntSS l : Int) ≤ 1000000000000000) : ∃ l', F.laws_markIntSS l k = some (k + (cIntSS l : Int), l') ∧ F.laws_heldIntSS l' k = some (k + (cIntSS l : Int)) := by
  obtain ⟨h, hs⟩ := hh
  obtain ⟨l', g1, g2⟩ := loop_mark (mstep := F.laws_markIntSS.s2) (hstep := F.laws_heldIntSS.s2) ([] : List Int) cIntS 1000000000000000 l k h0 h1 (fun x hx k hk hB => by
    obtain ⟨x', a1, b1⟩ := mhIntS x k (hs x hx) hk hB
    refine ⟨x', fun i m hi hl hx => ?_, fun i m hi hl hx => ?_⟩
    · unfold F.laws_markIntSS.s2
      simp only
      rw [lt_len hi]
      simp only [cond_true, inb_nat hi, chk_true, Int.toNat_natCast, hx, a1, Option.bind_some, w64_nat (show i < 9223372036854775807 by omega)]
    · unfold F.laws_heldIntSS.s2
      simp only
      rw [lt_len hi]
      simp only [cond_true, inb_nat hi, chk_true, Int.toNat_natCast, hx, b1, Option.bind_some, w64_nat (show i < 9223372036854775807 by omega), show decide (k + (cIntS x : Int) < 0) = false from decide_eq_false (by omega), cond_false]) (fun m k => by
    unfold F.laws_markIntSS.s2
    simp only [ge_len, cond_false]) (fun m k => by
    unfold F.laws_heldIntSS.s2
    simp only [ge_len, cond_false])
  refine ⟨l', ?_, ?_⟩
  · unfold F.laws_markIntSS
    simp only [g1, afterO]; rfl
  · unfold F.laws_heldIntSS
    simp only [g2, afterO]; rfl
/- Sketch: marked and held. -/

theorem mhSketch (a : DSketch) (k : Int) (hh : sSketch a) (h0 : 0 ≤ k) (h1 : k + (cSketch a : Int) ≤ 1000000000000000) : ∃ a', F.laws_markSketch a k = some (k + (cSketch a : Int), a') ∧ F.laws_heldSketch a' k = some (k + (cSketch a : Int)) := by
  have hc : cSketch a = cIntS a.2.2.2.2.1 + cIntS a.2.2.2.2.2.1 + cIntSS a.2.2.2.2.2.2.1 := rfl
  unfold sSketch at hh
  obtain ⟨l0, a0, b0⟩ := mhIntS a.2.2.2.2.1 (k) hh.1 (by omega) (by omega)
  obtain ⟨l1, a1, b1⟩ := mhIntS a.2.2.2.2.2.1 (k + (cIntS a.2.2.2.2.1 : Int)) hh.2.1 (by omega) (by omega)
  obtain ⟨l2, a2, b2⟩ := mhIntSS a.2.2.2.2.2.2.1 (k + (cIntS a.2.2.2.2.1 : Int) + (cIntS a.2.2.2.2.2.1 : Int)) hh.2.2 (by omega) (by omega)
  have ho : k + (cIntS a.2.2.2.2.1 : Int) + (cIntS a.2.2.2.2.2.1 : Int) + (cIntSS a.2.2.2.2.2.2.1 : Int) = k + (cSketch a : Int) := by omega
  refine ⟨_, by unfold F.laws_markSketch; simp only [a0, a1, a2, Option.bind_some]; rw [ho], ?_⟩
  unfold F.laws_heldSketch
  simp only [b0, show decide (k + (cIntS a.2.2.2.2.1 : Int) < 0) = false from decide_eq_false (by omega), b1, show decide (k + (cIntS a.2.2.2.2.1 : Int) + (cIntS a.2.2.2.2.2.1 : Int) < 0) = false from decide_eq_false (by omega), b2, show decide (k + (cIntS a.2.2.2.2.1 : Int) + (cIntS a.2.2.2.2.2.1 : Int) + (cIntSS a.2.2.2.2.2.2.1 : Int) < 0) = false from decide_eq_false (by omega), Option.bind_some, cond_false]
  rw [ho]
/- Item: marked and held. -/

theorem mhItem (a : DItem) (k : Int) (hh : sItem a) (h0 : 0 ≤ k) (h1 : k + (cItem a : Int) ≤ 1000000000000000) : ∃ a', F.laws_markItem a k = some (k + (cItem a : Int), a') ∧ F.laws_heldItem a' k = some (k + (cItem a : Int)) := by
  have hc : cItem a = cSketch a.2.2.2.2.1 := rfl
  unfold sItem at hh
  obtain ⟨l0, a0, b0⟩ := mhSketch a.2.2.2.2.1 (k) hh (by omega) (by omega)
  have ho : k + (cSketch a.2.2.2.2.1 : Int) = k + (cItem a : Int) := by omega
  refine ⟨_, by unfold F.laws_markItem; simp only [a0, Option.bind_some]; rw [ho], ?_⟩
  unfold F.laws_heldItem
  simp only [b0, show decide (k + (cSketch a.2.2.2.2.1 : Int) < 0) = false from decide_eq_false (by omega), Option.bind_some, cond_false]
  rw [ho]
/- Frame: marked and held. -/

theorem mhFrame (a : DFrame) (k : Int) (hh : sFrame a) (h0 : 0 ≤ k) (h1 : k + (cFrame a : Int) ≤ 1000000000000000) : ∃ a', F.laws_markFrame a k = some (k + (cFrame a : Int), a') ∧ F.laws_heldFrame a' k = some (k + (cFrame a : Int)) := by
  have hc : cFrame a = cSpanS a.2.2.2.2.1 + cItem a.2.2.2.2.2.1 := rfl
  unfold sFrame at hh
  obtain ⟨l0, a0, b0⟩ := mhSpanS a.2.2.2.2.1 (k) hh.1 (by omega) (by omega)
  obtain ⟨l1, a1, b1⟩ := mhItem a.2.2.2.2.2.1 (k + (cSpanS a.2.2.2.2.1 : Int)) hh.2 (by omega) (by omega)
  have ho : k + (cSpanS a.2.2.2.2.1 : Int) + (cItem a.2.2.2.2.2.1 : Int) = k + (cFrame a : Int) := by omega
  refine ⟨_, by unfold F.laws_markFrame; simp only [a0, a1, Option.bind_some]; rw [ho], ?_⟩
  unfold F.laws_heldFrame
  simp only [b0, show decide (k + (cSpanS a.2.2.2.2.1 : Int) < 0) = false from decide_eq_false (by omega), b1, show decide (k + (cSpanS a.2.2.2.2.1 : Int) + (cItem a.2.2.2.2.2.1 : Int) < 0) = false from decide_eq_false (by omega), Option.bind_some, cond_false]
  rw [ho]
/- The law FnExactAnswer, on the printed functions alone. -/

theorem fnExactAnswer_law (a : DHouse) (n : Int) (fa : fHouse a) : F.laws_FnExactAnswer a n = some true := by
  unfold F.laws_FnExactAnswer
  rw [szHouse a (1048576) fa (by omega) (by omega)]
  by_cases ga : (zHouse a : Int) ≤ (1048576 : Int)
  case neg => rw [if_neg ga]; rfl
  rw [if_pos ga]
  simp only [Option.bind_some]
  rw [show decide ((1048576 : Int) - (zHouse a : Int) < 0) = false from decide_eq_false (by omega)]
  simp only [cond_false]
  obtain ⟨r, hs, hi, hz⟩ := answer_same a n (by omega)
  have qa := czHouse a
  obtain ⟨ma, a0⟩ := maHouse a (1) (smHouse (by omega)) (by omega) (by omega)
  have hz0 := hz
  have p0 := czFrame r
  obtain ⟨n0, b0, d0⟩ := mhFrame r (1) (smFrame hz) (by omega) (by omega)
  simp only [hs, hi, Option.bind_some, bne_self_eq_false, beq_self_eq_true, Bool.not_true, cond_false, toHouse a (by omega), eqHouse a (by omega), eqFrame r hz, a0, show decide ((1 : Int) + (cHouse a : Int) < 0) = false from decide_eq_false (by omega), b0, d0, show decide ((1 : Int) + (cFrame r : Int) < 0) = false from decide_eq_false (by omega)]
end Go.Proofs.YtdnknkfnfnlajaaGreat.Vm
