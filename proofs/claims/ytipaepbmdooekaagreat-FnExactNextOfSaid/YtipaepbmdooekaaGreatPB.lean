import Derived.Test.YtipaepbmdooekaaGreatPA
namespace Go.Proofs.YtipaepbmdooekaaGreat.Vm
open Go Go.RowKit
set_option linter.unusedVariables false
theorem implMg_in (c done : List Sp) (k : Nat) (hk : k ≤ 2) (hd : done.length ≤ 1048576) (x y z w v : _) :
    ∃ e, loopO F.impl_HouseOk.s10 (c, done, (k : Int), 0, 1, x, y, z, w, v, ()) = some (.inl (c, done, (k : Int), ((blk done (100 * (k : Int) + 1) 60 : Nat) : Int), e, x, y, z, w, v, ())) := by
  have hh := loop_run (step := F.impl_HouseOk.s10) (fun i => (c, done, (k : Int), ((blk done (100 * (k : Int) + 1) i : Nat) : Int), ((i + 1 : Nat) : Int), x, y, z, w, v, ())) 60 (fun i hi => by
    have hb := blk_le done (100 * (k : Int) + 1) i
    unfold F.impl_HouseOk.s10
    simp only
    rw [show decide (((i + 1 : Nat) : Int) ≤ 60) = true from decide_eq_true (by omega), idOf_eq (k : Int) ((i + 1 : Nat) : Int) (by omega) (by omega) (by omega) (by omega)]
    simp only [cond_true, Option.bind_some]
    rw [implHas_eq _ _ hd, w64_nat (i := i + 1) (by omega), show (100 * (k : Int) + ((i + 1 : Nat) : Int)) = 100 * (k : Int) + 1 + (i : Int) by omega, blk_succ]
    simp only [Option.bind_some]
    cases hasB done (100 * (k : Int) + 1 + (i : Int)) with
    | false => rfl
    | true =>
      simp only [cond_true, if_true]
      rw [w64_nat (i := blk done (100 * (k : Int) + 1) i) (by omega)]) (l := .exit (c, done, (k : Int), ((blk done (100 * (k : Int) + 1) 60 : Nat) : Int), ((60 + 1 : Nat) : Int), x, y, z, w, v, ())) (by
    unfold F.impl_HouseOk.s10
    simp only
    rw [show decide (((60 + 1 : Nat) : Int) ≤ 60) = false from decide_eq_false (by omega)]; rfl) rfl
  exact ⟨_, hh⟩
theorem implTk_in (c done : List Sp) (k : Nat) (hk : k ≤ 2) (s : DSeat) (n : Int) (hs : SeatG s n) (hc : c.length ≤ 100000) (x y z w : _) :
    ∃ e1 e2 e3, loopO F.impl_HouseOk.s17 (c, done, (k : Int), x, y, z, s.2.2.1, len s.2.2.1, 0, w, ()) = some (.inl (c ++ shf (k : Int) s.2.2.1, done, (k : Int), x, y, z, e1, e2, e3, w, ())) := by
  have hsp := seatG_sp hs
  have hl := okF_small (good_ok.1 hs.tk.1)
  have hh := loop_run (step := F.impl_HouseOk.s17) (fun i => (c ++ shf (k : Int) (s.2.2.1.take i), done, (k : Int), x, y, z, s.2.2.1, len s.2.2.1, (i : Int), w, ())) s.2.2.1.length (fun i hi => by
    have hx := hsp _ (List.getElem_mem hi)
    have hsl : (shf (k : Int) (s.2.2.1.take i)).length ≤ 5001 := by unfold shf; rw [List.length_map, List.length_take]; omega
    unfold F.impl_HouseOk.s17
    simp only
    rw [lt_len hi, inb_nat hi, Int.toNat_natCast, getD_at hi, idOf_eq (k : Int) _ (by omega) (by omega) (show 1 ≤ s.2.2.1[i].1 by omega) (by omega), idOf_eq (k : Int) _ (by omega) (by omega) (show 1 ≤ s.2.2.1[i].2.1 by omega) (by omega), w64_nat (by omega)]
    simp only [cond_true, chk_true, Option.bind_some, List.length_cons, List.length_nil]
    rw [fits_of (by rw [List.length_append]; omega), shf_take hi, List.append_assoc]
    rfl) (l := .exit (c ++ shf (k : Int) (s.2.2.1.take s.2.2.1.length), done, (k : Int), x, y, z, s.2.2.1, len s.2.2.1, ((s.2.2.1.length : Nat) : Int), w, ())) (by
    unfold F.impl_HouseOk.s17
    simp only [ge_len, cond_false]) rfl
  rw [List.take_length] at hh
  have e0 : c ++ shf (k : Int) (s.2.2.1.take 0) = c := by simp [shf]
  rw [e0] at hh
  exact ⟨_, _, _, hh⟩
theorem tkL_len (l : List DSeat) {m : Int} : ∀ n : Nat, n ≤ 3 → (∀ k, k < n → SeatG (l.getD k noS) m) → (tkL l n).length ≤ 5001 * n
  | 0, _, _ => by simp [tkL]
  | n + 1, hn, h => by
    have h1 := tkL_len l n (by omega) (fun k hk => h k (by omega))
    have h2 := okF_small (good_ok.1 (h n (by omega)).tk.1)
    rw [tkL_succ, List.length_append]
    unfold shf
    rw [List.length_map]
    omega
theorem implMg_loop (h : DHouse) (n : Int) (hl : h.2.2.2.1.length = 3) (hs : ∀ k, k < 3 → SeatG (h.2.2.2.1.getD k noS) n) (done : List Sp) (hd : done.length ≤ 1048576) (hdd : done = joinS [] (idsL (addL h))) :
    loopO F.impl_HouseOk.s6 ([], done, h.2.2.2.1, len h.2.2.2.1, 0, h, ()) = some (bif (List.range 3).all (mgAt h) then .inl (tkL h.2.2.2.1 3, done, h.2.2.2.1, len h.2.2.2.1, ((3 : Nat) : Int), h, ()) else .inr false) :=
  loop_allN (step := F.impl_HouseOk.s6) 3 (fun k => (tkL h.2.2.2.1 k, done, h.2.2.2.1, len h.2.2.2.1, (k : Int), h, ())) (mgAt h) false (fun k hk _ => by
    have hk1 : k < h.2.2.2.1.length := by omega
    have hg := hs k hk
    have htl := tkL_len h.2.2.2.1 k (by omega) (fun j hj => hs j (by omega))
    obtain ⟨e, hy⟩ := implMg_in (tkL h.2.2.2.1 k) done k (by omega) hd h.2.2.2.1 (len h.2.2.2.1) (k : Int) h (h.2.2.2.1.getD k noS)
    obtain ⟨e1, e2, e3, hw⟩ := implTk_in (tkL h.2.2.2.1 k) done k (by omega) (h.2.2.2.1.getD k noS) n hg (by omega) h.2.2.2.1 (len h.2.2.2.1) (k : Int) h
    unfold F.impl_HouseOk.s6
    simp only
    rw [lt_len hk1, inb_nat hk1, Int.toNat_natCast, hy]
    simp only [cond_true, chk_true, afterO]
    unfold mgAt bne
    rw [← hdd]
    cases (((blk done (100 * (k : Int) + 1) 60 : Nat) : Int) == (h.2.2.2.1.getD k noS).2.2.2.1) with
    | false => rfl
    | true =>
      simp only [Bool.not_true, cond_false, cond_true]
      rw [hw]
      simp only
      rw [w64_nat (by omega), tkL_succ]) (by
    unfold F.impl_HouseOk.s6
    simp only
    rw [show decide (((3 : Nat) : Int) < len h.2.2.2.1) = false from decide_eq_false (by simp only [len]; omega)]; rfl)
theorem apR_add {h : DHouse} (hA : ApR (allE h)) : ApR (addL h) := ⟨fun e he => hA.all e (List.mem_append_right _ he), (List.pairwise_append.1 hA.ap).2.1⟩
theorem rows_en {h : DHouse} (hP : PartsR h) : ∀ e ∈ entRR h.2.2.2.2.1, EnR e := fun e he => by
  obtain ⟨rs, hrs, he⟩ := List.mem_flatMap.1 he
  obtain ⟨r, hr, her⟩ := List.mem_flatMap.1 he
  obtain ⟨k, hk, rfl⟩ := List.getElem_of_mem hrs
  have := (hP.seats k (by have := hP.nr; omega)).rows r (by rw [getD_at hk]; exact hr)
  exact this.1.ok.all e her
theorem specHouse_dec (h : DHouse) (hz : zHouse h ≤ 1048576) : F.spec_HouseOk h = some (decB (HouseR h)) := by
  have hc := (confOk_eq h.1 (by unfold zHouse at hz; omega)).1
  have hzE := zAllE h
  have hlE : (allE h).length ≤ 1048576 := by unfold zEntryS at hzE; omega
  unfold F.spec_HouseOk
  rw [hc, specParts_dec h hz, specRoot_dec h hz, l12All_eq h hz]
  simp only [Option.bind_some]
  by_cases h1 : confB h.1 = true
  case neg => rw [show confB h.1 = false by simpa using h1, decB_neg (p := HouseR h) (fun hh => h1 hh.conf)]; rfl
  rw [h1]
  by_cases h2 : PartsR h
  case neg => rw [decB_neg h2, decB_neg (p := HouseR h) (fun hh => h2 hh.parts)]; rfl
  rw [decB_pos h2]
  simp only [Bool.not_true, cond_false]
  by_cases h3 : (List.range h.2.2.2.2.2.2.2.1.length).all (fun i => decB (EnR (h.2.2.2.2.2.2.2.1.getD i nilE)) && ordAt h.2.2.2.2.2.2.2.1 i) = true
  case neg =>
    rw [show (List.range h.2.2.2.2.2.2.2.1.length).all (fun i => decB (EnR (h.2.2.2.2.2.2.2.1.getD i nilE)) && ordAt h.2.2.2.2.2.2.2.1 i) = false by simpa using h3, decB_neg (p := HouseR h) (fun hh => h3 (range_all.2 fun i hi => by
      rw [Bool.and_eq_true]
      refine ⟨decB_pos ?_, hh.order i hi⟩
      rw [getD_at hi]
      exact hh.ap.all _ (List.mem_append_right _ (List.mem_append_left _ (List.getElem_mem hi)))))]; rfl
  rw [h3]
  by_cases h4 : (List.range h.2.2.2.2.2.2.2.2.1.length).all (fun i => decB (EnR (h.2.2.2.2.2.2.2.2.1.getD i nilO).2.1) && genAt h.2.2.2.2.2.2.2.2.1 i) = true
  case neg =>
    rw [show (List.range h.2.2.2.2.2.2.2.2.1.length).all (fun i => decB (EnR (h.2.2.2.2.2.2.2.2.1.getD i nilO).2.1) && genAt h.2.2.2.2.2.2.2.2.1 i) = false by simpa using h4, decB_neg (p := HouseR h) (fun hh => h4 (range_all.2 fun i hi => by
      rw [Bool.and_eq_true]
      refine ⟨decB_pos ?_, hh.gens i hi⟩
      rw [getD_at hi]
      exact hh.ap.all _ (List.mem_append_right _ (List.mem_append_right _ (List.mem_map.2 ⟨_, List.getElem_mem hi, rfl⟩)))))]; rfl
  rw [h4]
  simp only [Bool.and_self, Bool.not_true, cond_false]
  have h3 := range_all.1 h3
  have h4 := range_all.1 h4
  have hE : ∀ e ∈ allE h, EnR e := fun e he => by
    rcases List.mem_append.1 he with he | he
    · exact rows_en h2 e he
    · rcases List.mem_append.1 he with he | he
      · obtain ⟨i, hi, rfl⟩ := List.getElem_of_mem he
        have := h3 i hi
        rw [Bool.and_eq_true, getD_at hi] at this
        exact decB_iff.1 this.1
      · obtain ⟨o, ho, rfl⟩ := List.mem_map.1 he
        obtain ⟨i, hi, rfl⟩ := List.getElem_of_mem ho
        have := h4 i hi
        rw [Bool.and_eq_true, getD_at hi] at this
        exact decB_iff.1 this.1
  rw [apAll_loop h (allE h) hlE hE]
  by_cases h5 : ApR (allE h)
  case neg => rw [decB_neg h5, decB_neg (p := HouseR h) (fun hh => h5 hh.ap)]; rfl
  rw [decB_pos h5]
  have hj := okF_small (joined_ok (enR_ends fun e he => (hE e he).ids))
  simp only [cond_true, afterO]
  rw [l12Taken_eq h h.1.1 h2.ns (fun k hk => (h2.seats k hk).seat)]
  simp only [Option.bind_some]
  rw [spec_l5Same_dec _ _ (by omega)]
  simp only [Option.bind_some]
  by_cases h6 : joinS [] (idsL (allE h)) = joinS [] (tkL h.2.2.2.1 3)
  case neg => rw [show eqd (joinS [] (idsL (allE h))) (joinS [] (tkL h.2.2.2.1 3)) = false by simp [eqd, h6], decB_neg (p := HouseR h) (fun hh => h6 hh.tk)]; rfl
  rw [show eqd (joinS [] (idsL (allE h))) (joinS [] (tkL h.2.2.2.1 3)) = true by simp [eqd, h6], specMg_loop h hz h2.ns (apR_add h5)]
  by_cases h7 : (List.range 3).all (mgAt h) = true
  case neg => rw [show (List.range 3).all (mgAt h) = false by simpa using h7, decB_neg (p := HouseR h) (fun hh => h7 (range_all.2 hh.mg))]; rfl
  rw [h7, decB_pos ⟨h1, h2, fun i hi => (by have := h3 i hi; rw [Bool.and_eq_true] at this; exact this.2), fun i hi => (by have := h4 i hi; rw [Bool.and_eq_true] at this; exact this.2), h5, h6, range_all.1 h7⟩]
  rfl
theorem implHouse_dec (h : DHouse) (hz : zHouse h ≤ 1048576) : F.impl_HouseOk h = some (decB (HouseR h)) := by
  have hzE := zAllE h
  have hlE : (allE h).length ≤ 1048576 := by unfold zEntryS at hzE; omega
  have hlA : (addL h).length ≤ 1048576 := by unfold zEntryS at hzE; omega
  have z1 : zRowSS h.2.2.2.2.1 ≤ 1048576 := by unfold zHouse at hz; omega
  have z2 : h.2.2.2.2.2.2.2.1.length ≤ 1048576 := by unfold zHouse zEntryS at hz; omega
  have z3 : h.2.2.2.2.2.2.2.2.1.length ≤ 1048576 := by unfold zHouse zOutS at hz; omega
  have hle : (entRR h.2.2.2.2.1).length + (addL h).length ≤ 1048576 := by
    unfold allE at hlE
    rwa [List.length_append] at hlE
  unfold F.impl_HouseOk
  rw [implParts_dec h hz, rowEntries_eq h z1, added_eq h z2 z3]
  simp only [Option.bind_some]
  by_cases h1 : confB h.1 = true
  case neg => rw [show confB h.1 = false by simpa using h1, decB_neg (p := HouseR h) (fun hh => h1 hh.conf)]; rfl
  rw [h1]
  by_cases h2 : PartsR h
  case neg => rw [decB_neg h2, decB_neg (p := HouseR h) (fun hh => h2 hh.parts)]; rfl
  rw [decB_pos h2]
  by_cases h3 : (List.range h.2.2.2.2.2.2.2.1.length).all (ordAt h.2.2.2.2.2.2.2.1) = true
  case neg => rw [show (List.range h.2.2.2.2.2.2.2.1.length).all (ordAt h.2.2.2.2.2.2.2.1) = false by simpa using h3, decB_neg (p := HouseR h) (fun hh => h3 (range_all.2 hh.order))]; rfl
  rw [h3, fits_of (by omega), show entRR h.2.2.2.2.1 ++ addL h = allE h from rfl, implAp_eq _ (by omega)]
  simp only [Bool.and_self, Bool.not_true, cond_false, chk_true, Option.bind_some]
  by_cases h5 : ApR (allE h)
  case neg => rw [decB_neg h5, decB_neg (p := HouseR h) (fun hh => h5 hh.ap)]; rfl
  rw [decB_pos h5]
  have hE := h5.all
  have he1 : ends (idsL (allE h)) := enR_ends fun e he => (hE e he).ids
  have he2 : ends (idsL (addL h)) := enR_ends fun e he => (hE e (List.mem_append_right _ he)).ids
  have hsG : ∀ k, k < 3 → SeatG (h.2.2.2.1.getD k noS) h.1.1 := fun k hk => (h2.seats k hk).seat
  have het := tkL_ends 3 (Nat.le_refl _) hsG
  have htl := tkL_len h.2.2.2.1 3 (Nat.le_refl _) hsG
  have hj2 := okF_small (joined_ok he2)
  simp only [Bool.not_true, cond_false]
  rw [idsOf_eq (addL h) (by omega) he2, uni_fold _ he2]
  simp only [Option.bind_some]
  rw [implMg_loop h h.1.1 h2.ns hsG _ (by omega) rfl]
  by_cases h7 : (List.range 3).all (mgAt h) = true
  case neg => rw [show (List.range 3).all (mgAt h) = false by simpa using h7, decB_neg (p := HouseR h) (fun hh => h7 (range_all.2 hh.mg))]; rfl
  rw [h7]
  simp only [cond_true, afterO]
  rw [union_eq _ (by omega) het, uni_fold _ het, rowEntries_eq h z1, added_eq h z2 z3]
  simp only [Option.bind_some]
  rw [fits_of (by omega), show entRR h.2.2.2.2.1 ++ addL h = allE h from rfl, idsOf_eq (allE h) (by omega) he1, uni_fold _ he1]
  simp only [chk_true, Option.bind_some]
  have hj3 := okF_small (joined_ok het)
  rw [slices_Equal_Span_dec _ _ (by omega)]
  simp only [Option.bind_some]
  by_cases h6 : joinS [] (idsL (allE h)) = joinS [] (tkL h.2.2.2.1 3)
  case neg => rw [show eqd (joinS [] (tkL h.2.2.2.1 3)) (joinS [] (idsL (allE h))) = false by simp [eqd]; exact fun hh => h6 hh.symm, decB_neg (p := HouseR h) (fun hh => h6 hh.tk)]; rfl
  rw [show eqd (joinS [] (tkL h.2.2.2.1 3)) (joinS [] (idsL (allE h))) = true by simp [eqd, h6], implGen_loop h z3]
  by_cases h8 : (List.range h.2.2.2.2.2.2.2.2.1.length).all (genAt h.2.2.2.2.2.2.2.2.1) = true
  case neg => rw [show (List.range h.2.2.2.2.2.2.2.2.1.length).all (genAt h.2.2.2.2.2.2.2.2.1) = false by simpa using h8, decB_neg (p := HouseR h) (fun hh => h8 (range_all.2 hh.gens))]; rfl
  rw [h8, decB_pos ⟨h1, h2, range_all.1 h3, range_all.1 h8, h5, h6, range_all.1 h7⟩]
  rfl
abbrev nilR : DRow := (([] : List DEntry), ())
theorem zEnR' {e : DEntry} (h : EnR e) : zEntry e ≤ 1048576 := by
  obtain ⟨r0, r1, hr, ⟨h0, _⟩, h1, _⟩ := h.sk.rows
  have hh := h.sk.hist.1
  have hg := h.sk.regs.1
  have hi := okF_small (good_ok.1 h.ids)
  unfold zEntry zSpanS zSketch zIntS zIntSS
  rw [hr]
  simp only [List.map_cons, List.map_nil, List.sum_cons, List.sum_nil, List.length_cons, List.length_nil, zIntS]
  omega
def full (l : List Int) : Nat := l.countP fun x => decide (x > 0)
theorem l6Full_eq (l : List Int) (h : l.length ≤ 1048576) : F.spec_l6Full l = some ((full l : Nat) : Int) := by
  unfold F.spec_l6Full full
  have hh := loop_run (step := F.spec_l6Full.s3) (fun i => (l, (((l.take i).countP (fun x => decide (x > 0)) : Nat) : Int), (i : Int), ())) l.length (fun i hi => by
    have hc := cnt_le (fun x : Int => decide (x > 0)) l i
    unfold F.spec_l6Full.s3 F.spec_l1Bit
    simp only
    rw [lt_len hi, inb_nat hi, Int.toNat_natCast, getD_at hi, w64_nat (i := i) (by omega), cnt_take hi]
    simp only [cond_true, chk_true]
    cases decide (l[i] > 0) with
    | false =>
      simp only [cond_false, Bool.false_eq_true, if_false, Nat.add_zero, Option.bind_some, Int.add_zero]
      rw [w64_id (by omega) (by omega)]
    | true =>
      simp only [cond_true, if_true, Option.bind_some]
      rw [w64_id (by omega) (by omega)]
      rfl) (l := .exit (l, (((l.take l.length).countP (fun x => decide (x > 0)) : Nat) : Int), ((l.length : Nat) : Int), ())) (by
    unfold F.spec_l6Full.s3
    simp only [ge_len, cond_false]) rfl
  rw [List.take_length] at hh
  exact (congrArg (fun z => afterO z _) hh).trans rfl
def entSize (e : DEntry) : Int := 4 + 2 * (e.2.2.1.length : Int) + ((full ((e.2.2.2.1.2.2.2.2.1 ++ e.2.2.2.1.2.2.2.2.2.1) ++ e.2.2.2.1.2.2.2.2.2.2.1.flatten) : Nat) : Int)
theorem full_app (l m : List Int) : full (l ++ m) = full l + full m := List.countP_append
theorem full_le (l : List Int) : full l ≤ l.length := List.countP_le_length
theorem specESize_eq {e : DEntry} (h : EnR e) : F.spec_EntrySize e = some (entSize e) := by
  have hz := zEnR' h
  obtain ⟨r0, r1, hr, ⟨h0, _⟩, h1, _⟩ := h.sk.rows
  have hh := h.sk.hist.1
  have hg := h.sk.regs.1
  have hi := okF_small (good_ok.1 h.ids)
  have f1 := full_le e.2.2.2.1.2.2.2.2.1
  have f2 := full_le e.2.2.2.1.2.2.2.2.2.1
  have f3 := full_le r0
  have f4 := full_le r1
  unfold F.spec_EntrySize entSize
  rw [specEn_dec e hz, decB_pos h, hr]
  simp only [Option.bind_some, Bool.not_true, cond_false]
  rw [l6Full_eq _ (by omega), l6Full_eq _ (by omega), show inb 0 [r0, r1].length = true from rfl, show inb 1 [r0, r1].length = true from rfl, show [r0, r1].getD 0 [] = r0 from rfl, show [r0, r1].getD 1 [] = r1 from rfl, l6Full_eq _ (by omega), l6Full_eq _ (by omega)]
  simp only [Option.bind_some, chk_true, List.flatten_cons, List.flatten_nil, List.append_nil, full_app]
  rw [w64_id (x := 4 + _) (by omega) (by omega), w64_id (x := 4 + _ + _) (by omega) (by omega), w64_id (x := 4 + _ + _ + _) (by omega) (by omega), w64_id (x := 4 + _ + _ + _ + _) (by omega) (by omega), w64_id (x := 2 * len e.2.2.1) (by simp only [len]; omega) (by simp only [len]; omega), w64_id (by simp only [len]; omega) (by simp only [len]; omega)]
  simp only [len, Option.some.injEq]
  push_cast
  omega
theorem implESize_eq {e : DEntry} (h : EnR e) : F.impl_EntrySize e = some (entSize e) := by
  have hz := zEnR' h
  obtain ⟨r0, r1, hr, ⟨h0, _⟩, h1, _⟩ := h.sk.rows
  have hh := h.sk.hist.1
  have hg := h.sk.regs.1
  have hi := okF_small (good_ok.1 h.ids)
  have hzs : zSketch e.2.2.2.1 ≤ 1048576 := by unfold zEntry at hz; omega
  unfold F.impl_EntrySize entSize
  rw [implEn_dec e hz, decB_pos h, counts_eq _ hzs, w64_id (x := 2 * len e.2.2.1) (by simp only [len]; omega) (by simp only [len]; omega), w64_id (x := 4 + 2 * len e.2.2.1) (by simp only [len]; omega) (by simp only [len]; omega)]
  simp only [Option.bind_some, Bool.not_true, cond_false]
  have hlen : ((e.2.2.2.1.2.2.2.2.1 ++ e.2.2.2.1.2.2.2.2.2.1) ++ e.2.2.2.1.2.2.2.2.2.2.1.flatten).length ≤ 100 := by
    rw [hr]
    simp only [List.length_append, List.flatten_cons, List.flatten_nil, List.append_nil]
    omega
  generalize (e.2.2.2.1.2.2.2.2.1 ++ e.2.2.2.1.2.2.2.2.2.1) ++ e.2.2.2.1.2.2.2.2.2.2.1.flatten = l at hlen
  have hl := loop_run (step := F.impl_EntrySize.s5) (fun i => (4 + 2 * len e.2.2.1 + (((l.take i).countP (fun x => decide (x > 0)) : Nat) : Int), l, len l, (i : Int), ())) l.length (fun i hi => by
    have hc := cnt_le (fun x : Int => decide (x > 0)) l i
    unfold F.impl_EntrySize.s5
    simp only
    rw [lt_len hi, inb_nat hi, Int.toNat_natCast, getD_at hi, w64_nat (i := i) (by omega), cnt_take hi]
    simp only [cond_true, chk_true]
    cases decide (l[i] > 0) with
    | false => rfl
    | true =>
      simp only [cond_true, if_true]
      rw [w64_id (by simp only [len]; omega) (by simp only [len]; omega), Int.add_assoc]
      rfl) (l := .exit (4 + 2 * len e.2.2.1 + (((l.take l.length).countP (fun x => decide (x > 0)) : Nat) : Int), l, len l, ((l.length : Nat) : Int), ())) (by
    unfold F.impl_EntrySize.s5
    simp only [ge_len, cond_false]) rfl
  have hl : loopO F.impl_EntrySize.s5 (4 + 2 * len e.2.2.1 + 0, l, len l, 0, ()) = _ := hl
  rw [Int.add_zero, List.take_length] at hl
  exact (congrArg (fun z => afterO z _) hl).trans rfl
def firstSz (r : DRow) : Int := match r.1 with
  | [] => 0
  | e :: _ => mnI 200 (entSize e)
def sizesOf (h : DHouse) (c : Nat) : List Int := h.2.2.2.2.1.map fun rs => firstSz (rs.getD c nilR)
theorem row_at {h : DHouse} (hP : PartsR h) {k : Nat} (hk : k < h.2.2.2.2.1.length) : h.2.2.2.2.1[k].length = 2 ∧ ∀ r ∈ h.2.2.2.2.1[k], RoR r := by
  have hs := hP.seats k (by have := hP.nr; omega)
  have h2 := hs.two
  have h3 := hs.rows
  rw [getD_at hk] at h2 h3
  exact ⟨h2, fun r hr => (h3 r hr).1⟩
theorem specSizes_eq (h : DHouse) (hP : PartsR h) (c : Nat) (hc : c ≤ 1) : F.spec_l14Sizes h (c : Int) = some (sizesOf h c) := by
  have hn := hP.nr
  unfold F.spec_l14Sizes
  have hh := loop_run (step := F.spec_l14Sizes.s3) (fun i => ((c : Int), (sizesOf h c).take i, (i : Int), h, ())) h.2.2.2.2.1.length (fun i hi => by
    obtain ⟨h2, h3⟩ := row_at hP hi
    have hc' : c < h.2.2.2.2.1[i].length := by omega
    have hsl : i < (sizesOf h c).length := by unfold sizesOf; rw [List.length_map]; exact hi
    have hsg : (sizesOf h c)[i] = firstSz h.2.2.2.2.1[i][c] := (List.getElem_map (fun rs : List DRow => firstSz (rs.getD c nilR)) (h := hsl)).trans (by rw [getD_at hc'])
    unfold F.spec_l14Sizes.s3
    simp only
    rw [show decide ((i : Int) < 3) = true from decide_eq_true (by omega), inb_nat hi, Int.toNat_natCast, getD_at hi, inb_nat hc', Int.toNat_natCast, getD_at hc', w64_nat (by omega), List.take_succ_eq_append_getElem hsl, hsg]
    simp only [cond_true, chk_true, List.length_cons, List.length_nil, List.length_take]
    have hr := h3 _ (List.getElem_mem hc')
    unfold firstSz
    cases hl : h.2.2.2.2.1[i][c].1 with
    | nil =>
      rw [show decide (len ([] : List DEntry) > 0) = false from rfl]
      simp only [cond_false]
      rw [fits_of (by omega)]; rfl
    | cons e l =>
      have he := hr.ok.all e (by rw [hl]; exact List.mem_cons_self ..)
      rw [show decide (len (e :: l) > 0) = true from decide_eq_true (by simp only [len, List.length_cons]; omega), show inb 0 (e :: l).length = true from inb_nat (i := 0) (by simp), show (e :: l).getD 0 nilE = e from rfl, specESize_eq he]
      simp only [cond_true, chk_true, Option.bind_some, l1Min_eq]
      rw [fits_of (by omega), mnI_comm]; rfl) (l := .exit ((c : Int), (sizesOf h c).take h.2.2.2.2.1.length, ((h.2.2.2.2.1.length : Nat) : Int), h, ())) (by
    unfold F.spec_l14Sizes.s3
    simp only
    rw [show decide (((h.2.2.2.2.1.length : Nat) : Int) < 3) = false from decide_eq_false (by omega)]; rfl) rfl
  rw [show (sizesOf h c).take h.2.2.2.2.1.length = sizesOf h c from List.take_of_length_le (by unfold sizesOf; rw [List.length_map]; omega)] at hh
  exact (congrArg (fun z => afterO z _) hh).trans rfl
theorem implSizes_loop (h : DHouse) (hP : PartsR h) (c : Nat) (hc : c ≤ 1) : loopO F.impl_Sizes.s5 ((c : Int), [], h.2.2.2.2.1, len h.2.2.2.2.1, 0, ()) = some (.inl ((c : Int), sizesOf h c, h.2.2.2.2.1, len h.2.2.2.2.1, ((h.2.2.2.2.1.length : Nat) : Int), ())) := by
  have hn := hP.nr
  have hh := loop_run (step := F.impl_Sizes.s5) (fun i => ((c : Int), (sizesOf h c).take i, h.2.2.2.2.1, len h.2.2.2.2.1, (i : Int), ())) h.2.2.2.2.1.length (fun i hi => by
    obtain ⟨h2, h3⟩ := row_at hP hi
    have hc' : c < h.2.2.2.2.1[i].length := by omega
    have hsl : i < (sizesOf h c).length := by unfold sizesOf; rw [List.length_map]; exact hi
    have hsg : (sizesOf h c)[i] = firstSz h.2.2.2.2.1[i][c] := (List.getElem_map (fun rs : List DRow => firstSz (rs.getD c nilR)) (h := hsl)).trans (by rw [getD_at hc'])
    unfold F.impl_Sizes.s5
    simp only
    rw [lt_len hi, inb_nat hi, Int.toNat_natCast, getD_at hi, inb_nat hc', Int.toNat_natCast, getD_at hc', w64_nat (by omega), List.take_succ_eq_append_getElem hsl, hsg]
    simp only [cond_true, chk_true, List.length_cons, List.length_nil, List.length_take]
    have hr := h3 _ (List.getElem_mem hc')
    unfold firstSz
    cases hl : h.2.2.2.2.1[i][c].1 with
    | nil =>
      rw [show decide (len ([] : List DEntry) > 0) = false from rfl]
      simp only [cond_false]
      rw [fits_of (by omega)]; rfl
    | cons e l =>
      have he := hr.ok.all e (by rw [hl]; exact List.mem_cons_self ..)
      rw [show decide (len (e :: l) > 0) = true from decide_eq_true (by simp only [len, List.length_cons]; omega), show inb 0 (e :: l).length = true from inb_nat (i := 0) (by simp), show (e :: l).getD 0 nilE = e from rfl, implESize_eq he]
      simp only [cond_true, chk_true, Option.bind_some]
      rw [fits_of (by omega)]; rfl) (l := .exit ((c : Int), (sizesOf h c).take h.2.2.2.2.1.length, h.2.2.2.2.1, len h.2.2.2.2.1, ((h.2.2.2.2.1.length : Nat) : Int), ())) (by
    unfold F.impl_Sizes.s5
    simp only [ge_len, cond_false]) rfl
  rw [show (sizesOf h c).take h.2.2.2.2.1.length = sizesOf h c from List.take_of_length_le (by unfold sizesOf; rw [List.length_map]; omega)] at hh
  exact hh
theorem sum0 : ∀ {l : List Nat}, l.sum = 0 ↔ ∀ x ∈ l, x = 0
  | [] => by simp
  | x :: l => by
    rw [List.sum_cons, Nat.add_eq_zero_iff, sum0]
    simp
theorem allNot {α : Type} {f p : α → Bool} : ∀ {l : List α}, (∀ x ∈ l, f x = !p x) → l.all f = !l.any p
  | [], _ => rfl
  | x :: l, h => by
    rw [List.all_cons, List.any_cons, h x (by simp), allNot (fun y hy => h y (by simp [hy]))]
    cases p x <;> rfl
def hasC (h : DHouse) (c : Nat) : Bool := h.2.2.2.2.1.any fun rs => decide (len (rs.getD c nilR).1 > 0)
theorem first_in {r : DRow} (hr : RoR r) : inR 0 200 (firstSz r) = true ∧ inR 0 0 (firstSz r) = !decide (len r.1 > 0) := by
  unfold firstSz
  cases r.1 with
  | nil => exact ⟨rfl, rfl⟩
  | cons e l =>
    have he : 4 ≤ entSize e := by unfold entSize; omega
    have hm : 4 ≤ mnI 200 (entSize e) ∧ mnI 200 (entSize e) ≤ 200 := by unfold mnI; split <;> omega
    refine ⟨inR_iff.2 (show 0 ≤ mnI 200 (entSize e) ∧ mnI 200 (entSize e) ≤ 200 from ⟨by omega, hm.2⟩), ?_⟩
    rw [show decide (len (e :: l) > 0) = true from decide_eq_true (by simp only [len, List.length_cons]; omega), Bool.not_true, Bool.eq_false_iff]
    intro hc
    have : 0 ≤ mnI 200 (entSize e) ∧ mnI 200 (entSize e) ≤ 0 := inR_iff.1 hc
    omega
theorem row_c {h : DHouse} (hP : PartsR h) {rs : List DRow} (hr : rs ∈ h.2.2.2.2.1) (c : Nat) (hc : c ≤ 1) : RoR (rs.getD c nilR) := by
  obtain ⟨k, hk, rfl⟩ := List.getElem_of_mem hr
  obtain ⟨h2, h3⟩ := row_at hP hk
  have hc' : c < h.2.2.2.2.1[k].length := by omega
  rw [getD_at hc']
  exact h3 _ (List.getElem_mem hc')
theorem sizes_len (h : DHouse) (hP : PartsR h) (c : Nat) : (sizesOf h c).length = 3 := by
  unfold sizesOf; rw [List.length_map]; exact hP.nr
theorem nums_has (h : DHouse) (hP : PartsR h) (c : Nat) (hc : c ≤ 1) : F.spec_l11Nums (sizesOf h c) 0 0 = some (!hasC h c) := by
  have hl := sizes_len h hP c
  rw [l11Nums_eq _ 0 0 (by omega), show (len (sizesOf h c) == 3) = true by simp [len, hl], Bool.true_and]
  unfold sizesOf hasC
  rw [List.all_map]
  congr 1
  exact allNot fun rs hr => (first_in (row_c hP hr c hc)).2
theorem sizes_in (h : DHouse) (hP : PartsR h) (c : Nat) (hc : c ≤ 1) : ((len (sizesOf h c) == 3) && (sizesOf h c).all (inR 0 200)) = true := by
  have hl := sizes_len h hP c
  rw [show (len (sizesOf h c) == 3) = true by simp [len, hl], Bool.true_and]
  unfold sizesOf
  rw [List.all_map, List.all_eq_true]
  exact fun rs hr => (first_in (row_c hP hr c hc)).1
theorem two_of {rs : List DRow} (h : rs.length = 2) : ∃ r0 r1, rs = [r0, r1] := by
  match rs, h with
  | [a, b], _ => exact ⟨a, b, rfl⟩
theorem has_items (h : DHouse) (hP : PartsR h) : cntRR h.2.2.2.2.1 = 0 ↔ hasC h 0 = false ∧ hasC h 1 = false := by
  unfold cntRR hasC
  rw [sum0, List.any_eq_false, List.any_eq_false]
  have two : ∀ rs ∈ h.2.2.2.2.1, ∃ r0 r1, rs = [r0, r1] := fun rs hr => by
    obtain ⟨k, hk, rfl⟩ := List.getElem_of_mem hr
    exact two_of (row_at hP hk).1
  constructor
  · intro h0
    have key : ∀ rs ∈ h.2.2.2.2.1, ∃ r0 r1, rs = [r0, r1] ∧ r0.1.length = 0 ∧ r1.1.length = 0 := fun rs hr => by
      obtain ⟨r0, r1, rfl⟩ := two rs hr
      have := h0 (cntR [r0, r1]) (List.mem_map.2 ⟨_, hr, rfl⟩)
      simp only [cntR, List.map_cons, List.map_nil, List.sum_cons, List.sum_nil] at this
      exact ⟨r0, r1, rfl, by omega, by omega⟩
    constructor <;> intro rs hr <;> obtain ⟨r0, r1, rfl, e0, e1⟩ := key rs hr
    · show ¬ decide (len r0.1 > 0) = true
      simp [len, e0]
    · show ¬ decide (len r1.1 > 0) = true
      simp [len, e1]
  · rintro ⟨g0, g1⟩ n hn
    obtain ⟨rs, hr, rfl⟩ := List.mem_map.1 hn
    obtain ⟨r0, r1, rfl⟩ := two rs hr
    have a0 : ¬ decide (len r0.1 > 0) = true := g0 _ hr
    have a1 : ¬ decide (len r1.1 > 0) = true := g1 _ hr
    simp only [decide_eq_true_eq, len] at a0 a1
    simp only [cntR, List.map_cons, List.map_nil, List.sum_cons, List.sum_nil]
    omega
theorem has_in (rs : List (List DRow)) (n k : Int) (r0 r1 : DRow) (h z o : DHouse) (b0 b1 : Bool) :
    loopO F.impl_NextOf.s9 (rs, n, k, [r0, r1], len [r0, r1], 0, h, z, o, (b0, b1, ()), ()) = some (.inl (rs, n, k, [r0, r1], len [r0, r1], 2, h, z, o, (b0 || decide (len r0.1 > 0), b1 || decide (len r1.1 > 0), ()), ())) := by
  refine loopO_of (n := 3) ?_
  cases b0 <;> cases b1 <;> rfl
theorem has_loop (h z : DHouse) (hP : PartsR h) : loopO F.impl_NextOf.s6 (h.2.2.2.2.1, len h.2.2.2.2.1, 0, h, z, h, (false, false, ()), ()) = some (.inl (h.2.2.2.2.1, len h.2.2.2.2.1, ((h.2.2.2.2.1.length : Nat) : Int), h, z, h, (hasC h 0, hasC h 1, ()), ())) := by
  have hn := hP.nr
  have hh := loop_run (step := F.impl_NextOf.s6) (fun i => (h.2.2.2.2.1, len h.2.2.2.2.1, (i : Int), h, z, h, ((h.2.2.2.2.1.take i).any (fun rs => decide (len (rs.getD 0 nilR).1 > 0)), (h.2.2.2.2.1.take i).any (fun rs => decide (len (rs.getD 1 nilR).1 > 0)), ()), ())) h.2.2.2.2.1.length (fun i hi => by
    obtain ⟨r0, r1, hr⟩ := two_of (row_at hP hi).1
    unfold F.impl_NextOf.s6
    simp only
    rw [lt_len hi, inb_nat hi, Int.toNat_natCast, getD_at hi, hr, has_in, List.take_succ_eq_append_getElem hi, hr]
    simp only [cond_true, chk_true, afterO, List.any_append, List.any_cons, List.any_nil, Bool.or_false]
    rw [w64_nat (by omega)]
    rfl) (l := .exit (h.2.2.2.2.1, len h.2.2.2.2.1, ((h.2.2.2.2.1.length : Nat) : Int), h, z, h, ((h.2.2.2.2.1.take h.2.2.2.2.1.length).any (fun rs => decide (len (rs.getD 0 nilR).1 > 0)), (h.2.2.2.2.1.take h.2.2.2.2.1.length).any (fun rs => decide (len (rs.getD 1 nilR).1 > 0)), ()), ())) (by
    unfold F.impl_NextOf.s6
    simp only [ge_len, cond_false]) rfl
  rw [List.take_length] at hh
  exact hh
theorem class_eq (a b : Bool) (s q : Int) (hs : 0 ≤ s ∧ s ≤ 1000) (hq : 1 ≤ q ∧ q ≤ 10) (hab : (a || b) = true) : ∃ (c : Nat) (s' : Int), c < 2 ∧ F.spec_PickClass a b s q = some ((c : Int), s') ∧ F.impl_PickClass a b s q = some ((c : Int), s') ∧ (0 ≤ s' ∧ s' ≤ 1000) ∧ (c = 0 → a = true) ∧ (c = 1 → b = true) := by
  unfold F.spec_PickClass F.impl_PickClass
  simp only [l1In_eq, within_eq, Option.bind_some]
  rw [show inR 0 1000 s = true from inR_iff.2 hs, show inR 1 10 q = true from inR_iff.2 hq, w64_id (by omega) (by omega)]
  simp only [Bool.not_true, cond_false]
  cases a with
  | false => cases b with
    | false => cases hab
    | true => exact ⟨1, 0, by omega, rfl, rfl, ⟨by omega, by omega⟩, fun h => (by cases h), fun _ => rfl⟩
  | true => cases b with
    | false => exact ⟨0, 0, by omega, rfl, rfl, ⟨by omega, by omega⟩, fun _ => rfl, fun h => by cases h⟩
    | true =>
      by_cases hlt : s + 1 ≥ q
      · rw [decide_eq_true hlt]
        exact ⟨1, 0, by omega, rfl, rfl, ⟨by omega, by omega⟩, fun h => (by cases h), fun _ => rfl⟩
      · rw [decide_eq_false hlt]
        exact ⟨0, s + 1, by omega, rfl, rfl, ⟨by omega, by omega⟩, fun _ => rfl, fun h => by cases h⟩
theorem class_none (s q : Int) (hs : 0 ≤ s ∧ s ≤ 1000) (hq : 1 ≤ q ∧ q ≤ 10) : F.spec_PickClass false false s q = some (-1, 0) := by
  unfold F.spec_PickClass
  simp only [l1In_eq, Option.bind_some]
  rw [show inR 0 1000 s = true from inR_iff.2 hs, show inR 1 10 q = true from inR_iff.2 hq]
  rfl
theorem confB_parts {a : DConf} (h : confB a = true) : (1 ≤ a.2.1 ∧ a.2.1 ≤ 60) ∧ (1 ≤ a.2.2.1 ∧ a.2.2.1 ≤ 10) ∧ ((len a.2.2.2.1 == 3) && a.2.2.2.1.all (inR 1 4)) = true := by
  unfold confB at h
  simp only [Bool.and_eq_true] at h
  obtain ⟨_, h2, h3, h4, _⟩ := h
  exact ⟨inR_iff.1 h2, inR_iff.1 h3, by rw [Bool.and_eq_true]; exact h4⟩
def turned (h : DHouse) (c : Nat) (t : DTurn) (s : Int) : DHouse := (h.1, h.2.1, h.2.2.1, h.2.2.2.1, h.2.2.2.2.1, h.2.2.2.2.2.1.set c t, s, h.2.2.2.2.2.2.2)
structure NextR (h : DHouse) (k c : Nat) (t : DTurn) (s : Int) : Prop where
  hk : k < 3
  hc : c < 2
  row : 0 < ((h.2.2.2.2.1.getD k []).getD c nilR).1.length
  turn : turnB t = true
  since : 0 ≤ s ∧ s ≤ 1000
theorem next_eq (h : DHouse) (hz : zHouse h ≤ 1048576) (hH : HouseR h) : ∃ r : Int × Int × DHouse, F.spec_l14Next h = some r ∧ F.impl_NextOf h = some r ∧ (r = (-1, -1, h) ∨ ∃ k c t s, NextR h k c t s ∧ r = ((k : Int), (c : Int), turned h c t s)) := by
  have hP := hH.parts
  obtain ⟨hq, hu, hw⟩ := confB_parts hH.conf
  have z1 : zRowSS h.2.2.2.2.1 ≤ 1048576 := by unfold zHouse at hz; omega
  have hit : F.impl_Items h = some ((cntRR h.2.2.2.2.1 : Nat) : Int) := by
    unfold F.impl_Items
    rw [rowEntries_eq h z1]
    simp only [Option.bind_some, len, entRR_len]
  unfold F.spec_l14Next F.impl_NextOf
  have s0 : F.spec_l14Sizes h 0 = some (sizesOf h 0) := specSizes_eq h hP 0 (by omega)
  have s1 : F.spec_l14Sizes h 1 = some (sizesOf h 1) := specSizes_eq h hP 1 (by omega)
  rw [l12Copy_eq h hz, copyHouse_eq h hz, implHouse_dec h hz, decB_pos hH, hit, s0, s1]
  simp only [Option.bind_some, nums_has h hP 0 (by omega), nums_has h hP 1 (by omega), Bool.not_not, Bool.not_true, cond_false]
  by_cases hn : cntRR h.2.2.2.2.1 = 0
  · obtain ⟨g0, g1⟩ := (has_items h hP).1 hn
    rw [g0, g1, class_none _ _ hP.since hu, hn]
    exact ⟨_, rfl, rfl, .inl rfl⟩
  have hab : (hasC h 0 || hasC h 1) = true := by
    cases g0 : hasC h 0 with
    | true => rfl
    | false => cases g1 : hasC h 1 with
      | true => rfl
      | false => exact absurd ((has_items h hP).2 ⟨g0, g1⟩) hn
  obtain ⟨c, s', hc, e1, e2, hs', hc0, hc1⟩ := class_eq (hasC h 0) (hasC h 1) h.2.2.2.2.2.2.1 h.1.2.2.1 hP.since hu hab
  have hhas : hasC h c = true := by
    have : c = 0 ∨ c = 1 := by omega
    rcases this with rfl | rfl
    · exact hc0 rfl
    · exact hc1 rfl
  have ht : c < h.2.2.2.2.2.1.length := by rw [hP.nt]; exact hc
  have hsz : F.impl_Sizes h (c : Int) = some (sizesOf h c) := by
    unfold F.impl_Sizes
    rw [implHouse_dec h hz, decB_pos hH]
    simp only [Option.bind_some, within_eq, Bool.not_true, cond_false]
    rw [show inR 0 1 (c : Int) = true from inR_iff.2 ⟨by omega, by omega⟩, implSizes_loop h hP c (by omega)]
    rfl
  have htz := zTurnIn hz (List.getElem_mem ht)
  have hwl : h.1.2.2.2.1.length = 3 := by
    rw [Bool.and_eq_true, beq_iff_eq] at hw
    have := hw.1
    simp only [len] at this
    omega
  have hsl := sizes_len h hP c
  obtain ⟨r, p1, p2, p3⟩ := pick_same (sizesOf h c) h.1.2.2.2.1 h.1.2.1 h.2.2.2.2.2.1[c] (by omega) (by omega) htz
  have hok : pickOk (sizesOf h c) h.1.2.2.2.1 h.1.2.1 h.2.2.2.2.2.1[c] = true := by
    unfold pickOk
    have h4 : turnB h.2.2.2.2.2.1[c] = true := hP.turns _ (List.getElem_mem ht)
    unfold turnB at h4
    rw [sizes_in h hP c (by omega), hw, show inR 1 60 h.1.2.1 = true from inR_iff.2 hq, h4]
    rfl
  rw [show (((cntRR h.2.2.2.2.1 : Nat) : Int) == 0) = false by rw [beq_eq_false_iff_ne]; omega, e1]
  simp only [cond_false]
  rw [has_loop h _ hP]
  simp only [afterO, e2, Option.bind_some, hsz]
  rw [show decide (((c : Nat) : Int) < 0) = false from decide_eq_false (by omega), specSizes_eq h hP c (by omega), inb_nat ht, Int.toNat_natCast, getD_at ht]
  simp only [cond_false, Option.bind_some, chk_true, p1, p2]
  refine ⟨_, rfl, rfl, .inr ?_⟩
  rcases p3 with ⟨h0, _⟩ | ⟨_, h0, _⟩ | ⟨_, x0, x1, x2, m0, m1, m2, hx, hm, ⟨i, hi, l0, l1, l2, hr, hpos, b0, b1, b2, _⟩⟩
  · rw [hok] at h0; cases h0
  · exfalso
    have := nums_has h hP c (by omega)
    rw [hhas, l11Nums_eq _ 0 0 (by omega), show (len (sizesOf h c) == 3) = true by simp [len, hsl], Bool.true_and] at this
    have h1 : (sizesOf h c).all (inR 0 0) = true := by
      rw [List.all_eq_true] at h0 ⊢
      intro x hx
      have := h0 x hx
      rw [beq_iff_eq] at this
      rw [this]; rfl
    rw [h1] at this
    cases this
  · refine ⟨i, c, r.2, s', ⟨hi, hc, ?_, ?_, hs'⟩, ?_⟩
    · have hir : i < h.2.2.2.2.1.length := by rw [hP.nr]; exact hi
      have hxi : (sizesOf h c)[i]'(by rw [hsl]; exact hi) > 0 := by
        have : (sizesOf h c)[i]'(by rw [hsl]; exact hi) = [x0, x1, x2][i] := by congr 1
        rw [this]; exact hpos
      unfold sizesOf at hxi
      rw [List.getElem_map] at hxi
      rw [getD_at hir]
      unfold firstSz at hxi
      cases hl : (h.2.2.2.2.1[i].getD c nilR).1 with
      | nil => rw [hl] at hxi; exact absurd hxi (by simp)
      | cons e l => simp
    · rw [hr]
      unfold turnB
      obtain ⟨u0, u1⟩ := b0
      obtain ⟨v0, v1⟩ := b1
      obtain ⟨w0, w1⟩ := b2
      simp only [List.all_cons, List.all_nil, Bool.and_true]
      rw [show inR 0 2 (i : Int) = true from inR_iff.2 ⟨by omega, by omega⟩, show inR 0 1000 l0 = true from inR_iff.2 ⟨u0, u1⟩, show inR 0 1000 l1 = true from inR_iff.2 ⟨v0, v1⟩, show inR 0 1000 l2 = true from inR_iff.2 ⟨w0, w1⟩]
      rfl
    · rw [hr]; rfl
theorem zTurned {h : DHouse} {c : Nat} {t : DTurn} {s : Int} (hz : zHouse h ≤ 1048576) (ht : turnB t = true) : zHouse (turned h c t s) ≤ 2097152 := by
  have h3 : t.2.2.1.length = 3 := by
    unfold turnB at ht
    simp only [Bool.and_eq_true, beq_iff_eq, len] at ht
    omega
  have hset : ∀ (l : List DTurn) (c : Nat), zTurnS (l.set c t) ≤ zTurnS l + 4 := by
    intro l
    induction l with
    | nil => intro c; simp [zTurnS]
    | cons x l ih =>
      intro c
      cases c with
      | zero => simp only [List.set_cons_zero, zTurnS, List.map_cons, List.sum_cons, List.length_cons, zTurn, zIntS, h3]; omega
      | succ c =>
        have := ih c
        simp only [List.set_cons_succ, zTurnS, List.map_cons, List.sum_cons, List.length_cons] at this ⊢
        omega
  have := hset h.2.2.2.2.2.1 c
  unfold zHouse at hz ⊢
  unfold turned
  simp only
  omega
theorem nextOf_same (h : DHouse) (hz : zHouse h ≤ 1048576) : ∃ r : Int × Int × DHouse, F.spec_NextOf h = some r ∧ F.impl_NextOf h = some r ∧ zHouse r.2.2 ≤ 1099511627776 := by
  by_cases hH : HouseR h
  · obtain ⟨r, e1, e2, hr⟩ := next_eq h hz hH
    refine ⟨r, ?_, e2, ?_⟩
    · unfold F.spec_NextOf
      rw [specHouse_dec h hz, decB_pos hH, e1]
      rfl
    · rcases hr with rfl | ⟨k, c, t, s, hN, rfl⟩
      · simp only; omega
      · have := zTurned (c := c) (s := s) hz hN.turn
        simp only; omega
  · refine ⟨(-1, -1, h), ?_, ?_, by simp only; omega⟩
    · unfold F.spec_NextOf
      rw [specHouse_dec h hz, decB_neg hH, l12Copy_eq h hz]; rfl
    · unfold F.impl_NextOf
      rw [implHouse_dec h hz, decB_neg hH, copyHouse_eq h hz]; rfl
def sIntS (l : List Int) : Prop := l.length ≤ 1099511627776
def cIntS (l : List Int) : Nat := l.length
theorem smIntS {a : List Int} (h : zIntS a ≤ 1099511627776) : sIntS a := h
theorem czIntS (a : List Int) : cIntS a ≤ 10 * zIntS a := by unfold cIntS zIntS; omega
def sConf (a : DConf) : Prop := sIntS a.2.2.2.1
def cConf (a : DConf) : Nat := cIntS a.2.2.2.1
theorem smConf {a : DConf} (h : zConf a ≤ 1099511627776) : sConf a := by
  unfold zConf at h
  exact smIntS (by omega)
theorem czConf (a : DConf) : cConf a ≤ 10 * zConf a := by
  unfold cConf zConf
  have h0 := czIntS a.2.2.2.1
  omega
def sSpanS (l : List DSpan) : Prop := l.length ≤ 1099511627776 ∧ ∀ x ∈ l, True
def kSpan (a : DSpan) : Nat := 2
def cSpanS (l : List DSpan) : Nat := (l.map kSpan).sum
theorem smSpanS {a : List DSpan} (h : zSpanS a ≤ 1099511627776) : sSpanS a := ⟨h, fun _ _ => trivial⟩
theorem czSpanS (a : List DSpan) : cSpanS a ≤ 10 * zSpanS a := by
  unfold cSpanS zSpanS
  have := sum_le (f := kSpan) (g := fun _ => 0) (n := 2) (l := a) (fun x _ => by unfold kSpan; omega)
  have e : (a.map fun _ => 0).sum = 0 := by
    clear this
    induction a with
    | nil => rfl
    | cons x l ih => simp only [List.map_cons, List.sum_cons, ih]
  rw [e] at this
  omega
def sSeatS (l : List DSeat) : Prop := l.length ≤ 1099511627776 ∧ ∀ x ∈ l, sSpanS x.2.2.1
def kSeat (a : DSeat) : Nat := 4 + cSpanS a.2.2.1
def cSeatS (l : List DSeat) : Nat := (l.map kSeat).sum
theorem smSeatS {a : List DSeat} (h : zSeatS a ≤ 1099511627776) : sSeatS a := by
  unfold zSeatS at h
  refine ⟨by omega, fun x hm => ?_⟩
  have hx : zSeat x ≤ 1099511627776 := by have := sum_mem (f := zSeat) hm; omega
  unfold zSeat at hx
  exact smSpanS (by omega)
theorem czSeatS (a : List DSeat) : cSeatS a ≤ 10 * zSeatS a := by
  unfold cSeatS zSeatS
  have := sum_le (f := kSeat) (g := zSeat) (n := 4) (l := a) (fun x _ => by
    unfold kSeat zSeat
    have h0 := czSpanS x.2.2.1
    omega)
  omega
def sIntSS (l : List (List Int)) : Prop := l.length ≤ 1099511627776 ∧ ∀ x ∈ l, sIntS x
def cIntSS (l : List (List Int)) : Nat := (l.map cIntS).sum
theorem smIntSS {a : List (List Int)} (h : zIntSS a ≤ 1099511627776) : sIntSS a := by
  unfold zIntSS at h
  exact ⟨by omega, fun x hm => smIntS (by have := sum_mem (f := zIntS) hm; omega)⟩
theorem czIntSS (a : List (List Int)) : cIntSS a ≤ 10 * zIntSS a := by
  unfold cIntSS zIntSS
  have := sum_le (f := cIntS) (g := zIntS) (n := 0) (l := a) (fun x _ => by have := czIntS x; omega)
  omega
def sEntryS (l : List DEntry) : Prop := l.length ≤ 1099511627776 ∧ ∀ x ∈ l, sSpanS x.2.2.1 ∧ sIntS x.2.2.2.1.2.2.2.2.1 ∧ sIntS x.2.2.2.1.2.2.2.2.2.1 ∧ sIntSS x.2.2.2.1.2.2.2.2.2.2.1
def kEntry (a : DEntry) : Nat := 6 + cSpanS a.2.2.1 + cIntS a.2.2.2.1.2.2.2.2.1 + cIntS a.2.2.2.1.2.2.2.2.2.1 + cIntSS a.2.2.2.1.2.2.2.2.2.2.1
def cEntryS (l : List DEntry) : Nat := (l.map kEntry).sum
theorem smEntryS {a : List DEntry} (h : zEntryS a ≤ 1099511627776) : sEntryS a := by
  unfold zEntryS at h
  refine ⟨by omega, fun x hm => ?_⟩
  have hx : zEntry x ≤ 1099511627776 := by have := sum_mem (f := zEntry) hm; omega
  unfold zEntry zSketch at hx
  exact ⟨smSpanS (by omega), smIntS (by omega), smIntS (by omega), smIntSS (by omega)⟩
theorem czEntryS (a : List DEntry) : cEntryS a ≤ 10 * zEntryS a := by
  unfold cEntryS zEntryS
  have := sum_le (f := kEntry) (g := zEntry) (n := 6) (l := a) (fun x _ => by
    unfold kEntry zEntry zSketch
    have h0 := czSpanS x.2.2.1
    have h1 := czIntS x.2.2.2.1.2.2.2.2.1
    have h2 := czIntS x.2.2.2.1.2.2.2.2.2.1
    have h3 := czIntSS x.2.2.2.1.2.2.2.2.2.2.1
    omega)
  omega
def sRowS (l : List DRow) : Prop := l.length ≤ 1099511627776 ∧ ∀ x ∈ l, sEntryS x.1
def kRow (a : DRow) : Nat := cEntryS a.1
def cRowS (l : List DRow) : Nat := (l.map kRow).sum
theorem smRowS {a : List DRow} (h : zRowS a ≤ 1099511627776) : sRowS a := by
  unfold zRowS at h
  refine ⟨by omega, fun x hm => ?_⟩
  have hx : zRow x ≤ 1099511627776 := by have := sum_mem (f := zRow) hm; omega
  unfold zRow at hx
  exact smEntryS (by omega)
theorem czRowS (a : List DRow) : cRowS a ≤ 10 * zRowS a := by
  unfold cRowS zRowS
  have := sum_le (f := kRow) (g := zRow) (n := 0) (l := a) (fun x _ => by
    unfold kRow zRow
    have h0 := czEntryS x.1
    omega)
  omega
def sRowSS (l : List (List DRow)) : Prop := l.length ≤ 1099511627776 ∧ ∀ x ∈ l, sRowS x
def cRowSS (l : List (List DRow)) : Nat := (l.map cRowS).sum
theorem smRowSS {a : List (List DRow)} (h : zRowSS a ≤ 1099511627776) : sRowSS a := by
  unfold zRowSS at h
  exact ⟨by omega, fun x hm => smRowS (by have := sum_mem (f := zRowS) hm; omega)⟩
theorem czRowSS (a : List (List DRow)) : cRowSS a ≤ 10 * zRowSS a := by
  unfold cRowSS zRowSS
  have := sum_le (f := cRowS) (g := zRowS) (n := 0) (l := a) (fun x _ => by have := czRowS x; omega)
  omega
def sTurnS (l : List DTurn) : Prop := l.length ≤ 1099511627776 ∧ ∀ x ∈ l, sIntS x.2.2.1
def kTurn (a : DTurn) : Nat := 2 + cIntS a.2.2.1
def cTurnS (l : List DTurn) : Nat := (l.map kTurn).sum
theorem smTurnS {a : List DTurn} (h : zTurnS a ≤ 1099511627776) : sTurnS a := by
  unfold zTurnS at h
  refine ⟨by omega, fun x hm => ?_⟩
  have hx : zTurn x ≤ 1099511627776 := by have := sum_mem (f := zTurn) hm; omega
  unfold zTurn at hx
  exact smIntS (by omega)
theorem czTurnS (a : List DTurn) : cTurnS a ≤ 10 * zTurnS a := by
  unfold cTurnS zTurnS
  have := sum_le (f := kTurn) (g := zTurn) (n := 2) (l := a) (fun x _ => by
    unfold kTurn zTurn
    have h0 := czIntS x.2.2.1
    omega)
  omega
def sOutS (l : List DOut) : Prop := l.length ≤ 1099511627776 ∧ ∀ x ∈ l, sSpanS x.2.1.2.2.1 ∧ sIntS x.2.1.2.2.2.1.2.2.2.2.1 ∧ sIntS x.2.1.2.2.2.1.2.2.2.2.2.1 ∧ sIntSS x.2.1.2.2.2.1.2.2.2.2.2.2.1
def kOut (a : DOut) : Nat := 7 + cSpanS a.2.1.2.2.1 + cIntS a.2.1.2.2.2.1.2.2.2.2.1 + cIntS a.2.1.2.2.2.1.2.2.2.2.2.1 + cIntSS a.2.1.2.2.2.1.2.2.2.2.2.2.1
def cOutS (l : List DOut) : Nat := (l.map kOut).sum
theorem smOutS {a : List DOut} (h : zOutS a ≤ 1099511627776) : sOutS a := by
  unfold zOutS at h
  refine ⟨by omega, fun x hm => ?_⟩
  have hx : zOut x ≤ 1099511627776 := by have := sum_mem (f := zOut) hm; omega
  unfold zOut zEntry zSketch at hx
  exact ⟨smSpanS (by omega), smIntS (by omega), smIntS (by omega), smIntSS (by omega)⟩
theorem czOutS (a : List DOut) : cOutS a ≤ 10 * zOutS a := by
  unfold cOutS zOutS
  have := sum_le (f := kOut) (g := zOut) (n := 7) (l := a) (fun x _ => by
    unfold kOut zOut zEntry zSketch
    have h0 := czSpanS x.2.1.2.2.1
    have h1 := czIntS x.2.1.2.2.2.1.2.2.2.2.1
    have h2 := czIntS x.2.1.2.2.2.1.2.2.2.2.2.1
    have h3 := czIntSS x.2.1.2.2.2.1.2.2.2.2.2.2.1
    omega)
  omega
def sHouse (a : DHouse) : Prop := sConf a.1 ∧ sSeatS a.2.2.2.1 ∧ sRowSS a.2.2.2.2.1 ∧ sTurnS a.2.2.2.2.2.1 ∧ sEntryS a.2.2.2.2.2.2.2.1 ∧ sOutS a.2.2.2.2.2.2.2.2.1
def cHouse (a : DHouse) : Nat := cConf a.1 + cSeatS a.2.2.2.1 + cRowSS a.2.2.2.2.1 + cTurnS a.2.2.2.2.2.1 + cEntryS a.2.2.2.2.2.2.2.1 + cOutS a.2.2.2.2.2.2.2.2.1
theorem smHouse {a : DHouse} (h : zHouse a ≤ 1099511627776) : sHouse a := by
  unfold zHouse at h
  exact ⟨smConf (by omega), smSeatS (by omega), smRowSS (by omega), smTurnS (by omega), smEntryS (by omega), smOutS (by omega)⟩
theorem czHouse (a : DHouse) : cHouse a ≤ 10 * zHouse a := by
  unfold cHouse zHouse
  have h0 := czConf a.1
  have h1 := czSeatS a.2.2.2.1
  have h2 := czRowSS a.2.2.2.2.1
  have h3 := czTurnS a.2.2.2.2.2.1
  have h4 := czEntryS a.2.2.2.2.2.2.2.1
  have h5 := czOutS a.2.2.2.2.2.2.2.2.1
  omega
theorem maIntS (l : List Int) (k : Int) (hh : sIntS l) (h0 : 0 ≤ k) (h1 : k + (cIntS l : Int) ≤ 1000000000000000) : ∃ l', F.laws_markIntS l k = some (k + (cIntS l : Int), l') := by
  have h : l.length ≤ 1099511627776 := hh
  have hsum : (l.map fun _ => 1).sum = cIntS l := by
    unfold cIntS
    clear hh h h1
    induction l with
    | nil => rfl
    | cons x l ih => simp only [List.map_cons, List.sum_cons, ih, List.length_cons]; omega
  obtain ⟨l', g1⟩ := loop_mark1 (mstep := F.laws_markIntS.s2) 0 (fun _ => 1) 1000000000000000 l k h0 (by rw [hsum]; exact h1) (fun x hx k hk hB => by
    refine ⟨k, fun i m hi hl hx => ?_⟩
    · unfold F.laws_markIntS.s2
      simp only
      rw [lt_len hi]
      simp only [cond_true, inb_nat hi, chk_true, Int.toNat_natCast, w64_nat (show i < 9223372036854775807 by omega), w64_id (x := k + 1) (by omega) (by omega)]
      rfl) (fun m k => by
    unfold F.laws_markIntS.s2
    simp only [ge_len, cond_false])
  rw [hsum] at g1
  refine ⟨l', ?_⟩
  unfold F.laws_markIntS
  simp only [g1, afterO]
theorem maConf (a : DConf) (k : Int) (hh : sConf a) (h0 : 0 ≤ k) (h1 : k + (cConf a : Int) ≤ 1000000000000000) : ∃ a', F.laws_markConf a k = some (k + (cConf a : Int), a') := by
  have hc : cConf a = cIntS a.2.2.2.1 := rfl
  unfold sConf at hh
  obtain ⟨l0, a0⟩ := maIntS a.2.2.2.1 (k) hh (by omega) (by omega)
  have ho : k + (cIntS a.2.2.2.1 : Int) = k + (cConf a : Int) := by omega
  refine ⟨_, by unfold F.laws_markConf; simp only [a0, Option.bind_some]; rw [ho]⟩
theorem maSpanS (l : List DSpan) (k : Int) (hh : sSpanS l) (h0 : 0 ≤ k) (h1 : k + (cSpanS l : Int) ≤ 1000000000000000) : ∃ l', F.laws_markSpanS l k = some (k + (cSpanS l : Int), l') := by
  obtain ⟨h, hs⟩ := hh
  obtain ⟨l', g1⟩ := loop_mark1 (mstep := F.laws_markSpanS.s2) (0, 0, ()) kSpan 1000000000000000 l k h0 h1 (fun x hx k hk hB => by
    have hc : kSpan x = 2 := rfl
    have ho : k + 1 + 1 = k + (kSpan x : Int) := by omega
    refine ⟨(k, k + 1, ()), fun i m hi hl hx => ?_⟩
    · unfold F.laws_markSpanS.s2
      simp only
      rw [lt_len hi]
      simp only [cond_true, inb_nat hi, chk_true, Int.toNat_natCast, Option.bind_some, List.length_set, getD_set_self hi, hx, List.set_set, w64_nat (show i < 9223372036854775807 by omega), w64_id (x := k + 1) (by omega) (by omega), w64_id (x := k + 1 + 1) (by omega) (by omega)]
      rw [ho]) (fun m k => by
    unfold F.laws_markSpanS.s2
    simp only [ge_len, cond_false])
  refine ⟨l', ?_⟩
  unfold F.laws_markSpanS
  simp only [g1, afterO]; rfl
theorem maSeatS (l : List DSeat) (k : Int) (hh : sSeatS l) (h0 : 0 ≤ k) (h1 : k + (cSeatS l : Int) ≤ 1000000000000000) : ∃ l', F.laws_markSeatS l k = some (k + (cSeatS l : Int), l') := by
  obtain ⟨h, hs⟩ := hh
  obtain ⟨l', g1⟩ := loop_mark1 (mstep := F.laws_markSeatS.s2) (0, 0, ([] : List DSpan), 0, 0, ()) kSeat 1000000000000000 l k h0 h1 (fun x hx k hk hB => by
    have hc : kSeat x = 4 + cSpanS x.2.2.1 := rfl
    obtain ⟨l1, a1⟩ := maSpanS x.2.2.1 (k + 1 + 1) (hs x hx) (by omega) (by omega)
    have ho : k + 1 + 1 + (cSpanS x.2.2.1 : Int) + 1 + 1 = k + (kSeat x : Int) := by omega
    refine ⟨(k, k + 1, l1, k + 1 + 1 + (cSpanS x.2.2.1 : Int), k + 1 + 1 + (cSpanS x.2.2.1 : Int) + 1, ()), fun i m hi hl hx => ?_⟩
    · unfold F.laws_markSeatS.s2
      simp only
      rw [lt_len hi]
      simp only [cond_true, inb_nat hi, chk_true, Int.toNat_natCast, Option.bind_some, List.length_set, getD_set_self hi, hx, List.set_set, w64_nat (show i < 9223372036854775807 by omega), w64_id (x := k + 1) (by omega) (by omega), w64_id (x := k + 1 + 1) (by omega) (by omega), w64_id (x := k + 1 + 1 + (cSpanS x.2.2.1 : Int) + 1) (by omega) (by omega), w64_id (x := k + 1 + 1 + (cSpanS x.2.2.1 : Int) + 1 + 1) (by omega) (by omega), a1]
      rw [ho]) (fun m k => by
    unfold F.laws_markSeatS.s2
    simp only [ge_len, cond_false])
  refine ⟨l', ?_⟩
  unfold F.laws_markSeatS
  simp only [g1, afterO]; rfl
theorem maIntSS (l : List (List Int)) (k : Int) (hh : sIntSS l) (h0 : 0 ≤ k) (h1 : k + (cIntSS l : Int) ≤ 1000000000000000) : ∃ l', F.laws_markIntSS l k = some (k + (cIntSS l : Int), l') := by
  obtain ⟨h, hs⟩ := hh
  obtain ⟨l', g1⟩ := loop_mark1 (mstep := F.laws_markIntSS.s2) ([] : List Int) cIntS 1000000000000000 l k h0 h1 (fun x hx k hk hB => by
    obtain ⟨x', a1⟩ := maIntS x k (hs x hx) hk hB
    refine ⟨x', fun i m hi hl hx => ?_⟩
    · unfold F.laws_markIntSS.s2
      simp only
      rw [lt_len hi]
      simp only [cond_true, inb_nat hi, chk_true, Int.toNat_natCast, hx, a1, Option.bind_some, w64_nat (show i < 9223372036854775807 by omega)]) (fun m k => by
    unfold F.laws_markIntSS.s2
    simp only [ge_len, cond_false])
  refine ⟨l', ?_⟩
  unfold F.laws_markIntSS
  simp only [g1, afterO]; rfl
theorem maEntryS (l : List DEntry) (k : Int) (hh : sEntryS l) (h0 : 0 ≤ k) (h1 : k + (cEntryS l : Int) ≤ 1000000000000000) : ∃ l', F.laws_markEntryS l k = some (k + (cEntryS l : Int), l') := by
  obtain ⟨h, hs⟩ := hh
  obtain ⟨l', g1⟩ := loop_mark1 (mstep := F.laws_markEntryS.s2) (0, 0, ([] : List DSpan), (0, 0, 0, 0, ([] : List Int), ([] : List Int), ([] : List (List Int)), ()), ()) kEntry 1000000000000000 l k h0 h1 (fun x hx k hk hB => by
    have hc : kEntry x = 6 + cSpanS x.2.2.1 + cIntS x.2.2.2.1.2.2.2.2.1 + cIntS x.2.2.2.1.2.2.2.2.2.1 + cIntSS x.2.2.2.1.2.2.2.2.2.2.1 := rfl
    obtain ⟨l1, a1⟩ := maSpanS x.2.2.1 (k + 1 + 1) (hs x hx).1 (by omega) (by omega)
    obtain ⟨l2, a2⟩ := maIntS x.2.2.2.1.2.2.2.2.1 (k + 1 + 1 + (cSpanS x.2.2.1 : Int) + 1 + 1 + 1 + 1) (hs x hx).2.1 (by omega) (by omega)
    obtain ⟨l3, a3⟩ := maIntS x.2.2.2.1.2.2.2.2.2.1 (k + 1 + 1 + (cSpanS x.2.2.1 : Int) + 1 + 1 + 1 + 1 + (cIntS x.2.2.2.1.2.2.2.2.1 : Int)) (hs x hx).2.2.1 (by omega) (by omega)
    obtain ⟨l4, a4⟩ := maIntSS x.2.2.2.1.2.2.2.2.2.2.1 (k + 1 + 1 + (cSpanS x.2.2.1 : Int) + 1 + 1 + 1 + 1 + (cIntS x.2.2.2.1.2.2.2.2.1 : Int) + (cIntS x.2.2.2.1.2.2.2.2.2.1 : Int)) (hs x hx).2.2.2 (by omega) (by omega)
    have ho : k + 1 + 1 + (cSpanS x.2.2.1 : Int) + 1 + 1 + 1 + 1 + (cIntS x.2.2.2.1.2.2.2.2.1 : Int) + (cIntS x.2.2.2.1.2.2.2.2.2.1 : Int) + (cIntSS x.2.2.2.1.2.2.2.2.2.2.1 : Int) = k + (kEntry x : Int) := by omega
    refine ⟨(k, k + 1, l1, (k + 1 + 1 + (cSpanS x.2.2.1 : Int), k + 1 + 1 + (cSpanS x.2.2.1 : Int) + 1, k + 1 + 1 + (cSpanS x.2.2.1 : Int) + 1 + 1, k + 1 + 1 + (cSpanS x.2.2.1 : Int) + 1 + 1 + 1, l2, l3, l4, ()), ()), fun i m hi hl hx => ?_⟩
    · unfold F.laws_markEntryS.s2
      simp only
      rw [lt_len hi]
      simp only [cond_true, inb_nat hi, chk_true, Int.toNat_natCast, Option.bind_some, List.length_set, getD_set_self hi, hx, List.set_set, w64_nat (show i < 9223372036854775807 by omega), w64_id (x := k + 1) (by omega) (by omega), w64_id (x := k + 1 + 1) (by omega) (by omega), w64_id (x := k + 1 + 1 + (cSpanS x.2.2.1 : Int) + 1) (by omega) (by omega), w64_id (x := k + 1 + 1 + (cSpanS x.2.2.1 : Int) + 1 + 1) (by omega) (by omega), w64_id (x := k + 1 + 1 + (cSpanS x.2.2.1 : Int) + 1 + 1 + 1) (by omega) (by omega), w64_id (x := k + 1 + 1 + (cSpanS x.2.2.1 : Int) + 1 + 1 + 1 + 1) (by omega) (by omega), a1, a2, a3, a4]
      rw [ho]) (fun m k => by
    unfold F.laws_markEntryS.s2
    simp only [ge_len, cond_false])
  refine ⟨l', ?_⟩
  unfold F.laws_markEntryS
  simp only [g1, afterO]; rfl
theorem maRowS (l : List DRow) (k : Int) (hh : sRowS l) (h0 : 0 ≤ k) (h1 : k + (cRowS l : Int) ≤ 1000000000000000) : ∃ l', F.laws_markRowS l k = some (k + (cRowS l : Int), l') := by
  obtain ⟨h, hs⟩ := hh
  obtain ⟨l', g1⟩ := loop_mark1 (mstep := F.laws_markRowS.s2) (([] : List DEntry), ()) kRow 1000000000000000 l k h0 h1 (fun x hx k hk hB => by
    have hc : kRow x = cEntryS x.1 := rfl
    obtain ⟨l1, a1⟩ := maEntryS x.1 (k) (hs x hx) (by omega) (by omega)
    have ho : k + (cEntryS x.1 : Int) = k + (kRow x : Int) := by omega
    refine ⟨(l1, ()), fun i m hi hl hx => ?_⟩
    · unfold F.laws_markRowS.s2
      simp only
      rw [lt_len hi]
      simp only [cond_true, inb_nat hi, chk_true, Int.toNat_natCast, Option.bind_some, List.length_set, getD_set_self hi, hx, List.set_set, w64_nat (show i < 9223372036854775807 by omega), a1]
      rw [ho]) (fun m k => by
    unfold F.laws_markRowS.s2
    simp only [ge_len, cond_false])
  refine ⟨l', ?_⟩
  unfold F.laws_markRowS
  simp only [g1, afterO]; rfl
theorem maRowSS (l : List (List DRow)) (k : Int) (hh : sRowSS l) (h0 : 0 ≤ k) (h1 : k + (cRowSS l : Int) ≤ 1000000000000000) : ∃ l', F.laws_markRowSS l k = some (k + (cRowSS l : Int), l') := by
  obtain ⟨h, hs⟩ := hh
  obtain ⟨l', g1⟩ := loop_mark1 (mstep := F.laws_markRowSS.s2) ([] : List DRow) cRowS 1000000000000000 l k h0 h1 (fun x hx k hk hB => by
    obtain ⟨x', a1⟩ := maRowS x k (hs x hx) hk hB
    refine ⟨x', fun i m hi hl hx => ?_⟩
    · unfold F.laws_markRowSS.s2
      simp only
      rw [lt_len hi]
      simp only [cond_true, inb_nat hi, chk_true, Int.toNat_natCast, hx, a1, Option.bind_some, w64_nat (show i < 9223372036854775807 by omega)]) (fun m k => by
    unfold F.laws_markRowSS.s2
    simp only [ge_len, cond_false])
  refine ⟨l', ?_⟩
  unfold F.laws_markRowSS
  simp only [g1, afterO]; rfl
theorem maTurnS (l : List DTurn) (k : Int) (hh : sTurnS l) (h0 : 0 ≤ k) (h1 : k + (cTurnS l : Int) ≤ 1000000000000000) : ∃ l', F.laws_markTurnS l k = some (k + (cTurnS l : Int), l') := by
  obtain ⟨h, hs⟩ := hh
  obtain ⟨l', g1⟩ := loop_mark1 (mstep := F.laws_markTurnS.s2) (0, false, ([] : List Int), ()) kTurn 1000000000000000 l k h0 h1 (fun x hx k hk hB => by
    have hc : kTurn x = 2 + cIntS x.2.2.1 := rfl
    obtain ⟨l1, a1⟩ := maIntS x.2.2.1 (k + 1 + 1) (hs x hx) (by omega) (by omega)
    have ho : k + 1 + 1 + (cIntS x.2.2.1 : Int) = k + (kTurn x : Int) := by omega
    refine ⟨(k, Int.tmod (k + 1) 3 == 0, l1, ()), fun i m hi hl hx => ?_⟩
    · unfold F.laws_markTurnS.s2
      simp only
      rw [lt_len hi]
      simp only [cond_true, inb_nat hi, chk_true, Int.toNat_natCast, Option.bind_some, List.length_set, getD_set_self hi, hx, List.set_set, w64_nat (show i < 9223372036854775807 by omega), w64_id (x := k + 1) (by omega) (by omega), w64_id (x := k + 1 + 1) (by omega) (by omega), a1]
      rw [ho]) (fun m k => by
    unfold F.laws_markTurnS.s2
    simp only [ge_len, cond_false])
  refine ⟨l', ?_⟩
  unfold F.laws_markTurnS
  simp only [g1, afterO]; rfl
theorem maOutS (l : List DOut) (k : Int) (hh : sOutS l) (h0 : 0 ≤ k) (h1 : k + (cOutS l : Int) ≤ 1000000000000000) : ∃ l', F.laws_markOutS l k = some (k + (cOutS l : Int), l') := by
  obtain ⟨h, hs⟩ := hh
  obtain ⟨l', g1⟩ := loop_mark1 (mstep := F.laws_markOutS.s2) (0, (0, 0, ([] : List DSpan), (0, 0, 0, 0, ([] : List Int), ([] : List Int), ([] : List (List Int)), ()), ()), ()) kOut 1000000000000000 l k h0 h1 (fun x hx k hk hB => by
    have hc : kOut x = 7 + cSpanS x.2.1.2.2.1 + cIntS x.2.1.2.2.2.1.2.2.2.2.1 + cIntS x.2.1.2.2.2.1.2.2.2.2.2.1 + cIntSS x.2.1.2.2.2.1.2.2.2.2.2.2.1 := rfl
    obtain ⟨l1, a1⟩ := maSpanS x.2.1.2.2.1 (k + 1 + 1 + 1) (hs x hx).1 (by omega) (by omega)
    obtain ⟨l2, a2⟩ := maIntS x.2.1.2.2.2.1.2.2.2.2.1 (k + 1 + 1 + 1 + (cSpanS x.2.1.2.2.1 : Int) + 1 + 1 + 1 + 1) (hs x hx).2.1 (by omega) (by omega)
    obtain ⟨l3, a3⟩ := maIntS x.2.1.2.2.2.1.2.2.2.2.2.1 (k + 1 + 1 + 1 + (cSpanS x.2.1.2.2.1 : Int) + 1 + 1 + 1 + 1 + (cIntS x.2.1.2.2.2.1.2.2.2.2.1 : Int)) (hs x hx).2.2.1 (by omega) (by omega)
    obtain ⟨l4, a4⟩ := maIntSS x.2.1.2.2.2.1.2.2.2.2.2.2.1 (k + 1 + 1 + 1 + (cSpanS x.2.1.2.2.1 : Int) + 1 + 1 + 1 + 1 + (cIntS x.2.1.2.2.2.1.2.2.2.2.1 : Int) + (cIntS x.2.1.2.2.2.1.2.2.2.2.2.1 : Int)) (hs x hx).2.2.2 (by omega) (by omega)
    have ho : k + 1 + 1 + 1 + (cSpanS x.2.1.2.2.1 : Int) + 1 + 1 + 1 + 1 + (cIntS x.2.1.2.2.2.1.2.2.2.2.1 : Int) + (cIntS x.2.1.2.2.2.1.2.2.2.2.2.1 : Int) + (cIntSS x.2.1.2.2.2.1.2.2.2.2.2.2.1 : Int) = k + (kOut x : Int) := by omega
    refine ⟨(k, (k + 1, k + 1 + 1, l1, (k + 1 + 1 + 1 + (cSpanS x.2.1.2.2.1 : Int), k + 1 + 1 + 1 + (cSpanS x.2.1.2.2.1 : Int) + 1, k + 1 + 1 + 1 + (cSpanS x.2.1.2.2.1 : Int) + 1 + 1, k + 1 + 1 + 1 + (cSpanS x.2.1.2.2.1 : Int) + 1 + 1 + 1, l2, l3, l4, ()), ()), ()), fun i m hi hl hx => ?_⟩
    · unfold F.laws_markOutS.s2
      simp only
      rw [lt_len hi]
      simp only [cond_true, inb_nat hi, chk_true, Int.toNat_natCast, Option.bind_some, List.length_set, getD_set_self hi, hx, List.set_set, w64_nat (show i < 9223372036854775807 by omega), w64_id (x := k + 1) (by omega) (by omega), w64_id (x := k + 1 + 1) (by omega) (by omega), w64_id (x := k + 1 + 1 + 1) (by omega) (by omega), w64_id (x := k + 1 + 1 + 1 + (cSpanS x.2.1.2.2.1 : Int) + 1) (by omega) (by omega), w64_id (x := k + 1 + 1 + 1 + (cSpanS x.2.1.2.2.1 : Int) + 1 + 1) (by omega) (by omega), w64_id (x := k + 1 + 1 + 1 + (cSpanS x.2.1.2.2.1 : Int) + 1 + 1 + 1) (by omega) (by omega), w64_id (x := k + 1 + 1 + 1 + (cSpanS x.2.1.2.2.1 : Int) + 1 + 1 + 1 + 1) (by omega) (by omega), a1, a2, a3, a4]
      rw [ho]) (fun m k => by
    unfold F.laws_markOutS.s2
    simp only [ge_len, cond_false])
  refine ⟨l', ?_⟩
  unfold F.laws_markOutS
  simp only [g1, afterO]; rfl
theorem maHouse (a : DHouse) (k : Int) (hh : sHouse a) (h0 : 0 ≤ k) (h1 : k + (cHouse a : Int) ≤ 1000000000000000) : ∃ a', F.laws_markHouse a k = some (k + (cHouse a : Int), a') := by
  have hc : cHouse a = cConf a.1 + cSeatS a.2.2.2.1 + cRowSS a.2.2.2.2.1 + cTurnS a.2.2.2.2.2.1 + cEntryS a.2.2.2.2.2.2.2.1 + cOutS a.2.2.2.2.2.2.2.2.1 := rfl
  unfold sHouse at hh
  obtain ⟨l0, a0⟩ := maConf a.1 (k) hh.1 (by omega) (by omega)
  obtain ⟨l1, a1⟩ := maSeatS a.2.2.2.1 (k + (cConf a.1 : Int)) hh.2.1 (by omega) (by omega)
  obtain ⟨l2, a2⟩ := maRowSS a.2.2.2.2.1 (k + (cConf a.1 : Int) + (cSeatS a.2.2.2.1 : Int)) hh.2.2.1 (by omega) (by omega)
  obtain ⟨l3, a3⟩ := maTurnS a.2.2.2.2.2.1 (k + (cConf a.1 : Int) + (cSeatS a.2.2.2.1 : Int) + (cRowSS a.2.2.2.2.1 : Int)) hh.2.2.2.1 (by omega) (by omega)
  obtain ⟨l4, a4⟩ := maEntryS a.2.2.2.2.2.2.2.1 (k + (cConf a.1 : Int) + (cSeatS a.2.2.2.1 : Int) + (cRowSS a.2.2.2.2.1 : Int) + (cTurnS a.2.2.2.2.2.1 : Int)) hh.2.2.2.2.1 (by omega) (by omega)
  obtain ⟨l5, a5⟩ := maOutS a.2.2.2.2.2.2.2.2.1 (k + (cConf a.1 : Int) + (cSeatS a.2.2.2.1 : Int) + (cRowSS a.2.2.2.2.1 : Int) + (cTurnS a.2.2.2.2.2.1 : Int) + (cEntryS a.2.2.2.2.2.2.2.1 : Int)) hh.2.2.2.2.2 (by omega) (by omega)
  have ho : k + (cConf a.1 : Int) + (cSeatS a.2.2.2.1 : Int) + (cRowSS a.2.2.2.2.1 : Int) + (cTurnS a.2.2.2.2.2.1 : Int) + (cEntryS a.2.2.2.2.2.2.2.1 : Int) + (cOutS a.2.2.2.2.2.2.2.2.1 : Int) = k + (cHouse a : Int) := by omega
  refine ⟨_, by unfold F.laws_markHouse; simp only [a0, a1, a2, a3, a4, a5, Option.bind_some]; rw [ho]⟩
theorem mhIntS (l : List Int) (k : Int) (hh : sIntS l) (h0 : 0 ≤ k) (h1 : k + (cIntS l : Int) ≤ 1000000000000000) : ∃ l', F.laws_markIntS l k = some (k + (cIntS l : Int), l') ∧ F.laws_heldIntS l' k = some (k + (cIntS l : Int)) := by
  have h : l.length ≤ 1099511627776 := hh
  have hsum : (l.map fun _ => 1).sum = cIntS l := by
    unfold cIntS
    clear hh h h1
    induction l with
    | nil => rfl
    | cons x l ih => simp only [List.map_cons, List.sum_cons, ih, List.length_cons]; omega
  obtain ⟨l', g1, g2⟩ := loop_mark (mstep := F.laws_markIntS.s2) (hstep := F.laws_heldIntS.s2) 0 (fun _ => 1) 1000000000000000 l k h0 (by rw [hsum]; exact h1) (fun x hx k hk hB => by
    refine ⟨k, fun i m hi hl hx => ?_, fun i m hi hl hx => ?_⟩
    · unfold F.laws_markIntS.s2
      simp only
      rw [lt_len hi]
      simp only [cond_true, inb_nat hi, chk_true, Int.toNat_natCast, w64_nat (show i < 9223372036854775807 by omega), w64_id (x := k + 1) (by omega) (by omega)]
      rfl
    · unfold F.laws_heldIntS.s2
      simp only
      rw [lt_len hi]
      simp only [cond_true, cond_false, inb_nat hi, chk_true, Int.toNat_natCast, hx, bne_self_eq_false, w64_nat (show i < 9223372036854775807 by omega), w64_id (x := k + 1) (by omega) (by omega)]
      rfl) (fun m k => by
    unfold F.laws_markIntS.s2
    simp only [ge_len, cond_false]) (fun m k => by
    unfold F.laws_heldIntS.s2
    simp only [ge_len, cond_false])
  rw [hsum] at g1 g2
  refine ⟨l', ?_, ?_⟩
  · unfold F.laws_markIntS
    simp only [g1, afterO]
  · unfold F.laws_heldIntS
    simp only [g2, afterO]
theorem mhConf (a : DConf) (k : Int) (hh : sConf a) (h0 : 0 ≤ k) (h1 : k + (cConf a : Int) ≤ 1000000000000000) : ∃ a', F.laws_markConf a k = some (k + (cConf a : Int), a') ∧ F.laws_heldConf a' k = some (k + (cConf a : Int)) := by
  have hc : cConf a = cIntS a.2.2.2.1 := rfl
  unfold sConf at hh
  obtain ⟨l0, a0, b0⟩ := mhIntS a.2.2.2.1 (k) hh (by omega) (by omega)
  have ho : k + (cIntS a.2.2.2.1 : Int) = k + (cConf a : Int) := by omega
  refine ⟨_, by unfold F.laws_markConf; simp only [a0, Option.bind_some]; rw [ho], ?_⟩
  unfold F.laws_heldConf
  simp only [b0, show decide (k + (cIntS a.2.2.2.1 : Int) < 0) = false from decide_eq_false (by omega), Option.bind_some, cond_false]
  rw [ho]
theorem mhSpanS (l : List DSpan) (k : Int) (hh : sSpanS l) (h0 : 0 ≤ k) (h1 : k + (cSpanS l : Int) ≤ 1000000000000000) : ∃ l', F.laws_markSpanS l k = some (k + (cSpanS l : Int), l') ∧ F.laws_heldSpanS l' k = some (k + (cSpanS l : Int)) := by
  obtain ⟨h, hs⟩ := hh
  obtain ⟨l', g1, g2⟩ := loop_mark (mstep := F.laws_markSpanS.s2) (hstep := F.laws_heldSpanS.s2) (0, 0, ()) kSpan 1000000000000000 l k h0 h1 (fun x hx k hk hB => by
    have hc : kSpan x = 2 := rfl
    have ho : k + 1 + 1 = k + (kSpan x : Int) := by omega
    refine ⟨(k, k + 1, ()), fun i m hi hl hx => ?_, fun i m hi hl hx => ?_⟩
    · unfold F.laws_markSpanS.s2
      simp only
      rw [lt_len hi]
      simp only [cond_true, inb_nat hi, chk_true, Int.toNat_natCast, Option.bind_some, List.length_set, getD_set_self hi, hx, List.set_set, w64_nat (show i < 9223372036854775807 by omega), w64_id (x := k + 1) (by omega) (by omega), w64_id (x := k + 1 + 1) (by omega) (by omega)]
      rw [ho]
    · unfold F.laws_heldSpanS.s2
      simp only
      rw [lt_len hi]
      simp only [cond_true, cond_false, inb_nat hi, chk_true, Int.toNat_natCast, Option.bind_some, hx, bne_self_eq_false, beq_self_eq_true, Bool.not_true, w64_nat (show i < 9223372036854775807 by omega), w64_id (x := k + 1) (by omega) (by omega), w64_id (x := k + 1 + 1) (by omega) (by omega)]
      rw [ho]) (fun m k => by
    unfold F.laws_markSpanS.s2
    simp only [ge_len, cond_false]) (fun m k => by
    unfold F.laws_heldSpanS.s2
    simp only [ge_len, cond_false])
  refine ⟨l', ?_, ?_⟩
  · unfold F.laws_markSpanS
    simp only [g1, afterO]; rfl
  · unfold F.laws_heldSpanS
    simp only [g2, afterO]; rfl
theorem mhSeatS (l : List DSeat) (k : Int) (hh : sSeatS l) (h0 : 0 ≤ k) (h1 : k + (cSeatS l : Int) ≤ 1000000000000000) : ∃ l', F.laws_markSeatS l k = some (k + (cSeatS l : Int), l') ∧ F.laws_heldSeatS l' k = some (k + (cSeatS l : Int)) := by
  obtain ⟨h, hs⟩ := hh
  obtain ⟨l', g1, g2⟩ := loop_mark (mstep := F.laws_markSeatS.s2) (hstep := F.laws_heldSeatS.s2) (0, 0, ([] : List DSpan), 0, 0, ()) kSeat 1000000000000000 l k h0 h1 (fun x hx k hk hB => by
    have hc : kSeat x = 4 + cSpanS x.2.2.1 := rfl
    obtain ⟨l1, a1, b1⟩ := mhSpanS x.2.2.1 (k + 1 + 1) (hs x hx) (by omega) (by omega)
    have ho : k + 1 + 1 + (cSpanS x.2.2.1 : Int) + 1 + 1 = k + (kSeat x : Int) := by omega
    refine ⟨(k, k + 1, l1, k + 1 + 1 + (cSpanS x.2.2.1 : Int), k + 1 + 1 + (cSpanS x.2.2.1 : Int) + 1, ()), fun i m hi hl hx => ?_, fun i m hi hl hx => ?_⟩
    · unfold F.laws_markSeatS.s2
      simp only
      rw [lt_len hi]
      simp only [cond_true, inb_nat hi, chk_true, Int.toNat_natCast, Option.bind_some, List.length_set, getD_set_self hi, hx, List.set_set, w64_nat (show i < 9223372036854775807 by omega), w64_id (x := k + 1) (by omega) (by omega), w64_id (x := k + 1 + 1) (by omega) (by omega), w64_id (x := k + 1 + 1 + (cSpanS x.2.2.1 : Int) + 1) (by omega) (by omega), w64_id (x := k + 1 + 1 + (cSpanS x.2.2.1 : Int) + 1 + 1) (by omega) (by omega), a1]
      rw [ho]
    · unfold F.laws_heldSeatS.s2
      simp only
      rw [lt_len hi]
      simp only [cond_true, cond_false, inb_nat hi, chk_true, Int.toNat_natCast, Option.bind_some, hx, bne_self_eq_false, beq_self_eq_true, Bool.not_true, w64_nat (show i < 9223372036854775807 by omega), w64_id (x := k + 1) (by omega) (by omega), w64_id (x := k + 1 + 1) (by omega) (by omega), w64_id (x := k + 1 + 1 + (cSpanS x.2.2.1 : Int) + 1) (by omega) (by omega), w64_id (x := k + 1 + 1 + (cSpanS x.2.2.1 : Int) + 1 + 1) (by omega) (by omega), b1, show decide (k + 1 + 1 + (cSpanS x.2.2.1 : Int) < 0) = false from decide_eq_false (by omega)]
      rw [ho]) (fun m k => by
    unfold F.laws_markSeatS.s2
    simp only [ge_len, cond_false]) (fun m k => by
    unfold F.laws_heldSeatS.s2
    simp only [ge_len, cond_false])
  refine ⟨l', ?_, ?_⟩
  · unfold F.laws_markSeatS
    simp only [g1, afterO]; rfl
  · unfold F.laws_heldSeatS
    simp only [g2, afterO]; rfl
theorem mhIntSS (l : List (List Int)) (k : Int) (hh : sIntSS l) (h0 : 0 ≤ k) (h1 : k + (cIntSS l : Int) ≤ 1000000000000000) : ∃ l', F.laws_markIntSS l k = some (k + (cIntSS l : Int), l') ∧ F.laws_heldIntSS l' k = some (k + (cIntSS l : Int)) := by
  obtain ⟨h, hs⟩ := hh
  obtain ⟨l', g1, g2⟩ := loop_mark (mstep := F.laws_markIntSS.s2) (hstep := F.laws_heldIntSS.s2) ([] : List Int) cIntS 1000000000000000 l k h0 h1 (fun x hx k hk hB => by
    obtain ⟨x', a1, b1⟩ := mhIntS x k (hs x hx) hk hB
    refine ⟨x', fun i m hi hl hx => ?_, fun i m hi hl hx => ?_⟩
    · unfold F.laws_markIntSS.s2
      simp only
      rw [lt_len hi]
      simp only [cond_true, inb_nat hi, chk_true, Int.toNat_natCast, hx, a1, Option.bind_some, w64_nat (show i < 9223372036854775807 by omega)]
    · unfold F.laws_heldIntSS.s2
      simp only
      rw [lt_len hi]
      simp only [cond_true, inb_nat hi, chk_true, Int.toNat_natCast, hx, b1, Option.bind_some, w64_nat (show i < 9223372036854775807 by omega), show decide (k + (cIntS x : Int) < 0) = false from decide_eq_false (by omega), cond_false]) (fun m k => by
    unfold F.laws_markIntSS.s2
    simp only [ge_len, cond_false]) (fun m k => by
    unfold F.laws_heldIntSS.s2
    simp only [ge_len, cond_false])
  refine ⟨l', ?_, ?_⟩
  · unfold F.laws_markIntSS
    simp only [g1, afterO]; rfl
  · unfold F.laws_heldIntSS
    simp only [g2, afterO]; rfl
theorem mhEntryS (l : List DEntry) (k : Int) (hh : sEntryS l) (h0 : 0 ≤ k) (h1 : k + (cEntryS l : Int) ≤ 1000000000000000) : ∃ l', F.laws_markEntryS l k = some (k + (cEntryS l : Int), l') ∧ F.laws_heldEntryS l' k = some (k + (cEntryS l : Int)) := by
  obtain ⟨h, hs⟩ := hh
  obtain ⟨l', g1, g2⟩ := loop_mark (mstep := F.laws_markEntryS.s2) (hstep := F.laws_heldEntryS.s2) (0, 0, ([] : List DSpan), (0, 0, 0, 0, ([] : List Int), ([] : List Int), ([] : List (List Int)), ()), ()) kEntry 1000000000000000 l k h0 h1 (fun x hx k hk hB => by
    have hc : kEntry x = 6 + cSpanS x.2.2.1 + cIntS x.2.2.2.1.2.2.2.2.1 + cIntS x.2.2.2.1.2.2.2.2.2.1 + cIntSS x.2.2.2.1.2.2.2.2.2.2.1 := rfl
    obtain ⟨l1, a1, b1⟩ := mhSpanS x.2.2.1 (k + 1 + 1) (hs x hx).1 (by omega) (by omega)
    obtain ⟨l2, a2, b2⟩ := mhIntS x.2.2.2.1.2.2.2.2.1 (k + 1 + 1 + (cSpanS x.2.2.1 : Int) + 1 + 1 + 1 + 1) (hs x hx).2.1 (by omega) (by omega)
    obtain ⟨l3, a3, b3⟩ := mhIntS x.2.2.2.1.2.2.2.2.2.1 (k + 1 + 1 + (cSpanS x.2.2.1 : Int) + 1 + 1 + 1 + 1 + (cIntS x.2.2.2.1.2.2.2.2.1 : Int)) (hs x hx).2.2.1 (by omega) (by omega)
    obtain ⟨l4, a4, b4⟩ := mhIntSS x.2.2.2.1.2.2.2.2.2.2.1 (k + 1 + 1 + (cSpanS x.2.2.1 : Int) + 1 + 1 + 1 + 1 + (cIntS x.2.2.2.1.2.2.2.2.1 : Int) + (cIntS x.2.2.2.1.2.2.2.2.2.1 : Int)) (hs x hx).2.2.2 (by omega) (by omega)
    have ho : k + 1 + 1 + (cSpanS x.2.2.1 : Int) + 1 + 1 + 1 + 1 + (cIntS x.2.2.2.1.2.2.2.2.1 : Int) + (cIntS x.2.2.2.1.2.2.2.2.2.1 : Int) + (cIntSS x.2.2.2.1.2.2.2.2.2.2.1 : Int) = k + (kEntry x : Int) := by omega
    refine ⟨(k, k + 1, l1, (k + 1 + 1 + (cSpanS x.2.2.1 : Int), k + 1 + 1 + (cSpanS x.2.2.1 : Int) + 1, k + 1 + 1 + (cSpanS x.2.2.1 : Int) + 1 + 1, k + 1 + 1 + (cSpanS x.2.2.1 : Int) + 1 + 1 + 1, l2, l3, l4, ()), ()), fun i m hi hl hx => ?_, fun i m hi hl hx => ?_⟩
    · unfold F.laws_markEntryS.s2
      simp only
      rw [lt_len hi]
      simp only [cond_true, inb_nat hi, chk_true, Int.toNat_natCast, Option.bind_some, List.length_set, getD_set_self hi, hx, List.set_set, w64_nat (show i < 9223372036854775807 by omega), w64_id (x := k + 1) (by omega) (by omega), w64_id (x := k + 1 + 1) (by omega) (by omega), w64_id (x := k + 1 + 1 + (cSpanS x.2.2.1 : Int) + 1) (by omega) (by omega), w64_id (x := k + 1 + 1 + (cSpanS x.2.2.1 : Int) + 1 + 1) (by omega) (by omega), w64_id (x := k + 1 + 1 + (cSpanS x.2.2.1 : Int) + 1 + 1 + 1) (by omega) (by omega), w64_id (x := k + 1 + 1 + (cSpanS x.2.2.1 : Int) + 1 + 1 + 1 + 1) (by omega) (by omega), a1, a2, a3, a4]
      rw [ho]
    · unfold F.laws_heldEntryS.s2
      simp only
      rw [lt_len hi]
      simp only [cond_true, cond_false, inb_nat hi, chk_true, Int.toNat_natCast, Option.bind_some, hx, bne_self_eq_false, beq_self_eq_true, Bool.not_true, w64_nat (show i < 9223372036854775807 by omega), w64_id (x := k + 1) (by omega) (by omega), w64_id (x := k + 1 + 1) (by omega) (by omega), w64_id (x := k + 1 + 1 + (cSpanS x.2.2.1 : Int) + 1) (by omega) (by omega), w64_id (x := k + 1 + 1 + (cSpanS x.2.2.1 : Int) + 1 + 1) (by omega) (by omega), w64_id (x := k + 1 + 1 + (cSpanS x.2.2.1 : Int) + 1 + 1 + 1) (by omega) (by omega), w64_id (x := k + 1 + 1 + (cSpanS x.2.2.1 : Int) + 1 + 1 + 1 + 1) (by omega) (by omega), b1, show decide (k + 1 + 1 + (cSpanS x.2.2.1 : Int) < 0) = false from decide_eq_false (by omega), b2, show decide (k + 1 + 1 + (cSpanS x.2.2.1 : Int) + 1 + 1 + 1 + 1 + (cIntS x.2.2.2.1.2.2.2.2.1 : Int) < 0) = false from decide_eq_false (by omega), b3, show decide (k + 1 + 1 + (cSpanS x.2.2.1 : Int) + 1 + 1 + 1 + 1 + (cIntS x.2.2.2.1.2.2.2.2.1 : Int) + (cIntS x.2.2.2.1.2.2.2.2.2.1 : Int) < 0) = false from decide_eq_false (by omega), b4, show decide (k + 1 + 1 + (cSpanS x.2.2.1 : Int) + 1 + 1 + 1 + 1 + (cIntS x.2.2.2.1.2.2.2.2.1 : Int) + (cIntS x.2.2.2.1.2.2.2.2.2.1 : Int) + (cIntSS x.2.2.2.1.2.2.2.2.2.2.1 : Int) < 0) = false from decide_eq_false (by omega)]
      rw [ho]) (fun m k => by
    unfold F.laws_markEntryS.s2
    simp only [ge_len, cond_false]) (fun m k => by
    unfold F.laws_heldEntryS.s2
    simp only [ge_len, cond_false])
  refine ⟨l', ?_, ?_⟩
  · unfold F.laws_markEntryS
    simp only [g1, afterO]; rfl
  · unfold F.laws_heldEntryS
    simp only [g2, afterO]; rfl
theorem mhRowS (l : List DRow) (k : Int) (hh : sRowS l) (h0 : 0 ≤ k) (h1 : k + (cRowS l : Int) ≤ 1000000000000000) : ∃ l', F.laws_markRowS l k = some (k + (cRowS l : Int), l') ∧ F.laws_heldRowS l' k = some (k + (cRowS l : Int)) := by
  obtain ⟨h, hs⟩ := hh
  obtain ⟨l', g1, g2⟩ := loop_mark (mstep := F.laws_markRowS.s2) (hstep := F.laws_heldRowS.s2) (([] : List DEntry), ()) kRow 1000000000000000 l k h0 h1 (fun x hx k hk hB => by
    have hc : kRow x = cEntryS x.1 := rfl
    obtain ⟨l1, a1, b1⟩ := mhEntryS x.1 (k) (hs x hx) (by omega) (by omega)
    have ho : k + (cEntryS x.1 : Int) = k + (kRow x : Int) := by omega
    refine ⟨(l1, ()), fun i m hi hl hx => ?_, fun i m hi hl hx => ?_⟩
    · unfold F.laws_markRowS.s2
      simp only
      rw [lt_len hi]
      simp only [cond_true, inb_nat hi, chk_true, Int.toNat_natCast, Option.bind_some, List.length_set, getD_set_self hi, hx, List.set_set, w64_nat (show i < 9223372036854775807 by omega), a1]
      rw [ho]
    · unfold F.laws_heldRowS.s2
      simp only
      rw [lt_len hi]
      simp only [cond_true, cond_false, inb_nat hi, chk_true, Int.toNat_natCast, Option.bind_some, hx, bne_self_eq_false, beq_self_eq_true, Bool.not_true, w64_nat (show i < 9223372036854775807 by omega), b1, show decide (k + (cEntryS x.1 : Int) < 0) = false from decide_eq_false (by omega)]
      rw [ho]) (fun m k => by
    unfold F.laws_markRowS.s2
    simp only [ge_len, cond_false]) (fun m k => by
    unfold F.laws_heldRowS.s2
    simp only [ge_len, cond_false])
  refine ⟨l', ?_, ?_⟩
  · unfold F.laws_markRowS
    simp only [g1, afterO]; rfl
  · unfold F.laws_heldRowS
    simp only [g2, afterO]; rfl
theorem mhRowSS (l : List (List DRow)) (k : Int) (hh : sRowSS l) (h0 : 0 ≤ k) (h1 : k + (cRowSS l : Int) ≤ 1000000000000000) : ∃ l', F.laws_markRowSS l k = some (k + (cRowSS l : Int), l') ∧ F.laws_heldRowSS l' k = some (k + (cRowSS l : Int)) := by
  obtain ⟨h, hs⟩ := hh
  obtain ⟨l', g1, g2⟩ := loop_mark (mstep := F.laws_markRowSS.s2) (hstep := F.laws_heldRowSS.s2) ([] : List DRow) cRowS 1000000000000000 l k h0 h1 (fun x hx k hk hB => by
    obtain ⟨x', a1, b1⟩ := mhRowS x k (hs x hx) hk hB
    refine ⟨x', fun i m hi hl hx => ?_, fun i m hi hl hx => ?_⟩
    · unfold F.laws_markRowSS.s2
      simp only
      rw [lt_len hi]
      simp only [cond_true, inb_nat hi, chk_true, Int.toNat_natCast, hx, a1, Option.bind_some, w64_nat (show i < 9223372036854775807 by omega)]
    · unfold F.laws_heldRowSS.s2
      simp only
      rw [lt_len hi]
      simp only [cond_true, inb_nat hi, chk_true, Int.toNat_natCast, hx, b1, Option.bind_some, w64_nat (show i < 9223372036854775807 by omega), show decide (k + (cRowS x : Int) < 0) = false from decide_eq_false (by omega), cond_false]) (fun m k => by
    unfold F.laws_markRowSS.s2
    simp only [ge_len, cond_false]) (fun m k => by
    unfold F.laws_heldRowSS.s2
    simp only [ge_len, cond_false])
  refine ⟨l', ?_, ?_⟩
  · unfold F.laws_markRowSS
    simp only [g1, afterO]; rfl
  · unfold F.laws_heldRowSS
    simp only [g2, afterO]; rfl
theorem mhTurnS (l : List DTurn) (k : Int) (hh : sTurnS l) (h0 : 0 ≤ k) (h1 : k + (cTurnS l : Int) ≤ 1000000000000000) : ∃ l', F.laws_markTurnS l k = some (k + (cTurnS l : Int), l') ∧ F.laws_heldTurnS l' k = some (k + (cTurnS l : Int)) := by
  obtain ⟨h, hs⟩ := hh
  obtain ⟨l', g1, g2⟩ := loop_mark (mstep := F.laws_markTurnS.s2) (hstep := F.laws_heldTurnS.s2) (0, false, ([] : List Int), ()) kTurn 1000000000000000 l k h0 h1 (fun x hx k hk hB => by
    have hc : kTurn x = 2 + cIntS x.2.2.1 := rfl
    obtain ⟨l1, a1, b1⟩ := mhIntS x.2.2.1 (k + 1 + 1) (hs x hx) (by omega) (by omega)
    have ho : k + 1 + 1 + (cIntS x.2.2.1 : Int) = k + (kTurn x : Int) := by omega
    refine ⟨(k, Int.tmod (k + 1) 3 == 0, l1, ()), fun i m hi hl hx => ?_, fun i m hi hl hx => ?_⟩
    · unfold F.laws_markTurnS.s2
      simp only
      rw [lt_len hi]
      simp only [cond_true, inb_nat hi, chk_true, Int.toNat_natCast, Option.bind_some, List.length_set, getD_set_self hi, hx, List.set_set, w64_nat (show i < 9223372036854775807 by omega), w64_id (x := k + 1) (by omega) (by omega), w64_id (x := k + 1 + 1) (by omega) (by omega), a1]
      rw [ho]
    · unfold F.laws_heldTurnS.s2
      simp only
      rw [lt_len hi]
      simp only [cond_true, cond_false, inb_nat hi, chk_true, Int.toNat_natCast, Option.bind_some, hx, bne_self_eq_false, beq_self_eq_true, Bool.not_true, w64_nat (show i < 9223372036854775807 by omega), w64_id (x := k + 1) (by omega) (by omega), w64_id (x := k + 1 + 1) (by omega) (by omega), b1, show decide (k + 1 + 1 + (cIntS x.2.2.1 : Int) < 0) = false from decide_eq_false (by omega)]
      rw [ho]) (fun m k => by
    unfold F.laws_markTurnS.s2
    simp only [ge_len, cond_false]) (fun m k => by
    unfold F.laws_heldTurnS.s2
    simp only [ge_len, cond_false])
  refine ⟨l', ?_, ?_⟩
  · unfold F.laws_markTurnS
    simp only [g1, afterO]; rfl
  · unfold F.laws_heldTurnS
    simp only [g2, afterO]; rfl
theorem mhOutS (l : List DOut) (k : Int) (hh : sOutS l) (h0 : 0 ≤ k) (h1 : k + (cOutS l : Int) ≤ 1000000000000000) : ∃ l', F.laws_markOutS l k = some (k + (cOutS l : Int), l') ∧ F.laws_heldOutS l' k = some (k + (cOutS l : Int)) := by
  obtain ⟨h, hs⟩ := hh
  obtain ⟨l', g1, g2⟩ := loop_mark (mstep := F.laws_markOutS.s2) (hstep := F.laws_heldOutS.s2) (0, (0, 0, ([] : List DSpan), (0, 0, 0, 0, ([] : List Int), ([] : List Int), ([] : List (List Int)), ()), ()), ()) kOut 1000000000000000 l k h0 h1 (fun x hx k hk hB => by
    have hc : kOut x = 7 + cSpanS x.2.1.2.2.1 + cIntS x.2.1.2.2.2.1.2.2.2.2.1 + cIntS x.2.1.2.2.2.1.2.2.2.2.2.1 + cIntSS x.2.1.2.2.2.1.2.2.2.2.2.2.1 := rfl
    obtain ⟨l1, a1, b1⟩ := mhSpanS x.2.1.2.2.1 (k + 1 + 1 + 1) (hs x hx).1 (by omega) (by omega)
    obtain ⟨l2, a2, b2⟩ := mhIntS x.2.1.2.2.2.1.2.2.2.2.1 (k + 1 + 1 + 1 + (cSpanS x.2.1.2.2.1 : Int) + 1 + 1 + 1 + 1) (hs x hx).2.1 (by omega) (by omega)
    obtain ⟨l3, a3, b3⟩ := mhIntS x.2.1.2.2.2.1.2.2.2.2.2.1 (k + 1 + 1 + 1 + (cSpanS x.2.1.2.2.1 : Int) + 1 + 1 + 1 + 1 + (cIntS x.2.1.2.2.2.1.2.2.2.2.1 : Int)) (hs x hx).2.2.1 (by omega) (by omega)
    obtain ⟨l4, a4, b4⟩ := mhIntSS x.2.1.2.2.2.1.2.2.2.2.2.2.1 (k + 1 + 1 + 1 + (cSpanS x.2.1.2.2.1 : Int) + 1 + 1 + 1 + 1 + (cIntS x.2.1.2.2.2.1.2.2.2.2.1 : Int) + (cIntS x.2.1.2.2.2.1.2.2.2.2.2.1 : Int)) (hs x hx).2.2.2 (by omega) (by omega)
    have ho : k + 1 + 1 + 1 + (cSpanS x.2.1.2.2.1 : Int) + 1 + 1 + 1 + 1 + (cIntS x.2.1.2.2.2.1.2.2.2.2.1 : Int) + (cIntS x.2.1.2.2.2.1.2.2.2.2.2.1 : Int) + (cIntSS x.2.1.2.2.2.1.2.2.2.2.2.2.1 : Int) = k + (kOut x : Int) := by omega
    refine ⟨(k, (k + 1, k + 1 + 1, l1, (k + 1 + 1 + 1 + (cSpanS x.2.1.2.2.1 : Int), k + 1 + 1 + 1 + (cSpanS x.2.1.2.2.1 : Int) + 1, k + 1 + 1 + 1 + (cSpanS x.2.1.2.2.1 : Int) + 1 + 1, k + 1 + 1 + 1 + (cSpanS x.2.1.2.2.1 : Int) + 1 + 1 + 1, l2, l3, l4, ()), ()), ()), fun i m hi hl hx => ?_, fun i m hi hl hx => ?_⟩
    · unfold F.laws_markOutS.s2
      simp only
      rw [lt_len hi]
      simp only [cond_true, inb_nat hi, chk_true, Int.toNat_natCast, Option.bind_some, List.length_set, getD_set_self hi, hx, List.set_set, w64_nat (show i < 9223372036854775807 by omega), w64_id (x := k + 1) (by omega) (by omega), w64_id (x := k + 1 + 1) (by omega) (by omega), w64_id (x := k + 1 + 1 + 1) (by omega) (by omega), w64_id (x := k + 1 + 1 + 1 + (cSpanS x.2.1.2.2.1 : Int) + 1) (by omega) (by omega), w64_id (x := k + 1 + 1 + 1 + (cSpanS x.2.1.2.2.1 : Int) + 1 + 1) (by omega) (by omega), w64_id (x := k + 1 + 1 + 1 + (cSpanS x.2.1.2.2.1 : Int) + 1 + 1 + 1) (by omega) (by omega), w64_id (x := k + 1 + 1 + 1 + (cSpanS x.2.1.2.2.1 : Int) + 1 + 1 + 1 + 1) (by omega) (by omega), a1, a2, a3, a4]
      rw [ho]
    · unfold F.laws_heldOutS.s2
      simp only
      rw [lt_len hi]
      simp only [cond_true, cond_false, inb_nat hi, chk_true, Int.toNat_natCast, Option.bind_some, hx, bne_self_eq_false, beq_self_eq_true, Bool.not_true, w64_nat (show i < 9223372036854775807 by omega), w64_id (x := k + 1) (by omega) (by omega), w64_id (x := k + 1 + 1) (by omega) (by omega), w64_id (x := k + 1 + 1 + 1) (by omega) (by omega), w64_id (x := k + 1 + 1 + 1 + (cSpanS x.2.1.2.2.1 : Int) + 1) (by omega) (by omega), w64_id (x := k + 1 + 1 + 1 + (cSpanS x.2.1.2.2.1 : Int) + 1 + 1) (by omega) (by omega), w64_id (x := k + 1 + 1 + 1 + (cSpanS x.2.1.2.2.1 : Int) + 1 + 1 + 1) (by omega) (by omega), w64_id (x := k + 1 + 1 + 1 + (cSpanS x.2.1.2.2.1 : Int) + 1 + 1 + 1 + 1) (by omega) (by omega), b1, show decide (k + 1 + 1 + 1 + (cSpanS x.2.1.2.2.1 : Int) < 0) = false from decide_eq_false (by omega), b2, show decide (k + 1 + 1 + 1 + (cSpanS x.2.1.2.2.1 : Int) + 1 + 1 + 1 + 1 + (cIntS x.2.1.2.2.2.1.2.2.2.2.1 : Int) < 0) = false from decide_eq_false (by omega), b3, show decide (k + 1 + 1 + 1 + (cSpanS x.2.1.2.2.1 : Int) + 1 + 1 + 1 + 1 + (cIntS x.2.1.2.2.2.1.2.2.2.2.1 : Int) + (cIntS x.2.1.2.2.2.1.2.2.2.2.2.1 : Int) < 0) = false from decide_eq_false (by omega), b4, show decide (k + 1 + 1 + 1 + (cSpanS x.2.1.2.2.1 : Int) + 1 + 1 + 1 + 1 + (cIntS x.2.1.2.2.2.1.2.2.2.2.1 : Int) + (cIntS x.2.1.2.2.2.1.2.2.2.2.2.1 : Int) + (cIntSS x.2.1.2.2.2.1.2.2.2.2.2.2.1 : Int) < 0) = false from decide_eq_false (by omega)]
      rw [ho]) (fun m k => by
    unfold F.laws_markOutS.s2
    simp only [ge_len, cond_false]) (fun m k => by
    unfold F.laws_heldOutS.s2
    simp only [ge_len, cond_false])
  refine ⟨l', ?_, ?_⟩
  · unfold F.laws_markOutS
    simp only [g1, afterO]; rfl
  · unfold F.laws_heldOutS
    simp only [g2, afterO]; rfl
theorem mhHouse (a : DHouse) (k : Int) (hh : sHouse a) (h0 : 0 ≤ k) (h1 : k + (cHouse a : Int) ≤ 1000000000000000) : ∃ a', F.laws_markHouse a k = some (k + (cHouse a : Int), a') ∧ F.laws_heldHouse a' k = some (k + (cHouse a : Int)) := by
  have hc : cHouse a = cConf a.1 + cSeatS a.2.2.2.1 + cRowSS a.2.2.2.2.1 + cTurnS a.2.2.2.2.2.1 + cEntryS a.2.2.2.2.2.2.2.1 + cOutS a.2.2.2.2.2.2.2.2.1 := rfl
  unfold sHouse at hh
  obtain ⟨l0, a0, b0⟩ := mhConf a.1 (k) hh.1 (by omega) (by omega)
  obtain ⟨l1, a1, b1⟩ := mhSeatS a.2.2.2.1 (k + (cConf a.1 : Int)) hh.2.1 (by omega) (by omega)
  obtain ⟨l2, a2, b2⟩ := mhRowSS a.2.2.2.2.1 (k + (cConf a.1 : Int) + (cSeatS a.2.2.2.1 : Int)) hh.2.2.1 (by omega) (by omega)
  obtain ⟨l3, a3, b3⟩ := mhTurnS a.2.2.2.2.2.1 (k + (cConf a.1 : Int) + (cSeatS a.2.2.2.1 : Int) + (cRowSS a.2.2.2.2.1 : Int)) hh.2.2.2.1 (by omega) (by omega)
  obtain ⟨l4, a4, b4⟩ := mhEntryS a.2.2.2.2.2.2.2.1 (k + (cConf a.1 : Int) + (cSeatS a.2.2.2.1 : Int) + (cRowSS a.2.2.2.2.1 : Int) + (cTurnS a.2.2.2.2.2.1 : Int)) hh.2.2.2.2.1 (by omega) (by omega)
  obtain ⟨l5, a5, b5⟩ := mhOutS a.2.2.2.2.2.2.2.2.1 (k + (cConf a.1 : Int) + (cSeatS a.2.2.2.1 : Int) + (cRowSS a.2.2.2.2.1 : Int) + (cTurnS a.2.2.2.2.2.1 : Int) + (cEntryS a.2.2.2.2.2.2.2.1 : Int)) hh.2.2.2.2.2 (by omega) (by omega)
  have ho : k + (cConf a.1 : Int) + (cSeatS a.2.2.2.1 : Int) + (cRowSS a.2.2.2.2.1 : Int) + (cTurnS a.2.2.2.2.2.1 : Int) + (cEntryS a.2.2.2.2.2.2.2.1 : Int) + (cOutS a.2.2.2.2.2.2.2.2.1 : Int) = k + (cHouse a : Int) := by omega
  refine ⟨_, by unfold F.laws_markHouse; simp only [a0, a1, a2, a3, a4, a5, Option.bind_some]; rw [ho], ?_⟩
  unfold F.laws_heldHouse
  simp only [b0, show decide (k + (cConf a.1 : Int) < 0) = false from decide_eq_false (by omega), b1, show decide (k + (cConf a.1 : Int) + (cSeatS a.2.2.2.1 : Int) < 0) = false from decide_eq_false (by omega), b2, show decide (k + (cConf a.1 : Int) + (cSeatS a.2.2.2.1 : Int) + (cRowSS a.2.2.2.2.1 : Int) < 0) = false from decide_eq_false (by omega), b3, show decide (k + (cConf a.1 : Int) + (cSeatS a.2.2.2.1 : Int) + (cRowSS a.2.2.2.2.1 : Int) + (cTurnS a.2.2.2.2.2.1 : Int) < 0) = false from decide_eq_false (by omega), b4, show decide (k + (cConf a.1 : Int) + (cSeatS a.2.2.2.1 : Int) + (cRowSS a.2.2.2.2.1 : Int) + (cTurnS a.2.2.2.2.2.1 : Int) + (cEntryS a.2.2.2.2.2.2.2.1 : Int) < 0) = false from decide_eq_false (by omega), b5, show decide (k + (cConf a.1 : Int) + (cSeatS a.2.2.2.1 : Int) + (cRowSS a.2.2.2.2.1 : Int) + (cTurnS a.2.2.2.2.2.1 : Int) + (cEntryS a.2.2.2.2.2.2.2.1 : Int) + (cOutS a.2.2.2.2.2.2.2.2.1 : Int) < 0) = false from decide_eq_false (by omega), Option.bind_some, cond_false]
  rw [ho]
theorem fnExactNextOf_law (a : DHouse) (fa : fHouse a) : F.laws_FnExactNextOf a = some true := by
  unfold F.laws_FnExactNextOf
  rw [szHouse a (1048576) fa (by omega) (by omega)]
  by_cases ga : (zHouse a : Int) ≤ (1048576 : Int)
  case neg => rw [if_neg ga]; rfl
  rw [if_pos ga]
  simp only [Option.bind_some]
  rw [show decide ((1048576 : Int) - (zHouse a : Int) < 0) = false from decide_eq_false (by omega)]
  simp only [cond_false]
  obtain ⟨r, hs, hi, hz⟩ := nextOf_same a (by omega)
  have qa := czHouse a
  obtain ⟨ma, a0⟩ := maHouse a (1) (smHouse (by omega)) (by omega) (by omega)
  have hz0 := hz
  have p0 := czHouse r.2.2
  obtain ⟨n0, b0, d0⟩ := mhHouse r.2.2 (1) (smHouse hz) (by omega) (by omega)
  simp only [hs, hi, Option.bind_some, bne_self_eq_false, beq_self_eq_true, Bool.not_true, cond_false, toHouse a (by omega), eqHouse a (by omega), eqHouse r.2.2 hz, a0, show decide ((1 : Int) + (cHouse a : Int) < 0) = false from decide_eq_false (by omega), b0, d0, show decide ((1 : Int) + (cHouse r.2.2 : Int) < 0) = false from decide_eq_false (by omega)]
end Go.Proofs.YtipaepbmdooekaaGreat.Vm
