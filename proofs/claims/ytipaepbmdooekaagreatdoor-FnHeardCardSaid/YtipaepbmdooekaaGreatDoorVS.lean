/- slices.SortFunc over spans: the shelf's contract, as a call's contract of this machine. -/
import Derived.Test.YtipaepbmdooekaaGreatDoorV3
import Derived.Test.YtipaepbmdooekaaGreatDoorVS0
import Derived.Shelf.SlSortCmp.NoneTotal
namespace Go.Proofs.YtipaepbmdooekaaGreatDoor.Vm
open Go Go.RowKit
set_option linter.unusedVariables false

/-- Two numbers. -/
abbrev spT : Ty := .cons (.int .i64) (.cons (.int .i64) .nil)
/-- What a row of cells holds, in the shelf's words. -/
theorem holds_of {w : World} {b o : Nat} {row : Array Value} {e : TypeId} {l : List SpD} (hb : Row w b row e) (hr : o + l.length * 2 ≤ row.size)
    (hd : ∀ (i : Nat) (d : SpD), l[i]? = some d → ∀ j v, (encS d)[j]? = some v → row[o + i * 2 + j]? = some v) : Go.Sort.HoldsK encS 2 w b o l.toArray := by
  intro t ht
  rw [Go.Sort.size_flatK] at ht
  simp only [List.size_toArray] at ht
  have hi : t / 2 < l.length := by omega
  have hm : t % 2 < 2 := Nat.mod_lt _ (by omega)
  have e1 : o + t / 2 * 2 + t % 2 = o + t := by omega
  refine ⟨?_, hb.frozen (by omega)⟩
  rw [hb.cell]
  have hg : (l.toArray)[t / 2]! = l[t / 2] := by rw [getElem!_pos _ _ (by simpa using hi)]; simp
  have h2 : (encS l[t / 2])[t % 2]? = some (encS l[t / 2])[t % 2]! := by
    have : t % 2 < (encS l[t / 2]).length := hm
    exact (List.getElem?_eq_getElem this).trans (congrArg some (getElem!_pos (encS l[t / 2]) (t % 2) this).symm)
  have := hd (t / 2) l[t / 2] (List.getElem?_eq_getElem hi) (t % 2) _ h2
  rw [e1] at this
  rw [this, Go.Sort.get_flatK _ _ _ _ (by simpa using ht), hg]; rfl
/-- The row, after the sort. -/
theorem row_after {w : World} {b o : Nat} {row : Array Value} {e : TypeId} {d : Array SpD} {n : Nat} {os : Array Obj} (hb : Row w b row e) (hr : o + d.size * 2 ≤ row.size) :
    ∃ row', Row (sortWorldK encS 2 w b o n d os) b row' e ∧ row'.size = row.size ∧ ∀ (i : Nat) (x : SpD), d.toList[i]? = some x → ∀ j v, (encS x)[j]? = some v → row'[o + i * 2 + j]? = some v := by
  have hlt := hb.lt
  obtain ⟨m, h1, h2⟩ := hb
  refine ⟨Go.Sort.putCells id o (Go.Sort.flatK encS 2 d) row, ⟨m, ?_, ?_⟩, by simp [Go.Sort.putCells], fun i x hx j v hj => ?_⟩
  · show ((w.heap.modify b _) ++ os)[b]? = _
    rw [Array.getElem?_append_left (by simpa using hlt), Array.getElem?_modify]
    simp only [if_true]
    rw [h1]; rfl
  · simpa [Go.Sort.putCells] using h2
  · have hi : i < d.size := by
      have := (List.getElem?_eq_some_iff.1 hx).1
      simpa using this
    have hj2 : j < 2 := (List.getElem?_eq_some_iff.1 hj).1
    have ht : i * 2 + j < d.size * 2 := by omega
    unfold Go.Sort.putCells
    rw [Array.getElem?_mapIdx, Array.getElem?_eq_getElem (by omega)]
    simp only [Option.map_some, Go.Sort.size_flatK]
    rw [if_pos ⟨by omega, by omega⟩, show o + i * 2 + j - o = i * 2 + j by omega, Go.Sort.get_flatK _ _ _ _ ht, show (i * 2 + j) / 2 = i by omega, show (i * 2 + j) % 2 = j by omega]
    have hx' : d[i]! = x := by
      rw [getElem!_pos d i hi]
      have := (List.getElem?_eq_some_iff.1 hx).2
      simpa using this
    rw [hx']
    have hq := List.getElem?_eq_some_iff.1 hj
    exact congrArg some ((getElem!_pos (encS x) j hq.1).trans hq.2)
theorem spEr : ∀ d : spT.dec, spT.er d = d := fun ⟨a, b, u⟩ => rfl
theorem spCs : ∀ d : spT.dec, spT.cs d = encS d := fun ⟨a, b, u⟩ => rfl
theorem spFoot : ∀ d : spT.dec, spT.foot d = [] := fun ⟨a, b, u⟩ => rfl
theorem spFoots : ∀ l : List spT.dec, l.flatMap spT.foot = []
  | [] => rfl
  | x :: l => by rw [List.flatMap_cons, spFoot, spFoots l]; rfl
/-- slices.SortFunc over spans. -/
theorem sort_callOK {P : Program} {ρ : Go.Shelf.Ren} (L : SlLaysF0.n6 P ρ) (e : TypeId) (aE : ∀ w, (isAgg (ρ.t 24)).run P w = .ok true w) (zE : ∀ w, (Go.sizeOf (ρ.t 24)).run P w = .ok 2 w) (g : FuncId)
    (eg : ∀ args w, (callFunc g args).run P w = .ok (.enter g args) w) (hcmp : ∀ (blk off size : Nat) (w : World), CmpLays P g #[] encS 2 cfS blk off size w) (hE : Enters P (ρ.f 6)) :
    CallOK P (ρ.f 6) ⟨[.c (.sl true e spT), .r (.fn g .nil)], .many [], fun x => chk (decide (x.1.length ≤ 4000000000000)) (some (sortS x.1))⟩ := by
  refine ⟨hE, (fun t h => by cases h), ?_⟩
  intro w Sh x y vs zs hy _ _ hsh ha hnd hfz
  obtain ⟨x0, x1, u⟩ := x
  obtain ⟨v0, v1, z0, z1, rfl, rfl, h0, h1⟩ : ∃ v0 v1 z0 z1, vs = [v0, v1] ∧ zs = [z0, z1] ∧ ArgOK w Sh (.c (.sl true e spT)) x0 v0 z0 ∧ ArgOK w Sh (.r (.fn g .nil)) x1 v1 z1 := by
    rcases vs with _ | ⟨v0, _ | ⟨v1, _ | ⟨v2, vs⟩⟩⟩ <;> rcases zs with _ | ⟨z0, _ | ⟨z1, _ | ⟨z2, zs⟩⟩⟩ <;> first
      | exact ⟨_, _, _, _, rfl, rfl, ha.1, ha.2.1⟩
      | exact ha.elim
      | exact ha.2.elim
      | exact ha.2.2.elim
  · clear ha
    have hq : x0.length ≤ 4000000000000 ∧ sortS x0 = y := by
      have hy : chk (decide (x0.length ≤ 4000000000000)) (some (sortS x0)) = some y := hy
      unfold chk at hy
      by_cases h : x0.length ≤ 4000000000000
      · rw [decide_eq_true h] at hy
        exact ⟨h, Option.some.inj hy⟩
      · rw [decide_eq_false h] at hy
        cases hy
    obtain ⟨hlim, rfl⟩ := hq
    clear hy
    obtain ⟨⟨cs1, ⟨cc, rfl, hcc⟩, rfl⟩, rfl⟩ := h1
    cases hcc
    obtain ⟨hfl, hb0, her, hok, rfl⟩ := h0
    obtain ⟨⟨t, d⟩, zb, zc⟩ := z0
    cases hb0
    have ht : t = .sl true e spT := congrArg V.t her
    subst ht
    obtain ⟨⟨A, c⟩, l⟩ := d
    have hl : (l.map spT.er) = x0 := by
      have : (⟨.sl true e spT, l.map spT.er⟩ : V) = ⟨.sl true e spT, x0⟩ := her
      injection this with _ h2
    have hl' : l = x0 := by
      rw [← hl]
      exact ((List.map_congr_left fun d _ => spEr d).trans (List.map_id' l)).symm
    clear hl
    subst hl'
    have hperm := sortS_perm l
    have hlen : (sortS l).length = l.length := hperm.length_eq
    rcases hok with ⟨hA, hn⟩ | ⟨b, o, row, hA, hb, hle, hmx, hr, hd⟩
    · cases hA
      have hn : l = [] := hn
      subst hn
      have hs : sortS [] = [] := List.eq_nil_of_length_eq_zero hlen
      have hc := AnyF.slices_SortFunc_none L none 0 (.func (.func g) #[] #[]) w
      refine hc.mono ?_
      rintro e' w' ⟨rfl, rfl⟩
      refine ⟨.tuple #[], Sh, [], [⟨⟨.sl true e spT, ((none, 0), [])⟩, none, []⟩], rfl, ⟨rfl, rfl, rfl, Nat.le_refl _, fun _ _ _ => rfl, fun _ h => h, fun b h => ⟨.inl h, hsh b h⟩, by exact List.nodup_nil, (fun b hb => by cases hb)⟩, ⟨[], rfl, (fun z hz => by cases hz), rfl, rfl⟩, ?_⟩
      refine ⟨rfl, rfl, ?_, .inl ⟨rfl, rfl⟩, rfl, ?_⟩
      · show (⟨.sl true e spT, []⟩ : V) = ⟨.sl true e spT, sortS []⟩
        rw [hs]
      · exact ⟨rfl, rfl⟩
    · cases hA
      have hle : l.length ≤ c := hle
      have hmx : c ≤ maxLen := hmx
      have hr2 : o + c * 2 ≤ row.size := hr
      have hd : ∀ (i : Nat) (d : spT.dec), l[i]? = some d → Ty.OK w Sh spT d ∧ ∀ (j : Nat) (v : Value), (spT.cs d)[j]? = some v → row[o + i * 2 + j]? = some v := hd
      clear hr
      have hol : o + l.length * 2 ≤ row.size := by omega
      have hH : Go.Sort.HoldsK encS 2 w b o l.toArray := holds_of hb hol (fun i d hi j v hj => (hd i d hi).2 j v ((congrArg (·[j]?) (spCs d)).trans hj))
      have hsz : l.toArray.size < 4611686018427387904 := Nat.lt_of_le_of_lt (m := 4000000000000) hlim (by decide)
      have hc : Calls P (ρ.f 6) #[.slice (some ⟨b, o, none⟩) l.length c, .func (.func g) #[] #[]] w fun e w' => e = .returned (.tuple #[]) ∧ ∃ n os, ∃ dk : Array SpD, dk.toList = sortS l ∧ w' = sortWorldK encS 2 w b o n dk os := (AnyQ.slices_SortFunc_eq L 2 aE zE encS (fun _ => rfl) (fun x v hv => by simp [encS] at hv; rcases hv with rfl | rfl <;> rfl) cfS swoS g #[] b o c l.toArray w eg (hcmp b o l.toArray.size w) hH hb.lt hsz).mono fun _ _ ⟨he, n, os, hw⟩ => ⟨he, n, os, _, rfl, hw⟩
      refine hc.mono ?_
      rintro e' w' ⟨rfl, n, os, dk, hS, rfl⟩
      have hds : dk.size = l.length := by rw [← Array.length_toList, hS]; exact hlen
      obtain ⟨row', hb', hrs, hrd⟩ := row_after (row := row) (n := n) (os := os) (d := dk) hb (by rw [hds]; exact hol)
      have hblt := hb.lt
      have hbf : b ∈ feet [(⟨⟨.sl true e spT, ((some ⟨b, o, none⟩, c), l)⟩, none, zc⟩ : DRoot), noZ] := by
        simp [feet, DRoot.foot, DV.foot, Ty.foot]
      have hfoot : feet ([] : List DRoot) ++ feet [(⟨⟨.sl true e spT, ((some ⟨b, o, none⟩, c), sortS l)⟩, none, []⟩ : DRoot)] = [b] := by
        have : (sortS l).flatMap spT.foot = [] := by
          exact spFoots (sortS l)
        simp only [feet, List.flatMap_nil, List.flatMap_cons, List.nil_append, List.append_nil, DRoot.foot, DV.foot, Ty.foot]
        show [] ++ ([b] ++ (sortS l).flatMap spT.foot) = [b]
        rw [this]; rfl
      refine ⟨.tuple #[], Sh, [], [⟨⟨.sl true e spT, ((some ⟨b, o, none⟩, c), sortS l)⟩, none, []⟩], rfl, ⟨rfl, rfl, rfl, ?_, fun b' hb1 hb2 => ?_, fun _ h => h, fun b h => ⟨.inl h, ?_⟩, ?_, fun b' hb' => ?_⟩, ⟨[], rfl, (fun z hz => by cases hz), rfl, rfl⟩, ?_⟩
      · show w.heap.size ≤ ((w.heap.modify b _) ++ os).size
        rw [Array.size_append, Array.size_modify]; omega
      · have hne : b' ≠ b := fun e => hb2 (e ▸ hbf)
        show ((w.heap.modify b _) ++ os)[b']? = _
        rw [Array.getElem?_append_left (by simpa using hb1), Array.getElem?_modify, if_neg (Ne.symm hne)]
      · have := hsh b h
        show b < ((w.heap.modify _ _) ++ os).size
        rw [Array.size_append, Array.size_modify]; omega
      · rw [hfoot]; exact by simp
      · rw [hfoot] at hb'
        have := List.mem_singleton.1 hb'
        subst this
        refine ⟨(hfz _ hbf).1, ?_, .inr hbf⟩
        show b' < ((w.heap.modify _ _) ++ os).size
        rw [Array.size_append, Array.size_modify]; omega
      · refine ⟨rfl, rfl, ?_, .inr ⟨b, o, row', rfl, hb', ?_, hmx, ?_, fun i d hi => ⟨?_, fun j v hj => ?_⟩⟩, ?_, ?_⟩
        · show (⟨.sl true e spT, (sortS l).map spT.er⟩ : V) = ⟨.sl true e spT, sortS l⟩
          rw [show (sortS l).map spT.er = sortS l from (List.map_congr_left fun d _ => spEr d).trans (List.map_id' _)]
        · show (sortS l).length ≤ c
          omega
        · show o + c * 2 ≤ row'.size
          omega
        · obtain ⟨d0, d1, u⟩ := d
          exact ⟨trivial, trivial, trivial⟩
        · have hi : (sortS l)[i]? = some d := hi
          rw [← hS] at hi
          rw [spCs] at hj
          exact hrd i d hi j v hj
        · show [Value.slice (some ⟨b, o, none⟩) (sortS l).length c] = [Value.slice (some ⟨b, o, none⟩) l.length c]
          rw [hlen]
        · exact ⟨rfl, rfl⟩
end Go.Proofs.YtipaepbmdooekaaGreatDoor.Vm
