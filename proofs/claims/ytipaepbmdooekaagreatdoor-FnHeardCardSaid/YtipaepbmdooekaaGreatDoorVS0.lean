/- Spans sorted as the library sorts them: a permutation, and sorted. -/
import Derived.Shelf.SlSortCmp.WholeK
namespace Go.Proofs.YtipaepbmdooekaaGreatDoor.Vm
open Go Go.RowKit
set_option linter.unusedVariables false

abbrev SpD : Type := Int × Int × Unit
def encS (x : SpD) : List Value := [.int .i64 x.1, .int .i64 x.2.1]
def cfS (x y : SpD) : Int := Lib.compareInt x.1 y.1
theorem ltS (x y : SpD) : Go.Proofs.ltOf cfS x y = decide (x.1 < y.1) := by
  unfold Go.Proofs.ltOf cfS Lib.compareInt
  by_cases h1 : x.1 < y.1
  · simp [h1]
  · by_cases h2 : y.1 < x.1 <;> simp [h1, h2]
theorem swoS : Go.Sort.SWO (Go.Proofs.ltOf cfS) where
  irrefl x := by rw [ltS]; simp
  trans x y z h1 h2 := by rw [ltS] at *; simp at *; omega
  ntrans x y z h1 h2 := by rw [ltS] at *; simp at *; omega
/-- The sorted row. -/
def sortS (l : List SpD) : List SpD := (Go.Sort.pdq (Go.Proofs.ltOf cfS) l.toArray 0 l.toArray.size (Lib.bitLen l.toArray.size) true true).toList
theorem sortS_perm (l : List SpD) : (sortS l).Perm l := by
  have h := (Go.Sort.pdq_sorts (Go.Proofs.ltOf cfS) swoS l.toArray 0 l.toArray.size (Lib.bitLen l.toArray.size) true true (Nat.zero_le _) (Nat.le_refl _) (Or.inl rfl)).1
  unfold sortS
  generalize Go.Sort.pdq (Go.Proofs.ltOf cfS) l.toArray 0 l.toArray.size (Lib.bitLen l.toArray.size) true true = d at h
  obtain ⟨h1, _, h3⟩ := h
  have e1 : d.extract 0 l.toArray.size = d := by rw [← h1, Array.extract_size]
  have e2 : l.toArray.extract 0 l.toArray.size = l.toArray := Array.extract_size
  rw [e1, e2] at h3
  simpa using h3
theorem sortS_sorted (l : List SpD) : (sortS l).Pairwise fun x y => x.1 ≤ y.1 := by
  have h := Go.Sort.pdq_sorts (Go.Proofs.ltOf cfS) swoS l.toArray 0 l.toArray.size (Lib.bitLen l.toArray.size) true true (Nat.zero_le _) (Nat.le_refl _) (Or.inl rfl)
  have hs := h.1.1
  have h2 := h.2
  unfold sortS
  generalize Go.Sort.pdq (Go.Proofs.ltOf cfS) l.toArray 0 l.toArray.size (Lib.bitLen l.toArray.size) true true = d at hs h2
  rw [List.pairwise_iff_getElem]
  intro i j hi hj hij
  have := h2 i j (Nat.zero_le _) hij (by rw [← hs]; simpa using hj)
  rw [ltS] at this
  simp only [Array.length_toList] at hi hj
  rw [getElem!_pos d i hi, getElem!_pos d j hj] at this
  have := of_decide_eq_false this
  simp only [Array.getElem_toList]
  omega
end Go.Proofs.YtipaepbmdooekaaGreatDoor.Vm
