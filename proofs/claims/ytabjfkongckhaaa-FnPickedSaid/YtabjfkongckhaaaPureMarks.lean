/- Lists are marked, and the marks are read. -/
import Derived.Test.YtabjfkongckhaaaPureOwed
namespace Go.Proofs.Ytabjfkongckhaaa.Vm
open Go Go.RowKit
set_option linter.unusedVariables false

/-- v, v + 1, .. -/
def marks (v : Int) : Nat → List Int
  | 0 => []
  | n + 1 => v :: marks (v + 1) n
theorem marks_len : ∀ (n : Nat) (v : Int), (marks v n).length = n
  | 0, v => rfl
  | n + 1, v => by simp [marks, marks_len n]
theorem marks_at : ∀ (n i : Nat) (v : Int), i < n → (marks v n)[i]? = some (v + i)
  | 0, i, v, h => by omega
  | n + 1, 0, v, h => by simp [marks]
  | n + 1, i + 1, v, h => by
    simp only [marks, List.getElem?_cons_succ]
    rw [marks_at n i (v + 1) (by omega)]
    congr 1
    omega
/-- Marked up to i. -/
def mixd (v : Int) (a : List Int) (i : Nat) : List Int := marks v i ++ a.drop i
theorem mixd_len {v : Int} {a : List Int} {i : Nat} (h : i ≤ a.length) : (mixd v a i).length = a.length := by
  unfold mixd; rw [List.length_append, marks_len, List.length_drop]; omega
theorem marks_succ : ∀ (n : Nat) (v : Int), marks v (n + 1) = marks v n ++ [v + n]
  | 0, v => by simp [marks]
  | n + 1, v => by
    show v :: marks (v + 1) (n + 1) = (v :: marks (v + 1) n) ++ [v + ((n + 1 : Nat) : Int)]
    rw [marks_succ n (v + 1), List.cons_append]
    congr 2
    simp; omega
theorem mixd_step {v : Int} {a : List Int} {i : Nat} (h : i < a.length) : (mixd v a i).set i (v + i) = mixd v a (i + 1) := by
  unfold mixd
  rw [List.set_append_right _ _ (by rw [marks_len]; omega), marks_len, Nat.sub_self, List.drop_eq_getElem_cons h, List.set_cons_zero, marks_succ, List.append_assoc]
  rfl
theorem markIntS_eq (a : List Int) (v : Int) (h : a.length ≤ 1048576) (h0 : 0 ≤ v) (h1 : v ≤ 1000000000000) : F.laws_markIntS a v = some (v + (a.length : Int), marks v a.length) := by
  unfold F.laws_markIntS
  have hl := loop_run (step := F.laws_markIntS.s2) (fun i => (v + (i : Int), (i : Int), mixd v a i, ())) a.length (fun i hi => by
    unfold F.laws_markIntS.s2
    simp only
    rw [show decide ((i : Int) < len (mixd v a i)) = true from lt_len (by rw [mixd_len (by omega)]; exact hi), inb_nat (by rw [mixd_len (by omega)]; exact hi), w64_nat (by omega), Int.toNat_natCast, mixd_step hi, w64_id (x := v + (i : Int) + 1) (by omega) (by omega)]
    simp only [chk_true, cond_true]
    rw [show v + (i : Int) + 1 = v + ((i + 1 : Nat) : Int) by omega]) (l := .exit (v + (a.length : Int), (a.length : Int), marks v a.length, ())) (y := .inl (v + (a.length : Int), (a.length : Int), marks v a.length, ())) (by
    unfold F.laws_markIntS.s2
    simp only
    have hm : mixd v a a.length = marks v a.length := by unfold mixd; rw [List.drop_length, List.append_nil]
    rw [hm, show decide (((a.length : Nat) : Int) < len (marks v a.length)) = false from decide_eq_false (by simp only [len, marks_len]; omega)]
    rfl) rfl
  have h00 : mixd v a 0 = a := by unfold mixd; simp [marks]
  have hl : loopO F.laws_markIntS.s2 (v + ((0 : Nat) : Int), ((0 : Nat) : Int), mixd v a 0, ()) = _ := hl
  rw [h00, show v + ((0 : Nat) : Int) = v by omega, show ((0 : Nat) : Int) = 0 from rfl] at hl
  rw [hl]; rfl
theorem heldIntS_eq (n : Nat) (v : Int) (h : n ≤ 1048576) (h0 : 0 ≤ v) (h1 : v ≤ 1000000000000) : F.laws_heldIntS (marks v n) v = some (v + (n : Int)) := by
  unfold F.laws_heldIntS
  have hl := loop_run (step := F.laws_heldIntS.s2) (fun i => (marks v n, v + (i : Int), (i : Int), ())) n (fun i hi => by
    unfold F.laws_heldIntS.s2
    simp only
    have hlen : i < (marks v n).length := by rw [marks_len]; exact hi
    have hat : (marks v n).getD i 0 = v + (i : Int) := by rw [List.getD_eq_getElem?_getD, marks_at n i v hi]; rfl
    rw [lt_len hlen, inb_nat hlen, Int.toNat_natCast, hat, bne_self_eq_false, w64_nat (by omega), w64_id (x := v + (i : Int) + 1) (by omega) (by omega)]
    simp only [chk_true, cond_true, cond_false]
    rw [show v + (i : Int) + 1 = v + ((i + 1 : Nat) : Int) by omega]) (l := .exit (marks v n, v + (n : Int), (n : Int), ())) (y := .inl (marks v n, v + (n : Int), (n : Int), ())) (by
    unfold F.laws_heldIntS.s2
    simp only
    rw [show decide ((n : Int) < len (marks v n)) = false from decide_eq_false (by simp only [len, marks_len]; omega)]
    rfl) rfl
  have hl : loopO F.laws_heldIntS.s2 (marks v n, v + ((0 : Nat) : Int), ((0 : Nat) : Int), ()) = _ := hl
  rw [show v + ((0 : Nat) : Int) = v by omega, show ((0 : Nat) : Int) = 0 from rfl] at hl
  rw [hl]; rfl
end Go.Proofs.Ytabjfkongckhaaa.Vm
