/- Numbers and spans, marked and held. -/
import Derived.Test.YtabjfkongckhaaaPureLists
import Derived.Test.YtabjfkongckhaaaPureMarks
namespace Go.Proofs.Ytabjfkongckhaaa.Vm
open Go Go.RowKit
set_option linter.unusedVariables false



theorem mh_IntS (a : List Int) (k : Int) (h : a.length ≤ 1048576) (h0 : 0 ≤ k) (h1 : k + (a.length : Int) ≤ 1000000000000) : ∃ a', F.laws_markIntS a k = some (k + (a.length : Int), a') ∧ F.laws_heldIntS a' k = some (k + (a.length : Int)) :=
  ⟨_, markIntS_eq a k h h0 (by omega), heldIntS_eq a.length k h h0 (by omega)⟩
theorem mh_SpanS (a : List (Int × Int × Unit)) (k : Int) (h : a.length ≤ 1048576) (h0 : 0 ≤ k) (h1 : k + 2 * (a.length : Int) ≤ 1000000000000) : ∃ a', F.laws_markSpanS a k = some (k + 2 * (a.length : Int), a') ∧ F.laws_heldSpanS a' k = some (k + 2 * (a.length : Int)) := by
  have e2 : (a.map (fun _ : Int × Int × Unit => 2)).sum = 2 * a.length := by
    clear h h0 h1
    induction a with
    | nil => rfl
    | cons x l ih => simp only [List.map_cons, List.sum_cons, ih, List.length_cons]; omega
  have hs : (((a.map (fun _ : Int × Int × Unit => 2)).sum : Nat) : Int) = 2 * (a.length : Int) := by rw [e2]; omega
  obtain ⟨l', g1, g2⟩ := loop_mark (mstep := F.laws_markSpanS.s2) (hstep := F.laws_heldSpanS.s2) (0, 0, ()) (fun _ => 2) 1000000000000 a k h0 (by rw [hs]; exact h1) (fun x _ k hk hB => by
    refine ⟨(k, k + 1, ()), fun i m hi hl hx => ?_, fun i m hi hl hx => ?_⟩
    · unfold F.laws_markSpanS.s2
      simp only
      rw [lt_len hi, inb_nat hi, inb_nat (i := i) (n := (m.set (Int.toNat ↑i) _).length) (by rw [List.length_set]; exact hi), Int.toNat_natCast, w64_nat (by omega), getD_set_self hi, hx, List.set_set, w64_id (x := k + 1) (by omega) (by omega), w64_id (x := k + 1 + 1) (by omega) (by omega)]
      simp only [cond_true, chk_true, show k + 1 + 1 = k + ((2 : Nat) : Int) by omega, Option.bind_some]
    · unfold F.laws_heldSpanS.s2
      simp only
      rw [lt_len hi, inb_nat hi, Int.toNat_natCast, hx, w64_nat (by omega), w64_id (x := k + 1) (by omega) (by omega), w64_id (x := k + 1 + 1) (by omega) (by omega), bne_self_eq_false, bne_self_eq_false]
      simp only [cond_true, cond_false, chk_true, show k + 1 + 1 = k + ((2 : Nat) : Int) by omega]) (fun m k => by
    unfold F.laws_markSpanS.s2
    simp only [ge_len, cond_false]) (fun m k => by
    unfold F.laws_heldSpanS.s2
    simp only [ge_len, cond_false])
  rw [hs] at g1 g2
  exact ⟨l', by unfold F.laws_markSpanS; rw [g1]; rfl, by unfold F.laws_heldSpanS; rw [g2]; rfl⟩
theorem mh_Seat (a : Int × Int × List (Int × Int × Unit) × Int × Int × Unit) (k : Int) (h : a.2.2.1.length ≤ 1048576) (h0 : 0 ≤ k) (h1 : k + 2 * (a.2.2.1.length : Int) ≤ 1000000000000) : ∃ a', F.laws_markSeat a k = some (k + 2 * (a.2.2.1.length : Int), a') ∧ F.laws_heldSeat a' k = some (k + 2 * (a.2.2.1.length : Int)) := by
  obtain ⟨l', g1, g2⟩ := mh_SpanS a.2.2.1 k h h0 h1
  refine ⟨_, by unfold F.laws_markSeat; rw [g1]; rfl, ?_⟩
  unfold F.laws_heldSeat
  rw [g2]
  simp only [Option.bind_some]
  rw [show decide (k + 2 * (a.2.2.1.length : Int) < 0) = false from decide_eq_false (by omega)]
  rfl
end Go.Proofs.Ytabjfkongckhaaa.Vm
