-- compact
import Derived.Test.YtipaepbmdooekaaGreatVI
import Derived.Test.YtipaepbmdooekaaGreatGf
import Derived.Test.YtipaepbmdooekaaGreatProg
import Derived.Shelf.Spec.SlicesInsert
namespace Go.Proofs.YtipaepbmdooekaaGreat.Vm
open Go Go.RowKit Go.Lib
set_option linter.unusedVariables false
set_option maxRecDepth 100000
theorem bare_frozen {w : World} {b : Nat} {row : Array Value} {e : TypeId} (h : w.heap[b]? = some (.cells row e (0, 0))) (o : Nat) : w.frozen? ⟨b, o, none⟩ = false := by
 simp [World.frozen?, h]
theorem bare_shape {w : World} {b : Nat} {row : Array Value} {e : TypeId} (h : w.heap[b]? = some (.cells row e (0, 0))) : w.shape? b = some (e, row.size) := by
 simp [World.shape?, h]
set_option maxHeartbeats 4000000 in
theorem ins_shift (w : World) (b off n c i vb voff vc : Nat) (row rv : Array Value) (cs vs : List Value) (hi : i < n) (hroom : n + 1 <= c) (hmx : c <= maxLen) (hvb : vb ≠ b) (hrow : Row w b row 31) (hfit : off + c * 10 <= row.size) (hrv : Row w vb rv 31) (hvfit : voff + 10 <= rv.size)
  (hcl : cs.length = (n - i) * 10) (hvl : vs.length = 10) (hcs : ∀ (j : Nat) (v : Value), cs[j]? = some v -> row[off + i * 10 + j]? = some v) (hvs : ∀ (j : Nat) (v : Value), vs[j]? = some v -> rv[voff + j]? = some v) (h1c : ∀ v ∈ cs, v.oneCell' = true) (h1v : ∀ v ∈ vs, v.oneCell' = true) :
  Calls Tryz.prog 50 #[.slice (some ⟨b, off, none⟩) n c, .int .i64 i, .slice (some ⟨vb, voff, none⟩) 1 vc] w fun x w' => x = .returned (.slice (some ⟨b, off, none⟩) ((n + 1 : Nat)) c) /\ OnlyB w w' b /\ ∃ row', Row w' b row' 31 /\ row'.size = row.size /\
   (∀ (j : Nat), j < off + i * 10 -> row'[j]? = row[j]?) /\ (∀ (j : Nat) (v : Value), (vs ++ cs)[j]? = some v -> row'[off + i * 10 + j]? = some v) := by
 have hz1 : ¬ ((1 : Int) = 0) := by omega
 have hz2 : ¬ ((i : Int) = (n : Int)) := by omega
 have hc63 : c <= 9223372036854775807 := by unfold maxLen at hmx; omega
 have hbb := hrow.bare rfl
 have hbv := hrv.bare rfl
 have hov : ∀ lb cb, (callFunc 130 #[.slice (some ⟨vb, voff, none⟩) 1 vc, .slice (some ⟨b, off + (i + 1) * 10, none⟩) lb cb]).run Tryz.prog w = .ok (.value (.bool false)) w := fun lb cb => by
  rw [run_callFunc_extern Tryz.func130 (by kernel_rfl) (by kernel_rfl) (by kernel_rfl) (e := Extern.SlicesOverlaps.overlaps #[24, 24] #[4]) (by kernel_rfl),
   Lib.run_overlaps_apart w 24 4 31 Tryz.underlying24 10 Tryz.sizeOf31 ⟨vb, voff, none⟩ ⟨b, off + (i + 1) * 10, none⟩ 1 vc lb cb hvb 31 31 _ _ (bare_shape hbv) (bare_shape hbb) (by omega) (bare_frozen hbv _) (bare_frozen hbv _)]
  rfl
 have hle : (i + 1) * 10 + cs.length <= c * 10 := by omega
 obtain ⟨_, g1, g2, g3, g4, g5, row1, r1, r2, r3, r4⟩ := setR_spec b 31 cs w.drew (off + (i + 1) * 10) row (hrow.frame rfl) (by omega) h1c
 have hcp1 : ∀ ty dc sc, (Builtin.copy_ #[24, 24] ty #[.slice (some ⟨b, off + (i + 1) * 10, none⟩) (n - i) dc, .slice (some ⟨b, off + i * 10, none⟩) (n + 1 - i) sc]).run Tryz.prog w.drew = .ok (goInt (Nat.min (n + 1 - i) (n - i))) (setR w.drew b (off + (i + 1) * 10) cs) := fun ty dc sc =>
  copy_run w.drew Tryz.underlying24 (k := 10) Tryz.sizeOf31 (by rw [hcl]; show (n - i) * 10 = min (n + 1 - i) (n - i) * 10; rw [Nat.min_eq_right (by omega)]) (fun j v hj => by rw [add_at, Row.cell (hrow.frame (w' := w.drew) rfl)]; exact hcs j v hj) (row := row) (hrow.frame rfl) (by omega) h1c
 obtain ⟨W1, hW1⟩ : ∃ W1, W1 = setR w.drew b (off + (i + 1) * 10) cs := ⟨_, rfl⟩
 rw [<- hW1] at hcp1 g1 g2 g3 g4 g5 r1
 obtain ⟨_, k1, k2, k3, k4, k5, row2, q1, q2, q3, q4⟩ := setR_spec b 31 vs W1 (off + i * 10) row1 r1 (by omega) h1v
 have hrv1 : Row W1 vb rv 31 := hrv.frame (g5 vb hvb)
 have hcp2 : ∀ ty dc, (Builtin.copy_ #[24, 24] ty #[.slice (some ⟨b, off + i * 10, none⟩) (n + 1 - i) dc, .slice (some ⟨vb, voff, none⟩) 1 vc]).run Tryz.prog W1 = .ok (goInt (Nat.min 1 (n + 1 - i))) (setR W1 b (off + i * 10) vs) := fun ty dc =>
  copy_run W1 Tryz.underlying24 (k := 10) Tryz.sizeOf31 (by rw [hvl]; show 10 = min 1 (n + 1 - i) * 10; rw [Nat.min_eq_left (by omega)]) (fun j v hj => by rw [add_at, Row.cell hrv1]; exact hvs j v hj) (row := row1) r1 (by omega) h1v
 have hw1 : IntKind.i64.wrap ((i : Int) + 1) = (i : Int) + 1 := by rw [IntKind.wrap_i64]; omega
 have hb1 : (0 : Int) <= (i : Int) + 1 := by omega
 have hin : i <= n := by omega
 have htn : ((i : Int) + 1).toNat = i + 1 := by omega
 have hb2 : ¬ (c = i + 1) := by omega
 have hb3 : (i : Int) <= (n : Int) + 1 := by omega
 have hb4 : ¬ (c = i) := by omega
 subst hW1
 have mixed : Tryz.prog.follows .mixedOrders = true := by kernel_rfl
 go_enter Tryz.func50, Tryz.ntmps50
 go_wp2_with (simp only [hov])
 go_region_law_o (refine step_copy_runI rfl _ _ 24 24 rfl _ _ (by simp [Act.eval, Act.put]) (by simp [Act.eval, Act.put]) (hcp1 _ _ _) ?_)
 go_wp2_with (at_builtin; refine wpList_copy_runI _ rfl _ _ 24 24 rfl _ _ rfl rfl (hcp2 _ _) ?_)
 go_ret
 refine ⟨rfl, ⟨k1.trans g1, k2.trans g2, k3.trans g3, k4.trans g4, fun x hx => (k5 x hx).trans (g5 x hx)⟩, row2, q1, q2.trans r2, fun j hj => (q3 j (.inl hj)).trans (r3 j (.inl (by omega))), fun j v hj => ?_⟩
 by_cases hj10 : j < 10
 ·rw [List.getElem?_append_left (by omega)] at hj
  exact q4 j v hj
 ·rw [List.getElem?_append_right (by omega), hvl] at hj
  rw [q3 _ (.inr (by omega))]
  have := r4 _ v hj
  rw [<- this]
  congr 1
  omega
set_option maxHeartbeats 4000000 in
theorem ins_grow (w : World) (b off n c i vb voff vc : Nat) (row rv : Array Value) (hs cs vs : List Value) (hi : i < n) (hnc : n <= c) (hroom : c < n + 1) (hbig : (n + 1) * 144 <= 140737488355328) (hvb : vb ≠ b) (hrow : Row w b row 31) (hfit : off + c * 10 <= row.size) (hrv : Row w vb rv 31) (hvfit : voff + 10 <= rv.size)
  (hhl : hs.length = i * 10) (hcl : cs.length = (n - i) * 10) (hvl : vs.length = 10) (hhs : ∀ (j : Nat) (v : Value), hs[j]? = some v -> row[off + j]? = some v) (hcs : ∀ (j : Nat) (v : Value), cs[j]? = some v -> row[off + i * 10 + j]? = some v) (hvs : ∀ (j : Nat) (v : Value), vs[j]? = some v -> rv[voff + j]? = some v) (h1c : ∀ v ∈ cs, v.oneCell' = true) (h1v : ∀ v ∈ vs, v.oneCell' = true) :
  Calls Tryz.prog 50 #[.slice (some ⟨b, off, none⟩) n c, .int .i64 i, .slice (some ⟨vb, voff, none⟩) 1 vc] w fun x w' => ∃ (c' : Nat) (row' : Array Value), x = .returned (.slice (some ⟨w.heap.size, 0, none⟩) ((n + 1 : Nat)) c') /\ n + 1 <= c' /\ c' <= maxLen /\ NewB w w' /\ Row w' w.heap.size row' 31 /\ c' * 10 <= row'.size /\
   ∀ (j : Nat) (v : Value), (hs ++ (vs ++ cs))[j]? = some v -> row'[j]? = some v := by
 have hz1 : ¬ ((1 : Int) = 0) := by omega
 have hz2 : ¬ ((i : Int) = (n : Int)) := by omega
 have hz3 : (c : Int) < (n : Int) + 1 := by omega
 have hkk : (n : Int) + 1 - (i : Int) = ((n + 1 - i : Nat) : Int) := by omega
 have hik : i + (n + 1 - i) = n + 1 := by omega
 obtain ⟨i0, z, hi0, hzs, hzb, hz0, hzc⟩ : ∃ (i0 : TypeInfo) (z : Value), Tryz.prog.info? 31 = some i0 /\ i0.size = 10 /\ i0.bytes = 144 /\ i0.zero = some z /\ z.cells.size = 10 := ⟨Tryz.t31, _, by kernel_rfl, by kernel_rfl, by kernel_rfl, rfl, by kernel_rfl⟩
 have hold : (Builtin.firstCells i0.size i (.slice (some ⟨b, off, none⟩) i c)).run Tryz.prog w.drew = .ok hs.toArray w.drew := by
  rw [hzs]
  exact run_firstCells_some w.drew 10 i ⟨b, off, none⟩ i c hs hhl (fun j v hj => by rw [add_at, Row.cell (hrow.frame (w' := w.drew) rfl)]; exact hhs j v hj)
 obtain ⟨G, hG⟩ : ∃ G, G = grownCap w (n + 1) c 31 := ⟨_, rfl⟩
 obtain ⟨ROW, hROW⟩ : ∃ ROW : Array Value, ROW = hs.toArray ++ Builtin.zeroCells z.cells (n + 1 - i) ++ Builtin.zeroCells z.cells (G - (n + 1)) := ⟨_, rfl⟩
 have hrz : ∀ ty, (Builtin.append_ #[24, 3] ty #[.slice (some ⟨b, off, none⟩) i c, .int .i64 ((n : Int) + 1 - (i : Int))]).run Tryz.prog w =
   .ok (.slice (some ⟨w.heap.size, 0, none⟩) (n + 1) G) (w.drew.alloc (.cells ROW 31)) := fun ty => by
  have h := Lib.run_append_grow_zeros w 24 3 ty 31 i0 z .i64 .i64 Tryz.underlying24 Tryz.underlying3 hi0 hz0 (some ⟨b, off, none⟩) i c hs hold (n + 1 - i) (by omega) (by omega) (by omega) (by omega) (by rw [hzb]; omega) (by rw [hzb, hik]; exact growslice_fits hroom hbig)
  rw [hik] at h
  rw [hkk, hROW, hG]
  exact h
 have hGn : n + 1 <= G := by rw [hG]; exact grownCap_ge w _ _ _
 have hGm : G <= maxLen := by rw [hG]; exact grownCap_le_maxLen w (n + 1) c 31 (by unfold maxLen; omega)
 have hRs : ROW.size = G * 10 := by
  rw [hROW]
  simp only [Array.size_append, size_zeroCells, hzc, List.size_toArray, hhl]
  omega
 have hRh : ∀ (j : Nat) (v : Value), hs[j]? = some v -> ROW[j]? = some v := fun j v hj => by
  have hjl := (List.getElem?_eq_some_iff.1 hj).1
  rw [hROW, Array.getElem?_append_left (by simp only [Array.size_append, List.size_toArray]; omega), Array.getElem?_append_left (by simpa using hjl)]
  simpa using hj
 clear hROW
 have hbN : b < w.heap.size := hrow.lt
 have hvN : vb < w.heap.size := hrv.lt
 have hold1 : ∀ x, x < w.heap.size -> ((w.alloc (.cells ROW 31)).drew).heap[x]? = w.heap[x]? := fun x hx => Below.heap_alloc w (.cells ROW 31 (0, 0)) x hx
 have hR1 : Row ((w.alloc (.cells ROW 31)).drew) w.heap.size ROW 31 := Row.new (heap_new w _)
 obtain ⟨_, g1, g2, g3, g4, g5, row1, r1, r2, r3, r4⟩ := setR_spec w.heap.size 31 vs ((w.alloc (.cells ROW 31)).drew) (i * 10) ROW hR1 (by rw [hRs]; omega) h1v
 have hcpA : ∀ (W : World), W.heap = ((w.alloc (.cells ROW 31)).drew).heap -> ∀ ty dc, (Builtin.copy_ #[24, 24] ty #[.slice (some ⟨w.heap.size, i * 10, none⟩) (n + 1 - i) dc, .slice (some ⟨vb, voff, none⟩) 1 vc]).run Tryz.prog W = .ok (goInt (Nat.min 1 (n + 1 - i))) (setR W w.heap.size (i * 10) vs) := fun W hW ty dc =>
  copy_run W Tryz.underlying24 (k := 10) Tryz.sizeOf31 (by rw [hvl]; show 10 = min 1 (n + 1 - i) * 10; rw [Nat.min_eq_left (by omega)]) (fun j v hj => by rw [add_at, Row.cell (hrv.frame (w' := W) (by rw [hW, hold1 vb hvN]))]; exact hvs j v hj) (row := ROW) (hR1.frame (by rw [hW])) (by rw [hRs]; omega) h1v
 have hGi : ¬ (G = i) := by omega
 have hGim : ¬ (G = i + 1) := by omega
 have hci : ¬ (c = i) := by omega
 have hw1 : IntKind.i64.wrap ((i : Int) + 1) = (i : Int) + 1 := by rw [IntKind.wrap_i64]; omega
 have hb1 : (0 : Int) <= (i : Int) + 1 := by omega
 have hin : i <= n := by omega
 have htn : ((i : Int) + 1).toNat = i + 1 := by omega
 have hb3 : (i : Int) <= (n : Int) := by omega
 have hG63 : G <= 9223372036854775807 := by unfold maxLen at hGm; omega
 have hc63 : c <= 9223372036854775807 := by omega
 have mixed : Tryz.prog.follows .mixedOrders = true := by kernel_rfl
 have hA := hcpA ((w.alloc (.cells ROW 31)).drew) rfl
 have hrow2 : Row (setR ((w.alloc (.cells ROW 31)).drew) w.heap.size (i * 10) vs).drew b row 31 := hrow.frame ((g5 b (by omega)).trans (hold1 b hbN))
 have r1' : Row (setR ((w.alloc (.cells ROW 31)).drew) w.heap.size (i * 10) vs).drew w.heap.size row1 31 := r1.frame rfl
 obtain ⟨_, k1, k2, k3, k4, k5, row2, q1, q2, q3, q4⟩ := setR_spec w.heap.size 31 cs (setR ((w.alloc (.cells ROW 31)).drew) w.heap.size (i * 10) vs).drew ((i + 1) * 10) row1 r1' (by rw [r2, hRs]; omega) h1c
 have hcpB : ∀ ty dc sc, (Builtin.copy_ #[24, 24] ty #[.slice (some ⟨w.heap.size, (i + 1) * 10, none⟩) (n - i) dc, .slice (some ⟨b, off + i * 10, none⟩) (n - i) sc]).run Tryz.prog (setR ((w.alloc (.cells ROW 31)).drew) w.heap.size (i * 10) vs).drew = .ok (goInt (Nat.min (n - i) (n - i))) (setR (setR ((w.alloc (.cells ROW 31)).drew) w.heap.size (i * 10) vs).drew w.heap.size ((i + 1) * 10) cs) := fun ty dc sc =>
  copy_run _ Tryz.underlying24 (k := 10) Tryz.sizeOf31 (by rw [hcl]; show (n - i) * 10 = min (n - i) (n - i) * 10; rw [Nat.min_self]) (fun j v hj => by rw [add_at, Row.cell hrow2]; exact hcs j v hj) (row := row1) r1' (by rw [r2, hRs]; omega) h1c
 clear hkk hik hold hG
 go_enter Tryz.func50, Tryz.ntmps50
 go_wp2_with (first
  | (at_builtin; refine Lib.wpList_append_run _ rfl _ _ _ _ rfl _ _ rfl rfl _ _ (hrz _) ?_)
  | (simp only [hA]))
 go_region_law_o (refine step_copy_runI rfl _ _ 24 24 rfl _ _ (by simp [Act.eval, Act.put]) (by simp [Act.eval, Act.put]) (hcpB _ _ _) ?_)
 go_wp2
 go_ret
 refine ⟨G, row2, rfl, hGn, hGm, ⟨k1.trans g1, k2.trans g2, k3.trans g3, ?_, fun x hx => (k5 x (by omega)).trans ((g5 x (by omega)).trans (hold1 x hx))⟩, q1, by rw [q2, r2, hRs]; exact Nat.le_refl _, fun j v hj => ?_⟩
 ·have : (w.alloc (.cells ROW 31)).drew.heap.size = w.heap.size + 1 := by simp
  exact (k4.trans g4).trans this
 ·by_cases h1 : j < i * 10
  ·rw [List.getElem?_append_left (by omega)] at hj
   rw [q3 _ (.inl (by omega)), r3 _ (.inl h1)]
   exact hRh j v hj
  ·rw [List.getElem?_append_right (by omega), hhl] at hj
   by_cases h2 : j - i * 10 < 10
   ·rw [List.getElem?_append_left (by omega)] at hj
    rw [q3 _ (.inl (by omega))]
    have := r4 _ v hj
    rw [<- this]; congr 1; omega
   ·rw [List.getElem?_append_right (by omega), hvl] at hj
    have := q4 _ v hj
    rw [<- this]; congr 1; omega
set_option maxHeartbeats 4000000 in
theorem ins_tail (w w1 : World) (A vA A' : Option Addr) (n c vc c' : Nat) (h : (Builtin.append_ #[24, 24] 24 #[.slice A n c, .slice vA 1 vc]).run Tryz.prog w = .ok (.slice A' (n + 1) c') w1) :
  Calls Tryz.prog 50 #[.slice A n c, .int .i64 n, .slice vA 1 vc] w fun x w' => x = .returned (.slice A' ((n + 1 : Nat)) c') /\ w' = w1 := by
 go_enter Tryz.func50, Tryz.ntmps50
 cases A with
 | none =>
  go_wp2_with (at_builtin; refine Lib.wpList_append_run _ rfl _ _ _ _ rfl _ _ rfl rfl _ _ h ?_)
  all_goals (go_ret; exact ⟨rfl, rfl⟩)
 | some a =>
  obtain ⟨ab, ao, asp⟩ := a
  go_wp2_with (at_builtin; refine Lib.wpList_append_run _ rfl _ _ _ _ rfl _ _ rfl rfl _ _ h ?_)
  all_goals (go_ret; exact ⟨rfl, rfl⟩)
theorem tb_okI : TabOK Tryz.prog tb := tabCheck_ok (by kernel_rfl)
theorem ok.slices_Insert_Entry : CallOK Tryz.prog 50 C.slices_Insert_Entry :=
 insert_callOK (T := tb) tb_okI (S := 24) (e := 31) (k := 10) (bytes := 144) ⟨ins_shift, ins_grow, ins_tail⟩ _ rfl Tryz.underlying24 rfl rfl rfl ⟨Tryz.f50, Tryz.func50, by kernel_rfl, by kernel_rfl⟩
end Go.Proofs.YtipaepbmdooekaaGreat.Vm
