/- slices.SortFunc at this program: the shelf's contract laid, the closure walked. -/
import Derived.Test.YtnpmjlppjcemmaaGf
import Derived.Test.YtnpmjlppjcemmaaVS
import Derived.Ground.SlsfProg
import Derived.Ground.NamesProg
import Derived.Shelf.Small.Wraps
import Derived.Test.YtnpmjlppjcemmaaProg
namespace Go.Proofs.Ytnpmjlppjcemmaa.Vm
open Go Go.RowKit Go.Shelf Go.Sort
set_option linter.unusedVariables false
def cmpL_ren : Go.Shelf.Ren := ⟨fun | 122 => 176 | 215 => 190 | n => n, fun | 3 => 3 | 4 => 4 | n => n, fun | n => n⟩
theorem cmpL : Go.Proofs.Lays.n122 Try.prog cmpL_ren := {
  mixed := by kernel_rfl
  f122 := Try.func176.trans (congrArg some (by kernel_rfl))
  f215 := Try.func190.trans (congrArg some (by kernel_rfl))
  t3 := Try.underlying3
  a3 := Try.isAgg3
  z3 := Try.sizeOf3
  v3 := Try.zeroValue3
  t4 := Try.underlying4
  a4 := Try.isAgg4
  z4 := Try.sizeOf4
  v4 := Try.zeroValue4 }
theorem cmpInt (x y : Int) (w : World) :
    Calls Try.prog 176 #[.int .i64 x, .int .i64 y] w fun e w' => e = .returned (.int .i64 (Lib.compareInt x y)) ∧ w' = w := Any.cmp_Compare_int cmpL x y w
def sortL_ren : Go.Shelf.Ren := ⟨fun | 6 => 174 | 15 => 189 | 14 => 188 | 28 => 205 | 29 => 206 | 20 => 197 | 21 => 198 | 22 => 199 | 23 => 200 | 24 => 201 | 25 => 202 | 26 => 203 | 27 => 204 | 46 => 209 | 47 => 210 | 48 => 211 | 49 => 212 | 50 => 213 | 57 => 214 | n => n, fun | 22 => 25 | 24 => 97 | 25 => 175 | 3 => 3 | 39 => 103 | 0 => 0 | 53 => 196 | 55 => 198 | 4 => 4 | 46 => 189 | 45 => 188 | 50 => 193 | 5 => 5 | 9 => 9 | 66 => 200 | 70 => 204 | 76 => 206 | 77 => 207 | n => n, fun | n => n⟩
theorem sortL : Go.Proofs.SlLaysF0.n6 Try.prog sortL_ren := {
  mixed := by kernel_rfl
  f6 := ⟨Try.f174.name, by decide, Try.func174.trans (congrArg some (by kernel_rfl))⟩
  f14 := ⟨Try.f188.name, by decide, Try.func188.trans (congrArg some (by kernel_rfl))⟩
  f15 := Try.func189.trans (congrArg some (by kernel_rfl))
  f20 := ⟨Try.f197.name, by decide, Try.func197.trans (congrArg some (by kernel_rfl))⟩
  f21 := ⟨Try.f198.name, by decide, Try.func198.trans (congrArg some (by kernel_rfl))⟩
  f22 := ⟨Try.f199.name, by decide, Try.func199.trans (congrArg some (by kernel_rfl))⟩
  f23 := ⟨Try.f200.name, by decide, Try.func200.trans (congrArg some (by kernel_rfl))⟩
  f24 := ⟨Try.f201.name, by decide, Try.func201.trans (congrArg some (by kernel_rfl))⟩
  f25 := ⟨Try.f202.name, by decide, Try.func202.trans (congrArg some (by kernel_rfl))⟩
  f26 := ⟨Try.f203.name, by decide, Try.func203.trans (congrArg some (by kernel_rfl))⟩
  f27 := ⟨Try.f204.name, by decide, Try.func204.trans (congrArg some (by kernel_rfl))⟩
  f28 := Try.func205.trans (congrArg some (by kernel_rfl))
  f29 := Try.func206.trans (congrArg some (by kernel_rfl))
  f46 := ⟨Try.f209.name, by decide, Try.func209.trans (congrArg some (by kernel_rfl))⟩
  f47 := Try.func210.trans (congrArg some (by kernel_rfl))
  f48 := Try.func211.trans (congrArg some (by kernel_rfl))
  f49 := ⟨Try.f212.name, by decide, Try.func212.trans (congrArg some (by kernel_rfl))⟩
  f50 := ⟨Try.f213.name, by decide, Try.func213.trans (congrArg some (by kernel_rfl))⟩
  f57 := ⟨Try.f214.name, by decide, Try.func214.trans (congrArg some (by kernel_rfl))⟩
  t0 := Try.underlying0
  a0 := Try.isAgg0
  z0 := Try.sizeOf0
  v0 := Try.zeroValue0
  t3 := Try.underlying3
  a3 := Try.isAgg3
  z3 := Try.sizeOf3
  v3 := Try.zeroValue3
  t4 := Try.underlying4
  a4 := Try.isAgg4
  z4 := Try.sizeOf4
  v4 := Try.zeroValue4
  t5 := Try.underlying5
  a5 := Try.isAgg5
  z5 := Try.sizeOf5
  v5 := Try.zeroValue5
  t9 := Try.underlying9
  a9 := Try.isAgg9
  z9 := Try.sizeOf9
  v9 := Try.zeroValue9
  t22 := Try.underlying25
  a22 := Try.isAgg25
  z22 := Try.sizeOf25
  v22 := Try.zeroValue25
  t25 := Try.underlying175
  a25 := Try.isAgg175
  z25 := Try.sizeOf175
  v25 := Try.zeroValue175
  t39 := Try.underlying103
  a39 := Try.isAgg103
  z39 := Try.sizeOf103
  v39 := Try.zeroValue103
  t45 := Try.underlying188
  a45 := Try.isAgg188
  z45 := Try.sizeOf188
  v45 := Try.zeroValue188
  t46 := Try.underlying189
  a46 := Try.isAgg189
  z46 := Try.sizeOf189
  v46 := Try.zeroValue189
  t50 := Try.underlying193
  a50 := Try.isAgg193
  z50 := Try.sizeOf193
  v50 := Try.zeroValue193
  t53 := Try.underlying196
  a53 := Try.isAgg196
  z53 := Try.sizeOf196
  v53 := Try.zeroValue196
  t55 := Try.underlying198
  a55 := Try.isAgg198
  z55 := Try.sizeOf198
  v55 := Try.zeroValue198
  t66 := Try.underlying200
  a66 := Try.isAgg200
  z66 := Try.sizeOf200
  v66 := Try.zeroValue200
  t70 := Try.underlying204
  a70 := Try.isAgg204
  z70 := Try.sizeOf204
  v70 := Try.zeroValue204
  t76 := Try.underlying206
  a76 := Try.isAgg206
  z76 := Try.sizeOf206
  v76 := Try.zeroValue206
  t77 := Try.underlying207
  a77 := Try.isAgg207
  z77 := Try.sizeOf207
  v77 := Try.zeroValue207 }

set_option maxHeartbeats 1000000 in
theorem closureS (x y : SpD) (W : World) : Calls Try.prog 175 #[.agg #[.int .i64 x.1, .int .i64 x.2.1], .agg #[.int .i64 y.1, .int .i64 y.2.1]] W fun e w' => e = .returned (.int .i64 (Lib.compareInt x.1 y.1)) ∧ ∃ q os', w' = grow (W.drewN q) os' := by
  have hcon := fun W' => cmpInt x.1 y.1 W'
  generalize Lib.compareInt x.1 y.1 = r at hcon ⊢
  obtain ⟨x0, x1, u⟩ := x
  obtain ⟨y0, y1, v⟩ := y
  simp only at hcon ⊢
  go_enter Try.func175, Try.ntmps175
  go_wp2_with (go_at_call 176; refine (hcon _).mono ?_; rintro e w' ⟨rfl, rfl⟩)
  go_ret
  exact ⟨rfl, 0, _, by rw [alloc_eq_grow, alloc_eq_grow, grow_grow]; rfl⟩
theorem ok.slices_SortFunc_Span__impl_union_1 : CallOK Try.prog 174 C.slices_SortFunc_Span__impl_union_1 :=
  sort_callOK (ρ := sortL_ren) sortL 97 Try.isAgg97 Try.sizeOf97 175 (enters_of Try.func175 (by kernel_rfl) rfl) (fun _ _ _ _ _ _ _ _ x y => closureS x y _) ⟨Try.f174, Try.func174, by kernel_rfl, by kernel_rfl⟩
end Go.Proofs.Ytnpmjlppjcemmaa.Vm
