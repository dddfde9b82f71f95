/- slices.SortFunc at this program: the shelf's contract laid, the closure walked. -/
import Derived.Test.YtadaiilmjchnmaaGf
import Derived.Test.YtadaiilmjchnmaaVS
import Derived.Ground.SlsfProg
import Derived.Ground.NamesProg
import Derived.Shelf.Small.Wraps
import Derived.Test.YtadaiilmjchnmaaProg
namespace Go.Proofs.Ytadaiilmjchnmaa.Vm
open Go Go.RowKit Go.Shelf Go.Sort
set_option linter.unusedVariables false
def cmpL_ren : Go.Shelf.Ren := ⟨fun | 122 => 287 | 215 => 295 | n => n, fun | 3 => 3 | 4 => 4 | n => n, fun | n => n⟩
theorem cmpL : Go.Proofs.Lays.n122 Try.prog cmpL_ren := {
  mixed := by kernel_rfl
  f122 := Try.func287.trans (congrArg some (by kernel_rfl))
  f215 := Try.func295.trans (congrArg some (by kernel_rfl))
  t3 := Try.underlying3
  a3 := Try.isAgg3
  z3 := Try.sizeOf3
  v3 := Try.zeroValue3
  t4 := Try.underlying4
  a4 := Try.isAgg4
  z4 := Try.sizeOf4
  v4 := Try.zeroValue4 }
theorem cmpInt (x y : Int) (w : World) :
    Calls Try.prog 287 #[.int .i64 x, .int .i64 y] w fun e w' => e = .returned (.int .i64 (Lib.compareInt x y)) ∧ w' = w := Any.cmp_Compare_int cmpL x y w
def sortL_ren : Go.Shelf.Ren := ⟨fun | 6 => 285 | 15 => 294 | 14 => 293 | 28 => 306 | 29 => 307 | 20 => 298 | 21 => 299 | 22 => 300 | 23 => 301 | 24 => 302 | 25 => 303 | 26 => 304 | 27 => 305 | 46 => 312 | 47 => 313 | 48 => 314 | 49 => 315 | 50 => 316 | 57 => 318 | n => n, fun | 22 => 26 | 24 => 175 | 25 => 281 | 3 => 3 | 39 => 210 | 0 => 0 | 53 => 298 | 55 => 300 | 4 => 4 | 46 => 291 | 45 => 290 | 50 => 295 | 5 => 5 | 9 => 9 | 66 => 302 | 70 => 306 | 76 => 308 | 77 => 309 | n => n, fun | n => n⟩
theorem sortL : Go.Proofs.SlLaysF0.n6 Try.prog sortL_ren := {
  mixed := by kernel_rfl
  f6 := ⟨Try.f285.name, by decide, Try.func285.trans (congrArg some (by kernel_rfl))⟩
  f14 := ⟨Try.f293.name, by decide, Try.func293.trans (congrArg some (by kernel_rfl))⟩
  f15 := Try.func294.trans (congrArg some (by kernel_rfl))
  f20 := ⟨Try.f298.name, by decide, Try.func298.trans (congrArg some (by kernel_rfl))⟩
  f21 := ⟨Try.f299.name, by decide, Try.func299.trans (congrArg some (by kernel_rfl))⟩
  f22 := ⟨Try.f300.name, by decide, Try.func300.trans (congrArg some (by kernel_rfl))⟩
  f23 := ⟨Try.f301.name, by decide, Try.func301.trans (congrArg some (by kernel_rfl))⟩
  f24 := ⟨Try.f302.name, by decide, Try.func302.trans (congrArg some (by kernel_rfl))⟩
  f25 := ⟨Try.f303.name, by decide, Try.func303.trans (congrArg some (by kernel_rfl))⟩
  f26 := ⟨Try.f304.name, by decide, Try.func304.trans (congrArg some (by kernel_rfl))⟩
  f27 := ⟨Try.f305.name, by decide, Try.func305.trans (congrArg some (by kernel_rfl))⟩
  f28 := Try.func306.trans (congrArg some (by kernel_rfl))
  f29 := Try.func307.trans (congrArg some (by kernel_rfl))
  f46 := ⟨Try.f312.name, by decide, Try.func312.trans (congrArg some (by kernel_rfl))⟩
  f47 := Try.func313.trans (congrArg some (by kernel_rfl))
  f48 := Try.func314.trans (congrArg some (by kernel_rfl))
  f49 := ⟨Try.f315.name, by decide, Try.func315.trans (congrArg some (by kernel_rfl))⟩
  f50 := ⟨Try.f316.name, by decide, Try.func316.trans (congrArg some (by kernel_rfl))⟩
  f57 := ⟨Try.f318.name, by decide, Try.func318.trans (congrArg some (by kernel_rfl))⟩
  t0 := Try.underlying0
  a0 := Try.isAgg0
  z0 := Try.sizeOf0
  v0 := Try.zeroValue0
  t3 := Try.underlying3
  a3 := Try.isAgg3
  z3 := Try.sizeOf3
  v3 := Try.zeroValue3
  t4 := Try.underlying4
  a4 := Try.isAgg4
  z4 := Try.sizeOf4
  v4 := Try.zeroValue4
  t5 := Try.underlying5
  a5 := Try.isAgg5
  z5 := Try.sizeOf5
  v5 := Try.zeroValue5
  t9 := Try.underlying9
  a9 := Try.isAgg9
  z9 := Try.sizeOf9
  v9 := Try.zeroValue9
  t22 := Try.underlying26
  a22 := Try.isAgg26
  z22 := Try.sizeOf26
  v22 := Try.zeroValue26
  t25 := Try.underlying281
  a25 := Try.isAgg281
  z25 := Try.sizeOf281
  v25 := Try.zeroValue281
  t39 := Try.underlying210
  a39 := Try.isAgg210
  z39 := Try.sizeOf210
  v39 := Try.zeroValue210
  t45 := Try.underlying290
  a45 := Try.isAgg290
  z45 := Try.sizeOf290
  v45 := Try.zeroValue290
  t46 := Try.underlying291
  a46 := Try.isAgg291
  z46 := Try.sizeOf291
  v46 := Try.zeroValue291
  t50 := Try.underlying295
  a50 := Try.isAgg295
  z50 := Try.sizeOf295
  v50 := Try.zeroValue295
  t53 := Try.underlying298
  a53 := Try.isAgg298
  z53 := Try.sizeOf298
  v53 := Try.zeroValue298
  t55 := Try.underlying300
  a55 := Try.isAgg300
  z55 := Try.sizeOf300
  v55 := Try.zeroValue300
  t66 := Try.underlying302
  a66 := Try.isAgg302
  z66 := Try.sizeOf302
  v66 := Try.zeroValue302
  t70 := Try.underlying306
  a70 := Try.isAgg306
  z70 := Try.sizeOf306
  v70 := Try.zeroValue306
  t76 := Try.underlying308
  a76 := Try.isAgg308
  z76 := Try.sizeOf308
  v76 := Try.zeroValue308
  t77 := Try.underlying309
  a77 := Try.isAgg309
  z77 := Try.sizeOf309
  v77 := Try.zeroValue309 }

set_option maxHeartbeats 1000000 in
theorem closureS (x y : SpD) (W : World) : Calls Try.prog 286 #[.agg #[.int .i64 x.1, .int .i64 x.2.1], .agg #[.int .i64 y.1, .int .i64 y.2.1]] W fun e w' => e = .returned (.int .i64 (Lib.compareInt x.1 y.1)) ∧ ∃ q os', w' = grow (W.drewN q) os' := by
  have hcon := fun W' => cmpInt x.1 y.1 W'
  generalize Lib.compareInt x.1 y.1 = r at hcon ⊢
  obtain ⟨x0, x1, u⟩ := x
  obtain ⟨y0, y1, v⟩ := y
  simp only at hcon ⊢
  go_enter Try.func286, Try.ntmps286
  go_wp2_with (go_at_call 287; refine (hcon _).mono ?_; rintro e w' ⟨rfl, rfl⟩)
  go_ret
  exact ⟨rfl, 0, _, by rw [alloc_eq_grow, alloc_eq_grow, grow_grow]; rfl⟩
theorem ok.slices_SortFunc_Span__impl_union_1 : CallOK Try.prog 285 C.slices_SortFunc_Span__impl_union_1 :=
  sort_callOK (ρ := sortL_ren) sortL 175 Try.isAgg175 Try.sizeOf175 286 (enters_of Try.func286 (by kernel_rfl) rfl) (fun _ _ _ _ _ _ _ _ x y => closureS x y _) ⟨Try.f285, Try.func285, by kernel_rfl, by kernel_rfl⟩
end Go.Proofs.Ytadaiilmjchnmaa.Vm
