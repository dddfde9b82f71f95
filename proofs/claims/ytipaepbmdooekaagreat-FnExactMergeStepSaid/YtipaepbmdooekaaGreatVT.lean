-- compact
import Derived.Test.YtipaepbmdooekaaGreatGf
import Derived.Test.YtipaepbmdooekaaGreatVS
import Derived.Ground.SlsfProg
import Derived.Ground.NamesProg
import Derived.Shelf.Small.Wraps
import Derived.Test.YtipaepbmdooekaaGreatProg
namespace Go.Proofs.YtipaepbmdooekaaGreat.Vm
open Go Go.RowKit Go.Shelf Go.Sort
set_option linter.unusedVariables false
def cmpL_ren : Go.Shelf.Ren := ⟨fun | 122 => 261 | 215 => 290 | n => n, fun | 3 => 3 | 4 => 4 | n => n, fun | n => n⟩
theorem cmpL : Go.Proofs.Lays.n122 Tryz.prog cmpL_ren := {
 mixed := by kernel_rfl
 f122 := Tryz.func261.trans (congrArg some (by kernel_rfl))
 f215 := Tryz.func290.trans (congrArg some (by kernel_rfl))
 t3 := Tryz.underlying3
 a3 := Tryz.isAgg3
 z3 := Tryz.sizeOf3
 v3 := Tryz.zeroValue3
 t4 := Tryz.underlying4
 a4 := Tryz.isAgg4
 z4 := Tryz.sizeOf4
 v4 := Tryz.zeroValue4 }
theorem cmpInt (x y : Int) (w : World) :
  Calls Tryz.prog 261 #[.int .i64 x, .int .i64 y] w fun e w' => e = .returned (.int .i64 (Lib.compareInt x y)) /\ w' = w := Any.cmp_Compare_int cmpL x y w
def sortL_ren : Go.Shelf.Ren := ⟨fun | 6 => 259 | 15 => 289 | 14 => 288 | 28 => 306 | 29 => 307 | 20 => 298 | 21 => 299 | 22 => 300 | 23 => 301 | 24 => 302 | 25 => 303 | 26 => 304 | 27 => 305 | 46 => 310 | 47 => 311 | 48 => 312 | 49 => 313 | 50 => 314 | 57 => 315 | n => n, fun | 22 => 25 | 24 => 180 | 25 => 268 | 3 => 3 | 39 => 250 | 0 => 0 | 53 => 298 | 55 => 300 | 4 => 4 | 46 => 291 | 45 => 290 | 50 => 295 | 5 => 5 | 9 => 9 | 66 => 302 | 70 => 306 | 76 => 308 | 77 => 122 | n => n, fun | n => n⟩
theorem sortL : Go.Proofs.SlLaysF0.n6 Tryz.prog sortL_ren := {
 mixed := by kernel_rfl
 f6 := ⟨Tryz.f259.name, by decide, Tryz.func259.trans (congrArg some (by kernel_rfl))⟩
 f14 := ⟨Tryz.f288.name, by decide, Tryz.func288.trans (congrArg some (by kernel_rfl))⟩
 f15 := Tryz.func289.trans (congrArg some (by kernel_rfl))
 f20 := ⟨Tryz.f298.name, by decide, Tryz.func298.trans (congrArg some (by kernel_rfl))⟩
 f21 := ⟨Tryz.f299.name, by decide, Tryz.func299.trans (congrArg some (by kernel_rfl))⟩
 f22 := ⟨Tryz.f300.name, by decide, Tryz.func300.trans (congrArg some (by kernel_rfl))⟩
 f23 := ⟨Tryz.f301.name, by decide, Tryz.func301.trans (congrArg some (by kernel_rfl))⟩
 f24 := ⟨Tryz.f302.name, by decide, Tryz.func302.trans (congrArg some (by kernel_rfl))⟩
 f25 := ⟨Tryz.f303.name, by decide, Tryz.func303.trans (congrArg some (by kernel_rfl))⟩
 f26 := ⟨Tryz.f304.name, by decide, Tryz.func304.trans (congrArg some (by kernel_rfl))⟩
 f27 := ⟨Tryz.f305.name, by decide, Tryz.func305.trans (congrArg some (by kernel_rfl))⟩
 f28 := Tryz.func306.trans (congrArg some (by kernel_rfl))
 f29 := Tryz.func307.trans (congrArg some (by kernel_rfl))
 f46 := ⟨Tryz.f310.name, by decide, Tryz.func310.trans (congrArg some (by kernel_rfl))⟩
 f47 := Tryz.func311.trans (congrArg some (by kernel_rfl))
 f48 := Tryz.func312.trans (congrArg some (by kernel_rfl))
 f49 := ⟨Tryz.f313.name, by decide, Tryz.func313.trans (congrArg some (by kernel_rfl))⟩
 f50 := ⟨Tryz.f314.name, by decide, Tryz.func314.trans (congrArg some (by kernel_rfl))⟩
 f57 := ⟨Tryz.f315.name, by decide, Tryz.func315.trans (congrArg some (by kernel_rfl))⟩
 t0 := Tryz.underlying0
 a0 := Tryz.isAgg0
 z0 := Tryz.sizeOf0
 v0 := Tryz.zeroValue0
 t3 := Tryz.underlying3
 a3 := Tryz.isAgg3
 z3 := Tryz.sizeOf3
 v3 := Tryz.zeroValue3
 t4 := Tryz.underlying4
 a4 := Tryz.isAgg4
 z4 := Tryz.sizeOf4
 v4 := Tryz.zeroValue4
 t5 := Tryz.underlying5
 a5 := Tryz.isAgg5
 z5 := Tryz.sizeOf5
 v5 := Tryz.zeroValue5
 t9 := Tryz.underlying9
 a9 := Tryz.isAgg9
 z9 := Tryz.sizeOf9
 v9 := Tryz.zeroValue9
 t22 := Tryz.underlying25
 a22 := Tryz.isAgg25
 z22 := Tryz.sizeOf25
 v22 := Tryz.zeroValue25
 t25 := Tryz.underlying268
 a25 := Tryz.isAgg268
 z25 := Tryz.sizeOf268
 v25 := Tryz.zeroValue268
 t39 := Tryz.underlying250
 a39 := Tryz.isAgg250
 z39 := Tryz.sizeOf250
 v39 := Tryz.zeroValue250
 t45 := Tryz.underlying290
 a45 := Tryz.isAgg290
 z45 := Tryz.sizeOf290
 v45 := Tryz.zeroValue290
 t46 := Tryz.underlying291
 a46 := Tryz.isAgg291
 z46 := Tryz.sizeOf291
 v46 := Tryz.zeroValue291
 t50 := Tryz.underlying295
 a50 := Tryz.isAgg295
 z50 := Tryz.sizeOf295
 v50 := Tryz.zeroValue295
 t53 := Tryz.underlying298
 a53 := Tryz.isAgg298
 z53 := Tryz.sizeOf298
 v53 := Tryz.zeroValue298
 t55 := Tryz.underlying300
 a55 := Tryz.isAgg300
 z55 := Tryz.sizeOf300
 v55 := Tryz.zeroValue300
 t66 := Tryz.underlying302
 a66 := Tryz.isAgg302
 z66 := Tryz.sizeOf302
 v66 := Tryz.zeroValue302
 t70 := Tryz.underlying306
 a70 := Tryz.isAgg306
 z70 := Tryz.sizeOf306
 v70 := Tryz.zeroValue306
 t76 := Tryz.underlying308
 a76 := Tryz.isAgg308
 z76 := Tryz.sizeOf308
 v76 := Tryz.zeroValue308
 t77 := Tryz.underlying122
 a77 := Tryz.isAgg122
 z77 := Tryz.sizeOf122
 v77 := Tryz.zeroValue122 }
set_option maxHeartbeats 1000000 in
theorem closureS (x y : SpD) (W : World) : Calls Tryz.prog 260 #[.agg #[.int .i64 x.1, .int .i64 x.2.1], .agg #[.int .i64 y.1, .int .i64 y.2.1]] W fun e w' => e = .returned (.int .i64 (Lib.compareInt x.1 y.1)) /\ ∃ q os', w' = grow (W.drewN q) os' := by
 have hcon := fun W' => cmpInt x.1 y.1 W'
 generalize Lib.compareInt x.1 y.1 = r at hcon ⊢
 obtain ⟨x0, x1, u⟩ := x
 obtain ⟨y0, y1, v⟩ := y
 simp only at hcon ⊢
 go_enter Tryz.func260, Tryz.ntmps260
 go_wp2_with (go_at_call 261; refine (hcon _).mono ?_; rintro e w' ⟨rfl, rfl⟩)
 go_ret
 exact ⟨rfl, 0, _, by rw [alloc_eq_grow, alloc_eq_grow, grow_grow]; rfl⟩
theorem ok.slices_SortFunc_Span__impl_union_1 : CallOK Tryz.prog 259 C.slices_SortFunc_Span__impl_union_1 :=
 sort_callOK (ρ := sortL_ren) sortL 180 Tryz.isAgg180 Tryz.sizeOf180 260 (enters_of Tryz.func260 (by kernel_rfl) rfl) (fun _ _ _ _ _ _ _ _ x y => closureS x y _) ⟨Tryz.f259, Tryz.func259, by kernel_rfl, by kernel_rfl⟩
end Go.Proofs.YtipaepbmdooekaaGreat.Vm
