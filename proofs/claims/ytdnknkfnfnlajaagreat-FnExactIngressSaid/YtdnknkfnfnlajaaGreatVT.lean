import Derived.Test.YtdnknkfnfnlajaaGreatGf
import Derived.Test.YtdnknkfnfnlajaaGreatVS
import Derived.Ground.SlsfProg
import Derived.Ground.NamesProg
import Derived.Shelf.Small.Wraps
import Derived.Test.YtdnknkfnfnlajaaGreatProg
namespace Go.Proofs.YtdnknkfnfnlajaaGreat.Vm
open Go Go.RowKit Go.Shelf Go.Sort
set_option linter.unusedVariables false
def cmpL_ren : Go.Shelf.Ren := ⟨fun | 122 => 225 | 215 => 290 | n => n, fun | 3 => 3 | 4 => 4 | n => n, fun | n => n⟩
theorem cmpL : Go.Proofs.Lays.n122 Tryz.prog cmpL_ren := {
  mixed := by kernel_rfl
  f122 := Tryz.func225.trans (congrArg some (by kernel_rfl))
  f215 := Tryz.func290.trans (congrArg some (by kernel_rfl))
  t3 := Tryz.underlying3
  a3 := Tryz.isAgg3
  z3 := Tryz.sizeOf3
  v3 := Tryz.zeroValue3
  t4 := Tryz.underlying4
  a4 := Tryz.isAgg4
  z4 := Tryz.sizeOf4
  v4 := Tryz.zeroValue4 }
theorem cmpInt (x y : Int) (w : World) :
    Calls Tryz.prog 225 #[.int .i64 x, .int .i64 y] w fun e w' => e = .returned (.int .i64 (Lib.compareInt x y)) ∧ w' = w := Any.cmp_Compare_int cmpL x y w
def sortL_ren : Go.Shelf.Ren := ⟨fun | 6 => 223 | 15 => 289 | 14 => 288 | 28 => 317 | 29 => 318 | 20 => 309 | 21 => 310 | 22 => 311 | 23 => 312 | 24 => 313 | 25 => 314 | 26 => 315 | 27 => 316 | 46 => 327 | 47 => 328 | 48 => 329 | 49 => 330 | 50 => 331 | 57 => 332 | n => n, fun | 22 => 25 | 24 => 150 | 25 => 245 | 3 => 3 | 39 => 277 | 0 => 0 | 53 => 310 | 55 => 312 | 4 => 4 | 46 => 303 | 45 => 302 | 50 => 307 | 5 => 5 | 9 => 9 | 66 => 315 | 70 => 319 | 76 => 321 | 77 => 172 | n => n, fun | n => n⟩
theorem sortL : Go.Proofs.SlLaysF0.n6 Tryz.prog sortL_ren := {
  mixed := by kernel_rfl
  f6 := ⟨Tryz.f223.name, by decide, Tryz.func223.trans (congrArg some (by kernel_rfl))⟩
  f14 := ⟨Tryz.f288.name, by decide, Tryz.func288.trans (congrArg some (by kernel_rfl))⟩
  f15 := Tryz.func289.trans (congrArg some (by kernel_rfl))
  f20 := ⟨Tryz.f309.name, by decide, Tryz.func309.trans (congrArg some (by kernel_rfl))⟩
  f21 := ⟨Tryz.f310.name, by decide, Tryz.func310.trans (congrArg some (by kernel_rfl))⟩
  f22 := ⟨Tryz.f311.name, by decide, Tryz.func311.trans (congrArg some (by kernel_rfl))⟩
  f23 := ⟨Tryz.f312.name, by decide, Tryz.func312.trans (congrArg some (by kernel_rfl))⟩
  f24 := ⟨Tryz.f313.name, by decide, Tryz.func313.trans (congrArg some (by kernel_rfl))⟩
  f25 := ⟨Tryz.f314.name, by decide, Tryz.func314.trans (congrArg some (by kernel_rfl))⟩
  f26 := ⟨Tryz.f315.name, by decide, Tryz.func315.trans (congrArg some (by kernel_rfl))⟩
  f27 := ⟨Tryz.f316.name, by decide, Tryz.func316.trans (congrArg some (by kernel_rfl))⟩
  f28 := Tryz.func317.trans (congrArg some (by kernel_rfl))
  f29 := Tryz.func318.trans (congrArg some (by kernel_rfl))
  f46 := ⟨Tryz.f327.name, by decide, Tryz.func327.trans (congrArg some (by kernel_rfl))⟩
  f47 := Tryz.func328.trans (congrArg some (by kernel_rfl))
  f48 := Tryz.func329.trans (congrArg some (by kernel_rfl))
  f49 := ⟨Tryz.f330.name, by decide, Tryz.func330.trans (congrArg some (by kernel_rfl))⟩
  f50 := ⟨Tryz.f331.name, by decide, Tryz.func331.trans (congrArg some (by kernel_rfl))⟩
  f57 := ⟨Tryz.f332.name, by decide, Tryz.func332.trans (congrArg some (by kernel_rfl))⟩
  t0 := Tryz.underlying0
  a0 := Tryz.isAgg0
  z0 := Tryz.sizeOf0
  v0 := Tryz.zeroValue0
  t3 := Tryz.underlying3
  a3 := Tryz.isAgg3
  z3 := Tryz.sizeOf3
  v3 := Tryz.zeroValue3
  t4 := Tryz.underlying4
  a4 := Tryz.isAgg4
  z4 := Tryz.sizeOf4
  v4 := Tryz.zeroValue4
  t5 := Tryz.underlying5
  a5 := Tryz.isAgg5
  z5 := Tryz.sizeOf5
  v5 := Tryz.zeroValue5
  t9 := Tryz.underlying9
  a9 := Tryz.isAgg9
  z9 := Tryz.sizeOf9
  v9 := Tryz.zeroValue9
  t22 := Tryz.underlying25
  a22 := Tryz.isAgg25
  z22 := Tryz.sizeOf25
  v22 := Tryz.zeroValue25
  t25 := Tryz.underlying245
  a25 := Tryz.isAgg245
  z25 := Tryz.sizeOf245
  v25 := Tryz.zeroValue245
  t39 := Tryz.underlying277
  a39 := Tryz.isAgg277
  z39 := Tryz.sizeOf277
  v39 := Tryz.zeroValue277
  t45 := Tryz.underlying302
  a45 := Tryz.isAgg302
  z45 := Tryz.sizeOf302
  v45 := Tryz.zeroValue302
  t46 := Tryz.underlying303
  a46 := Tryz.isAgg303
  z46 := Tryz.sizeOf303
  v46 := Tryz.zeroValue303
  t50 := Tryz.underlying307
  a50 := Tryz.isAgg307
  z50 := Tryz.sizeOf307
  v50 := Tryz.zeroValue307
  t53 := Tryz.underlying310
  a53 := Tryz.isAgg310
  z53 := Tryz.sizeOf310
  v53 := Tryz.zeroValue310
  t55 := Tryz.underlying312
  a55 := Tryz.isAgg312
  z55 := Tryz.sizeOf312
  v55 := Tryz.zeroValue312
  t66 := Tryz.underlying315
  a66 := Tryz.isAgg315
  z66 := Tryz.sizeOf315
  v66 := Tryz.zeroValue315
  t70 := Tryz.underlying319
  a70 := Tryz.isAgg319
  z70 := Tryz.sizeOf319
  v70 := Tryz.zeroValue319
  t76 := Tryz.underlying321
  a76 := Tryz.isAgg321
  z76 := Tryz.sizeOf321
  v76 := Tryz.zeroValue321
  t77 := Tryz.underlying172
  a77 := Tryz.isAgg172
  z77 := Tryz.sizeOf172
  v77 := Tryz.zeroValue172 }
set_option maxHeartbeats 1000000 in
theorem closureS (x y : SpD) (W : World) : Calls Tryz.prog 224 #[.agg #[.int .i64 x.1, .int .i64 x.2.1], .agg #[.int .i64 y.1, .int .i64 y.2.1]] W fun e w' => e = .returned (.int .i64 (Lib.compareInt x.1 y.1)) ∧ ∃ q os', w' = grow (W.drewN q) os' := by
  have hcon := fun W' => cmpInt x.1 y.1 W'
  generalize Lib.compareInt x.1 y.1 = r at hcon ⊢
  obtain ⟨x0, x1, u⟩ := x
  obtain ⟨y0, y1, v⟩ := y
  simp only at hcon ⊢
  go_enter Tryz.func224, Tryz.ntmps224
  go_wp2_with (go_at_call 225; refine (hcon _).mono ?_; rintro e w' ⟨rfl, rfl⟩)
  go_ret
  exact ⟨rfl, 0, _, by rw [alloc_eq_grow, alloc_eq_grow, grow_grow]; rfl⟩
theorem ok.slices_SortFunc_Span__impl_union_1 : CallOK Tryz.prog 223 C.slices_SortFunc_Span__impl_union_1 :=
  sort_callOK (ρ := sortL_ren) sortL 150 Tryz.isAgg150 Tryz.sizeOf150 224 (enters_of Tryz.func224 (by kernel_rfl) rfl) (fun _ _ _ _ _ _ _ _ x y => closureS x y _) ⟨Tryz.f223, Tryz.func223, by kernel_rfl, by kernel_rfl⟩
end Go.Proofs.YtdnknkfnfnlajaaGreat.Vm
