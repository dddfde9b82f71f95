import Derived.Test.YtipaepbmdooekaaDoorGf
import Derived.Test.YtipaepbmdooekaaDoorV3
import Derived.Test.YtipaepbmdooekaaDoorVT
import Derived.Test.YtipaepbmdooekaaDoorVY
namespace Go.Proofs.YtipaepbmdooekaaDoor.Vm
open Go Go.RowKit
set_option maxRecDepth 100000
def AllK (P : Program) (l : List (FuncId × List Nat × Con)) : Prop := ∀ p ∈ l, CallOK P p.1 p.2.2
theorem AllK.nil {P : Program} : AllK P [] := fun _ h => by cases h
theorem AllK.cons {P : Program} {f : FuncId} {ks : List Nat} {c : Con} {l : List (FuncId × List Nat × Con)} (h : CallOK P f c) (hl : AllK P l) : AllK P ((f, ks, c) :: l) := fun p hp => by
  rcases List.mem_cons.1 hp with rfl | hp
  · exact h
  · exact hl p hp
theorem look_ok {P : Program} : ∀ {l : List (FuncId × List Nat × Con)}, AllK P l → ∀ f key con, lookK l f key = some con → CallOK P f con
  | [], h, f, key, con, e => by cases e
  | (g, ks, c) :: l, h, f, key, con, e => by
    simp only [lookK] at e
    cases hb : (Nat.beq g f && eqNs ks key) with
    | true =>
      rw [hb] at e
      cases e
      rw [Bool.and_eq_true] at hb
      have := Nat.eq_of_beq_eq_true hb.1
      subst this
      exact h _ List.mem_cons_self
    | false => rw [hb] at e; exact look_ok (fun p hp => h p (by simp [hp])) f key con e
theorem tb_ok : TabOK Tryd.prog tb := tabCheck_ok (by kernel_rfl)
theorem mixed : Tryd.prog.follows .mixedOrders = true := by kernel_rfl
theorem AllK.c {P : Program} {f : FuncId} {c : Con} {l : List (FuncId × List Nat × Con)} (h : CallOK P f c) (hl : AllK P l) : AllK P ((f, [], c) :: l) := .cons h hl
theorem fh {K : Cons} {L : Loops} {ids : List Nat} {f : FuncId} {fn : Func} {c : Con} {l : List (FuncId × List Nat × Con)} (hl : AllK Tryd.prog l) (hrun : ∀ x, runF tb K L ids fn c x = c.fn x) (hK : K = lookK l := by rfl) (hf : Tryd.prog.funcs[f]? = some fn := by kernel_rfl) (hname : (fn.name == "runtime.NumGoroutine") = false := by kernel_rfl) (hck : funOk fn c = true := by kernel_rfl) : CallOK Tryd.prog f c :=
  fun_holds tb_ok mixed (fun f k con h => look_ok hl f k con (by rw [← hK]; exact h)) hf hname hck hrun
theorem ok.laws_big : CallOK Tryd.prog 4 C.laws_big := fh .nil run.laws_big
theorem ok.spec_l1New : CallOK Tryd.prog 18 C.spec_l1New := fh .nil run.spec_l1New
theorem ok.spec_l1Byte : CallOK Tryd.prog 42 C.spec_l1Byte := fh .nil run.spec_l1Byte
theorem ok.spec_l1Below : CallOK Tryd.prog 21 C.spec_l1Below := fh (.c ok.spec_l1Byte .nil) run.spec_l1Below
theorem ok.spec_l5Copy : CallOK Tryd.prog 47 C.spec_l5Copy := fh .nil run.spec_l5Copy
theorem ok.spec_l9Copy : CallOK Tryd.prog 27 C.spec_l9Copy := fh (.c ok.spec_l5Copy .nil) run.spec_l9Copy
theorem ok.spec_l1In : CallOK Tryd.prog 28 C.spec_l1In := fh .nil run.spec_l1In
theorem ok.spec_SetOk : CallOK Tryd.prog 49 C.spec_SetOk := fh (.c ok.spec_l1In .nil) run.spec_SetOk
theorem ok.spec_l8Below : CallOK Tryd.prog 34 C.spec_l8Below := fh (.c ok.spec_SetOk .nil) run.spec_l8Below
theorem ok.spec_SetSize : CallOK Tryd.prog 35 C.spec_SetSize := fh (.c ok.spec_SetOk .nil) run.spec_SetSize
theorem ok.spec_SeatOk : CallOK Tryd.prog 13 C.spec_SeatOk := fh (.c ok.spec_l1In (.c ok.spec_l8Below (.c ok.spec_SetSize .nil))) run.spec_SeatOk
theorem ok.spec_l1Min : CallOK Tryd.prog 33 C.spec_l1Min := fh .nil run.spec_l1Min
theorem ok.spec_SeatGrant : CallOK Tryd.prog 11 C.spec_SeatGrant := fh (.c ok.spec_SeatOk (.c ok.spec_l9Copy (.c ok.spec_l1Min .nil))) run.spec_SeatGrant
theorem ok.spec_SetHas : CallOK Tryd.prog 29 C.spec_SetHas := fh (.c ok.spec_l1In .nil) run.spec_SetHas
theorem ok.spec_l8One : CallOK Tryd.prog 31 C.spec_l8One := fh .nil run.spec_l8One
theorem ok.spec_l1Max : CallOK Tryd.prog 48 C.spec_l1Max := fh .nil run.spec_l1Max
theorem ok.spec_l5Put : CallOK Tryd.prog 30 C.spec_l5Put := fh (.c ok.spec_l1Min (.c ok.spec_l1Max .nil)) run.spec_l5Put
theorem ok.spec_SeatData : CallOK Tryd.prog 7 C.spec_SeatData := fh (.c ok.spec_SeatOk (.c ok.spec_l9Copy (.c ok.spec_l1In (.c ok.spec_SetHas (.c ok.spec_l5Put (.c ok.spec_l8One .nil)))))) run.spec_SeatData
theorem ok.spec_l1Once : CallOK Tryd.prog 20 C.spec_l1Once := fh (.c ok.spec_l1Below .nil) run.spec_l1Once
theorem ok.spec_SeatMerge : CallOK Tryd.prog 54 C.spec_SeatMerge := fh (.c ok.spec_SeatOk (.c ok.spec_l9Copy (.c ok.spec_l1In .nil))) run.spec_SeatMerge
theorem ok.spec_l9Right : CallOK Tryd.prog 40 C.spec_l9Right := fh (.c ok.spec_SeatData (.c ok.spec_SeatGrant (.c ok.spec_l1Once (.c ok.spec_l1Below (.c ok.spec_SeatMerge .nil))))) run.spec_l9Right
theorem ok.spec_l1PickInt : CallOK Tryd.prog 22 C.spec_l1PickInt := fh (.c ok.spec_l1Below .nil) run.spec_l1PickInt
theorem ok.spec_l5Right : CallOK Tryd.prog 55 C.spec_l5Right := fh (.c ok.spec_l1Below (.c ok.spec_l1PickInt (.c ok.spec_l5Put (.c ok.spec_l1Min .nil)))) run.spec_l5Right
theorem ok.spec_l5Draw : CallOK Tryd.prog 41 C.spec_l5Draw := fh (.c ok.spec_l1Once (.c ok.spec_l1PickInt (.c ok.spec_l5Right .nil))) run.spec_l5Draw
theorem ok.spec_l9Draw : CallOK Tryd.prog 19 C.spec_l9Draw := fh (.c ok.spec_l1Below (.c ok.spec_l1PickInt (.c ok.spec_l9Right (.c ok.spec_l5Draw .nil)))) run.spec_l9Draw
theorem ok.spec_DrawSeatData : CallOK Tryd.prog 5 C.spec_DrawSeatData := fh (.c ok.spec_l1New (.c ok.spec_l9Draw (.c ok.spec_l1Once (.c ok.spec_l1Below (.c ok.spec_l1PickInt .nil))))) run.spec_DrawSeatData
theorem ok.impl_copySet : CallOK Tryd.prog 43 C.impl_copySet := fh .nil run.impl_copySet
theorem ok.impl_copySeat : CallOK Tryd.prog 23 C.impl_copySeat := fh (.c ok.impl_copySet .nil) run.impl_copySeat
theorem ok.impl_within : CallOK Tryd.prog 24 C.impl_within := fh .nil run.impl_within
theorem ok.impl_SetOk : CallOK Tryd.prog 39 C.impl_SetOk := fh (.c ok.impl_within .nil) run.impl_SetOk
theorem ok.impl_allIn : CallOK Tryd.prog 36 C.impl_allIn := fh (.c ok.impl_SetOk .nil) run.impl_allIn
theorem ok.impl_SetSize : CallOK Tryd.prog 17 C.impl_SetSize := fh (.c ok.impl_SetOk .nil) run.impl_SetSize
theorem ok.impl_SeatOk : CallOK Tryd.prog 14 C.impl_SeatOk := fh (.c ok.impl_SetSize (.c ok.impl_within (.c ok.impl_allIn .nil))) run.impl_SeatOk
theorem ok.impl_SetHas_1 : CallOK Tryd.prog 45 C.impl_SetHas_1 := fh (.c ok.impl_within .nil) run.impl_SetHas_1
theorem ok.slices_IndexFunc_Span__impl_SetHas_1 : CallOK Tryd.prog 56 C.slices_IndexFunc_Span__impl_SetHas_1 := fh (.c ok.impl_SetHas_1 .nil) run.slices_IndexFunc_Span__impl_SetHas_1
theorem ok.slices_ContainsFunc_Span__impl_SetHas_1 : CallOK Tryd.prog 44 C.slices_ContainsFunc_Span__impl_SetHas_1 := fh (.cons (ks := [45]) ok.slices_IndexFunc_Span__impl_SetHas_1 .nil) run.slices_ContainsFunc_Span__impl_SetHas_1
theorem ok.impl_SetHas : CallOK Tryd.prog 25 C.impl_SetHas := fh (.cons (ks := [45]) ok.slices_ContainsFunc_Span__impl_SetHas_1 .nil) run.impl_SetHas
theorem ok.impl_union : CallOK Tryd.prog 46 C.impl_union := fh (.c ok.impl_copySet (.cons (ks := [58]) ok.slices_SortFunc_Span__impl_union_1 .nil)) run.impl_union
theorem ok.impl_SetAdd : CallOK Tryd.prog 26 C.impl_SetAdd := fh (.c ok.impl_within (.c ok.impl_SetHas (.c ok.impl_SetOk (.c ok.impl_copySet (.c ok.impl_union .nil))))) run.impl_SetAdd
theorem ok.impl_SeatData : CallOK Tryd.prog 6 C.impl_SeatData := fh (.c ok.impl_SeatOk (.c ok.impl_copySeat (.c ok.impl_within (.c ok.impl_SetHas (.c ok.impl_SetAdd .nil))))) run.impl_SeatData
theorem ok.spec_DrawSeatGrant : CallOK Tryd.prog 8 C.spec_DrawSeatGrant := fh (.c ok.spec_l1New (.c ok.spec_l9Draw .nil)) run.spec_DrawSeatGrant
theorem ok.impl_SeatGrant : CallOK Tryd.prog 9 C.impl_SeatGrant := fh (.c ok.impl_SeatOk (.c ok.impl_copySeat .nil)) run.impl_SeatGrant
theorem ok.impl_greatest : CallOK Tryd.prog 32 C.impl_greatest := fh .nil run.impl_greatest
theorem ok.impl_SeatReclaim : CallOK Tryd.prog 10 C.impl_SeatReclaim := fh (.c ok.impl_SeatOk (.c ok.impl_copySeat (.c ok.impl_greatest .nil))) run.impl_SeatReclaim
theorem ok.spec_SeatReclaim : CallOK Tryd.prog 12 C.spec_SeatReclaim := fh (.c ok.spec_SeatOk (.c ok.spec_l9Copy .nil)) run.spec_SeatReclaim
theorem ok.impl_Owed : CallOK Tryd.prog 15 C.impl_Owed := fh (.c ok.impl_within .nil) run.impl_Owed
theorem ok.impl_Digits : CallOK Tryd.prog 37 C.impl_Digits := fh (.c ok.strconv_Itoa .nil) run.impl_Digits
theorem ok.impl_SetText : CallOK Tryd.prog 16 C.impl_SetText := fh (.c ok.impl_Digits (.c ok.strings_Join .nil)) run.impl_SetText
theorem ok.laws_FnSeats : CallOK Tryd.prog 3 C.laws_FnSeats := fh (.c ok.laws_big (.c ok.spec_DrawSeatData (.c ok.impl_SeatData (.c ok.spec_SeatData (.c ok.spec_DrawSeatGrant (.c ok.impl_SeatGrant (.c ok.impl_SeatReclaim (.c ok.spec_SeatGrant (.c ok.spec_SeatReclaim (.c ok.spec_SeatOk (.c ok.impl_SeatOk (.c ok.impl_Owed (.c ok.impl_SetText (.c ok.impl_SetSize .nil)))))))))))))) run.laws_FnSeats
end Go.Proofs.YtipaepbmdooekaaDoor.Vm
