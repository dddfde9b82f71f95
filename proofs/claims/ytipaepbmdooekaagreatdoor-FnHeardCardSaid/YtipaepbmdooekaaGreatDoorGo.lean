import Derived.Test.YtipaepbmdooekaaGreatDoorGf
import Derived.Test.YtipaepbmdooekaaGreatDoorV3
import Derived.Test.YtipaepbmdooekaaGreatDoorVT
import Derived.Test.YtipaepbmdooekaaGreatDoorVY
namespace Go.Proofs.YtipaepbmdooekaaGreatDoor.Vm
open Go Go.RowKit
set_option maxRecDepth 100000
def AllK (P : Program) (l : List (FuncId × List Nat × Con)) : Prop := ∀ p ∈ l, CallOK P p.1 p.2.2
theorem AllK.nil {P : Program} : AllK P [] := fun _ h => by cases h
theorem AllK.cons {P : Program} {f : FuncId} {ks : List Nat} {c : Con} {l : List (FuncId × List Nat × Con)} (h : CallOK P f c) (hl : AllK P l) : AllK P ((f, ks, c) :: l) := fun p hp => by
  rcases List.mem_cons.1 hp with rfl | hp
  · exact h
  · exact hl p hp
theorem look_ok {P : Program} : ∀ {l : List (FuncId × List Nat × Con)}, AllK P l → ∀ f key con, lookK l f key = some con → CallOK P f con
  | [], h, f, key, con, e => by cases e
  | (g, ks, c) :: l, h, f, key, con, e => by
    simp only [lookK] at e
    cases hb : (Nat.beq g f && eqNs ks key) with
    | true =>
      rw [hb] at e
      cases e
      rw [Bool.and_eq_true] at hb
      have := Nat.eq_of_beq_eq_true hb.1
      subst this
      exact h _ List.mem_cons_self
    | false => rw [hb] at e; exact look_ok (fun p hp => h p (by simp [hp])) f key con e
theorem tb_ok : TabOK Tryz.prog tb := tabCheck_ok (by kernel_rfl)
theorem mixed : Tryz.prog.follows .mixedOrders = true := by kernel_rfl
theorem AllK.c {P : Program} {f : FuncId} {c : Con} {l : List (FuncId × List Nat × Con)} (h : CallOK P f c) (hl : AllK P l) : AllK P ((f, [], c) :: l) := .cons h hl
theorem fh {K : Cons} {L : Loops} {ids : List Nat} {f : FuncId} {fn : Func} {c : Con} {l : List (FuncId × List Nat × Con)} (hl : AllK Tryz.prog l) (hrun : ∀ x, runF tb K L ids fn c x = c.fn x) (hK : K = lookK l := by rfl) (hf : Tryz.prog.funcs[f]? = some fn := by kernel_rfl) (hname : (fn.name == "runtime.NumGoroutine") = false := by kernel_rfl) (hck : funOk fn c = true := by kernel_rfl) : CallOK Tryz.prog f c :=
  fun_holds tb_ok mixed (fun f k con h => look_ok hl f k con (by rw [← hK]; exact h)) hf hname hck hrun
theorem ok.laws_big : CallOK Tryz.prog 4 C.laws_big := fh .nil run.laws_big
theorem ok.spec_l1New : CallOK Tryz.prog 11 C.spec_l1New := fh .nil run.spec_l1New
theorem ok.spec_l1Byte : CallOK Tryz.prog 38 C.spec_l1Byte := fh .nil run.spec_l1Byte
theorem ok.spec_l1Below : CallOK Tryz.prog 15 C.spec_l1Below := fh (.c ok.spec_l1Byte .nil) run.spec_l1Below
theorem ok.spec_l1In : CallOK Tryz.prog 44 C.spec_l1In := fh .nil run.spec_l1In
theorem ok.spec_l6Agent : CallOK Tryz.prog 43 C.spec_l6Agent := fh (.c ok.spec_l1In .nil) run.spec_l6Agent
theorem ok.spec_SetOk : CallOK Tryz.prog 46 C.spec_SetOk := fh (.c ok.spec_l1In .nil) run.spec_SetOk
theorem ok.spec_l8Below : CallOK Tryz.prog 23 C.spec_l8Below := fh (.c ok.spec_SetOk .nil) run.spec_l8Below
theorem ok.spec_l6Place : CallOK Tryz.prog 65 C.spec_l6Place := fh (.c ok.spec_l1In .nil) run.spec_l6Place
theorem ok.spec_l3List : CallOK Tryz.prog 81 C.spec_l3List := fh (.c ok.spec_l1In .nil) run.spec_l3List
theorem ok.spec_SketchOk : CallOK Tryz.prog 66 C.spec_SketchOk := fh (.c ok.spec_l1In (.c ok.spec_l3List .nil)) run.spec_SketchOk
theorem ok.spec_ItemOk : CallOK Tryz.prog 45 C.spec_ItemOk := fh (.c ok.spec_l1In (.c ok.spec_l6Place (.c ok.spec_SketchOk .nil))) run.spec_ItemOk
theorem ok.spec_AgentOk : CallOK Tryz.prog 21 C.spec_AgentOk := fh (.c ok.spec_l8Below (.c ok.spec_l6Agent (.c ok.spec_l1In (.c ok.spec_ItemOk .nil)))) run.spec_AgentOk
theorem ok.spec_AgentNew : CallOK Tryz.prog 57 C.spec_AgentNew := fh (.c ok.spec_AgentOk .nil) run.spec_AgentNew
theorem ok.spec_l1PickInt : CallOK Tryz.prog 34 C.spec_l1PickInt := fh (.c ok.spec_l1Below .nil) run.spec_l1PickInt
theorem ok.spec_l3Values : CallOK Tryz.prog 76 C.spec_l3Values := fh (.c ok.spec_l1Below (.c ok.spec_l1PickInt (.c ok.spec_l1Byte .nil))) run.spec_l3Values
theorem ok.spec_SketchNew : CallOK Tryz.prog 95 C.spec_SketchNew := fh .nil run.spec_SketchNew
theorem ok.spec_l3Copy : CallOK Tryz.prog 64 C.spec_l3Copy := fh .nil run.spec_l3Copy
theorem ok.spec_l1Min : CallOK Tryz.prog 67 C.spec_l1Min := fh .nil run.spec_l1Min
theorem ok.spec_l1Max : CallOK Tryz.prog 25 C.spec_l1Max := fh .nil run.spec_l1Max
theorem ok.spec_l2Clip : CallOK Tryz.prog 115 C.spec_l2Clip := fh (.c ok.spec_l1Max (.c ok.spec_l1Min .nil)) run.spec_l2Clip
theorem ok.spec_Add : CallOK Tryz.prog 106 C.spec_Add := fh (.c ok.spec_l1Min (.c ok.spec_l2Clip .nil)) run.spec_Add
theorem ok.spec_BucketOf : CallOK Tryz.prog 107 C.spec_BucketOf := fh (.c ok.spec_l2Clip .nil) run.spec_BucketOf
theorem ok.spec_Mix : CallOK Tryz.prog 108 C.spec_Mix := fh (.c ok.spec_l2Clip .nil) run.spec_Mix
theorem ok.spec_RankOf : CallOK Tryz.prog 109 C.spec_RankOf := fh (.c ok.spec_Mix .nil) run.spec_RankOf
theorem ok.spec_Insert : CallOK Tryz.prog 96 C.spec_Insert := fh (.c ok.spec_l1Max (.c ok.spec_l1In (.c ok.spec_l3Copy (.c ok.spec_SketchOk (.c ok.spec_l1Min (.c ok.spec_Add (.c ok.spec_BucketOf (.c ok.spec_Mix (.c ok.spec_RankOf .nil))))))))) run.spec_Insert
theorem ok.spec_Sketched : CallOK Tryz.prog 75 C.spec_Sketched := fh (.c ok.spec_SketchNew (.c ok.spec_Insert .nil)) run.spec_Sketched
theorem ok.spec_l6Right : CallOK Tryz.prog 58 C.spec_l6Right := fh (.c ok.spec_l1Below (.c ok.spec_Sketched (.c ok.spec_l3Values .nil))) run.spec_l6Right
theorem ok.spec_l5Copy : CallOK Tryz.prog 41 C.spec_l5Copy := fh .nil run.spec_l5Copy
theorem ok.spec_l6Item : CallOK Tryz.prog 42 C.spec_l6Item := fh (.c ok.spec_l3Copy .nil) run.spec_l6Item
theorem ok.spec_l8Copy : CallOK Tryz.prog 20 C.spec_l8Copy := fh (.c ok.spec_l5Copy (.c ok.spec_l6Item .nil)) run.spec_l8Copy
theorem ok.spec_Seal : CallOK Tryz.prog 59 C.spec_Seal := fh (.c ok.spec_l8Copy (.c ok.spec_AgentOk (.c ok.spec_l3Copy .nil))) run.spec_Seal
theorem ok.spec_l1Once : CallOK Tryz.prog 14 C.spec_l1Once := fh (.c ok.spec_l1Below .nil) run.spec_l1Once
theorem ok.spec_l8One : CallOK Tryz.prog 16 C.spec_l8One := fh .nil run.spec_l8One
theorem ok.spec_l5Put : CallOK Tryz.prog 48 C.spec_l5Put := fh (.c ok.spec_l1Max (.c ok.spec_l1Min .nil)) run.spec_l5Put
theorem ok.spec_l8Right : CallOK Tryz.prog 33 C.spec_l8Right := fh (.c ok.spec_l1Once (.c ok.spec_l1Below (.c ok.spec_l8One (.c ok.spec_l5Put (.c ok.spec_AgentNew (.c ok.spec_l6Right (.c ok.spec_Seal .nil))))))) run.spec_l8Right
theorem ok.spec_l3Right : CallOK Tryz.prog 77 C.spec_l3Right := fh (.c ok.spec_l1Once (.c ok.spec_l1Below (.c ok.spec_Sketched (.c ok.spec_l3Values .nil)))) run.spec_l3Right
theorem ok.spec_l3Draw : CallOK Tryz.prog 60 C.spec_l3Draw := fh (.c ok.spec_l1Below (.c ok.spec_l1PickInt (.c ok.spec_l3Right .nil))) run.spec_l3Draw
theorem ok.spec_l6Draw : CallOK Tryz.prog 35 C.spec_l6Draw := fh (.c ok.spec_l1Below (.c ok.spec_l1PickInt (.c ok.spec_l6Right (.c ok.spec_l3Draw .nil)))) run.spec_l6Draw
theorem ok.spec_l5Right : CallOK Tryz.prog 61 C.spec_l5Right := fh (.c ok.spec_l1Below (.c ok.spec_l1PickInt (.c ok.spec_l5Put (.c ok.spec_l1Min .nil)))) run.spec_l5Right
theorem ok.spec_l5Draw : CallOK Tryz.prog 36 C.spec_l5Draw := fh (.c ok.spec_l1Once (.c ok.spec_l1PickInt (.c ok.spec_l5Right .nil))) run.spec_l5Draw
theorem ok.spec_l8Draw : CallOK Tryz.prog 12 C.spec_l8Draw := fh (.c ok.spec_l1Below (.c ok.spec_l8Right (.c ok.spec_l1PickInt (.c ok.spec_l6Draw (.c ok.spec_l5Draw .nil))))) run.spec_l8Draw
theorem ok.spec_l7Right : CallOK Tryz.prog 37 C.spec_l7Right := fh (.c ok.spec_l1Below (.c ok.spec_l5Put (.c ok.spec_l6Right .nil))) run.spec_l7Right
theorem ok.spec_l7Draw : CallOK Tryz.prog 13 C.spec_l7Draw := fh (.c ok.spec_l1Below (.c ok.spec_l1PickInt (.c ok.spec_l6Draw (.c ok.spec_l5Draw (.c ok.spec_l7Right .nil))))) run.spec_l7Draw
theorem ok.spec_DrawAgentHear : CallOK Tryz.prog 5 C.spec_DrawAgentHear := fh (.c ok.spec_l1New (.c ok.spec_l8Draw (.c ok.spec_l7Draw (.c ok.spec_l1Once (.c ok.spec_l1Below (.c ok.spec_l8One .nil)))))) run.spec_DrawAgentHear
theorem ok.impl_copySet : CallOK Tryz.prog 30 C.impl_copySet := fh .nil run.impl_copySet
theorem ok.impl_copyInts : CallOK Tryz.prog 78 C.impl_copyInts := fh .nil run.impl_copyInts
theorem ok.impl_copySketch : CallOK Tryz.prog 62 C.impl_copySketch := fh (.c ok.impl_copyInts .nil) run.impl_copySketch
theorem ok.impl_copyItem : CallOK Tryz.prog 39 C.impl_copyItem := fh (.c ok.impl_copySketch .nil) run.impl_copyItem
theorem ok.impl_copyAgent : CallOK Tryz.prog 17 C.impl_copyAgent := fh (.c ok.impl_copySet (.c ok.impl_copyItem .nil)) run.impl_copyAgent
theorem ok.impl_within : CallOK Tryz.prog 31 C.impl_within := fh .nil run.impl_within
theorem ok.impl_counts : CallOK Tryz.prog 74 C.impl_counts := fh (.c ok.impl_copyInts .nil) run.impl_counts
theorem ok.impl_SketchOk : CallOK Tryz.prog 56 C.impl_SketchOk := fh (.c ok.impl_within (.c ok.impl_counts .nil)) run.impl_SketchOk
theorem ok.impl_ItemOk : CallOK Tryz.prog 32 C.impl_ItemOk := fh (.c ok.impl_within (.c ok.impl_SketchOk .nil)) run.impl_ItemOk
theorem ok.impl_SetOk : CallOK Tryz.prog 28 C.impl_SetOk := fh (.c ok.impl_within .nil) run.impl_SetOk
theorem ok.impl_allIn : CallOK Tryz.prog 19 C.impl_allIn := fh (.c ok.impl_SetOk .nil) run.impl_allIn
theorem ok.impl_AgentOk : CallOK Tryz.prog 10 C.impl_AgentOk := fh (.c ok.impl_allIn (.c ok.impl_within (.c ok.impl_ItemOk .nil))) run.impl_AgentOk
theorem ok.slices_Equal_int : CallOK Tryz.prog 79 C.slices_Equal_int := fh .nil run.slices_Equal_int
theorem ok.slices_EqualFunc_SSint__slices_Equal_int : CallOK Tryz.prog 80 C.slices_EqualFunc_SSint__slices_Equal_int := fh (.c ok.slices_Equal_int .nil) run.slices_EqualFunc_SSint__slices_Equal_int
theorem ok.impl_SketchSame : CallOK Tryz.prog 63 C.impl_SketchSame := fh (.c ok.slices_Equal_int (.cons (ks := [79]) ok.slices_EqualFunc_SSint__slices_Equal_int .nil)) run.impl_SketchSame
theorem ok.impl_itemSame : CallOK Tryz.prog 40 C.impl_itemSame := fh (.c ok.impl_SketchSame .nil) run.impl_itemSame
theorem ok.impl_FrameOk : CallOK Tryz.prog 18 C.impl_FrameOk := fh (.c ok.impl_allIn (.c ok.impl_within (.c ok.impl_ItemOk (.c ok.impl_itemSame .nil)))) run.impl_FrameOk
theorem ok.impl_union : CallOK Tryz.prog 29 C.impl_union := fh (.c ok.impl_copySet (.cons (ks := [54]) ok.slices_SortFunc_Span__impl_union_1 .nil)) run.impl_union
theorem ok.impl_SetJoin : CallOK Tryz.prog 9 C.impl_SetJoin := fh (.c ok.impl_SetOk (.c ok.impl_union (.c ok.impl_copySet .nil))) run.impl_SetJoin
theorem ok.impl_AgentHear : CallOK Tryz.prog 6 C.impl_AgentHear := fh (.c ok.impl_SetJoin (.c ok.impl_AgentOk (.c ok.impl_copyAgent (.c ok.impl_FrameOk (.c ok.impl_allIn .nil))))) run.impl_AgentHear
theorem ok.spec_l7Zero : CallOK Tryz.prog 47 C.spec_l7Zero := fh .nil run.spec_l7Zero
theorem ok.spec_FrameOk : CallOK Tryz.prog 22 C.spec_FrameOk := fh (.c ok.spec_l6Agent (.c ok.spec_l1In (.c ok.spec_ItemOk (.c ok.spec_SetOk (.c ok.spec_l7Zero .nil))))) run.spec_FrameOk
theorem ok.spec_l5Join : CallOK Tryz.prog 24 C.spec_l5Join := fh (.c ok.spec_l5Copy (.c ok.spec_l5Put .nil)) run.spec_l5Join
theorem ok.spec_AgentHear : CallOK Tryz.prog 7 C.spec_AgentHear := fh (.c ok.spec_l8Copy (.c ok.spec_AgentOk (.c ok.spec_FrameOk (.c ok.spec_l8Below (.c ok.spec_l5Join (.c ok.spec_l1Max .nil)))))) run.spec_AgentHear
theorem ok.impl_Digits : CallOK Tryz.prog 26 C.impl_Digits := fh (.c ok.strconv_Itoa .nil) run.impl_Digits
theorem ok.impl_SetText : CallOK Tryz.prog 8 C.impl_SetText := fh (.c ok.impl_Digits (.c ok.strings_Join .nil)) run.impl_SetText
theorem ok.laws_FnHeard : CallOK Tryz.prog 3 C.laws_FnHeard := fh (.c ok.laws_big (.c ok.spec_DrawAgentHear (.c ok.impl_AgentHear (.c ok.spec_AgentHear (.c ok.impl_SetText (.c ok.impl_SetJoin (.c ok.impl_AgentOk .nil))))))) run.laws_FnHeard
end Go.Proofs.YtipaepbmdooekaaGreatDoor.Vm
