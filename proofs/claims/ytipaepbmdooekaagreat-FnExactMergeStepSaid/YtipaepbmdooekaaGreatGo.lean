-- compact
import Derived.Test.YtipaepbmdooekaaGreatGf
import Derived.Test.YtipaepbmdooekaaGreatV3
import Derived.Test.YtipaepbmdooekaaGreatVT
import Derived.Test.YtipaepbmdooekaaGreatVU
namespace Go.Proofs.YtipaepbmdooekaaGreat.Vm
open Go Go.RowKit
set_option maxRecDepth 100000
def AllK (P : Program) (l : List (FuncId × List Nat × Con)) : Prop := ∀ p ∈ l, CallOK P p.1 p.2.2
theorem AllK.nil {P : Program} : AllK P [] := fun _ h => by cases h
theorem AllK.cons {P : Program} {f : FuncId} {ks : List Nat} {c : Con} {l : List (FuncId × List Nat × Con)} (h : CallOK P f c) (hl : AllK P l) : AllK P ((f, ks, c) :: l) := fun p hp => by
 rcases List.mem_cons.1 hp with rfl | hp
 ·exact h
 ·exact hl p hp
theorem look_ok {P : Program} : ∀ {l : List (FuncId × List Nat × Con)}, AllK P l -> ∀ f key con, lookK l f key = some con -> CallOK P f con
 | [], h, f, key, con, e => by cases e
 | (g, ks, c) :: l, h, f, key, con, e => by
  simp only [lookK] at e
  cases hb : (Nat.beq g f && eqNs ks key) with
  | true =>
   rw [hb] at e
   cases e
   rw [Bool.and_eq_true] at hb
   have := Nat.eq_of_beq_eq_true hb.1
   subst this
   exact h _ List.mem_cons_self
  | false => rw [hb] at e; exact look_ok (fun p hp => h p (by simp [hp])) f key con e
theorem tb_ok : TabOK Tryz.prog tb := tabCheck_ok (by kernel_rfl)
theorem mixed : Tryz.prog.follows .mixedOrders = true := by kernel_rfl
theorem AllK.c {P : Program} {f : FuncId} {c : Con} {l : List (FuncId × List Nat × Con)} (h : CallOK P f c) (hl : AllK P l) : AllK P ((f, [], c) :: l) := .cons h hl
theorem fh {K : Cons} {L : Loops} {ids : List Nat} {f : FuncId} {fn : Func} {c : Con} {l : List (FuncId × List Nat × Con)} (hl : AllK Tryz.prog l) (hrun : ∀ x, runF tb K L ids fn c x = c.fn x) (hK : K = lookK l := by rfl) (hf : Tryz.prog.funcs[f]? = some fn := by kernel_rfl) (hname : (fn.name == "runtime.NumGoroutine") = false := by kernel_rfl) (hck : funOk fn c = true := by kernel_rfl) : CallOK Tryz.prog f c :=
 fun_holds tb_ok mixed (fun f k con h => look_ok hl f k con (by rw [<- hK]; exact h)) hf hname hck hrun
theorem ok.laws_big : CallOK Tryz.prog 8 C.laws_big := fh .nil run.laws_big
theorem ok.spec_l1New : CallOK Tryz.prog 36 C.spec_l1New := fh .nil run.spec_l1New
theorem ok.spec_l1Byte : CallOK Tryz.prog 228 C.spec_l1Byte := fh .nil run.spec_l1Byte
theorem ok.spec_l1Below : CallOK Tryz.prog 117 C.spec_l1Below := fh (.c ok.spec_l1Byte .nil) run.spec_l1Below
theorem ok.spec_l1PickInt : CallOK Tryz.prog 122 C.spec_l1PickInt := fh (.c ok.spec_l1Below .nil) run.spec_l1PickInt
theorem ok.spec_l3Values : CallOK Tryz.prog 232 C.spec_l3Values := fh (.c ok.spec_l1Below (.c ok.spec_l1PickInt (.c ok.spec_l1Byte .nil))) run.spec_l3Values
theorem ok.spec_SketchNew : CallOK Tryz.prog 278 C.spec_SketchNew := fh .nil run.spec_SketchNew
theorem ok.spec_l3Copy : CallOK Tryz.prog 140 C.spec_l3Copy := fh .nil run.spec_l3Copy
theorem ok.spec_l1In : CallOK Tryz.prog 239 C.spec_l1In := fh .nil run.spec_l1In
theorem ok.spec_l3List : CallOK Tryz.prog 240 C.spec_l3List := fh (.c ok.spec_l1In .nil) run.spec_l3List
theorem ok.spec_SketchOk : CallOK Tryz.prog 136 C.spec_SketchOk := fh (.c ok.spec_l1In (.c ok.spec_l3List .nil)) run.spec_SketchOk
theorem ok.spec_l1Min : CallOK Tryz.prog 249 C.spec_l1Min := fh .nil run.spec_l1Min
theorem ok.spec_l1Max : CallOK Tryz.prog 248 C.spec_l1Max := fh .nil run.spec_l1Max
theorem ok.spec_l2Clip : CallOK Tryz.prog 297 C.spec_l2Clip := fh (.c ok.spec_l1Max (.c ok.spec_l1Min .nil)) run.spec_l2Clip
theorem ok.spec_Add : CallOK Tryz.prog 282 C.spec_Add := fh (.c ok.spec_l1Min (.c ok.spec_l2Clip .nil)) run.spec_Add
theorem ok.spec_BucketOf : CallOK Tryz.prog 294 C.spec_BucketOf := fh (.c ok.spec_l2Clip .nil) run.spec_BucketOf
theorem ok.spec_Mix : CallOK Tryz.prog 295 C.spec_Mix := fh (.c ok.spec_l2Clip .nil) run.spec_Mix
theorem ok.spec_RankOf : CallOK Tryz.prog 296 C.spec_RankOf := fh (.c ok.spec_Mix .nil) run.spec_RankOf
theorem ok.spec_Insert : CallOK Tryz.prog 279 C.spec_Insert := fh (.c ok.spec_SketchOk (.c ok.spec_l3Copy (.c ok.spec_l1In (.c ok.spec_l1Max (.c ok.spec_l1Min (.c ok.spec_Add (.c ok.spec_BucketOf (.c ok.spec_Mix (.c ok.spec_RankOf .nil))))))))) run.spec_Insert
theorem ok.spec_Sketched : CallOK Tryz.prog 231 C.spec_Sketched := fh (.c ok.spec_SketchNew (.c ok.spec_Insert .nil)) run.spec_Sketched
theorem ok.spec_l6Right : CallOK Tryz.prog 119 C.spec_l6Right := fh (.c ok.spec_l1Below (.c ok.spec_Sketched (.c ok.spec_l3Values .nil))) run.spec_l6Right
theorem ok.spec_l6Agent : CallOK Tryz.prog 265 C.spec_l6Agent := fh (.c ok.spec_l1In .nil) run.spec_l6Agent
theorem ok.spec_IdOf : CallOK Tryz.prog 229 C.spec_IdOf := fh (.c ok.spec_l1In (.c ok.spec_l6Agent .nil)) run.spec_IdOf
theorem ok.spec_l6Place : CallOK Tryz.prog 134 C.spec_l6Place := fh (.c ok.spec_l1In .nil) run.spec_l6Place
theorem ok.spec_ItemOk : CallOK Tryz.prog 230 C.spec_ItemOk := fh (.c ok.spec_l6Place (.c ok.spec_SketchOk (.c ok.spec_l1In .nil))) run.spec_ItemOk
theorem ok.spec_EntryOf : CallOK Tryz.prog 118 C.spec_EntryOf := fh (.c ok.spec_l3Copy (.c ok.spec_IdOf (.c ok.spec_ItemOk .nil))) run.spec_EntryOf
theorem ok.spec_l1Once : CallOK Tryz.prog 40 C.spec_l1Once := fh (.c ok.spec_l1Below .nil) run.spec_l1Once
theorem ok.spec_l5Copy : CallOK Tryz.prog 139 C.spec_l5Copy := fh .nil run.spec_l5Copy
theorem ok.spec_l6Copy : CallOK Tryz.prog 55 C.spec_l6Copy := fh (.c ok.spec_l5Copy (.c ok.spec_l3Copy .nil)) run.spec_l6Copy
theorem ok.spec_l10Copy : CallOK Tryz.prog 163 C.spec_l10Copy := fh (.c ok.spec_l6Copy .nil) run.spec_l10Copy
theorem ok.spec_SetOk : CallOK Tryz.prog 135 C.spec_SetOk := fh (.c ok.spec_l1In .nil) run.spec_SetOk
theorem ok.spec_EntryOk : CallOK Tryz.prog 53 C.spec_EntryOk := fh (.c ok.spec_l6Place (.c ok.spec_SetOk (.c ok.spec_SketchOk .nil))) run.spec_EntryOk
theorem ok.spec_SetApart : CallOK Tryz.prog 137 C.spec_SetApart := fh (.c ok.spec_SetOk .nil) run.spec_SetApart
theorem ok.spec_RowOk : CallOK Tryz.prog 114 C.spec_RowOk := fh (.c ok.spec_EntryOk (.c ok.spec_SetApart .nil)) run.spec_RowOk
theorem ok.spec_l10Apart : CallOK Tryz.prog 269 C.spec_l10Apart := fh (.c ok.spec_SetApart .nil) run.spec_l10Apart
theorem ok.spec_l5Put : CallOK Tryz.prog 247 C.spec_l5Put := fh (.c ok.spec_l1Max (.c ok.spec_l1Min .nil)) run.spec_l5Put
theorem ok.spec_l5Join : CallOK Tryz.prog 157 C.spec_l5Join := fh (.c ok.spec_l5Copy (.c ok.spec_l5Put .nil)) run.spec_l5Join
theorem ok.spec_l3Sum : CallOK Tryz.prog 283 C.spec_l3Sum := fh (.c ok.spec_Add .nil) run.spec_l3Sum
theorem ok.spec_l3Merge : CallOK Tryz.prog 241 C.spec_l3Merge := fh (.c ok.spec_l1Max (.c ok.spec_l1Min (.c ok.spec_Add (.c ok.spec_l3Sum .nil)))) run.spec_l3Merge
theorem ok.spec_l6Add : CallOK Tryz.prog 138 C.spec_l6Add := fh (.c ok.spec_l5Join (.c ok.spec_l3Merge .nil)) run.spec_l6Add
theorem ok.spec_RowPush : CallOK Tryz.prog 212 C.spec_RowPush := fh (.c ok.spec_EntryOk (.c ok.spec_l6Copy (.c ok.spec_RowOk (.c ok.spec_l6Add (.c ok.spec_l10Copy (.c ok.spec_l10Apart .nil)))))) run.spec_RowPush
theorem ok.spec_l10Right : CallOK Tryz.prog 116 C.spec_l10Right := fh (.c ok.spec_l1Once (.c ok.spec_l1Below (.c ok.spec_EntryOf (.c ok.spec_l6Right (.c ok.spec_RowPush .nil))))) run.spec_l10Right
theorem ok.spec_l5Right : CallOK Tryz.prog 233 C.spec_l5Right := fh (.c ok.spec_l1Below (.c ok.spec_l1PickInt (.c ok.spec_l5Put (.c ok.spec_l1Min .nil)))) run.spec_l5Right
theorem ok.spec_l5Draw : CallOK Tryz.prog 120 C.spec_l5Draw := fh (.c ok.spec_l1Once (.c ok.spec_l1PickInt (.c ok.spec_l5Right .nil))) run.spec_l5Draw
theorem ok.spec_l3Right : CallOK Tryz.prog 234 C.spec_l3Right := fh (.c ok.spec_l1Once (.c ok.spec_l1Below (.c ok.spec_Sketched (.c ok.spec_l3Values .nil)))) run.spec_l3Right
theorem ok.spec_l3Draw : CallOK Tryz.prog 121 C.spec_l3Draw := fh (.c ok.spec_l1Below (.c ok.spec_l1PickInt (.c ok.spec_l3Right .nil))) run.spec_l3Draw
theorem ok.spec_l6Entry : CallOK Tryz.prog 39 C.spec_l6Entry := fh (.c ok.spec_l1Once (.c ok.spec_l1Below (.c ok.spec_EntryOf (.c ok.spec_l6Right (.c ok.spec_l5Draw (.c ok.spec_l3Draw (.c ok.spec_l1PickInt .nil))))))) run.spec_l6Entry
theorem ok.spec_l10Draw : CallOK Tryz.prog 38 C.spec_l10Draw := fh (.c ok.spec_l6Entry (.c ok.spec_l6Copy (.c ok.spec_l10Right (.c ok.spec_l1Below .nil)))) run.spec_l10Draw
theorem ok.spec_l10Into : CallOK Tryz.prog 115 C.spec_l10Into := fh (.c ok.spec_l6Copy (.c ok.spec_l6Add .nil)) run.spec_l10Into
theorem ok.spec_RowSum : CallOK Tryz.prog 37 C.spec_RowSum := fh (.c ok.spec_RowOk (.c ok.spec_l10Into .nil)) run.spec_RowSum
theorem ok.spec_DrawRootAdd : CallOK Tryz.prog 9 C.spec_DrawRootAdd := fh (.c ok.spec_l1New (.c ok.spec_RowSum (.c ok.spec_l10Draw (.c ok.spec_l6Entry (.c ok.spec_l1Once .nil))))) run.spec_DrawRootAdd
theorem ok.impl_copySet : CallOK Tryz.prog 132 C.impl_copySet := fh .nil run.impl_copySet
theorem ok.impl_copyInts : CallOK Tryz.prog 238 C.impl_copyInts := fh .nil run.impl_copyInts
theorem ok.impl_copySketch : CallOK Tryz.prog 133 C.impl_copySketch := fh (.c ok.impl_copyInts .nil) run.impl_copySketch
theorem ok.impl_copyEntry : CallOK Tryz.prog 51 C.impl_copyEntry := fh (.c ok.impl_copySet (.c ok.impl_copySketch .nil)) run.impl_copyEntry
theorem ok.impl_copyEntries : CallOK Tryz.prog 41 C.impl_copyEntries := fh (.c ok.impl_copyEntry .nil) run.impl_copyEntries
theorem ok.impl_within : CallOK Tryz.prog 123 C.impl_within := fh .nil run.impl_within
theorem ok.impl_SetOk : CallOK Tryz.prog 124 C.impl_SetOk := fh (.c ok.impl_within .nil) run.impl_SetOk
theorem ok.impl_counts : CallOK Tryz.prog 235 C.impl_counts := fh (.c ok.impl_copyInts .nil) run.impl_counts
theorem ok.impl_SketchOk : CallOK Tryz.prog 125 C.impl_SketchOk := fh (.c ok.impl_within (.c ok.impl_counts .nil)) run.impl_SketchOk
theorem ok.impl_EntryOk : CallOK Tryz.prog 42 C.impl_EntryOk := fh (.c ok.impl_within (.c ok.impl_SetOk (.c ok.impl_SketchOk .nil))) run.impl_EntryOk
theorem ok.impl_RootAdd_1 : CallOK Tryz.prog 44 C.impl_RootAdd_1 := fh (.c ok.impl_EntryOk .nil) run.impl_RootAdd_1
theorem ok.slices_IndexFunc_Entry__impl_RootAdd_1 : CallOK Tryz.prog 47 C.slices_IndexFunc_Entry__impl_RootAdd_1 := fh (.c ok.impl_RootAdd_1 .nil) run.slices_IndexFunc_Entry__impl_RootAdd_1
theorem ok.slices_ContainsFunc_Entry__impl_RootAdd_1 : CallOK Tryz.prog 43 C.slices_ContainsFunc_Entry__impl_RootAdd_1 := fh (.cons (ks := [44]) ok.slices_IndexFunc_Entry__impl_RootAdd_1 .nil) run.slices_ContainsFunc_Entry__impl_RootAdd_1
theorem ok.impl_placeOf_1 : CallOK Tryz.prog 126 C.impl_placeOf_1 := fh .nil run.impl_placeOf_1
theorem ok.slices_IndexFunc_Entry__impl_placeOf_1 : CallOK Tryz.prog 47 C.slices_IndexFunc_Entry__impl_placeOf_1 := fh (.c ok.impl_placeOf_1 .nil) run.slices_IndexFunc_Entry__impl_placeOf_1
theorem ok.impl_placeOf : CallOK Tryz.prog 45 C.impl_placeOf := fh (.cons (ks := [126]) ok.slices_IndexFunc_Entry__impl_placeOf_1 .nil) run.impl_placeOf
theorem ok.impl_SetApart : CallOK Tryz.prog 127 C.impl_SetApart := fh (.c ok.impl_SetOk .nil) run.impl_SetApart
theorem ok.impl_union : CallOK Tryz.prog 186 C.impl_union := fh (.c ok.impl_copySet (.cons (ks := [260]) ok.slices_SortFunc_Span__impl_union_1 .nil)) run.impl_union
theorem ok.impl_SetJoin : CallOK Tryz.prog 128 C.impl_SetJoin := fh (.c ok.impl_SetOk (.c ok.impl_copySet (.c ok.impl_union .nil))) run.impl_SetJoin
theorem ok.impl_limited : CallOK Tryz.prog 280 C.impl_limited := fh .nil run.impl_limited
theorem ok.impl_Add : CallOK Tryz.prog 236 C.impl_Add := fh (.c ok.impl_limited .nil) run.impl_Add
theorem ok.impl_Merge : CallOK Tryz.prog 129 C.impl_Merge := fh (.c ok.impl_SketchOk (.c ok.impl_copySketch (.c ok.impl_Add .nil))) run.impl_Merge
theorem ok.impl_EntryAdd : CallOK Tryz.prog 46 C.impl_EntryAdd := fh (.c ok.impl_EntryOk (.c ok.impl_SetApart (.c ok.impl_SetJoin (.c ok.impl_Merge .nil)))) run.impl_EntryAdd
theorem ok.impl_ahead : CallOK Tryz.prog 49 C.impl_ahead := fh .nil run.impl_ahead
theorem ok.impl_RootAdd_2 : CallOK Tryz.prog 48 C.impl_RootAdd_2 := fh (.c ok.impl_ahead .nil) run.impl_RootAdd_2
theorem ok.slices_IndexFunc_Entry__impl_RootAdd_2 : CallOK Tryz.prog 47 C.slices_IndexFunc_Entry__impl_RootAdd_2 := fh (.c ok.impl_RootAdd_2 .nil) run.slices_IndexFunc_Entry__impl_RootAdd_2
theorem ok.impl_RootAdd : CallOK Tryz.prog 10 C.impl_RootAdd := fh (.c ok.impl_copyEntries (.c ok.impl_EntryOk (.cons (ks := [44]) ok.slices_ContainsFunc_Entry__impl_RootAdd_1 (.c ok.impl_placeOf (.c ok.impl_EntryAdd (.cons (ks := [48]) ok.slices_IndexFunc_Entry__impl_RootAdd_2 (.c ok.slices_Insert_Entry (.c ok.impl_copyEntry .nil)))))))) run.impl_RootAdd
theorem ok.spec_l14Entries : CallOK Tryz.prog 52 C.spec_l14Entries := fh (.c ok.spec_l6Copy .nil) run.spec_l14Entries
theorem ok.spec_EntryAdd : CallOK Tryz.prog 54 C.spec_EntryAdd := fh (.c ok.spec_EntryOk (.c ok.spec_SetApart (.c ok.spec_l6Add .nil))) run.spec_EntryAdd
theorem ok.spec_RootAdd : CallOK Tryz.prog 11 C.spec_RootAdd := fh (.c ok.spec_l14Entries (.c ok.spec_EntryOk (.c ok.spec_EntryAdd (.c ok.spec_l6Copy .nil)))) run.spec_RootAdd
theorem ok.laws_FnRootAdded : CallOK Tryz.prog 3 C.laws_FnRootAdded := fh (.c ok.laws_big (.c ok.spec_DrawRootAdd (.c ok.impl_RootAdd (.c ok.spec_RootAdd .nil)))) run.laws_FnRootAdded
theorem ok.laws_szSpanS : CallOK Tryz.prog 56 C.laws_szSpanS := fh .nil run.laws_szSpanS
theorem ok.laws_szIntS : CallOK Tryz.prog 141 C.laws_szIntS := fh .nil run.laws_szIntS
theorem ok.laws_szIntSS : CallOK Tryz.prog 142 C.laws_szIntSS := fh (.c ok.laws_szIntS .nil) run.laws_szIntSS
theorem ok.laws_szSketch : CallOK Tryz.prog 57 C.laws_szSketch := fh (.c ok.laws_szIntS (.c ok.laws_szIntSS .nil)) run.laws_szSketch
theorem ok.laws_szEntry : CallOK Tryz.prog 13 C.laws_szEntry := fh (.c ok.laws_szSpanS (.c ok.laws_szSketch .nil)) run.laws_szEntry
theorem ok.laws_szEntryS : CallOK Tryz.prog 12 C.laws_szEntryS := fh (.c ok.laws_szEntry .nil) run.laws_szEntryS
theorem ok.laws_toSpan : CallOK Tryz.prog 143 C.laws_toSpan := fh .nil run.laws_toSpan
theorem ok.laws_toSpanS : CallOK Tryz.prog 58 C.laws_toSpanS := fh (.c ok.laws_toSpan .nil) run.laws_toSpanS
theorem ok.laws_toIntS : CallOK Tryz.prog 144 C.laws_toIntS := fh .nil run.laws_toIntS
theorem ok.laws_toIntSS : CallOK Tryz.prog 145 C.laws_toIntSS := fh (.c ok.laws_toIntS .nil) run.laws_toIntSS
theorem ok.laws_toSketch : CallOK Tryz.prog 59 C.laws_toSketch := fh (.c ok.laws_toIntS (.c ok.laws_toIntSS .nil)) run.laws_toSketch
theorem ok.laws_toEntry : CallOK Tryz.prog 15 C.laws_toEntry := fh (.c ok.laws_toSpanS (.c ok.laws_toSketch .nil)) run.laws_toEntry
theorem ok.laws_toEntryS : CallOK Tryz.prog 14 C.laws_toEntryS := fh (.c ok.laws_toEntry .nil) run.laws_toEntryS
theorem ok.laws_eqSpan : CallOK Tryz.prog 146 C.laws_eqSpan := fh .nil run.laws_eqSpan
theorem ok.laws_eqSpanS : CallOK Tryz.prog 60 C.laws_eqSpanS := fh (.c ok.laws_eqSpan .nil) run.laws_eqSpanS
theorem ok.laws_eqIntS : CallOK Tryz.prog 147 C.laws_eqIntS := fh .nil run.laws_eqIntS
theorem ok.laws_eqIntSS : CallOK Tryz.prog 148 C.laws_eqIntSS := fh (.c ok.laws_eqIntS .nil) run.laws_eqIntSS
theorem ok.laws_eqSketch : CallOK Tryz.prog 61 C.laws_eqSketch := fh (.c ok.laws_eqIntS (.c ok.laws_eqIntSS .nil)) run.laws_eqSketch
theorem ok.laws_eqEntry : CallOK Tryz.prog 17 C.laws_eqEntry := fh (.c ok.laws_eqSpanS (.c ok.laws_eqSketch .nil)) run.laws_eqEntry
theorem ok.laws_eqEntryS : CallOK Tryz.prog 16 C.laws_eqEntryS := fh (.c ok.laws_eqEntry .nil) run.laws_eqEntryS
theorem ok.laws_markSpanS : CallOK Tryz.prog 62 C.laws_markSpanS := fh .nil run.laws_markSpanS
theorem ok.laws_markIntS : CallOK Tryz.prog 63 C.laws_markIntS := fh .nil run.laws_markIntS
theorem ok.laws_markIntSS : CallOK Tryz.prog 64 C.laws_markIntSS := fh (.c ok.laws_markIntS .nil) run.laws_markIntSS
theorem ok.laws_markEntryS : CallOK Tryz.prog 18 C.laws_markEntryS := fh (.c ok.laws_markSpanS (.c ok.laws_markIntS (.c ok.laws_markIntSS .nil))) run.laws_markEntryS
theorem ok.laws_markSketch : CallOK Tryz.prog 65 C.laws_markSketch := fh (.c ok.laws_markIntS (.c ok.laws_markIntSS .nil)) run.laws_markSketch
theorem ok.laws_markEntry : CallOK Tryz.prog 19 C.laws_markEntry := fh (.c ok.laws_markSpanS (.c ok.laws_markSketch .nil)) run.laws_markEntry
theorem ok.laws_heldSpanS : CallOK Tryz.prog 66 C.laws_heldSpanS := fh .nil run.laws_heldSpanS
theorem ok.laws_heldIntS : CallOK Tryz.prog 67 C.laws_heldIntS := fh .nil run.laws_heldIntS
theorem ok.laws_heldIntSS : CallOK Tryz.prog 68 C.laws_heldIntSS := fh (.c ok.laws_heldIntS .nil) run.laws_heldIntSS
theorem ok.laws_heldEntryS : CallOK Tryz.prog 20 C.laws_heldEntryS := fh (.c ok.laws_heldSpanS (.c ok.laws_heldIntS (.c ok.laws_heldIntSS .nil))) run.laws_heldEntryS
theorem ok.laws_FnExactRootAdd : CallOK Tryz.prog 4 C.laws_FnExactRootAdd := fh (.c ok.impl_RootAdd (.c ok.spec_RootAdd (.c ok.laws_szEntryS (.c ok.laws_szEntry (.c ok.laws_toEntryS (.c ok.laws_toEntry (.c ok.laws_eqEntryS (.c ok.laws_eqEntry (.c ok.laws_markEntryS (.c ok.laws_markEntry (.c ok.laws_heldEntryS .nil))))))))))) run.laws_FnExactRootAdd
theorem ok.laws_szConf : CallOK Tryz.prog 69 C.laws_szConf := fh (.c ok.laws_szIntS .nil) run.laws_szConf
theorem ok.laws_szSeat : CallOK Tryz.prog 149 C.laws_szSeat := fh (.c ok.laws_szSpanS .nil) run.laws_szSeat
theorem ok.laws_szSeatS : CallOK Tryz.prog 70 C.laws_szSeatS := fh (.c ok.laws_szSeat .nil) run.laws_szSeatS
theorem ok.laws_szRow : CallOK Tryz.prog 242 C.laws_szRow := fh (.c ok.laws_szEntryS .nil) run.laws_szRow
theorem ok.laws_szRowS : CallOK Tryz.prog 150 C.laws_szRowS := fh (.c ok.laws_szRow .nil) run.laws_szRowS
theorem ok.laws_szRowSS : CallOK Tryz.prog 71 C.laws_szRowSS := fh (.c ok.laws_szRowS .nil) run.laws_szRowSS
theorem ok.laws_szTurn : CallOK Tryz.prog 151 C.laws_szTurn := fh (.c ok.laws_szIntS .nil) run.laws_szTurn
theorem ok.laws_szTurnS : CallOK Tryz.prog 72 C.laws_szTurnS := fh (.c ok.laws_szTurn .nil) run.laws_szTurnS
theorem ok.laws_szOut : CallOK Tryz.prog 152 C.laws_szOut := fh (.c ok.laws_szEntry .nil) run.laws_szOut
theorem ok.laws_szOutS : CallOK Tryz.prog 73 C.laws_szOutS := fh (.c ok.laws_szOut .nil) run.laws_szOutS
theorem ok.laws_szHouse : CallOK Tryz.prog 21 C.laws_szHouse := fh (.c ok.laws_szEntryS (.c ok.laws_szConf (.c ok.laws_szSeatS (.c ok.laws_szRowSS (.c ok.laws_szTurnS (.c ok.laws_szOutS .nil)))))) run.laws_szHouse
theorem ok.laws_toConf : CallOK Tryz.prog 77 C.laws_toConf := fh (.c ok.laws_toIntS .nil) run.laws_toConf
theorem ok.laws_toSeat : CallOK Tryz.prog 169 C.laws_toSeat := fh (.c ok.laws_toSpanS .nil) run.laws_toSeat
theorem ok.laws_toSeatS : CallOK Tryz.prog 78 C.laws_toSeatS := fh (.c ok.laws_toSeat .nil) run.laws_toSeatS
theorem ok.laws_toRow : CallOK Tryz.prog 253 C.laws_toRow := fh (.c ok.laws_toEntryS .nil) run.laws_toRow
theorem ok.laws_toRowS : CallOK Tryz.prog 170 C.laws_toRowS := fh (.c ok.laws_toRow .nil) run.laws_toRowS
theorem ok.laws_toRowSS : CallOK Tryz.prog 79 C.laws_toRowSS := fh (.c ok.laws_toRowS .nil) run.laws_toRowSS
theorem ok.laws_toTurn : CallOK Tryz.prog 171 C.laws_toTurn := fh (.c ok.laws_toIntS .nil) run.laws_toTurn
theorem ok.laws_toTurnS : CallOK Tryz.prog 80 C.laws_toTurnS := fh (.c ok.laws_toTurn .nil) run.laws_toTurnS
theorem ok.laws_toOut : CallOK Tryz.prog 172 C.laws_toOut := fh (.c ok.laws_toEntry .nil) run.laws_toOut
theorem ok.laws_toOutS : CallOK Tryz.prog 81 C.laws_toOutS := fh (.c ok.laws_toOut .nil) run.laws_toOutS
theorem ok.laws_toHouse : CallOK Tryz.prog 23 C.laws_toHouse := fh (.c ok.laws_toEntryS (.c ok.laws_toConf (.c ok.laws_toSeatS (.c ok.laws_toRowSS (.c ok.laws_toTurnS (.c ok.laws_toOutS .nil)))))) run.laws_toHouse
theorem ok.spec_l11Nums : CallOK Tryz.prog 165 C.spec_l11Nums := fh (.c ok.spec_l1In .nil) run.spec_l11Nums
theorem ok.spec_ConfOk : CallOK Tryz.prog 153 C.spec_ConfOk := fh (.c ok.spec_l11Nums (.c ok.spec_l1In .nil)) run.spec_ConfOk
theorem ok.spec_l8Below : CallOK Tryz.prog 284 C.spec_l8Below := fh (.c ok.spec_SetOk .nil) run.spec_l8Below
theorem ok.spec_SetSize : CallOK Tryz.prog 202 C.spec_SetSize := fh (.c ok.spec_SetOk .nil) run.spec_SetSize
theorem ok.spec_SeatOk : CallOK Tryz.prog 243 C.spec_SeatOk := fh (.c ok.spec_SetSize (.c ok.spec_l1In (.c ok.spec_l8Below .nil))) run.spec_SeatOk
theorem ok.spec_RowIds : CallOK Tryz.prog 244 C.spec_RowIds := fh (.c ok.spec_RowOk (.c ok.spec_l5Join .nil)) run.spec_RowIds
theorem ok.spec_l12Of : CallOK Tryz.prog 160 C.spec_l12Of := fh (.c ok.spec_l1Max (.c ok.spec_l1Min .nil)) run.spec_l12Of
theorem ok.spec_TurnOk : CallOK Tryz.prog 245 C.spec_TurnOk := fh (.c ok.spec_l11Nums (.c ok.spec_l6Agent .nil)) run.spec_TurnOk
theorem ok.spec_l12Parts : CallOK Tryz.prog 154 C.spec_l12Parts := fh (.c ok.spec_RowOk (.c ok.spec_l12Of (.c ok.spec_SetSize (.c ok.spec_l1In (.c ok.spec_SeatOk (.c ok.spec_RowIds (.c ok.spec_TurnOk .nil))))))) run.spec_l12Parts
theorem ok.spec_l1Bit : CallOK Tryz.prog 285 C.spec_l1Bit := fh .nil run.spec_l1Bit
theorem ok.spec_l12Gen : CallOK Tryz.prog 246 C.spec_l12Gen := fh (.c ok.spec_l1Bit .nil) run.spec_l12Gen
theorem ok.spec_l12Root : CallOK Tryz.prog 155 C.spec_l12Root := fh (.c ok.spec_EntryOk (.c ok.spec_l12Gen .nil)) run.spec_l12Root
theorem ok.spec_l12All : CallOK Tryz.prog 156 C.spec_l12All := fh .nil run.spec_l12All
theorem ok.spec_l12Taken : CallOK Tryz.prog 159 C.spec_l12Taken := fh (.c ok.spec_l5Put .nil) run.spec_l12Taken
theorem ok.spec_l5Same : CallOK Tryz.prog 158 C.spec_l5Same := fh .nil run.spec_l5Same
theorem ok.spec_HouseOk : CallOK Tryz.prog 74 C.spec_HouseOk := fh (.c ok.spec_SetApart (.c ok.spec_ConfOk (.c ok.spec_l12Parts (.c ok.spec_l12Root (.c ok.spec_l12All (.c ok.spec_l5Join (.c ok.spec_l5Same (.c ok.spec_l12Taken (.c ok.spec_l12Of .nil))))))))) run.spec_HouseOk
theorem ok.spec_l12Conf : CallOK Tryz.prog 161 C.spec_l12Conf := fh .nil run.spec_l12Conf
theorem ok.spec_l9Copy : CallOK Tryz.prog 162 C.spec_l9Copy := fh (.c ok.spec_l5Copy .nil) run.spec_l9Copy
theorem ok.spec_l11Copy : CallOK Tryz.prog 164 C.spec_l11Copy := fh .nil run.spec_l11Copy
theorem ok.spec_l12Copy : CallOK Tryz.prog 75 C.spec_l12Copy := fh (.c ok.spec_l6Copy (.c ok.spec_l12Conf (.c ok.spec_l9Copy (.c ok.spec_l10Copy (.c ok.spec_l11Copy .nil))))) run.spec_l12Copy
theorem ok.spec_l6Full : CallOK Tryz.prog 286 C.spec_l6Full := fh (.c ok.spec_l1Bit .nil) run.spec_l6Full
theorem ok.spec_EntrySize : CallOK Tryz.prog 250 C.spec_EntrySize := fh (.c ok.spec_EntryOk (.c ok.spec_l6Full .nil)) run.spec_EntrySize
theorem ok.spec_l14Sizes : CallOK Tryz.prog 166 C.spec_l14Sizes := fh (.c ok.spec_l1Min (.c ok.spec_EntrySize .nil)) run.spec_l14Sizes
theorem ok.spec_PickClass : CallOK Tryz.prog 167 C.spec_PickClass := fh (.c ok.spec_l1In .nil) run.spec_PickClass
theorem ok.spec_TurnNew : CallOK Tryz.prog 251 C.spec_TurnNew := fh .nil run.spec_TurnNew
theorem ok.spec_l11Next : CallOK Tryz.prog 252 C.spec_l11Next := fh .nil run.spec_l11Next
theorem ok.spec_Pick : CallOK Tryz.prog 168 C.spec_Pick := fh (.c ok.spec_l11Copy (.c ok.spec_l11Nums (.c ok.spec_l1In (.c ok.spec_TurnOk (.c ok.spec_l1Min (.c ok.spec_TurnNew (.c ok.spec_l11Next .nil))))))) run.spec_Pick
theorem ok.spec_l14Next : CallOK Tryz.prog 76 C.spec_l14Next := fh (.c ok.spec_l12Copy (.c ok.spec_l11Nums (.c ok.spec_l14Sizes (.c ok.spec_PickClass (.c ok.spec_Pick .nil))))) run.spec_l14Next
theorem ok.spec_NextOf : CallOK Tryz.prog 22 C.spec_NextOf := fh (.c ok.spec_HouseOk (.c ok.spec_l12Copy (.c ok.spec_l14Next .nil))) run.spec_NextOf
theorem ok.impl_copyConf : CallOK Tryz.prog 173 C.impl_copyConf := fh (.c ok.impl_copyInts .nil) run.impl_copyConf
theorem ok.impl_copyOuts : CallOK Tryz.prog 174 C.impl_copyOuts := fh (.c ok.impl_copyEntry .nil) run.impl_copyOuts
theorem ok.impl_copySeat : CallOK Tryz.prog 175 C.impl_copySeat := fh (.c ok.impl_copySet .nil) run.impl_copySeat
theorem ok.impl_copyRow : CallOK Tryz.prog 176 C.impl_copyRow := fh (.c ok.impl_copyEntries .nil) run.impl_copyRow
theorem ok.impl_copyTurn : CallOK Tryz.prog 177 C.impl_copyTurn := fh (.c ok.impl_copyInts .nil) run.impl_copyTurn
theorem ok.impl_copyHouse : CallOK Tryz.prog 82 C.impl_copyHouse := fh (.c ok.impl_copyEntries (.c ok.impl_copyConf (.c ok.impl_copyOuts (.c ok.impl_copySeat (.c ok.impl_copyRow (.c ok.impl_copyTurn .nil)))))) run.impl_copyHouse
theorem ok.impl_allWithin : CallOK Tryz.prog 188 C.impl_allWithin := fh (.c ok.impl_within .nil) run.impl_allWithin
theorem ok.impl_ConfOk : CallOK Tryz.prog 254 C.impl_ConfOk := fh (.c ok.impl_within (.c ok.impl_allWithin .nil)) run.impl_ConfOk
theorem ok.impl_allIn : CallOK Tryz.prog 255 C.impl_allIn := fh (.c ok.impl_SetOk .nil) run.impl_allIn
theorem ok.impl_SetSize : CallOK Tryz.prog 106 C.impl_SetSize := fh (.c ok.impl_SetOk .nil) run.impl_SetSize
theorem ok.impl_SeatOk : CallOK Tryz.prog 205 C.impl_SeatOk := fh (.c ok.impl_SetSize (.c ok.impl_within (.c ok.impl_allIn .nil))) run.impl_SeatOk
theorem ok.impl_apart : CallOK Tryz.prog 179 C.impl_apart := fh (.c ok.impl_EntryOk (.c ok.impl_SetApart .nil)) run.impl_apart
theorem ok.impl_RowOk : CallOK Tryz.prog 204 C.impl_RowOk := fh (.c ok.impl_apart .nil) run.impl_RowOk
theorem ok.impl_idsOf : CallOK Tryz.prog 182 C.impl_idsOf := fh (.c ok.impl_union .nil) run.impl_idsOf
theorem ok.impl_RowIds : CallOK Tryz.prog 256 C.impl_RowIds := fh (.c ok.impl_idsOf (.c ok.impl_RowOk .nil)) run.impl_RowIds
theorem ok.impl_IdOf : CallOK Tryz.prog 184 C.impl_IdOf := fh (.c ok.impl_within .nil) run.impl_IdOf
theorem ok.impl_TurnOk : CallOK Tryz.prog 189 C.impl_TurnOk := fh (.c ok.impl_within (.c ok.impl_allWithin .nil)) run.impl_TurnOk
theorem ok.impl_partsOk : CallOK Tryz.prog 178 C.impl_partsOk := fh (.c ok.impl_ahead (.c ok.impl_within (.c ok.impl_IdOf (.c ok.impl_TurnOk (.c ok.impl_RowOk (.c ok.impl_SeatOk (.c ok.impl_ConfOk (.c ok.impl_allIn (.c ok.impl_RowIds .nil))))))))) run.impl_partsOk
theorem ok.impl_rowEntries : CallOK Tryz.prog 180 C.impl_rowEntries := fh .nil run.impl_rowEntries
theorem ok.impl_added : CallOK Tryz.prog 181 C.impl_added := fh .nil run.impl_added
theorem ok.impl_SetHas_1 : CallOK Tryz.prog 258 C.impl_SetHas_1 := fh (.c ok.impl_within .nil) run.impl_SetHas_1
theorem ok.slices_IndexFunc_Span__impl_SetHas_1 : CallOK Tryz.prog 287 C.slices_IndexFunc_Span__impl_SetHas_1 := fh (.c ok.impl_SetHas_1 .nil) run.slices_IndexFunc_Span__impl_SetHas_1
theorem ok.slices_ContainsFunc_Span__impl_SetHas_1 : CallOK Tryz.prog 257 C.slices_ContainsFunc_Span__impl_SetHas_1 := fh (.cons (ks := [258]) ok.slices_IndexFunc_Span__impl_SetHas_1 .nil) run.slices_ContainsFunc_Span__impl_SetHas_1
theorem ok.impl_SetHas : CallOK Tryz.prog 183 C.impl_SetHas := fh (.cons (ks := [258]) ok.slices_ContainsFunc_Span__impl_SetHas_1 .nil) run.impl_SetHas
theorem ok.slices_Equal_Span : CallOK Tryz.prog 185 C.slices_Equal_Span := fh .nil run.slices_Equal_Span
theorem ok.impl_told : CallOK Tryz.prog 187 C.impl_told := fh .nil run.impl_told
theorem ok.impl_HouseOk : CallOK Tryz.prog 83 C.impl_HouseOk := fh (.c ok.impl_partsOk (.c ok.impl_apart (.c ok.impl_rowEntries (.c ok.impl_added (.c ok.impl_idsOf (.c ok.impl_SetHas (.c ok.impl_IdOf (.c ok.slices_Equal_Span (.c ok.impl_union (.c ok.impl_told .nil)))))))))) run.impl_HouseOk
theorem ok.impl_Items : CallOK Tryz.prog 84 C.impl_Items := fh (.c ok.impl_rowEntries .nil) run.impl_Items
theorem ok.impl_PickClass : CallOK Tryz.prog 85 C.impl_PickClass := fh (.c ok.impl_within .nil) run.impl_PickClass
theorem ok.impl_EntrySize : CallOK Tryz.prog 192 C.impl_EntrySize := fh (.c ok.impl_EntryOk (.c ok.impl_counts .nil)) run.impl_EntrySize
theorem ok.impl_Sizes : CallOK Tryz.prog 87 C.impl_Sizes := fh (.c ok.impl_HouseOk (.c ok.impl_within (.c ok.impl_EntrySize .nil))) run.impl_Sizes
theorem ok.slices_Max_int : CallOK Tryz.prog 190 C.slices_Max_int := fh .nil run.slices_Max_int
theorem ok.impl_TurnNew : CallOK Tryz.prog 191 C.impl_TurnNew := fh .nil run.impl_TurnNew
theorem ok.impl_Pick : CallOK Tryz.prog 86 C.impl_Pick := fh (.c ok.impl_within (.c ok.impl_copyTurn (.c ok.impl_allWithin (.c ok.impl_TurnOk (.c ok.slices_Max_int (.c ok.impl_TurnNew .nil)))))) run.impl_Pick
theorem ok.impl_NextOf : CallOK Tryz.prog 24 C.impl_NextOf := fh (.c ok.impl_copyHouse (.c ok.impl_HouseOk (.c ok.impl_Items (.c ok.impl_PickClass (.c ok.impl_Pick (.c ok.impl_Sizes .nil)))))) run.impl_NextOf
theorem ok.laws_eqConf : CallOK Tryz.prog 88 C.laws_eqConf := fh (.c ok.laws_eqIntS .nil) run.laws_eqConf
theorem ok.laws_eqSeat : CallOK Tryz.prog 193 C.laws_eqSeat := fh (.c ok.laws_eqSpanS .nil) run.laws_eqSeat
theorem ok.laws_eqSeatS : CallOK Tryz.prog 89 C.laws_eqSeatS := fh (.c ok.laws_eqSeat .nil) run.laws_eqSeatS
theorem ok.laws_eqRow : CallOK Tryz.prog 262 C.laws_eqRow := fh (.c ok.laws_eqEntryS .nil) run.laws_eqRow
theorem ok.laws_eqRowS : CallOK Tryz.prog 194 C.laws_eqRowS := fh (.c ok.laws_eqRow .nil) run.laws_eqRowS
theorem ok.laws_eqRowSS : CallOK Tryz.prog 90 C.laws_eqRowSS := fh (.c ok.laws_eqRowS .nil) run.laws_eqRowSS
theorem ok.laws_eqTurn : CallOK Tryz.prog 195 C.laws_eqTurn := fh (.c ok.laws_eqIntS .nil) run.laws_eqTurn
theorem ok.laws_eqTurnS : CallOK Tryz.prog 91 C.laws_eqTurnS := fh (.c ok.laws_eqTurn .nil) run.laws_eqTurnS
theorem ok.laws_eqOut : CallOK Tryz.prog 196 C.laws_eqOut := fh (.c ok.laws_eqEntry .nil) run.laws_eqOut
theorem ok.laws_eqOutS : CallOK Tryz.prog 92 C.laws_eqOutS := fh (.c ok.laws_eqOut .nil) run.laws_eqOutS
theorem ok.laws_eqHouse : CallOK Tryz.prog 25 C.laws_eqHouse := fh (.c ok.laws_eqEntryS (.c ok.laws_eqConf (.c ok.laws_eqSeatS (.c ok.laws_eqRowSS (.c ok.laws_eqTurnS (.c ok.laws_eqOutS .nil)))))) run.laws_eqHouse
theorem ok.laws_markConf : CallOK Tryz.prog 93 C.laws_markConf := fh (.c ok.laws_markIntS .nil) run.laws_markConf
theorem ok.laws_markSeatS : CallOK Tryz.prog 94 C.laws_markSeatS := fh (.c ok.laws_markSpanS .nil) run.laws_markSeatS
theorem ok.laws_markRowS : CallOK Tryz.prog 197 C.laws_markRowS := fh (.c ok.laws_markEntryS .nil) run.laws_markRowS
theorem ok.laws_markRowSS : CallOK Tryz.prog 95 C.laws_markRowSS := fh (.c ok.laws_markRowS .nil) run.laws_markRowSS
theorem ok.laws_markTurnS : CallOK Tryz.prog 96 C.laws_markTurnS := fh (.c ok.laws_markIntS .nil) run.laws_markTurnS
theorem ok.laws_markOutS : CallOK Tryz.prog 97 C.laws_markOutS := fh (.c ok.laws_markSpanS (.c ok.laws_markIntS (.c ok.laws_markIntSS .nil))) run.laws_markOutS
theorem ok.laws_markHouse : CallOK Tryz.prog 26 C.laws_markHouse := fh (.c ok.laws_markEntryS (.c ok.laws_markConf (.c ok.laws_markSeatS (.c ok.laws_markRowSS (.c ok.laws_markTurnS (.c ok.laws_markOutS .nil)))))) run.laws_markHouse
theorem ok.laws_heldConf : CallOK Tryz.prog 98 C.laws_heldConf := fh (.c ok.laws_heldIntS .nil) run.laws_heldConf
theorem ok.laws_heldSeatS : CallOK Tryz.prog 99 C.laws_heldSeatS := fh (.c ok.laws_heldSpanS .nil) run.laws_heldSeatS
theorem ok.laws_heldRowS : CallOK Tryz.prog 198 C.laws_heldRowS := fh (.c ok.laws_heldEntryS .nil) run.laws_heldRowS
theorem ok.laws_heldRowSS : CallOK Tryz.prog 100 C.laws_heldRowSS := fh (.c ok.laws_heldRowS .nil) run.laws_heldRowSS
theorem ok.laws_heldTurnS : CallOK Tryz.prog 101 C.laws_heldTurnS := fh (.c ok.laws_heldIntS .nil) run.laws_heldTurnS
theorem ok.laws_heldOutS : CallOK Tryz.prog 102 C.laws_heldOutS := fh (.c ok.laws_heldSpanS (.c ok.laws_heldIntS (.c ok.laws_heldIntSS .nil))) run.laws_heldOutS
theorem ok.laws_heldHouse : CallOK Tryz.prog 27 C.laws_heldHouse := fh (.c ok.laws_heldEntryS (.c ok.laws_heldConf (.c ok.laws_heldSeatS (.c ok.laws_heldRowSS (.c ok.laws_heldTurnS (.c ok.laws_heldOutS .nil)))))) run.laws_heldHouse
theorem ok.laws_FnExactNextOf : CallOK Tryz.prog 5 C.laws_FnExactNextOf := fh (.c ok.laws_szHouse (.c ok.spec_NextOf (.c ok.laws_toHouse (.c ok.impl_NextOf (.c ok.laws_eqHouse (.c ok.laws_markHouse (.c ok.laws_heldHouse .nil))))))) run.laws_FnExactNextOf
theorem ok.spec_RowPop : CallOK Tryz.prog 199 C.spec_RowPop := fh (.c ok.spec_RowOk (.c ok.spec_l10Copy .nil)) run.spec_RowPop
theorem ok.spec_l14Root : CallOK Tryz.prog 200 C.spec_l14Root := fh (.c ok.spec_l10Into .nil) run.spec_l14Root
theorem ok.spec_SeatMerge : CallOK Tryz.prog 201 C.spec_SeatMerge := fh (.c ok.spec_l9Copy (.c ok.spec_l1In (.c ok.spec_SeatOk .nil))) run.spec_SeatMerge
theorem ok.spec_SeatGrant : CallOK Tryz.prog 203 C.spec_SeatGrant := fh (.c ok.spec_l9Copy (.c ok.spec_SeatOk (.c ok.spec_l1Min .nil))) run.spec_SeatGrant
theorem ok.spec_l14Step : CallOK Tryz.prog 103 C.spec_l14Step := fh (.c ok.spec_l12Copy (.c ok.spec_l14Next (.c ok.spec_RowPop (.c ok.spec_l14Root (.c ok.spec_SeatMerge (.c ok.spec_SetSize (.c ok.spec_SeatGrant .nil))))))) run.spec_l14Step
theorem ok.spec_MergeStep : CallOK Tryz.prog 28 C.spec_MergeStep := fh (.c ok.spec_HouseOk (.c ok.spec_l12Copy (.c ok.spec_l14Step .nil))) run.spec_MergeStep
theorem ok.impl_RowPop : CallOK Tryz.prog 104 C.impl_RowPop := fh (.c ok.impl_copyRow (.c ok.impl_RowOk .nil)) run.impl_RowPop
theorem ok.impl_SeatMerge : CallOK Tryz.prog 105 C.impl_SeatMerge := fh (.c ok.impl_within (.c ok.impl_copySeat (.c ok.impl_SeatOk .nil))) run.impl_SeatMerge
theorem ok.impl_SeatGrant : CallOK Tryz.prog 107 C.impl_SeatGrant := fh (.c ok.impl_copySeat (.c ok.impl_SeatOk .nil)) run.impl_SeatGrant
theorem ok.impl_MergeStep : CallOK Tryz.prog 29 C.impl_MergeStep := fh (.c ok.impl_RootAdd (.c ok.impl_NextOf (.c ok.impl_RowPop (.c ok.impl_SeatMerge (.c ok.impl_SetSize (.c ok.impl_SeatGrant .nil)))))) run.impl_MergeStep
theorem ok.laws_FnExactMergeStep : CallOK Tryz.prog 6 C.laws_FnExactMergeStep := fh (.c ok.laws_szHouse (.c ok.laws_toHouse (.c ok.laws_eqHouse (.c ok.laws_markHouse (.c ok.laws_heldHouse (.c ok.spec_MergeStep (.c ok.impl_MergeStep .nil))))))) run.laws_FnExactMergeStep
end Go.Proofs.YtipaepbmdooekaaGreat.Vm
