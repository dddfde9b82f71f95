/- strconv.Itoa and strings.Join: the shelf's contracts, as calls' contracts of this machine. -/
import Derived.Test.YtipaepbmdooekaaGreatDoorV3
import Derived.Shelf.Strconv.Itoa3
import Derived.Shelf.Strings.OnBuilder
import Derived.KernelRfl
namespace Go.Proofs.YtipaepbmdooekaaGreatDoor.Vm
open Go Go.RowKit Go.Shelf
set_option linter.unusedVariables false

/-- A number's decimal numeral. -/
def itoaS (n : Int) : ByteArray := ⟨(Go.Lib.itoa n).toArray⟩
/-- Texts joined. -/
def joinL (xs : List ByteArray) (sep : ByteArray) : List UInt8 := Go.Lib.join (xs.map (·.data.toList)) sep.data.toList
def joinT (xs : List ByteArray) (sep : ByteArray) : ByteArray := ⟨(joinL xs sep).toArray⟩
theorem pinRow_tab : pinRow = (Go.Lib.pow10Tab.map fun z => Value.int .u64 z).toArray := by kernel_rfl
theorem below_grow' (w : World) (k : Nat) (os : Array Obj) : Below w.heap.size w (Go.Sort.grow (w.drewN k) os) :=
  ⟨rfl, rfl, rfl, by show w.heap.size ≤ (w.heap ++ os).size; rw [Array.size_append]; omega, fun b h => by show (w.heap ++ os)[b]? = _; rw [Array.getElem?_append_left h]⟩
theorem left_of {w w' : World} {Sh : Nat → Prop} (hb : Below w.heap.size w w') (hsh : ∀ b, Sh b → b < w.heap.size) (M : Nat → Prop) : Left w Sh M w' Sh [] :=
  ⟨hb.os, hb.tape, hb.output, hb.size, fun b h _ => hb.block b h, fun _ h => h, fun b h => ⟨.inl h, Nat.lt_of_lt_of_le (hsh b h) hb.size⟩, List.nodup_nil, fun b h => by cases h⟩
theorem chk_inv {α : Type} {b : Bool} {x : Option α} {y : α} (h : chk b x = some y) : b = true ∧ x = some y := by
  cases b with
  | true => exact ⟨rfl, h⟩
  | false => cases h
theorem str_res {w : World} {Sh : Nat → Prop} (s : ByteArray) : ResOK w Sh (.one .str) (s, ()) (.string s) [⟨⟨.str, s⟩, none, []⟩] := ⟨s, rfl, trivial, rfl, rfl⟩
theorem itoa_callOK {P : Program} {ρ : Ren} (L : LaysM.n171 P ρ) (hE : Enters P (ρ.f 171)) {g : Nat} (hg : P.globalNamed "internal/strconv.uint64pow10" = some g) (hp : pinB g = true) :
    CallOK P (ρ.f 171) ⟨[.r (.val (.int .i64))], .one .str, fun x => chk (decide (-9223372036854775808 ≤ x.1) && decide (x.1 ≤ 9223372036854775807)) (some (itoaS x.1))⟩ := by
  refine ⟨hE, (fun t h => by cases h), ?_⟩
  intro w Sh x y vs zs hy hpin _ hsh ha hnd hfz
  obtain ⟨n, u⟩ := x
  obtain ⟨v0, z0, rfl, rfl, h0⟩ : ∃ v0 z0, vs = [v0] ∧ zs = [z0] ∧ ArgOK w Sh (.r (.val (.int .i64))) n v0 z0 := by
    rcases vs with _ | ⟨v0, _ | ⟨v1, vs⟩⟩ <;> rcases zs with _ | ⟨z0, _ | ⟨z1, zs⟩⟩ <;> first
      | exact ⟨_, _, rfl, rfl, ha.1⟩
      | exact ha.elim
      | exact ha.2.elim
  obtain ⟨h1, h2⟩ := chk_inv hy
  cases Option.some.inj h2
  rw [Bool.and_eq_true] at h1
  obtain ⟨⟨cs, hc, rfl⟩, rfl⟩ := h0
  have hc : cs = [.int .i64 n] := hc
  subst hc
  obtain ⟨e, m, hh⟩ := hpin g hp
  have htab : Go.Lib.TabIs P w "internal/strconv.uint64pow10" .u64 Go.Lib.pow10Tab := by
    unfold Go.Lib.TabIs World.var?
    rw [hg, ← pinRow_tab]
    simp only [Option.bind_some, hh]
  refine (Any.strconv_Itoa L n (of_decide_eq_true h1.1) (of_decide_eq_true h1.2) w htab).mono ?_
  rintro e' w' ⟨rfl, k, os, rfl⟩
  exact ⟨.string (itoaS n), Sh, [⟨⟨.str, itoaS n⟩, none, []⟩], [], rfl, left_of (below_grow' w k os) hsh _, str_res _, ⟨rfl, rfl⟩⟩
theorem join_callOK {P : Program} {ρ : Ren} (L : Lays.n156 P ρ) (X : Builder.Extra P ρ) (hE : Enters P (ρ.f 156)) (o : Bool) (e : TypeId) :
    CallOK P (ρ.f 156) ⟨[.r (.val (.sl o e .str)), .r (.val .str)], .one .str, fun x => chk (decide (x.1.length ≤ 140737488355328) && decide ((joinL x.1 x.2.1).length ≤ 140737488355328)) (some (joinT x.1 x.2.1))⟩ := by
  refine ⟨hE, (fun t h => by cases h), ?_⟩
  intro w Sh x y vs zs hy _ _ hsh ha hnd hfz
  obtain ⟨xs, sep, u⟩ := x
  obtain ⟨v0, v1, z0, z1, rfl, rfl, h0, h1⟩ : ∃ v0 v1 z0 z1, vs = [v0, v1] ∧ zs = [z0, z1] ∧ ArgOK w Sh (.r (.val (.sl o e .str))) xs v0 z0 ∧ ArgOK w Sh (.r (.val .str)) sep v1 z1 := by
    rcases vs with _ | ⟨v0, _ | ⟨v1, _ | ⟨v2, vs⟩⟩⟩ <;> rcases zs with _ | ⟨z0, _ | ⟨z1, _ | ⟨z2, zs⟩⟩⟩ <;> first
      | exact ⟨_, _, _, _, rfl, rfl, ha.1, ha.2.1⟩
      | exact ha.elim
      | exact ha.2.elim
      | exact ha.2.2.elim
  obtain ⟨hk, h2⟩ := chk_inv hy
  cases Option.some.inj h2
  rw [Bool.and_eq_true] at hk
  obtain ⟨⟨cs0, hc0, rfl⟩, rfl⟩ := h0
  obtain ⟨⟨cs1, hc1, rfl⟩, rfl⟩ := h1
  have hc1 : cs1 = [.string sep] := hc1
  subst hc1
  obtain ⟨A, c, rfl, hle, hmx, hel⟩ := hc0
  have fin : ∀ w', Below w.heap.size w w' → ∃ v Sh' rs bs, Ending.returned (.string (joinT xs sep)) = .returned v ∧ Left w Sh (fun b => b ∈ feet [noZ, noZ]) w' Sh' (feet rs ++ feet bs) ∧ ResOK w' Sh' (.one .str) (joinT xs sep, ()) v rs ∧ BackOK w' Sh' [.r (.val (.sl o e .str)), .r (.val .str)] [noZ, noZ] [] bs := fun w' hb =>
    ⟨.string (joinT xs sep), Sh, [⟨⟨.str, joinT xs sep⟩, none, []⟩], [], rfl, left_of hb hsh _, str_res _, ⟨rfl, rfl⟩⟩
  show Calls P (ρ.f 156) #[.slice A xs.length c, .string sep] w _
  rcases xs with _ | ⟨x0, xs⟩
  · refine (Any.strings_Join_none L X A c sep w).mono ?_
    rintro e' w' ⟨rfl, rfl⟩
    exact fin _ (Below.refl _ _)
  · obtain ⟨b, off, rfl, hsb, _⟩ := hel 0 x0 rfl
    refine (Any.strings_Join L X b off c (x0 :: xs) sep w ?_ (hsh b hsb) (of_decide_eq_true hk.1) hle (of_decide_eq_true hk.2)).mono ?_
    · intro j x hj
      obtain ⟨b', o', hA, _, cc, hcc, hcell⟩ := hel j x hj
      cases hA
      have hcc : cc = [.string x] := hcc
      subst hcc
      have := hcell 0 _ rfl
      simpa [Ty.sz] using this
    · rintro e' w' ⟨rfl, hb⟩
      exact fin w' hb
end Go.Proofs.YtipaepbmdooekaaGreatDoor.Vm
