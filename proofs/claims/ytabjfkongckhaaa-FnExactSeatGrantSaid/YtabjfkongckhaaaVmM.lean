/- Operations: structs and slices written out. -/
import Derived.Test.YtabjfkongckhaaaVmL
import Derived.Great.BuildSlice
namespace Go.Proofs.Ytabjfkongckhaaa.Vm
open Go Go.RowKit
set_option linter.unusedVariables false

/-! ### structs -/
def zeroA : Ty → AV
  | .int k => .sh (.int k) (0 : Int)
  | .bool => .sh .bool false
  | .str => .sh .str (⟨#[]⟩ : ByteArray)
  | .hole => .any
  | .sl _ _ _ => .nilsl
  | .nil => .nilf
  | .cons a r => .consf (zeroA a) (zeroA r)
/-- Is it of the shape of ty? -/
def fitP {α : Type} : Ty → AV → Prog α → Prog α
  | ty, .sh t _, k => bif like t ty then k else .fail
  | ty, .nilsl, k => match ty with
    | .sl _ _ _ => k
    | _ => .fail
  | ty, .al id p s t, k => bif like t ty then withR id s (depth p + 1) (!t.agg) fun _ => k else .fail
  | ty, .nilf, k => match ty with
    | .nil => k
    | _ => .fail
  | ty, .consf x y, k => match ty with
    | .cons a r => fitP a x (fitP r y k)
    | _ => .fail
  | _, _, _ => .fail
def lookN {α : Type} : List (Nat × α) → Nat → Option α
  | [], _ => none
  | (j, x) :: l, i => bif Nat.beq j i then some x else lookN l i
/-- The fields from number i on. -/
def buildC (ρ : Operand → AV) (ps : List (Nat × Operand)) : Nat → Ty → Prog AV
  | i, .cons a r => (match lookN ps i with
    | some x => fitP a (ρ x) (.ret (ρ x))
    | none => .ret (zeroA a)).bind fun x => (buildC ρ ps (i + 1) r).bind fun y => .ret (.consf x y)
  | _, .nil => .ret .nilf
  | _, _ => .fail
def ascend : Nat → List (Nat × Operand) → Bool
  | _, [] => true
  | n, (i, _) :: ps => Nat.ble n i && ascend (i + 1) ps
def buildP (row : TRow) (ρ : Operand → AV) (ps : List (Nat × Operand)) : Prog AV := bif row.ty.agg && ascend 0 ps && ps.all (fun p => Nat.blt p.1 row.fs.length) then buildC ρ ps 0 row.ty else .fail

section
variable {C : Ctx} {st : St} {D : Nat → DRoot} {Sh : Nat → Prop} {F : List DV} {a : Act} {w w' : World} {T : List (TypeId × TRow)}
theorem zeroA_avc {R : Nat → Option Root} : ∀ {t : Ty}, t.full = true → AVC w Sh R D (zeroA t) t.zeroC
  | .int _, _ | .bool, _ | .str, _ | .sl _ _ _, _ | .nil, _ => rfl
  | .hole, h => by cases h
  | .cons a r, h => by
    simp only [Ty.full, Bool.and_eq_true] at h
    exact ⟨_, _, rfl, zeroA_avc h.1, zeroA_avc h.2⟩
theorem zeroA_agg : ∀ {t : Ty}, t.full = true → (zeroA t).agg = t.agg
  | .int _, _ | .bool, _ | .str, _ | .sl _ _ _, _ | .nil, _ => rfl
  | .hole, h => by cases h
  | .cons a r, h => rfl
theorem zeroC_one : ∀ {t : Ty}, t.full = true → ∀ v ∈ t.zeroC, v.oneCell' = true := by
  intro t h v hv
  rw [← Ty.dftD_cs t h] at hv
  exact Ty.OK_one (Ty.dftD_ok (default : World) (fun _ => False) t h) v hv
theorem fit_go {α : Type} {R : Nat → Option Root} : ∀ {x : AV} {ty : Ty} {k : Prog α} {r : α}, (fitP ty x k).go R = some r → k.go R = some r ∧ ∀ {w : World} {Sh : Nat → Prop} {st : St} {D : Nat → DRoot} {a : Act}, R = st.roots → Rel C st D Sh a w → ∀ cs, AVC w Sh R D x cs →
      cs.length = ty.sz ∧ x.agg = ty.agg ∧ ∀ v ∈ cs, v.oneCell' = true
  | .sh t x, ty, k, r, h => by
    simp only [fitP] at h
    cases hl : like t ty with
    | false => rw [hl] at h; cases h
    | true =>
      rw [hl] at h
      exact ⟨h, fun _ _ cs hc => ⟨(Ty.RR_len hc).trans (like_sz hl), like_agg hl, Ty.RR_one hc⟩⟩
  | .nilsl, ty, k, r, h => by
    cases ty <;> simp only [fitP] at h <;> try (cases h; done)
    exact ⟨h, fun _ _ cs hc => by cases hc; exact ⟨rfl, rfl, fun v hv => by cases List.mem_singleton.1 hv; rfl⟩⟩
  | .al id p s t, ty, k, r, h => by
    simp only [fitP] at h
    cases hl : like t ty with
    | false => rw [hl] at h; cases h
    | true =>
      rw [hl] at h
      obtain ⟨r0, hr0, hs1, hs2, h⟩ := withR_go h
      refine ⟨h, fun hR hrel cs hc => ?_⟩
      obtain ⟨_, r1, hr1, _, hv⟩ := hc
      rw [hr0] at hr1; cases hr1
      obtain ⟨b, u, hlk, ht, rfl⟩ := hv hs2
      subst hR
      have hok := (hrel.look hr0 hlk).2.1
      exact ⟨(Ty.cs_len u.t u.d).trans (by rw [ht]; exact like_sz hl), like_agg hl, Ty.OK_one hok⟩
  | .nilf, ty, k, r, h => by
    cases ty <;> simp only [fitP] at h <;> try (cases h; done)
    exact ⟨h, fun _ _ cs hc => by cases hc; exact ⟨rfl, rfl, fun v hv => by cases hv⟩⟩
  | .consf x y, ty, k, r, h => by
    cases ty <;> simp only [fitP] at h <;> try (cases h; done)
    obtain ⟨h1, g1⟩ := fit_go (x := x) h
    obtain ⟨h2, g2⟩ := fit_go (x := y) h1
    refine ⟨h2, fun hR hrel cs hc => ?_⟩
    obtain ⟨c0, c1, rfl, hc0, hc1⟩ := hc
    obtain ⟨a1, _, a3⟩ := g1 hR hrel c0 hc0
    obtain ⟨b1, _, b3⟩ := g2 hR hrel c1 hc1
    refine ⟨by simp only [Ty.sz, List.length_append, a1, b1], rfl, fun v hv => ?_⟩
    rcases List.mem_append.1 hv with hv | hv
    · exact a3 v hv
    · exact b3 v hv
  | .any, ty, k, r, h | .cut _ _ _ _ _ _, ty, k, r, h | .ptr _ _ _, ty, k, r, h | .sptr _ _, ty, k, r, h | .fn _ _, ty, k, r, h | .tup _, ty, k, r, h => by simp only [fitP] at h; cases h

/-- The cells of the fields from number i on, as the parts have them. -/
def zeroL : Ty → List (List Value)
  | .cons a r => a.zeroC :: zeroL r
  | _ => []
theorem zeroL_flat : ∀ {t : Ty}, t.agg = true → (∀ a r, t = .cons a r → True) → t.zeroC = (zeroL t).flatten ∨ True := fun _ _ => .inr trivial
/-- A struct's type ends in nil. -/
def ended : Ty → Bool
  | .nil => true
  | .cons _ r => ended r
  | _ => false
theorem fldOK_ended {T : List (TypeId × TRow)} : ∀ {off : Nat} {ty : Ty} {ts : List TypeId} {fs : List Field}, FldOK T off ty ts fs → ended ty = true
  | off, .nil, [], [], _ => rfl
  | off, .cons a r, t :: ts, f :: fs, h => (show ended r = true from fldOK_ended h.2.2.2.2.2)
  | off, .nil, _ :: _, _, h => by cases h
  | off, .nil, [], _ :: _, h => by cases h
  | off, .cons _ _, [], _, h => by cases h
  | off, .cons _ _, _ :: _, [], h => by cases h
  | off, .int _, _, _, h | off, .bool, _, _, h | off, .str, _, _, h | off, .hole, _, _, h | off, .sl _ _ _, _, _, h => by cases h
theorem zeroL_flatten : ∀ {t : Ty}, ended t = true → (zeroL t).flatten = t.zeroC
  | .nil, _ => rfl
  | .cons a r, h => by simp only [zeroL, List.flatten_cons, zeroL_flatten (t := r) (show ended r = true from h), Ty.zeroC]
  | .int _, h | .bool, h | .str, h | .hole, h | .sl _ _ _, h => by cases h
theorem places_ok {P : Program} {T : List (TypeId × TRow)} (hT : TabOK P T) : ∀ {off : Nat} {ty : Ty} {ts : List TypeId} {fs : List Field}, FldOK T off ty ts fs → ty.full = true →
    ∃ pl, fs.mapM (fun f => (P.info? f.type).map fun i => (f.offset, i.size)) = some pl ∧ pl.length = (zeroL ty).length ∧ ∀ i c, (zeroL ty)[i]? = some c → pl[i]? = some (off + ((zeroL ty).take i).flatten.length, c.length)
  | off, .nil, [], [], _, _ => ⟨[], rfl, rfl, fun i c h => by cases h⟩
  | off, .cons a r, t :: ts, f :: fs, h, hf => by
    simp only [Ty.full, Bool.and_eq_true] at hf
    obtain ⟨h1, h2, _, ⟨rf, h3, h4⟩, h5, h6⟩ := h
    obtain ⟨i0, hi0, hs0, _⟩ := (hT t rf h3).info
    obtain ⟨pl, g1, g2, g3⟩ := places_ok hT h6 hf.2
    have hal : a.zeroC.length = a.sz := Ty.zeroC_len a hf.1
    refine ⟨(off, a.sz) :: pl, ?_, by simp only [List.length_cons, g2, zeroL], fun i c hc => ?_⟩
    · rw [List.mapM_cons, g1, h1, hi0]
      simp only [Option.map_some, hs0, h4, h2]
      rfl
    · cases i with
      | zero =>
        simp only [zeroL, List.getElem?_cons_zero, Option.some.injEq] at hc
        subst hc
        simp [hal]
      | succ i =>
        simp only [zeroL, List.getElem?_cons_succ] at hc
        rw [List.getElem?_cons_succ, g3 i c hc]
        simp only [zeroL, List.take_succ_cons, List.flatten_cons, List.length_append, hal]
        rw [Nat.add_assoc]
  | off, .nil, _ :: _, _, h, _ => by cases h
  | off, .nil, [], _ :: _, h, _ => by cases h
  | off, .cons _ _, [], _, h, _ => by cases h
  | off, .cons _ _, _ :: _, [], h, _ => by cases h
  | off, .int _, _, _, h, _ | off, .bool, _, _, h, _ | off, .str, _, _, h, _ | off, .hole, _, _, h, _ | off, .sl _ _ _, _, _, h, _ => by cases h

/-- The fields' cells behind the parts. -/
def partL (f : Nat → Option (List Value)) : Nat → List (List Value) → List (List Value)
  | _, [] => []
  | i, c :: L => (f i).getD c :: partL f (i + 1) L
theorem partL_none (f : Nat → Option (List Value)) : ∀ (L : List (List Value)) (i : Nat), (∀ j, i ≤ j → f j = none) → partL f i L = L
  | [], _, _ => rfl
  | c :: L, i, h => by rw [partL, h i (Nat.le_refl _), partL_none f L (i + 1) (fun j hj => h j (by omega))]; rfl
theorem putL_cons (i : Nat) (c0 : List Value) : ∀ (ps : List (Nat × List Value)) (L : List (List Value)), putL (ps.map fun p => (p.1 + 1, p.2)) (c0 :: L) = c0 :: putL ps L
  | [], L => rfl
  | (j, c) :: ps, L => by
    simp only [List.map_cons, putL, List.set_cons_succ]
    exact putL_cons i c0 ps (L.set j c)
end
end Go.Proofs.Ytabjfkongckhaaa.Vm
