/- Values in hand: what is taken out of slots and roots, put together, shared. -/
import Derived.Test.YtabjfkongckhaaaVmD
namespace Go.Proofs.Ytabjfkongckhaaa.Vm
open Go Go.RowKit
set_option linter.unusedVariables false

namespace Ty
/-- What stays where an own value was taken away: its numbers, and cells that nothing is told of. -/
def holT : Ty → Ty
  | .sl true _ _ => .hole
  | .cons a r => .cons a.holT r.holT
  | t => t
def holX : (t : Ty) → t.den → t.holT.den
  | .sl true _ _, _ => ()
  | .sl false _ _, x => x
  | .cons a r, x => (a.holX x.1, r.holX x.2)
  | .int _, x => x
  | .bool, x => x
  | .str, x => x
  | .hole, x => x
  | .nil, x => x
def holD : (t : Ty) → t.dec → t.holT.dec
  | .sl true _ _, x => (.slice x.1.1 x.2.length x.1.2 : Value)
  | .sl false _ _, x => x
  | .cons a r, x => (a.holD x.1, r.holD x.2)
  | .int _, x => x
  | .bool, x => x
  | .str, x => x
  | .hole, x => x
  | .nil, x => x
theorem hol_er : ∀ (t : Ty) (d : t.dec), t.holT.er (t.holD d) = t.holX (t.er d)
  | .sl true _ _, _ => rfl
  | .sl false _ _, _ => rfl
  | .cons a r, x => by simp only [holT, holD, holX, er, hol_er a, hol_er r]
  | .int _, _ => rfl
  | .bool, _ => rfl
  | .str, _ => rfl
  | .hole, _ => rfl
  | .nil, _ => rfl
theorem hol_cs : ∀ (t : Ty) (d : t.dec), t.holT.cs (t.holD d) = t.cs d
  | .sl true _ _, _ => rfl
  | .sl false _ _, _ => rfl
  | .cons a r, x => by simp only [holT, holD, cs, hol_cs a, hol_cs r]
  | .int _, _ => rfl
  | .bool, _ => rfl
  | .str, _ => rfl
  | .hole, _ => rfl
  | .nil, _ => rfl
theorem hol_foot : ∀ (t : Ty) (d : t.dec), t.holT.foot (t.holD d) = []
  | .sl true _ _, _ => rfl
  | .sl false _ _, _ => rfl
  | .cons a r, x => by simp only [holT, holD, foot, hol_foot a, hol_foot r]; rfl
  | .int _, _ => rfl
  | .bool, _ => rfl
  | .str, _ => rfl
  | .hole, _ => rfl
  | .nil, _ => rfl
theorem hol_ok {w : World} {Sh : Nat → Prop} : ∀ {t : Ty} {d : t.dec}, OK w Sh t d → OK w Sh t.holT (t.holD d)
  | .sl true _ _, _, _ => rfl
  | .sl false _ _, _, h => h
  | .cons a r, x, h => ⟨hol_ok h.1, hol_ok h.2⟩
  | .int _, _, _ => trivial
  | .bool, _, _ => trivial
  | .str, _, _ => trivial
  | .hole, _, h => h
  | .nil, _, _ => trivial
theorem hol_like : ∀ t : Ty, like t.holT t = true
  | .sl true _ _ => rfl
  | .sl false _ _ => rfl
  | .cons a r => by simp only [holT, like, hol_like a, hol_like r, Bool.and_self]
  | .int _ => rfl
  | .bool => rfl
  | .str => rfl
  | .hole => rfl
  | .nil => rfl
theorem flat_foot : ∀ {t : Ty} (d : t.dec), t.flat = true → t.foot d = []
  | .sl _ _ _, _, h => by cases h
  | .cons a r, x, h => by
    simp only [flat, Bool.and_eq_true] at h
    simp only [foot, flat_foot x.1 h.1, flat_foot x.2 h.2]; rfl
  | .int _, _, _ => rfl
  | .bool, _, _ => rfl
  | .str, _, _ => rfl
  | .hole, _, _ => rfl
  | .nil, _, _ => rfl
theorem plain_foot : ∀ {t : Ty} (d : t.dec), t.plain = true → t.foot d = []
  | .sl false _ _, _, _ => rfl
  | .sl true _ _, _, h => by cases h
  | .cons a r, x, h => by
    simp only [plain, Bool.and_eq_true] at h
    simp only [foot, plain_foot x.1 h.1, plain_foot x.2 h.2]; rfl
  | .int _, _, _ => rfl
  | .bool, _, _ => rfl
  | .str, _, _ => rfl
  | .hole, _, h => by cases h
  | .nil, _, _ => rfl
end Ty
def V.hol (v : V) : V := ⟨v.t.holT, v.t.holX v.x⟩
def DV.hol (v : DV) : DV := ⟨v.t.holT, v.t.holD v.d⟩
theorem DV.hol_er (v : DV) : v.hol.er = v.er.hol := congrArg (V.mk v.t.holT) (Ty.hol_er v.t v.d)
theorem DV.hol_cs (v : DV) : v.hol.cs = v.cs := Ty.hol_cs v.t v.d
theorem DV.hol_foot (v : DV) : v.hol.foot = [] := Ty.hol_foot v.t v.d

/-- A world and slots, with values in hand: each owns its blocks. -/
structure RelF (C : Ctx) (st : St) (D : Nat → DRoot) (Sh : Nat → Prop) (F : List DV) (a : Act) (w : World) : Prop where
  rel : Rel C st D Sh a w
  fok : ∀ v ∈ F, v.OK w Sh
  fnd : (F.flatMap DV.foot).Nodup
  fdis : ∀ b ∈ F.flatMap DV.foot, (∀ id r, st.roots id = some r → b ∉ (D id).foot) ∧ ¬ Sh b ∧ b < w.heap.size ∧ (C.w0.heap.size ≤ b ∨ C.M b)
theorem Rel.F {C : Ctx} {st : St} {D : Nat → DRoot} {Sh : Nat → Prop} {a : Act} {w : World} (h : Rel C st D Sh a w) : RelF C st D Sh [] a w := ⟨h, (fun _ hv => by cases hv), List.nodup_nil, (fun _ hb => by cases hb)⟩

section
variable {C : Ctx} {st : St} {D : Nat → DRoot} {Sh : Nat → Prop} {F : List DV} {a : Act} {w : World}
theorem Turned.refl_of {v u : DV} {k o sz : Nat} (h : u.cs = v.cs) (hl : Loc w k o v) : Turned w w k o sz u := by
  intro row e hrow
  obtain ⟨row0, e0, h0, hc⟩ := hl
  obtain ⟨rfl, rfl⟩ := hrow.uniq h0
  exact ⟨row, hrow, rfl, fun _ _ => rfl, by rw [h]; exact hc⟩
/-- A place of a root lies where the root says. -/
theorem look_loc {Sh : Nat → Prop} : ∀ {p : Path} {v : DV} {b b' : Base} {u : DV}, lookD v b p = some (b', u) → v.OK w Sh → (∀ k o, b = some (k, o) → Loc w k o v) → u.OK w Sh ∧ ∀ k o, b' = some (k, o) → Loc w k o u
  | [], v, b, b', u, h, ho, hl => by cases h; exact ⟨ho, hl⟩
  | .fst :: p, ⟨.cons a r, x⟩, b, b', u, h, ho, hl => by
    refine look_loc (p := p) (v := ⟨a, x.1⟩) h ho.1 (fun k o hk => ?_)
    obtain ⟨row, e, hr, hc⟩ := hl k o hk
    exact ⟨row, e, hr, (cells_at_append.1 hc).1⟩
  | .snd :: p, ⟨.cons a r, x⟩, b, b', u, h, ho, hl => by
    refine look_loc (p := p) (v := ⟨r, x.2⟩) h ho.2 (fun k o hk => ?_)
    cases b with
    | none => cases hk
    | some z =>
      obtain ⟨k0, o0⟩ := z
      have hk : some (k0, o0 + a.sz) = some (k, o) := hk
      simp only [Option.some.injEq, Prod.mk.injEq] at hk
      obtain ⟨rfl, rfl⟩ := hk
      obtain ⟨row, e, hr, hc⟩ := hl k0 o0 rfl
      refine ⟨row, e, hr, ?_⟩
      have := (cells_at_append.1 (show ∀ j u, (a.cs x.1 ++ r.cs x.2)[j]? = some u → row[o0 + j]? = some u from hc)).2
      rwa [Ty.cs_len] at this
  | .idx n :: p, ⟨.sl true e t, x⟩, b, b', u, h, ho, hl => by
    simp only [lookD] at h
    split at h
    case h_2 => cases h
    rename_i A d hA hd
    rcases ho with ⟨h1, h2⟩ | ⟨B, O, row, hB, hrow, hlen, hmax, hfit, hel⟩
    · rw [h1] at hA; cases hA
    · rw [hA] at hB; cases hB
      obtain ⟨o1, o2⟩ := hel n d hd
      exact look_loc (p := p) (v := ⟨t, d⟩) h o1 (fun k o hk => by cases hk; exact ⟨row, e, hrow, o2⟩)

theorem base_some {d : DRoot} {k o : Nat} (h : d.base = some (k, o)) : d.b = some k ∧ o = 0 := by
  unfold DRoot.base at h
  cases hb : d.b with
  | none => rw [hb] at h; cases h
  | some z => rw [hb] at h; cases h; exact ⟨rfl, rfl⟩
theorem base_of {d : DRoot} {k : Nat} (h : d.b = some k) : d.base = some (k, 0) := by rw [DRoot.base, h]; rfl
theorem mem_b {d : DRoot} {k : Nat} (h : d.b = some k) : k ∈ d.foot := List.mem_append_left _ (by rw [h]; exact List.mem_singleton.2 rfl)
theorem mem_dv {d : DRoot} {k : Nat} (h : k ∈ d.dv.foot) : k ∈ d.foot := List.mem_append_right _ h

def stolen (r : Root) (p : Path) (v v' : V) : Root := { r with v := v', log := (depth p, !(v.hol.t.flat && v.t.flat)) :: r.log }
/-- What lies at a place of a root is taken in hand. -/
theorem RelF.steal (h : RelF C st D Sh F a w) {id : Nat} {r : Root} (hr : st.roots id = some r) {p : Path} {b : Base} {u : DV} (hl : lookD (D id).dv (D id).base p = some (b, u)) {v' : V} (hp : putV r.v p u.er.hol = some v') :
    ∃ D', Keeps w w Sh Sh st.roots (upt st.roots id (some (stolen r p u.er v'))) D D' ∧ RelF C ⟨st.tmps, upt st.roots id (some (stolen r p u.er v'))⟩ D' Sh (u :: F) a w := by
  have R := h.rel.root id r hr
  have hp' := hp
  rw [← R.er, ← DV.hol_er] at hp
  obtain ⟨dv', hd, hv⟩ := er_put hl hp
  have hlk : like u.hol.t u.t = true := Ty.hol_like u.t
  obtain ⟨L1, L2, f1, f2⟩ := foot_put hl
  have f3 := f2 _ _ hd
  rw [DV.hol_foot, List.append_nil] at f3
  have hnd : ((D id).b.toList ++ (D id).dv.foot).Nodup := R.nd
  obtain ⟨n1, n2, n3⟩ := List.nodup_append.1 hnd
  have hlook := look_loc (w := w) (Sh := Sh) hl R.ok (fun k o hk => by obtain ⟨e1, rfl⟩ := base_some hk; exact R.loc k e1)
  obtain ⟨i1, i2⟩ := upd (w := w) (w' := w) (Sh := Sh) (Sh' := Sh) (fun _ _ => rfl) (fun _ hb => hb) hl hd R.ok n2 (fun k o hk => by
      obtain ⟨e1, rfl⟩ := base_some hk
      exact ⟨R.loc k e1, fun hm => n3 k (by rw [e1]; exact List.mem_singleton.2 rfl) k hm rfl⟩) (like_sz hlk) (Ty.hol_ok hlook.1)
    (fun _ _ _ _ => rfl) (fun _ _ _ _ => rfl) (fun k o hk => Turned.refl_of (DV.hol_cs u) (hlook.2 k o hk))
  let d' : DRoot := ⟨dv', (D id).b, (D id).c0⟩
  have hfoot : ∀ b ∈ d'.foot, b ∈ (D id).foot := by
    intro b hb
    rcases List.mem_append.1 hb with hb | hb
    · exact List.mem_append_left _ hb
    · refine List.mem_append_right _ ?_
      have hb : b ∈ dv'.foot := hb
      rw [f3] at hb; rw [f1]
      rcases List.mem_append.1 hb with hb | hb
      · exact List.mem_append_left _ (List.mem_append_left _ hb)
      · exact List.mem_append_right _ hb
  have hnu : (L1 ++ u.foot ++ L2).Nodup := f1 ▸ n2
  have hnd' : d'.foot.Nodup := by
    refine List.nodup_append.2 ⟨n1, ?_, fun x hx y hy => n3 x hx y ?_⟩
    · show dv'.foot.Nodup
      rw [f3]
      have := List.nodup_append.1 hnu
      exact List.nodup_append.2 ⟨(List.nodup_append.1 this.1).1, this.2.1, fun x hx y hy => this.2.2 x (List.mem_append_left _ hx) y hy⟩
    · have hy : y ∈ dv'.foot := hy
      rw [f3] at hy; rw [f1]
      rcases List.mem_append.1 hy with hy | hy
      · exact List.mem_append_left _ (List.mem_append_left _ hy)
      · exact List.mem_append_right _ hy
  have hu_id : ∀ b ∈ u.foot, b ∈ (D id).foot := fun b hb => mem_dv (by rw [f1]; exact List.mem_append_left _ (List.mem_append_right _ hb))
  have hu_new : ∀ b ∈ u.foot, b ∉ d'.foot := by
    intro b hb hb'
    rcases List.mem_append.1 hb' with hb' | hb'
    · exact n3 b hb' b (by rw [f1]; exact List.mem_append_left _ (List.mem_append_right _ hb)) rfl
    · have hb' : b ∈ dv'.foot := hb'
      rw [f3] at hb'
      have := List.nodup_append.1 hnu
      rcases List.mem_append.1 hb' with hb' | hb'
      · exact (List.nodup_append.1 this.1).2.2 b hb' b hb rfl
      · exact this.2.2 b (List.mem_append_right _ hb) b hb' rfl
  have K : Keeps w w Sh Sh st.roots (upt st.roots id (some (stolen r p u.er v'))) D (upt D id d') :=
    Keeps.store (q := p) (uq := u) (n := u.hol) d' (fun _ _ => rfl) (fun _ hb => hb) hr hl hd hlk rfl rfl rfl
  refine ⟨upt D id d', K, ⟨⟨h.rel.os, h.rel.tape, h.rel.output, h.rel.hsz, h.rel.block, h.rel.sh0, h.rel.shn, ?_, ?_, ?_, fun t => K.avr (h.rel.tmp t), h.rel.size, h.rel.defers⟩, ?_, ?_, ?_⟩⟩
  · intro i ri hi
    by_cases e : i = id
    · subst e
      have hi : upt st.roots i (some (stolen r p u.er v')) i = some ri := hi
      rw [upt_same] at hi; cases hi
      rw [upt_same]
      refine ⟨hv, i1, R.blk, fun k hk => ?_, hnd', fun hs => ?_, R.org, R.pin⟩
      · obtain ⟨row, e, hrow, hc⟩ := R.loc k hk
        obtain ⟨row', hr', _, _, hin⟩ := i2 k 0 (base_of hk) row e hrow
        exact ⟨row', e, hr', hin⟩
      · have hs : since ([(depth p, !(u.er.hol.t.flat && u.er.t.flat))] ++ r.log) 0 1 false = true := hs
        rw [since_append (Nat.zero_le _), Bool.and_eq_true] at hs
        rcases bad1 hs.1 with hb | hb
        · simp at hb
        · have hk := (keep_put u.hol p _ _ _ _ _ hl hd hlk [] none none _ rfl).2 (.inr (by show 0 < depth p; have hb : 1 ≤ depth p := hb; omega))
          obtain ⟨u', h1, _, h3⟩ := hk
          cases h1
          exact h3.trans (R.top hs.2)
    · have hi : upt st.roots id (some (stolen r p u.er v')) i = some ri := hi
      rw [upt_ne _ _ e] at hi ⊢
      exact h.rel.root i ri hi
  · intro i j ri rj hij hi0 hj0 b hb
    have hi : upt st.roots id (some (stolen r p u.er v')) i = some ri := hi0
    have hj : upt st.roots id (some (stolen r p u.er v')) j = some rj := hj0
    clear hi0 hj0
    by_cases ei : i = id
    · subst ei
      rw [upt_same] at hb
      rw [upt_ne _ _ (Ne.symm hij)] at hj ⊢
      exact h.rel.dis i j r rj hij hr hj b (hfoot b hb)
    · rw [upt_ne _ _ ei] at hi hb
      by_cases ej : j = id
      · subst ej
        rw [upt_same]
        exact fun hb' => h.rel.dis i j ri r hij hi hr b hb (hfoot b hb')
      · rw [upt_ne _ _ ej] at hj ⊢
        exact h.rel.dis i j ri rj hij hi hj b hb
  · intro i ri hi0 b hb
    have hi : upt st.roots id (some (stolen r p u.er v')) i = some ri := hi0
    clear hi0
    by_cases ei : i = id
    · subst ei
      rw [upt_same] at hb
      exact h.rel.fresh i r hr b (hfoot b hb)
    · rw [upt_ne _ _ ei] at hi hb
      exact h.rel.fresh i ri hi b hb
  · intro v hv
    rcases List.mem_cons.1 hv with rfl | hv
    · exact hlook.1
    · exact h.fok v hv
  · show (u.foot ++ F.flatMap DV.foot).Nodup
    refine List.nodup_append.2 ⟨nodup_mid hnu, h.fnd, fun x hx y hy e => ?_⟩
    subst e
    exact (h.fdis x hy).1 id r hr (hu_id x hx)
  · intro b hb
    rcases List.mem_append.1 (show b ∈ u.foot ++ F.flatMap DV.foot from hb) with hb | hb
    · refine ⟨fun i ri hi => ?_, h.rel.fresh id r hr b (hu_id b hb)⟩
      have hi : upt st.roots id (some (stolen r p u.er v')) i = some ri := hi
      by_cases ei : i = id
      · subst ei; rw [upt_same]; exact hu_new b hb
      · rw [upt_ne _ _ ei] at hi ⊢
        exact h.rel.dis id i r ri (Ne.symm ei) hr hi b (hu_id b hb)
    · obtain ⟨g1, g2⟩ := h.fdis b hb
      refine ⟨fun i ri hi => ?_, g2⟩
      have hi : upt st.roots id (some (stolen r p u.er v')) i = some ri := hi
      by_cases ei : i = id
      · subst ei; rw [upt_same]; exact fun hm => g1 i r hr (hfoot b hm)
      · rw [upt_ne _ _ ei] at hi ⊢
        exact g1 i ri hi
/-- A value that owns nothing. -/
theorem RelF.free (h : RelF C st D Sh F a w) {v : DV} (hv : v.OK w Sh) (hf : v.foot = []) : RelF C st D Sh (v :: F) a w where
  rel := h.rel
  fok := fun u hu => by
    rcases List.mem_cons.1 hu with rfl | hu
    · exact hv
    · exact h.fok u hu
  fnd := by show (v.foot ++ F.flatMap DV.foot).Nodup; rw [hf]; exact h.fnd
  fdis := fun b hb => h.fdis b (by have hb : b ∈ v.foot ++ F.flatMap DV.foot := hb; rw [hf] at hb; exact hb)
/-- Two in line. -/
theorem RelF.join {v u : DV} (h : RelF C st D Sh (u :: v :: F) a w) : RelF C st D Sh (⟨.cons v.t u.t, (v.d, u.d)⟩ :: F) a w := by
  have e : ((⟨.cons v.t u.t, (v.d, u.d)⟩ : DV) :: F).flatMap DV.foot = (v.foot ++ u.foot) ++ F.flatMap DV.foot := rfl
  have e' : (u :: v :: F).flatMap DV.foot = u.foot ++ (v.foot ++ F.flatMap DV.foot) := rfl
  have hn := h.fnd
  rw [e'] at hn
  have hm : ∀ b, b ∈ (v.foot ++ u.foot) ++ F.flatMap DV.foot → b ∈ u.foot ++ (v.foot ++ F.flatMap DV.foot) := by
    intro b hb
    simp only [List.mem_append] at hb ⊢
    rcases hb with (hb | hb) | hb <;> simp [hb]
  refine ⟨h.rel, fun z hz => ?_, ?_, fun b hb => h.fdis b (by rw [e']; rw [e] at hb; exact hm b hb)⟩
  · rcases List.mem_cons.1 hz with rfl | hz
    · exact ⟨h.fok v (by simp), h.fok u (by simp)⟩
    · exact h.fok z (by simp [hz])
  · rw [e]
    have p1 : (u.foot ++ (v.foot ++ F.flatMap DV.foot)).Perm ((v.foot ++ u.foot) ++ F.flatMap DV.foot) := by
      rw [← List.append_assoc]
      exact List.perm_append_comm.append_right _
    exact p1.nodup_iff.1 hn
end

/-- Taking: a slot's value, as one of the shape of ty; what is own leaves its root. -/
def take : Ty → AV → (Nat → Option Root) → Option (V × (Nat → Option Root))
  | ty, .sh t x, R => bif t.plain && like t ty then some (⟨t, x⟩, R) else none
  | ty, .nilsl, R => match ty with
    | .sl _ e t => some (⟨.sl true e t.own, []⟩, R)
    | _ => none
  | ty, .al id p s t, R => match R id with
    | some r => bif Nat.ble s r.log.length && since r.log s (depth p + 1) (!t.agg) then
        match getV r.v p with
        | some v => bif like v.t ty then
            match putV r.v p v.hol with
            | some v' => some (v, upt R id (some (stolen r p v v')))
            | none => none
          else none
        | none => none
      else none
    | none => none
  | ty, .nilf, R => match ty with
    | .nil => some (⟨.nil, ()⟩, R)
    | _ => none
  | ty, .consf x y, R => match ty with
    | .cons tx ty => match take tx x R with
      | some (v, R1) => match take ty y R1 with
        | some (u, R2) => some (⟨.cons v.t u.t, (v.x, u.x)⟩, R2)
        | none => none
      | none => none
    | _ => none
  | _, _, _ => none

theorem take_ok {C : Ctx} {T : Nat → AV} {Sh : Nat → Prop} {a : Act} {w : World} : ∀ {x : AV} {ty : Ty} {R R' : Nat → Option Root} {v : V}, take ty x R = some (v, R') → ∀ {D : Nat → DRoot} {F : List DV} {cs : List Value}, RelF C ⟨T, R⟩ D Sh F a w →
    AVC w Sh R D x cs → ∃ D' u, DV.er u = v ∧ u.cs = cs ∧ like v.t ty = true ∧ x.agg = v.t.agg ∧ Keeps w w Sh Sh R R' D D' ∧ RelF C ⟨T, R'⟩ D' Sh (u :: F) a w
  | .any, ty, R, R', v, h, D, F, cs, hF, hc => by cases hc
  | .sh t x, ty, R, R', v, h, D, F, cs, hF, hc => by
    simp only [take] at h
    cases hp : (t.plain && like t ty) with
    | false => rw [hp] at h; cases h
    | true =>
      rw [hp] at h; cases h
      rw [Bool.and_eq_true] at hp
      obtain ⟨d, e1, e2, e3, e4⟩ := Ty.RR_dec hp.1 hc
      exact ⟨D, ⟨t, d⟩, by simp only [DV.er, e1], e2, hp.2, rfl, Keeps.grow (fun _ _ => rfl), hF.free e3 e4⟩
  | .nilsl, ty, R, R', v, h, D, F, cs, hF, hc => by
    cases ty with
    | sl o e t =>
      cases h; cases hc
      exact ⟨D, ⟨.sl true e t.own, ((none, 0), [])⟩, rfl, rfl, rfl, rfl, Keeps.grow (fun _ _ => rfl), hF.free (.inl ⟨rfl, rfl⟩) rfl⟩
    | _ => cases h
  | .al id p s t, ty, R, R', v, h, D, F, cs, hF, hc => by
    obtain ⟨hf, r, hr, hs, hcv⟩ := hc
    simp only [take, hr] at h
    cases hsn : (Nat.ble s r.log.length && since r.log s (depth p + 1) (!t.agg)) with
    | false => rw [hsn] at h; cases h
    | true =>
      rw [hsn] at h
      rw [Bool.and_eq_true] at hsn
      obtain ⟨b, u, hl, ht, rfl⟩ := hcv hsn.2
      have hg := er_look hl
      have her : (D id).dv.er = r.v := (hF.rel.root id r hr).er
      rw [her] at hg
      simp only [hg, cond_true] at h
      cases hk : like u.er.t ty with
      | false => rw [hk] at h; cases h
      | true =>
        rw [hk] at h
        cases hpv : putV r.v p u.er.hol with
        | none => simp only [hpv] at h; cases h
        | some v' =>
          simp only [hpv] at h
          cases h
          obtain ⟨D', K, hD⟩ := hF.steal hr hl hpv
          exact ⟨D', u, rfl, rfl, hk, by rw [← ht]; rfl, K, hD⟩
  | .cut _ _ _ _ _ _, ty, R, R', v, h, D, F, cs, hF, hc => by simp only [take] at h; cases h
  | .nilf, ty, R, R', v, h, D, F, cs, hF, hc => by
    cases ty with
    | nil => cases h; cases hc; exact ⟨D, ⟨.nil, ()⟩, rfl, rfl, rfl, rfl, Keeps.grow (fun _ _ => rfl), hF.free trivial rfl⟩
    | _ => cases h
  | .consf x y, ty, R, R', v, h, D, F, cs, hF, hc => by
    cases ty with
    | cons tx ty =>
      simp only [take] at h
      split at h
      case h_2 => cases h
      rename_i v1 R1 h1
      split at h
      case h_2 => cases h
      rename_i v2 R2 h2
      cases h
      obtain ⟨c0, c1, rfl, hc0, hc1⟩ := hc
      obtain ⟨D1, u1, rfl, rfl, l1, _, K1, F1⟩ := take_ok h1 hF hc0
      obtain ⟨D2, u2, rfl, rfl, l2, _, K2, F2⟩ := take_ok h2 F1 (K1.avc hc1)
      exact ⟨D2, ⟨.cons u1.t u2.t, (u1.d, u2.d)⟩, rfl, rfl, by simp only [like, l1, l2, Bool.and_self], rfl, K1.trans K2, F2.join⟩
    | _ => cases h
  | .ptr _ _ _, ty, R, R', v, h, D, F, cs, hF, hc => by simp only [take] at h; cases h
  | .sptr _ _, ty, R, R', v, h, D, F, cs, hF, hc => by simp only [take] at h; cases h
  | .fn _ _, ty, R, R', v, h, D, F, cs, hF, hc => by simp only [take] at h; cases h
  | .tup _, ty, R, R', v, h, D, F, cs, hF, hc => by simp only [take] at h; cases h
end Go.Proofs.Ytabjfkongckhaaa.Vm
