/- Typed values: what a row of cells says (shared), and what it says and owns (decorated by its places). -/
import Derived.WalkKit
import Derived.Orders
namespace Go.Proofs.Ytabjfkongckhaaa.Vm
open Go Go.RowKit

/-- What a value is made of. 'sl own e t': a slice whose element type has the number e; own: its array, and what is told as own behind it, is told by this value alone. -/
inductive Ty where
  | int (k : IntKind)
  | bool
  | str
  | hole
  | sl (o : Bool) (e : TypeId) (t : Ty)
  | nil
  | cons (a r : Ty)
  deriving DecidableEq

/-- A row of cells, none of which a text shares. -/
def Row (w : World) (b : Nat) (row : Array Value) (e : TypeId) : Prop := ∃ m : Nat × Nat, w.heap[b]? = some (.cells row e m) ∧ (m = (0, 0) ∨ row.size ≤ m.1)
theorem Row.frame {w w' : World} {b : Nat} {row : Array Value} {e : TypeId} (h : w'.heap[b]? = w.heap[b]?) : Row w b row e → Row w' b row e := fun ⟨m, h1, h2⟩ => ⟨m, h.trans h1, h2⟩
theorem Row.lt {w : World} {b : Nat} {row : Array Value} {e : TypeId} : Row w b row e → b < w.heap.size := fun ⟨_, h1, _⟩ => (Array.getElem?_eq_some_iff.1 h1).1
theorem Row.cell {w : World} {b : Nat} {row : Array Value} {e : TypeId} (h : Row w b row e) (o : Nat) : w.cell? ⟨b, o, none⟩ = row[o]? := by
  obtain ⟨m, h1, h2⟩ := h
  simp [World.cell?, h1]
theorem Row.uniq {w : World} {b : Nat} {row row' : Array Value} {e e' : TypeId} (h : Row w b row e) (h' : Row w b row' e') : row = row' ∧ e = e' := by
  obtain ⟨m, h1, _⟩ := h
  obtain ⟨m', h1', _⟩ := h'
  rw [h1] at h1'
  cases h1'
  exact ⟨rfl, rfl⟩
theorem Row.new {w : World} {b : Nat} {row : Array Value} {e : TypeId} (h : w.heap[b]? = some (.cells row e (0, 0))) : Row w b row e := ⟨_, h, .inl rfl⟩

namespace Ty
@[reducible] def den : Ty → Type
  | .int _ => Int
  | .bool => Bool
  | .str => ByteArray
  | .hole => Unit
  | .sl _ _ t => List t.den
  | .nil => Unit
  | .cons a r => a.den × r.den
def dft : (t : Ty) → t.den
  | .int _ => (0 : Int)
  | .bool => false
  | .str => (⟨#[]⟩ : ByteArray)
  | .hole => ()
  | .sl _ _ _ => []
  | .nil => ()
  | .cons a r => (a.dft, r.dft)
/-- How many cells. -/
def sz : Ty → Nat
  | .nil => 0
  | .cons a r => a.sz + r.sz
  | _ => 1
def agg : Ty → Bool
  | .nil => true
  | .cons _ _ => true
  | _ => false
/-- Everything shared. -/
def shr : Ty → Ty
  | .sl _ e t => .sl false e t.shr
  | .cons a r => .cons a.shr r.shr
  | t => t
/-- Everything own. -/
def own : Ty → Ty
  | .sl _ e t => .sl true e t.own
  | .cons a r => .cons a.own r.own
  | t => t
/-- Nothing in it is own. -/
def plain : Ty → Bool
  | .sl o _ t => !o && t.plain
  | .cons a r => a.plain && r.plain
  | .hole => false
  | _ => true
/-- No slice in it. -/
def flat : Ty → Bool
  | .sl _ _ _ => false
  | .cons a r => a.flat && r.flat
  | .hole => false
  | _ => true
/-- A value as the places know it. -/
def dec : Ty → Type
  | .int _ => Int
  | .bool => Bool
  | .str => ByteArray
  | .hole => Value
  | .sl true _ t => (Option Addr × Nat) × List t.dec
  | .sl false _ t => (Option Addr × Nat) × List t.den
  | .nil => Unit
  | .cons a r => a.dec × r.dec
def er : (t : Ty) → t.dec → t.den
  | .int _, x => (x : Int)
  | .bool, x => (x : Bool)
  | .str, x => (x : ByteArray)
  | .hole, _ => ()
  | .sl true _ t, x => x.2.map t.er
  | .sl false _ _, x => x.2
  | .nil, _ => ()
  | .cons a r, x => (a.er x.1, r.er x.2)
def cs : (t : Ty) → t.dec → List Value
  | .int k, x => [.int k x]
  | .bool, x => [.bool x]
  | .str, x => [.string x]
  | .hole, x => [x]
  | .sl true _ _, x => [.slice x.1.1 x.2.length x.1.2]
  | .sl false _ _, x => [.slice x.1.1 x.2.length x.1.2]
  | .nil, _ => []
  | .cons a r, x => a.cs x.1 ++ r.cs x.2
def foot : (t : Ty) → t.dec → List Nat
  | .sl true _ t, x => (x.1.1.map (·.block)).toList ++ x.2.flatMap t.foot
  | .cons a r, x => a.foot x.1 ++ r.foot x.2
  | _, _ => []

/-- The cells say x; whatever row they lead to lies in blocks of Sh. -/
def RR (w : World) (Sh : Nat → Prop) : (t : Ty) → t.den → List Value → Prop
  | .int k, x, cs => cs = [.int k x]
  | .bool, x, cs => cs = [.bool x]
  | .str, x, cs => cs = [.string x]
  | .hole, _, cs => ∃ v : Value, cs = [v] ∧ v.oneCell' = true
  | .sl _ _ t, xs, cs => ∃ (A : Option Addr) (c : Nat), cs = [.slice A xs.length c] ∧ xs.length ≤ c ∧ c ≤ maxLen ∧
      ∀ (i : Nat) (x : t.den), xs[i]? = some x → ∃ b o, A = some ⟨b, o, none⟩ ∧ Sh b ∧ ∃ cc, RR w Sh t x cc ∧ ∀ j v, cc[j]? = some v → w.cell? ⟨b, o + i * t.sz + j, none⟩ = some v
  | .nil, _, cs => cs = []
  | .cons a r, x, cs => ∃ c0 c1, cs = c0 ++ c1 ∧ RR w Sh a x.1 c0 ∧ RR w Sh r x.2 c1

/-- The decorated value is what lies in memory. -/
def OK (w : World) (Sh : Nat → Prop) : (t : Ty) → t.dec → Prop
  | .hole, v => (v : Value).oneCell' = true
  | .sl false e t, x => RR w Sh (.sl false e t) x.2 [.slice x.1.1 x.2.length x.1.2]
  | .sl true e t, x => (x.1 = (none, 0) ∧ x.2 = []) ∨
      ∃ b o row, x.1.1 = some ⟨b, o, none⟩ ∧ Row w b row e ∧ x.2.length ≤ x.1.2 ∧ x.1.2 ≤ maxLen ∧ o + x.1.2 * t.sz ≤ row.size ∧
        ∀ (i : Nat) (d : t.dec), x.2[i]? = some d → OK w Sh t d ∧ ∀ j v, (t.cs d)[j]? = some v → row[o + i * t.sz + j]? = some v
  | .cons a r, x => OK w Sh a x.1 ∧ OK w Sh r x.2
  | _, _ => True

/-- A value out of its cells. -/
def mkv (t : Ty) (cs : List Value) : Value := if t.agg then .agg cs.toArray else cs.headD undef

theorem cs_len : ∀ (t : Ty) (d : t.dec), (t.cs d).length = t.sz
  | .int _, _ => rfl
  | .bool, _ => rfl
  | .str, _ => rfl
  | .hole, _ => rfl
  | .sl true _ _, _ => rfl
  | .sl false _ _, _ => rfl
  | .nil, _ => rfl
  | .cons a r, x => by simp only [cs, sz, List.length_append, cs_len a, cs_len r]
theorem RR_len {w : World} {Sh : Nat → Prop} : ∀ {t : Ty} {x : t.den} {cs : List Value}, RR w Sh t x cs → cs.length = t.sz
  | .int _, _, _, h => by cases h; rfl
  | .bool, _, _, h => by cases h; rfl
  | .str, _, _, h => by cases h; rfl
  | .hole, _, _, h => by obtain ⟨v, rfl, _⟩ := h; rfl
  | .sl _ _ _, _, _, h => by obtain ⟨A, c, rfl, _⟩ := h; rfl
  | .nil, _, _, h => by cases h; rfl
  | .cons a r, x, cs, h => by obtain ⟨c0, c1, rfl, h0, h1⟩ := h; simp only [sz, List.length_append, RR_len h0, RR_len h1]
theorem RR_one {w : World} {Sh : Nat → Prop} : ∀ {t : Ty} {x : t.den} {cs : List Value}, RR w Sh t x cs → ∀ v ∈ cs, v.oneCell' = true
  | .int _, _, _, h, v, hv => by cases h; cases List.mem_singleton.1 hv; rfl
  | .bool, _, _, h, v, hv => by cases h; cases List.mem_singleton.1 hv; rfl
  | .str, _, _, h, v, hv => by cases h; cases List.mem_singleton.1 hv; rfl
  | .hole, _, _, h, v, hv => by obtain ⟨u, rfl, hu⟩ := h; cases List.mem_singleton.1 hv; exact hu
  | .sl _ _ _, _, _, h, v, hv => by obtain ⟨A, c, rfl, _⟩ := h; cases List.mem_singleton.1 hv; rfl
  | .nil, _, _, h, v, hv => by cases h; cases hv
  | .cons a r, x, cs, h, v, hv => by
    obtain ⟨c0, c1, rfl, h0, h1⟩ := h
    rcases List.mem_append.1 hv with hv | hv
    · exact RR_one h0 v hv
    · exact RR_one h1 v hv
theorem OK_one {w : World} {Sh : Nat → Prop} : ∀ {t : Ty} {d : t.dec}, OK w Sh t d → ∀ v ∈ t.cs d, v.oneCell' = true
  | .int _, _, _, v, hv => by cases List.mem_singleton.1 hv; rfl
  | .bool, _, _, v, hv => by cases List.mem_singleton.1 hv; rfl
  | .str, _, _, v, hv => by cases List.mem_singleton.1 hv; rfl
  | .hole, _, h, v, hv => by cases List.mem_singleton.1 hv; exact h
  | .sl true _ _, _, _, v, hv => by cases List.mem_singleton.1 hv; rfl
  | .sl false _ _, _, _, v, hv => by cases List.mem_singleton.1 hv; rfl
  | .nil, _, _, v, hv => by cases hv
  | .cons a r, x, h, v, hv => by
    rcases List.mem_append.1 hv with hv | hv
    · exact OK_one h.1 v hv
    · exact OK_one h.2 v hv

theorem cell_same {w w' : World} {b : Nat} (h : w'.heap[b]? = w.heap[b]?) (o : Nat) : w'.cell? ⟨b, o, none⟩ = w.cell? ⟨b, o, none⟩ := by simp [World.cell?, h]

theorem RR_mono {w w' : World} {Sh Sh' : Nat → Prop} (hw : ∀ b, Sh b → w'.heap[b]? = w.heap[b]?) (hs : ∀ b, Sh b → Sh' b) : ∀ {t : Ty} {x : t.den} {cs : List Value}, RR w Sh t x cs → RR w' Sh' t x cs
  | .int _, _, _, h => h
  | .bool, _, _, h => h
  | .str, _, _, h => h
  | .hole, _, _, h => h
  | .sl _ _ t, xs, _, h => by
    obtain ⟨A, c, rfl, hl, hm, hr⟩ := h
    refine ⟨A, c, rfl, hl, hm, fun i x hx => ?_⟩
    obtain ⟨b, o, hA, hb, cc, hR, hc⟩ := hr i x hx
    exact ⟨b, o, hA, hs b hb, cc, RR_mono hw hs hR, fun j v hv => (cell_same (hw b hb) _).trans (hc j v hv)⟩
  | .nil, _, _, h => h
  | .cons a r, x, cs, h => by
    obtain ⟨c0, c1, rfl, h0, h1⟩ := h
    exact ⟨c0, c1, rfl, RR_mono hw hs h0, RR_mono hw hs h1⟩

theorem mem_foot_elem {e : TypeId} {t : Ty} {x : (Option Addr × Nat) × List t.dec} {i : Nat} {d : t.dec} (h : x.2[i]? = some d) {b : Nat} (hb : b ∈ t.foot d) : b ∈ foot (.sl true e t) x :=
  List.mem_append_right _ (List.mem_flatMap.2 ⟨d, List.mem_of_getElem? h, hb⟩)
theorem mem_foot_top {e : TypeId} {t : Ty} {x : (Option Addr × Nat) × List t.dec} {b o : Nat} (h : x.1.1 = some ⟨b, o, none⟩) : b ∈ foot (.sl true e t) x :=
  List.mem_append_left _ (by rw [h]; exact List.mem_singleton.2 rfl)

theorem OK_frame {w w' : World} {Sh Sh' : Nat → Prop} (hw : ∀ b, Sh b → w'.heap[b]? = w.heap[b]?) (hs : ∀ b, Sh b → Sh' b) : ∀ {t : Ty} {d : t.dec}, (∀ b ∈ t.foot d, w'.heap[b]? = w.heap[b]?) → OK w Sh t d → OK w' Sh' t d
  | .int _, _, _, _ => trivial
  | .bool, _, _, _ => trivial
  | .str, _, _, _ => trivial
  | .hole, _, _, h => h
  | .sl true e t, x, hf, h => by
    rcases h with h | ⟨b, o, row, hA, hb, hl, hm, hr, hd⟩
    · exact .inl h
    · refine .inr ⟨b, o, row, hA, hb.frame (hf b (mem_foot_top hA)), hl, hm, hr, fun i d hi => ?_⟩
      obtain ⟨h1, h2⟩ := hd i d hi
      exact ⟨OK_frame hw hs (fun k hk => hf k (mem_foot_elem hi hk)) h1, h2⟩
  | .sl false e t, x, _, h => RR_mono (t := .sl false e t) hw hs h
  | .nil, _, _, _ => trivial
  | .cons a r, x, hf, h => ⟨OK_frame hw hs (fun b hb => hf b (List.mem_append_left _ hb)) h.1, OK_frame hw hs (fun b hb => hf b (List.mem_append_right _ hb)) h.2⟩

theorem foot_lt {w : World} {Sh : Nat → Prop} : ∀ {t : Ty} {d : t.dec}, OK w Sh t d → ∀ b ∈ t.foot d, b < w.heap.size
  | .int _, _, _, b, hb => by cases hb
  | .bool, _, _, b, hb => by cases hb
  | .str, _, _, b, hb => by cases hb
  | .hole, _, _, b, hb => by cases hb
  | .sl true e t, x, h, b, hb => by
    rcases h with ⟨h1, h2⟩ | ⟨b', o, row, hA, hb', hl, hm, hr, hd⟩
    · rcases List.mem_append.1 hb with hb | hb
      · rw [h1] at hb; cases hb
      · rw [h2] at hb; cases hb
    · rcases List.mem_append.1 hb with hb | hb
      · rw [hA] at hb; cases List.mem_singleton.1 hb; exact hb'.lt
      · obtain ⟨d, hd', hb⟩ := List.mem_flatMap.1 hb
        obtain ⟨i, hi⟩ := List.mem_iff_getElem?.1 hd'
        exact foot_lt (hd i d hi).1 b hb
  | .sl false e t, x, _, b, hb => by cases hb
  | .nil, _, _, b, hb => by cases hb
  | .cons a r, x, h, b, hb => by
    rcases List.mem_append.1 hb with hb | hb
    · exact foot_lt h.1 b hb
    · exact foot_lt h.2 b hb

/-- What is owned may be read as shared, once its blocks are. -/
theorem OK_RR {w : World} {Sh Sh' : Nat → Prop} (hs : ∀ b, Sh b → Sh' b) : ∀ {t : Ty} {d : t.dec}, OK w Sh t d → (∀ b ∈ t.foot d, Sh' b) → RR w Sh' t (t.er d) (t.cs d)
  | .int _, _, _, _ => rfl
  | .bool, _, _, _ => rfl
  | .str, _, _, _ => rfl
  | .hole, x, h, _ => ⟨x, rfl, h⟩
  | .sl true e t, x, h, hf => by
    rcases h with ⟨h1, h2⟩ | ⟨b, o, row, hA, hb, hl, hm, hr, hd⟩
    · refine ⟨none, 0, ?_, ?_, Nat.zero_le _, fun i y hy => ?_⟩
      · simp only [cs, er, h1, h2, List.map_nil]; rfl
      · simp only [er, h2, List.map_nil]; exact Nat.le_refl _
      · simp only [er, h2, List.map_nil] at hy; cases hy
    · refine ⟨some ⟨b, o, none⟩, x.1.2, ?_, ?_, hm, fun i y hy => ?_⟩
      · simp only [cs, er, hA, List.length_map]
      · simp only [er, List.length_map]; exact hl
      · simp only [er, List.getElem?_map] at hy
        cases hi : x.2[i]? with
        | none => rw [hi] at hy; cases hy
        | some d =>
          rw [hi] at hy; cases hy
          obtain ⟨h1, h2⟩ := hd i d hi
          refine ⟨b, o, rfl, hf b (mem_foot_top hA), t.cs d, OK_RR hs h1 (fun k hk => hf k (mem_foot_elem hi hk)), fun j v hv => ?_⟩
          rw [hb.cell]
          exact h2 j v hv
  | .sl false e t, x, h, _ => RR_mono (t := .sl false e t) (fun _ _ => rfl) hs h
  | .nil, _, _, _ => rfl
  | .cons a r, x, h, hf => ⟨_, _, rfl, OK_RR hs h.1 (fun b hb => hf b (List.mem_append_left _ hb)), OK_RR hs h.2 (fun b hb => hf b (List.mem_append_right _ hb))⟩

/-- What is shared throughout is decorated by its places. -/
theorem RR_dec {w : World} {Sh : Nat → Prop} : ∀ {t : Ty} {x : t.den} {cs : List Value}, t.plain = true → RR w Sh t x cs → ∃ d : t.dec, t.er d = x ∧ t.cs d = cs ∧ OK w Sh t d ∧ t.foot d = []
  | .int _, x, _, _, h => by cases h; exact ⟨x, rfl, rfl, trivial, rfl⟩
  | .bool, x, _, _, h => by cases h; exact ⟨x, rfl, rfl, trivial, rfl⟩
  | .str, x, _, _, h => by cases h; exact ⟨x, rfl, rfl, trivial, rfl⟩
  | .hole, _, _, hp, _ => by cases hp
  | .sl true _ _, _, _, hp, _ => by cases hp
  | .sl false e t, x, _, _, h => by
    have h' := h
    obtain ⟨A, c, rfl, hl, hm, hr⟩ := h
    exact ⟨((A, c), x), rfl, rfl, h', rfl⟩
  | .nil, _, _, _, h => by cases h; exact ⟨(), rfl, rfl, trivial, rfl⟩
  | .cons a r, x, cs, hp, h => by
    obtain ⟨c0, c1, rfl, h0, h1⟩ := h
    simp only [plain, Bool.and_eq_true] at hp
    obtain ⟨d0, e0, f0, o0, k0⟩ := RR_dec hp.1 h0
    obtain ⟨d1, e1, f1, o1, k1⟩ := RR_dec hp.2 h1
    exact ⟨(d0, d1), by simp only [er, e0, e1], by simp only [Ty.cs, f0, f1], ⟨o0, o1⟩, by simp only [foot, k0, k1]; rfl⟩

theorem den_shr : ∀ t : Ty, t.shr.den = t.den
  | .int _ => rfl
  | .bool => rfl
  | .str => rfl
  | .hole => rfl
  | .sl _ _ t => by simp only [shr, den, den_shr t]
  | .nil => rfl
  | .cons a r => by simp only [shr, den, den_shr a, den_shr r]
theorem den_same {t t' : Ty} (h : t.shr = t'.shr) : t.den = t'.den := (den_shr t).symm.trans ((congrArg den h).trans (den_shr t'))
theorem sz_shr : ∀ t : Ty, t.shr.sz = t.sz
  | .int _ => rfl
  | .bool => rfl
  | .str => rfl
  | .hole => rfl
  | .sl _ _ t => rfl
  | .nil => rfl
  | .cons a r => by simp only [shr, sz, sz_shr a, sz_shr r]
theorem sz_same {t t' : Ty} (h : t.shr = t'.shr) : t.sz = t'.sz := (sz_shr t).symm.trans ((congrArg sz h).trans (sz_shr t'))
theorem agg_shr (t : Ty) : t.shr.agg = t.agg := by cases t <;> rfl
theorem agg_same {t t' : Ty} (h : t.shr = t'.shr) : t.agg = t'.agg := (agg_shr t).symm.trans ((congrArg agg h).trans (agg_shr t'))
theorem shr_plain : ∀ t : Ty, t.plain = true → t.shr = t
  | .int _, _ => rfl
  | .bool, _ => rfl
  | .str, _ => rfl
  | .hole, h => by cases h
  | .sl true _ _, h => by cases h
  | .sl false _ t, h => by simp only [shr, shr_plain t (by simpa [plain] using h)]
  | .nil, _ => rfl
  | .cons a r, h => by
    simp only [plain, Bool.and_eq_true] at h
    simp only [shr, shr_plain a h.1, shr_plain r h.2]

theorem cast_prod {A B A' B' : Type} (ha : A = A') (hb : B = B') (h : (A × B) = (A' × B')) (p : A × B) : cast h p = (cast ha p.1, cast hb p.2) := by subst ha; subst hb; rfl
theorem cast_list {A A' : Type} (ha : A = A') (h : List A = List A') (l : List A) : cast h l = l.map (cast ha) := by subst ha; exact (List.map_id l).symm
/-- The flags do not count for what is read. -/
theorem RR_same {w : World} {Sh : Nat → Prop} : ∀ {t t' : Ty} (h : t.shr = t'.shr) {x : t.den} {cs : List Value}, RR w Sh t x cs → RR w Sh t' (cast (den_same h) x) cs
  | .int k, t', h, x, cs, hr => by cases t' <;> simp only [shr] at h <;> cases h; exact hr
  | .bool, t', h, x, cs, hr => by cases t' <;> simp only [shr] at h <;> cases h; exact hr
  | .str, t', h, x, cs, hr => by cases t' <;> simp only [shr] at h <;> cases h; exact hr
  | .hole, t', h, x, cs, hr => by cases t' <;> simp only [shr] at h <;> cases h; exact hr
  | .sl o e t, t', h, x, cs, hr => by
    cases t' <;> simp only [shr] at h <;> try (injection h; done)
    rename_i o' e' t'
    have he : e = e' := by injection h
    have h1 : t.shr = t'.shr := by injection h
    subst he
    have hd : t.den = t'.den := den_same h1
    rw [cast_list hd]
    obtain ⟨A, c, rfl, hl, hm, hr⟩ := hr
    refine ⟨A, c, by rw [List.length_map], by rw [List.length_map]; exact hl, hm, fun i y hy => ?_⟩
    rw [List.getElem?_map] at hy
    cases hi : x[i]? with
    | none => rw [hi] at hy; cases hy
    | some z =>
      rw [hi] at hy; cases hy
      obtain ⟨b, o, hA, hb, cc, hR, hc⟩ := hr i z hi
      exact ⟨b, o, hA, hb, cc, RR_same h1 hR, by rw [← sz_same h1]; exact hc⟩
  | .nil, t', h, x, cs, hr => by cases t' <;> simp only [shr] at h <;> cases h; exact hr
  | .cons a r, t', h, x, cs, hr => by
    cases t' <;> simp only [shr] at h <;> try (injection h; done)
    rename_i a' r'
    have ha : a.shr = a'.shr := by injection h
    have hr' : r.shr = r'.shr := by injection h
    obtain ⟨c0, c1, rfl, h0, h1⟩ := hr
    rw [cast_prod (den_same ha) (den_same hr')]
    exact ⟨c0, c1, rfl, RR_same ha h0, RR_same hr' h1⟩
end Ty
end Go.Proofs.Ytabjfkongckhaaa.Vm
