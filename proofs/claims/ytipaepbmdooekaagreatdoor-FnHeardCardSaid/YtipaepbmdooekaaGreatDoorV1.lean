/- What the machine is: values, places, relations, operations, what runs. -/
import Derived.WalkKit
import Derived.Orders
import Derived.Laws.StructEq
import Derived.Great.BuildSlice
/- Typed values: what a row of cells says (shared), and what it says and owns (decorated by its places). -/
namespace Go.Proofs.YtipaepbmdooekaaGreatDoor.Vm
open Go Go.RowKit

/-- What a value is made of. 'sl own e t': a slice whose element type has the number e; own: its array, and what is told as own behind it, is told by this value alone. -/
inductive Ty where
  | int (k : IntKind)
  | bool
  | str
  | hole
  | sl (o : Bool) (e : TypeId) (t : Ty)
  | nil
  | cons (a r : Ty)
  deriving DecidableEq

/-- The bytes' type: its rows alone may bear a text's mark. -/
def byteT (e : TypeId) : Bool := Nat.beq e 5
/-- The block of a package's table that is told of, and what it holds. -/
def pinB (b : Nat) : Bool := Nat.beq b 1
def pinRow : Array Value := #[.int .u64 1, .int .u64 10, .int .u64 100, .int .u64 1000, .int .u64 10000, .int .u64 100000, .int .u64 1000000, .int .u64 10000000, .int .u64 100000000, .int .u64 1000000000, .int .u64 10000000000, .int .u64 100000000000, .int .u64 1000000000000, .int .u64 10000000000000, .int .u64 100000000000000, .int .u64 1000000000000000, .int .u64 10000000000000000, .int .u64 100000000000000000, .int .u64 1000000000000000000, .int .u64 10000000000000000000]
def Pin (w : World) : Prop := ∀ b, pinB b = true → ∃ e m, w.heap[b]? = some (.cells pinRow e m)
theorem Pin.keep {w w' : World} (h : Pin w) (hb : ∀ b, pinB b = true → w'.heap[b]? = w.heap[b]?) : Pin w' := fun b hp => by
  obtain ⟨e, m, h1⟩ := h b hp
  exact ⟨e, m, (hb b hp).trans h1⟩
theorem Pin.lt {w : World} (h : Pin w) {b : Nat} (hp : pinB b = true) : b < w.heap.size := by
  obtain ⟨e, m, h1⟩ := h b hp
  exact (Array.getElem?_eq_some_iff.1 h1).1
/-- A row of cells, none of which a text shares. -/
def Row (w : World) (b : Nat) (row : Array Value) (e : TypeId) : Prop := ∃ m : Nat × Nat, w.heap[b]? = some (.cells row e m) ∧ (m = (0, 0) ∨ row.size ≤ m.1 ∧ byteT e = true)
theorem Row.frame {w w' : World} {b : Nat} {row : Array Value} {e : TypeId} (h : w'.heap[b]? = w.heap[b]?) : Row w b row e → Row w' b row e := fun ⟨m, h1, h2⟩ => ⟨m, h.trans h1, h2⟩
theorem Row.lt {w : World} {b : Nat} {row : Array Value} {e : TypeId} : Row w b row e → b < w.heap.size := fun ⟨_, h1, _⟩ => (Array.getElem?_eq_some_iff.1 h1).1
theorem Row.cell {w : World} {b : Nat} {row : Array Value} {e : TypeId} (h : Row w b row e) (o : Nat) : w.cell? ⟨b, o, none⟩ = row[o]? := by
  obtain ⟨m, h1, h2⟩ := h
  simp [World.cell?, h1]
theorem Row.uniq {w : World} {b : Nat} {row row' : Array Value} {e e' : TypeId} (h : Row w b row e) (h' : Row w b row' e') : row = row' ∧ e = e' := by
  obtain ⟨m, h1, _⟩ := h
  obtain ⟨m', h1', _⟩ := h'
  rw [h1] at h1'
  cases h1'
  exact ⟨rfl, rfl⟩
theorem Row.new {w : World} {b : Nat} {row : Array Value} {e : TypeId} (h : w.heap[b]? = some (.cells row e (0, 0))) : Row w b row e := ⟨_, h, .inl rfl⟩

namespace Ty
@[reducible] def den : Ty → Type
  | .int _ => Int
  | .bool => Bool
  | .str => ByteArray
  | .hole => Unit
  | .sl _ _ t => List t.den
  | .nil => Unit
  | .cons a r => a.den × r.den
def dft : (t : Ty) → t.den
  | .int _ => (0 : Int)
  | .bool => false
  | .str => (⟨#[]⟩ : ByteArray)
  | .hole => ()
  | .sl _ _ _ => []
  | .nil => ()
  | .cons a r => (a.dft, r.dft)
/-- How many cells. -/
def sz : Ty → Nat
  | .nil => 0
  | .cons a r => a.sz + r.sz
  | _ => 1
def agg : Ty → Bool
  | .nil => true
  | .cons _ _ => true
  | _ => false
/-- Everything shared. -/
def shr : Ty → Ty
  | .sl _ e t => .sl false e t.shr
  | .cons a r => .cons a.shr r.shr
  | t => t
/-- Everything own. -/
def own : Ty → Ty
  | .sl _ e t => .sl true e t.own
  | .cons a r => .cons a.own r.own
  | t => t
/-- Nothing in it is own. -/
def plain : Ty → Bool
  | .sl o _ t => !o && t.plain
  | .cons a r => a.plain && r.plain
  | .hole => false
  | _ => true
/-- No slice in it. -/
def flat : Ty → Bool
  | .sl _ _ _ => false
  | .cons a r => a.flat && r.flat
  | .hole => false
  | _ => true
/-- A value as the places know it. -/
def dec : Ty → Type
  | .int _ => Int
  | .bool => Bool
  | .str => ByteArray
  | .hole => Value
  | .sl true _ t => (Option Addr × Nat) × List t.dec
  | .sl false _ t => (Option Addr × Nat) × List t.den
  | .nil => Unit
  | .cons a r => a.dec × r.dec
def er : (t : Ty) → t.dec → t.den
  | .int _, x => (x : Int)
  | .bool, x => (x : Bool)
  | .str, x => (x : ByteArray)
  | .hole, _ => ()
  | .sl true _ t, x => x.2.map t.er
  | .sl false _ _, x => x.2
  | .nil, _ => ()
  | .cons a r, x => (a.er x.1, r.er x.2)
def cs : (t : Ty) → t.dec → List Value
  | .int k, x => [.int k x]
  | .bool, x => [.bool x]
  | .str, x => [.string x]
  | .hole, x => [x]
  | .sl true _ _, x => [.slice x.1.1 x.2.length x.1.2]
  | .sl false _ _, x => [.slice x.1.1 x.2.length x.1.2]
  | .nil, _ => []
  | .cons a r, x => a.cs x.1 ++ r.cs x.2
def foot : (t : Ty) → t.dec → List Nat
  | .sl true _ t, x => (x.1.1.map (·.block)).toList ++ x.2.flatMap t.foot
  | .cons a r, x => a.foot x.1 ++ r.foot x.2
  | _, _ => []

/-- The cells say x; whatever row they lead to lies in blocks of Sh. -/
def RR (w : World) (Sh : Nat → Prop) : (t : Ty) → t.den → List Value → Prop
  | .int k, x, cs => cs = [.int k x]
  | .bool, x, cs => cs = [.bool x]
  | .str, x, cs => cs = [.string x]
  | .hole, _, cs => ∃ v : Value, cs = [v] ∧ v.oneCell' = true
  | .sl _ _ t, xs, cs => ∃ (A : Option Addr) (c : Nat), cs = [.slice A xs.length c] ∧ xs.length ≤ c ∧ c ≤ maxLen ∧
      ∀ (i : Nat) (x : t.den), xs[i]? = some x → ∃ b o, A = some ⟨b, o, none⟩ ∧ Sh b ∧ ∃ cc, RR w Sh t x cc ∧ ∀ j v, cc[j]? = some v → w.cell? ⟨b, o + i * t.sz + j, none⟩ = some v
  | .nil, _, cs => cs = []
  | .cons a r, x, cs => ∃ c0 c1, cs = c0 ++ c1 ∧ RR w Sh a x.1 c0 ∧ RR w Sh r x.2 c1

/-- The decorated value is what lies in memory. -/
def OK (w : World) (Sh : Nat → Prop) : (t : Ty) → t.dec → Prop
  | .hole, v => (v : Value).oneCell' = true
  | .sl false e t, x => RR w Sh (.sl false e t) x.2 [.slice x.1.1 x.2.length x.1.2]
  | .sl true e t, x => (x.1 = (none, 0) ∧ x.2 = []) ∨
      ∃ b o row, x.1.1 = some ⟨b, o, none⟩ ∧ Row w b row e ∧ x.2.length ≤ x.1.2 ∧ x.1.2 ≤ maxLen ∧ o + x.1.2 * t.sz ≤ row.size ∧
        ∀ (i : Nat) (d : t.dec), x.2[i]? = some d → OK w Sh t d ∧ ∀ j v, (t.cs d)[j]? = some v → row[o + i * t.sz + j]? = some v
  | .cons a r, x => OK w Sh a x.1 ∧ OK w Sh r x.2
  | _, _ => True

/-- A value out of its cells. -/
def mkv (t : Ty) (cs : List Value) : Value := if t.agg then .agg cs.toArray else cs.headD undef

theorem cs_len : ∀ (t : Ty) (d : t.dec), (t.cs d).length = t.sz
  | .int _, _ => rfl
  | .bool, _ => rfl
  | .str, _ => rfl
  | .hole, _ => rfl
  | .sl true _ _, _ => rfl
  | .sl false _ _, _ => rfl
  | .nil, _ => rfl
  | .cons a r, x => by simp only [cs, sz, List.length_append, cs_len a, cs_len r]
theorem RR_len {w : World} {Sh : Nat → Prop} : ∀ {t : Ty} {x : t.den} {cs : List Value}, RR w Sh t x cs → cs.length = t.sz
  | .int _, _, _, h => by cases h; rfl
  | .bool, _, _, h => by cases h; rfl
  | .str, _, _, h => by cases h; rfl
  | .hole, _, _, h => by obtain ⟨v, rfl, _⟩ := h; rfl
  | .sl _ _ _, _, _, h => by obtain ⟨A, c, rfl, _⟩ := h; rfl
  | .nil, _, _, h => by cases h; rfl
  | .cons a r, x, cs, h => by obtain ⟨c0, c1, rfl, h0, h1⟩ := h; simp only [sz, List.length_append, RR_len h0, RR_len h1]
theorem RR_one {w : World} {Sh : Nat → Prop} : ∀ {t : Ty} {x : t.den} {cs : List Value}, RR w Sh t x cs → ∀ v ∈ cs, v.oneCell' = true
  | .int _, _, _, h, v, hv => by cases h; cases List.mem_singleton.1 hv; rfl
  | .bool, _, _, h, v, hv => by cases h; cases List.mem_singleton.1 hv; rfl
  | .str, _, _, h, v, hv => by cases h; cases List.mem_singleton.1 hv; rfl
  | .hole, _, _, h, v, hv => by obtain ⟨u, rfl, hu⟩ := h; cases List.mem_singleton.1 hv; exact hu
  | .sl _ _ _, _, _, h, v, hv => by obtain ⟨A, c, rfl, _⟩ := h; cases List.mem_singleton.1 hv; rfl
  | .nil, _, _, h, v, hv => by cases h; cases hv
  | .cons a r, x, cs, h, v, hv => by
    obtain ⟨c0, c1, rfl, h0, h1⟩ := h
    rcases List.mem_append.1 hv with hv | hv
    · exact RR_one h0 v hv
    · exact RR_one h1 v hv
theorem OK_one {w : World} {Sh : Nat → Prop} : ∀ {t : Ty} {d : t.dec}, OK w Sh t d → ∀ v ∈ t.cs d, v.oneCell' = true
  | .int _, _, _, v, hv => by cases List.mem_singleton.1 hv; rfl
  | .bool, _, _, v, hv => by cases List.mem_singleton.1 hv; rfl
  | .str, _, _, v, hv => by cases List.mem_singleton.1 hv; rfl
  | .hole, _, h, v, hv => by cases List.mem_singleton.1 hv; exact h
  | .sl true _ _, _, _, v, hv => by cases List.mem_singleton.1 hv; rfl
  | .sl false _ _, _, _, v, hv => by cases List.mem_singleton.1 hv; rfl
  | .nil, _, _, v, hv => by cases hv
  | .cons a r, x, h, v, hv => by
    rcases List.mem_append.1 hv with hv | hv
    · exact OK_one h.1 v hv
    · exact OK_one h.2 v hv

theorem cell_same {w w' : World} {b : Nat} (h : w'.heap[b]? = w.heap[b]?) (o : Nat) : w'.cell? ⟨b, o, none⟩ = w.cell? ⟨b, o, none⟩ := by simp [World.cell?, h]

theorem RR_mono {w w' : World} {Sh Sh' : Nat → Prop} (hw : ∀ b, Sh b → w'.heap[b]? = w.heap[b]?) (hs : ∀ b, Sh b → Sh' b) : ∀ {t : Ty} {x : t.den} {cs : List Value}, RR w Sh t x cs → RR w' Sh' t x cs
  | .int _, _, _, h => h
  | .bool, _, _, h => h
  | .str, _, _, h => h
  | .hole, _, _, h => h
  | .sl _ _ t, xs, _, h => by
    obtain ⟨A, c, rfl, hl, hm, hr⟩ := h
    refine ⟨A, c, rfl, hl, hm, fun i x hx => ?_⟩
    obtain ⟨b, o, hA, hb, cc, hR, hc⟩ := hr i x hx
    exact ⟨b, o, hA, hs b hb, cc, RR_mono hw hs hR, fun j v hv => (cell_same (hw b hb) _).trans (hc j v hv)⟩
  | .nil, _, _, h => h
  | .cons a r, x, cs, h => by
    obtain ⟨c0, c1, rfl, h0, h1⟩ := h
    exact ⟨c0, c1, rfl, RR_mono hw hs h0, RR_mono hw hs h1⟩

theorem mem_foot_elem {e : TypeId} {t : Ty} {x : (Option Addr × Nat) × List t.dec} {i : Nat} {d : t.dec} (h : x.2[i]? = some d) {b : Nat} (hb : b ∈ t.foot d) : b ∈ foot (.sl true e t) x :=
  List.mem_append_right _ (List.mem_flatMap.2 ⟨d, List.mem_of_getElem? h, hb⟩)
theorem mem_foot_top {e : TypeId} {t : Ty} {x : (Option Addr × Nat) × List t.dec} {b o : Nat} (h : x.1.1 = some ⟨b, o, none⟩) : b ∈ foot (.sl true e t) x :=
  List.mem_append_left _ (by rw [h]; exact List.mem_singleton.2 rfl)

theorem OK_frame {w w' : World} {Sh Sh' : Nat → Prop} (hw : ∀ b, Sh b → w'.heap[b]? = w.heap[b]?) (hs : ∀ b, Sh b → Sh' b) : ∀ {t : Ty} {d : t.dec}, (∀ b ∈ t.foot d, w'.heap[b]? = w.heap[b]?) → OK w Sh t d → OK w' Sh' t d
  | .int _, _, _, _ => trivial
  | .bool, _, _, _ => trivial
  | .str, _, _, _ => trivial
  | .hole, _, _, h => h
  | .sl true e t, x, hf, h => by
    rcases h with h | ⟨b, o, row, hA, hb, hl, hm, hr, hd⟩
    · exact .inl h
    · refine .inr ⟨b, o, row, hA, hb.frame (hf b (mem_foot_top hA)), hl, hm, hr, fun i d hi => ?_⟩
      obtain ⟨h1, h2⟩ := hd i d hi
      exact ⟨OK_frame hw hs (fun k hk => hf k (mem_foot_elem hi hk)) h1, h2⟩
  | .sl false e t, x, _, h => RR_mono (t := .sl false e t) hw hs h
  | .nil, _, _, _ => trivial
  | .cons a r, x, hf, h => ⟨OK_frame hw hs (fun b hb => hf b (List.mem_append_left _ hb)) h.1, OK_frame hw hs (fun b hb => hf b (List.mem_append_right _ hb)) h.2⟩

theorem foot_lt {w : World} {Sh : Nat → Prop} : ∀ {t : Ty} {d : t.dec}, OK w Sh t d → ∀ b ∈ t.foot d, b < w.heap.size
  | .int _, _, _, b, hb => by cases hb
  | .bool, _, _, b, hb => by cases hb
  | .str, _, _, b, hb => by cases hb
  | .hole, _, _, b, hb => by cases hb
  | .sl true e t, x, h, b, hb => by
    rcases h with ⟨h1, h2⟩ | ⟨b', o, row, hA, hb', hl, hm, hr, hd⟩
    · rcases List.mem_append.1 hb with hb | hb
      · rw [h1] at hb; cases hb
      · rw [h2] at hb; cases hb
    · rcases List.mem_append.1 hb with hb | hb
      · rw [hA] at hb; cases List.mem_singleton.1 hb; exact hb'.lt
      · obtain ⟨d, hd', hb⟩ := List.mem_flatMap.1 hb
        obtain ⟨i, hi⟩ := List.mem_iff_getElem?.1 hd'
        exact foot_lt (hd i d hi).1 b hb
  | .sl false e t, x, _, b, hb => by cases hb
  | .nil, _, _, b, hb => by cases hb
  | .cons a r, x, h, b, hb => by
    rcases List.mem_append.1 hb with hb | hb
    · exact foot_lt h.1 b hb
    · exact foot_lt h.2 b hb

/-- What is owned may be read as shared, once its blocks are. -/
theorem OK_RR {w : World} {Sh Sh' : Nat → Prop} (hs : ∀ b, Sh b → Sh' b) : ∀ {t : Ty} {d : t.dec}, OK w Sh t d → (∀ b ∈ t.foot d, Sh' b) → RR w Sh' t (t.er d) (t.cs d)
  | .int _, _, _, _ => rfl
  | .bool, _, _, _ => rfl
  | .str, _, _, _ => rfl
  | .hole, x, h, _ => ⟨x, rfl, h⟩
  | .sl true e t, x, h, hf => by
    rcases h with ⟨h1, h2⟩ | ⟨b, o, row, hA, hb, hl, hm, hr, hd⟩
    · refine ⟨none, 0, ?_, ?_, Nat.zero_le _, fun i y hy => ?_⟩
      · simp only [cs, er, h1, h2, List.map_nil]; rfl
      · simp only [er, h2, List.map_nil]; exact Nat.le_refl _
      · simp only [er, h2, List.map_nil] at hy; cases hy
    · refine ⟨some ⟨b, o, none⟩, x.1.2, ?_, ?_, hm, fun i y hy => ?_⟩
      · simp only [cs, er, hA, List.length_map]
      · simp only [er, List.length_map]; exact hl
      · simp only [er, List.getElem?_map] at hy
        cases hi : x.2[i]? with
        | none => rw [hi] at hy; cases hy
        | some d =>
          rw [hi] at hy; cases hy
          obtain ⟨h1, h2⟩ := hd i d hi
          refine ⟨b, o, rfl, hf b (mem_foot_top hA), t.cs d, OK_RR hs h1 (fun k hk => hf k (mem_foot_elem hi hk)), fun j v hv => ?_⟩
          rw [hb.cell]
          exact h2 j v hv
  | .sl false e t, x, h, _ => RR_mono (t := .sl false e t) (fun _ _ => rfl) hs h
  | .nil, _, _, _ => rfl
  | .cons a r, x, h, hf => ⟨_, _, rfl, OK_RR hs h.1 (fun b hb => hf b (List.mem_append_left _ hb)), OK_RR hs h.2 (fun b hb => hf b (List.mem_append_right _ hb))⟩

/-- What is shared throughout is decorated by its places. -/
theorem RR_dec {w : World} {Sh : Nat → Prop} : ∀ {t : Ty} {x : t.den} {cs : List Value}, t.plain = true → RR w Sh t x cs → ∃ d : t.dec, t.er d = x ∧ t.cs d = cs ∧ OK w Sh t d ∧ t.foot d = []
  | .int _, x, _, _, h => by cases h; exact ⟨x, rfl, rfl, trivial, rfl⟩
  | .bool, x, _, _, h => by cases h; exact ⟨x, rfl, rfl, trivial, rfl⟩
  | .str, x, _, _, h => by cases h; exact ⟨x, rfl, rfl, trivial, rfl⟩
  | .hole, _, _, hp, _ => by cases hp
  | .sl true _ _, _, _, hp, _ => by cases hp
  | .sl false e t, x, _, _, h => by
    have h' := h
    obtain ⟨A, c, rfl, hl, hm, hr⟩ := h
    exact ⟨((A, c), x), rfl, rfl, h', rfl⟩
  | .nil, _, _, _, h => by cases h; exact ⟨(), rfl, rfl, trivial, rfl⟩
  | .cons a r, x, cs, hp, h => by
    obtain ⟨c0, c1, rfl, h0, h1⟩ := h
    simp only [plain, Bool.and_eq_true] at hp
    obtain ⟨d0, e0, f0, o0, k0⟩ := RR_dec hp.1 h0
    obtain ⟨d1, e1, f1, o1, k1⟩ := RR_dec hp.2 h1
    exact ⟨(d0, d1), by simp only [er, e0, e1], by simp only [Ty.cs, f0, f1], ⟨o0, o1⟩, by simp only [foot, k0, k1]; rfl⟩

theorem den_shr : ∀ t : Ty, t.shr.den = t.den
  | .int _ => rfl
  | .bool => rfl
  | .str => rfl
  | .hole => rfl
  | .sl _ _ t => by simp only [shr, den, den_shr t]
  | .nil => rfl
  | .cons a r => by simp only [shr, den, den_shr a, den_shr r]
theorem den_same {t t' : Ty} (h : t.shr = t'.shr) : t.den = t'.den := (den_shr t).symm.trans ((congrArg den h).trans (den_shr t'))
theorem sz_shr : ∀ t : Ty, t.shr.sz = t.sz
  | .int _ => rfl
  | .bool => rfl
  | .str => rfl
  | .hole => rfl
  | .sl _ _ t => rfl
  | .nil => rfl
  | .cons a r => by simp only [shr, sz, sz_shr a, sz_shr r]
theorem sz_same {t t' : Ty} (h : t.shr = t'.shr) : t.sz = t'.sz := (sz_shr t).symm.trans ((congrArg sz h).trans (sz_shr t'))
theorem agg_shr (t : Ty) : t.shr.agg = t.agg := by cases t <;> rfl
theorem agg_same {t t' : Ty} (h : t.shr = t'.shr) : t.agg = t'.agg := (agg_shr t).symm.trans ((congrArg agg h).trans (agg_shr t'))
theorem shr_plain : ∀ t : Ty, t.plain = true → t.shr = t
  | .int _, _ => rfl
  | .bool, _ => rfl
  | .str, _ => rfl
  | .hole, h => by cases h
  | .sl true _ _, h => by cases h
  | .sl false _ t, h => by simp only [shr, shr_plain t (by simpa [plain] using h)]
  | .nil, _ => rfl
  | .cons a r, h => by
    simp only [plain, Bool.and_eq_true] at h
    simp only [shr, shr_plain a h.1, shr_plain r h.2]

theorem cast_prod {A B A' B' : Type} (ha : A = A') (hb : B = B') (h : (A × B) = (A' × B')) (p : A × B) : cast h p = (cast ha p.1, cast hb p.2) := by subst ha; subst hb; rfl
theorem cast_list {A A' : Type} (ha : A = A') (h : List A = List A') (l : List A) : cast h l = l.map (cast ha) := by subst ha; exact (List.map_id l).symm
/-- The flags do not count for what is read. -/
theorem RR_same {w : World} {Sh : Nat → Prop} : ∀ {t t' : Ty} (h : t.shr = t'.shr) {x : t.den} {cs : List Value}, RR w Sh t x cs → RR w Sh t' (cast (den_same h) x) cs
  | .int k, t', h, x, cs, hr => by cases t' <;> simp only [shr] at h <;> cases h; exact hr
  | .bool, t', h, x, cs, hr => by cases t' <;> simp only [shr] at h <;> cases h; exact hr
  | .str, t', h, x, cs, hr => by cases t' <;> simp only [shr] at h <;> cases h; exact hr
  | .hole, t', h, x, cs, hr => by cases t' <;> simp only [shr] at h <;> cases h; exact hr
  | .sl o e t, t', h, x, cs, hr => by
    cases t' <;> simp only [shr] at h <;> try (injection h; done)
    rename_i o' e' t'
    have he : e = e' := by injection h
    have h1 : t.shr = t'.shr := by injection h
    subst he
    have hd : t.den = t'.den := den_same h1
    rw [cast_list hd]
    obtain ⟨A, c, rfl, hl, hm, hr⟩ := hr
    refine ⟨A, c, by rw [List.length_map], by rw [List.length_map]; exact hl, hm, fun i y hy => ?_⟩
    rw [List.getElem?_map] at hy
    cases hi : x[i]? with
    | none => rw [hi] at hy; cases hy
    | some z =>
      rw [hi] at hy; cases hy
      obtain ⟨b, o, hA, hb, cc, hR, hc⟩ := hr i z hi
      exact ⟨b, o, hA, hb, cc, RR_same h1 hR, by rw [← sz_same h1]; exact hc⟩
  | .nil, t', h, x, cs, hr => by cases t' <;> simp only [shr] at h <;> cases h; exact hr
  | .cons a r, t', h, x, cs, hr => by
    cases t' <;> simp only [shr] at h <;> try (injection h; done)
    rename_i a' r'
    have ha : a.shr = a'.shr := by injection h
    have hr' : r.shr = r'.shr := by injection h
    obtain ⟨c0, c1, rfl, h0, h1⟩ := hr
    rw [cast_prod (den_same ha) (den_same hr')]
    exact ⟨c0, c1, rfl, RR_same ha h0, RR_same hr' h1⟩
end Ty
end Go.Proofs.YtipaepbmdooekaaGreatDoor.Vm

/- Places in typed values: looking, putting, and what a change of memory at a place does to the whole. -/
namespace Go.Proofs.YtipaepbmdooekaaGreatDoor.Vm
open Go Go.RowKit

structure V where
  t : Ty
  x : t.den
structure DV where
  t : Ty
  d : t.dec
def DV.er (v : DV) : V := ⟨v.t, v.t.er v.d⟩
def DV.cs (v : DV) : List Value := v.t.cs v.d
def DV.foot (v : DV) : List Nat := v.t.foot v.d
def DV.OK (w : World) (Sh : Nat → Prop) (v : DV) : Prop := Ty.OK w Sh v.t v.d

inductive Step where
  | fst
  | snd
  | idx (n : Nat)
abbrev Path := List Step
/-- How many arrays it goes through. -/
def depth : Path → Nat
  | [] => 0
  | .idx _ :: p => depth p + 1
  | _ :: p => depth p

def getV : V → Path → Option V
  | v, [] => some v
  | ⟨.cons a _, x⟩, .fst :: p => getV ⟨a, x.1⟩ p
  | ⟨.cons _ r, x⟩, .snd :: p => getV ⟨r, x.2⟩ p
  | ⟨.sl true _ t, xs⟩, .idx n :: p => getV ⟨t, xs.getD n t.dft⟩ p
  | _, _ => none
def putV : V → Path → V → Option V
  | _, [], u => some u
  | ⟨.cons a r, x⟩, .fst :: p, u => (putV ⟨a, x.1⟩ p u).map fun v => ⟨.cons v.t r, (v.x, x.2)⟩
  | ⟨.cons a r, x⟩, .snd :: p, u => (putV ⟨r, x.2⟩ p u).map fun v => ⟨.cons a v.t, (x.1, v.x)⟩
  | ⟨.sl true e t, xs⟩, .idx n :: p, u => (putV ⟨t, xs.getD n t.dft⟩ p u).bind fun v => if h : v.t = t then some ⟨.sl true e t, xs.set n (cast (congrArg Ty.den h) v.x)⟩ else none
  | _, _, _ => none
abbrev Base := Option (Nat × Nat)
def Base.up (b : Base) (n : Nat) : Base := b.map fun p => (p.1, p.2 + n)
def lookD : DV → Base → Path → Option (Base × DV)
  | v, b, [] => some (b, v)
  | ⟨.cons a _, x⟩, b, .fst :: p => lookD ⟨a, x.1⟩ b p
  | ⟨.cons a r, x⟩, b, .snd :: p => lookD ⟨r, x.2⟩ (Base.up b a.sz) p
  | ⟨.sl true _ t, x⟩, _, .idx n :: p => match x.1.1, x.2[n]? with
    | some a, some d => lookD ⟨t, d⟩ (some (a.block, a.off + n * t.sz)) p
    | _, _ => none
  | _, _, _ => none
def putD : DV → Path → DV → Option DV
  | _, [], u => some u
  | ⟨.cons a r, x⟩, .fst :: p, u => (putD ⟨a, x.1⟩ p u).map fun v => ⟨.cons v.t r, (v.d, x.2)⟩
  | ⟨.cons a r, x⟩, .snd :: p, u => (putD ⟨r, x.2⟩ p u).map fun v => ⟨.cons a v.t, (x.1, v.d)⟩
  | ⟨.sl true e t, x⟩, .idx n :: p, u => match x.2[n]? with
    | some d => (putD ⟨t, d⟩ p u).bind fun v => if h : v.t = t then some ⟨.sl true e t, (x.1, x.2.set n (cast (congrArg Ty.dec h) v.d))⟩ else none
    | none => none
  | _, _, _ => none

theorem getD_map {α β : Type} (f : α → β) (l : List α) (n : Nat) (b : β) {a : α} (h : l[n]? = some a) : (l.map f).getD n b = f a := by
  rw [List.getD_eq_getElem?_getD, List.getElem?_map, h]; rfl
theorem er_look : ∀ {p : Path} {v : DV} {b : Base} {b' : Base} {u : DV}, lookD v b p = some (b', u) → getV v.er p = some u.er
  | [], v, b, b', u, h => by cases h; rfl
  | .fst :: p, ⟨.cons a r, x⟩, b, b', u, h => by
    show getV (DV.er ⟨a, x.1⟩) p = _
    exact er_look (v := ⟨a, x.1⟩) (p := p) h
  | .snd :: p, ⟨.cons a r, x⟩, b, b', u, h => by
    show getV (DV.er ⟨r, x.2⟩) p = _
    exact er_look (v := ⟨r, x.2⟩) (p := p) h
  | .idx n :: p, ⟨.sl true e t, x⟩, b, b', u, h => by
    simp only [lookD] at h
    split at h
    · rename_i a d hA hd
      have := er_look h
      show getV ⟨t, (x.2.map t.er).getD n t.dft⟩ p = _
      rw [getD_map t.er x.2 n t.dft hd]
      exact this
    · cases h
theorem er_cast {t t' : Ty} (h : t' = t) (d : t'.dec) : t.er (cast (congrArg Ty.dec h) d) = cast (congrArg Ty.den h) (t'.er d) := by subst h; rfl
theorem er_put : ∀ {p : Path} {v : DV} {b : Base} {b' : Base} {u n : DV}, lookD v b p = some (b', u) → ∀ {v' : V}, putV v.er p n.er = some v' → ∃ w, putD v p n = some w ∧ w.er = v'
  | [], v, b, b', u, n, _, v', h => by cases h; exact ⟨n, rfl, rfl⟩
  | .fst :: p, ⟨.cons a r, x⟩, b, b', u, n, hl, v', h => by
    have h : (putV (DV.er ⟨a, x.1⟩) p n.er).map (fun v => (⟨.cons v.t r, (v.x, r.er x.2)⟩ : V)) = some v' := h
    obtain ⟨q, hq, rfl⟩ := Option.map_eq_some_iff.1 h
    obtain ⟨w, hw, rfl⟩ := er_put (v := ⟨a, x.1⟩) (p := p) hl hq
    exact ⟨⟨.cons w.t r, (w.d, x.2)⟩, by simp only [putD, hw, Option.map_some], rfl⟩
  | .snd :: p, ⟨.cons a r, x⟩, b, b', u, n, hl, v', h => by
    have h : (putV (DV.er ⟨r, x.2⟩) p n.er).map (fun v => (⟨.cons a v.t, (a.er x.1, v.x)⟩ : V)) = some v' := h
    obtain ⟨q, hq, rfl⟩ := Option.map_eq_some_iff.1 h
    obtain ⟨w, hw, rfl⟩ := er_put (v := ⟨r, x.2⟩) (p := p) hl hq
    exact ⟨⟨.cons a w.t, (x.1, w.d)⟩, by simp only [putD, hw, Option.map_some], rfl⟩
  | .idx k :: p, ⟨.sl true e t, x⟩, b, b', u, n, hl, v', h => by
    simp only [lookD] at hl
    split at hl
    · rename_i A d hA hd
      have h : (putV ⟨t, (x.2.map t.er).getD k t.dft⟩ p n.er).bind (fun v => if h : v.t = t then some (⟨.sl true e t, (x.2.map t.er).set k (cast (congrArg Ty.den h) v.x)⟩ : V) else none) = some v' := h
      rw [getD_map t.er x.2 k t.dft hd] at h
      obtain ⟨q, hq, h⟩ := Option.bind_eq_some_iff.1 h
      obtain ⟨w, hw, rfl⟩ := er_put hl hq
      split at h
      · rename_i ht
        cases h
        have ht : w.t = t := ht
        refine ⟨⟨.sl true e t, (x.1, x.2.set k (cast (congrArg Ty.dec ht) w.d))⟩, ?_, ?_⟩
        · simp only [putD, hd, hw, Option.bind_some, dif_pos ht]
        · simp only [DV.er, Ty.er, List.map_set, er_cast ht]
      · cases h
    · cases hl

theorem foot_cast {t t' : Ty} (h : t' = t) (d : t'.dec) : t.foot (cast (congrArg Ty.dec h) d) = t'.foot d := by subst h; rfl
theorem cs_cast {t t' : Ty} (h : t' = t) (d : t'.dec) : t.cs (cast (congrArg Ty.dec h) d) = t'.cs d := by subst h; rfl
theorem OK_cast {w : World} {Sh : Nat → Prop} {t t' : Ty} (h : t' = t) (d : t'.dec) : Ty.OK w Sh t (cast (congrArg Ty.dec h) d) ↔ Ty.OK w Sh t' d := by subst h; exact Iff.rfl
theorem flatMap_set {α β : Type} (f : α → List β) : ∀ (l : List α) (n : Nat) {a : α} (_ : l[n]? = some a), ∃ L1 L2, l.flatMap f = L1 ++ f a ++ L2 ∧ ∀ y, (l.set n y).flatMap f = L1 ++ f y ++ L2
  | [], _, _, h => by cases h
  | x :: l, 0, a, h => by cases h; exact ⟨[], l.flatMap f, by simp, fun y => by simp⟩
  | x :: l, n + 1, a, h => by
    obtain ⟨L1, L2, h1, h2⟩ := flatMap_set f l n (a := a) (by simpa using h)
    exact ⟨f x ++ L1, L2, by simp [h1], fun y => by simp [h2 y]⟩
/-- The blocks of the whole are those about the place, and the place's. -/
theorem foot_put : ∀ {p : Path} {v : DV} {b : Base} {b' : Base} {u : DV}, lookD v b p = some (b', u) → ∃ L1 L2, v.foot = L1 ++ u.foot ++ L2 ∧ ∀ n v', putD v p n = some v' → v'.foot = L1 ++ n.foot ++ L2
  | [], v, b, b', u, h => by cases h; exact ⟨[], [], by simp, fun n v' h => by cases h; simp⟩
  | .fst :: p, ⟨.cons a r, x⟩, b, b', u, h => by
    obtain ⟨L1, L2, h1, h2⟩ := foot_put (v := ⟨a, x.1⟩) (p := p) h
    refine ⟨L1, L2 ++ r.foot x.2, ?_, fun n v' h => ?_⟩
    · show a.foot x.1 ++ r.foot x.2 = _
      rw [show a.foot x.1 = _ from h1]; simp
    · obtain ⟨q, hq, rfl⟩ := Option.map_eq_some_iff.1 (h : (putD ⟨a, x.1⟩ p n).map _ = some v')
      show q.t.foot q.d ++ r.foot x.2 = _
      rw [show q.t.foot q.d = _ from h2 n q hq]; simp
  | .snd :: p, ⟨.cons a r, x⟩, b, b', u, h => by
    obtain ⟨L1, L2, h1, h2⟩ := foot_put (v := ⟨r, x.2⟩) (p := p) h
    refine ⟨a.foot x.1 ++ L1, L2, ?_, fun n v' h => ?_⟩
    · show a.foot x.1 ++ r.foot x.2 = _
      rw [show r.foot x.2 = _ from h1]; simp
    · obtain ⟨q, hq, rfl⟩ := Option.map_eq_some_iff.1 (h : (putD ⟨r, x.2⟩ p n).map _ = some v')
      show a.foot x.1 ++ q.t.foot q.d = _
      rw [show q.t.foot q.d = _ from h2 n q hq]; simp
  | .idx k :: p, ⟨.sl true e t, x⟩, b, b', u, h => by
    simp only [lookD] at h
    split at h
    · rename_i A d hA hd
      obtain ⟨L1, L2, h1, h2⟩ := foot_put h
      obtain ⟨M1, M2, m1, m2⟩ := flatMap_set t.foot x.2 k hd
      refine ⟨(x.1.1.map (·.block)).toList ++ M1 ++ L1, L2 ++ M2, ?_, fun n v' h => ?_⟩
      · show (x.1.1.map (·.block)).toList ++ x.2.flatMap t.foot = _
        rw [m1, show t.foot d = _ from h1]; simp
      · simp only [putD, hd] at h
        obtain ⟨q, hq, h⟩ := Option.bind_eq_some_iff.1 h
        split at h
        · rename_i ht
          cases h
          show (x.1.1.map (·.block)).toList ++ (x.2.set k _).flatMap t.foot = _
          rw [m2, foot_cast ht, show q.t.foot q.d = _ from h2 n q hq]; simp
        · cases h
    · cases h

/-- The cells from o on in block b say v. -/
def Loc (w : World) (b o : Nat) (v : DV) : Prop := ∃ row e, Row w b row e ∧ ∀ j u, v.cs[j]? = some u → row[o + j]? = some u
/-- What becomes of block b: the places from o on say n; no other place has turned. -/
def Turned (w w' : World) (b o sz : Nat) (n : DV) : Prop := ∀ row e, Row w b row e → ∃ row' : Array Value, Row w' b row' e ∧ row'.size = row.size ∧
  (∀ j, j < o ∨ o + sz ≤ j → row'[j]? = row[j]?) ∧ ∀ j u, n.cs[j]? = some u → row'[o + j]? = some u

theorem nodup_mid {α : Type} {A B C : List α} (h : (A ++ B ++ C).Nodup) : B.Nodup := (List.nodup_append.1 (List.nodup_append.1 h).1).2.1
theorem getElem?_set_self' {α : Type} {l : List α} {n : Nat} {a y : α} (h : l[n]? = some a) : (l.set n y)[n]? = some y := by
  rw [List.getElem?_set_self (List.getElem?_eq_some_iff.1 h).1]
theorem cells_at_append {a b : List Value} {row : Array Value} {o : Nat} : (∀ j u, (a ++ b)[j]? = some u → row[o + j]? = some u) ↔ (∀ j u, a[j]? = some u → row[o + j]? = some u) ∧ ∀ j u, b[j]? = some u → row[o + a.length + j]? = some u := by
  constructor
  · intro h
    refine ⟨fun j u hj => h j u ?_, fun j u hj => ?_⟩
    · rw [List.getElem?_append_left (List.getElem?_eq_some_iff.1 hj).1]; exact hj
    · have := h (a.length + j) u (by rw [List.getElem?_append_right (by omega)]; simpa using hj)
      rw [← this]; congr 1; omega
  · rintro ⟨h1, h2⟩ j u hj
    by_cases hlt : j < a.length
    · rw [List.getElem?_append_left hlt] at hj; exact h1 j u hj
    · rw [List.getElem?_append_right (by omega)] at hj
      have := h2 _ u hj
      rw [← this]; congr 1; omega

/-- A place lies where the whole lies, or in a block that the whole owns. -/
theorem look_block : ∀ {p : Path} {v : DV} {b : Base} {b' : Base} {u : DV}, lookD v b p = some (b', u) → ∀ k o, b' = some (k, o) → (∃ o', b = some (k, o')) ∨ k ∈ v.foot
  | [], v, b, b', u, h, k, o, hb => by cases h; exact .inl ⟨o, hb⟩
  | .fst :: p, ⟨.cons a r, x⟩, b, b', u, h, k, o, hb => by
    rcases look_block (v := ⟨a, x.1⟩) (p := p) h k o hb with h | h
    · exact .inl h
    · exact .inr (List.mem_append_left _ h)
  | .snd :: p, ⟨.cons a r, x⟩, b, b', u, h, k, o, hb => by
    rcases look_block (v := ⟨r, x.2⟩) (p := p) h k o hb with ⟨o', h⟩ | h
    · cases b with
      | none => cases h
      | some q => cases h; exact .inl ⟨_, rfl⟩
    · exact .inr (List.mem_append_right _ h)
  | .idx n :: p, ⟨.sl true e t, x⟩, b, b', u, h, k, o, hb => by
    simp only [lookD] at h
    split at h
    · rename_i A d hA hd
      rcases look_block h k o hb with ⟨o', h⟩ | h
      · cases h; exact .inr (List.mem_append_left _ (by rw [hA]; exact List.mem_singleton.2 rfl))
      · exact .inr (List.mem_append_right _ (List.mem_flatMap.2 ⟨d, List.mem_of_getElem? hd, h⟩))
    · cases h

theorem put_sz : ∀ {p : Path} {v : DV} {b b' : Base} {u n v' : DV}, lookD v b p = some (b', u) → n.t.sz = u.t.sz → putD v p n = some v' → v'.t.sz = v.t.sz
  | [], v, b, b', u, n, v', hl, hs, h => by cases hl; cases h; exact hs
  | .fst :: p, ⟨.cons a r, x⟩, b, b', u, n, v', hl, hs, h => by
    obtain ⟨q, hq, rfl⟩ := Option.map_eq_some_iff.1 (h : (putD ⟨a, x.1⟩ p n).map _ = some v')
    have := put_sz (v := ⟨a, x.1⟩) (p := p) hl hs hq
    show q.t.sz + r.sz = a.sz + r.sz
    rw [this]
  | .snd :: p, ⟨.cons a r, x⟩, b, b', u, n, v', hl, hs, h => by
    obtain ⟨q, hq, rfl⟩ := Option.map_eq_some_iff.1 (h : (putD ⟨r, x.2⟩ p n).map _ = some v')
    have := put_sz (v := ⟨r, x.2⟩) (p := p) hl hs hq
    show a.sz + q.t.sz = a.sz + r.sz
    rw [this]
  | .idx k :: p, ⟨.sl true e t, x⟩, b, b', u, n, v', hl, hs, h => by
    simp only [putD] at h
    split at h
    · obtain ⟨q, hq, h⟩ := Option.bind_eq_some_iff.1 h
      split at h
      · cases h; rfl
      · cases h
    · cases h

/-- Memory changes at a place (and in what the place owns) alone: the whole is what it was, with the new value put there. -/
theorem upd {w w' : World} {Sh Sh' : Nat → Prop} (hw : ∀ b, Sh b → w'.heap[b]? = w.heap[b]?) (hs : ∀ b, Sh b → Sh' b) :
    ∀ {p : Path} {v : DV} {b b' : Base} {u n v' : DV}, lookD v b p = some (b', u) → putD v p n = some v' → v.OK w Sh → v.foot.Nodup →
      (∀ k o, b = some (k, o) → Loc w k o v ∧ k ∉ v.foot) → n.t.sz = u.t.sz → n.OK w' Sh' →
      (∀ k, k ∈ v.foot → k ∉ u.foot → (∀ k' o', b' = some (k', o') → k ≠ k') → w'.heap[k]? = w.heap[k]?) →
      (∀ k o, b = some (k, o) → (∀ k' o', b' = some (k', o') → k ≠ k') → w'.heap[k]? = w.heap[k]?) →
      (∀ k' o', b' = some (k', o') → Turned w w' k' o' u.t.sz n) →
      v'.OK w' Sh' ∧ ∀ k o, b = some (k, o) → Turned w w' k o v.t.sz v'
  | [], v, b, b', u, n, v', hl, hp, hok, hnd, hb, hz, hn, h1, h2, h3 => by
    cases hl; cases hp
    exact ⟨hn, h3⟩
  | .fst :: p, ⟨.cons a r, x⟩, b, b', u, n, v', hl, hp, hok, hnd, hb, hz, hn, h1, h2, h3 => by
    have hl : lookD ⟨a, x.1⟩ b p = some (b', u) := hl
    obtain ⟨q, hq, rfl⟩ := Option.map_eq_some_iff.1 (hp : (putD ⟨a, x.1⟩ p n).map _ = some v')
    have hnd : (a.foot x.1 ++ r.foot x.2).Nodup := hnd
    obtain ⟨hnd1, hnd2, hdis⟩ := List.nodup_append.1 hnd
    have hsub : ∀ k, k ∈ u.foot → k ∈ a.foot x.1 := by
      obtain ⟨L1, L2, e, _⟩ := foot_put hl
      intro k hk; rw [show a.foot x.1 = _ from e]; simp [hk]
    have hblk := look_block hl
    obtain ⟨i1, i2⟩ := upd (v := ⟨a, x.1⟩) hw hs hl hq hok.1 hnd1 (fun k o hk => by
        obtain ⟨⟨row, e, hrow, hc⟩, hni⟩ := hb k o hk
        exact ⟨⟨row, e, hrow, (cells_at_append.1 hc).1⟩, fun hm => hni (List.mem_append_left _ hm)⟩) hz hn
      (fun k hk => h1 k (List.mem_append_left _ hk)) h2 h3
    refine ⟨⟨i1, Ty.OK_frame hw hs (fun k hk => h1 k (List.mem_append_right _ hk) (fun hk' => hdis k (hsub k hk') k hk rfl) (fun k' o' hb' he => ?_)) hok.2⟩, fun k o hk => ?_⟩
    · subst he
      rcases hblk k o' hb' with ⟨o2, ho2⟩ | hm
      · exact (hb k o2 ho2).2 (List.mem_append_right _ hk)
      · exact hdis k hm k hk rfl
    · intro row e hrow
      obtain ⟨row', hr', hsz, ho, hin⟩ := i2 k o hk row e hrow
      obtain ⟨⟨row0, e0, hrow0, hc⟩, _⟩ := hb k o hk
      obtain ⟨rfl, rfl⟩ := hrow.uniq hrow0
      have hc2 := (cells_at_append.1 (show ∀ j u, (a.cs x.1 ++ r.cs x.2)[j]? = some u → row[o + j]? = some u from hc)).2
      have hqs : q.t.sz = a.sz := put_sz hl hz hq
      refine ⟨row', hr', hsz, fun j hj => ho j ?_, ?_⟩
      · rcases hj with hj | hj
        · exact .inl hj
        · exact .inr (by show o + a.sz ≤ j; have : o + (a.sz + r.sz) ≤ j := hj; omega)
      · show ∀ j u, (q.t.cs q.d ++ r.cs x.2)[j]? = some u → row'[o + j]? = some u
        refine cells_at_append.2 ⟨hin, fun j u hj => ?_⟩
        rw [Ty.cs_len, hqs, ho _ (.inr (by show o + a.sz ≤ _; omega))]
        have := hc2 j u hj
        rwa [Ty.cs_len] at this
  | .snd :: p, ⟨.cons a r, x⟩, b, b', u, n, v', hl, hp, hok, hnd, hb, hz, hn, h1, h2, h3 => by
    have hl : lookD ⟨r, x.2⟩ (Base.up b a.sz) p = some (b', u) := hl
    obtain ⟨q, hq, rfl⟩ := Option.map_eq_some_iff.1 (hp : (putD ⟨r, x.2⟩ p n).map _ = some v')
    have hnd : (a.foot x.1 ++ r.foot x.2).Nodup := hnd
    obtain ⟨hnd1, hnd2, hdis⟩ := List.nodup_append.1 hnd
    have hsub : ∀ k, k ∈ u.foot → k ∈ r.foot x.2 := by
      obtain ⟨L1, L2, e, _⟩ := foot_put hl
      intro k hk; rw [show r.foot x.2 = _ from e]; simp [hk]
    have hblk := look_block hl
    obtain ⟨i1, i2⟩ := upd (v := ⟨r, x.2⟩) hw hs hl hq hok.2 hnd2 (fun k o hk => by
        cases b with
        | none => cases hk
        | some z =>
          obtain ⟨k0, o0⟩ := z
          have hk : some (k0, o0 + a.sz) = some (k, o) := hk
          simp only [Option.some.injEq, Prod.mk.injEq] at hk
          obtain ⟨rfl, rfl⟩ := hk
          obtain ⟨⟨row, e, hrow, hc⟩, hni⟩ := hb k0 o0 rfl
          refine ⟨⟨row, e, hrow, ?_⟩, fun hm => hni (List.mem_append_right _ hm)⟩
          have := (cells_at_append.1 (show ∀ j u, (a.cs x.1 ++ r.cs x.2)[j]? = some u → row[o0 + j]? = some u from hc)).2
          rwa [Ty.cs_len] at this) hz hn
      (fun k hk => h1 k (List.mem_append_right _ hk)) (fun k o hk => by
        cases b with
        | none => cases hk
        | some z =>
          obtain ⟨k0, o0⟩ := z
          have hk : some (k0, o0 + a.sz) = some (k, o) := hk
          simp only [Option.some.injEq, Prod.mk.injEq] at hk
          obtain ⟨rfl, rfl⟩ := hk
          exact h2 k0 o0 rfl) h3
    refine ⟨⟨Ty.OK_frame hw hs (fun k hk => h1 k (List.mem_append_left _ hk) (fun hk' => hdis k hk k (hsub k hk') rfl) (fun k' o' hb' he => ?_)) hok.1, i1⟩, fun k o hk => ?_⟩
    · subst he
      rcases hblk k o' hb' with ⟨o2, ho2⟩ | hm
      · cases b with
        | none => cases ho2
        | some z =>
          obtain ⟨k0, o0⟩ := z
          have ho2 : some (k0, o0 + a.sz) = some (k, o2) := ho2
          simp only [Option.some.injEq, Prod.mk.injEq] at ho2
          obtain ⟨rfl, rfl⟩ := ho2
          exact (hb k0 o0 rfl).2 (List.mem_append_left _ hk)
      · exact hdis k hk k hm rfl
    · intro row e hrow
      obtain ⟨row', hr', hsz, ho, hin⟩ := i2 k (o + a.sz) (by rw [hk]; rfl) row e hrow
      obtain ⟨⟨row0, e0, hrow0, hc⟩, _⟩ := hb k o hk
      obtain ⟨rfl, rfl⟩ := hrow.uniq hrow0
      have hc1 := (cells_at_append.1 (show ∀ j u, (a.cs x.1 ++ r.cs x.2)[j]? = some u → row[o + j]? = some u from hc)).1
      refine ⟨row', hr', hsz, fun j hj => ho j ?_, ?_⟩
      · rcases hj with hj | hj
        · exact .inl (by omega)
        · exact .inr (by show o + a.sz + r.sz ≤ j; have : o + (a.sz + r.sz) ≤ j := hj; omega)
      · show ∀ j u, (a.cs x.1 ++ q.t.cs q.d)[j]? = some u → row'[o + j]? = some u
        refine cells_at_append.2 ⟨fun j u hj => ?_, by rw [Ty.cs_len]; exact hin⟩
        have hj' : j < a.sz := by rw [← Ty.cs_len a x.1]; exact (List.getElem?_eq_some_iff.1 hj).1
        rw [ho _ (.inl (by omega))]
        exact hc1 j u hj
  | .idx i :: p, ⟨.sl true e t, x⟩, b, b', u, n, v', hl, hp, hok, hnd, hb, hz, hn, h1, h2, h3 => by
    simp only [lookD] at hl
    split at hl
    case h_2 => cases hl
    rename_i A d hA hd
    simp only [putD, hd] at hp
    obtain ⟨q, hq, hp⟩ := Option.bind_eq_some_iff.1 hp
    split at hp
    case isFalse => cases hp
    rename_i ht
    cases hp
    rcases hok with ⟨hn1, hn2⟩ | ⟨B, O, row, hB, hrow, hlen, hmax, hfit, hel⟩
    · rw [hn1] at hA; cases hA
    have hAB : A = ⟨B, O, none⟩ := by rw [hA] at hB; exact Option.some.inj hB
    subst hAB
    have hnd : ((x.1.1.map (·.block)).toList ++ x.2.flatMap t.foot).Nodup := hnd
    rw [hA] at hnd
    have hnd : (B :: x.2.flatMap t.foot).Nodup := hnd
    obtain ⟨hBn, hnd2⟩ := List.nodup_cons.1 hnd
    obtain ⟨M1, M2, m1, m2⟩ := flatMap_set t.foot x.2 i hd
    have hndd : (t.foot d).Nodup := nodup_mid (m1 ▸ hnd2)
    have hsub : ∀ k, k ∈ u.foot → k ∈ t.foot d := by
      obtain ⟨L1, L2, e, _⟩ := foot_put hl
      intro k hk; rw [show t.foot d = _ from e]; simp [hk]
    have hdf : ∀ k, k ∈ t.foot d → k ∈ x.2.flatMap t.foot := fun k hk => List.mem_flatMap.2 ⟨d, List.mem_of_getElem? hd, hk⟩
    have hfv : ∀ k, k ∈ x.2.flatMap t.foot → k ∈ DV.foot ⟨.sl true e t, x⟩ := fun k hk => List.mem_append_right _ hk
    have hBv : B ∈ DV.foot ⟨.sl true e t, x⟩ := List.mem_append_left _ (by rw [hA]; exact List.mem_singleton.2 rfl)
    have hblk := look_block hl
    obtain ⟨hokd, hcd⟩ := hel i d hd
    obtain ⟨i1, i2⟩ := upd (v := ⟨t, d⟩) hw hs hl hq hokd hndd (fun k o hk => by
        cases hk
        exact ⟨⟨row, e, hrow, hcd⟩, fun hm => hBn (hdf _ hm)⟩) hz hn
      (fun k hk => h1 k (hfv k (hdf k hk))) (fun k o hk hne => by cases hk; exact h1 B hBv (fun hm => hBn (hdf _ (hsub _ hm))) hne) h3
    obtain ⟨row', hr', hrs, hro, hri⟩ := i2 B _ rfl row e hrow
    have hqs : q.t.sz = t.sz := by rw [ht]
    have hother : ∀ (k : Nat), (∀ k' o', b' = some (k', o') → k ∉ x.2.flatMap t.foot → k ≠ B → k ≠ k') := by
      intro k k' o' hb' hk hkB he
      subst he
      rcases hblk k o' hb' with ⟨o2, ho2⟩ | hm
      · cases ho2; exact hkB rfl
      · exact hk (hdf _ hm)
    refine ⟨.inr ⟨B, O, row', hB, hr', by simpa using hlen, hmax, by rw [hrs]; exact hfit, fun j dj hj => ?_⟩, fun k o hk => ?_⟩
    · replace hj : (x.2.set i (cast (congrArg Ty.dec ht) q.d))[j]? = some dj := hj
      by_cases hij : i = j
      · subst hij
        rw [getElem?_set_self' hd] at hj
        cases hj
        exact ⟨(OK_cast ht q.d).2 i1, by rw [cs_cast ht]; exact hri⟩
      · rw [List.getElem?_set_ne hij] at hj
        obtain ⟨o1, o2⟩ := hel j dj hj
        have hfoot : ∀ k, k ∈ t.foot dj → k ∉ t.foot d := by
          intro k hk hk'
          have : (x.2.flatMap t.foot).Nodup := hnd2
          exact absurd rfl ((List.pairwise_flatMap.1 (by
            rw [List.Nodup] at this; exact this)).2 |> fun hpw => by
              have hjl := (List.getElem?_eq_some_iff.1 hj)
              have hil := (List.getElem?_eq_some_iff.1 hd)
              obtain ⟨hj1, hj2⟩ := hjl
              obtain ⟨hi1, hi2⟩ := hil
              rcases Nat.lt_or_gt_of_ne hij with hlt | hlt
              · have := (List.pairwise_iff_getElem.1 hpw) i j hi1 hj1 hlt
                exact this k (hi2 ▸ hk') k (hj2 ▸ hk)
              · have := (List.pairwise_iff_getElem.1 hpw) j i hj1 hi1 hlt
                exact this k (hj2 ▸ hk) k (hi2 ▸ hk'))
        have hmem : ∀ k, k ∈ t.foot dj → k ∈ x.2.flatMap t.foot := fun k hk => List.mem_flatMap.2 ⟨dj, List.mem_of_getElem? hj, hk⟩
        refine ⟨Ty.OK_frame hw hs (fun k hk => h1 k (hfv k (hmem k hk)) (fun hu => hfoot k hk (hsub k hu)) (fun k' o' hb' he => ?_)) o1, fun jj uu hjj => ?_⟩
        · subst he
          rcases hblk k o' hb' with ⟨o2, ho2⟩ | hm
          · cases ho2; exact hBn (hmem _ hk)
          · exact hfoot k hk hm
        · have hjs : jj < t.sz := by rw [← Ty.cs_len t dj]; exact (List.getElem?_eq_some_iff.1 hjj).1
          rw [hro]
          · exact o2 jj uu hjj
          · show _ < O + i * t.sz ∨ O + i * t.sz + t.sz ≤ _
            rcases Nat.lt_or_gt_of_ne hij with hlt | hlt
            · right
              have : (i + 1) * t.sz ≤ j * t.sz := Nat.mul_le_mul_right _ hlt
              rw [Nat.add_mul, Nat.one_mul] at this; omega
            · left
              have : (j + 1) * t.sz ≤ i * t.sz := Nat.mul_le_mul_right _ hlt
              rw [Nat.add_mul, Nat.one_mul] at this; omega
    · obtain ⟨⟨row0, e0, hrow0, hc⟩, hni⟩ := hb k o hk
      have hkB : k ≠ B := fun he => hni (he ▸ hBv)
      have hkf : k ∉ x.2.flatMap t.foot := fun hm => hni (hfv k hm)
      have hsame := h2 k o hk (fun k' o' hb' => hother k k' o' hb' hkf hkB)
      intro row1 e1 hrow1
      obtain ⟨rfl, rfl⟩ := hrow0.uniq hrow1
      refine ⟨row0, hrow0.frame hsame, rfl, fun _ _ => rfl, fun j uu hj => hc j uu ?_⟩
      show [Value.slice x.1.1 x.2.length x.1.2][j]? = some uu
      have hj : [Value.slice x.1.1 (x.2.set i (cast (congrArg Ty.dec ht) q.d)).length x.1.2][j]? = some uu := hj
      rwa [List.length_set] at hj
end Go.Proofs.YtipaepbmdooekaaGreatDoor.Vm

/- What the slots of a frame hold, as far as it is told; the values that a call owns; how both stand to the machine's frame and memory. -/
namespace Go.Proofs.YtipaepbmdooekaaGreatDoor.Vm
open Go Go.RowKit
set_option linter.unusedVariables false

structure TRow where
  ty : Ty
  bytes : Nat
  fs : List TypeId
abbrev Tab := TypeId → Option TRow

inductive AV where
  | any
  | sh (t : Ty) (x : t.den)
  | nilsl
  | al (id : Nat) (p : Path) (s : Nat) (t : Ty)
  | cut (id : Nat) (p : Path) (s : Nat) (t : Ty) (lo n : Nat)
  | nilf
  | consf (a b : AV)
  | ptr (id : Nat) (p : Path) (s : Nat)
  | sptr (t : Ty) (x : t.den)
  | fn (f : FuncId) (c : AV)
  | tup (c : AV)

/-- A value that the call owns: in a block of its own, or held by slots. log: what was written since (how deep, and whether slices were turned), the newest first. org: the parameter whose cells it was made of. -/
structure Root where
  v : V
  blk : Bool
  log : List (Nat × Bool)
  org : Option Nat
  /-- the parameter that points to it -/
  pin : Option Nat
def bad (m : Nat) (ho : Bool) (e : Nat × Bool) : Bool := (e.2 || !ho) && Nat.blt e.1 m
def since (log : List (Nat × Bool)) (s m : Nat) (ho : Bool) : Bool := (log.take (log.length - s)).all fun e => !bad m ho e

structure St where
  tmps : Nat → AV
  roots : Nat → Option Root
def upt {α : Type} (f : Nat → α) (i : Nat) (a : α) : Nat → α := fun j => bif Nat.beq j i then a else f j
theorem upt_same {α : Type} (f : Nat → α) (i : Nat) (a : α) : upt f i a i = a := by simp [upt]
theorem nbeq {i j : Nat} (h : j ≠ i) : Nat.beq j i = false := by
  cases hb : Nat.beq j i with
  | false => rfl
  | true => exact absurd (Nat.eq_of_beq_eq_true hb) h
theorem upt_ne {α : Type} (f : Nat → α) {i j : Nat} (a : α) (h : j ≠ i) : upt f i a j = f j := by rw [upt, nbeq h]; rfl
theorem upt_comm {α : Type} (f : Nat → α) {i j : Nat} (a b : α) (h : i ≠ j) : upt (upt f i a) j b = upt (upt f j b) i a := by
  funext k
  by_cases h1 : k = i
  · subst h1; rw [upt_ne _ _ h, upt_same, upt_same]
  · rw [upt_ne (upt f j b) _ h1]
    by_cases h2 : k = j
    · subst h2; rw [upt_same, upt_same]
    · rw [upt_ne _ _ h2, upt_ne _ _ h2, upt_ne _ _ h1]

/-- A root's places: its decorated value, and its block. c0: the cells that it was made of. -/
structure DRoot where
  dv : DV
  b : Option Nat
  c0 : List Value
def DRoot.base (d : DRoot) : Base := d.b.map fun k => (k, 0)
def DRoot.foot (d : DRoot) : List Nat := d.b.toList ++ d.dv.foot

section
variable (w : World) (Sh : Nat → Prop) (R : Nat → Option Root) (D : Nat → DRoot)
/-- The cells of what a slot holds. -/
def AVC : AV → List Value → Prop
  | .any, _ => False
  | .sh t x, cs => Ty.RR w Sh t x cs
  | .nilsl, cs => cs = [.slice none 0 0]
  | .al id p s t, cs => t.flat = false ∧ ∃ r, R id = some r ∧ s ≤ r.log.length ∧ (since r.log s (depth p + 1) (!t.agg) = true → ∃ b u, lookD (D id).dv (D id).base p = some (b, u) ∧ u.t = t ∧ cs = u.cs)
  | .cut id p s t lo n, cs => ∃ r, R id = some r ∧ s ≤ r.log.length ∧ (since r.log s (depth p + 1) true = true → ∃ b e te A c ds, t = .sl true e te ∧ lookD (D id).dv (D id).base p = some (b, ⟨.sl true e te, ((A, c), ds)⟩) ∧ lo + n ≤ ds.length ∧
      ∃ A', cs = [.slice A' n (c - lo)] ∧ (n = 0 ∨ ∃ k o, A = some ⟨k, o, none⟩ ∧ A' = some ⟨k, o + lo * te.sz, none⟩) ∧ A' = (if c = lo then A else A.map (·.add (lo * te.sz))))
  | .nilf, cs => cs = []
  | .consf a b, cs => ∃ c0 c1, cs = c0 ++ c1 ∧ AVC a c0 ∧ AVC b c1
  | .ptr id p s, cs => ∃ v, cs = [v] ∧ ∃ r, R id = some r ∧ s ≤ r.log.length ∧ (since r.log s (depth p) true = true → ∃ k o u, lookD (D id).dv (D id).base p = some (some (k, o), u) ∧ v = .pointer (some ⟨k, o, none⟩))
  | .sptr t x, cs => ∃ b o cc, cs = [.pointer (some ⟨b, o, none⟩)] ∧ Sh b ∧ Ty.RR w Sh t x cc ∧ ∀ j v, cc[j]? = some v → w.cell? ⟨b, o + j, none⟩ = some v
  | .fn f c, cs => ∃ cc, cs = [.func (.func f) #[] cc.toArray] ∧ AVC c cc
  | .tup _, _ => False
def AV.agg : AV → Bool
  | .sh t _ => t.agg
  | .al _ _ _ t => t.agg
  | .nilf => true
  | .consf _ _ => true
  | _ => false
def mkw (g : Bool) (cs : List Value) : Value := if g then .agg cs.toArray else cs.headD undef
def AVS (a : AV) (v : Value) : Prop := ∃ cs, AVC w Sh R D a cs ∧ v = mkw a.agg cs
def AVL : AV → List Value → Prop
  | .nilf, vs => vs = []
  | .consf a b, vs => ∃ v vs', vs = v :: vs' ∧ AVS w Sh R D a v ∧ AVL b vs'
  | _, _ => False
def AVR : AV → Value → Prop
  | .any, _ => True
  | .tup c, v => ∃ vs, v = .tuple vs.toArray ∧ AVL w Sh R D c vs
  | a, v => AVS w Sh R D a v
end

structure Ctx where
  P : Program
  w0 : World
  M : Nat → Prop
  Sh0 : Nat → Prop
  n : Nat
  /-- the cells of the parameters that are handed back -/
  pc : Nat → List Value
  /-- the blocks of the variables that parameters point to -/
  pb : Nat → Nat
  pin : Pin w0
  pinS : ∀ b, pinB b = true → Sh0 b ∧ ¬ M b

structure RRel (w : World) (Sh : Nat → Prop) (C : Ctx) (r : Root) (d : DRoot) : Prop where
  er : d.dv.er = r.v
  ok : d.dv.OK w Sh
  blk : d.b.isSome = r.blk
  loc : ∀ k, d.b = some k → Loc w k 0 d.dv
  nd : d.foot.Nodup
  /-- its cells are those that it was made of, if none of them was written -/
  top : since r.log 0 1 false = true → d.dv.cs = d.c0
  org : ∀ i, r.org = some i → d.c0 = C.pc i
  pin : ∀ i, r.pin = some i → d.b = some (C.pb i)

structure Rel (C : Ctx) (st : St) (D : Nat → DRoot) (Sh : Nat → Prop) (a : Act) (w : World) : Prop where
  os : w.os = C.w0.os
  tape : w.tape = C.w0.tape
  output : w.output = C.w0.output
  hsz : C.w0.heap.size ≤ w.heap.size
  block : ∀ b, b < C.w0.heap.size → ¬ C.M b → w.heap[b]? = C.w0.heap[b]?
  sh0 : ∀ b, C.Sh0 b → Sh b
  shn : ∀ b, Sh b → (C.Sh0 b ∨ C.w0.heap.size ≤ b ∨ C.M b) ∧ b < w.heap.size
  root : ∀ id r, st.roots id = some r → RRel w Sh C r (D id)
  dis : ∀ i j r r', i ≠ j → st.roots i = some r → st.roots j = some r' → ∀ b ∈ (D i).foot, b ∉ (D j).foot
  fresh : ∀ id r, st.roots id = some r → ∀ b ∈ (D id).foot, ¬ Sh b ∧ b < w.heap.size ∧ (C.w0.heap.size ≤ b ∨ C.M b)
  tmp : ∀ t, AVR w Sh st.roots D (st.tmps t) (a.tmps.getD t undef)
  size : a.tmps.size = C.n
  defers : a.defers = []

theorem since_append {pre log : List (Nat × Bool)} {s m : Nat} {ho : Bool} (h : s ≤ log.length) : since (pre ++ log) s m ho = (pre.all (fun e => !bad m ho e) && since log s m ho) := by
  unfold since
  rw [List.length_append, show pre.length + log.length - s = pre.length + (log.length - s) by omega, List.take_length_add_append, List.all_append]

/-- What a slot holds stays told while memory and the roots turn as the conditions say. -/
structure Keeps (w w' : World) (Sh Sh' : Nat → Prop) (R R' : Nat → Option Root) (D D' : Nat → DRoot) : Prop where
  sh : ∀ b, Sh b → w'.heap[b]? = w.heap[b]?
  shm : ∀ b, Sh b → Sh' b
  root : ∀ id r, R id = some r → ∃ r' pre, R' id = some r' ∧ r'.log = pre ++ r.log ∧
    (∀ p t, t.flat = false → pre.all (fun e => !bad (depth p + 1) (!t.agg) e) = true → ∀ b u, lookD (D id).dv (D id).base p = some (b, u) → u.t = t → ∃ b' u', lookD (D' id).dv (D' id).base p = some (b', u') ∧ u'.t = t ∧ u'.cs = u.cs) ∧
    (∀ p, pre.all (fun e => !bad (depth p) true e) = true → ∀ k o u, lookD (D id).dv (D id).base p = some (some (k, o), u) → ∃ u', lookD (D' id).dv (D' id).base p = some (some (k, o), u'))

section
variable {w w' : World} {Sh Sh' : Nat → Prop} {R R' : Nat → Option Root} {D D' : Nat → DRoot}
theorem Keeps.avc (K : Keeps w w' Sh Sh' R R' D D') : ∀ {a : AV} {cs : List Value}, AVC w Sh R D a cs → AVC w' Sh' R' D' a cs
  | .any, _, h => h
  | .sh t x, _, h => Ty.RR_mono K.sh K.shm h
  | .nilsl, _, h => h
  | .al id p s t, cs, h => by
    obtain ⟨hf, r, hr, hs, h⟩ := h
    obtain ⟨r', pre, hr', hlog, k1, k2⟩ := K.root id r hr
    refine ⟨hf, r', hr', by rw [hlog, List.length_append]; omega, fun hs' => ?_⟩
    rw [hlog, since_append hs, Bool.and_eq_true] at hs'
    obtain ⟨b, u, hl, ht, rfl⟩ := h hs'.2
    obtain ⟨b', u', hl', ht', hc⟩ := k1 p t hf hs'.1 b u hl ht
    exact ⟨b', u', hl', ht', hc.symm⟩
  | .cut id p s t lo n, cs, h => by
    obtain ⟨r, hr, hs, h⟩ := h
    obtain ⟨r', pre, hr', hlog, k1, k2⟩ := K.root id r hr
    refine ⟨r', hr', by rw [hlog, List.length_append]; omega, fun hs' => ?_⟩
    rw [hlog, since_append hs, Bool.and_eq_true] at hs'
    obtain ⟨b, e, te, A, c, ds, ht, hl, hlen, A', hcs, hA⟩ := h hs'.2
    obtain ⟨b', ⟨t', d'⟩, hl', ht', hc⟩ := k1 p (.sl true e te) rfl hs'.1 b _ hl rfl
    cases ht'
    obtain ⟨⟨A2, c2⟩, ds2⟩ := d'
    have hc : [Value.slice A2 ds2.length c2] = [Value.slice A ds.length c] := hc
    simp only [List.cons.injEq, Value.slice.injEq, and_true] at hc
    obtain ⟨rfl, hl2, rfl⟩ := hc
    exact ⟨b', e, te, A2, c2, ds2, ht, hl', by omega, A', hcs, hA⟩
  | .nilf, _, h => h
  | .consf a b, cs, h => by
    obtain ⟨c0, c1, rfl, h0, h1⟩ := h
    exact ⟨c0, c1, rfl, K.avc h0, K.avc h1⟩
  | .ptr id p s, cs, h => by
    obtain ⟨v, rfl, r, hr, hs, h⟩ := h
    obtain ⟨r', pre, hr', hlog, k1, k2⟩ := K.root id r hr
    refine ⟨v, rfl, r', hr', by rw [hlog, List.length_append]; omega, fun hs' => ?_⟩
    rw [hlog, since_append hs, Bool.and_eq_true] at hs'
    obtain ⟨k, o, u, hl, rfl⟩ := h hs'.2
    obtain ⟨u', hl'⟩ := k2 p hs'.1 k o u hl
    exact ⟨k, o, u', hl', rfl⟩
  | .sptr t x, cs, h => by
    obtain ⟨b, o, cc, rfl, hb, hR, hc⟩ := h
    exact ⟨b, o, cc, rfl, K.shm b hb, Ty.RR_mono K.sh K.shm hR, fun j v hv => (Ty.cell_same (K.sh b hb) _).trans (hc j v hv)⟩
  | .fn f c, cs, h => by
    obtain ⟨cc, rfl, hc⟩ := h
    exact ⟨cc, rfl, K.avc hc⟩
  | .tup _, _, h => h
theorem Keeps.avs (K : Keeps w w' Sh Sh' R R' D D') {a : AV} {v : Value} (h : AVS w Sh R D a v) : AVS w' Sh' R' D' a v := by
  obtain ⟨cs, hc, rfl⟩ := h
  exact ⟨cs, K.avc hc, rfl⟩
theorem Keeps.avl (K : Keeps w w' Sh Sh' R R' D D') : ∀ {a : AV} {vs : List Value}, AVL w Sh R D a vs → AVL w' Sh' R' D' a vs
  | .nilf, _, h => h
  | .consf a b, _, h => by
    obtain ⟨v, vs, rfl, h0, h1⟩ := h
    exact ⟨v, vs, rfl, K.avs h0, K.avl h1⟩
  | .any, _, h | .sh _ _, _, h | .nilsl, _, h | .al _ _ _ _, _, h | .cut _ _ _ _ _ _, _, h | .ptr _ _ _, _, h | .sptr _ _, _, h | .fn _ _, _, h | .tup _, _, h => h
theorem Keeps.avr (K : Keeps w w' Sh Sh' R R' D D') {a : AV} {v : Value} (h : AVR w Sh R D a v) : AVR w' Sh' R' D' a v := by
  cases a with
  | any => trivial
  | tup c => obtain ⟨vs, hv, hl⟩ := h; exact ⟨vs, hv, K.avl hl⟩
  | sh t x => exact K.avs (a := .sh t x) h
  | nilsl => exact K.avs (a := .nilsl) h
  | al id p s t => exact K.avs (a := .al id p s t) h
  | cut id p s t lo n => exact K.avs (a := .cut id p s t lo n) h
  | nilf => exact K.avs (a := .nilf) h
  | consf a b => exact K.avs (a := .consf a b) h
  | ptr id p s => exact K.avs (a := .ptr id p s) h
  | sptr t x => exact K.avs (a := .sptr t x) h
  | fn f c => exact K.avs (a := .fn f c) h
/-- Memory has grown, nothing else. -/
theorem Keeps.grow (hw : ∀ b, Sh b → w'.heap[b]? = w.heap[b]?) : Keeps w w' Sh Sh R R D D where
  sh := hw
  shm := fun _ h => h
  root := fun id r hr => ⟨r, [], hr, rfl, fun p t _ _ b u hl ht => ⟨b, u, hl, ht, rfl⟩, fun p _ k o u hl => ⟨u, hl⟩⟩
theorem Keeps.trans {w'' : World} {Sh'' : Nat → Prop} {R'' : Nat → Option Root} {D'' : Nat → DRoot} (K : Keeps w w' Sh Sh' R R' D D') (L : Keeps w' w'' Sh' Sh'' R' R'' D' D'') : Keeps w w'' Sh Sh'' R R'' D D'' where
  sh := fun b h => (L.sh b (K.shm b h)).trans (K.sh b h)
  shm := fun b h => L.shm b (K.shm b h)
  root := fun id r hr => by
    obtain ⟨r1, p1, h1, l1, a1, b1⟩ := K.root id r hr
    obtain ⟨r2, p2, h2, l2, a2, b2⟩ := L.root id r1 h1
    refine ⟨r2, p2 ++ p1, h2, by rw [l2, l1, List.append_assoc], fun p t hf hp b u hl ht => ?_, fun p hp k o u hl => ?_⟩
    · rw [List.all_append, Bool.and_eq_true] at hp
      obtain ⟨b', u', hl', ht', hc'⟩ := a1 p t hf hp.2 b u hl ht
      obtain ⟨b'', u'', hl'', ht'', hc''⟩ := a2 p t hf hp.1 b' u' hl' ht'
      exact ⟨b'', u'', hl'', ht'', hc''.trans hc'⟩
    · rw [List.all_append, Bool.and_eq_true] at hp
      obtain ⟨u', hl'⟩ := b1 p hp.2 k o u hl
      exact b2 p hp.1 k o u' hl'
end

section
variable {C : Ctx} {st : St} {D : Nat → DRoot} {Sh : Nat → Prop} {a : Act} {w w' : World}
theorem getD_put {a : Act} {n : Nat} (hs : a.tmps.size = n) {d : Nat} (hd : d < n) (v : Value) (t : Nat) : (a.put (some d) v).tmps.getD t undef = if t = d then v else a.tmps.getD t undef := by
  subst hs
  simp only [Act.put, Array.getD_eq_getD_getElem?, Array.getElem?_setIfInBounds]
  by_cases h : t = d
  · subst h; simp [hd]
  · simp [h, Ne.symm h]
/-- A slot is written. -/
theorem Rel.put (h : Rel C st D Sh a w) {d : Nat} (hd : d < C.n) {x : AV} {v : Value} (hv : AVR w Sh st.roots D x v) : Rel C ⟨upt st.tmps d x, st.roots⟩ D Sh (a.put (some d) v) w where
  os := h.os
  tape := h.tape
  output := h.output
  hsz := h.hsz
  block := h.block
  sh0 := h.sh0
  shn := h.shn
  root := h.root
  dis := h.dis
  fresh := h.fresh
  tmp := fun t => by
    rw [getD_put h.size hd]
    by_cases e : t = d
    · subst e; rw [if_pos rfl]; show AVR w Sh st.roots D (upt st.tmps t x t) v; rw [upt_same]; exact hv
    · rw [if_neg e]; show AVR w Sh st.roots D (upt st.tmps d x t) _; rw [upt_ne _ _ e]; exact h.tmp t
  size := by simp [Act.put, h.size]
  defers := h.defers
/-- Memory has grown. -/
theorem Rel.grow (h : Rel C st D Sh a w) (ho : w'.os = w.os) (ht : w'.tape = w.tape) (hp : w'.output = w.output) (hz : w.heap.size ≤ w'.heap.size) (hb : ∀ b, b < w.heap.size → w'.heap[b]? = w.heap[b]?) : Rel C st D Sh a w' where
  os := ho.trans h.os
  tape := ht.trans h.tape
  output := hp.trans h.output
  hsz := Nat.le_trans h.hsz hz
  block := fun b hlt hm => (hb b (Nat.lt_of_lt_of_le hlt h.hsz)).trans (h.block b hlt hm)
  sh0 := h.sh0
  shn := fun b hs => ⟨(h.shn b hs).1, Nat.lt_of_lt_of_le (h.shn b hs).2 hz⟩
  root := fun id r hr => by
    have R := h.root id r hr
    have F := h.fresh id r hr
    refine ⟨R.er, Ty.OK_frame (fun b hs => hb b (h.shn b hs).2) (fun _ hs => hs) (fun b hm => hb b (F b (List.mem_append_right _ hm)).2.1) R.ok, R.blk, fun k hk => ?_, R.nd, R.top, R.org, R.pin⟩
    obtain ⟨row, e, hrow, hc⟩ := R.loc k hk
    exact ⟨row, e, hrow.frame (hb k (F k (List.mem_append_left _ (by rw [hk]; exact List.mem_singleton.2 rfl))).2.1), hc⟩
  dis := h.dis
  fresh := fun id r hr b hm => let F := h.fresh id r hr b hm; ⟨F.1, Nat.lt_of_lt_of_le F.2.1 hz, F.2.2⟩
  tmp := fun t => (Keeps.grow (fun b hs => hb b (h.shn b hs).2)).avr (h.tmp t)
  size := h.size
  defers := h.defers
theorem Rel.below (h : Rel C st D Sh a w) (hb : Below w.heap.size w w') : Rel C st D Sh a w' := h.grow hb.os hb.tape hb.output hb.size hb.block
theorem Rel.drew (h : Rel C st D Sh a w) : Rel C st D Sh a w.drew := h.grow rfl rfl rfl (Nat.le_refl _) (fun _ _ => rfl)
end
end Go.Proofs.YtipaepbmdooekaaGreatDoor.Vm

/- What a store at one place leaves of the other places; roots made, handed on, and shared. -/
namespace Go.Proofs.YtipaepbmdooekaaGreatDoor.Vm
open Go Go.RowKit
set_option linter.unusedVariables false

/-- Of one shape: a struct where a struct is, one cell where one cell is. -/
def like : Ty → Ty → Bool
  | .nil, .nil => true
  | .cons a r, .cons a' r' => like a a' && like r r'
  | .nil, _ => false
  | .cons _ _, _ => false
  | _, .nil => false
  | _, .cons _ _ => false
  | _, _ => true
theorem like_refl : ∀ t : Ty, like t t = true
  | .int _ | .bool | .str | .hole | .sl _ _ _ | .nil => rfl
  | .cons a r => by simp only [like, like_refl a, like_refl r, Bool.and_self]
theorem like_sz : ∀ {t t' : Ty}, like t t' = true → t.sz = t'.sz
  | .nil, .nil, _ => rfl
  | .cons a r, .cons a' r', h => by
    simp only [like, Bool.and_eq_true] at h
    simp only [Ty.sz, like_sz h.1, like_sz h.2]
  | .nil, .cons _ _, h => by cases h
  | .cons _ _, .nil, h => by cases h
  | .cons _ _, .int _, h | .cons _ _, .bool, h | .cons _ _, .str, h | .cons _ _, .hole, h | .cons _ _, .sl _ _ _, h => by cases h
  | .nil, .int _, h | .nil, .bool, h | .nil, .str, h | .nil, .hole, h | .nil, .sl _ _ _, h => by cases h
  | .int _, t', h | .bool, t', h | .str, t', h | .hole, t', h | .sl _ _ _, t', h => by cases t' <;> first | rfl | cases h
theorem like_agg : ∀ {t t' : Ty}, like t t' = true → t.agg = t'.agg
  | .nil, t', h => by cases t' <;> first | rfl | cases h
  | .cons a r, t', h => by cases t' <;> first | rfl | cases h
  | .int _, t', h | .bool, t', h | .str, t', h | .hole, t', h | .sl _ _ _, t', h => by cases t' <;> first | rfl | cases h

theorem flat_look : ∀ {p : Path} {v : DV} {b b' : Base} {u : DV}, v.t.flat = true → lookD v b p = some (b', u) → depth p = 0 ∧ u.t.flat = true
  | [], v, b, b', u, hf, h => by cases h; exact ⟨rfl, hf⟩
  | .fst :: p, ⟨.cons a r, x⟩, b, b', u, hf, h => by
    simp only [Ty.flat, Bool.and_eq_true] at hf
    exact flat_look (p := p) (v := ⟨a, x.1⟩) hf.1 h
  | .snd :: p, ⟨.cons a r, x⟩, b, b', u, hf, h => by
    simp only [Ty.flat, Bool.and_eq_true] at hf
    exact flat_look (p := p) (v := ⟨r, x.2⟩) hf.2 h
  | .idx i :: p, ⟨.sl true e t, x⟩, b, b', u, hf, h => by cases hf
theorem like_look : ∀ {p : Path} {v n : DV} {b b' : Base} {u : DV}, like n.t v.t = true → depth p = 0 → lookD v b p = some (b', u) → ∃ u', lookD n b p = some (b', u')
  | [], v, n, b, b', u, hl, hd, h => by cases h; exact ⟨n, rfl⟩
  | .fst :: p, ⟨.cons a r, x⟩, ⟨tn, y⟩, b, b', u, hl, hd, h => by
    cases tn with
    | cons a' r' =>
      simp only [like, Bool.and_eq_true] at hl
      exact like_look (p := p) (v := ⟨a, x.1⟩) (n := ⟨a', y.1⟩) hl.1 hd h
    | _ => cases hl
  | .snd :: p, ⟨.cons a r, x⟩, ⟨tn, y⟩, b, b', u, hl, hd, h => by
    cases tn with
    | cons a' r' =>
      simp only [like, Bool.and_eq_true] at hl
      obtain ⟨u', h'⟩ := like_look (p := p) (v := ⟨r, x.2⟩) (n := ⟨r', y.2⟩) hl.2 hd h
      refine ⟨u', ?_⟩
      show lookD ⟨r', y.2⟩ (Base.up b a'.sz) p = _
      rw [like_sz hl.1]; exact h'
    | _ => cases hl
  | .idx i :: p, v, n, b, b', u, hl, hd, h => by cases hd

theorem lookD_cast {t t' : Ty} (h : t' = t) (d : t'.dec) (b : Base) (p : Path) : lookD ⟨t, cast (congrArg Ty.dec h) d⟩ b p = lookD ⟨t', d⟩ b p := by subst h; rfl

/-- The place p behind a store at q: where it was; and what it says, where the store is deeper, or writes numbers alone. -/
def KeepAt (v v' : DV) (dq : Nat) (ff : Prop) : Prop := ∀ (p : Path) (b b' : Base) (u : DV), lookD v b p = some (b', u) →
    ((ff ∨ depth p ≤ dq) → ∃ u', lookD v' b p = some (b', u')) ∧
    ((ff ∧ u.t.agg = false ∧ u.t.flat = false ∨ depth p < dq) → ∃ u', lookD v' b p = some (b', u') ∧ u'.t = u.t ∧ u'.cs = u.cs)
theorem keep_nil {v n : DV} (hl : like n.t v.t = true) : KeepAt v n 0 (n.t.flat = true ∧ v.t.flat = true) := by
  intro p b b' u hu
  refine ⟨fun h => ?_, fun h => ?_⟩
  · have hd : depth p = 0 := by
      rcases h with h | h
      · exact (flat_look h.2 hu).1
      · exact Nat.le_zero.1 h
    exact like_look hl hd hu
  · rcases h with h | h
    · rw [(flat_look h.1.2 hu).2] at h; cases h.2.2
    · cases h
theorem keep_fst {a r : Ty} {x : (Ty.cons a r).dec} {z : DV} {dq : Nat} {ff : Prop} (hz : z.t.sz = a.sz) (K : KeepAt ⟨a, x.1⟩ z dq ff) : KeepAt ⟨.cons a r, x⟩ ⟨.cons z.t r, (z.d, x.2)⟩ dq ff := by
  intro p b b' u hu
  cases p with
  | nil =>
    cases hu
    refine ⟨fun _ => ⟨_, rfl⟩, fun h => ?_⟩
    rcases h with h | h
    · cases h.2.1
    · obtain ⟨u', h1, h2, h3⟩ := (K [] b b ⟨a, x.1⟩ rfl).2 (.inr h)
      cases h1
      refine ⟨_, rfl, ?_, ?_⟩
      · show Ty.cons z.t r = Ty.cons a r
        rw [h2]
      · show z.cs ++ r.cs x.2 = a.cs x.1 ++ r.cs x.2
        rw [h3]; rfl
  | cons s p =>
    cases s with
    | fst => exact K p b b' u hu
    | snd =>
      have : lookD ⟨.cons z.t r, (z.d, x.2)⟩ b (.snd :: p) = some (b', u) := by
        show lookD ⟨r, x.2⟩ (Base.up b z.t.sz) p = _
        rw [hz]; exact hu
      exact ⟨fun _ => ⟨u, this⟩, fun _ => ⟨u, this, rfl, rfl⟩⟩
    | idx i => cases hu
theorem keep_snd {a r : Ty} {x : (Ty.cons a r).dec} {z : DV} {dq : Nat} {ff : Prop} (K : KeepAt ⟨r, x.2⟩ z dq ff) : KeepAt ⟨.cons a r, x⟩ ⟨.cons a z.t, (x.1, z.d)⟩ dq ff := by
  intro p b b' u hu
  cases p with
  | nil =>
    cases hu
    refine ⟨fun _ => ⟨_, rfl⟩, fun h => ?_⟩
    rcases h with h | h
    · cases h.2.1
    · obtain ⟨u', h1, h2, h3⟩ := (K [] b b ⟨r, x.2⟩ rfl).2 (.inr h)
      cases h1
      refine ⟨_, rfl, ?_, ?_⟩
      · show Ty.cons a z.t = Ty.cons a r
        rw [h2]
      · show a.cs x.1 ++ z.cs = a.cs x.1 ++ r.cs x.2
        rw [h3]; rfl
  | cons s p =>
    cases s with
    | snd => exact K p _ b' u hu
    | fst =>
      have : lookD ⟨.cons a z.t, (x.1, z.d)⟩ b (.fst :: p) = some (b', u) := hu
      exact ⟨fun _ => ⟨u, this⟩, fun _ => ⟨u, this, rfl, rfl⟩⟩
    | idx i => cases hu
theorem keep_idx {e : TypeId} {t : Ty} {x : (Ty.sl true e t).dec} {j : Nat} {d : t.dec} {z : DV} {dq : Nat} {ff : Prop} (hd : x.2[j]? = some d) (ht : z.t = t) (K : KeepAt ⟨t, d⟩ z dq ff) :
    KeepAt ⟨.sl true e t, x⟩ ⟨.sl true e t, (x.1, x.2.set j (cast (congrArg Ty.dec ht) z.d))⟩ (dq + 1) ff := by
  intro p b b' u hu
  cases p with
  | nil =>
    cases hu
    have hc : DV.cs ⟨.sl true e t, (x.1, x.2.set j (cast (congrArg Ty.dec ht) z.d))⟩ = DV.cs ⟨.sl true e t, x⟩ := by
      show [Value.slice x.1.1 (x.2.set j _).length x.1.2] = [Value.slice x.1.1 x.2.length x.1.2]
      rw [List.length_set]
    exact ⟨fun _ => ⟨_, rfl⟩, fun _ => ⟨_, rfl, rfl, hc⟩⟩
  | cons s p =>
    cases s with
    | fst => cases hu
    | snd => cases hu
    | idx i =>
      cases hA : x.1.1 with
      | none => simp only [lookD, hA] at hu; cases hu
      | some A =>
        by_cases hij : j = i
        · subst hij
          have hu : lookD ⟨t, d⟩ (some (A.block, A.off + j * t.sz)) p = some (b', u) := by
            simp only [lookD, hA, hd] at hu; exact hu
          have hnew : lookD ⟨.sl true e t, (x.1, x.2.set j (cast (congrArg Ty.dec ht) z.d))⟩ b (.idx j :: p) = lookD z (some (A.block, A.off + j * t.sz)) p := by
            simp only [lookD, hA, getElem?_set_self' hd]
            exact lookD_cast ht z.d _ p
          rw [hnew]
          have IH := K p _ b' u hu
          refine ⟨fun h => IH.1 (h.imp (fun h => h) (fun h => ?_)), fun h => IH.2 (h.imp (fun h => h) (fun h => ?_))⟩
          · have h : depth p + 1 ≤ dq + 1 := h
            omega
          · have h : depth p + 1 < dq + 1 := h
            omega
        · have hnew : lookD ⟨.sl true e t, (x.1, x.2.set j (cast (congrArg Ty.dec ht) z.d))⟩ b (.idx i :: p) = some (b', u) := by
            simp only [lookD, hA, List.getElem?_set_ne hij] at hu ⊢
            exact hu
          exact ⟨fun _ => ⟨u, hnew⟩, fun _ => ⟨u, hnew, rfl, rfl⟩⟩
theorem keep_put (n : DV) : ∀ (q : Path) (v : DV) (b bq : Base) (uq v' : DV), lookD v b q = some (bq, uq) → putD v q n = some v' → like n.t uq.t = true → KeepAt v v' (depth q) (n.t.flat = true ∧ uq.t.flat = true) := by
  intro q
  induction q with
  | nil => intro v b bq uq v' hq hp hl; cases hq; cases hp; exact keep_nil hl
  | cons s q ih =>
    intro v b bq uq v' hq hp hl
    obtain ⟨t, x⟩ := v
    cases s with
    | fst =>
      cases t with
      | cons a r =>
        obtain ⟨z, hz, rfl⟩ := Option.map_eq_some_iff.1 (hp : (putD ⟨a, x.1⟩ q n).map _ = some v')
        exact keep_fst (put_sz (v := ⟨a, x.1⟩) (p := q) hq (like_sz hl) hz) (ih ⟨a, x.1⟩ b bq uq z hq hz hl)
      | _ => cases hq
    | snd =>
      cases t with
      | cons a r =>
        obtain ⟨z, hz, rfl⟩ := Option.map_eq_some_iff.1 (hp : (putD ⟨r, x.2⟩ q n).map _ = some v')
        exact keep_snd (ih ⟨r, x.2⟩ _ bq uq z hq hz hl)
      | _ => cases hq
    | idx j =>
      cases t with
      | sl o e t =>
        cases o with
        | false => cases hq
        | true =>
          simp only [lookD] at hq
          split at hq
          case h_2 => cases hq
          rename_i A d hA hd
          simp only [putD, hd] at hp
          obtain ⟨z, hz, hp⟩ := Option.bind_eq_some_iff.1 hp
          split at hp
          case isFalse => cases hp
          rename_i ht
          cases hp
          exact keep_idx hd ht (ih ⟨t, d⟩ _ bq uq z hq hz hl)
      | _ => cases hq
theorem bad1 {m : Nat} {ho : Bool} {e : Nat × Bool} (h : [e].all (fun e => !bad m ho e) = true) : (e.2 || !ho) = false ∨ m ≤ e.1 := by
  simp only [List.all_cons, List.all_nil, Bool.and_true, bad] at h
  cases h1 : (e.2 || !ho) with
  | false => exact .inl rfl
  | true =>
    right
    rw [h1, Bool.true_and] at h
    rcases Nat.lt_or_ge e.1 m with hlt | hge
    · have : Nat.blt e.1 m = true := by rw [Nat.blt_eq]; exact hlt
      rw [this] at h; cases h
    · exact hge
theorem ff_of {x y : Bool} (h : ¬ (x = true ∧ y = true)) : (!(x && y)) = true := by cases x <;> cases y <;> simp_all
/-- The slots, behind a store into one root. -/
theorem Keeps.store {w w' : World} {Sh Sh' : Nat → Prop} {R : Nat → Option Root} {D : Nat → DRoot} {id : Nat} {r r' : Root} {q : Path} {bq : Base} {uq n : DV} {dv' : DV} (d' : DRoot) (hsh : ∀ b, Sh b → w'.heap[b]? = w.heap[b]?) (hm : ∀ b, Sh b → Sh' b)
    (hr : R id = some r) (hq : lookD (D id).dv (D id).base q = some (bq, uq)) (hp : putD (D id).dv q n = some dv') (hl : like n.t uq.t = true)
    (hd : d'.dv = dv') (hb : d'.b = (D id).b) (hlog : r'.log = (depth q, !(n.t.flat && uq.t.flat)) :: r.log) : Keeps w w' Sh Sh' R (upt R id (some r')) D (upt D id d') where
  sh := hsh
  shm := hm
  root := fun i ri hri => by
    by_cases e : i = id
    · subst e
      rw [hr] at hri; cases hri
      refine ⟨r', [(depth q, !(n.t.flat && uq.t.flat))], upt_same _ _ _, hlog, fun p t hf hpre b u hu ht => ?_, fun p hpre k o u hu => ?_⟩
      · rw [upt_same]
        have hbase : d'.base = (D i).base := by rw [DRoot.base, hb]; rfl
        rw [hd, hbase]
        have h := (keep_put n q _ _ _ _ _ hq hp hl p _ _ _ hu).2 (by
          have hpre := bad1 hpre
          rw [ht]
          by_cases hff : n.t.flat = true ∧ uq.t.flat = true
          · by_cases ha : t.agg = true
            · right
              rcases hpre with hpre | hpre
              · simp [ha] at hpre
              · exact hpre
            · left; exact ⟨hff, by simpa using ha, hf⟩
          · right
            rcases hpre with hpre | hpre
            · have h2 := ff_of hff
              rw [h2] at hpre; cases hpre
            · exact hpre)
        obtain ⟨u', h1, h2, h3⟩ := h
        exact ⟨b, u', h1, h2.trans ht, h3⟩
      · rw [upt_same]
        have hbase : d'.base = (D i).base := by rw [DRoot.base, hb]; rfl
        rw [hd, hbase]
        exact (keep_put n q _ _ _ _ _ hq hp hl p _ _ _ hu).1 (by
          have hpre := bad1 hpre
          by_cases hff : n.t.flat = true ∧ uq.t.flat = true
          · exact .inl hff
          · right
            rcases hpre with hpre | hpre
            · have h2 := ff_of hff
              rw [h2] at hpre; cases hpre
            · exact hpre)
    · refine ⟨ri, [], (upt_ne _ _ e).trans hri, rfl, fun p t _ _ b u hu ht => ?_, fun p _ k o u hu => ?_⟩
      · rw [upt_ne _ _ e]; exact ⟨b, u, hu, ht, rfl⟩
      · rw [upt_ne _ _ e]; exact ⟨u, hu⟩
/-- A new root. -/
theorem Keeps.add {w w' : World} {Sh Sh' : Nat → Prop} {R : Nat → Option Root} {D : Nat → DRoot} {id : Nat} (r' : Option Root) (d' : DRoot) (hsh : ∀ b, Sh b → w'.heap[b]? = w.heap[b]?) (hm : ∀ b, Sh b → Sh' b) (hr : R id = none) :
    Keeps w w' Sh Sh' R (upt R id r') D (upt D id d') where
  sh := hsh
  shm := hm
  root := fun i ri hri => by
    have e : i ≠ id := fun e => by subst e; rw [hr] at hri; cases hri
    refine ⟨ri, [], (upt_ne _ _ e).trans hri, rfl, fun p t _ _ b u hu ht => ?_, fun p _ k o u hu => ?_⟩
    · rw [upt_ne _ _ e]; exact ⟨b, u, hu, ht, rfl⟩
    · rw [upt_ne _ _ e]; exact ⟨u, hu⟩
end Go.Proofs.YtipaepbmdooekaaGreatDoor.Vm

/- Values in hand: what is taken out of slots and roots, put together, shared. -/
namespace Go.Proofs.YtipaepbmdooekaaGreatDoor.Vm
open Go Go.RowKit
set_option linter.unusedVariables false

namespace Ty
/-- What stays where an own value was taken away: its numbers, and cells that nothing is told of. -/
def holT : Ty → Ty
  | .sl true _ _ => .hole
  | .cons a r => .cons a.holT r.holT
  | t => t
def holX : (t : Ty) → t.den → t.holT.den
  | .sl true _ _, _ => ()
  | .sl false _ _, x => x
  | .cons a r, x => (a.holX x.1, r.holX x.2)
  | .int _, x => x
  | .bool, x => x
  | .str, x => x
  | .hole, x => x
  | .nil, x => x
def holD : (t : Ty) → t.dec → t.holT.dec
  | .sl true _ _, x => (.slice x.1.1 x.2.length x.1.2 : Value)
  | .sl false _ _, x => x
  | .cons a r, x => (a.holD x.1, r.holD x.2)
  | .int _, x => x
  | .bool, x => x
  | .str, x => x
  | .hole, x => x
  | .nil, x => x
theorem hol_er : ∀ (t : Ty) (d : t.dec), t.holT.er (t.holD d) = t.holX (t.er d)
  | .sl true _ _, _ => rfl
  | .sl false _ _, _ => rfl
  | .cons a r, x => by simp only [holT, holD, holX, er, hol_er a, hol_er r]
  | .int _, _ => rfl
  | .bool, _ => rfl
  | .str, _ => rfl
  | .hole, _ => rfl
  | .nil, _ => rfl
theorem hol_cs : ∀ (t : Ty) (d : t.dec), t.holT.cs (t.holD d) = t.cs d
  | .sl true _ _, _ => rfl
  | .sl false _ _, _ => rfl
  | .cons a r, x => by simp only [holT, holD, cs, hol_cs a, hol_cs r]
  | .int _, _ => rfl
  | .bool, _ => rfl
  | .str, _ => rfl
  | .hole, _ => rfl
  | .nil, _ => rfl
theorem hol_foot : ∀ (t : Ty) (d : t.dec), t.holT.foot (t.holD d) = []
  | .sl true _ _, _ => rfl
  | .sl false _ _, _ => rfl
  | .cons a r, x => by simp only [holT, holD, foot, hol_foot a, hol_foot r]; rfl
  | .int _, _ => rfl
  | .bool, _ => rfl
  | .str, _ => rfl
  | .hole, _ => rfl
  | .nil, _ => rfl
theorem hol_ok {w : World} {Sh : Nat → Prop} : ∀ {t : Ty} {d : t.dec}, OK w Sh t d → OK w Sh t.holT (t.holD d)
  | .sl true _ _, _, _ => rfl
  | .sl false _ _, _, h => h
  | .cons a r, x, h => ⟨hol_ok h.1, hol_ok h.2⟩
  | .int _, _, _ => trivial
  | .bool, _, _ => trivial
  | .str, _, _ => trivial
  | .hole, _, h => h
  | .nil, _, _ => trivial
theorem hol_like : ∀ t : Ty, like t.holT t = true
  | .sl true _ _ => rfl
  | .sl false _ _ => rfl
  | .cons a r => by simp only [holT, like, hol_like a, hol_like r, Bool.and_self]
  | .int _ => rfl
  | .bool => rfl
  | .str => rfl
  | .hole => rfl
  | .nil => rfl
theorem flat_foot : ∀ {t : Ty} (d : t.dec), t.flat = true → t.foot d = []
  | .sl _ _ _, _, h => by cases h
  | .cons a r, x, h => by
    simp only [flat, Bool.and_eq_true] at h
    simp only [foot, flat_foot x.1 h.1, flat_foot x.2 h.2]; rfl
  | .int _, _, _ => rfl
  | .bool, _, _ => rfl
  | .str, _, _ => rfl
  | .hole, _, _ => rfl
  | .nil, _, _ => rfl
theorem plain_foot : ∀ {t : Ty} (d : t.dec), t.plain = true → t.foot d = []
  | .sl false _ _, _, _ => rfl
  | .sl true _ _, _, h => by cases h
  | .cons a r, x, h => by
    simp only [plain, Bool.and_eq_true] at h
    simp only [foot, plain_foot x.1 h.1, plain_foot x.2 h.2]; rfl
  | .int _, _, _ => rfl
  | .bool, _, _ => rfl
  | .str, _, _ => rfl
  | .hole, _, h => by cases h
  | .nil, _, _ => rfl
end Ty
def V.hol (v : V) : V := ⟨v.t.holT, v.t.holX v.x⟩
def DV.hol (v : DV) : DV := ⟨v.t.holT, v.t.holD v.d⟩
theorem DV.hol_er (v : DV) : v.hol.er = v.er.hol := congrArg (V.mk v.t.holT) (Ty.hol_er v.t v.d)
theorem DV.hol_cs (v : DV) : v.hol.cs = v.cs := Ty.hol_cs v.t v.d
theorem DV.hol_foot (v : DV) : v.hol.foot = [] := Ty.hol_foot v.t v.d

/-- A world and slots, with values in hand: each owns its blocks. -/
structure RelF (C : Ctx) (st : St) (D : Nat → DRoot) (Sh : Nat → Prop) (F : List DV) (a : Act) (w : World) : Prop where
  rel : Rel C st D Sh a w
  fok : ∀ v ∈ F, v.OK w Sh
  fnd : (F.flatMap DV.foot).Nodup
  fdis : ∀ b ∈ F.flatMap DV.foot, (∀ id r, st.roots id = some r → b ∉ (D id).foot) ∧ ¬ Sh b ∧ b < w.heap.size ∧ (C.w0.heap.size ≤ b ∨ C.M b)
theorem Rel.F {C : Ctx} {st : St} {D : Nat → DRoot} {Sh : Nat → Prop} {a : Act} {w : World} (h : Rel C st D Sh a w) : RelF C st D Sh [] a w := ⟨h, (fun _ hv => by cases hv), List.nodup_nil, (fun _ hb => by cases hb)⟩

section
variable {C : Ctx} {st : St} {D : Nat → DRoot} {Sh : Nat → Prop} {F : List DV} {a : Act} {w : World}
theorem Turned.refl_of {v u : DV} {k o sz : Nat} (h : u.cs = v.cs) (hl : Loc w k o v) : Turned w w k o sz u := by
  intro row e hrow
  obtain ⟨row0, e0, h0, hc⟩ := hl
  obtain ⟨rfl, rfl⟩ := hrow.uniq h0
  exact ⟨row, hrow, rfl, fun _ _ => rfl, by rw [h]; exact hc⟩
/-- A place of a root lies where the root says. -/
theorem look_loc {Sh : Nat → Prop} : ∀ {p : Path} {v : DV} {b b' : Base} {u : DV}, lookD v b p = some (b', u) → v.OK w Sh → (∀ k o, b = some (k, o) → Loc w k o v) → u.OK w Sh ∧ ∀ k o, b' = some (k, o) → Loc w k o u
  | [], v, b, b', u, h, ho, hl => by cases h; exact ⟨ho, hl⟩
  | .fst :: p, ⟨.cons a r, x⟩, b, b', u, h, ho, hl => by
    refine look_loc (p := p) (v := ⟨a, x.1⟩) h ho.1 (fun k o hk => ?_)
    obtain ⟨row, e, hr, hc⟩ := hl k o hk
    exact ⟨row, e, hr, (cells_at_append.1 hc).1⟩
  | .snd :: p, ⟨.cons a r, x⟩, b, b', u, h, ho, hl => by
    refine look_loc (p := p) (v := ⟨r, x.2⟩) h ho.2 (fun k o hk => ?_)
    cases b with
    | none => cases hk
    | some z =>
      obtain ⟨k0, o0⟩ := z
      have hk : some (k0, o0 + a.sz) = some (k, o) := hk
      simp only [Option.some.injEq, Prod.mk.injEq] at hk
      obtain ⟨rfl, rfl⟩ := hk
      obtain ⟨row, e, hr, hc⟩ := hl k0 o0 rfl
      refine ⟨row, e, hr, ?_⟩
      have := (cells_at_append.1 (show ∀ j u, (a.cs x.1 ++ r.cs x.2)[j]? = some u → row[o0 + j]? = some u from hc)).2
      rwa [Ty.cs_len] at this
  | .idx n :: p, ⟨.sl true e t, x⟩, b, b', u, h, ho, hl => by
    simp only [lookD] at h
    split at h
    case h_2 => cases h
    rename_i A d hA hd
    rcases ho with ⟨h1, h2⟩ | ⟨B, O, row, hB, hrow, hlen, hmax, hfit, hel⟩
    · rw [h1] at hA; cases hA
    · rw [hA] at hB; cases hB
      obtain ⟨o1, o2⟩ := hel n d hd
      exact look_loc (p := p) (v := ⟨t, d⟩) h o1 (fun k o hk => by cases hk; exact ⟨row, e, hrow, o2⟩)

theorem base_some {d : DRoot} {k o : Nat} (h : d.base = some (k, o)) : d.b = some k ∧ o = 0 := by
  unfold DRoot.base at h
  cases hb : d.b with
  | none => rw [hb] at h; cases h
  | some z => rw [hb] at h; cases h; exact ⟨rfl, rfl⟩
theorem base_of {d : DRoot} {k : Nat} (h : d.b = some k) : d.base = some (k, 0) := by rw [DRoot.base, h]; rfl
theorem mem_b {d : DRoot} {k : Nat} (h : d.b = some k) : k ∈ d.foot := List.mem_append_left _ (by rw [h]; exact List.mem_singleton.2 rfl)
theorem mem_dv {d : DRoot} {k : Nat} (h : k ∈ d.dv.foot) : k ∈ d.foot := List.mem_append_right _ h

def stolen (r : Root) (p : Path) (v v' : V) : Root := { r with v := v', log := (depth p, !(v.hol.t.flat && v.t.flat)) :: r.log }
/-- What lies at a place of a root is taken in hand. -/
theorem RelF.stealD (h : RelF C st D Sh F a w) {id : Nat} {r : Root} (hr : st.roots id = some r) {p : Path} {b : Base} {u : DV} (hl : lookD (D id).dv (D id).base p = some (b, u)) {v' : V} (hp : putV r.v p u.er.hol = some v') :
    ∃ D', (∀ j, j ≠ id → D' j = D j) ∧ Keeps w w Sh Sh st.roots (upt st.roots id (some (stolen r p u.er v'))) D D' ∧ RelF C ⟨st.tmps, upt st.roots id (some (stolen r p u.er v'))⟩ D' Sh (u :: F) a w := by
  have R := h.rel.root id r hr
  have hp' := hp
  rw [← R.er, ← DV.hol_er] at hp
  obtain ⟨dv', hd, hv⟩ := er_put hl hp
  have hlk : like u.hol.t u.t = true := Ty.hol_like u.t
  obtain ⟨L1, L2, f1, f2⟩ := foot_put hl
  have f3 := f2 _ _ hd
  rw [DV.hol_foot, List.append_nil] at f3
  have hnd : ((D id).b.toList ++ (D id).dv.foot).Nodup := R.nd
  obtain ⟨n1, n2, n3⟩ := List.nodup_append.1 hnd
  have hlook := look_loc (w := w) (Sh := Sh) hl R.ok (fun k o hk => by obtain ⟨e1, rfl⟩ := base_some hk; exact R.loc k e1)
  obtain ⟨i1, i2⟩ := upd (w := w) (w' := w) (Sh := Sh) (Sh' := Sh) (fun _ _ => rfl) (fun _ hb => hb) hl hd R.ok n2 (fun k o hk => by
      obtain ⟨e1, rfl⟩ := base_some hk
      exact ⟨R.loc k e1, fun hm => n3 k (by rw [e1]; exact List.mem_singleton.2 rfl) k hm rfl⟩) (like_sz hlk) (Ty.hol_ok hlook.1)
    (fun _ _ _ _ => rfl) (fun _ _ _ _ => rfl) (fun k o hk => Turned.refl_of (DV.hol_cs u) (hlook.2 k o hk))
  let d' : DRoot := ⟨dv', (D id).b, (D id).c0⟩
  have hfoot : ∀ b ∈ d'.foot, b ∈ (D id).foot := by
    intro b hb
    rcases List.mem_append.1 hb with hb | hb
    · exact List.mem_append_left _ hb
    · refine List.mem_append_right _ ?_
      have hb : b ∈ dv'.foot := hb
      rw [f3] at hb; rw [f1]
      rcases List.mem_append.1 hb with hb | hb
      · exact List.mem_append_left _ (List.mem_append_left _ hb)
      · exact List.mem_append_right _ hb
  have hnu : (L1 ++ u.foot ++ L2).Nodup := f1 ▸ n2
  have hnd' : d'.foot.Nodup := by
    refine List.nodup_append.2 ⟨n1, ?_, fun x hx y hy => n3 x hx y ?_⟩
    · show dv'.foot.Nodup
      rw [f3]
      have := List.nodup_append.1 hnu
      exact List.nodup_append.2 ⟨(List.nodup_append.1 this.1).1, this.2.1, fun x hx y hy => this.2.2 x (List.mem_append_left _ hx) y hy⟩
    · have hy : y ∈ dv'.foot := hy
      rw [f3] at hy; rw [f1]
      rcases List.mem_append.1 hy with hy | hy
      · exact List.mem_append_left _ (List.mem_append_left _ hy)
      · exact List.mem_append_right _ hy
  have hu_id : ∀ b ∈ u.foot, b ∈ (D id).foot := fun b hb => mem_dv (by rw [f1]; exact List.mem_append_left _ (List.mem_append_right _ hb))
  have hu_new : ∀ b ∈ u.foot, b ∉ d'.foot := by
    intro b hb hb'
    rcases List.mem_append.1 hb' with hb' | hb'
    · exact n3 b hb' b (by rw [f1]; exact List.mem_append_left _ (List.mem_append_right _ hb)) rfl
    · have hb' : b ∈ dv'.foot := hb'
      rw [f3] at hb'
      have := List.nodup_append.1 hnu
      rcases List.mem_append.1 hb' with hb' | hb'
      · exact (List.nodup_append.1 this.1).2.2 b hb' b hb rfl
      · exact this.2.2 b (List.mem_append_right _ hb) b hb' rfl
  have K : Keeps w w Sh Sh st.roots (upt st.roots id (some (stolen r p u.er v'))) D (upt D id d') :=
    Keeps.store (q := p) (uq := u) (n := u.hol) d' (fun _ _ => rfl) (fun _ hb => hb) hr hl hd hlk rfl rfl rfl
  refine ⟨upt D id d', fun j hj => upt_ne _ _ hj, K, ⟨⟨h.rel.os, h.rel.tape, h.rel.output, h.rel.hsz, h.rel.block, h.rel.sh0, h.rel.shn, ?_, ?_, ?_, fun t => K.avr (h.rel.tmp t), h.rel.size, h.rel.defers⟩, ?_, ?_, ?_⟩⟩
  · intro i ri hi
    by_cases e : i = id
    · subst e
      have hi : upt st.roots i (some (stolen r p u.er v')) i = some ri := hi
      rw [upt_same] at hi; cases hi
      rw [upt_same]
      refine ⟨hv, i1, R.blk, fun k hk => ?_, hnd', fun hs => ?_, R.org, R.pin⟩
      · obtain ⟨row, e, hrow, hc⟩ := R.loc k hk
        obtain ⟨row', hr', _, _, hin⟩ := i2 k 0 (base_of hk) row e hrow
        exact ⟨row', e, hr', hin⟩
      · have hs : since ([(depth p, !(u.er.hol.t.flat && u.er.t.flat))] ++ r.log) 0 1 false = true := hs
        rw [since_append (Nat.zero_le _), Bool.and_eq_true] at hs
        rcases bad1 hs.1 with hb | hb
        · simp at hb
        · have hk := (keep_put u.hol p _ _ _ _ _ hl hd hlk [] none none _ rfl).2 (.inr (by show 0 < depth p; have hb : 1 ≤ depth p := hb; omega))
          obtain ⟨u', h1, _, h3⟩ := hk
          cases h1
          exact h3.trans (R.top hs.2)
    · have hi : upt st.roots id (some (stolen r p u.er v')) i = some ri := hi
      rw [upt_ne _ _ e] at hi ⊢
      exact h.rel.root i ri hi
  · intro i j ri rj hij hi0 hj0 b hb
    have hi : upt st.roots id (some (stolen r p u.er v')) i = some ri := hi0
    have hj : upt st.roots id (some (stolen r p u.er v')) j = some rj := hj0
    clear hi0 hj0
    by_cases ei : i = id
    · subst ei
      rw [upt_same] at hb
      rw [upt_ne _ _ (Ne.symm hij)] at hj ⊢
      exact h.rel.dis i j r rj hij hr hj b (hfoot b hb)
    · rw [upt_ne _ _ ei] at hi hb
      by_cases ej : j = id
      · subst ej
        rw [upt_same]
        exact fun hb' => h.rel.dis i j ri r hij hi hr b hb (hfoot b hb')
      · rw [upt_ne _ _ ej] at hj ⊢
        exact h.rel.dis i j ri rj hij hi hj b hb
  · intro i ri hi0 b hb
    have hi : upt st.roots id (some (stolen r p u.er v')) i = some ri := hi0
    clear hi0
    by_cases ei : i = id
    · subst ei
      rw [upt_same] at hb
      exact h.rel.fresh i r hr b (hfoot b hb)
    · rw [upt_ne _ _ ei] at hi hb
      exact h.rel.fresh i ri hi b hb
  · intro v hv
    rcases List.mem_cons.1 hv with rfl | hv
    · exact hlook.1
    · exact h.fok v hv
  · show (u.foot ++ F.flatMap DV.foot).Nodup
    refine List.nodup_append.2 ⟨nodup_mid hnu, h.fnd, fun x hx y hy e => ?_⟩
    subst e
    exact (h.fdis x hy).1 id r hr (hu_id x hx)
  · intro b hb
    rcases List.mem_append.1 (show b ∈ u.foot ++ F.flatMap DV.foot from hb) with hb | hb
    · refine ⟨fun i ri hi => ?_, h.rel.fresh id r hr b (hu_id b hb)⟩
      have hi : upt st.roots id (some (stolen r p u.er v')) i = some ri := hi
      by_cases ei : i = id
      · subst ei; rw [upt_same]; exact hu_new b hb
      · rw [upt_ne _ _ ei] at hi ⊢
        exact h.rel.dis id i r ri (Ne.symm ei) hr hi b (hu_id b hb)
    · obtain ⟨g1, g2⟩ := h.fdis b hb
      refine ⟨fun i ri hi => ?_, g2⟩
      have hi : upt st.roots id (some (stolen r p u.er v')) i = some ri := hi
      by_cases ei : i = id
      · subst ei; rw [upt_same]; exact fun hm => g1 i r hr (hfoot b hm)
      · rw [upt_ne _ _ ei] at hi ⊢
        exact g1 i ri hi
theorem RelF.steal (h : RelF C st D Sh F a w) {id : Nat} {r : Root} (hr : st.roots id = some r) {p : Path} {b : Base} {u : DV} (hl : lookD (D id).dv (D id).base p = some (b, u)) {v' : V} (hp : putV r.v p u.er.hol = some v') :
    ∃ D', Keeps w w Sh Sh st.roots (upt st.roots id (some (stolen r p u.er v'))) D D' ∧ RelF C ⟨st.tmps, upt st.roots id (some (stolen r p u.er v'))⟩ D' Sh (u :: F) a w := by
  obtain ⟨D', _, h2⟩ := h.stealD hr hl hp
  exact ⟨D', h2⟩
/-- A value that owns nothing. -/
theorem RelF.free (h : RelF C st D Sh F a w) {v : DV} (hv : v.OK w Sh) (hf : v.foot = []) : RelF C st D Sh (v :: F) a w where
  rel := h.rel
  fok := fun u hu => by
    rcases List.mem_cons.1 hu with rfl | hu
    · exact hv
    · exact h.fok u hu
  fnd := by show (v.foot ++ F.flatMap DV.foot).Nodup; rw [hf]; exact h.fnd
  fdis := fun b hb => h.fdis b (by have hb : b ∈ v.foot ++ F.flatMap DV.foot := hb; rw [hf] at hb; exact hb)
/-- Two in line. -/
theorem RelF.join {v u : DV} (h : RelF C st D Sh (u :: v :: F) a w) : RelF C st D Sh (⟨.cons v.t u.t, (v.d, u.d)⟩ :: F) a w := by
  have e : ((⟨.cons v.t u.t, (v.d, u.d)⟩ : DV) :: F).flatMap DV.foot = (v.foot ++ u.foot) ++ F.flatMap DV.foot := rfl
  have e' : (u :: v :: F).flatMap DV.foot = u.foot ++ (v.foot ++ F.flatMap DV.foot) := rfl
  have hn := h.fnd
  rw [e'] at hn
  have hm : ∀ b, b ∈ (v.foot ++ u.foot) ++ F.flatMap DV.foot → b ∈ u.foot ++ (v.foot ++ F.flatMap DV.foot) := by
    intro b hb
    simp only [List.mem_append] at hb ⊢
    rcases hb with (hb | hb) | hb <;> simp [hb]
  refine ⟨h.rel, fun z hz => ?_, ?_, fun b hb => h.fdis b (by rw [e']; rw [e] at hb; exact hm b hb)⟩
  · rcases List.mem_cons.1 hz with rfl | hz
    · exact ⟨h.fok v (by simp), h.fok u (by simp)⟩
    · exact h.fok z (by simp [hz])
  · rw [e]
    have p1 : (u.foot ++ (v.foot ++ F.flatMap DV.foot)).Perm ((v.foot ++ u.foot) ++ F.flatMap DV.foot) := by
      rw [← List.append_assoc]
      exact List.perm_append_comm.append_right _
    exact p1.nodup_iff.1 hn
end

/-- Taking: a slot's value, as one of the shape of ty; what is own leaves its root. -/
def take : Ty → AV → (Nat → Option Root) → Option (V × (Nat → Option Root))
  | ty, .sh t x, R => bif t.plain && like t ty then some (⟨t, x⟩, R) else none
  | ty, .nilsl, R => match ty with
    | .sl _ e t => some (⟨.sl true e t.own, []⟩, R)
    | _ => none
  | ty, .al id p s t, R => match R id with
    | some r => bif Nat.ble s r.log.length && since r.log s (depth p + 1) (!t.agg) then
        match getV r.v p with
        | some v => bif like v.t ty then
            match putV r.v p v.hol with
            | some v' => some (v, upt R id (some (stolen r p v v')))
            | none => none
          else none
        | none => none
      else none
    | none => none
  | ty, .nilf, R => match ty with
    | .nil => some (⟨.nil, ()⟩, R)
    | _ => none
  | ty, .consf x y, R => match ty with
    | .cons tx ty => match take tx x R with
      | some (v, R1) => match take ty y R1 with
        | some (u, R2) => some (⟨.cons v.t u.t, (v.x, u.x)⟩, R2)
        | none => none
      | none => none
    | _ => none
  | _, _, _ => none

theorem take_ok {C : Ctx} {T : Nat → AV} {Sh : Nat → Prop} {a : Act} {w : World} : ∀ {x : AV} {ty : Ty} {R R' : Nat → Option Root} {v : V}, take ty x R = some (v, R') → ∀ {D : Nat → DRoot} {F : List DV} {cs : List Value}, RelF C ⟨T, R⟩ D Sh F a w →
    AVC w Sh R D x cs → ∃ D' u, DV.er u = v ∧ u.cs = cs ∧ like v.t ty = true ∧ x.agg = v.t.agg ∧ Keeps w w Sh Sh R R' D D' ∧ RelF C ⟨T, R'⟩ D' Sh (u :: F) a w
  | .any, ty, R, R', v, h, D, F, cs, hF, hc => by cases hc
  | .sh t x, ty, R, R', v, h, D, F, cs, hF, hc => by
    simp only [take] at h
    cases hp : (t.plain && like t ty) with
    | false => rw [hp] at h; cases h
    | true =>
      rw [hp] at h; cases h
      rw [Bool.and_eq_true] at hp
      obtain ⟨d, e1, e2, e3, e4⟩ := Ty.RR_dec hp.1 hc
      exact ⟨D, ⟨t, d⟩, by simp only [DV.er, e1], e2, hp.2, rfl, Keeps.grow (fun _ _ => rfl), hF.free e3 e4⟩
  | .nilsl, ty, R, R', v, h, D, F, cs, hF, hc => by
    cases ty with
    | sl o e t =>
      cases h; cases hc
      exact ⟨D, ⟨.sl true e t.own, ((none, 0), [])⟩, rfl, rfl, rfl, rfl, Keeps.grow (fun _ _ => rfl), hF.free (.inl ⟨rfl, rfl⟩) rfl⟩
    | _ => cases h
  | .al id p s t, ty, R, R', v, h, D, F, cs, hF, hc => by
    obtain ⟨hf, r, hr, hs, hcv⟩ := hc
    simp only [take, hr] at h
    cases hsn : (Nat.ble s r.log.length && since r.log s (depth p + 1) (!t.agg)) with
    | false => rw [hsn] at h; cases h
    | true =>
      rw [hsn] at h
      rw [Bool.and_eq_true] at hsn
      obtain ⟨b, u, hl, ht, rfl⟩ := hcv hsn.2
      have hg := er_look hl
      have her : (D id).dv.er = r.v := (hF.rel.root id r hr).er
      rw [her] at hg
      simp only [hg, cond_true] at h
      cases hk : like u.er.t ty with
      | false => rw [hk] at h; cases h
      | true =>
        rw [hk] at h
        cases hpv : putV r.v p u.er.hol with
        | none => simp only [hpv] at h; cases h
        | some v' =>
          simp only [hpv] at h
          cases h
          obtain ⟨D', K, hD⟩ := hF.steal hr hl hpv
          exact ⟨D', u, rfl, rfl, hk, by rw [← ht]; rfl, K, hD⟩
  | .cut _ _ _ _ _ _, ty, R, R', v, h, D, F, cs, hF, hc => by simp only [take] at h; cases h
  | .nilf, ty, R, R', v, h, D, F, cs, hF, hc => by
    cases ty with
    | nil => cases h; cases hc; exact ⟨D, ⟨.nil, ()⟩, rfl, rfl, rfl, rfl, Keeps.grow (fun _ _ => rfl), hF.free trivial rfl⟩
    | _ => cases h
  | .consf x y, ty, R, R', v, h, D, F, cs, hF, hc => by
    cases ty with
    | cons tx ty =>
      simp only [take] at h
      split at h
      case h_2 => cases h
      rename_i v1 R1 h1
      split at h
      case h_2 => cases h
      rename_i v2 R2 h2
      cases h
      obtain ⟨c0, c1, rfl, hc0, hc1⟩ := hc
      obtain ⟨D1, u1, rfl, rfl, l1, _, K1, F1⟩ := take_ok h1 hF hc0
      obtain ⟨D2, u2, rfl, rfl, l2, _, K2, F2⟩ := take_ok h2 F1 (K1.avc hc1)
      exact ⟨D2, ⟨.cons u1.t u2.t, (u1.d, u2.d)⟩, rfl, rfl, by simp only [like, l1, l2, Bool.and_self], rfl, K1.trans K2, F2.join⟩
    | _ => cases h
  | .ptr _ _ _, ty, R, R', v, h, D, F, cs, hF, hc => by simp only [take] at h; cases h
  | .sptr _ _, ty, R, R', v, h, D, F, cs, hF, hc => by simp only [take] at h; cases h
  | .fn _ _, ty, R, R', v, h, D, F, cs, hF, hc => by simp only [take] at h; cases h
  | .tup _, ty, R, R', v, h, D, F, cs, hF, hc => by simp only [take] at h; cases h
end Go.Proofs.YtipaepbmdooekaaGreatDoor.Vm

/- A value in hand becomes a root, lands in a block of its own, is stored, is shared. -/
namespace Go.Proofs.YtipaepbmdooekaaGreatDoor.Vm
open Go Go.RowKit
set_option linter.unusedVariables false

section
variable {C : Ctx} {st : St} {D : Nat → DRoot} {Sh : Nat → Prop} {F : List DV} {a : Act} {w w' : World}

/-- One root turns (or is new): it owns what it did, what was in hand, and new blocks. -/
theorem RelF.set {u : DV} (h : RelF C st D Sh (u :: F) a w) {id : Nat} {r' : Root} {d' : DRoot} (ho : w'.os = w.os) (ht : w'.tape = w.tape) (hp : w'.output = w.output) (hz : w.heap.size ≤ w'.heap.size)
    (hb : ∀ b, b < w.heap.size → (∀ r, st.roots id = some r → b ∉ (D id).foot) → w'.heap[b]? = w.heap[b]?)
    (hR : RRel w' Sh C r' d') (hf : ∀ b ∈ d'.foot, (∃ r, st.roots id = some r ∧ b ∈ (D id).foot) ∨ b ∈ u.foot ∨ (w.heap.size ≤ b ∧ b < w'.heap.size))
    (K : Keeps w w' Sh Sh st.roots (upt st.roots id (some r')) D (upt D id d')) : RelF C ⟨st.tmps, upt st.roots id (some r')⟩ (upt D id d') Sh F a w' := by
  have hu : ∀ b ∈ u.foot, b ∈ (u :: F).flatMap DV.foot := fun b hb => List.mem_append_left _ hb
  have hF : ∀ b ∈ F.flatMap DV.foot, b ∈ (u :: F).flatMap DV.foot := fun b hb => List.mem_append_right _ hb
  have huF : ∀ b ∈ u.foot, b ∉ F.flatMap DV.foot := fun b h1 h2 => (List.nodup_append.1 (show (u.foot ++ F.flatMap DV.foot).Nodup from h.fnd)).2.2 b h1 b h2 rfl
  have hother : ∀ i r, i ≠ id → st.roots i = some r → ∀ b ∈ (D i).foot, b ∉ d'.foot := by
    intro i r hi hr b hb1 hb2
    rcases hf b hb2 with ⟨r0, h0, hm⟩ | hm | hm
    · exact h.rel.dis i id r r0 hi hr h0 b hb1 hm
    · exact (h.fdis b (hu b hm)).1 i r hr hb1
    · have := (h.rel.fresh i r hr b hb1).2.1; omega
  have hkeep : ∀ i r, i ≠ id → st.roots i = some r → ∀ b ∈ (D i).foot, w'.heap[b]? = w.heap[b]? := fun i r hi hr b hm =>
    hb b (h.rel.fresh i r hr b hm).2.1 (fun r0 h0 => h.rel.dis i id r r0 hi hr h0 b hm)
  refine ⟨⟨ho.trans h.rel.os, ht.trans h.rel.tape, hp.trans h.rel.output, Nat.le_trans h.rel.hsz hz, ?_, h.rel.sh0, fun b hs => ⟨(h.rel.shn b hs).1, Nat.lt_of_lt_of_le (h.rel.shn b hs).2 hz⟩, ?_, ?_, ?_, fun t => K.avr (h.rel.tmp t), h.rel.size, h.rel.defers⟩, ?_, ?_, ?_⟩
  · intro b hlt hm
    refine (hb b (Nat.lt_of_lt_of_le hlt h.rel.hsz) (fun r hr hmem => ?_)).trans (h.rel.block b hlt hm)
    rcases (h.rel.fresh id r hr b hmem).2.2 with h1 | h1
    · omega
    · exact hm h1
  · intro i ri hi0
    have hi : upt st.roots id (some r') i = some ri := hi0
    clear hi0
    by_cases e : i = id
    · subst e
      rw [upt_same] at hi; cases hi
      rw [upt_same]; exact hR
    · rw [upt_ne _ _ e] at hi ⊢
      have R := h.rel.root i ri hi
      refine ⟨R.er, Ty.OK_frame K.sh K.shm (fun b hm => hkeep i ri e hi b (mem_dv hm)) R.ok, R.blk, fun k hk => ?_, R.nd, R.top, R.org, R.pin⟩
      obtain ⟨row, el, hrow, hc⟩ := R.loc k hk
      exact ⟨row, el, hrow.frame (hkeep i ri e hi k (mem_b hk)), hc⟩
  · intro i j ri rj hij hi0 hj0 b hb1
    have hi : upt st.roots id (some r') i = some ri := hi0
    have hj : upt st.roots id (some r') j = some rj := hj0
    clear hi0 hj0
    by_cases ei : i = id
    · subst ei
      rw [upt_same] at hb1
      rw [upt_ne _ _ (Ne.symm hij)] at hj ⊢
      exact fun hb2 => hother j rj (Ne.symm hij) hj b hb2 hb1
    · rw [upt_ne _ _ ei] at hi hb1
      by_cases ej : j = id
      · subst ej
        rw [upt_same]
        exact hother i ri ei hi b hb1
      · rw [upt_ne _ _ ej] at hj ⊢
        exact h.rel.dis i j ri rj hij hi hj b hb1
  · intro i ri hi0 b hb1
    have hi : upt st.roots id (some r') i = some ri := hi0
    clear hi0
    by_cases ei : i = id
    · subst ei
      rw [upt_same] at hb1
      rcases hf b hb1 with ⟨r0, h0, hm⟩ | hm | hm
      · obtain ⟨f1, f2, f3⟩ := h.rel.fresh i r0 h0 b hm
        exact ⟨f1, by omega, f3⟩
      · obtain ⟨f1, f2, f3⟩ := (h.fdis b (hu b hm)).2
        exact ⟨f1, by omega, f3⟩
      · refine ⟨fun hs => ?_, hm.2, .inl (Nat.le_trans h.rel.hsz hm.1)⟩
        have := (h.rel.shn b hs).2; omega
    · rw [upt_ne _ _ ei] at hi hb1
      obtain ⟨f1, f2, f3⟩ := h.rel.fresh i ri hi b hb1
      exact ⟨f1, by omega, f3⟩
  · intro v hv
    refine Ty.OK_frame K.sh K.shm (fun b hm => ?_) (h.fok v (List.mem_cons_of_mem _ hv))
    have hm' : b ∈ F.flatMap DV.foot := List.mem_flatMap.2 ⟨v, hv, hm⟩
    obtain ⟨g1, g2, g3, g4⟩ := h.fdis b (hF b hm')
    exact hb b g3 (fun r hr => g1 id r hr)
  · exact (List.nodup_append.1 (show (u.foot ++ F.flatMap DV.foot).Nodup from h.fnd)).2.1
  · intro b hm
    obtain ⟨g1, g2, g3, g4⟩ := h.fdis b (hF b hm)
    refine ⟨fun i ri hi0 => ?_, g2, by omega, g4⟩
    have hi : upt st.roots id (some r') i = some ri := hi0
    clear hi0
    by_cases ei : i = id
    · subst ei
      rw [upt_same]
      intro hb2
      rcases hf b hb2 with ⟨r0, h0, hm2⟩ | hm2 | hm2
      · exact g1 i r0 h0 hm2
      · exact huF b hm2 hm
      · omega
    · rw [upt_ne _ _ ei] at hi ⊢
      exact g1 i ri hi

theorem foot_none (u : DV) (c : List Value) : DRoot.foot ⟨u, none, c⟩ = u.foot := rfl
/-- Held by slots from now on. -/
theorem RelF.hold {u : DV} (h : RelF C st D Sh (u :: F) a w) {id : Nat} (hn : st.roots id = none) {org : Option Nat} (horg : ∀ i, org = some i → u.cs = C.pc i) :
    Keeps w w Sh Sh st.roots (upt st.roots id (some ⟨u.er, false, [], org, none⟩)) D (upt D id ⟨u, none, u.cs⟩) ∧ RelF C ⟨st.tmps, upt st.roots id (some ⟨u.er, false, [], org, none⟩)⟩ (upt D id ⟨u, none, u.cs⟩) Sh F a w := by
  have K : Keeps w w Sh Sh st.roots (upt st.roots id (some ⟨u.er, false, [], org, none⟩)) D (upt D id ⟨u, none, u.cs⟩) := Keeps.add _ _ (fun _ _ => rfl) (fun _ h => h) hn
  refine ⟨K, h.set rfl rfl rfl (Nat.le_refl _) (fun _ _ _ => rfl) ⟨rfl, h.fok u (by simp), rfl, (fun k hk => by cases hk), ?_, fun _ => rfl, horg, fun i hi => by cases hi⟩ (fun b hb => .inr (.inl ?_)) K⟩
  · rw [foot_none]; exact (List.nodup_append.1 (show (u.foot ++ F.flatMap DV.foot).Nodup from h.fnd)).1
  · rw [foot_none] at hb; exact hb
theorem al_of_hold {u : DV} {R : Nat → Option Root} {D : Nat → DRoot} {Sh : Nat → Prop} {id : Nat} {org : Option Nat} {c0 : List Value} (hf : u.t.flat = false) : AVC w Sh (upt R id (some ⟨u.er, false, [], org, none⟩)) (upt D id ⟨u, none, c0⟩) (.al id [] 0 u.t) u.cs :=
  ⟨hf, _, upt_same _ _ _, Nat.le_refl _, fun _ => ⟨none, u, by rw [upt_same]; rfl, rfl, rfl⟩⟩

theorem heap_new (w : World) (o : Obj) : (w.alloc o).heap[w.heap.size]? = some o := heap_alloc_new w o
/-- In a block of its own. -/
theorem RelF.land {u : DV} (h : RelF C st D Sh (u :: F) a w) {id : Nat} (hn : st.roots id = none) {e : TypeId} {org : Option Nat} (horg : ∀ i, org = some i → u.cs = C.pc i) :
    Keeps w (w.alloc (.cells u.cs.toArray e)) Sh Sh st.roots (upt st.roots id (some ⟨u.er, true, [], org, none⟩)) D (upt D id ⟨u, some w.heap.size, u.cs⟩) ∧
    RelF C ⟨st.tmps, upt st.roots id (some ⟨u.er, true, [], org, none⟩)⟩ (upt D id ⟨u, some w.heap.size, u.cs⟩) Sh F a (w.alloc (.cells u.cs.toArray e)) := by
  have hsh : ∀ b, Sh b → (w.alloc (.cells u.cs.toArray e)).heap[b]? = w.heap[b]? := fun b hs => Below.heap_alloc _ _ _ (h.rel.shn b hs).2
  have K : Keeps w (w.alloc (.cells u.cs.toArray e)) Sh Sh st.roots (upt st.roots id (some ⟨u.er, true, [], org, none⟩)) D (upt D id ⟨u, some w.heap.size, u.cs⟩) := Keeps.add _ _ hsh (fun _ h => h) hn
  have hul : ∀ b ∈ u.foot, b < w.heap.size := fun b hb => (h.fdis b (List.mem_append_left _ hb)).2.2.1
  refine ⟨K, h.set rfl rfl rfl (by simp) (fun b hb _ => Below.heap_alloc _ _ _ hb) ⟨rfl, Ty.OK_frame hsh (fun _ h => h) (fun b hb => Below.heap_alloc _ _ _ (hul b hb)) (h.fok u (by simp)), rfl, fun k hk => ?_, ?_, fun _ => rfl, horg, fun i hi => by cases hi⟩ (fun b hb => ?_) K⟩
  · cases hk
    exact ⟨u.cs.toArray, e, Row.new (heap_new w _), fun j v hv => by simpa using hv⟩
  · show (w.heap.size :: u.foot).Nodup
    exact List.nodup_cons.2 ⟨fun hm => Nat.lt_irrefl _ (hul _ hm), (List.nodup_append.1 (show (u.foot ++ F.flatMap DV.foot).Nodup from h.fnd)).1⟩
  · rcases List.mem_cons.1 (show b ∈ w.heap.size :: u.foot from hb) with rfl | hb
    · exact .inr (.inr ⟨Nat.le_refl _, by simp⟩)
    · exact .inr (.inl hb)
theorem ptr_of_land {u : DV} {w : World} {R : Nat → Option Root} {D : Nat → DRoot} {Sh : Nat → Prop} {id k : Nat} {org : Option Nat} {c0 : List Value} : AVC w Sh (upt R id (some ⟨u.er, true, [], org, none⟩)) (upt D id ⟨u, some k, c0⟩) (.ptr id [] 0) [.pointer (some ⟨k, 0, none⟩)] :=
  ⟨_, rfl, _, upt_same _ _ _, Nat.le_refl _, fun _ => ⟨k, 0, u, by rw [upt_same]; rfl, rfl⟩⟩

def stored (r : Root) (p : Path) (u uq v' : V) : Root := { r with v := v', log := (depth p, !(u.t.flat && uq.t.flat)) :: r.log }
/-- At a place of a root. -/
theorem RelF.storeD {u uq : DV} (h : RelF C st D Sh (u :: F) a w) {id : Nat} {r : Root} (hr : st.roots id = some r) {p : Path} {k o : Nat} (hl : lookD (D id).dv (D id).base p = some (some (k, o), uq)) (hlk : like u.t uq.t = true)
    {v' : V} (hpv : putV r.v p u.er = some v') (ho : w'.os = w.os) (ht : w'.tape = w.tape) (hp : w'.output = w.output) (hz : w'.heap.size = w.heap.size) (hb : ∀ b, b ≠ k → w'.heap[b]? = w.heap[b]?) (hT : Turned w w' k o uq.t.sz u) :
    ∃ D', (p = [] → (D' id).dv = u) ∧ Keeps w w' Sh Sh st.roots (upt st.roots id (some (stored r p u.er uq.er v'))) D D' ∧ RelF C ⟨st.tmps, upt st.roots id (some (stored r p u.er uq.er v'))⟩ D' Sh F a w' := by
  have R := h.rel.root id r hr
  have hpv2 := hpv
  rw [← R.er] at hpv2
  obtain ⟨dv', hd, hv⟩ := er_put hl hpv2
  have hnd : ((D id).b.toList ++ (D id).dv.foot).Nodup := R.nd
  obtain ⟨n1, n2, n3⟩ := List.nodup_append.1 hnd
  have hkm : k ∈ (D id).foot := by
    rcases look_block hl k o rfl with ⟨o', ho'⟩ | hm
    · exact mem_b (base_some ho').1
    · exact mem_dv hm
  have hkf := h.rel.fresh id r hr k hkm
  have hsh : ∀ b, Sh b → w'.heap[b]? = w.heap[b]? := fun b hs => hb b (fun e => hkf.1 (e ▸ hs))
  have huk : ∀ b ∈ u.foot, b ≠ k := fun b hm e => (h.fdis b (List.mem_append_left _ hm)).1 id r hr (e ▸ hkm)
  have huok : u.OK w' Sh := Ty.OK_frame hsh (fun _ h => h) (fun b hm => hb b (huk b hm)) (h.fok u (by simp))
  obtain ⟨i1, i2⟩ := upd (w := w) (w' := w') (Sh := Sh) (Sh' := Sh) hsh (fun _ hb => hb) hl hd R.ok n2 (fun k' o' hk => by
      obtain ⟨e1, rfl⟩ := base_some hk
      exact ⟨R.loc k' e1, fun hm => n3 k' (by rw [e1]; exact List.mem_singleton.2 rfl) k' hm rfl⟩) (like_sz hlk) huok
    (fun b _ _ hne => hb b (hne k o rfl)) (fun b _ _ hne => hb b (hne k o rfl)) (fun k' o' hk => by cases hk; exact hT)
  obtain ⟨L1, L2, f1, f2⟩ := foot_put hl
  have f3 := f2 _ _ hd
  let d' : DRoot := ⟨dv', (D id).b, (D id).c0⟩
  have hfoot : ∀ b ∈ d'.foot, b ∈ (D id).foot ∨ b ∈ u.foot := by
    intro b hm
    rcases List.mem_append.1 hm with hm | hm
    · exact .inl (List.mem_append_left _ hm)
    · have hm : b ∈ dv'.foot := hm
      rw [f3] at hm
      rcases List.mem_append.1 hm with hm | hm
      · rcases List.mem_append.1 hm with hm | hm
        · exact .inl (mem_dv (by rw [f1]; exact List.mem_append_left _ (List.mem_append_left _ hm)))
        · exact .inr hm
      · exact .inl (mem_dv (by rw [f1]; exact List.mem_append_right _ hm))
  have hnu : (L1 ++ uq.foot ++ L2).Nodup := f1 ▸ n2
  have hL : ∀ b, b ∈ L1 ∨ b ∈ L2 → b ∈ (D id).foot := fun b hm => mem_dv (by
    rw [f1]
    rcases hm with hm | hm
    · exact List.mem_append_left _ (List.mem_append_left _ hm)
    · exact List.mem_append_right _ hm)
  have hud : ∀ b ∈ u.foot, b ∉ (D id).foot := fun b hm => (h.fdis b (List.mem_append_left _ hm)).1 id r hr
  have hund : u.foot.Nodup := (List.nodup_append.1 (show (u.foot ++ F.flatMap DV.foot).Nodup from h.fnd)).1
  have hnd' : d'.foot.Nodup := by
    have q := List.nodup_append.1 hnu
    have q1 := List.nodup_append.1 q.1
    refine List.nodup_append.2 ⟨n1, ?_, fun x hx y hy e => ?_⟩
    · show dv'.foot.Nodup
      rw [f3]
      refine List.nodup_append.2 ⟨List.nodup_append.2 ⟨q1.1, hund, fun x hx y hy e => hud y hy (e ▸ hL x (.inl hx))⟩, q.2.1, fun x hx y hy e => ?_⟩
      rcases List.mem_append.1 hx with hx | hx
      · exact q.2.2 x (List.mem_append_left _ hx) y hy e
      · exact hud x hx (e ▸ hL y (.inr hy))
    · subst e
      have hy : x ∈ dv'.foot := hy
      rw [f3] at hy
      have hxd : x ∈ (D id).foot := List.mem_append_left _ hx
      rcases List.mem_append.1 hy with hy | hy
      · rcases List.mem_append.1 hy with hy | hy
        · exact n3 x hx x (by rw [f1]; exact List.mem_append_left _ (List.mem_append_left _ hy)) rfl
        · exact hud x hy hxd
      · exact n3 x hx x (by rw [f1]; exact List.mem_append_right _ hy) rfl
  have K : Keeps w w' Sh Sh st.roots (upt st.roots id (some (stored r p u.er uq.er v'))) D (upt D id d') :=
    Keeps.store (q := p) (uq := uq) (n := u) d' hsh (fun _ hb => hb) hr hl hd hlk rfl rfl rfl
  have h0 : p = [] → (upt D id d' id).dv = u := fun e => by
    subst e
    cases hd
    rw [upt_same]
  refine ⟨upt D id d', h0, K, h.set ho ht hp (Nat.le_of_eq hz.symm) (fun b _ hb' => hb b (fun e => hb' r hr (e ▸ hkm))) ⟨hv, i1, R.blk, fun k' hk => ?_, hnd', fun hs => ?_, R.org, R.pin⟩ (fun b hm => ?_) K⟩
  · obtain ⟨row, e, hrow, hc⟩ := R.loc k' hk
    obtain ⟨row', hr', _, _, hin⟩ := i2 k' 0 (base_of hk) row e hrow
    exact ⟨row', e, hr', hin⟩
  · have hs : since ([(depth p, !(u.er.t.flat && uq.er.t.flat))] ++ r.log) 0 1 false = true := hs
    rw [since_append (Nat.zero_le _), Bool.and_eq_true] at hs
    rcases bad1 hs.1 with hb1 | hb1
    · simp at hb1
    · have hk := (keep_put u p _ _ _ _ _ hl hd hlk [] none none _ rfl).2 (.inr (by show 0 < depth p; have hb1 : 1 ≤ depth p := hb1; omega))
      obtain ⟨u', h1, _, h3⟩ := hk
      cases h1
      exact h3.trans (R.top hs.2)
  · rcases hfoot b hm with hm | hm
    · exact .inl ⟨r, hr, hm⟩
    · exact .inr (.inl hm)
theorem RelF.store {u uq : DV} (h : RelF C st D Sh (u :: F) a w) {id : Nat} {r : Root} (hr : st.roots id = some r) {p : Path} {k o : Nat} (hl : lookD (D id).dv (D id).base p = some (some (k, o), uq)) (hlk : like u.t uq.t = true)
    {v' : V} (hpv : putV r.v p u.er = some v') (ho : w'.os = w.os) (ht : w'.tape = w.tape) (hp : w'.output = w.output) (hz : w'.heap.size = w.heap.size) (hb : ∀ b, b ≠ k → w'.heap[b]? = w.heap[b]?) (hT : Turned w w' k o uq.t.sz u) :
    ∃ D', Keeps w w' Sh Sh st.roots (upt st.roots id (some (stored r p u.er uq.er v'))) D D' ∧ RelF C ⟨st.tmps, upt st.roots id (some (stored r p u.er uq.er v'))⟩ D' Sh F a w' := by
  obtain ⟨D', _, h2⟩ := h.storeD hr hl hlk hpv ho ht hp hz hb hT
  exact ⟨D', h2⟩
/-- For all to read: its blocks are written no more. -/
theorem RelF.share {u : DV} (h : RelF C st D Sh (u :: F) a w) : ∃ Sh', (∀ b, Sh b → Sh' b) ∧ Keeps w w Sh Sh' st.roots st.roots D D ∧ Ty.RR w Sh' u.t u.er.x u.cs ∧ RelF C st D Sh' F a w := by
  let Sh' : Nat → Prop := fun b => Sh b ∨ b ∈ u.foot
  have hs : ∀ b, Sh b → Sh' b := fun b hb => .inl hb
  have huF : ∀ b ∈ u.foot, b ∈ (u :: F).flatMap DV.foot := fun b hb => List.mem_append_left _ hb
  have hFF : ∀ b ∈ F.flatMap DV.foot, b ∈ (u :: F).flatMap DV.foot := fun b hb => List.mem_append_right _ hb
  have K : Keeps w w Sh Sh' st.roots st.roots D D := ⟨fun _ _ => rfl, hs, fun id r hr => ⟨r, [], hr, rfl, fun p t _ _ b u hl ht => ⟨b, u, hl, ht, rfl⟩, fun p _ k o u hl => ⟨u, hl⟩⟩⟩
  refine ⟨Sh', hs, K, Ty.OK_RR hs (h.fok u (by simp)) (fun b hb => .inr hb), ⟨⟨h.rel.os, h.rel.tape, h.rel.output, h.rel.hsz, h.rel.block, fun b hb => .inl (h.rel.sh0 b hb), ?_, ?_, h.rel.dis, ?_, fun t => K.avr (h.rel.tmp t), h.rel.size, h.rel.defers⟩, ?_, ?_, ?_⟩⟩
  · intro b hb
    rcases hb with hb | hb
    · exact h.rel.shn b hb
    · obtain ⟨_, _, g3, g4⟩ := h.fdis b (huF b hb)
      exact ⟨g4.elim (fun h => .inr (.inl h)) (fun h => .inr (.inr h)), g3⟩
  · intro id r hr
    have R := h.rel.root id r hr
    exact ⟨R.er, Ty.OK_frame (fun _ _ => rfl) hs (fun _ _ => rfl) R.ok, R.blk, R.loc, R.nd, R.top, R.org, R.pin⟩
  · intro id r hr b hb
    obtain ⟨f1, f2⟩ := h.rel.fresh id r hr b hb
    refine ⟨fun hs => ?_, f2⟩
    rcases hs with hs | hs
    · exact f1 hs
    · exact (h.fdis b (huF b hs)).1 id r hr hb
  · exact fun v hv => Ty.OK_frame (fun _ _ => rfl) hs (fun _ _ => rfl) (h.fok v (List.mem_cons_of_mem _ hv))
  · exact (List.nodup_append.1 (show (u.foot ++ F.flatMap DV.foot).Nodup from h.fnd)).2.1
  · intro b hb
    obtain ⟨g1, g2, g3⟩ := h.fdis b (hFF b hb)
    refine ⟨g1, fun hs => ?_, g3⟩
    rcases hs with hs | hs
    · exact g2 hs
    · exact (List.nodup_append.1 (show (u.foot ++ F.flatMap DV.foot).Nodup from h.fnd)).2.2 b hs b hb rfl
/-- Dropped. -/
theorem RelF.drop {u : DV} (h : RelF C st D Sh (u :: F) a w) : RelF C st D Sh F a w :=
  ⟨h.rel, fun v hv => h.fok v (List.mem_cons_of_mem _ hv), (List.nodup_append.1 (show (u.foot ++ F.flatMap DV.foot).Nodup from h.fnd)).2.1, fun b hb => h.fdis b (List.mem_append_right _ hb)⟩
end
end Go.Proofs.YtipaepbmdooekaaGreatDoor.Vm

/- What one operation does to slots and roots, as a program that asks for roots; first the operations that only compute. -/
namespace Go.Proofs.YtipaepbmdooekaaGreatDoor.Vm
open Go Go.RowKit
set_option linter.unusedVariables false

inductive Prog (α : Type) : Type 1 where
  | ret (a : α)
  | fail
  | ask (id : Nat) (k : Option Root → Prog α)
  | test (b : Bool) (t e : Prog α)
  | use {γ : Type} (o : Option γ) (k : γ → Prog α)
namespace Prog
variable {α β : Type}
def bind : Prog α → (α → Prog β) → Prog β
  | .ret a, f => f a
  | .fail, _ => .fail
  | .ask id k, f => .ask id fun r => (k r).bind f
  | .test b t e, f => .test b (t.bind f) (e.bind f)
  | .use o k, f => .use o fun x => (k x).bind f
/-- What it answers. -/
def go (R : Nat → Option Root) : Prog α → Option α
  | .ret a => some a
  | .fail => none
  | .ask id k => (k (R id)).go R
  | .test b t e => bif b then t.go R else e.go R
  | .use o k => match o with
    | some x => (k x).go R
    | none => none
/-- Which roots it asks for. -/
def rds (R : Nat → Option Root) : Prog α → List Nat
  | .ret _ => []
  | .fail => []
  | .ask id k => id :: (k (R id)).rds R
  | .test b t e => bif b then t.rds R else e.rds R
  | .use o k => match o with
    | some x => (k x).rds R
    | none => []
/-- With what follows put behind each way. -/
def cps (R : Nat → Option Root) : Prog α → List Nat → (α → List Nat → Option β) → Option β
  | .ret a, l, f => f a l
  | .fail, _, _ => none
  | .ask id k, l, f => (k (R id)).cps R (id :: l) f
  | .test b t e, l, f => bif b then t.cps R l f else e.cps R l f
  | .use o k, l, f => match o with
    | some x => (k x).cps R l f
    | none => none
theorem cps_eq (R : Nat → Option Root) : ∀ (p : Prog α) (l : List Nat) (f : α → List Nat → Option β), p.cps R l f = match p.go R with
    | some a => f a ((p.rds R).reverse ++ l)
    | none => none
  | .ret a, l, f => rfl
  | .fail, _, _ => rfl
  | .ask id k, l, f => by
    show (k (R id)).cps R (id :: l) f = match (k (R id)).go R with
      | some a => f a ((id :: (k (R id)).rds R).reverse ++ l)
      | none => none
    rw [cps_eq R (k (R id))]
    cases (k (R id)).go R with
    | none => rfl
    | some a => simp
  | .test b t e, l, f => by
    cases b
    · exact cps_eq R e l f
    · exact cps_eq R t l f
  | .use o k, l, f => by
    cases o with
    | none => rfl
    | some x => exact cps_eq R (k x) l f
/-- It answers the same wherever the roots that it asks for are the same. -/
theorem go_congr {R R' : Nat → Option Root} : ∀ (p : Prog α), (∀ id ∈ p.rds R, R' id = R id) → p.go R' = p.go R ∧ p.rds R' = p.rds R
  | .ret a, _ => ⟨rfl, rfl⟩
  | .fail, _ => ⟨rfl, rfl⟩
  | .ask id k, h => by
    have e : R' id = R id := h id List.mem_cons_self
    have := go_congr (k (R id)) (fun i hi => h i (List.mem_cons_of_mem _ hi))
    show (k (R' id)).go R' = (k (R id)).go R ∧ id :: (k (R' id)).rds R' = id :: (k (R id)).rds R
    rw [e, this.1, this.2]; exact ⟨rfl, rfl⟩
  | .test b t e, h => by
    cases b
    · exact go_congr e h
    · exact go_congr t h
  | .use o k, h => by
    cases o with
    | none => exact ⟨rfl, rfl⟩
    | some x => exact go_congr (k x) h
theorem go_bind (R : Nat → Option Root) : ∀ (p : Prog α) (f : α → Prog β), (p.bind f).go R = match p.go R with
    | some a => (f a).go R
    | none => none
  | .ret a, f => rfl
  | .fail, _ => rfl
  | .ask id k, f => go_bind R (k (R id)) f
  | .test b t e, f => by
    cases b
    · exact go_bind R e f
    · exact go_bind R t f
  | .use o k, f => by
    cases o with
    | none => rfl
    | some x => exact go_bind R (k x) f
end Prog

abbrev Writes := List (Nat × Root)
def app : Writes → (Nat → Option Root) → Nat → Option Root
  | [], R => R
  | (i, r) :: ws, R => upt (app ws R) i (some r)
/-- An operation's outcome: what its slot holds then, and the roots that turn, the last one first. -/
structure Res where
  av : AV
  ws : Writes
def St.after (st : St) (dst : Option Tmp) (r : Res) : St := ⟨match dst with
  | some d => upt st.tmps d r.av
  | none => st.tmps, app r.ws st.roots⟩

/-- A row of no bytes tells of an array. -/
def tget : List (TypeId × TRow) → TypeId → Option TRow
  | [], _ => none
  | (i, r) :: T, t => bif Nat.beq i t && !Nat.beq r.bytes 0 then some r else tget T t
def aget : List (TypeId × TRow) → TypeId → Option TRow
  | [], _ => none
  | (i, r) :: T, t => bif Nat.beq i t && Nat.beq r.bytes 0 then some r else aget T t
def arow (T : List (TypeId × TRow)) (t : TypeId) : Option TRow := match aget T t with
  | some r => match r.fs with
    | [e] => match tget T e with
      | some _ => some r
      | none => none
    | _ => none
  | none => none

def evalC : Value → AV
  | .int k n => .sh (.int k) n
  | .bool b => .sh .bool b
  | .string s => .sh .str s
  | .slice none 0 0 => .nilsl
  | _ => .any
def evalA (T : Nat → AV) : Operand → AV
  | .tmp t => T t
  | .const v => evalC v
  | .func f => .fn f .nilf
  | .global _ => .any

/-- What becomes of the machine's operation: its outcome is as told. -/
def Sound (C : Ctx) (o : Oper) (st : St) (res : Res) : Prop := ∀ (D : Nat → DRoot) (Sh : Nat → Prop) (a : Act) (w : World) (K : Act → World → Prop) (Q : Exit → Act → World → Prop), Rel C st D Sh a w →
  (∀ D' Sh' a' w', Rel C (st.after o.dst res) D' Sh' a' w' → K a' w') → o.wp C.P a w K Q
/-- It only computes. -/
def Quiet (C : Ctx) (o : Oper) (st : St) (x : AV) : Prop := ∀ (D : Nat → DRoot) (Sh : Nat → Prop) (a : Act) (w : World), Rel C st D Sh a w → ∃ v, (execOp a.eval o).run C.P w = .ok (.value v) w ∧ AVR w Sh st.roots D x v
def dstOk (n : Nat) : Option Tmp → Bool
  | some d => Nat.blt d n
  | none => true

section
variable {C : Ctx} {st : St} {D : Nat → DRoot} {Sh : Nat → Prop} {a : Act} {w w' : World} {o : Oper}
theorem put_none (a : Act) (v : Value) : a.put none v = a := rfl
theorem Rel.set (h : Rel C st D Sh a w) {dst : Option Tmp} (hd : dstOk C.n dst = true) {x : AV} {v : Value} (hv : AVR w Sh st.roots D x v) : Rel C (st.after dst ⟨x, []⟩) D Sh (a.put dst v) w := by
  cases dst with
  | none => exact h
  | some d => exact h.put (by simpa [dstOk, Nat.blt_eq] using hd) hv
theorem wp_value {K : Act → World → Prop} {Q : Exit → Act → World → Prop} {v : Value} (h : (execOp a.eval o).run C.P w = .ok (.value v) w') (hK : K (a.put o.dst v) w') : o.wp C.P a w K Q := by
  unfold Oper.wp; rw [h]; exact hK
theorem wp_skip' {K : Act → World → Prop} {Q : Exit → Act → World → Prop} (h : (execOp a.eval o).run C.P w = .ok .skip w') (hK : K (a.put o.dst undef) w') : o.wp C.P a w K Q := by
  unfold Oper.wp; rw [h]; exact hK
/-- An operation that only computes. -/
theorem sound_quiet {x : AV} (hd : dstOk C.n o.dst = true)
    (h : ∀ (D : Nat → DRoot) (Sh : Nat → Prop) (a : Act) (w : World), Rel C st D Sh a w → ∃ v, (execOp a.eval o).run C.P w = .ok (.value v) w ∧ AVR w Sh st.roots D x v) : Sound C o st ⟨x, []⟩ := by
  intro D Sh a w K Q hR hK
  obtain ⟨v, hv, hr⟩ := h D Sh a w hR
  exact wp_value hv (hK D Sh _ _ (hR.set hd hr))

theorem avr_const (w : World) (Sh : Nat → Prop) (R : Nat → Option Root) (D : Nat → DRoot) (v : Value) : AVR w Sh R D (evalC v) v := by
  unfold evalC
  split <;> first | trivial | exact ⟨_, rfl, rfl⟩
theorem Rel.eval (h : Rel C st D Sh a w) (x : Operand) : AVR w Sh st.roots D (evalA st.tmps x) (a.eval x) := by
  cases x with
  | tmp t => exact h.tmp t
  | const v => exact avr_const w Sh _ D v
  | func f => exact ⟨_, ⟨[], rfl, rfl⟩, rfl⟩
  | global g => trivial
/-- A number, a flag, a text in a slot. -/
theorem avr_int {R : Nat → Option Root} {k : IntKind} {n : Int} {v : Value} (h : AVR w Sh R D (.sh (.int k) n) v) : v = .int k n := by
  obtain ⟨cs, hc, rfl⟩ := h; cases hc; rfl
theorem avr_bool {R : Nat → Option Root} {b : Bool} {v : Value} (h : AVR w Sh R D (.sh .bool b) v) : v = .bool b := by
  obtain ⟨cs, hc, rfl⟩ := h; cases hc; rfl
theorem avr_str {R : Nat → Option Root} {b : ByteArray} {v : Value} (h : AVR w Sh R D (.sh .str b) v) : v = .string b := by
  obtain ⟨cs, hc, rfl⟩ := h; cases hc; rfl
theorem mk_int {R : Nat → Option Root} (k : IntKind) (n : Int) : AVR w Sh R D (.sh (.int k) n) (.int k n) := ⟨_, rfl, rfl⟩
theorem mk_bool {R : Nat → Option Root} (b : Bool) : AVR w Sh R D (.sh .bool b) (.bool b) := ⟨_, rfl, rfl⟩
theorem mk_str {R : Nat → Option Root} (b : ByteArray) : AVR w Sh R D (.sh .str b) (.string b) := ⟨_, rfl, rfl⟩
end

/-! ### numbers -/
def ibits (op : BinOp) (k : IntKind) (x y : Int) : Int :=
  let a := BitVec.ofInt k.bits x
  let b := BitVec.ofInt k.bits y
  k.wrap (match op with
    | .and => a &&& b
    | .or => a ||| b
    | .xor => a ^^^ b
    | _ => a &&& ~~~b).toNat
def binInt (op : BinOp) (k : IntKind) (x y : Int) : Prog AV :=
  match op with
  | .add => .ret (.sh (.int k) (k.wrap (x + y)))
  | .sub => .ret (.sh (.int k) (k.wrap (x - y)))
  | .mul => .ret (.sh (.int k) (k.wrap (x * y)))
  | .quo => .test (y == 0) .fail (.ret (.sh (.int k) (k.wrap (x.tdiv y))))
  | .rem => .test (y == 0) .fail (.ret (.sh (.int k) (x.tmod y)))
  | .and => .ret (.sh (.int k) (ibits .and k x y))
  | .or => .ret (.sh (.int k) (ibits .or k x y))
  | .xor => .ret (.sh (.int k) (ibits .xor k x y))
  | .andNot => .ret (.sh (.int k) (ibits .andNot k x y))
  | .eql => .ret (.sh .bool (x == y))
  | .neq => .ret (.sh .bool (x != y))
  | .lss => .ret (.sh .bool (decide (x < y)))
  | .leq => .ret (.sh .bool (decide (x ≤ y)))
  | .gtr => .ret (.sh .bool (decide (x > y)))
  | .geq => .ret (.sh .bool (decide (x ≥ y)))
  | _ => .fail
def binShift (op : BinOp) (k : IntKind) (x y : Int) : Prog AV :=
  .test (decide (y < 0)) .fail (match op with
    | .shl => .ret (.sh (.int k) (k.wrap (x * 2 ^ (min y.toNat k.bits))))
    | .shr => .ret (.sh (.int k) (x.fdiv (2 ^ (min y.toNat k.bits))))
    | _ => .fail)
/-- '==' of what has no rows. -/
def eqX : (t : Ty) → t.den → t.den → Bool
  | .int _, x, y => (x : Int) == (y : Int)
  | .bool, x, y => (x : Bool) == (y : Bool)
  | .str, x, y => (x : ByteArray).toList == (y : ByteArray).toList
  | .cons a r, x, y => eqX a x.1 y.1 && eqX r x.2 y.2
  | .nil, _, _ => true
  | _, _, _ => false
def isShift : BinOp → Bool
  | .shl => true
  | .shr => true
  | _ => false
def binP (op : BinOp) (x y : AV) : Prog AV :=
  match x, y with
  | .sh (.int k) a, .sh (.int k') b => bif isShift op then binShift op k a b else bif decide (k = k') then binInt op k a b else .fail
  | .sh .bool a, .sh .bool b => match op with
    | .eql => .ret (.sh .bool ((a : Bool) == (b : Bool)))
    | .neq => .ret (.sh .bool (!((a : Bool) == (b : Bool))))
    | _ => .fail
  | .sh .str a, .sh .str b => match op with
    | .add => .test (decide ((a : ByteArray).size + (b : ByteArray).size ≤ 9223372036854775807)) (.ret (.sh .str ((a : ByteArray) ++ (b : ByteArray)))) .fail
    | .eql => .ret (.sh .bool ((a : ByteArray).toList == (b : ByteArray).toList))
    | .neq => .ret (.sh .bool (!((a : ByteArray).toList == (b : ByteArray).toList)))
    | _ => .fail
  | _, _ => .fail
def unP (op : UnOp) (x : AV) : Prog AV :=
  match op, x with
  | .neg, .sh (.int k) a => .ret (.sh (.int k) (k.wrap (0 - a)))
  | .xor, .sh (.int k) a => .ret (.sh (.int k) (ibits .xor k (if k.signed then -1 else k.max) a))
  | .not, .sh .bool b => .ret (.sh .bool (!(b : Bool)))
  | _, _ => .fail

theorem run_intOp {P : Program} {w : World} {op : BinOp} {k : IntKind} {x y : Int} {R : Nat → Option Root} {r : AV} (h : (binInt op k x y).go R = some r) {Sh : Nat → Prop} {D : Nat → DRoot} :
    ∃ v, (match op with
    | .add | .sub | .mul => Op.intArith op k x y
    | .quo | .rem => Op.intDiv op k x y
    | .and | .or | .xor | .andNot => Op.intBits op k x y
    | _ => Op.intCmp op x y : Sem Value).run P w = .ok v w ∧ AVR w Sh R D r v := by
  cases op <;> simp only [binInt, Prog.go] at h <;> try (cases h; done)
  case add => cases h; exact ⟨_, rfl, mk_int _ _⟩
  case sub => cases h; exact ⟨_, rfl, mk_int _ _⟩
  case mul => cases h; exact ⟨_, rfl, mk_int _ _⟩
  case quo =>
    cases hy : (y == 0) with
    | true => rw [hy] at h; cases h
    | false =>
      rw [hy] at h; cases h
      have : ¬ y = 0 := by simpa using hy
      exact ⟨.int k (k.wrap (x.tdiv y)), by simp [Op.intDiv, this], mk_int _ _⟩
  case rem =>
    cases hy : (y == 0) with
    | true => rw [hy] at h; cases h
    | false =>
      rw [hy] at h; cases h
      have : ¬ y = 0 := by simpa using hy
      exact ⟨.int k (x.tmod y), by simp [Op.intDiv, this], mk_int _ _⟩
  case and => cases h; exact ⟨_, rfl, mk_int _ _⟩
  case or => cases h; exact ⟨_, rfl, mk_int _ _⟩
  case xor => cases h; exact ⟨_, rfl, mk_int _ _⟩
  case andNot => cases h; exact ⟨_, rfl, mk_int _ _⟩
  case eql => cases h; exact ⟨_, rfl, mk_bool _⟩
  case neq => cases h; exact ⟨_, rfl, mk_bool _⟩
  case lss => cases h; exact ⟨_, rfl, mk_bool _⟩
  case leq => cases h; exact ⟨_, rfl, mk_bool _⟩
  case gtr => cases h; exact ⟨_, rfl, mk_bool _⟩
  case geq => cases h; exact ⟨_, rfl, mk_bool _⟩
theorem run_shiftOp {P : Program} {w : World} {op : BinOp} {k k' : IntKind} {x y : Int} {R : Nat → Option Root} {r : AV} (h : (binShift op k x y).go R = some r) {Sh : Nat → Prop} {D : Nat → DRoot} :
    ∃ v, (Op.shift op k x k' y).run P w = .ok v w ∧ AVR w Sh R D r v := by
  simp only [binShift, Prog.go] at h
  cases hy : decide (y < 0) with
  | true => rw [hy] at h; cases h
  | false =>
    rw [hy] at h
    have hn : ¬ y < 0 := by simpa using hy
    cases op <;> simp only [cond_false, Prog.go] at h <;> try (cases h; done)
    · cases h; exact ⟨.int k (k.wrap (x * 2 ^ (min y.toNat k.bits))), by simp [Op.shift, hn], mk_int _ _⟩
    · cases h; exact ⟨.int k (x.fdiv (2 ^ (min y.toNat k.bits))), by simp [Op.shift, hn], mk_int _ _⟩
theorem run_eqGuard {P : Program} {w : World} (op : BinOp) (t : TypeId) (x y : Operand) {a b : Value} (h : match a, b with
    | .nilIface, .nilIface => False
    | .agg _, .agg _ => False
    | _, _ => True) : (eqGuard op t x y a b).run P w = .ok () w := by
  cases op <;> first | rfl | (cases a <;> cases b <;> first | rfl | exact h.elim)
end Go.Proofs.YtipaepbmdooekaaGreatDoor.Vm

/- The table of types, held against the program's; reading and writing variables in memory. -/
namespace Go.Proofs.YtipaepbmdooekaaGreatDoor.Vm
open Go Go.RowKit
set_option linter.unusedVariables false

namespace Ty
def zeroC : Ty → List Value
  | .int k => [.int k 0]
  | .bool => [.bool false]
  | .str => [.string ⟨#[]⟩]
  | .hole => []
  | .sl _ _ _ => [.slice none 0 0]
  | .nil => []
  | .cons a r => a.zeroC ++ r.zeroC
def dftD : (t : Ty) → t.own.dec
  | .int _ => (0 : Int)
  | .bool => false
  | .str => (⟨#[]⟩ : ByteArray)
  | .hole => (undef : Value)
  | .sl _ _ _ => ((none, 0), [])
  | .nil => ()
  | .cons a r => (a.dftD, r.dftD)
def full : Ty → Bool
  | .hole => false
  | .cons a r => a.full && r.full
  | _ => true
theorem dftD_er : ∀ t : Ty, t.own.er t.dftD = t.own.dft
  | .int _ | .bool | .str | .hole | .sl _ _ _ | .nil => rfl
  | .cons a r => by simp only [own, dftD, er, dft, dftD_er a, dftD_er r]
theorem dftD_cs : ∀ t : Ty, t.full = true → t.own.cs t.dftD = t.zeroC
  | .int _, _ | .bool, _ | .str, _ | .sl _ _ _, _ | .nil, _ => rfl
  | .hole, h => by cases h
  | .cons a r, h => by
    simp only [full, Bool.and_eq_true] at h
    simp only [own, dftD, cs, zeroC, dftD_cs a h.1, dftD_cs r h.2]
theorem dftD_foot : ∀ t : Ty, t.own.foot t.dftD = []
  | .int _ | .bool | .str | .hole | .sl _ _ _ | .nil => rfl
  | .cons a r => by simp only [own, dftD, foot, dftD_foot a, dftD_foot r]; rfl
theorem dftD_ok (w : World) (Sh : Nat → Prop) : ∀ t : Ty, t.full = true → OK w Sh t.own t.dftD
  | .int _, _ | .bool, _ | .str, _ | .nil, _ => trivial
  | .hole, h => by cases h
  | .sl _ _ _, _ => .inl ⟨rfl, rfl⟩
  | .cons a r, h => by
    simp only [full, Bool.and_eq_true] at h
    exact ⟨dftD_ok w Sh a h.1, dftD_ok w Sh r h.2⟩
theorem own_like : ∀ t : Ty, like t.own t = true
  | .int _ | .bool | .str | .hole | .sl _ _ _ | .nil => rfl
  | .cons a r => by simp only [own, like, own_like a, own_like r, Bool.and_self]
theorem own_sz (t : Ty) : t.own.sz = t.sz := like_sz (own_like t)
theorem own_agg (t : Ty) : t.own.agg = t.agg := like_agg (own_like t)
theorem zeroC_len : ∀ t : Ty, t.full = true → t.zeroC.length = t.sz := fun t h => by rw [← dftD_cs t h, cs_len, own_sz]
end Ty

def cellEq : Value → Value → Bool
  | .int k a, .int k' b => decide (k = k') && a == b
  | .bool a, .bool b => a == b
  | .string a, .string b => Nat.beq a.size 0 && Nat.beq b.size 0
  | .slice none 0 0, .slice none 0 0 => true
  | _, _ => false
theorem cellEq_eq {a b : Value} (h : cellEq a b = true) : a = b := by
  unfold cellEq at h
  split at h
  · simp only [Bool.and_eq_true, decide_eq_true_eq, beq_iff_eq] at h
    rw [h.1, h.2]
  · rw [beq_iff_eq] at h; rw [h]
  · rename_i a b
    simp only [Bool.and_eq_true] at h
    have e : ∀ x : ByteArray, x.size = 0 → x = ⟨#[]⟩ := fun x hx => by
      cases x with | mk d => congr; exact Array.eq_empty_of_size_eq_zero hx
    rw [e a (Nat.eq_of_beq_eq_true h.1), e b (Nat.eq_of_beq_eq_true h.2)]
  · rfl
  · cases h
def cellsEq : List Value → List Value → Bool
  | [], [] => true
  | a :: l, b :: m => cellEq a b && cellsEq l m
  | _, _ => false
theorem cellsEq_eq : ∀ {l m : List Value}, cellsEq l m = true → l = m
  | [], [], _ => rfl
  | a :: l, b :: m, h => by
    simp only [cellsEq, Bool.and_eq_true] at h
    rw [cellEq_eq h.1, cellsEq_eq h.2]
  | [], _ :: _, h => by cases h
  | _ :: _, [], h => by cases h
def zeroOk (ty : Ty) : Value → Bool
  | .agg cs => ty.agg && cellsEq cs.toList ty.zeroC
  | v => !ty.agg && cellsEq [v] ty.zeroC
theorem zeroOk_eq {ty : Ty} {v : Value} (h : zeroOk ty v = true) : v = mkw ty.agg ty.zeroC := by
  unfold zeroOk at h
  split at h
  · simp only [Bool.and_eq_true] at h
    rw [mkw, h.1, if_pos rfl, ← cellsEq_eq h.2]
  · simp only [Bool.and_eq_true, Bool.not_eq_true'] at h
    rw [mkw, h.1, ← cellsEq_eq h.2]; rfl

def FldOK (T : List (TypeId × TRow)) : Nat → Ty → List TypeId → List Field → Prop
  | _, .nil, [], [] => True
  | off, .cons a r, t :: ts, f :: fs => f.type = t ∧ f.offset = off ∧ f.name ≠ "_" ∧ (∃ rf, tget T t = some rf ∧ rf.ty = a) ∧ a.sz ≠ 0 ∧ FldOK T (off + a.sz) r ts fs
  | _, _, _, _ => False
def fldCheck (T : List (TypeId × TRow)) : Nat → Ty → List TypeId → List Field → Bool
  | _, .nil, [], [] => true
  | off, .cons a r, t :: ts, f :: fs => Nat.beq f.type t && Nat.beq f.offset off && !(f.name == "_") && (match tget T t with
    | some rf => decide (rf.ty = a)
    | none => false) && !Nat.beq a.sz 0 && fldCheck T (off + a.sz) r ts fs
  | _, _, _, _ => false
theorem fldCheck_ok {T : List (TypeId × TRow)} : ∀ {off : Nat} {t : Ty} {ts : List TypeId} {fs : List Field}, fldCheck T off t ts fs = true → FldOK T off t ts fs
  | _, .nil, [], [], _ => trivial
  | off, .cons a r, t :: ts, f :: fs, h => by
    simp only [fldCheck, Bool.and_eq_true, Bool.not_eq_true'] at h
    obtain ⟨⟨⟨⟨⟨h1, h2⟩, h3⟩, h4⟩, h5⟩, h6⟩ := h
    refine ⟨Nat.eq_of_beq_eq_true h1, Nat.eq_of_beq_eq_true h2, by simpa using h3, ?_, fun e => ?_, fldCheck_ok h6⟩
    · cases ht : tget T t with
      | none => rw [ht] at h4; cases h4
      | some rf => rw [ht] at h4; exact ⟨rf, rfl, of_decide_eq_true h4⟩
    · rw [e] at h5; cases h5
  | _, .nil, _ :: _, _, h => by cases h
  | _, .nil, [], _ :: _, h => by cases h
  | _, .cons _ _, [], _, h => by cases h
  | _, .cons _ _, _ :: _, [], h => by cases h
  | _, .int _, _, _, h | _, .bool, _, _, h | _, .str, _, _, h | _, .hole, _, _, h | _, .sl _ _ _, _, _, h => by cases h

def DescOK (P : Program) (T : List (TypeId × TRow)) (t : TypeId) (r : TRow) : Prop := match r.ty with
  | .int k => P.underlying t = some (.int k)
  | .bool => P.underlying t = some .bool
  | .str => P.underlying t = some .string
  | .hole => False
  | .sl o e te => o = false ∧ P.underlying t = some (.slice e) ∧ ∃ re, tget T e = some re ∧ re.ty = te ∧ te.sz ≠ 0 ∧ te.plain = true
  | ty => ∃ fs, P.underlying t = some (.struct fs) ∧ FldOK T 0 ty r.fs fs.toList
def isArr (te : Ty) : Nat → Ty → Bool
  | 0, .nil => true
  | n + 1, .cons a r => decide (a = te) && isArr te n r
  | _, _ => false
structure ArrOK (P : Program) (T : List (TypeId × TRow)) (t : TypeId) (r : TRow) : Prop where
  full : r.ty.full = true
  zero : ∃ i, P.info? t = some i ∧ i.zero = some (mkw r.ty.agg r.ty.zeroC)
  desc : ∃ e n re, r.fs = [e] ∧ P.underlying t = some (.array n e) ∧ tget T e = some re ∧ isArr re.ty n r.ty = true
structure RowOK (P : Program) (T : List (TypeId × TRow)) (t : TypeId) (r : TRow) : Prop where
  info : ∃ i, P.info? t = some i ∧ i.size = r.ty.sz ∧ i.bytes = r.bytes ∧ i.zero = some (mkw r.ty.agg r.ty.zeroC)
  desc : DescOK P T t r
  full : r.ty.full = true
  plain : r.ty.plain = true
  nz : r.ty.sz ≠ 0
  nb : r.bytes ≠ 0
  eqs : r.ty.agg = true → P.stoodInHeld t = false ∧ P.eqGuardType P.depth t = false
  arr : ∀ t r, aget T t = some r → ArrOK P T t r
def TabOK (P : Program) (T : List (TypeId × TRow)) : Prop := ∀ t r, tget T t = some r → RowOK P T t r
def descCheck (P : Program) (T : List (TypeId × TRow)) (t : TypeId) (r : TRow) : Bool := match r.ty with
  | .int k => match P.underlying t with
    | some (.int k') => decide (k' = k)
    | _ => false
  | .bool => match P.underlying t with
    | some .bool => true
    | _ => false
  | .str => match P.underlying t with
    | some .string => true
    | _ => false
  | .hole => false
  | .sl o e te => !o && (match P.underlying t with
    | some (.slice e') => Nat.beq e' e
    | _ => false) && (match tget T e with
    | some re => decide (re.ty = te)
    | none => false) && !Nat.beq te.sz 0 && te.plain
  | ty => match P.underlying t with
    | some (.struct fs) => fldCheck T 0 ty r.fs fs.toList
    | _ => false
def rowCheck (P : Program) (T : List (TypeId × TRow)) (t : TypeId) (r : TRow) : Bool := (match P.info? t with
  | some i => Nat.beq i.size r.ty.sz && Nat.beq i.bytes r.bytes && (match i.zero with
    | some z => zeroOk r.ty z
    | none => false)
  | none => false) && descCheck P T t r && r.ty.full && r.ty.plain && !Nat.beq r.ty.sz 0 && !Nat.beq r.bytes 0 && (!r.ty.agg || (!P.stoodInHeld t && !P.eqGuardType P.depth t))
theorem descCheck_ok {P : Program} {T : List (TypeId × TRow)} {t : TypeId} {r : TRow} (h : descCheck P T t r = true) : DescOK P T t r := by
  unfold descCheck at h
  unfold DescOK
  split at h
  · split at h
    · rename_i h1 _ _ h2; rw [h2, of_decide_eq_true h]
    · cases h
  · split at h
    · assumption
    · cases h
  · split at h
    · assumption
    · cases h
  · cases h
  · rename_i o e te hty
    simp only [Bool.and_eq_true, Bool.not_eq_true'] at h
    obtain ⟨⟨⟨⟨h1, h2⟩, h3⟩, h4⟩, h5⟩ := h
    refine ⟨h1, ?_, ?_⟩
    · split at h2
      · rename_i hu; rw [hu, Nat.eq_of_beq_eq_true h2]
      · cases h2
    · cases ht : tget T e with
      | none => rw [ht] at h3; cases h3
      | some re => rw [ht] at h3; exact ⟨re, rfl, of_decide_eq_true h3, (fun e => by rw [e] at h4; cases h4), h5⟩
  · split at h
    · rename_i hu; exact ⟨_, hu, fldCheck_ok h⟩
    · cases h
theorem rowCheck_ok {P : Program} {T : List (TypeId × TRow)} {t : TypeId} {r : TRow} (hA : ∀ t r, aget T t = some r → ArrOK P T t r) (h : rowCheck P T t r = true) : RowOK P T t r := by
  unfold rowCheck at h
  simp only [Bool.and_eq_true] at h
  obtain ⟨⟨⟨⟨⟨⟨h1, h2⟩, h3⟩, h4⟩, h5⟩, h6⟩, h7⟩ := h
  refine ⟨?_, descCheck_ok h2, h3, h4, (fun e => by rw [e] at h5; cases h5), (fun e => by rw [e] at h6; cases h6), fun e => by
    rw [e] at h7
    simpa using h7, hA⟩
  cases hi : P.info? t with
  | none => rw [hi] at h1; cases h1
  | some i =>
    rw [hi] at h1
    simp only [Bool.and_eq_true] at h1
    obtain ⟨⟨a1, a2⟩, a3⟩ := h1
    refine ⟨i, rfl, Nat.eq_of_beq_eq_true a1, Nat.eq_of_beq_eq_true a2, ?_⟩
    cases hz : i.zero with
    | none => rw [hz] at a3; cases a3
    | some z => rw [hz] at a3; rw [zeroOk_eq a3]
def arrCheck (P : Program) (T : List (TypeId × TRow)) (t : TypeId) (r : TRow) : Bool := r.ty.full && (match P.info? t with
  | some i => (match i.zero with
    | some z => zeroOk r.ty z
    | none => false)
  | none => false) && (match r.fs, P.underlying t with
  | [e], some (.array n e') => Nat.beq e' e && (match tget T e with
    | some re => isArr re.ty n r.ty
    | none => false)
  | _, _ => false)
theorem arrCheck_ok {P : Program} {T : List (TypeId × TRow)} {t : TypeId} {r : TRow} (h : arrCheck P T t r = true) : ArrOK P T t r := by
  unfold arrCheck at h
  simp only [Bool.and_eq_true] at h
  obtain ⟨⟨h1, h2⟩, h3⟩ := h
  refine ⟨h1, ?_, ?_⟩
  · split at h2
    · rename_i i hi
      split at h2
      · rename_i z hz; exact ⟨i, hi, by rw [hz, zeroOk_eq h2]⟩
      · cases h2
    · cases h2
  · split at h3
    · rename_i e n e' hfs hu
      rw [Bool.and_eq_true] at h3
      have := Nat.eq_of_beq_eq_true h3.1
      subst this
      have h3 := h3.2
      split at h3
      · rename_i re hre; exact ⟨_, n, re, hfs, hu, hre, h3⟩
      · cases h3
    · cases h3
def tabGo (P : Program) (T : List (TypeId × TRow)) : List (TypeId × TRow) → Bool
  | [] => true
  | (t, r) :: l => (bif Nat.beq r.bytes 0 then arrCheck P T t r else rowCheck P T t r) && tabGo P T l
theorem tabGo_arr {P : Program} {T : List (TypeId × TRow)} : ∀ {l : List (TypeId × TRow)}, tabGo P T l = true → ∀ t r, aget l t = some r → ArrOK P T t r
  | [], _, t, r, h => by cases h
  | (i, q) :: l, hc, t, r, h => by
    simp only [tabGo, Bool.and_eq_true] at hc
    simp only [aget] at h
    cases hb : (Nat.beq i t && Nat.beq q.bytes 0) with
    | false => rw [hb] at h; exact tabGo_arr hc.2 t r h
    | true =>
      rw [hb] at h; cases h
      rw [Bool.and_eq_true] at hb
      rw [hb.2] at hc
      rw [← Nat.eq_of_beq_eq_true hb.1]; exact arrCheck_ok hc.1
theorem tabGo_row {P : Program} {T : List (TypeId × TRow)} (hA : ∀ t r, aget T t = some r → ArrOK P T t r) : ∀ {l : List (TypeId × TRow)}, tabGo P T l = true → ∀ t r, tget l t = some r → RowOK P T t r
  | [], _, t, r, h => by cases h
  | (i, q) :: l, hc, t, r, h => by
    simp only [tabGo, Bool.and_eq_true] at hc
    simp only [tget] at h
    cases hb : (Nat.beq i t && !Nat.beq q.bytes 0) with
    | false => rw [hb] at h; exact tabGo_row hA hc.2 t r h
    | true =>
      rw [hb] at h; cases h
      rw [Bool.and_eq_true, Bool.not_eq_true'] at hb
      rw [hb.2] at hc
      rw [← Nat.eq_of_beq_eq_true hb.1]; exact rowCheck_ok hA hc.1
theorem tabCheck_ok {P : Program} {T : List (TypeId × TRow)} (h : tabGo P T T = true) : TabOK P T := tabGo_row (tabGo_arr h) h

section
variable {P : Program} {T : List (TypeId × TRow)} {t : TypeId} {r : TRow} {w : World}
theorem RowOK.isAgg (h : RowOK P T t r) (w : World) : (isAgg t).run P w = .ok r.ty.agg w := by
  have d := h.desc
  unfold DescOK at d
  unfold Go.isAgg
  split at d
  · rename_i hty; simp [run_underlying d, hty, Ty.agg]
  · rename_i hty; simp [run_underlying d, hty, Ty.agg]
  · rename_i hty; simp [run_underlying d, hty, Ty.agg]
  · exact d.elim
  · rename_i hty; simp [run_underlying d.2.1, hty, Ty.agg]
  · rename_i hty
    obtain ⟨fs, hu, hf⟩ := d
    have : r.ty.agg = true := by
      cases ht : r.ty <;> first | rfl | (rw [ht] at hf; cases hfs : fs.toList <;> rw [hfs] at hf <;> cases r.fs <;> exact hf.elim)
    simp [run_underlying hu, this]
theorem RowOK.sizeOf (h : RowOK P T t r) (w : World) : (sizeOf t).run P w = .ok r.ty.sz w := by
  obtain ⟨i, hi, hs, _⟩ := h.info
  simp [Go.sizeOf, typeInfo, hi, hs]
theorem RowOK.zero (h : RowOK P T t r) (w : World) : (zeroValue t).run P w = .ok (mkw r.ty.agg r.ty.zeroC) w := by
  obtain ⟨i, hi, _, _, hz⟩ := h.info
  simp [zeroValue, typeInfo, hi, hz]
theorem add_at (k o j : Nat) : (⟨k, o, none⟩ : Addr).add j = ⟨k, o + j, none⟩ := by
  unfold Addr.add
  by_cases hj : j = 0
  · subst hj; simp
  · simp [hj]
/-- A variable is read. -/
theorem RowOK.load (h : RowOK P T t r) {k o : Nat} {cs : List Value} (hl : cs.length = r.ty.sz) (hc : ∀ j v, cs[j]? = some v → w.cell? ⟨k, o + j, none⟩ = some v) : (loadVar t ⟨k, o, none⟩).run P w = .ok (mkw r.ty.agg cs) w := by
  unfold loadVar
  simp only [Sem.run_bind, h.isAgg, Result.andThen_ok]
  cases hg : r.ty.agg with
  | true =>
    simp only [if_true, Sem.run_bind, h.sizeOf, Result.andThen_ok]
    rw [← hl, run_loadCells_list w ⟨k, o, none⟩ cs (fun j v hj => by rw [add_at]; exact hc j v hj)]
    rfl
  | false =>
    have h1 : r.ty.sz = 1 := by cases ht : r.ty <;> rw [ht] at hg <;> first | rfl | cases hg
    rw [h1] at hl
    obtain ⟨v, rfl⟩ := List.length_eq_one_iff.1 hl
    have := hc 0 v rfl
    simp only [Nat.add_zero] at this
    simp [this, mkw]
end
theorem cells_mkw {g : Bool} {cs : List Value} (h : g = false → ∃ v, cs = [v] ∧ v.oneCell' = true) : (mkw g cs).cells.toList = cs := by
  cases g with
  | true => simp [mkw, Value.cells]
  | false =>
    obtain ⟨v, rfl, hv⟩ := h rfl
    cases v <;> first | rfl | cases hv
theorem one_of {t : Ty} {cs : List Value} (hl : cs.length = t.sz) (h1 : ∀ v ∈ cs, v.oneCell' = true) (h : t.agg = false) : ∃ v, cs = [v] ∧ v.oneCell' = true := by
  have h1' : t.sz = 1 := by cases t <;> first | rfl | cases h
  rw [h1'] at hl
  obtain ⟨v, rfl⟩ := List.length_eq_one_iff.1 hl
  exact ⟨v, rfl, h1 v (by simp)⟩

theorem Row.set {w : World} {k : Nat} {row : Array Value} {e : TypeId} (h : Row w k row e) (o : Nat) (v : Value) : Row (w.setCell ⟨k, o, none⟩ v) k (row.setIfInBounds o v) e := by
  obtain ⟨m, h1, h2⟩ := h
  exact ⟨m, by simp [World.setCell, Array.getElem?_modify, h1], by simpa using h2⟩
theorem Row.frozen {w : World} {k : Nat} {row : Array Value} {e : TypeId} (h : Row w k row e) {o : Nat} (ho : o < row.size) : w.frozen? ⟨k, o, none⟩ = false := by
  obtain ⟨⟨lo, hi⟩, h1, h2⟩ := h
  simp only [World.frozen?, h1]
  rcases h2 with h2 | h2
  · cases h2; simp
  · have h2 := h2.1
    simp only at h2
    rw [show decide (lo ≤ o) = false from decide_eq_false (by omega)]; rfl
def setR (w : World) (k : Nat) : Nat → List Value → World
  | _, [] => w
  | o, v :: vs => setR (w.setCell ⟨k, o, none⟩ v) k (o + 1) vs
theorem setR_spec (k : Nat) (e : TypeId) : ∀ (vs : List Value) (w : World) (o : Nat) (row : Array Value), Row w k row e → o + vs.length ≤ row.size → (∀ v ∈ vs, v.oneCell' = true) →
    (∀ (P : Program), ∀ i, (storeCells ⟨k, o - i, none⟩ vs i).run P w = if i ≤ o then .ok () (setR w k o vs) else (storeCells ⟨k, o - i, none⟩ vs i).run P w) ∧
    (setR w k o vs).os = w.os ∧ (setR w k o vs).tape = w.tape ∧ (setR w k o vs).output = w.output ∧ (setR w k o vs).heap.size = w.heap.size ∧ (∀ b, b ≠ k → (setR w k o vs).heap[b]? = w.heap[b]?) ∧
    ∃ row' : Array Value, Row (setR w k o vs) k row' e ∧ row'.size = row.size ∧ (∀ j, j < o ∨ o + vs.length ≤ j → row'[j]? = row[j]?) ∧ ∀ j v, vs[j]? = some v → row'[o + j]? = some v
  | [], w, o, row, hk, hf, h1 => by
    refine ⟨fun P i => ?_, rfl, rfl, rfl, rfl, fun _ _ => rfl, row, hk, rfl, fun _ _ => rfl, fun j v hv => by cases hv⟩
    split
    · rfl
    · rfl
  | v :: vs, w, o, row, hk, hf, h1 => by
    have hlt : o < row.size := by simp at hf; omega
    have hk' : Row (w.setCell ⟨k, o, none⟩ v) k (row.setIfInBounds o v) e := hk.set o v
    obtain ⟨g0, g1, g2, g3, g4, g5, row', r1, r2, r3, r4⟩ := setR_spec k e vs (w.setCell ⟨k, o, none⟩ v) (o + 1) (row.setIfInBounds o v) hk' (by simp at hf ⊢; omega) (fun u hu => h1 u (List.mem_cons_of_mem _ hu))
    refine ⟨fun P i => ?_, g1, g2, g3, g4.trans (by simp), fun b hb => (g5 b hb).trans (Below.heap_setCell w ⟨k, o, none⟩ v b hb), row', r1, r2.trans (by simp), fun j hj => ?_, fun j u hu => ?_⟩
    · split
      · rename_i hi
        have ha : (⟨k, o - i, none⟩ : Addr).add i = ⟨k, o, none⟩ := by rw [add_at]; congr 1; omega
        have hcell : w.cell? ⟨k, o, none⟩ = some row[o] := by rw [hk.cell]; simp [hlt]
        have hfr : w.frozen? ⟨k, o, none⟩ = false := hk.frozen hlt
        have hs := g0 P (i + 1)
        rw [if_pos (by omega), show o + 1 - (i + 1) = o - i by omega] at hs
        simp only [storeCells, Sem.run_bind, ha, run_store P w ⟨k, o, none⟩ v .plain (h1 v (by simp)), hcell, hfr, if_false, Bool.false_eq_true, Result.andThen_ok]
        exact hs
      · rfl
    · rw [r3 j (by simp at hj ⊢; omega)]
      rw [Array.getElem?_setIfInBounds]
      split
      · rename_i hoj; subst hoj; simp at hj; omega
      · rfl
    · cases j with
      | zero =>
        cases hu
        rw [r3 (o + 0) (by left; omega), Array.getElem?_setIfInBounds]
        simp [hlt]
      | succ j =>
        have := r4 j u hu
        rw [show o + (j + 1) = o + 1 + j by omega]; exact this
section
variable {P : Program} {T : List (TypeId × TRow)} {t : TypeId} {r : TRow} {w : World}
/-- A variable is written. -/
theorem RowOK.store (h : RowOK P T t r) {k o : Nat} {cs : List Value} {g : Bool} {row : Array Value} {e : TypeId} (hl : cs.length = r.ty.sz) (hg : (mkw g cs).cells.toList = cs) (h1 : ∀ v ∈ cs, v.oneCell' = true) (hk : Row w k row e) (hf : o + cs.length ≤ row.size) :
    (storeVar t ⟨k, o, none⟩ (mkw g cs)).run P w = .ok () (setR w k o cs) := by
  have hsz : (mkw g cs).cells.size = r.ty.sz := by rw [← Array.length_toList, hg, hl]
  have hs := (setR_spec k e cs w o row hk hf h1).1 P 0
  rw [if_pos (Nat.zero_le _)] at hs
  unfold storeVar
  simp only [Sem.run_bind, h.sizeOf, Result.andThen_ok, hsz, ne_eq, not_true, if_false, hg]
  exact hs
end
end Go.Proofs.YtipaepbmdooekaaGreatDoor.Vm

/- Operations: addresses, loads, stores, new variables. -/
namespace Go.Proofs.YtipaepbmdooekaaGreatDoor.Vm
open Go Go.RowKit
set_option linter.unusedVariables false

def fldP : Nat → Path
  | 0 => [.fst]
  | i + 1 => .snd :: fldP i
theorem depth_append (p q : Path) : depth (p ++ q) = depth p + depth q := by
  induction p with
  | nil => simp [depth]
  | cons s p ih => cases s <;> simp only [List.cons_append, depth, ih] <;> omega
theorem depth_fldP : ∀ i, depth (fldP i) = 0
  | 0 => rfl
  | i + 1 => depth_fldP i
theorem lookD_append : ∀ (p q : Path) (v : DV) (b : Base), lookD v b (p ++ q) = match lookD v b p with
    | some (b', u) => lookD u b' q
    | none => none
  | [], q, v, b => rfl
  | s :: p, q, ⟨t, x⟩, b => by
    cases s with
    | fst =>
      cases t with
      | cons a r => exact lookD_append p q ⟨a, x.1⟩ b
      | _ => rfl
    | snd =>
      cases t with
      | cons a r => exact lookD_append p q ⟨r, x.2⟩ _
      | _ => rfl
    | idx n =>
      cases t with
      | sl o e t =>
        cases o with
        | false => rfl
        | true =>
          simp only [List.cons_append, lookD]
          cases hA : x.1.1 with
          | none => rfl
          | some A =>
            cases hd : x.2[n]? with
            | none => rfl
            | some d => exact lookD_append p q ⟨t, d⟩ _
      | _ => rfl
theorem getV_append : ∀ (p q : Path) (v : V), getV v (p ++ q) = match getV v p with
    | some u => getV u q
    | none => none
  | [], q, v => rfl
  | s :: p, q, ⟨t, x⟩ => by
    cases s with
    | fst =>
      cases t with
      | cons a r => exact getV_append p q ⟨a, x.1⟩
      | _ => rfl
    | snd =>
      cases t with
      | cons a r => exact getV_append p q ⟨r, x.2⟩
      | _ => rfl
    | idx n =>
      cases t with
      | sl o e t =>
        cases o with
        | false => rfl
        | true => exact getV_append p q ⟨t, _⟩
      | _ => rfl

/-- Field i of a struct that the table tells. -/
theorem look_fld {T : List (TypeId × TRow)} : ∀ {i off : Nat} {ty : Ty} {ts : List TypeId} {fs : List Field} {f : Field}, FldOK T off ty ts fs → fs[i]? = some f → ∀ {t : Ty} {d : t.dec}, like t ty = true → ∀ (b : Base),
    ∃ u n, lookD ⟨t, d⟩ b (fldP i) = some (Base.up b n, u) ∧ off + n = f.offset ∧ ∃ rf, tget T f.type = some rf ∧ like u.t rf.ty = true ∧ rf.ty.sz ≠ 0
  | i, off, .cons a r, t0 :: ts, f0 :: fs, f, h, hi, t, d, hl, b => by
    cases t with
    | cons a' r' =>
      simp only [like, Bool.and_eq_true] at hl
      obtain ⟨h1, h2, _, ⟨rf, h3, h4⟩, h5, h6⟩ := h
      cases i with
      | zero =>
        simp only [List.getElem?_cons_zero, Option.some.injEq] at hi
        subst hi
        refine ⟨⟨a', d.1⟩, 0, ?_, by omega, rf, by rw [h1]; exact h3, by rw [h4]; exact hl.1, by rw [h4]; exact h5⟩
        show some (b, (⟨a', d.1⟩ : DV)) = some (Base.up b 0, ⟨a', d.1⟩)
        cases b <;> rfl
      | succ i =>
        obtain ⟨u, n, g1, g2, g3⟩ := look_fld h6 (by simpa using hi) (d := d.2) hl.2 (Base.up b a'.sz)
        refine ⟨u, a'.sz + n, ?_, ?_, g3⟩
        · show lookD ⟨r', d.2⟩ (Base.up b a'.sz) (fldP i) = _
          rw [g1]
          cases b with
          | none => rfl
          | some z => simp only [Base.up, Option.map_some, Nat.add_assoc]
        · rw [like_sz hl.1]; omega
    | _ => cases hl
  | i, off, .nil, [], [], f, h, hi, t, d, hl, b => by cases hi
  | i, off, .nil, _ :: _, _, f, h, hi, t, d, hl, b => by cases h
  | i, off, .nil, [], _ :: _, f, h, hi, t, d, hl, b => by cases h
  | i, off, .cons _ _, [], _, f, h, hi, t, d, hl, b => by cases h
  | i, off, .cons _ _, _ :: _, [], f, h, hi, t, d, hl, b => by cases h
  | i, off, .int _, _, _, f, h, hi, t, d, hl, b | i, off, .bool, _, _, f, h, hi, t, d, hl, b | i, off, .str, _, _, f, h, hi, t, d, hl, b | i, off, .hole, _, _, f, h, hi, t, d, hl, b | i, off, .sl _ _ _, _, _, f, h, hi, t, d, hl, b => by cases h
/-- .. of what is shared. -/
theorem get_fld {T : List (TypeId × TRow)} {w : World} {Sh : Nat → Prop} : ∀ {i off : Nat} {ty : Ty} {ts : List TypeId} {fs : List Field} {f : Field}, FldOK T off ty ts fs → fs[i]? = some f → ∀ {t : Ty} {x : t.den} {cs : List Value}, like t ty = true → Ty.RR w Sh t x cs →
    ∃ v n c, getV ⟨t, x⟩ (fldP i) = some v ∧ off + n = f.offset ∧ Ty.RR w Sh v.t v.x c ∧ (∀ j u, c[j]? = some u → cs[n + j]? = some u) ∧ c = (cs.drop n).take v.t.sz ∧ ∃ rf, tget T f.type = some rf ∧ like v.t rf.ty = true ∧ rf.ty.sz ≠ 0
  | i, off, .cons a r, t0 :: ts, f0 :: fs, f, h, hi, t, x, cs, hl, hR => by
    cases t with
    | cons a' r' =>
      simp only [like, Bool.and_eq_true] at hl
      obtain ⟨h1, h2, _, ⟨rf, h3, h4⟩, h5, h6⟩ := h
      obtain ⟨c0, c1, rfl, r0, r1⟩ := hR
      cases i with
      | zero =>
        simp only [List.getElem?_cons_zero, Option.some.injEq] at hi
        subst hi
        refine ⟨⟨a', x.1⟩, 0, c0, rfl, by omega, r0, fun j u hj => ?_, ?_, rf, by rw [h1]; exact h3, by rw [h4]; exact hl.1, by rw [h4]; exact h5⟩
        · rw [Nat.zero_add, List.getElem?_append_left (List.getElem?_eq_some_iff.1 hj).1]; exact hj
        · show c0 = List.take a'.sz (List.drop 0 (c0 ++ c1))
          rw [List.drop_zero, ← Ty.RR_len r0, List.take_left]
      | succ i =>
        obtain ⟨v, n, c, g1, g2, g3, g4, g5, g6⟩ := get_fld h6 (by simpa using hi) (x := x.2) hl.2 r1
        have hl0 : c0.length = a'.sz := Ty.RR_len r0
        refine ⟨v, a'.sz + n, c, g1, by rw [like_sz hl.1]; omega, g3, fun j u hj => ?_, ?_, g6⟩
        · rw [List.getElem?_append_right (by omega)]
          rw [show a'.sz + n + j - c0.length = n + j by omega]
          exact g4 j u hj
        · rw [g5, ← hl0, ← List.drop_drop, List.drop_left]
    | _ => cases hl
  | i, off, .nil, [], [], f, h, hi, t, x, cs, hl, hR => by cases hi
  | i, off, .nil, _ :: _, _, f, h, hi, t, x, cs, hl, hR => by cases h
  | i, off, .nil, [], _ :: _, f, h, hi, t, x, cs, hl, hR => by cases h
  | i, off, .cons _ _, [], _, f, h, hi, t, x, cs, hl, hR => by cases h
  | i, off, .cons _ _, _ :: _, [], f, h, hi, t, x, cs, hl, hR => by cases h
  | i, off, .int _, _, _, f, h, hi, t, x, cs, hl, hR | i, off, .bool, _, _, f, h, hi, t, x, cs, hl, hR | i, off, .str, _, _, f, h, hi, t, x, cs, hl, hR | i, off, .hole, _, _, f, h, hi, t, x, cs, hl, hR | i, off, .sl _ _ _, _, _, f, h, hi, t, x, cs, hl, hR => by cases h

/-- A struct's row of the table. -/
def isStruct (r : TRow) : Bool := r.ty.agg
theorem RowOK.fields {P : Program} {T : List (TypeId × TRow)} {t : TypeId} {r : TRow} (h : RowOK P T t r) (hs : r.ty.agg = true) : ∃ fs, P.underlying t = some (.struct fs) ∧ FldOK T 0 r.ty r.fs fs.toList := by
  have d := h.desc
  unfold DescOK at d
  split at d <;> first | exact d | (rename_i hty; rw [hty] at hs; cases hs) | exact d.elim
theorem FldOK.len {T : List (TypeId × TRow)} : ∀ {off : Nat} {ty : Ty} {ts : List TypeId} {fs : List Field}, FldOK T off ty ts fs → fs.length = ts.length
  | off, .nil, [], [], _ => rfl
  | off, .cons a r, t :: ts, f :: fs, h => by simp only [List.length_cons, FldOK.len h.2.2.2.2.2]
  | off, .nil, _ :: _, _, h => by cases h
  | off, .nil, [], _ :: _, h => by cases h
  | off, .cons _ _, [], _, h => by cases h
  | off, .cons _ _, _ :: _, [], h => by cases h
  | off, .int _, _, _, h | off, .bool, _, _, h | off, .str, _, _, h | off, .hole, _, _, h | off, .sl _ _ _, _, _, h => by cases h

/-- A root, if what is told by it still stands. -/
def withR (id s m : Nat) (ho : Bool) {α : Type} (k : Root → Prog α) : Prog α := .ask id fun
  | some r => bif Nat.ble s r.log.length && since r.log s m ho then k r else .fail
  | none => .fail
theorem withR_go {id s m : Nat} {ho : Bool} {α : Type} {k : Root → Prog α} {R : Nat → Option Root} {x : α} (h : (withR id s m ho k).go R = some x) : ∃ r, R id = some r ∧ s ≤ r.log.length ∧ since r.log s m ho = true ∧ (k r).go R = some x := by
  simp only [withR, Prog.go] at h
  cases hr : R id with
  | none => rw [hr] at h; cases h
  | some r =>
    simp only [hr] at h
    cases hb : (Nat.ble s r.log.length && since r.log s m ho) with
    | false => rw [hb] at h; cases h
    | true =>
      rw [hb] at h
      rw [Bool.and_eq_true] at hb
      exact ⟨r, rfl, by simpa [Nat.ble_eq] using hb.1, hb.2, h⟩

def fieldAddrP (row : TRow) (x : AV) (i : Nat) : Prog AV := bif row.ty.agg && Nat.blt i row.fs.length then match x with
  | .ptr id p s => withR id s (depth p) true fun r => match getV r.v p with
    | some v => bif like v.t row.ty then .ret (.ptr id (p ++ fldP i) r.log.length) else .fail
    | none => .fail
  | .sptr t x => bif like t row.ty then match getV ⟨t, x⟩ (fldP i) with
      | some v => .ret (.sptr v.t v.x)
      | none => .fail
    else .fail
  | _ => .fail else .fail
def loadP (row : TRow) (x : AV) : Prog AV := match x with
  | .ptr id p s => withR id s (depth p) true fun r => match getV r.v p with
    | some v => bif like v.t row.ty then .ret (bif v.t.plain then .sh v.t v.x else .al id p r.log.length v.t) else .fail
    | none => .fail
  | .sptr t x => bif like t row.ty then .ret (.sh t x) else .fail
  | _ => .fail

theorem flat_plain : ∀ {t : Ty}, t.flat = true → t.plain = true
  | .int _, _ | .bool, _ | .str, _ | .nil, _ => rfl
  | .hole, h => by cases h
  | .sl _ _ _, h => by cases h
  | .cons a r, h => by
    simp only [Ty.flat, Bool.and_eq_true] at h
    simp only [Ty.plain, flat_plain h.1, flat_plain h.2, Bool.and_self]
theorem since_now (log : List (Nat × Bool)) (m : Nat) (ho : Bool) : since log log.length m ho = true := by simp [since]

section
variable {C : Ctx} {st : St} {D : Nat → DRoot} {Sh : Nat → Prop} {a : Act} {w w' : World} {T : List (TypeId × TRow)}
/-- What a pointer leads to. -/
theorem ptr_look {R : Nat → Option Root} {id : Nat} {p : Path} {s : Nat} {v : Value} {r : Root} (h : AVR w Sh R D (.ptr id p s) v) (hr : R id = some r) (hs : since r.log s (depth p) true = true) :
    ∃ k o u, lookD (D id).dv (D id).base p = some (some (k, o), u) ∧ v = .pointer (some ⟨k, o, none⟩) := by
  obtain ⟨cs, ⟨v', rfl, r', hr', _, hv⟩, rfl⟩ := h
  rw [hr] at hr'; cases hr'
  exact hv hs
theorem mk_ptr {R : Nat → Option Root} {id : Nat} {p : Path} {r : Root} {k o : Nat} {u : DV} (hr : R id = some r) (hl : lookD (D id).dv (D id).base p = some (some (k, o), u)) : AVR w Sh R D (.ptr id p r.log.length) (.pointer (some ⟨k, o, none⟩)) :=
  ⟨_, ⟨_, rfl, r, hr, Nat.le_refl _, fun _ => ⟨k, o, u, hl, rfl⟩⟩, rfl⟩
theorem sptr_look {R : Nat → Option Root} {t : Ty} {x : t.den} {v : Value} (h : AVR w Sh R D (.sptr t x) v) : ∃ b o cc, v = .pointer (some ⟨b, o, none⟩) ∧ Sh b ∧ Ty.RR w Sh t x cc ∧ ∀ j u, cc[j]? = some u → w.cell? ⟨b, o + j, none⟩ = some u := by
  obtain ⟨cs, ⟨b, o, cc, rfl, hb, hR, hc⟩, rfl⟩ := h
  exact ⟨b, o, cc, rfl, hb, hR, hc⟩
theorem Rel.look (h : Rel C st D Sh a w) {id : Nat} {r : Root} (hr : st.roots id = some r) {p : Path} {b : Base} {u : DV} (hl : lookD (D id).dv (D id).base p = some (b, u)) :
    getV r.v p = some u.er ∧ u.OK w Sh ∧ ∀ k o, b = some (k, o) → Loc w k o u := by
  have R := h.root id r hr
  have hg := er_look hl
  rw [R.er] at hg
  exact ⟨hg, look_loc hl R.ok (fun k o hk => by obtain ⟨e1, rfl⟩ := base_some hk; exact R.loc k e1)⟩

theorem quiet_fieldAddr (hT : TabOK C.P T) {o : Oper} {s : TypeId} {x : Operand} {i : Nat} (ho : o.op = .fieldAddr s x i) {row : TRow} (hrow : tget T s = some row) {av : AV} (hd : dstOk C.n o.dst = true)
    (h : (fieldAddrP row (evalA st.tmps x) i).go st.roots = some av) : Quiet C o st av := by
  intro D Sh a w hR
  have he := hR.eval x
  have hr := hT s row hrow
  unfold fieldAddrP at h
  cases hg : (row.ty.agg && Nat.blt i row.fs.length) with
  | false => rw [hg] at h; cases h
  | true =>
    rw [hg] at h
    rw [Bool.and_eq_true] at hg
    obtain ⟨fs, hu, hf⟩ := hr.fields hg.1
    have hlt : i < fs.toList.length := by rw [hf.len]; simpa [Nat.blt_eq] using hg.2
    have hfi : fs.toList[i]? = some fs.toList[i] := List.getElem?_eq_getElem hlt
    have hfa : fs[i]? = some fs.toList[i] := by rw [← hfi, Array.getElem?_toList]
    simp only [cond_true] at h
    have hex : ∀ (k o : Nat) (n : Nat) (rf : TRow), n = fs.toList[i].offset → tget T fs.toList[i].type = some rf → rf.ty.sz ≠ 0 → a.eval x = .pointer (some ⟨k, o, none⟩) →
        ∀ (or : Oper), or.op = .fieldAddr s x i → (execOp a.eval or).run C.P w = .ok (.value (.pointer (some ⟨k, o + n, none⟩))) w := by
      intro k o n rf hn hrf hz hx or hor
      have hsz := (hT _ rf hrf).sizeOf w
      have hz' : (rf.ty.sz = 0) = False := by simpa using hz
      simp only [execOp, hor, Instr.fieldAt, Instr.sureAddr, fieldPlace, hx, Sem.run_bind, run_underlying hu, Result.andThen_ok, hfa, hsz, hz', if_false, Sem.run_pure, add_at, hn]
    generalize hx : evalA st.tmps x = ax at he h
    cases ax with
    | ptr id p s' =>
      simp only at h
      obtain ⟨r, hr1, hs1, hs2, h⟩ := withR_go h
      obtain ⟨k, o', u, hl, hv⟩ := ptr_look he hr1 hs2
      obtain ⟨hgv, _, _⟩ := hR.look hr1 hl
      simp only [hgv] at h
      cases hlk : like u.er.t row.ty with
      | false => rw [hlk] at h; cases h
      | true =>
        rw [hlk] at h; cases h
        obtain ⟨u', n, g1, g2, rf, g3, _, g4⟩ := look_fld (T := T) hf hfi (t := u.t) (d := u.d) hlk (some (k, o'))
        refine ⟨_, hex k o' n rf (by omega) g3 g4 hv o ho, mk_ptr hr1 (u := u') ?_⟩
        rw [lookD_append, hl]; exact g1
    | sptr t xx =>
      simp only at h
      obtain ⟨b, o', cc, hv, hb, hRR, hc⟩ := sptr_look he
      cases hlk : like t row.ty with
      | false => rw [hlk] at h; cases h
      | true =>
        rw [hlk] at h
        obtain ⟨v, n, c, g1, g2, g3, g4, _, rf, g5, _, g6⟩ := get_fld (T := T) hf hfi (t := t) (x := xx) hlk hRR
        simp only [cond_true, g1] at h
        cases h
        refine ⟨_, hex b o' n rf (by omega) g5 g6 hv o ho, ⟨_, ⟨b, o' + n, c, rfl, hb, g3, fun j u hj => ?_⟩, rfl⟩⟩
        have := hc (n + j) u (g4 j u hj)
        rw [← this]; congr 2; omega
    | _ => cases h
theorem sound_fieldAddr (hT : TabOK C.P T) {o : Oper} {s : TypeId} {x : Operand} {i : Nat} (ho : o.op = .fieldAddr s x i) {row : TRow} (hrow : tget T s = some row) {av : AV} (hd : dstOk C.n o.dst = true)
    (h : (fieldAddrP row (evalA st.tmps x) i).go st.roots = some av) : Sound C o st ⟨av, []⟩ := sound_quiet hd (quiet_fieldAddr hT ho hrow hd h)
theorem quiet_load (hT : TabOK C.P T) {o : Oper} {t : TypeId} {x : Operand} (ho : o.op = .load t x) {row : TRow} (hrow : tget T t = some row) {av : AV} (hd : dstOk C.n o.dst = true)
    (h : (loadP row (evalA st.tmps x)).go st.roots = some av) : Quiet C o st av := by
  intro D Sh a w hR
  have he := hR.eval x
  have hr := hT t row hrow
  have hex : ∀ (k o' : Nat) (cs : List Value), cs.length = row.ty.sz → (∀ j v, cs[j]? = some v → w.cell? ⟨k, o' + j, none⟩ = some v) → a.eval x = .pointer (some ⟨k, o', none⟩) →
      (execOp a.eval o).run C.P w = .ok (.value (mkw row.ty.agg cs)) w := by
    intro k o' cs hl hc hx
    have := hr.load (w := w) hl hc
    simp only [execOp, ho, Instr.loadAt, Instr.sureAddr, hx, Sem.run_bind, Sem.run_pure, Result.andThen_ok, this]
  unfold loadP at h
  generalize hx : evalA st.tmps x = ax at he h
  cases ax with
  | ptr id p s =>
    obtain ⟨r, hr1, hs1, hs2, h⟩ := withR_go h
    obtain ⟨k, o', u, hl, hv⟩ := ptr_look he hr1 hs2
    obtain ⟨hgv, hok, hloc⟩ := hR.look hr1 hl
    simp only [hgv] at h
    cases hlk : like u.er.t row.ty with
    | false => rw [hlk] at h; cases h
    | true =>
      rw [hlk] at h; cases h
      obtain ⟨rw_, e, hrw, hc⟩ := hloc k o' rfl
      have hlen : u.cs.length = row.ty.sz := (Ty.cs_len u.t u.d).trans (like_sz hlk)
      have hag : u.t.agg = row.ty.agg := like_agg hlk
      refine ⟨_, hex k o' u.cs hlen (fun j v hj => by rw [hrw.cell]; exact hc j v hj) hv, ?_⟩
      cases hp : u.t.plain with
      | true =>
        show AVR w Sh st.roots D (bif u.t.plain then .sh u.t (u.t.er u.d) else _) _
        rw [hp]
        exact ⟨u.cs, Ty.OK_RR (fun _ h => h) hok (fun b hb => by rw [Ty.plain_foot u.d hp] at hb; cases hb), by rw [← hag]; rfl⟩
      | false =>
        show AVR w Sh st.roots D (bif u.t.plain then _ else .al id p r.log.length u.t) _
        rw [hp]
        refine ⟨u.cs, ⟨?_, r, hr1, Nat.le_refl _, fun _ => ⟨_, u, hl, rfl, rfl⟩⟩, by rw [← hag]; rfl⟩
        cases hf : u.t.flat with
        | false => rfl
        | true => rw [flat_plain hf] at hp; cases hp
  | sptr t' xx =>
    simp only at h
    obtain ⟨b, o', cc, hv, hb, hRR, hc⟩ := sptr_look he
    cases hlk : like t' row.ty with
    | false => rw [hlk] at h; cases h
    | true =>
      rw [hlk] at h; cases h
      exact ⟨_, hex b o' cc ((Ty.RR_len hRR).trans (like_sz hlk)) hc hv, ⟨cc, hRR, by rw [← like_agg hlk]; rfl⟩⟩
  | _ => cases h
theorem sound_load (hT : TabOK C.P T) {o : Oper} {t : TypeId} {x : Operand} (ho : o.op = .load t x) {row : TRow} (hrow : tget T t = some row) {av : AV} (hd : dstOk C.n o.dst = true)
    (h : (loadP row (evalA st.tmps x)).go st.roots = some av) : Sound C o st ⟨av, []⟩ := sound_quiet hd (quiet_load hT ho hrow hd h)
end
end Go.Proofs.YtipaepbmdooekaaGreatDoor.Vm

/- Structs of whole numbers, compared. -/
namespace Go.Proofs.YtipaepbmdooekaaGreatDoor.Vm
open Go Go.RowKit
set_option linter.unusedVariables false
namespace Ty
def ints : Ty → Bool
  | .nil => true
  | .cons (.int _) r => r.ints
  | _ => false
def eqX : (t : Ty) → t.den → t.den → Bool
  | .int _, x, y => (x : Int) == (y : Int)
  | .cons a r, x, y => a.eqX x.1 y.1 && r.eqX x.2 y.2
  | _, _, _ => true
end Ty
theorem run_eqFields {P : Program} {T : List (TypeId × TRow)} (hT : TabOK P T) {w : World} {Sh : Nat → Prop} {d : Nat} {xs ys : Array Value} : ∀ {off : Nat} {ty : Ty} {ts : List TypeId} {fs : List Field}, FldOK T off ty ts fs → ty.ints = true → ∀ {u v : ty.den} {cu cv : List Value}, Ty.RR w Sh ty u cu → Ty.RR w Sh ty v cv →
    (∀ j c, cu[j]? = some c → xs[off + j]? = some c) → (∀ j c, cv[j]? = some c → ys[off + j]? = some c) → (Op.eqFields (d + 1) xs ys fs).run P w = .ok (ty.eqX u v) w
  | off, .nil, [], [], _, _, u, v, cu, cv, _, _, _, _ => by simp [Op.eqFields, Ty.eqX]
  | off, .cons (.int k) r, t :: ts, f :: fs, h, hi, u, v, cu, cv, hu, hv, hx, hy => by
    obtain ⟨ht, ho, hn, ⟨rf, hr, hrt⟩, hz, hr'⟩ := h
    obtain ⟨c0, c1, rfl, hu0, hu1⟩ := hu
    obtain ⟨e0, e1, rfl, hv0, hv1⟩ := hv
    cases hu0; cases hv0
    subst ht
    have rk := hT _ rf hr
    have hk : P.underlying f.type = some (.int k) := by
      have := rk.desc
      unfold DescOK at this
      rw [hrt] at this; exact this
    have part1 : ∀ (zs : Array Value) (n : Int), zs[off]? = some (.int k n) → (part f.type zs f.offset).run P w = .ok (.int k n) w := by
      intro zs n hz
      unfold part
      simp only [Sem.run_bind, rk.isAgg, Result.andThen_ok, hrt, Ty.agg]
      rw [ho]
      simp [hz]
    have ih := run_eqFields (d := d) hT (off := off + 1) (ty := r) hr' hi (xs := xs) (ys := ys) hu1 hv1 (fun j c hj => by
        have := hx (j + 1) c (by simpa using hj)
        rw [← this]; congr 1; omega) (fun j c hj => by
        have := hy (j + 1) c (by simpa using hj)
        rw [← this]; congr 1; omega)
    rw [Op.eqFields]
    simp only [if_pos hn, Sem.run_bind, part1 xs _ (hx 0 _ rfl), part1 ys _ (hy 0 _ rfl), Result.andThen_ok, run_equalIn_int _ d f.type k k _ _ hk]
    show (if (!(u.1 == v.1)) = true then (pure false : Sem Bool) else Op.eqFields (d + 1) xs ys fs).run P w = .ok ((Ty.int k).eqX u.1 v.1 && r.eqX u.2 v.2) w
    have e : (Ty.int k).eqX u.1 v.1 = ((u.1 : Int) == (v.1 : Int)) := rfl
    rw [e]
    cases hb : ((u.1 : Int) == (v.1 : Int)) with
    | true => simpa using ih
    | false => simp
  | off, .nil, _ :: _, _, h, _, _, _, _, _, _, _, _, _ => by cases h
  | off, .nil, [], _ :: _, h, _, _, _, _, _, _, _, _, _ => by cases h
  | off, .cons _ _, [], _, h, _, _, _, _, _, _, _, _, _ => by cases h
  | off, .cons _ _, _ :: _, [], h, _, _, _, _, _, _, _, _, _ => by cases h
  | off, .cons .bool _, _ :: _, _ :: _, h, hi, _, _, _, _, _, _, _, _ => by cases hi
  | off, .cons .str _, _ :: _, _ :: _, h, hi, _, _, _, _, _, _, _, _ => by cases hi
  | off, .cons .hole _, _ :: _, _ :: _, h, hi, _, _, _, _, _, _, _, _ => by cases hi
  | off, .cons (.sl _ _ _) _, _ :: _, _ :: _, h, hi, _, _, _, _, _, _, _, _ => by cases hi
  | off, .cons .nil _, _ :: _, _ :: _, h, hi, _, _, _, _, _, _, _, _ => by cases hi
  | off, .cons (.cons _ _) _, _ :: _, _ :: _, h, hi, _, _, _, _, _, _, _, _ => by cases hi
  | off, .int _, _, _, h, _, _, _, _, _, _, _, _, _ | off, .bool, _, _, h, _, _, _, _, _, _, _, _, _ | off, .str, _, _, h, _, _, _, _, _, _, _, _, _ | off, .hole, _, _, h, _, _, _, _, _, _, _, _, _ | off, .sl _ _ _, _, _, h, _, _, _, _, _, _, _, _, _ => by cases h
/-- Two structs of whole numbers. -/
theorem run_eqStruct {P : Program} {T : List (TypeId × TRow)} (hT : TabOK P T) {w : World} {Sh : Nat → Prop} {xt : TypeId} {row : TRow} (hrow : tget T xt = some row) {a r : Ty} (hty : row.ty = .cons a r) (hi : (Ty.cons a r).ints = true) {u v : (Ty.cons a r).den} {cu cv : List Value} (hu : Ty.RR w Sh (.cons a r) u cu) (hv : Ty.RR w Sh (.cons a r) v cv) :
    (∀ op x y, (eqGuard op xt x y (.agg cu.toArray) (.agg cv.toArray)).run P w = .ok () w) ∧ (Op.equalIn 10000 xt (.agg cu.toArray) (.agg cv.toArray)).run P w = .ok ((Ty.cons a r).eqX u v) w := by
  have rk := hT _ row hrow
  have hag : row.ty.agg = true := by rw [hty]; rfl
  obtain ⟨g1, g2⟩ := rk.eqs hag
  obtain ⟨fs, hfs, hfo⟩ := rk.fields hag
  have hf : P.fieldsOf xt = fs := by simp [Program.fieldsOf, hfs]
  refine ⟨fun op x y => run_eqGuard_agg w op xt x y _ _ g2, ?_⟩
  rw [run_equalIn_struct w 9999 xt _ _ (by rw [hf]; exact hfs) g1, hf]
  rw [hty] at hfo
  exact run_eqFields (d := 9998) hT hfo hi hu hv (fun j c hj => by rw [Nat.zero_add]; simpa using hj) (fun j c hj => by rw [Nat.zero_add]; simpa using hj)
end Go.Proofs.YtipaepbmdooekaaGreatDoor.Vm

/- Operations: stores, new variables, numbers, elements. -/
namespace Go.Proofs.YtipaepbmdooekaaGreatDoor.Vm
open Go Go.RowKit
set_option linter.unusedVariables false

def getR {α : Type} : Writes → Nat → (Option Root → Prog α) → Prog α
  | [], id, k => .ask id k
  | (i, r) :: ws, id, k => bif Nat.beq id i then k (some r) else getR ws id k
theorem getR_go {α : Type} {R : Nat → Option Root} : ∀ (ws : Writes) (id : Nat) (k : Option Root → Prog α), (getR ws id k).go R = (k (app ws R id)).go R
  | [], id, k => rfl
  | (i, r) :: ws, id, k => by
    simp only [getR, app, upt]
    cases Nat.beq id i with
    | true => rfl
    | false => exact getR_go ws id k
def takeP : Ty → AV → Writes → Prog (V × Writes)
  | ty, .sh t x, ws => bif t.plain && like t ty then .ret (⟨t, x⟩, ws) else .fail
  | ty, .nilsl, ws => match ty with
    | .sl _ e t => .ret (⟨.sl true e t.own, []⟩, ws)
    | _ => .fail
  | ty, .al id p s t, ws => getR ws id fun
    | some r => bif Nat.ble s r.log.length && since r.log s (depth p + 1) (!t.agg) then
        match getV r.v p with
        | some v => bif like v.t ty then
            match putV r.v p v.hol with
            | some v' => .ret (v, (id, stolen r p v v') :: ws)
            | none => .fail
          else .fail
        | none => .fail
      else .fail
    | none => .fail
  | ty, .nilf, ws => match ty with
    | .nil => .ret (⟨.nil, ()⟩, ws)
    | _ => .fail
  | ty, .consf x y, ws => match ty with
    | .cons tx ty => (takeP tx x ws).bind fun q => (takeP ty y q.2).bind fun z => .ret (⟨.cons q.1.t z.1.t, (q.1.x, z.1.x)⟩, z.2)
    | _ => .fail
  | _, _, _ => .fail
theorem takeP_take {R : Nat → Option Root} : ∀ {x : AV} {ty : Ty} {ws ws' : Writes} {v : V}, (takeP ty x ws).go R = some (v, ws') → take ty x (app ws R) = some (v, app ws' R)
  | .sh t x, ty, ws, ws', v, h => by
    simp only [takeP] at h
    simp only [take]
    cases hp : (t.plain && like t ty) with
    | false => rw [hp] at h; cases h
    | true => rw [hp] at h; cases h; rfl
  | .nilsl, ty, ws, ws', v, h => by cases ty <;> cases h; rfl
  | .al id p s t, ty, ws, ws', v, h => by
    simp only [takeP, getR_go] at h
    simp only [take]
    cases hr : app ws R id with
    | none => rw [hr] at h; cases h
    | some r =>
      rw [hr] at h
      simp only at h ⊢
      cases hs : (Nat.ble s r.log.length && since r.log s (depth p + 1) (!t.agg)) with
      | false => rw [hs] at h; cases h
      | true =>
        rw [hs] at h
        simp only [cond_true] at h ⊢
        cases hg : getV r.v p with
        | none => rw [hg] at h; cases h
        | some u =>
          rw [hg] at h
          simp only at h ⊢
          cases hl : like u.t ty with
          | false => rw [hl] at h; cases h
          | true =>
            rw [hl] at h
            simp only [cond_true] at h ⊢
            cases hp : putV r.v p u.hol with
            | none => rw [hp] at h; cases h
            | some v' => rw [hp] at h; cases h; rfl
  | .nilf, ty, ws, ws', v, h => by cases ty <;> cases h; rfl
  | .consf x y, ty, ws, ws', v, h => by
    cases ty with
    | cons tx ty =>
      simp only [takeP, Prog.go_bind] at h
      cases h1 : (takeP tx x ws).go R with
      | none => rw [h1] at h; cases h
      | some q =>
        obtain ⟨v1, w1⟩ := q
        rw [h1] at h
        simp only at h
        cases h2 : (takeP ty y w1).go R with
        | none => rw [h2] at h; cases h
        | some z =>
          obtain ⟨v2, w2⟩ := z
          rw [h2] at h; cases h
          simp only [take, takeP_take h1, takeP_take h2]
    | _ => cases h
  | .any, ty, ws, ws', v, h | .cut _ _ _ _ _ _, ty, ws, ws', v, h | .ptr _ _ _, ty, ws, ws', v, h | .sptr _ _, ty, ws, ws', v, h | .fn _ _, ty, ws, ws', v, h | .tup _, ty, ws, ws', v, h => by simp only [takeP] at h; cases h

def storeP (row : TRow) (x y : AV) : Prog Writes := (takeP row.ty y []).bind fun q => match x with
  | .ptr id p s => getR q.2 id fun
    | some r => bif Nat.ble s r.log.length && since r.log s (depth p) true then match getV r.v p with
        | some u => bif like q.1.t u.t then match putV r.v p q.1 with
            | some v' => .ret ((id, stored r p q.1 u v') :: q.2)
            | none => .fail
          else .fail
        | none => .fail
      else .fail
    | none => .fail
  | _ => .fail
def orgOf (x : AV) : Prog (Option Nat) := match x with
  | .al id [] s t => .ask id fun
    | some r => .ret (bif Nat.ble s r.log.length && since r.log s 1 (!t.agg) && since r.log 0 1 false then r.org else none)
    | none => .ret none
  | _ => .ret none
def newP (d : Nat) {α : Type} (k : Prog α) : Prog α := .ask d fun
  | none => k
  | some _ => .fail
def allocP (row : TRow) (d : Nat) : Prog Res := newP d (.ret ⟨.ptr d [] 0, [(d, ⟨⟨row.ty.own, row.ty.own.dft⟩, true, [], none, none⟩)]⟩)
def boxP (row : TRow) (x : AV) (d : Nat) : Prog Res := (orgOf x).bind fun org => (takeP row.ty x []).bind fun q => getR q.2 d fun
  | none => .ret ⟨.ptr d [] 0, (d, ⟨q.1, true, [], org, none⟩) :: q.2⟩
  | some _ => .fail

section
variable {C : Ctx} {st : St} {D : Nat → DRoot} {Sh : Nat → Prop} {a : Act} {w w' : World} {T : List (TypeId × TRow)}
theorem avs_of_avr {R : Nat → Option Root} {x : AV} {v : Value} (h : AVR w Sh R D x v) (h1 : x ≠ .any) (h2 : ∀ c, x ≠ .tup c) : AVS w Sh R D x v := by
  cases x <;> first | exact h | exact absurd rfl h1 | exact absurd rfl (h2 _)
theorem avr_of_avs {R : Nat → Option Root} {x : AV} {v : Value} (h : AVS w Sh R D x v) : AVR w Sh R D x v := by
  cases x <;> first | exact h | (obtain ⟨cs, hc, _⟩ := h; exact hc.elim)
/-- A value is taken out of a slot. -/
theorem Rel.take (h : Rel C st D Sh a w) {x : AV} {v : Value} (hx : AVR w Sh st.roots D x v) {ty : Ty} {u : V} {ws : Writes} (ht : (takeP ty x []).go st.roots = some (u, ws)) :
    ∃ D' z, DV.er z = u ∧ v = mkw u.t.agg z.cs ∧ like u.t ty = true ∧ Keeps w w Sh Sh st.roots (app ws st.roots) D D' ∧ RelF C ⟨st.tmps, app ws st.roots⟩ D' Sh [z] a w := by
  have hk := takeP_take ht
  have hs : AVS w Sh st.roots D x v := avs_of_avr hx (fun e => by subst e; simp only [takeP] at ht; cases ht) (fun c e => by subst e; simp only [takeP] at ht; cases ht)
  obtain ⟨cs, hc, rfl⟩ := hs
  obtain ⟨D', z, hz, hcs, hl, hg, K, F⟩ := take_ok hk (T := st.tmps) h.F hc
  exact ⟨D', z, hz, by rw [hcs, hg], hl, K, F⟩
theorem mkw_cells {u : V} {z : DV} (hz : DV.er z = u) {Sh : Nat → Prop} (hok : z.OK w Sh) : (mkw u.t.agg z.cs).cells.toList = z.cs := by
  have ht : z.t = u.t := by rw [← hz]; rfl
  refine cells_mkw (fun hg => one_of (t := z.t) (Ty.cs_len z.t z.d) (Ty.OK_one hok) (by rw [ht]; exact hg))

theorem sound_store (hT : TabOK C.P T) {o : Oper} {t : TypeId} {x y : Operand} (ho : o.op = .store t x y) {row : TRow} (hrow : tget T t = some row) (hd : o.dst = none) {ws : Writes}
    (h : (storeP row (evalA st.tmps x) (evalA st.tmps y)).go st.roots = some ws) : Sound C o st ⟨.any, ws⟩ := by
  intro D Sh a w K Q hR hK
  have hr := hT t row hrow
  unfold storeP at h
  rw [Prog.go_bind] at h
  cases hq : (takeP row.ty (evalA st.tmps y) []).go st.roots with
  | none => rw [hq] at h; cases h
  | some q =>
    obtain ⟨u, ws1⟩ := q
    rw [hq] at h
    simp only at h
    obtain ⟨D1, z, hz, hv, hl, K1, F1⟩ := hR.take (hR.eval y) hq
    have hzt : z.t = u.t := by rw [← hz]; rfl
    have he := K1.avr (hR.eval x)
    generalize hx : evalA st.tmps x = ax at he h
    cases ax with
    | ptr id p s =>
      simp only [getR_go] at h
      cases hr1 : app ws1 st.roots id with
      | none => rw [hr1] at h; cases h
      | some r =>
        rw [hr1] at h
        simp only at h
        cases hs : (Nat.ble s r.log.length && since r.log s (depth p) true) with
        | false => rw [hs] at h; cases h
        | true =>
          rw [hs] at h
          rw [Bool.and_eq_true] at hs
          obtain ⟨k, o', uq, hlk, hpv⟩ := ptr_look he hr1 hs.2
          obtain ⟨hgv, hok, hloc⟩ := F1.rel.look hr1 hlk
          simp only [cond_true, hgv] at h
          cases hlike : like u.t uq.er.t with
          | false => rw [hlike] at h; cases h
          | true =>
            rw [hlike] at h
            simp only [cond_true] at h
            cases hp : putV r.v p u with
            | none => rw [hp] at h; cases h
            | some v' =>
              rw [hp] at h; cases h
              obtain ⟨row0, e0, hrow0, hc0⟩ := hloc k o' rfl
              have hzok : z.OK w Sh := F1.fok z (by simp)
              have hlen : z.cs.length = row.ty.sz := (Ty.cs_len z.t z.d).trans (by rw [hzt]; exact like_sz hl)
              have hlen2 : z.cs.length = uq.t.sz := (Ty.cs_len z.t z.d).trans (by rw [hzt]; exact like_sz hlike)
              have hpos : z.cs.length ≠ 0 := by rw [hlen]; exact hr.nz
              have hfit : o' + z.cs.length ≤ row0.size := by
                have hul : uq.cs.length = z.cs.length := (Ty.cs_len uq.t uq.d).trans hlen2.symm
                have hj : z.cs.length - 1 < uq.cs.length := by omega
                have := hc0 (z.cs.length - 1) _ (List.getElem?_eq_getElem hj)
                have := (Array.getElem?_eq_some_iff.1 this).1
                omega
              have hone : ∀ v ∈ z.cs, v.oneCell' = true := Ty.OK_one hzok
              obtain ⟨_, s1, s2, s3, s4, s5, row', r1, r2, r3, r4⟩ := setR_spec k e0 z.cs w o' row0 hrow0 hfit hone
              have hrun := hr.store (w := w) hlen (mkw_cells hz hzok) hone hrow0 hfit
              have hex : (execOp a.eval o).run C.P w = .ok .skip (setR w k o' z.cs) := by
                simp only [execOp, ho, Instr.storeAt, Instr.sureAddr, hpv, hv, Sem.run_bind, Sem.run_pure, Result.andThen_ok, hrun]
              have hlike2 : like z.t uq.t = true := by rw [hzt]; exact hlike
              obtain ⟨D2, K2, F2⟩ := F1.store (w' := setR w k o' z.cs) hr1 hlk hlike2 (v' := v') (by rw [hz]; exact hp) s1 s2 s3 s4 s5 (fun rw0 el hrw => by
                obtain ⟨rfl, rfl⟩ := hrow0.uniq hrw
                exact ⟨row', r1, r2, fun j hj => r3 j (by rw [hlen2]; exact hj), r4⟩)
              rw [hz] at F2
              refine wp_skip' hex (hK D2 Sh _ _ ?_)
              simp only [hd, put_none, St.after, app]
              exact F2.rel
    | _ => cases h

/-- A row out of which a variable is made: a type's, or an array's. -/
def allocRow (T : List (TypeId × TRow)) (t : TypeId) : Option TRow := match tget T t with
  | some r => some r
  | none => arow T t
theorem arow_ok {P : Program} (hT : TabOK P T) {t : TypeId} {r : TRow} (h : arow T t = some r) : ArrOK P T t r := by
  unfold arow at h
  split at h
  · rename_i r' hr'
    split at h
    · split at h
      · rename_i e _ _ re hre
        cases h
        exact (hT e re hre).arr t r hr'
      · cases h
    · cases h
  · cases h
theorem allocRow_ok {P : Program} (hT : TabOK P T) {t : TypeId} {r : TRow} (h : allocRow T t = some r) : r.ty.full = true ∧ ∀ w, (zeroValue t).run P w = .ok (mkw r.ty.agg r.ty.zeroC) w := by
  unfold allocRow at h
  split at h
  · rename_i r' hr'
    cases h
    exact ⟨(hT t r hr').full, fun w => (hT t r hr').zero w⟩
  · have A := arow_ok hT h
    obtain ⟨i, hi, hz⟩ := A.zero
    exact ⟨A.full, fun w => by simp [zeroValue, typeInfo, hi, hz]⟩
theorem sound_alloc (hT : TabOK C.P T) {o : Oper} {t : TypeId} (ho : o.op = .alloc t) {row : TRow} (hrow : allocRow T t = some row) {d : Nat} (hd : o.dst = some d) (hdn : dstOk C.n o.dst = true) {res : Res}
    (h : (allocP row d).go st.roots = some res) : Sound C o st res := by
  intro D Sh a w K Q hR hK
  obtain ⟨hfull, hzero⟩ := allocRow_ok hT hrow
  unfold allocP newP at h
  simp only [Prog.go] at h
  cases hn : st.roots d with
  | some r => rw [hn] at h; cases h
  | none =>
    rw [hn] at h; cases h
    have F0 := hR.F.free (v := ⟨row.ty.own, row.ty.dftD⟩) (Ty.dftD_ok w Sh row.ty hfull) (Ty.dftD_foot row.ty)
    have hcs : DV.cs ⟨row.ty.own, row.ty.dftD⟩ = row.ty.zeroC := Ty.dftD_cs row.ty hfull
    have her : DV.er ⟨row.ty.own, row.ty.dftD⟩ = ⟨row.ty.own, row.ty.own.dft⟩ := congrArg (V.mk _) (Ty.dftD_er row.ty)
    obtain ⟨K1, F1⟩ := F0.land (e := t) (org := none) hn (fun i hi => by cases hi)
    have hone := one_of (t := row.ty.own) (cs := row.ty.zeroC) (by rw [Ty.zeroC_len row.ty hfull, Ty.own_sz]) (by rw [← hcs]; exact Ty.OK_one (Ty.dftD_ok w Sh row.ty hfull))
    have hcell : (mkw row.ty.agg row.ty.zeroC).cells = row.ty.zeroC.toArray := by
      have := cells_mkw (g := row.ty.agg) (cs := row.ty.zeroC) (fun hg => hone (by rw [Ty.own_agg]; exact hg))
      have := congrArg List.toArray this
      rwa [Array.toArray_toList] at this
    have hex : (execOp a.eval o).run C.P w = .ok (.value (.pointer (some ⟨w.heap.size, 0, none⟩))) (w.alloc (.cells row.ty.zeroC.toArray t)) := by
      simp only [execOp, ho, Instr.alloc, Sem.run_bind, hzero, Result.andThen_ok, newVar, newRow, run_newObj, Sem.run_pure, hcell, World.alloc_eq]
    rw [hcs] at F1
    rw [her] at F1
    refine wp_value hex (hK (upt D d ⟨⟨row.ty.own, row.ty.dftD⟩, some w.heap.size, row.ty.zeroC⟩) Sh _ _ ?_)
    rw [hd]
    rw [hd] at hdn
    refine F1.rel.put (by simpa [dstOk, Nat.blt_eq] using hdn) ?_
    have := ptr_of_land (u := ⟨row.ty.own, row.ty.dftD⟩) (w := w.alloc (.cells row.ty.zeroC.toArray t)) (R := st.roots) (D := D) (Sh := Sh) (id := d) (k := w.heap.size) (org := none) (c0 := row.ty.zeroC)
    rw [her] at this
    exact ⟨_, this, rfl⟩

theorem sound_box (hT : TabOK C.P T) {o : Oper} {t : TypeId} {x : Operand} (ho : o.op = .box t x) {row : TRow} (hrow : tget T t = some row) {d : Nat} (hd : o.dst = some d) (hdn : dstOk C.n o.dst = true) {res : Res}
    (h : (boxP row (evalA st.tmps x) d).go st.roots = some res) : Sound C o st res := by
  intro D Sh a w K Q hR hK
  have hr := hT t row hrow
  have he := hR.eval x
  unfold boxP at h
  rw [Prog.go_bind] at h
  cases horg : (orgOf (evalA st.tmps x)).go st.roots with
  | none => rw [horg] at h; cases h
  | some org =>
    rw [horg] at h
    simp only [Prog.go_bind] at h
    cases hq : (takeP row.ty (evalA st.tmps x) []).go st.roots with
    | none => rw [hq] at h; cases h
    | some q =>
      obtain ⟨u, ws1⟩ := q
      rw [hq] at h
      simp only [getR_go] at h
      cases hn : app ws1 st.roots d with
      | some r => rw [hn] at h; cases h
      | none =>
        rw [hn] at h; cases h
        obtain ⟨D1, z, hz, hv, hl, K1, F1⟩ := hR.take he hq
        have hzt : z.t = u.t := by rw [← hz]; rfl
        have hzok : z.OK w Sh := F1.fok z (by simp)
        have hcell := mkw_cells hz hzok
        have hog : ∀ i, org = some i → z.cs = C.pc i := by
          intro i hi
          subst hi
          generalize evalA st.tmps x = ax at he hq horg
          unfold orgOf at horg
          split at horg
          · rename_i id s t'
            simp only [Prog.go] at horg
            cases hr1 : st.roots id with
            | none => rw [hr1] at horg; cases horg
            | some r =>
              rw [hr1] at horg
              simp only [Prog.go, Option.some.injEq] at horg
              cases hb : (Nat.ble s r.log.length && since r.log s 1 (!t'.agg) && since r.log 0 1 false) with
              | false => rw [hb] at horg; cases horg
              | true =>
                rw [hb] at horg
                simp only [Bool.and_eq_true] at hb
                simp only [cond_true] at horg
                obtain ⟨cs, ⟨_, r', hr', _, hal⟩, hval⟩ := he
                rw [hr1] at hr'; cases hr'
                obtain ⟨b, uu, hlook, htt, rfl⟩ := hal hb.1.2
                cases hlook
                have RR := hR.root id r hr1
                have hc0 : (D id).dv.cs = C.pc i := (RR.top hb.2).trans (RR.org i horg)
                have h1 : mkw u.t.agg z.cs = mkw (AV.agg (.al id [] s t')) (D id).dv.cs := hv.symm.trans hval
                have h2 : (mkw u.t.agg z.cs).cells.toList = (mkw t'.agg (D id).dv.cs).cells.toList := congrArg (fun v => v.cells.toList) h1
                rw [hcell, cells_mkw (g := t'.agg) (cs := (D id).dv.cs) (fun hg => one_of (t := (D id).dv.t) (Ty.cs_len _ _) (Ty.OK_one RR.ok) (by rw [htt]; exact hg))] at h2
                rw [h2]; exact hc0
          · simp only [Prog.go, Option.some.injEq] at horg; cases horg
        obtain ⟨K2, F2⟩ := F1.land (e := t) (org := org) hn hog
        have hex : (execOp a.eval o).run C.P w = .ok (.value (.pointer (some ⟨w.heap.size, 0, none⟩))) (w.alloc (.cells z.cs.toArray t)) := by
          have hc2 : (mkw u.t.agg z.cs).cells = z.cs.toArray := by
            have := congrArg List.toArray hcell
            rwa [Array.toArray_toList] at this
          simp only [execOp, ho, Instr.box, hv, newVar, newRow, Sem.run_bind, run_newObj, Result.andThen_ok, Sem.run_pure, hc2, World.alloc_eq]
        rw [hz] at F2
        refine wp_value hex (hK (upt D1 d ⟨z, some w.heap.size, z.cs⟩) Sh _ _ ?_)
        rw [hd]
        rw [hd] at hdn
        refine F2.rel.put (by simpa [dstOk, Nat.blt_eq] using hdn) ?_
        have := ptr_of_land (u := z) (w := w.alloc (.cells z.cs.toArray t)) (R := app ws1 st.roots) (D := D1) (Sh := Sh) (id := d) (k := w.heap.size) (org := org) (c0 := z.cs)
        rw [hz] at this
        exact ⟨_, this, rfl⟩

theorem sound_move {o : Oper} {x : Operand} (ho : o.op = .move x ∨ o.op = .assign x) (hd : dstOk C.n o.dst = true) : Sound C o st ⟨evalA st.tmps x, []⟩ := by
  refine sound_quiet hd (fun D Sh a w hR => ⟨a.eval x, ?_, hR.eval x⟩)
  rcases ho with ho | ho <;> simp only [execOp, ho, Sem.run_pure]
def pickP (c x y : AV) : Prog AV := match c with
  | .sh .bool b => .test (b : Bool) (.ret x) (.ret y)
  | _ => .fail
theorem sound_pick {o : Oper} {c x y : Operand} (ho : o.op = .pick c x y) (hd : dstOk C.n o.dst = true) {av : AV} (h : (pickP (evalA st.tmps c) (evalA st.tmps x) (evalA st.tmps y)).go st.roots = some av) : Sound C o st ⟨av, []⟩ := by
  refine sound_quiet hd (fun D Sh a w hR => ?_)
  have hc := hR.eval c
  unfold pickP at h
  split at h
  · rename_i b hcb
    rw [hcb] at hc
    have hv := avr_bool hc
    cases b with
    | true =>
      have h : some (evalA st.tmps x) = some av := h
      cases h
      exact ⟨a.eval x, by simp [execOp, ho, hv, asBool], hR.eval x⟩
    | false =>
      have h : some (evalA st.tmps y) = some av := h
      cases h
      exact ⟨a.eval y, by simp [execOp, ho, hv, asBool], hR.eval y⟩
  · cases h
theorem run_eq_bool {P : Program} {xt : TypeId} (hu : P.underlying xt = some .bool) (x y : Bool) (w : World) : (Op.equal xt (.bool x) (.bool y)).run P w = .ok (x == y) w := by
  unfold Op.equal
  rw [show Op.maxDepth = 9999 + 1 from rfl, Op.equalIn]
  simp only [Sem.run_bind, run_underlying hu, Result.andThen_ok]
  rfl
def asTT (t : Ty) (v : t.den) (t' : Ty) : Option t'.den := if h : t = t' then some (cast (congrArg Ty.den h) v) else none
def binT (T : List (TypeId × TRow)) (xt : TypeId) (op : BinOp) (x y : AV) : Prog AV := match x, y with
  | .sh .bool _, .sh .bool _ => match tget T xt with
    | some ⟨.bool, _, _⟩ => binP op x y
    | _ => .fail
  | .sh (.cons a r) u, .sh t v => match tget T xt with
    | some row => bif (Ty.cons a r).ints && decide (row.ty = .cons a r) then match asTT t v (.cons a r) with
      | some v => match op with
        | .eql => .ret (.sh .bool ((Ty.cons a r).eqX u v))
        | .neq => .ret (.sh .bool !((Ty.cons a r).eqX u v))
        | _ => .fail
      | none => .fail
      else .fail
    | none => .fail
  | _, _ => binP op x y
theorem sound_bin (hT : TabOK C.P T) {o : Oper} {op : BinOp} {xt yt : TypeId} {x y : Operand} (ho : o.op = .binOp op xt x y yt) (hd : dstOk C.n o.dst = true) {av : AV}
    (h : (binT T xt op (evalA st.tmps x) (evalA st.tmps y)).go st.roots = some av) : Sound C o st ⟨av, []⟩ := by
  refine sound_quiet hd (fun D Sh a w hR => ?_)
  have hx := hR.eval x
  have hy := hR.eval y
  have key : ∀ (vx vy v : Value), a.eval x = vx → a.eval y = vy → (match vx, vy with
      | .nilIface, .nilIface => False
      | .agg _, .agg _ => False
      | _, _ => True) → (binOp op xt vx vy).run C.P w = .ok v w → (execOp a.eval o).run C.P w = .ok (.value v) w := by
    intro vx vy v e1 e2 hm hrun
    simp only [execOp, ho, e1, e2, Sem.run_bind, run_eqGuard op xt x y hm, Result.andThen_ok, hrun, Sem.run_pure]
  unfold binT at h
  split at h
  · rename_i b c hbx hby
    split at h
    · rename_i bt fs hrow
      have hu : C.P.underlying xt = some .bool := (hT xt _ hrow).desc
      rw [hbx] at hx; rw [hby] at hy
      rw [hbx, hby] at h
      have e1 := avr_bool hx
      have e2 := avr_bool hy
      unfold binP at h
      cases op <;> simp only [Prog.go] at h <;> try (cases h; done)
      · cases h
        refine ⟨_, key _ _ (.bool ((b : Bool) == (c : Bool))) e1 e2 trivial ?_, mk_bool _⟩
        show ((Op.equal xt (.bool b) (.bool c)) >>= fun z => (pure (.bool z) : Sem Value)).run C.P w = _
        rw [Sem.run_bind, run_eq_bool hu]; rfl
      · cases h
        refine ⟨_, key _ _ (.bool (!((b : Bool) == (c : Bool)))) e1 e2 trivial ?_, mk_bool _⟩
        show ((Op.equal xt (.bool b) (.bool c)) >>= fun z => (pure (.bool !z) : Sem Value)).run C.P w = _
        rw [Sem.run_bind, run_eq_bool hu]; rfl
    · cases h
  · rename_i ta tr u t v hbx hby
    rw [hbx] at hx; rw [hby] at hy
    split at h
    · rename_i row hrow
      cases hb : ((Ty.cons ta tr).ints && decide (row.ty = .cons ta tr)) with
      | false => rw [hb] at h; cases h
      | true =>
        rw [hb] at h
        rw [Bool.and_eq_true] at hb
        have hty := of_decide_eq_true hb.2
        simp only [cond_true] at h
        split at h
        · rename_i v' hv'
          unfold asTT at hv'
          split at hv'
          · rename_i ht
            subst ht
            cases hv'
            obtain ⟨cu, hu, e1⟩ := hx
            obtain ⟨cv, hv, e2⟩ := hy
            have e1 : a.eval x = .agg cu.toArray := e1
            have e2 : a.eval y = .agg cv.toArray := e2
            obtain ⟨q1, q2⟩ := run_eqStruct hT hrow hty hb.1 (Sh := Sh) (w := w) hu hv
            cases op <;> simp only [Prog.go] at h <;> try (cases h; done)
            · cases h
              refine ⟨.bool ((Ty.cons ta tr).eqX u v), ?_, mk_bool _⟩
              simp only [execOp, ho, e1, e2, Sem.run_bind, q1, Result.andThen_ok, run_eql_struct, q2, Sem.run_pure]
            · cases h
              refine ⟨.bool (!(Ty.cons ta tr).eqX u v), ?_, mk_bool _⟩
              simp only [execOp, ho, e1, e2, Sem.run_bind, q1, Result.andThen_ok, run_neq_struct, q2, Sem.run_pure]
          · cases hv'
        · cases h
    · cases h
  · unfold binP at h
    split at h
    · rename_i k m k' n hbx hby
      rw [hbx] at hx; rw [hby] at hy
      have e1 := avr_int hx
      have e2 := avr_int hy
      cases hs : isShift op with
      | true =>
        rw [hs] at h
        obtain ⟨v, hv, hr⟩ := run_shiftOp (P := C.P) (w := w) (k' := k') h (Sh := Sh) (D := D)
        refine ⟨v, key _ _ v e1 e2 trivial ?_, hr⟩
        cases op <;> first | exact hv | cases hs
      | false =>
        rw [hs] at h
        simp only [cond_false] at h
        cases hk : decide (k = k') with
        | false => rw [hk] at h; cases h
        | true =>
          rw [hk] at h
          have hkk := of_decide_eq_true hk
          subst hkk
          obtain ⟨v, hv, hr⟩ := run_intOp (P := C.P) (w := w) h (Sh := Sh) (D := D)
          refine ⟨v, key _ _ v e1 e2 trivial ?_, hr⟩
          cases op <;> first | (simp only [binOp, ne_eq, not_true, if_false]; exact hv) | cases hs
    · rename_i hne _ _ _ b c hbx hby; exact (hne _ _ hbx hby).elim
    · rename_i b c hbx hby
      rw [hbx] at hx; rw [hby] at hy
      have e1 := avr_str hx
      have e2 := avr_str hy
      cases op <;> simp only [Prog.go] at h <;> try (cases h; done)
      · cases hsz : decide ((b : ByteArray).size + (c : ByteArray).size ≤ 9223372036854775807) with
        | false => rw [hsz] at h; cases h
        | true =>
          rw [hsz] at h; cases h
          have hsz := of_decide_eq_true hsz
          refine ⟨_, key _ _ (.string ((b : ByteArray) ++ (c : ByteArray))) e1 e2 trivial ?_, mk_str _⟩
          show (Op.stringOp .add b c).run C.P w = _
          unfold Op.stringOp
          simp only
          rw [if_neg (by rw [show IntKind.i64.max = 9223372036854775807 from rfl]; omega)]
          rfl
      · cases h
        exact ⟨_, key _ _ (.bool ((b : ByteArray).toList == (c : ByteArray).toList)) e1 e2 trivial rfl, mk_bool _⟩
      · cases h
        exact ⟨_, key _ _ (.bool (!((b : ByteArray).toList == (c : ByteArray).toList))) e1 e2 trivial rfl, mk_bool _⟩
    · cases h
theorem sound_un {o : Oper} {op : UnOp} {xt : TypeId} {x : Operand} (ho : o.op = .unOp op xt x) (hd : dstOk C.n o.dst = true) {av : AV} (h : (unP op (evalA st.tmps x)).go st.roots = some av) : Sound C o st ⟨av, []⟩ := by
  refine sound_quiet hd (fun D Sh a w hR => ?_)
  have hx := hR.eval x
  unfold unP at h
  split at h
  · rename_i k m hbx
    rw [hbx] at hx
    have e1 := avr_int hx
    cases h
    exact ⟨_, by simp only [execOp, ho, e1, Op.unary, Op.intArith, Sem.run_bind, Sem.run_pure, Result.andThen_ok], mk_int _ _⟩
  · rename_i k m hbx
    rw [hbx] at hx
    have e1 := avr_int hx
    cases h
    exact ⟨_, by simp only [execOp, ho, e1, Op.unary, Op.intBits, Sem.run_bind, Sem.run_pure, Result.andThen_ok, ibits], mk_int _ _⟩
  · rename_i b hbx
    rw [hbx] at hx
    have e1 := avr_bool hx
    cases h
    exact ⟨_, by simp only [execOp, ho, e1, Op.unary, Sem.run_bind, Sem.run_pure, Result.andThen_ok], mk_bool _⟩
  · cases h
end
end Go.Proofs.YtipaepbmdooekaaGreatDoor.Vm

/- Operations: elements, lengths, cuts, parts of tuples and structs. -/
namespace Go.Proofs.YtipaepbmdooekaaGreatDoor.Vm
open Go Go.RowKit
set_option linter.unusedVariables false

def nthA : AV → Nat → Option AV
  | .consf a _, 0 => some a
  | .consf _ b, i + 1 => nthA b i
  | _, _ => none
def extractP (x : AV) (i : Nat) : Prog AV := match x with
  | .tup c => match nthA c i with
    | some a => .ret a
    | none => .fail
  | _ => .fail
/-- The size of an element of a slice type, as the table has it. -/
def elemSz (row : TRow) : Option (TypeId × Ty) := match row.ty with
  | .sl _ e te => some (e, te)
  | _ => none
def inb (i : Int) (n : Nat) : Bool := decide (0 ≤ i) && decide (i < (n : Int))
def within {α : Type} (i : Int) (n : Nat) (k : Prog α) : Prog α := .test (inb i n) k .fail
def indexAddrP (row : TRow) (x i : AV) : Prog AV := match elemSz row, i with
  | some (_, re), .sh (.int _) n => match x with
    | .sh (.sl _ e te) xs => bif Nat.beq te.sz re.sz then within n (List.length xs) (.ret (.sptr te (List.getD xs (Int.toNat n) te.dft))) else .fail
    | .al id p s (.sl true e te) => bif Nat.beq te.sz re.sz then withR id s (depth p + 1) true fun r => match getV r.v p with
      | some ⟨.sl true _ _, xs⟩ => within n (List.length xs) (.ret (.ptr id (p ++ [.idx (Int.toNat n)]) r.log.length))
      | _ => .fail else .fail
    | .cut id p s (.sl true e te) lo m => bif Nat.beq te.sz re.sz then withR id s (depth p + 1) true fun r => within n m (.ret (.ptr id (p ++ [.idx (lo + Int.toNat n)]) r.log.length)) else .fail
    | _ => .fail
  | _, _ => .fail
/-- Element n of an array in a variable: each place by itself. -/
def arrT : Ty → Nat → Int → (Nat → Prog AV) → Prog AV
  | .cons _ r, k, n, f => .test (n == (k : Int)) (f k) (arrT r (k + 1) n f)
  | _, _, _, _ => .fail
def arrAddrP (row : TRow) (x i : AV) : Prog AV := match x, i with
  | .ptr id p s, .sh (.int _) n => withR id s (depth p) true fun r => match getV r.v p with
    | some v => bif decide (v.t = row.ty) then arrT row.ty 0 n (fun k => .ret (.ptr id (p ++ fldP k) r.log.length)) else .fail
    | none => .fail
  | _, _ => .fail
def idxP (T : List (TypeId × TRow)) (t : TypeId) (x i : AV) : Prog AV := match tget T t with
  | some row => indexAddrP row x i
  | none => match arow T t with
    | some row => arrAddrP row x i
    | none => .fail
def lenP (row : TRow) (x : AV) : Prog AV := match x with
  | .sh (.sl _ _ _) xs => bif !row.ty.agg && (elemSz row).isSome then .ret (.sh (.int .i64) ((List.length xs : Nat) : Int)) else .fail
  | .nilsl => bif (elemSz row).isSome then .ret (.sh (.int .i64) 0) else .fail
  | .sh .str b => bif decide (row.ty = .str) then .ret (.sh (.int .i64) (((b : ByteArray).size : Nat) : Int)) else .fail
  | .al id p s (.sl true e te) => bif (elemSz row).isSome then withR id s (depth p + 1) true fun r => match getV r.v p with
    | some ⟨.sl true _ _, xs⟩ => .ret (.sh (.int .i64) ((List.length xs : Nat) : Int))
    | _ => .fail else .fail
  | .cut id p s _ lo m => bif (elemSz row).isSome then withR id s (depth p + 1) true fun r => .ret (.sh (.int .i64) (m : Int)) else .fail
  | _ => .fail

section
variable {C : Ctx} {st : St} {D : Nat → DRoot} {Sh : Nat → Prop} {F : List DV} {a : Act} {w w' : World} {T : List (TypeId × TRow)}

theorem avl_nth {R : Nat → Option Root} : ∀ {c : AV} {vs : List Value} {i : Nat} {x : AV}, AVL w Sh R D c vs → nthA c i = some x → ∃ v, vs[i]? = some v ∧ AVR w Sh R D x v
  | .consf a b, vs, 0, x, h, hi => by
    obtain ⟨v, vs', rfl, h0, h1⟩ := h
    cases hi
    exact ⟨v, rfl, avr_of_avs h0⟩
  | .consf a b, vs, i + 1, x, h, hi => by
    obtain ⟨v, vs', rfl, h0, h1⟩ := h
    obtain ⟨v', e1, e2⟩ := avl_nth (c := b) (vs := vs') (i := i) h1 hi
    exact ⟨v', by simpa using e1, e2⟩
  | .any, vs, i, x, h, hi | .sh _ _, vs, i, x, h, hi | .nilsl, vs, i, x, h, hi | .al _ _ _ _, vs, i, x, h, hi | .cut _ _ _ _ _ _, vs, i, x, h, hi | .nilf, vs, i, x, h, hi | .ptr _ _ _, vs, i, x, h, hi | .sptr _ _, vs, i, x, h, hi | .fn _ _, vs, i, x, h, hi | .tup _, vs, i, x, h, hi => by simp only [nthA] at hi; cases hi
theorem sound_extract {o : Oper} {x : Operand} {i : Nat} (ho : o.op = .extract x i) (hd : dstOk C.n o.dst = true) {av : AV} (h : (extractP (evalA st.tmps x) i).go st.roots = some av) : Sound C o st ⟨av, []⟩ := by
  refine sound_quiet hd (fun D Sh a w hR => ?_)
  have hx := hR.eval x
  unfold extractP at h
  split at h
  · rename_i c hc
    rw [hc] at hx
    obtain ⟨vs, hv, hl⟩ := hx
    cases hn : nthA c i with
    | none => rw [hn] at h; cases h
    | some y =>
      rw [hn] at h; cases h
      obtain ⟨v, h1, h2⟩ := avl_nth hl hn
      exact ⟨v, by simp only [execOp, ho, hv, Instr.extract, List.getElem?_toArray, h1, Sem.run_bind, Sem.run_pure, Result.andThen_ok], h2⟩
  · cases h

theorem within_go {α : Type} {i : Int} {n : Nat} {k : Prog α} {R : Nat → Option Root} {x : α} (h : (within i n k).go R = some x) : 0 ≤ i ∧ i < n ∧ k.go R = some x := by
  unfold within at h
  simp only [Prog.go] at h
  cases h1 : inb i n with
  | false => rw [h1] at h; cases h
  | true =>
    rw [h1] at h
    simp only [inb, Bool.and_eq_true, decide_eq_true_eq] at h1
    exact ⟨h1.1, h1.2, h⟩
theorem RowOK.elem {P : Program} {t : TypeId} {r : TRow} (h : RowOK P T t r) {e : TypeId} {te : Ty} (he : elemSz r = some (e, te)) : P.underlying t = some (.slice e) ∧ (∃ re, tget T e = some re ∧ re.ty = te) ∧ te.sz ≠ 0 ∧ te.plain = true := by
  have d := h.desc
  unfold elemSz at he
  unfold DescOK at d
  split at he
  · rename_i hty
    cases he
    rw [hty] at d
    obtain ⟨_, h1, re, h2, h3, h4, h5⟩ := d
    exact ⟨h1, ⟨re, h2, h3⟩, h4, h5⟩
  · cases he
/-- The slice that a slot holds, own. -/
theorem al_slice {R : Nat → Option Root} {id : Nat} {p : Path} {s : Nat} {e : TypeId} {te : Ty} {v : Value} {r : Root} (h : AVR w Sh R D (.al id p s (.sl true e te)) v) (hr : R id = some r) (hs : since r.log s (depth p + 1) true = true) :
    ∃ b A c ds, lookD (D id).dv (D id).base p = some (b, ⟨.sl true e te, ((A, c), ds)⟩) ∧ v = .slice A ds.length c := by
  obtain ⟨cs, ⟨_, r', hr', _, hal⟩, rfl⟩ := h
  rw [hr] at hr'; cases hr'
  obtain ⟨b, ⟨t, d⟩, hl, ht, rfl⟩ := hal hs
  cases ht
  obtain ⟨⟨A, c⟩, ds⟩ := d
  exact ⟨b, A, c, ds, hl, rfl⟩
theorem own_some {e : TypeId} {te : Ty} {A : Option Addr} {c : Nat} {ds : List te.dec} (hok : DV.OK w Sh ⟨.sl true e te, ((A, c), ds)⟩) {i : Nat} (hi : i < ds.length) : ∃ k o, A = some ⟨k, o, none⟩ := by
  rcases hok with ⟨h1, h2⟩ | ⟨b, o, row, hA, _⟩
  · have h2 : ds = [] := h2
    subst h2; cases hi
  · exact ⟨b, o, hA⟩
theorem sound_indexAddr (hT : TabOK C.P T) {o : Oper} {t : TypeId} {x i : Operand} (ho : o.op = .indexAddr t x i) {row : TRow} (hrow : tget T t = some row) {av : AV} (hd : dstOk C.n o.dst = true)
    (h : (indexAddrP row (evalA st.tmps x) (evalA st.tmps i)).go st.roots = some av) : Sound C o st ⟨av, []⟩ := by
  refine sound_quiet hd (fun D Sh a w hR => ?_)
  have hx := hR.eval x
  have hi := hR.eval i
  unfold indexAddrP at h
  split at h
  case h_2 => cases h
  rename_i e0 re k n he hin
  rw [hin] at hi
  have hiv := avr_int hi
  obtain ⟨hu, ⟨rre, hre1, hre2⟩, hre3, _⟩ := (hT t row hrow).elem he
  have hsz := (hT _ _ hre1).sizeOf w
  rw [hre2] at hsz
  have hex : ∀ (b o' m c : Nat), a.eval x = .slice (some ⟨b, o', none⟩) m c → 0 ≤ n → n < (m : Int) → (execOp a.eval o).run C.P w = .ok (.value (.pointer (some ⟨b, o' + n.toNat * re.sz, none⟩))) w := by
    intro b o' m c hxv h0 h1
    simp only [execOp, ho, Instr.indexAt, hxv, hiv, asIntOf, Sem.run_bind, Sem.run_pure, Result.andThen_ok, run_underlying hu, hsz, add_at, if_pos (And.intro h0 h1)]
  split at h
  · rename_i oo e te xs hxs
    rw [hxs] at hx
    cases hb : Nat.beq te.sz re.sz with
    | false => rw [hb] at h; cases h
    | true =>
      rw [hb] at h
      have hte := Nat.eq_of_beq_eq_true hb
      obtain ⟨h0, h1, h⟩ := within_go h
      cases h
      obtain ⟨cs, ⟨A, c, rfl, hl, hm, hr⟩, hv⟩ := hx
      have hlt : n.toNat < List.length xs := by omega
      obtain ⟨b, o', rfl, hbs, cc, hRR, hc⟩ := hr n.toNat _ (List.getElem?_eq_getElem hlt)
      refine ⟨_, hex b o' _ c hv h0 h1, ⟨_, ⟨b, o' + n.toNat * re.sz, cc, rfl, hbs, ?_, fun j u hj => ?_⟩, rfl⟩⟩
      · rw [List.getD_eq_getElem?_getD, List.getElem?_eq_getElem hlt]; exact hRR
      · rw [← hte]; exact hc j u hj
  · rename_i id p s e te hxs
    rw [hxs] at hx
    cases hb : Nat.beq te.sz re.sz with
    | false => rw [hb] at h; cases h
    | true =>
      rw [hb] at h
      have hte := Nat.eq_of_beq_eq_true hb
      obtain ⟨r, hr1, hs1, hs2, h⟩ := withR_go h
      obtain ⟨b, A, c, ds, hl, hv⟩ := al_slice hx hr1 hs2
      obtain ⟨hgv, hok, _⟩ := hR.look hr1 hl
      simp only [hgv] at h
      obtain ⟨h0, h1, h⟩ := within_go h
      cases h
      have hlen : (Ty.er (.sl true e te) ((A, c), ds)).length = ds.length := by simp only [Ty.er, List.length_map]
      have h0' : (0 : Int) ≤ (n : Int) := h0
      have h1' : (n : Int) < (ds.length : Int) := by rw [← hlen]; exact h1
      have hlt : Int.toNat n < ds.length := (Int.toNat_lt h0').2 h1'
      obtain ⟨k', o', rfl⟩ := own_some hok hlt
      refine ⟨_, hex k' o' _ c hv h0 h1', mk_ptr (u := ⟨te, ds[n.toNat]⟩) hr1 ?_⟩
      rw [lookD_append, hl]
      simp only [lookD, List.getElem?_eq_getElem hlt, hte]
  · rename_i id p s e te lo m hxs
    rw [hxs] at hx
    cases hb : Nat.beq te.sz re.sz with
    | false => rw [hb] at h; cases h
    | true =>
      rw [hb] at h
      have hte := Nat.eq_of_beq_eq_true hb
      obtain ⟨r, hr1, hs1, hs2, h⟩ := withR_go h
      obtain ⟨h0, h1, h⟩ := within_go h
      cases h
      obtain ⟨cs, ⟨r', hr', _, hcut⟩, hv⟩ := hx
      rw [hr1] at hr'; cases hr'
      obtain ⟨b, e2, te2, A, c, ds, htt, hl, hlm, A', rfl, hA⟩ := hcut hs2
      cases htt
      have hlt : lo + n.toNat < ds.length := by omega
      rcases hA with hA | ⟨k', o', rfl, rfl⟩
      · omega
      · have hp := hex k' (o' + lo * te.sz) m (c - lo) hv h0 h1
        rw [show o' + lo * te.sz + n.toNat * re.sz = o' + (lo + n.toNat) * te.sz by rw [hte, Nat.add_mul]; omega] at hp
        refine ⟨_, hp, mk_ptr (u := ⟨te, ds[lo + n.toNat]⟩) hr1 ?_⟩
        rw [lookD_append, hl]
        simp only [lookD, List.getElem?_eq_getElem hlt]
  · cases h

theorem arrT_go {f : Nat → Prog AV} {n : Int} {R : Nat → Option Root} {av : AV} {te : Ty} : ∀ {ty : Ty} {k m : Nat}, isArr te m ty = true → (arrT ty k n f).go R = some av → ∃ j, k ≤ j ∧ j < k + m ∧ n = (j : Int) ∧ (f j).go R = some av
  | .cons a r, k, 0, hm, h => by cases hm
  | .cons a r, k, m + 1, hm, h => by
    simp only [isArr, Bool.and_eq_true] at hm
    simp only [arrT, Prog.go] at h
    cases hb : (n == (k : Int)) with
    | true => rw [hb] at h; exact ⟨k, Nat.le_refl _, by omega, by simpa using hb, h⟩
    | false =>
      rw [hb] at h
      obtain ⟨j, h1, h2, h3, h4⟩ := arrT_go (k := k + 1) hm.2 h
      exact ⟨j, by omega, by omega, h3, h4⟩
  | .int _, _, _, _, h | .bool, _, _, _, h | .str, _, _, _, h | .hole, _, _, _, h | .sl _ _ _, _, _, _, h | .nil, _, _, _, h => by cases h
theorem look_arr {te : Ty} : ∀ {m k : Nat} {t : Ty} {d : t.dec} {b o : Nat}, isArr te m t = true → k < m → ∃ u, lookD ⟨t, d⟩ (some (b, o)) (fldP k) = some (some (b, o + k * te.sz), u)
  | m + 1, 0, .cons a r, d, b, o, hm, hk => ⟨⟨a, d.1⟩, by rw [Nat.zero_mul]; rfl⟩
  | m + 1, k + 1, .cons a r, d, b, o, hm, hk => by
    simp only [isArr, Bool.and_eq_true, decide_eq_true_eq] at hm
    obtain ⟨u, hu⟩ := look_arr (t := r) (d := d.2) (b := b) (o := o + a.sz) hm.2 (by omega : k < m)
    refine ⟨u, ?_⟩
    rw [show o + (k + 1) * te.sz = o + a.sz + k * te.sz by rw [hm.1, Nat.add_mul]; omega]
    exact hu
  | 0, k, t, d, b, o, hm, hk => by omega
  | m + 1, k, .int _, d, b, o, hm, hk | m + 1, k, .bool, d, b, o, hm, hk | m + 1, k, .str, d, b, o, hm, hk | m + 1, k, .hole, d, b, o, hm, hk | m + 1, k, .sl _ _ _, d, b, o, hm, hk | m + 1, k, .nil, d, b, o, hm, hk => by cases hm
theorem sound_idx (hT : TabOK C.P T) {o : Oper} {t : TypeId} {x i : Operand} (ho : o.op = .indexAddr t x i) {av : AV} (hd : dstOk C.n o.dst = true)
    (h : (idxP T t (evalA st.tmps x) (evalA st.tmps i)).go st.roots = some av) : Sound C o st ⟨av, []⟩ := by
  unfold idxP at h
  split at h
  · rename_i row hrow; exact sound_indexAddr hT ho hrow hd h
  · split at h
    case h_2 => cases h
    rename_i row hrow
    obtain ⟨_, _, e, n, re, _, hu, hre, hia⟩ := arow_ok hT hrow
    refine sound_quiet hd (fun D Sh a w hR => ?_)
    have hx := hR.eval x
    have hi := hR.eval i
    unfold arrAddrP at h
    split at h
    case h_2 => cases h
    rename_i id p s k m hxs his
    rw [hxs] at hx
    rw [his] at hi
    have hiv := avr_int hi
    obtain ⟨r, hr1, hs1, hs2, h⟩ := withR_go h
    obtain ⟨kk, o', u, hl, hv⟩ := ptr_look hx hr1 hs2
    obtain ⟨hgv, _, _⟩ := hR.look hr1 hl
    simp only [hgv] at h
    cases hb : decide (u.er.t = row.ty) with
    | false => rw [hb] at h; cases h
    | true =>
      rw [hb] at h
      have hty : u.t = row.ty := of_decide_eq_true hb
      obtain ⟨j, _, hj, rfl, hj'⟩ := arrT_go hia (show (arrT row.ty 0 m fun k => Prog.ret (AV.ptr id (p ++ fldP k) r.log.length)).go st.roots = some av from h)
      cases hj'
      obtain ⟨u', hu'⟩ := look_arr (t := u.t) (d := u.d) (b := kk) (o := o') (by rw [hty]; exact hia) (by omega : j < n)
      refine ⟨.pointer (some ⟨kk, o' + j * re.ty.sz, none⟩), ?_, mk_ptr hr1 (u := u') (by rw [lookD_append, hl]; exact hu')⟩
      · have hsz := (hT _ _ hre).sizeOf w
        simp only [execOp, ho, Instr.indexAt, hv, hiv, asIntOf, Instr.sureAddr, Sem.run_bind, Sem.run_pure, Result.andThen_ok, run_underlying hu, add_at, Int.toNat_natCast]
        rw [if_pos ⟨by omega, by omega⟩]
        simp only [Sem.run_bind, hsz, Result.andThen_ok, Sem.run_pure]
theorem run_len {P : Program} {t : TypeId} {ty : TypeId} {o : Oper} {x : Operand} (ho : o.op = .call { callee := .builtin .len, args := #[x], argTypes := #[t] }) {a : Act} {w : World} {n : Nat}
    (h : (∃ e A c, P.underlying t = some (.slice e) ∧ a.eval x = .slice A n c) ∨ (∃ b : ByteArray, P.underlying t = some .string ∧ a.eval x = .string b ∧ n = b.size)) : (execOp a.eval o).run P w = .ok (.value (.int .i64 n)) w := by
  rcases h with ⟨e, A, c, hu, hx⟩ | ⟨b, hu, hx, rfl⟩
  · simp [execOp, ho, resolve, invoke, builtin, Builtin.len_, hx, run_underlying hu, goInt]
  · simp [execOp, ho, resolve, invoke, builtin, Builtin.len_, hx, run_underlying hu, goInt]
theorem quiet_len (hT : TabOK C.P T) {o : Oper} {t : TypeId} {x : Operand} (ho : o.op = .call { callee := .builtin .len, args := #[x], argTypes := #[t] }) {row : TRow} (hrow : tget T t = some row) {av : AV} (hd : dstOk C.n o.dst = true)
    (h : (lenP row (evalA st.tmps x)).go st.roots = some av) : Quiet C o st av := by
  intro D Sh a w hR
  have hx := hR.eval x
  have hsl : (elemSz row).isSome = true → ∃ e, C.P.underlying t = some (.slice e) := by
    intro hs
    cases he : elemSz row with
    | none => rw [he] at hs; cases hs
    | some z => exact ⟨_, ((hT t row hrow).elem he).1⟩
  unfold lenP at h
  split at h
  · rename_i oo e te xs hxs
    rw [hxs] at hx
    cases hb : (!row.ty.agg && (elemSz row).isSome) with
    | false => rw [hb] at h; cases h
    | true =>
      rw [hb] at h; cases h
      rw [Bool.and_eq_true] at hb
      obtain ⟨e', hu⟩ := hsl hb.2
      obtain ⟨cs, ⟨A, c, rfl, _⟩, hv⟩ := hx
      exact ⟨_, run_len (ty := 0) ho (.inl ⟨e', A, c, hu, hv⟩), mk_int _ _⟩
  · rename_i hxs
    rw [hxs] at hx
    cases hb : (elemSz row).isSome with
    | false => rw [hb] at h; cases h
    | true =>
      rw [hb] at h; cases h
      obtain ⟨e', hu⟩ := hsl hb
      obtain ⟨cs, rfl, hv⟩ := hx
      exact ⟨_, run_len (ty := 0) (n := 0) ho (.inl ⟨e', none, 0, hu, hv⟩), mk_int _ _⟩
  · rename_i b hxs
    rw [hxs] at hx
    cases hb : decide (row.ty = .str) with
    | false => rw [hb] at h; cases h
    | true =>
      rw [hb] at h; cases h
      have hty := of_decide_eq_true hb
      have d := (hT t row hrow).desc
      unfold DescOK at d
      rw [hty] at d
      exact ⟨_, run_len (ty := 0) ho (.inr ⟨b, d, avr_str hx, rfl⟩), mk_int _ _⟩
  · rename_i id p s e te hxs
    rw [hxs] at hx
    cases hb : (elemSz row).isSome with
    | false => rw [hb] at h; cases h
    | true =>
      rw [hb] at h
      obtain ⟨e', hu⟩ := hsl hb
      obtain ⟨r, hr1, hs1, hs2, h⟩ := withR_go h
      obtain ⟨b, A, c, ds, hl, hv⟩ := al_slice hx hr1 hs2
      obtain ⟨hgv, hok, _⟩ := hR.look hr1 hl
      simp only [hgv] at h
      cases h
      have hlen : (Ty.er (.sl true e te) ((A, c), ds)).length = ds.length := by simp only [Ty.er, List.length_map]
      refine ⟨_, run_len (ty := 0) ho (.inl ⟨e', A, c, hu, hv⟩), ?_⟩
      show AVR w Sh st.roots D (.sh (.int .i64) (((Ty.er (.sl true e te) ((A, c), ds)).length : Nat) : Int)) _
      rw [hlen]; exact mk_int _ _
  · rename_i id p s tt lo m hxs
    rw [hxs] at hx
    cases hb : (elemSz row).isSome with
    | false => rw [hb] at h; cases h
    | true =>
      rw [hb] at h
      obtain ⟨r, hr1, hs1, hs2, h⟩ := withR_go h
      cases h
      obtain ⟨e', hu⟩ := hsl hb
      obtain ⟨cs, ⟨r', hr', _, hcut⟩, hv⟩ := hx
      rw [hr1] at hr'; cases hr'
      obtain ⟨b, e2, te2, A, c, ds, htt, hl, hlm, A', rfl, hA⟩ := hcut hs2
      exact ⟨_, run_len (ty := 0) ho (.inl ⟨e', A', c - lo, hu, hv⟩), mk_int _ _⟩
  · cases h
theorem sound_len (hT : TabOK C.P T) {o : Oper} {t : TypeId} {x : Operand} (ho : o.op = .call { callee := .builtin .len, args := #[x], argTypes := #[t] }) {row : TRow} (hrow : tget T t = some row) {av : AV} (hd : dstOk C.n o.dst = true)
    (h : (lenP row (evalA st.tmps x)).go st.roots = some av) : Sound C o st ⟨av, []⟩ := sound_quiet hd (quiet_len hT ho hrow hd h)
end
end Go.Proofs.YtipaepbmdooekaaGreatDoor.Vm

/- Operations: structs and slices that are built, made. -/
namespace Go.Proofs.YtipaepbmdooekaaGreatDoor.Vm
open Go Go.RowKit
set_option linter.unusedVariables false

theorem foldl_put : ∀ (l : List Value) (s off : Nat) (arr : Array Value), off + s + l.length ≤ arr.size →
    ((l.zipIdx s).foldl (fun (cs : Array Value) (p : Value × Nat) => cs.setIfInBounds (off + p.2) p.1) arr).toList = arr.toList.take (off + s) ++ l ++ arr.toList.drop (off + s + l.length)
  | [], s, off, arr, _ => by simp
  | v :: l, s, off, arr, h => by
    simp only [List.length_cons] at h
    simp only [List.zipIdx_cons, List.foldl_cons]
    rw [foldl_put l (s + 1) off _ (by simp; omega)]
    have hlt : off + s < arr.toList.length := by rw [Array.length_toList]; omega
    simp only [Array.toList_setIfInBounds, List.length_cons]
    rw [show off + (s + 1) = off + s + 1 by omega, show off + s + 1 + l.length = off + s + (l.length + 1) by omega]
    rw [List.take_set, List.drop_set_of_lt (by omega)]
    have : (arr.toList.take (off + s + 1)).set (off + s) v = arr.toList.take (off + s) ++ [v] := by
      rw [List.take_succ_eq_append_getElem hlt, List.set_append_right _ _ (by simp; omega)]
      simp [Nat.min_eq_left (show off + s ≤ arr.size by omega)]
    rw [this]
    simp

theorem drop_at (a b c : List Value) : (a ++ b ++ c).drop (a.length + b.length) = c := by rw [← List.length_append, List.drop_left]
theorem take_at (a b c : List Value) : (a ++ b ++ c).take a.length = a := by rw [List.append_assoc, List.take_left]
def putL : List (Nat × List Value) → List (List Value) → List (List Value)
  | [], L => L
  | (i, c) :: ps, L => putL ps (L.set i c)
theorem flatten_split {L : List (List Value)} {i : Nat} {c : List Value} (h : L[i]? = some c) : L.flatten = (L.take i).flatten ++ c ++ (L.drop (i + 1)).flatten := by
  have hlt := (List.getElem?_eq_some_iff.1 h).1
  have e := (List.getElem?_eq_some_iff.1 h).2
  conv => lhs; rw [← List.take_append_drop i L, List.drop_eq_getElem_cons hlt, e]
  simp
theorem flatten_set {L : List (List Value)} {i : Nat} {c d : List Value} (h : L[i]? = some c) : (L.set i d).flatten = (L.take i).flatten ++ d ++ (L.drop (i + 1)).flatten := by
  have hlt := (List.getElem?_eq_some_iff.1 h).1
  rw [flatten_split (L := L.set i d) (i := i) (c := d) (by rw [List.getElem?_set_self hlt]), List.take_set_of_le (Nat.le_refl _), List.drop_set_of_lt (by omega)]
/-- Parts are put at their places. -/
theorem fill_spec (place : Nat → Option (Nat × Nat)) : ∀ (ps : List (Nat × Value)) (L : List (List Value)) (arr : Array Value), arr.toList = L.flatten →
    (∀ i v, (i, v) ∈ ps → ∃ c, L[i]? = some c ∧ v.cells.size = c.length) → (∀ i c, L[i]? = some c → place i = some (((L.take i).flatten.length), c.length)) →
    ∃ arr', Instr.fill place arr ps = some arr' ∧ arr'.toList = (putL (ps.map fun p => (p.1, p.2.cells.toList)) L).flatten
  | [], L, arr, ha, _, _ => ⟨arr, rfl, ha⟩
  | (i, v) :: ps, L, arr, ha, hp, hpl => by
    obtain ⟨c, hc, hsz⟩ := hp i v (by simp)
    have hpi := hpl i c hc
    have hvl : v.cells.toList.length = c.length := by rw [Array.length_toList]; exact hsz
    have hfit : (L.take i).flatten.length + v.cells.size ≤ arr.size := by
      have e1 : arr.size = ((L.take i).flatten ++ c ++ (L.drop (i + 1)).flatten).length := by rw [← flatten_split hc, ← ha, Array.length_toList]
      rw [List.length_append, List.length_append] at e1
      omega
    have hlt := (List.getElem?_eq_some_iff.1 hc).1
    let arr1 := v.cells.zipIdx.foldl (fun cs (c, j) => cs.setIfInBounds ((L.take i).flatten.length + j) c) arr
    have harr1 : arr1.toList = (L.set i v.cells.toList).flatten := by
      have h1 := foldl_put v.cells.toList 0 (L.take i).flatten.length arr (by rw [hvl]; omega)
      have h2 : arr1 = (v.cells.toList.zipIdx 0).foldl (fun (cs : Array Value) (p : Value × Nat) => cs.setIfInBounds ((L.take i).flatten.length + p.2) p.1) arr := by
        show v.cells.zipIdx.foldl _ arr = _
        rw [← Array.foldl_toList, Array.toList_zipIdx]
      rw [h2, h1, flatten_set hc, ha, flatten_split hc, hvl]
      simp only [Nat.add_zero]
      rw [take_at, drop_at]
    obtain ⟨arr', e1, e2⟩ := fill_spec place ps (L.set i v.cells.toList) arr1 harr1 (fun j u hj => by
        obtain ⟨d, hd, hz⟩ := hp j u (by simp [hj])
        by_cases e : j = i
        · subst e
          rw [hd] at hc; cases hc
          exact ⟨v.cells.toList, by rw [List.getElem?_set_self hlt], by rw [hvl, hz]⟩
        · exact ⟨d, by rw [List.getElem?_set_ne (Ne.symm e)]; exact hd, hz⟩)
      (fun j d hd => by
        have hlen : ((L.set i v.cells.toList).take j).flatten.length = (L.take j).flatten.length := by
          rw [List.take_set]
          by_cases hji : i < j
          · have hc' : (L.take j)[i]? = some c := by rw [List.getElem?_take, if_pos hji]; exact hc
            rw [flatten_set hc', flatten_split hc']
            rw [List.length_append, List.length_append, List.length_append, List.length_append, hvl]
          · rw [List.set_eq_of_length_le (by simp; omega)]
        by_cases e : j = i
        · subst e
          rw [List.getElem?_set_self hlt] at hd; cases hd
          rw [hlen, hpi, hvl]
        · rw [List.getElem?_set_ne (Ne.symm e)] at hd
          rw [hlen]; exact hpl j d hd)
    refine ⟨arr', ?_, e2⟩
    simp only [Instr.fill, hpi]
    have hcond : (decide (v.cells.size ≠ c.length) || decide ((L.take i).flatten.length + v.cells.size > arr.size)) = false := by
      rw [Bool.or_eq_false_iff]; exact ⟨decide_eq_false (by omega), decide_eq_false (by omega)⟩
    rw [if_neg (by rw [hcond]; exact Bool.false_ne_true)]
    exact e1

/-- Values in hand turn with memory. -/
theorem RelF.turn {C : Ctx} {st : St} {D : Nat → DRoot} {Sh : Nat → Prop} {F F' : List DV} {a : Act} {w w' : World} (h : RelF C st D Sh F a w) (ho : w'.os = w.os) (ht : w'.tape = w.tape) (hp : w'.output = w.output) (hz : w.heap.size ≤ w'.heap.size)
    (hb : ∀ b, b < w.heap.size → b ∉ F.flatMap DV.foot → w'.heap[b]? = w.heap[b]?) (hok : ∀ v ∈ F', v.OK w' Sh) (hnd : (F'.flatMap DV.foot).Nodup)
    (hsub : ∀ b ∈ F'.flatMap DV.foot, b ∈ F.flatMap DV.foot ∨ (w.heap.size ≤ b ∧ b < w'.heap.size)) : Keeps w w' Sh Sh st.roots st.roots D D ∧ RelF C st D Sh F' a w' := by
  have hsh : ∀ b, Sh b → w'.heap[b]? = w.heap[b]? := fun b hs => hb b (h.rel.shn b hs).2 (fun hm => (h.fdis b hm).2.1 hs)
  have hroot : ∀ id r, st.roots id = some r → ∀ b ∈ (D id).foot, w'.heap[b]? = w.heap[b]? := fun id r hr b hm =>
    hb b (h.rel.fresh id r hr b hm).2.1 (fun hm' => (h.fdis b hm').1 id r hr hm)
  have K : Keeps w w' Sh Sh st.roots st.roots D D := Keeps.grow hsh
  refine ⟨K, ⟨⟨ho.trans h.rel.os, ht.trans h.rel.tape, hp.trans h.rel.output, Nat.le_trans h.rel.hsz hz, fun b hlt hm => ?_, h.rel.sh0, fun b hs => ⟨(h.rel.shn b hs).1, Nat.lt_of_lt_of_le (h.rel.shn b hs).2 hz⟩, fun id r hr => ?_, h.rel.dis,
    fun id r hr b hm => let f := h.rel.fresh id r hr b hm; ⟨f.1, Nat.lt_of_lt_of_le f.2.1 hz, f.2.2⟩, fun t => K.avr (h.rel.tmp t), h.rel.size, h.rel.defers⟩, hok, hnd, fun b hm => ?_⟩⟩
  · refine (hb b (Nat.lt_of_lt_of_le hlt h.rel.hsz) (fun hm' => ?_)).trans (h.rel.block b hlt hm)
    rcases (h.fdis b hm').2.2.2 with h1 | h1
    · omega
    · exact hm h1
  · have R := h.rel.root id r hr
    refine ⟨R.er, Ty.OK_frame hsh (fun _ hs => hs) (fun b hm => hroot id r hr b (mem_dv hm)) R.ok, R.blk, fun k hk => ?_, R.nd, R.top, R.org, R.pin⟩
    obtain ⟨row, e, hrow, hc⟩ := R.loc k hk
    exact ⟨row, e, hrow.frame (hroot id r hr k (mem_b hk)), hc⟩
  · rcases hsub b hm with hm | hm
    · obtain ⟨g1, g2, g3, g4⟩ := h.fdis b hm
      exact ⟨g1, g2, by omega, g4⟩
    · refine ⟨fun id r hr hm' => ?_, fun hs => ?_, hm.2, .inl (Nat.le_trans h.rel.hsz hm.1)⟩
      · have := (h.rel.fresh id r hr b hm').2.1; omega
      · have := (h.rel.shn b hs).2; omega

/-! ### make -/
def mk (b : Nat) (n m : Int) : Bool := n == m && decide ((0 : Int) ≤ n) && decide ((b : Int) * n ≤ 140737488355328)
def makeP (row : TRow) (bytes : Nat) (l c : AV) (d : Nat) : Prog Res := match elemSz row, l, c with
  | some (e, te), .sh (.int _) n, .sh (.int _) m => .test (mk bytes n m) (newP d (.ret ⟨.al d [] 0 (.sl true e te.own), [(d, ⟨⟨.sl true e te.own, List.replicate (Int.toNat n) te.own.dft⟩, false, [], none, none⟩)]⟩)) .fail
  | _, _, _ => .fail
theorem map_replicate' {α β : Type} (f : α → β) (n : Nat) (x : α) : (List.replicate n x).map f = List.replicate n (f x) := List.map_replicate ..
theorem flatMap_nil_of {α β : Type} {l : List α} {f : α → List β} (h : ∀ x ∈ l, f x = []) : l.flatMap f = [] := by
  induction l with
  | nil => rfl
  | cons x l ih => rw [List.flatMap_cons, h x (by simp), ih (fun y hy => h y (by simp [hy]))]; rfl
theorem madeCells_at {z : Array Value} {n : Nat} (hz : z.size ≠ 0) {i j : Nat} (hi : i < n) {v : Value} (hj : z[j]? = some v) : (madeCells z (n * z.size))[i * z.size + j]? = some v := by
  have hjl := (Array.getElem?_eq_some_iff.1 hj).1
  have hlt : i * z.size + j < n * z.size := by
    have : (i + 1) * z.size ≤ n * z.size := Nat.mul_le_mul_right _ hi
    rw [Nat.add_mul, Nat.one_mul] at this; omega
  unfold madeCells
  rw [Array.getElem?_map, Array.getElem?_range, if_pos hlt]
  simp only [Option.map_some]
  congr 1
  have hm : (i * z.size + j) % z.size = j := by rw [Nat.mul_comm, Nat.mul_add_mod, Nat.mod_eq_of_lt hjl]
  rw [hm, getElem!_pos z j hjl]
  exact (Array.getElem?_eq_some_iff.1 hj).2
section
variable {C : Ctx} {st : St} {D : Nat → DRoot} {Sh : Nat → Prop} {F : List DV} {a : Act} {w w' : World} {T : List (TypeId × TRow)}
theorem RowOK.zcells {P : Program} {t : TypeId} {r : TRow} (h : RowOK P T t r) : (mkw r.ty.agg r.ty.zeroC).cells.toList = r.ty.zeroC := by
  have hcs : DV.cs ⟨r.ty.own, r.ty.dftD⟩ = r.ty.zeroC := Ty.dftD_cs r.ty h.full
  have hone := one_of (t := r.ty.own) (cs := r.ty.zeroC) (by rw [Ty.zeroC_len r.ty h.full, Ty.own_sz]) (by rw [← hcs]; exact Ty.OK_one (Ty.dftD_ok (default : World) (fun _ => False) r.ty h.full))
  exact cells_mkw (g := r.ty.agg) (cs := r.ty.zeroC) (fun hg => hone (by rw [Ty.own_agg]; exact hg))
/-- A new value is held by the operation's slot. -/
theorem done_hold {o : Oper} {d : Nat} (hd : o.dst = some d) (hdn : dstOk C.n o.dst = true) {dv : DV} {ws : Writes} {D1 : Nat → DRoot} (hn : app ws st.roots d = none) (F1 : RelF C ⟨st.tmps, app ws st.roots⟩ D1 Sh [dv] a w') (hex : (execOp a.eval o).run C.P w = .ok (.value (mkw dv.t.agg dv.cs)) w')
    (hf : dv.t.flat = false) {v : V} (hv : dv.er = v) {K : Act → World → Prop} {Q : Exit → Act → World → Prop} (hK : ∀ D' Sh' a' w', Rel C (st.after o.dst ⟨.al d [] 0 v.t, (d, ⟨v, false, [], none, none⟩) :: ws⟩) D' Sh' a' w' → K a' w') : o.wp C.P a w K Q := by
  subst hv
  obtain ⟨K2, F2⟩ := F1.hold (id := d) hn (org := none) (fun i hi => by cases hi)
  refine wp_value hex (hK (upt D1 d ⟨dv, none, dv.cs⟩) Sh _ _ ?_)
  rw [hd]
  rw [hd] at hdn
  exact F2.rel.put (by simpa [dstOk, Nat.blt_eq] using hdn) ⟨_, al_of_hold hf, rfl⟩
theorem sound_make (hT : TabOK C.P T) {o : Oper} {t : TypeId} {l c : Operand} (ho : o.op = .makeSlice t l c) {row : TRow} (hrow : tget T t = some row) {e : TypeId} {te : Ty} (he : elemSz row = some (e, te)) {re : TRow} (hre : tget T e = some re) {d : Nat} (hd : o.dst = some d) (hdn : dstOk C.n o.dst = true) {res : Res}
    (h : (makeP row re.bytes (evalA st.tmps l) (evalA st.tmps c) d).go st.roots = some res) : Sound C o st res := by
  intro D Sh a w K Q hR hK
  obtain ⟨hu, ⟨re', hre', hte⟩, hnz, hpl⟩ := (hT t row hrow).elem he
  rw [hre] at hre'; cases hre'
  have hr := hT e re hre
  have hl := hR.eval l
  have hc := hR.eval c
  unfold makeP at h
  split at h
  case h_2 => cases h
  rename_i e' te' k1 n k2 m he' hln hcm
  rw [he] at he'; cases he'
  rw [hln] at hl; rw [hcm] at hc
  have e1 := avr_int hl
  have e2 := avr_int hc
  simp only [Prog.go] at h
  cases h1 : mk re.bytes n m with
  | false => rw [h1] at h; cases h
  | true =>
        rw [h1] at h
        simp only [mk, Bool.and_eq_true, decide_eq_true_eq, beq_iff_eq] at h1
        obtain ⟨⟨hnm, h0⟩, hby⟩ := h1
        replace hnm : (n : Int) = m := hnm
        simp only [cond_true, newP, Prog.go] at h
        cases hn : st.roots d with
        | some r => rw [hn] at h; cases h
        | none =>
          rw [hn] at h; cases h
          obtain ⟨i, hi, hsz, hbs, hzr⟩ := hr.info
          have hnm' : (m : Int) = n := hnm.symm
          have hm0 : (0 : Int) ≤ m := by rw [hnm']; exact h0
          have hb1 : (1 : Int) ≤ (re.bytes : Int) := by have := hr.nb; omega
          have hle : (n : Int) ≤ (re.bytes : Int) * n := by
            have := Int.mul_le_mul_of_nonneg_right hb1 h0
            rwa [Int.one_mul] at this
          have hn47 : (n : Int) ≤ 140737488355328 := Int.le_trans hle hby
          have hm47 : (m : Int) ≤ 140737488355328 := by rw [hnm']; exact hn47
          have hrun := run_make (P := C.P) w t e i _ hu hi hzr k1 k2 n m h0 (Int.le_of_eq hnm) (by rw [hbs, hnm']; exact Int.le_trans hby (show (140737488355328 : Int) ≤ 281474976710656 by decide)) (Int.le_trans hm47 (show (140737488355328 : Int) ≤ 9223372036854775807 by decide))
          have hzc : (mkw re.ty.agg re.ty.zeroC).cells.size = te.sz := by
            rw [← Array.length_toList, hr.zcells, Ty.zeroC_len re.ty hr.full, hte]
          have hsz' : i.size = (mkw re.ty.agg re.ty.zeroC).cells.size := by rw [hzc, hsz, hte]
          rw [hsz'] at hrun
          let N := Int.toNat m
          have hN : Int.toNat n = N := congrArg Int.toNat hnm
          let dv : DV := ⟨.sl true e te.own, ((some ⟨w.heap.size, 0, none⟩, N), List.replicate N te.dftD)⟩
          have hfl : te.full = true := by rw [← hte]; exact hr.full
          have hrf : (List.replicate N te.dftD).flatMap te.own.foot = [] := flatMap_nil_of (fun x hx => by rw [List.eq_of_mem_replicate hx]; exact Ty.dftD_foot te)
          have hfoot : dv.foot = [w.heap.size] := by
            show (Option.map (·.block) (some (⟨w.heap.size, 0, none⟩ : Addr))).toList ++ (List.replicate N te.dftD).flatMap te.own.foot = _
            rw [hrf]; rfl
          let w1 := w.alloc (.cells (madeCells (mkw re.ty.agg re.ty.zeroC).cells (N * (mkw re.ty.agg re.ty.zeroC).cells.size)) e)
          have hok : dv.OK w1 Sh := by
            refine .inr ⟨w.heap.size, 0, _, rfl, Row.new (heap_new w _), ?_, ?_, ?_, fun j dj hj => ?_⟩
            · show (List.replicate N te.dftD).length ≤ N
              rw [List.length_replicate]; exact Nat.le_refl _
            · show N ≤ maxLen
              have : N ≤ 140737488355328 := Int.toNat_le.2 hm47
              unfold maxLen; omega
            · show 0 + N * te.own.sz ≤ _
              rw [size_madeCells, hzc, Ty.own_sz]; omega
            · have hj : (List.replicate N te.dftD)[j]? = some dj := hj
              have hjl := (List.getElem?_eq_some_iff.1 hj).1
              have hjd := List.eq_of_mem_replicate (List.mem_of_getElem? hj)
              subst hjd
              refine ⟨Ty.dftD_ok _ _ te hfl, fun q v hq => ?_⟩
              rw [Ty.own_sz, ← hzc, Nat.zero_add]
              refine madeCells_at (by rw [hzc]; exact hnz) (by simpa using hjl) ?_
              rw [Ty.dftD_cs te hfl] at hq
              rw [← Array.getElem?_toList, hr.zcells, hte]; exact hq
          obtain ⟨K1, F1⟩ := hR.F.turn (w' := w1) (F' := [dv]) rfl rfl rfl (by simp [w1]) (fun b hb _ => Below.heap_alloc _ _ _ hb) (fun v hv => by rw [List.mem_singleton.1 hv]; exact hok)
            (by show (dv.foot ++ []).Nodup; rw [hfoot]; simp) (fun b hb => by
              have hb : b ∈ dv.foot ++ [] := hb
              rw [hfoot] at hb
              simp at hb; subst hb; exact .inr ⟨Nat.le_refl _, by simp [w1]⟩)
          have her : dv.er = ⟨.sl true e te.own, List.replicate (Int.toNat n) te.own.dft⟩ := by
            refine congrArg (V.mk _) ?_
            show (List.replicate N te.dftD).map te.own.er = _
            rw [map_replicate', Ty.dftD_er, hN]
          have hlr : (List.replicate N te.dftD).length = N := List.length_replicate
          have hex : (execOp a.eval o).run C.P w = .ok (.value (mkw dv.t.agg dv.cs)) w1 := by
            show _ = Result.ok (Next.value (Value.slice (some ⟨w.heap.size, 0, none⟩) (List.replicate N te.dftD).length N)) w1
            rw [hlr]
            simp only [execOp, ho, e1, e2, Sem.run_bind, hrun, Result.andThen_ok, Sem.run_pure, hN]
            rfl
          exact done_hold (ws := []) hd hdn hn F1 hex rfl her hK
end
end Go.Proofs.YtipaepbmdooekaaGreatDoor.Vm

/- Operations: structs and slices written out. -/
namespace Go.Proofs.YtipaepbmdooekaaGreatDoor.Vm
open Go Go.RowKit
set_option linter.unusedVariables false

/-! ### structs -/
def zeroA : Ty → AV
  | .int k => .sh (.int k) (0 : Int)
  | .bool => .sh .bool false
  | .str => .sh .str (⟨#[]⟩ : ByteArray)
  | .hole => .any
  | .sl _ _ _ => .nilsl
  | .nil => .nilf
  | .cons a r => .consf (zeroA a) (zeroA r)
/-- Is it of the shape of ty? -/
def fitP {α : Type} : Ty → AV → Prog α → Prog α
  | ty, .sh t _, k => bif like t ty then k else .fail
  | ty, .nilsl, k => match ty with
    | .sl _ _ _ => k
    | _ => .fail
  | ty, .al id p s t, k => bif like t ty then withR id s (depth p + 1) (!t.agg) fun _ => k else .fail
  | ty, .cut id p s t lo n, k => match ty with
    | .sl _ _ _ => withR id s (depth p + 1) true fun _ => k
    | _ => .fail
  | ty, .nilf, k => match ty with
    | .nil => k
    | _ => .fail
  | ty, .consf x y, k => match ty with
    | .cons a r => fitP a x (fitP r y k)
    | _ => .fail
  | _, _, _ => .fail
def lookN {α : Type} : List (Nat × α) → Nat → Option α
  | [], _ => none
  | (j, x) :: l, i => bif Nat.beq j i then some x else lookN l i
/-- The fields from number i on. -/
def buildC (ρ : Operand → AV) (ps : List (Nat × Operand)) : Nat → Ty → Prog AV
  | i, .cons a r => (match lookN ps i with
    | some x => fitP a (ρ x) (.ret (ρ x))
    | none => .ret (zeroA a)).bind fun x => (buildC ρ ps (i + 1) r).bind fun y => .ret (.consf x y)
  | _, .nil => .ret .nilf
  | _, _ => .fail
def ascend : Nat → List (Nat × Operand) → Bool
  | _, [] => true
  | n, (i, _) :: ps => Nat.ble n i && ascend (i + 1) ps
def buildP (row : TRow) (ρ : Operand → AV) (ps : List (Nat × Operand)) : Prog AV := bif row.ty.agg && ascend 0 ps && ps.all (fun p => Nat.blt p.1 row.fs.length) then buildC ρ ps 0 row.ty else .fail

section
variable {C : Ctx} {st : St} {D : Nat → DRoot} {Sh : Nat → Prop} {F : List DV} {a : Act} {w w' : World} {T : List (TypeId × TRow)}
theorem zeroA_avc {R : Nat → Option Root} : ∀ {t : Ty}, t.full = true → AVC w Sh R D (zeroA t) t.zeroC
  | .int _, _ | .bool, _ | .str, _ | .sl _ _ _, _ | .nil, _ => rfl
  | .hole, h => by cases h
  | .cons a r, h => by
    simp only [Ty.full, Bool.and_eq_true] at h
    exact ⟨_, _, rfl, zeroA_avc h.1, zeroA_avc h.2⟩
theorem zeroA_agg : ∀ {t : Ty}, t.full = true → (zeroA t).agg = t.agg
  | .int _, _ | .bool, _ | .str, _ | .sl _ _ _, _ | .nil, _ => rfl
  | .hole, h => by cases h
  | .cons a r, h => rfl
theorem zeroC_one : ∀ {t : Ty}, t.full = true → ∀ v ∈ t.zeroC, v.oneCell' = true := by
  intro t h v hv
  rw [← Ty.dftD_cs t h] at hv
  exact Ty.OK_one (Ty.dftD_ok (default : World) (fun _ => False) t h) v hv
theorem fit_go {α : Type} {R : Nat → Option Root} : ∀ {x : AV} {ty : Ty} {k : Prog α} {r : α}, (fitP ty x k).go R = some r → k.go R = some r ∧ ∀ {w : World} {Sh : Nat → Prop} {st : St} {D : Nat → DRoot} {a : Act}, R = st.roots → Rel C st D Sh a w → ∀ cs, AVC w Sh R D x cs →
      cs.length = ty.sz ∧ x.agg = ty.agg ∧ ∀ v ∈ cs, v.oneCell' = true
  | .sh t x, ty, k, r, h => by
    simp only [fitP] at h
    cases hl : like t ty with
    | false => rw [hl] at h; cases h
    | true =>
      rw [hl] at h
      exact ⟨h, fun _ _ cs hc => ⟨(Ty.RR_len hc).trans (like_sz hl), like_agg hl, Ty.RR_one hc⟩⟩
  | .nilsl, ty, k, r, h => by
    cases ty <;> simp only [fitP] at h <;> try (cases h; done)
    exact ⟨h, fun _ _ cs hc => by cases hc; exact ⟨rfl, rfl, fun v hv => by cases List.mem_singleton.1 hv; rfl⟩⟩
  | .al id p s t, ty, k, r, h => by
    simp only [fitP] at h
    cases hl : like t ty with
    | false => rw [hl] at h; cases h
    | true =>
      rw [hl] at h
      obtain ⟨r0, hr0, hs1, hs2, h⟩ := withR_go h
      refine ⟨h, fun hR hrel cs hc => ?_⟩
      obtain ⟨_, r1, hr1, _, hv⟩ := hc
      rw [hr0] at hr1; cases hr1
      obtain ⟨b, u, hlk, ht, rfl⟩ := hv hs2
      subst hR
      have hok := (hrel.look hr0 hlk).2.1
      exact ⟨(Ty.cs_len u.t u.d).trans (by rw [ht]; exact like_sz hl), like_agg hl, Ty.OK_one hok⟩
  | .cut id p s t lo n, ty, k, r, h => by
    cases ty <;> simp only [fitP] at h <;> try (cases h; done)
    obtain ⟨r0, hr0, hs1, hs2, h⟩ := withR_go h
    refine ⟨h, fun hR hrel cs hc => ?_⟩
    obtain ⟨r1, hr1, _, hv⟩ := hc
    rw [hr0] at hr1; cases hr1
    obtain ⟨b, e, te, A, c, ds, _, _, _, A', rfl, _⟩ := hv hs2
    exact ⟨rfl, rfl, fun v hv => by cases List.mem_singleton.1 hv; rfl⟩
  | .nilf, ty, k, r, h => by
    cases ty <;> simp only [fitP] at h <;> try (cases h; done)
    exact ⟨h, fun _ _ cs hc => by cases hc; exact ⟨rfl, rfl, fun v hv => by cases hv⟩⟩
  | .consf x y, ty, k, r, h => by
    cases ty <;> simp only [fitP] at h <;> try (cases h; done)
    obtain ⟨h1, g1⟩ := fit_go (x := x) h
    obtain ⟨h2, g2⟩ := fit_go (x := y) h1
    refine ⟨h2, fun hR hrel cs hc => ?_⟩
    obtain ⟨c0, c1, rfl, hc0, hc1⟩ := hc
    obtain ⟨a1, _, a3⟩ := g1 hR hrel c0 hc0
    obtain ⟨b1, _, b3⟩ := g2 hR hrel c1 hc1
    refine ⟨by simp only [Ty.sz, List.length_append, a1, b1], rfl, fun v hv => ?_⟩
    rcases List.mem_append.1 hv with hv | hv
    · exact a3 v hv
    · exact b3 v hv
  | .any, ty, k, r, h | .ptr _ _ _, ty, k, r, h | .sptr _ _, ty, k, r, h | .fn _ _, ty, k, r, h | .tup _, ty, k, r, h => by simp only [fitP] at h; cases h

/-- The cells of the fields from number i on, as the parts have them. -/
def zeroL : Ty → List (List Value)
  | .cons a r => a.zeroC :: zeroL r
  | _ => []
theorem zeroL_flat : ∀ {t : Ty}, t.agg = true → (∀ a r, t = .cons a r → True) → t.zeroC = (zeroL t).flatten ∨ True := fun _ _ => .inr trivial
/-- A struct's type ends in nil. -/
def ended : Ty → Bool
  | .nil => true
  | .cons _ r => ended r
  | _ => false
theorem fldOK_ended {T : List (TypeId × TRow)} : ∀ {off : Nat} {ty : Ty} {ts : List TypeId} {fs : List Field}, FldOK T off ty ts fs → ended ty = true
  | off, .nil, [], [], _ => rfl
  | off, .cons a r, t :: ts, f :: fs, h => (show ended r = true from fldOK_ended h.2.2.2.2.2)
  | off, .nil, _ :: _, _, h => by cases h
  | off, .nil, [], _ :: _, h => by cases h
  | off, .cons _ _, [], _, h => by cases h
  | off, .cons _ _, _ :: _, [], h => by cases h
  | off, .int _, _, _, h | off, .bool, _, _, h | off, .str, _, _, h | off, .hole, _, _, h | off, .sl _ _ _, _, _, h => by cases h
theorem zeroL_flatten : ∀ {t : Ty}, ended t = true → (zeroL t).flatten = t.zeroC
  | .nil, _ => rfl
  | .cons a r, h => by simp only [zeroL, List.flatten_cons, zeroL_flatten (t := r) (show ended r = true from h), Ty.zeroC]
  | .int _, h | .bool, h | .str, h | .hole, h | .sl _ _ _, h => by cases h
theorem places_ok {P : Program} {T : List (TypeId × TRow)} (hT : TabOK P T) : ∀ {off : Nat} {ty : Ty} {ts : List TypeId} {fs : List Field}, FldOK T off ty ts fs → ty.full = true →
    ∃ pl, fs.mapM (fun f => (P.info? f.type).map fun i => (f.offset, i.size)) = some pl ∧ pl.length = (zeroL ty).length ∧ ∀ i c, (zeroL ty)[i]? = some c → pl[i]? = some (off + ((zeroL ty).take i).flatten.length, c.length)
  | off, .nil, [], [], _, _ => ⟨[], rfl, rfl, fun i c h => by cases h⟩
  | off, .cons a r, t :: ts, f :: fs, h, hf => by
    simp only [Ty.full, Bool.and_eq_true] at hf
    obtain ⟨h1, h2, _, ⟨rf, h3, h4⟩, h5, h6⟩ := h
    obtain ⟨i0, hi0, hs0, _⟩ := (hT t rf h3).info
    obtain ⟨pl, g1, g2, g3⟩ := places_ok hT h6 hf.2
    have hal : a.zeroC.length = a.sz := Ty.zeroC_len a hf.1
    refine ⟨(off, a.sz) :: pl, ?_, by simp only [List.length_cons, g2, zeroL], fun i c hc => ?_⟩
    · rw [List.mapM_cons, g1, h1, hi0]
      simp only [Option.map_some, hs0, h4, h2]
      rfl
    · cases i with
      | zero =>
        simp only [zeroL, List.getElem?_cons_zero, Option.some.injEq] at hc
        subst hc
        simp [hal]
      | succ i =>
        simp only [zeroL, List.getElem?_cons_succ] at hc
        rw [List.getElem?_cons_succ, g3 i c hc]
        simp only [zeroL, List.take_succ_cons, List.flatten_cons, List.length_append, hal]
        rw [Nat.add_assoc]
  | off, .nil, _ :: _, _, h, _ => by cases h
  | off, .nil, [], _ :: _, h, _ => by cases h
  | off, .cons _ _, [], _, h, _ => by cases h
  | off, .cons _ _, _ :: _, [], h, _ => by cases h
  | off, .int _, _, _, h, _ | off, .bool, _, _, h, _ | off, .str, _, _, h, _ | off, .hole, _, _, h, _ | off, .sl _ _ _, _, _, h, _ => by cases h

/-- The fields' cells behind the parts. -/
def partL (f : Nat → Option (List Value)) : Nat → List (List Value) → List (List Value)
  | _, [] => []
  | i, c :: L => (f i).getD c :: partL f (i + 1) L
theorem partL_none (f : Nat → Option (List Value)) : ∀ (L : List (List Value)) (i : Nat), (∀ j, i ≤ j → f j = none) → partL f i L = L
  | [], _, _ => rfl
  | c :: L, i, h => by rw [partL, h i (Nat.le_refl _), partL_none f L (i + 1) (fun j hj => h j (by omega))]; rfl
theorem putL_cons (i : Nat) (c0 : List Value) : ∀ (ps : List (Nat × List Value)) (L : List (List Value)), putL (ps.map fun p => (p.1 + 1, p.2)) (c0 :: L) = c0 :: putL ps L
  | [], L => rfl
  | (j, c) :: ps, L => by
    simp only [List.map_cons, putL, List.set_cons_succ]
    exact putL_cons i c0 ps (L.set j c)
end
end Go.Proofs.YtipaepbmdooekaaGreatDoor.Vm

/- What runs: contracts, operations, regions, code (definitions alone). -/
namespace Go.Proofs.YtipaepbmdooekaaGreatDoor.Vm
open Go Go.RowKit
set_option linter.unusedVariables false

/-! ### what is handed to be read -/
inductive Pat where
  | val (t : Ty)
  | sptr (t : Ty)
  | fn (f : FuncId) (c : Pat)
  | nil
  | cons (a r : Pat)
namespace Pat
@[reducible] def den : Pat → Type
  | .val t => t.den
  | .sptr t => t.den
  | .fn _ c => c.den
  | .nil => Unit
  | .cons a r => a.den × r.den
def av : (p : Pat) → p.den → AV
  | .val t, x => .sh t x
  | .sptr t, x => .sptr t x
  | .fn f c, x => .fn f (c.av x)
  | .nil, _ => .nilf
  | .cons a r, x => .consf (a.av x.1) (r.av x.2)
end Pat
def asT (v : V) (t : Ty) : Option t.den := if h : v.t.shr = t.shr then some (cast (Ty.den_same h) v.x) else none
def okR (r : Root) (s m : Nat) (ho : Bool) : Bool := Nat.ble s r.log.length && since r.log s m ho
/-- A value to read: what the slot says, seen as shared. -/
def lendV : Ty → AV → Writes → Prog V
  | ty, .sh t x, ws => .ret ⟨t, x⟩
  | ty, .nilsl, ws => match ty with
    | .sl o e t => .ret ⟨.sl o e t, []⟩
    | _ => .fail
  | ty, .al id p s t, ws => getR ws id fun
    | some r => bif okR r s (depth p + 1) (!t.agg) then match getV r.v p with
        | some v => .ret v
        | none => .fail else .fail
    | none => .fail
  | ty, .cut id p s t lo n, ws => getR ws id fun
    | some r => bif okR r s (depth p + 1) true then match getV r.v p with
        | some ⟨.sl true e te, xs⟩ => .ret ⟨.sl false e te, List.take n (List.drop lo xs)⟩
        | _ => .fail else .fail
    | none => .fail
  | ty, .nilf, ws => match ty with
    | .nil => .ret ⟨.nil, ()⟩
    | _ => .fail
  | ty, .consf a b, ws => match ty with
    | .cons ta tb => (lendV ta a ws).bind fun u => (lendV tb b ws).bind fun v => .ret ⟨.cons u.t v.t, (u.x, v.x)⟩
    | _ => .fail
  | _, _, _ => .fail
def lendP : (p : Pat) → AV → Writes → Prog p.den
  | .val t, x, ws => (lendV t x ws).bind fun v => .use (asT v t) .ret
  | .sptr t, .sptr t' x, ws => .use (asT ⟨t', x⟩ t) .ret
  | .sptr t, .ptr id p s, ws => getR ws id fun
    | some r => bif okR r s (depth p) true then match getV r.v p with
        | some v => .use (asT v t) .ret
        | none => .fail else .fail
    | none => .fail
  | .fn f c, .fn g y, ws => bif Nat.beq f g then lendP c y ws else .fail
  | .nil, .nilf, ws => .ret ()
  | .cons a r, .consf x y, ws => (lendP a x ws).bind fun u => (lendP r y ws).bind fun v => .ret (u, v)
  | _, _, _ => .fail
/-- Which roots are read so. -/
def lent : AV → List Nat
  | .al id _ _ _ => [id]
  | .cut id _ _ _ _ _ => [id]
  | .ptr id _ _ => [id]
  | .consf a b => lent a ++ lent b
  | .fn _ c => lent c
  | _ => []

/-- Lower: shared where it was own, at some places; what lies behind a shared place is shared. -/
def lowB : Ty → Ty → Bool
  | .sl o e t, .sl o' e' t' => Nat.beq e e' && (match o' with
    | true => o && lowB t t'
    | false => decide (t.shr = t'))
  | .cons a r, .cons a' r' => lowB a a' && lowB r r'
  | t, t' => decide (t = t')
def meetT : Ty → Ty → Ty
  | .sl o e t, .sl o' e' t' => bif o && o' then .sl true e (meetT t t') else .sl false e t.shr
  | .cons a r, .cons a' r' => .cons (meetT a a') (meetT r r')
  | t, _ => t
def toT (v : V) (t : Ty) : Option t.den := bif lowB v.t t then asT v t else none
/-- Taken; what is cut out of own rows is shared from now on, with the rows. -/
def takeQ (ty : Ty) (x : AV) (ws : Writes) : Prog (V × Writes) := match x with
  | .cut id p s t lo n => getR ws id fun
    | some r => bif okR r s (depth p + 1) true then match getV r.v p with
        | some ⟨.sl true e te, xs⟩ => .use (asT ⟨.sl true e te, xs⟩ (.sl false e te.shr)) fun ys => bif like (.sl true e te) ty then match putV r.v p ⟨.sl false e te.shr, ys⟩ with
          | some v' => .ret (⟨.sl false e te.shr, List.take n (List.drop lo ys)⟩, (id, stored r p ⟨.sl false e te.shr, ys⟩ ⟨.sl true e te, xs⟩ v') :: ws)
          | none => .fail else .fail
        | _ => .fail else .fail
    | none => .fail
  | x => takeP ty x ws
def takeTo (t : Ty) (x : AV) (ws : Writes) : Prog (t.den × Writes) := match x, t with
  | .nilsl, .sl o e te => .ret (([] : List te.den), ws)
  | x, t => (takeQ t x ws).bind fun q => .use (toT q.1 t) fun y => .ret (y, q.2)
def fitV (d : Nat) (v : V) (t : Ty) : V := bif Nat.beq d 0 then v else match toT v t with
  | some x => ⟨t, x⟩
  | none => v
def storeQ (row : TRow) (x y : AV) : Prog Writes := (takeQ row.ty y []).bind fun q => match x with
  | .ptr id p s => getR q.2 id fun
    | some r => bif okR r s (depth p) true then match getV r.v p with
        | some u => bif like q.1.t u.t then match putV r.v p (fitV (depth p) q.1 u.t) with
            | some v' => .ret ((id, stored r p (fitV (depth p) q.1 u.t) u v') :: q.2)
            | none => .fail
          else .fail
        | none => .fail
      else .fail
    | none => .fail
  | _ => .fail

/-! ### contracts -/
inductive PK where
  /-- read -/
  | r (p : Pat)
  /-- handed over -/
  | o (t : Ty)
  /-- a pointer to a variable of the caller's own -/
  | p (t t' : Ty)
  /-- a value whose rows may be written -/
  | c (t : Ty)
namespace PK
@[reducible] def den : PK → Type
  | .r pt => pt.den
  | .o t => t.den
  | .p t _ => t.den
  | .c t => t.den
end PK
@[reducible] def argsT : List PK → Type
  | [] => Unit
  | k :: ks => k.den × argsT ks
@[reducible] def backs : List PK → List Ty
  | [] => []
  | .p _ t' :: ks => t' :: backs ks
  | .c t :: ks => t :: backs ks
  | _ :: ks => backs ks
@[reducible] def tysT : List Ty → Type
  | [] => Unit
  | [t] => t.den
  | t :: ts => t.den × tysT ts
/-- One result or none, several, a pointer to a new variable. -/
inductive RK where
  | one (t : Ty)
  | many (ts : List Ty)
  | ptr (t : Ty)
@[reducible] def RK.tys : RK → List Ty
  | .one t => [t]
  | .many ts => ts
  | .ptr t => [t]
@[reducible] def ansT (rk : RK) (ks : List PK) : Type := tysT (rk.tys ++ backs ks)
structure Con where
  ks : List PK
  rk : RK
  fn : argsT ks → Option (ansT rk ks)
abbrev Cons := FuncId → List Nat → Option Con

/-! ### loops -/
inductive Lp (X A : Type) where
  | again (x : X)
  | exit (x : X)
  | ret (a : A)
def iterO {X A : Type} (step : X → Option (Lp X A)) : Nat → X → Option (X ⊕ A)
  | 0, _ => none
  | n + 1, x => match step x with
    | some (.again x') => iterO step n x'
    | some (.exit x') => some (.inl x')
    | some (.ret a) => some (.inr a)
    | none => none
open Classical in
noncomputable def loopO {X A : Type} (step : X → Option (Lp X A)) (x : X) : Option (X ⊕ A) :=
  if h : ∃ y : X ⊕ A, ∃ n, iterO step n x = some y then some (Classical.choose h) else none
inductive Item where
  | pat (slot : Nat) (p : Pat)
  | own (slot : Nat) (t : Ty)
  | root (id : Nat) (blk : Bool) (t : Ty) (ps : List Nat)
@[reducible] def Item.den : Item → Type
  | .pat _ p => p.den
  | .own _ t => t.den
  | .root _ _ t _ => t.den
@[reducible] def itemsT : List Item → Type
  | [] => Unit
  | i :: is => i.den × itemsT is
structure Loop where
  items : List Item
  out : Nat
abbrev Loops := Nat → Option Loop
def ownId (slot : Nat) : Nat := 100000 + slot
def clean (log : List (Nat × Bool)) : List (Nat × Bool) := bif since log 0 1 false then [] else [(0, true)]
/-- The state that the items tell. -/
def rootAV (id : Nat) (blk : Bool) (t : Ty) : AV := bif blk then .ptr id [] 0 else .al id [] 0 t
def rootR (o : Option Root) (v : V) : Option Root := match o with
  | some r => some ⟨v, r.blk, clean r.log, r.org, r.pin⟩
  | none => none
def injT : (is : List Item) → itemsT is → Nat → AV
  | [], _, _ => .any
  | .pat s p :: is, x, t => bif Nat.beq s t then p.av x.1 else injT is x.2 t
  | .own s ty :: is, x, t => bif Nat.beq s t then .al (ownId s) [] 0 ty else injT is x.2 t
  | .root id blk ty ps :: is, x, t => bif ps.any (Nat.beq t) then rootAV id blk ty else injT is x.2 t
def injR (R0 : Nat → Option Root) : (is : List Item) → itemsT is → Nat → Option Root
  | [], _, _ => none
  | .pat s p :: is, x, id => injR R0 is x.2 id
  | .own s ty :: is, x, id => bif Nat.beq (ownId s) id then some ⟨⟨ty, x.1⟩, false, [], none, none⟩ else injR R0 is x.2 id
  | .root k blk ty ps :: is, x, id => bif Nat.beq k id then rootR (R0 k) ⟨ty, x.1⟩ else injR R0 is x.2 id
def inj (R0 : Nat → Option Root) (is : List Item) (x : itemsT is) : St := ⟨injT is x, injR R0 is x⟩
def canonV : Ty → AV → Option V
  | ty, .sh t x => some ⟨t, x⟩
  | .sl o e t, .nilsl => some ⟨.sl o e t, []⟩
  | .nil, .nilf => some ⟨.nil, ()⟩
  | .cons ta tb, .consf a b => match canonV ta a, canonV tb b with
    | some u, some v => some ⟨.cons u.t v.t, (u.x, v.x)⟩
    | _, _ => none
  | _, _ => none
def canon : (p : Pat) → AV → Option p.den
  | .val t, x => match canonV t x with
    | some v => asT v t
    | none => none
  | .sptr t, .sptr t' x => asT ⟨t', x⟩ t
  | .fn f c, .fn g y => bif Nat.beq f g then canon c y else none
  | .nil, .nilf => some ()
  | .cons a r, .consf x y => match canon a x, canon r y with
    | some u, some v => some (u, v)
    | _, _ => none
  | _, _ => none
def eqO : Option Nat → Option Nat → Bool
  | none, none => true
  | some a, some b => Nat.beq a b
  | _, _ => false
def eqBool : Bool → Bool → Bool
  | true, b => b
  | false, b => !b
/-- The root stands to the parameters as it stood at the first round's head. -/
def sameR (r0 r : Root) (t : Ty) : Bool := eqBool r0.blk r.blk && eqO r0.org r.org && eqO r0.pin r.pin && (r.org.isNone || (decide (r.v.t = t) && (!since r0.log 0 1 false || since r.log 0 1 false)))
/-- R0: the roots at the first round's head; R: the roots now. -/
def matchI (R0 : Nat → Option Root) (T : Nat → AV) (R : Nat → Option Root) : (i : Item) → Writes → Option (i.den × Writes)
  | .pat s p, ws => match canon p (T s) with
    | some x => some (x, ws)
    | none => none
  | .own s t, ws => bif t.flat then none else (takeTo t (T s) ws).go R
  | .root id blk t ps, ws => match R0 id, app ws R id with
    | some r0, some r => bif sameR r0 r t && eqBool blk r.blk && (blk || decide (r.v.t = t)) && ps.all (fun s => match T s with
        | .ptr j [] _ => blk && Nat.beq j id
        | .al j [] s' t' => !blk && Nat.beq j id && okR r s' 1 (!t'.agg) && decide (t' = t)
        | _ => false) then match toT r.v t with
      | some x => some (x, ws)
      | none => none else none
    | _, _ => none
def matchL (R0 : Nat → Option Root) (T : Nat → AV) (R : Nat → Option Root) : (is : List Item) → Writes → Option (itemsT is)
  | [], ws => some ()
  | i :: is, ws => match matchI R0 T R i ws with
    | some (x, ws') => match matchL R0 T R is ws' with
      | some y => some (x, y)
      | none => none
    | none => none
def itemIds : List Item → List Nat
  | [] => []
  | .pat _ _ :: is => itemIds is
  | .own s _ :: is => ownId s :: itemIds is
  | .root k _ _ _ :: is => k :: itemIds is
def isRoot : Item → Bool
  | .root _ _ _ _ => true
  | _ => false
def rootsLast : List Item → Bool
  | [] => true
  | i :: is => bif isRoot i then is.all isRoot else rootsLast is
def nodupN : List Nat → Bool
  | [] => true
  | x :: l => !l.any (Nat.beq x) && nodupN l
def itemsOk (is : List Item) : Bool := rootsLast is && nodupN (itemIds is)

/-! ### operations -/
def splitB (p : Prog Res) : Prog Res := p.bind fun r => match r.av with
  | .sh .bool b => .test (b : Bool) (.ret ⟨.sh .bool true, r.ws⟩) (.ret ⟨.sh .bool false, r.ws⟩)
  | _ => .ret r
def q (p : Prog AV) : Prog Res := p.bind fun a => .ret ⟨a, []⟩
def uni (t : Ty) : List V → Option (List t.den)
  | [] => some []
  | v :: vs => match toT v t, uni t vs with
    | some x, some xs => some (x :: xs)
    | _, _ => none
def meetL (t : Ty) : List V → Ty
  | [] => t
  | v :: vs => meetL (meetT t v.t) vs
def takeAll (te : Ty) : List AV → Writes → Prog (List V × Writes)
  | [], ws => .ret ([], ws)
  | x :: xs, ws => (takeP te x ws).bind fun u => (takeAll te xs u.2).bind fun v => .ret (u.1 :: v.1, v.2)
def seqParts (n : Nat) : List (Nat × Operand) → Bool
  | [] => true
  | (i, _) :: ps => Nat.beq i n && seqParts (n + 1) ps
def newRoot (d : Nat) (v : V) (ws : Writes) : Prog Res := getR ws d fun
  | none => .ret ⟨.al d [] 0 v.t, (d, ⟨v, false, [], none, none⟩) :: ws⟩
  | some _ => .fail
def buildSliceP (row : TRow) (len : Nat) (ps : List (Nat × Operand)) (ρ : Operand → AV) (d : Nat) : Prog Res := match elemSz row with
  | some (e, te) => bif seqParts 0 ps && Nat.beq ps.length len && Nat.ble (len * te.sz) 16777216 then (takeAll te (ps.map fun p => ρ p.2) []).bind fun w => match w.1 with
      | [] => newRoot d ⟨.sl true e te.own, []⟩ w.2
      | v :: vs => match uni (meetL v.t vs) (v :: vs) with
        | some xs => newRoot d ⟨.sl true e (meetL v.t vs), xs⟩ w.2
        | none => .fail
    else .fail
  | none => .fail
def bytesL (b : ByteArray) : List Int := b.data.toList.map fun c => ((c.toNat : Nat) : Int)
/-- What is appended. -/
def srcP (te : Ty) (y : AV) (ws : Writes) : Prog (V × Writes) := match y with
  | .sh (.sl o e t) xs => bif (Ty.sl o e t).plain then .ret (⟨.sl true e t, xs⟩, ws) else .fail
  | .nilsl => .ret (⟨.sl true 0 te.own, []⟩, ws)
  | .al id p s (.sl o e t) => bif o && t.plain then getR ws id fun
    | some r => bif okR r s (depth p + 1) true then match getV r.v p with
        | some ⟨.sl true e t', xs⟩ => bif t'.plain then .ret (⟨.sl true e t', xs⟩, ws) else .fail
        | _ => .fail else .fail
    | none => .fail
    else takeP (.sl o e t) (.al id p s (.sl o e t)) ws
  | .cut id p s (.sl o' e' t0) lo n => getR ws id fun
    | some r => bif okR r s (depth p + 1) true then match getV r.v p with
        | some ⟨.sl true e t', xs⟩ => bif t'.plain then .ret (⟨.sl true e t', List.take n (List.drop lo xs)⟩, ws)
          else (takeQ (.sl o' e' t0) (.cut id p s (.sl o' e' t0) lo n) ws).bind fun u => match u.1 with
            | ⟨.sl false e2 t2, ys⟩ => bif t2.plain then .ret (⟨.sl true e2 t2, ys⟩, u.2) else .fail
            | _ => .fail
        | _ => .fail else .fail
    | none => .fail
  | .sh .str b => .ret (⟨.sl true 0 (.int .u8), bytesL b⟩, ws)
  | _ => .fail
def fits (n b : Nat) : Bool := decide (n * b ≤ 140737488355328)
def lowL (v : V) (t : Ty) : Option (List t.den) := match v with
  | ⟨.sl true e t1, xs⟩ => toT ⟨.sl true e t1, xs⟩ (.sl true e t)
  | _ => none
def appendP (row : TRow) (bytes : Nat) (x y : AV) (d : Nat) : Prog Res := match elemSz row with
  | some (e, te) => (takeP row.ty x []).bind fun u => (srcP te y u.2).bind fun v => match u.1, v.1 with
    | ⟨.sl true e1 t1, xs⟩, ⟨.sl true e2 t2, ys⟩ => bif Nat.beq t2.sz te.sz then match x with
      | .nilsl => .test (fits (List.length ys) bytes) (newRoot d ⟨.sl true e t2, ys⟩ v.2) .fail
      | _ => bif Nat.beq e1 e && Nat.beq t1.sz te.sz then match lowL ⟨.sl true e1 t1, xs⟩ (meetT t1 t2), lowL ⟨.sl true e2 t2, ys⟩ (meetT t1 t2) with
        | some xs', some ys' => .test (fits (List.length xs + List.length ys) bytes) (newRoot d ⟨.sl true e (meetT t1 t2), xs' ++ ys'⟩ v.2) .fail
        | _, _ => .fail
        else .fail
      else .fail
    | _, _ => .fail
  | none => .fail
def kindOk (r : TRow) : Bool := match r.ty with
  | .str => true
  | .sl _ _ _ => true
  | _ => false
def idx1 : AV → Option Int
  | .sh (.int _) n => some n
  | _ => none
def cutOk (l n : Int) (m : Nat) : Bool := decide (0 ≤ l) && decide (l ≤ n) && decide (n ≤ (m : Int))
def optI : Option AV → Option (Option Int)
  | none => some none
  | some a => match idx1 a with
    | some n => some (some n)
    | none => none
def sliceP (row : TRow) (x : AV) (lo hi : Option AV) : Prog Res := match elemSz row, optI lo, optI hi with
  | some (e, te), some l, some h => match x with
    | .sh (.sl o e' t) xs => bif Nat.beq t.sz te.sz then .test (cutOk (l.getD 0) (h.getD (List.length xs : Nat)) (List.length xs)) (.ret ⟨.sh (.sl o e' t) (List.take ((h.getD (List.length xs : Nat)).toNat - (l.getD 0).toNat) (List.drop (l.getD 0).toNat xs)), []⟩) .fail else .fail
    | .al id p s (.sl true e' t) => bif Nat.beq t.sz te.sz then withR id s (depth p + 1) true fun r => match getV r.v p with
      | some ⟨.sl true _ t', xs⟩ => .test (cutOk (l.getD 0) (h.getD (List.length xs : Nat)) (List.length xs))
          (.ret ⟨.cut id p r.log.length (.sl true e' t) (l.getD 0).toNat ((h.getD (List.length xs : Nat)).toNat - (l.getD 0).toNat), []⟩) .fail
      | _ => .fail
      else .fail
    | _ => .fail
  | _, _, _ => .fail
def toBytes (xs : List Int) : ByteArray := ⟨(xs.map fun n => UInt8.ofNat n.toNat).toArray⟩
def convP (rs rd : TRow) (x : AV) : Prog AV := match rd.ty, x with
  | .int k, .sh (.int _) n => .ret (.sh (.int k) (k.wrap n))
  | .str, x => match rs.ty with
    | .sl _ _ (.int .u8) => (lendV rs.ty x []).bind fun
      | ⟨.sl _ _ (.int .u8), xs⟩ => .ret (.sh .str (toBytes xs))
      | _ => .fail
    | _ => .fail
  | _, _ => .fail
/-- A text's bytes, in a new row. -/
def bytesP (rd : TRow) (b : ByteArray) (d : Nat) : Prog Res := match elemSz rd with
  | some (e, .int .u8) => .test (byteT e && fits b.size 1) (newRoot d ⟨.sl true e (.int .u8), bytesL b⟩ []) .fail
  | _ => .fail
/-- A row of bytes that is converted to its own type. -/
def selfP (row : TRow) (x : AV) (d : Nat) : Prog Res := (takeP row.ty x []).bind fun u => match u.1 with
  | ⟨.sl true e (.int .u8), y :: ys⟩ => bif byteT e then newRoot d ⟨.sl true e (.int .u8), y :: ys⟩ u.2 else .fail
  | _ => .fail
def isBytes (row : TRow) : Bool := match row.ty with
  | .sl _ _ (.int .u8) => true
  | _ => false
def convQ (rs rd : TRow) (x : AV) (d : Option Tmp) : Prog Res := match rs.ty, x, d with
  | .str, .sh .str b, some d => bytesP rd b d
  | _, _, _ => q (convP rs rd x)
def byteAt (b : ByteArray) (n : Nat) : Int := ((b.data.toList.getD n 0).toNat : Int)
def indexP (row : TRow) (x i : AV) : Prog AV := match row.ty, x, i with
  | .str, .sh .str b, .sh (.int _) n => within n (b : ByteArray).size (.ret (.sh (.int .u8) (byteAt b (Int.toNat n))))
  | _, _, _ => .fail
def fieldP (row : TRow) (x : AV) (i : Nat) : Prog AV := bif row.ty.agg && Nat.blt i row.fs.length then match x with
  | .sh t x => bif like t row.ty then match getV ⟨t, x⟩ (fldP i) with
      | some v => .ret (.sh v.t v.x)
      | none => .fail else .fail
  | .al id p s t => withR id s (depth p + 1) (!t.agg) fun r => match getV r.v p with
    | some u => bif like u.t row.ty then match getV u (fldP i) with
      | some v => bif v.t.flat then .ret (.sh v.t v.x) else .fail
      | none => .fail else .fail
    | none => .fail
  | _ => .fail else .fail
def mxI (x y : Int) : Int := if y > x then y else x
def mnI (x y : Int) : Int := if y < x then y else x
def mmP (mx : Bool) : Int → IntKind → List AV → Prog AV
  | x, k, [] => .ret (.sh (.int k) x)
  | x, k, .sh (.int _) y :: l => mmP mx (bif mx then mxI x y else mnI x y) k l
  | _, _, _ => .fail
def nilP : AV → Prog AV
  | .ptr id p s => bif Nat.beq (depth p) 0 then .ret (.ptr id p s) else withR id s (depth p) true fun _ => .ret (.ptr id p s)
  | .sptr t x => .ret (.sptr t x)
  | _ => .fail
def capP : List AV → AV
  | [] => .nilf
  | a :: l => .consf a (capP l)
def capL : AV → List AV
  | .consf a b => a :: capL b
  | _ => []
/-- One cell each. -/
def capOk : AV → Bool
  | .any => false
  | .tup _ => false
  | .al _ _ _ _ => false
  | .cut _ _ _ _ _ _ => false
  | a => !a.agg
def capGood : AV → Bool
  | .nilf => true
  | .consf a b => capOk a && capGood b
  | _ => false
def fnKey : List AV → List Nat
  | [] => []
  | .fn f _ :: l => f :: fnKey l
  | _ :: l => fnKey l
/-! ### calls -/
/-- Where what comes back goes. -/
inductive Tgt where
  | root (id : Nat)
  | at (id : Nat) (p : Path)
def noshr : Ty → Bool
  | .sl o _ t => o && noshr t
  | .cons a r => noshr a && noshr r
  | _ => true
@[reducible] def PK.pre : PK → Type
  | .r pt => Option pt.den
  | .o t => t.den
  | .p t _ => t.den
  | .c _ => Unit
@[reducible] def preT : List PK → Type
  | [] => Unit
  | k :: ks => k.pre × preT ks
def isOwn : AV → Bool
  | .al _ _ _ _ => true
  | .cut _ _ _ _ _ _ => true
  | _ => false
def takeIf (strict : Bool) : (p : Pat) → AV → Writes → Prog (Option p.den × Writes)
  | .val t, x, ws => bif strict && isOwn x then (takeTo t x ws).bind fun u => .ret (some u.1, u.2) else .ret (none, ws)
  | _, _, ws => .ret (none, ws)
/-- First what is taken .. -/
def pre1 (strict : Bool) : (k : PK) → AV → Writes → Prog (k.pre × Writes)
  | .r p, x, ws => (takeIf strict p x ws).bind fun u => .ret ((u.1 : (PK.r p).pre), u.2)
  | .o t, x, ws => bif t.flat then .fail else (takeTo t x ws).bind fun u => .ret ((u.1 : (PK.o t).pre), u.2)
  | .p t t', .ptr id [] s, ws => getR ws id fun
      | some r => bif r.blk then match toT r.v t with
        | some x => bif decide (r.v.t = t) then .ret ((x : (PK.p t t').pre), (id, stolen r [] r.v r.v.hol) :: ws) else .fail
        | none => .fail else .fail
      | none => .fail
  | .c t, x, ws => .ret (((() : Unit) : (PK.c t).pre), ws)
  | _, _, _ => .fail
def preP (strict : Bool) : (ks : List PK) → List AV → Writes → Prog (preT ks × Writes)
  | [], [], ws => .ret ((), ws)
  | [], _ :: _, _ => .fail
  | k :: ks, x :: xs, ws => (pre1 strict k x ws).bind fun u => (preP strict ks xs u.2).bind fun v => .ret ((u.1, v.1), v.2)
  | _ :: _, [], _ => .fail
/-- .. then what is read. -/
def arg1 : (k : PK) → k.pre → AV → Writes → Prog (k.den × List Tgt × List Nat)
  | .r p, y, x, ws => match (y : Option p.den) with
    | some y => .ret ((y : (PK.r p).den), [], [])
    | none => (lendP p x ws).bind fun u => .ret ((u : (PK.r p).den), [], lent x)
  | .o t, y, x, ws => .ret (((y : t.den) : (PK.o t).den), [], [])
  | .p t t', y, .ptr id [] s, ws => .ret (((y : t.den) : (PK.p t t').den), [.root id], [])
  | .c t, _, .al id p s t', ws => getR ws id fun
      | some r => bif okR r s (depth p + 1) (!t'.agg) && !t.flat then match getV r.v p with
        | some v => if h : v.t = t then .ret ((cast (congrArg Ty.den h) v.x : (PK.c t).den), [.at id p], []) else .fail
        | none => .fail else .fail
      | none => .fail
  | _, _, _, _ => .fail
def argsP : (ks : List PK) → preT ks → List AV → Writes → Prog (argsT ks × List Tgt × List Nat)
  | [], _, _, ws => .ret ((), [], [])
  | k :: ks, y, x :: xs, ws => (arg1 k y.1 x ws).bind fun u => (argsP ks y.2 xs ws).bind fun v => .ret ((u.1, v.1), u.2.1 ++ v.2.1, u.2.2 ++ v.2.2)
  | _ :: _, _, [], _ => .fail
def tyW : List Ty → Ty
  | [] => .nil
  | t :: ts => .cons t (tyW ts)
/-- The several results of an answer, and what comes back behind them. -/
def cutB : (bs : List Ty) → tysT bs → List V
  | [], _ => []
  | [b], y => [⟨b, y⟩]
  | b :: c :: bs, y => ⟨b, y.1⟩ :: cutB (c :: bs) y.2
def cutA : (ts : List Ty) → (bs : List Ty) → tysT (ts ++ bs) → (tyW ts).den × List V
  | [], bs, y => ((), cutB bs y)
  | [t], [], y => ((y, ()), [])
  | [t], b :: bs, y => ((y.1, ()), cutB (b :: bs) y.2)
  | t :: u :: ts, bs, y => ((y.1, (cutA (u :: ts) bs y.2).1), (cutA (u :: ts) bs y.2).2)
def rowed (r : Root) (p : Path) (v' : V) : Root := { r with v := v', log := (depth p + 1, true) :: r.log }
def backP : List Tgt → List V → Writes → Prog Writes
  | [], [], ws => .ret ws
  | .root id :: gs, v :: vs, ws => getR ws id fun
    | some r => bif like v.t r.v.t then backP gs vs ((id, stored r [] v r.v v) :: ws) else .fail
    | none => .fail
  | .at id p :: gs, v :: vs, ws => getR ws id fun
    | some r => match putV r.v p v with
        | some v' => backP gs vs ((id, rowed r p v') :: ws)
        | none => .fail
    | none => .fail
  | _, _, _ => .fail
def resId (d i : Nat) : Nat := 200000 + 8 * d + i
/-- Several results: each that is own in a root of its own. -/
def landL (d : Nat) : Nat → (ts : List Ty) → (tyW ts).den → Writes → Prog (AV × Writes)
  | _, [], _, ws => .ret (.nilf, ws)
  | i, t :: ts, x, ws => bif t.plain then (landL d (i + 1) ts x.2 ws).bind fun u => .ret (.consf (.sh t x.1) u.1, u.2)
    else getR ws (resId d i) fun
      | none => (landL d (i + 1) ts x.2 ((resId d i, ⟨⟨t, x.1⟩, false, [], none, none⟩) :: ws)).bind fun u => .ret (.consf (.al (resId d i) [] 0 t) u.1, u.2)
      | some _ => .fail
def disj (a b : List Nat) : Bool := a.all fun x => !b.any (Nat.beq x)
def tgtIds : List Tgt → List Nat
  | [] => []
  | .root id :: l => id :: tgtIds l
  | .at id _ :: l => id :: tgtIds l
def landP (d : Option Tmp) : (rk : RK) → (tyW rk.tys).den → Writes → Prog Res
  | .ptr t, x, ws => match d with
    | some d => getR ws d fun
      | none => .ret ⟨.ptr d [] 0, (d, ⟨⟨t, x.1⟩, true, [], none, none⟩) :: ws⟩
      | some _ => .fail
    | none => .fail
  | .one t, x, ws => match d with
    | some d => bif t.plain then .ret ⟨.sh t x.1, ws⟩ else newRoot d ⟨t, x.1⟩ ws
    | none => .ret ⟨.any, ws⟩
  | .many ts, x, ws => match d with
    | some d => (landL d 0 ts x ws).bind fun u => .ret ⟨.tup u.1, u.2⟩
    | none => .ret ⟨.any, ws⟩
def wrIds : Writes → List Nat
  | [] => []
  | (i, _) :: l => i :: wrIds l
def strictC (c : Con) : Bool := !noshr (tyW c.rk.tys) || c.ks.any fun k => match k with
  | .p _ t' => !noshr t'
  | .c t => !noshr t
  | _ => false
def tgtOk (c : Con) (ws : Writes) (ls : List Nat) : List Tgt → Bool
  | [] => disj ls (wrIds ws)
  | [.root id] => disj ls (wrIds ws) && !ls.any (Nat.beq id)
  | [.at id _] => !ls.any (Nat.beq id) && (tyW c.rk.tys).flat && ws.isEmpty
  | _ => false
def callP (c : Con) (args : List AV) (d : Option Tmp) : Prog Res := (preP (strictC c) c.ks args []).bind fun u => (argsP c.ks u.1 args u.2).bind fun v =>
  bif tgtOk c u.2 v.2.2 v.2.1 && (!strictC c || v.2.2.isEmpty) then
    .use (c.fn v.1) fun y => (backP v.2.1 (cutA c.rk.tys (backs c.ks) y).2 u.2).bind fun ws => landP d c.rk (cutA c.rk.tys (backs c.ks) y).1 ws
  else .fail

def binQ (T : List (TypeId × TRow)) (xt : TypeId) (op : BinOp) (x y : AV) : Prog AV := binT T xt op x y
def opP (T : List (TypeId × TRow)) (K : Cons) (o : Oper) (ρ : Operand → AV) : Prog Res := match o.op with
  | .move x => .ret ⟨ρ x, []⟩
  | .assign x => .ret ⟨ρ x, []⟩
  | .pick c x y => q (pickP (ρ c) (ρ x) (ρ y))
  | .alloc e => match o.dst, allocRow T e with
    | some d, some row => allocP row d
    | _, _ => .fail
  | .box e x => match o.dst, tget T e with
    | some d, some row => boxP row (ρ x) d
    | _, _ => .fail
  | .build t ps => match tget T t with
    | some row => q (buildP row ρ ps.toList)
    | none => .fail
  | .buildSlice t len ps => match o.dst, tget T t with
    | some d, some row => buildSliceP row len ps.toList ρ d
    | _, _ => .fail
  | .load t x => match tget T t with
    | some row => q (loadP row (ρ x))
    | none => .fail
  | .store t x y => match o.dst, tget T t with
    | none, some row => (storeQ row (ρ x) (ρ y)).bind fun ws => .ret ⟨.any, ws⟩
    | _, _ => .fail
  | .nilCheck x => q (nilP (ρ x))
  | .binOp op xt x y _ => q (binQ T xt op (ρ x) (ρ y))
  | .unOp op _ x => q (unP op (ρ x))
  | .convert s t x => match tget T s, tget T t with
    | some rs, some rd => bif Nat.beq s t && isBytes rs then (match o.dst with
      | some d => selfP rs (ρ x) d
      | none => .fail) else convQ rs rd (ρ x) o.dst
    | _, _ => .fail
  | .makeFunc (.func f) fst cap => bif Nat.beq fst.size 0 && capGood (capP (cap.toList.map ρ)) then .ret ⟨.fn f (capP (cap.toList.map ρ)), []⟩ else .fail
  | .makeSlice t l c => match o.dst, tget T t with
    | some d, some row => match elemSz row with
      | some (e, _) => match tget T e with
        | some re => makeP row re.bytes (ρ l) (ρ c) d
        | none => .fail
      | none => .fail
    | _, _ => .fail
  | .slice t x lo hi none => match tget T t with
    | some row => sliceP row (ρ x) (lo.map ρ) (hi.map ρ)
    | none => .fail
  | .fieldAddr s x i => match tget T s with
    | some row => q (fieldAddrP row (ρ x) i)
    | none => .fail
  | .field s x i => match tget T s with
    | some row => q (fieldP row (ρ x) i)
    | none => .fail
  | .indexAddr t x i => q (idxP T t (ρ x) (ρ i))
  | .index t x i => match tget T t with
    | some row => q (indexP row (ρ x) (ρ i))
    | none => .fail
  | .extract x i => q (extractP (ρ x) i)
  | .call c => match c.callee with
    | .value f => match ρ f with
      | .fn g cap =>
        let args := c.args.toList.map ρ ++ capL cap
        match K g (fnKey args) with
        | some con => bif capGood cap then callP con args o.dst else .fail
        | none => .fail
      | _ => .fail
    | .builtin .len => match c.args.toList, c.argTypes.toList with
      | [x], [t] => match tget T t with
        | some row => q (lenP row (ρ x))
        | none => .fail
      | _, _ => .fail
    | .builtin .append => match o.dst, c.args.toList, c.argTypes.toList with
      | some d, [x, y], [t, tx] => match tget T t, tget T tx with
        | some row, some rx => bif kindOk rx then match elemSz row with
          | some (e, _) => match tget T e with
            | some re => appendP row re.bytes (ρ x) (ρ y) d
            | none => .fail
          | none => .fail
          else .fail
        | _, _ => .fail
      | _, _, _ => .fail
    | .builtin .min => match c.args.toList.map ρ with
      | .sh (.int k) x :: l => q (mmP false x k l)
      | _ => .fail
    | .builtin .max => match c.args.toList.map ρ with
      | .sh (.int k) x :: l => q (mmP true x k l)
      | _ => .fail
    | _ => .fail
  | _ => .fail

/-! ### regions -/
structure Rec where
  i : Nat
  dst : Option Tmp
  rd : List Tmp
  ask : List Nat
  wr : List Nat
def guards (all : List Oper) (i : Nat) : Bool := all.any fun o => match o.guard with
  | some (j, _) => Nat.beq j i
  | none => false
def opTmps : List Operand → List Tmp
  | [] => []
  | .tmp t :: l => t :: opTmps l
  | _ :: l => opTmps l
def looks (all : List Oper) (o : Oper) : List Tmp := opTmps o.op.operands.toList ++ (match o.guard with
  | some (g, _) => match all[g]? with
    | some og => match og.dst with
      | some d => [d]
      | none => []
    | none => []
  | none => [])
/-- Is the operation wanted? -/
def wantedP (all : List Oper) (T : Nat → AV) (o : Oper) : Option Bool := match o.guard with
  | none => some true
  | some (g, want) => match all[g]? with
    | some og => match og.dst with
      | some d => match T d with
        | .sh .bool b => some (match want with
          | true => (b : Bool)
          | false => !(b : Bool))
        | .tup .nilf => some false
        | _ => none
      | none => none
    | none => none
def runOps {A : Type} (T : List (TypeId × TRow)) (K : Cons) (all : List Oper) : Nat → List Oper → St → List Rec → (St → List Rec → Option A) → Option A
  | _, [], st, rs, k => k st rs
  | i, o :: os, st, rs, k => match wantedP all st.tmps o with
    | none => none
    | some w => bif w then
        (bif guards all i then splitB (opP T K o (evalA st.tmps)) else opP T K o (evalA st.tmps)).cps st.roots [] fun res ask =>
          runOps T K all (i + 1) os (st.after o.dst res) (⟨i, o.dst, looks all o, ask, wrIds res.ws⟩ :: rs) k
      else runOps T K all (i + 1) os (st.after o.dst ⟨.tup .nilf, []⟩) (⟨i, o.dst, looks all o, [], []⟩ :: rs) k
def memN (x : Nat) : List Nat → Bool
  | [] => false
  | y :: l => Nat.beq x y || memN x l
def meets (a b : List Nat) : Bool := a.any fun x => memN x b
/-- Two operations that may come in either order: do they leave each other alone? -/
def apart2 (x y : Rec) : Bool :=
  (match x.dst with
   | some d => !memN d y.rd && (match y.dst with
     | some e => !Nat.beq d e
     | none => true)
   | none => true) && (match y.dst with
   | some d => !memN d x.rd
   | none => true) && !meets x.wr y.ask && !meets x.wr y.wr && !meets x.ask y.wr
/-- What must come ahead, as bits. -/
def edgeM : List Edge → List Nat → Nat
  | [], _ => 0
  | e :: es, acc => bif Region.binds .any e then (2 ^ e.on ||| acc.getD e.on 0) ||| edgeM es acc else edgeM es acc
def masks : List Oper → List Nat → List Nat
  | [], acc => acc
  | o :: os, acc => masks os (acc ++ [edgeM o.after.toList acc])
def calm (bf : List Nat) : List Rec → Bool
  | [] => true
  | y :: l => l.all (fun x => Nat.testBit (bf.getD y.i 0) x.i || apart2 x y) && calm bf l

/-! ### one store that is pending while others read -/
structure Pend where
  id : Nat
  id2 : Nat
  p : Path
  t : Ty
  r : Root
  r2 : Root
  u : V
def softOp (o : Oper) : Bool := o.guard.isNone && (match o.op with
  | .fieldAddr _ _ _ => true
  | .load _ _ => true
  | .slice _ _ _ _ none => true
  | .build _ _ => true
  | .call c => (match c.callee with
    | .builtin .len => true
    | _ => false)
  | _ => false)
/-- A store of own rows into a variable: what, whence, whereto. -/
def pendOf (T : List (TypeId × TRow)) (o : Oper) (st : St) : Option Pend := match o.op, o.dst, o.guard with
  | .store t x y, none, none => (match tget T t, evalA st.tmps x, evalA st.tmps y with
    | some row, .ptr id [] s, .al id2 p s2 t2 => (match st.roots id, st.roots id2 with
      | some r, some r2 => (match getV r2.v p with
        | some u => bif !Nat.beq id id2 && (okR r s 0 true && (okR r2 s2 (depth p + 1) (!t2.agg) && (like t2 row.ty && (like t2 r.v.t && decide (u.t = t2))))) then some ⟨id, id2, p, t2, r, r2, u⟩ else none
        | none => none)
      | _, _ => none)
    | _, _, _ => none)
  | _, _, _ => none
def pendArg (o : Oper) : Operand := match o.op with
  | .store _ _ y => y
  | _ => .const undef
/-- The variable, while it is told of its numbers alone. -/
def pendRoot (q : Pend) : Root := stored q.r [] q.u.hol q.r.v q.u.hol
def pendSt (q : Pend) (st : St) : St := ⟨st.tmps, upt st.roots q.id (some (pendRoot q))⟩
def doneRoot (q : Pend) : Root := stored (pendRoot q) [] q.u q.u.hol q.u
def resolve0 (q : Pend) (st : St) : Option St := match putV q.r2.v q.p q.u.hol with
  | some v2 => some ⟨st.tmps, upt (upt (upt st.roots q.id (some (pendRoot q))) q.id2 (some (stolen q.r2 q.p q.u v2))) q.id (some (doneRoot q))⟩
  | none => none
def lastIdx : Path → Option (Path × Nat)
  | [] => none
  | [.idx k] => some ([], k)
  | s :: p => match lastIdx p with
    | some (q, k) => some (s :: q, k)
    | none => none
def eqPath : Path → Path → Bool
  | [], [] => true
  | .fst :: p, .fst :: q => eqPath p q
  | .snd :: p, .snd :: q => eqPath p q
  | .idx i :: p, .idx j :: q => Nat.beq i j && eqPath p q
  | _, _ => false
def tailId (slot : Nat) : Nat := 400000 + slot
/-- The rows are parted: an element, and a part behind it. -/
def resolve1 (q : Pend) (st : St) (slot : Nat) : Option St := match lastIdx q.p, st.tmps slot with
  | some (p, k), .consf (.cut id2 p2 s2 t2 lo n) .nilf => bif Nat.beq id2 q.id2 && (eqPath p2 p && (Nat.blt k lo && okR q.r2 s2 (depth p2 + 1) true)) then (match getV q.r2.v p2 with
    | some ⟨.sl true e te, xs⟩ => (match st.roots (tailId slot), putV q.r2.v p2 (V.hol ⟨.sl true e te, xs⟩) with
      | none, some v2 => bif !Nat.beq (tailId slot) q.id && !Nat.beq (tailId slot) q.id2 then
          some ⟨upt st.tmps slot (.consf (.al (tailId slot) [] 0 (.sl true e te)) .nilf), upt (upt (upt (upt st.roots q.id (some (pendRoot q))) q.id2 (some (stolen q.r2 p2 ⟨.sl true e te, xs⟩ v2))) q.id (some (doneRoot q))) (tailId slot) (some ⟨⟨.sl true e te, List.take n (List.drop lo xs)⟩, false, [], none, none⟩)⟩
          else none
      | _, _ => none)
    | _ => none) else none
  | _, _ => none
def resolveL (items : List Item) (q : Pend) (st : St) : Option St := match items with
  | .pat s _ :: _ => resolve1 q st s
  | _ => resolve0 q st
def softRec (all : List Oper) (q : Pend) (oy : Oper) (x : Rec) : Bool := (match all[x.i]? with
  | some o => softOp o
  | none => false) && (x.wr.isEmpty && (!memN q.id x.ask && (match x.dst with
  | some d => !memN d (looks all oy)
  | none => true)))
def pendCalm (my : Nat) (all : List Oper) (rs : List Rec) (q : Pend) (oy : Oper) : Bool := calm (masks all []) rs && (rs.all (fun x => Nat.testBit ((masks all []).getD my 0) x.i || softRec all q oy x) &&
  (List.range all.length).all fun n => Nat.ble n my || (List.range n).all fun m => Nat.testBit ((masks all []).getD n 0) m)

/-! ### code -/
inductive Ex where
  | normal
  | exit (id : Nat)
  | ret
def firstR : Code → Nat
  | .region id _ _ => id
  | .seq a _ => firstR a
  | .block _ c => firstR c
  | _ => 0
noncomputable def runC (T : List (TypeId × TRow)) (K : Cons) (L : Loops) : Code → {A : Type} → St → (Ex → St → Option A) → Option A
  | .skip, _, st, k => k .normal st
  | .region id ops draw, _, st, k => match L (id + 2000000) with
    | some l => match ops.toList[l.out]? with
      | some oy => runOps T K ops.toList 0 (ops.toList.take l.out) st [] fun st1 rs => match pendOf T oy st1 with
        | some q => bif draw && pendCalm l.out ops.toList rs q oy then match resolveL l.items q st1 with
            | some st2 => runOps T K ops.toList (l.out + 1) (ops.toList.drop (l.out + 1)) st2 [] fun st3 _ => k .normal st3
            | none => none
          else none
        | none => none
      | none => none
    | none => match L (id + 1000000) with
    | none => runOps T K ops.toList 0 ops.toList st [] fun st' rs => bif !draw || calm (masks ops.toList []) rs then k .normal st' else none
    | some l => match (bif itemsOk l.items then matchL st.roots st.tmps st.roots l.items [] else none) with
      | some x => runOps T K ops.toList 0 ops.toList (inj st.roots l.items x) [] fun st' rs => bif !draw || calm (masks ops.toList []) rs then k .normal st' else none
      | none => none
  | .seq a b, _, st, k => runC T K L a st fun e st' => match e with
    | .normal => runC T K L b st' k
    | .exit j => k (.exit j) st'
    | .ret => k .ret st'
  | .cond c a b, _, st, k => match evalA st.tmps c with
    | .sh .bool x => bif (x : Bool) then runC T K L a st k else runC T K L b st k
    | _ => none
  | .block id c, _, st, k => runC T K L c st fun e st' => match e with
    | .normal => k .normal st'
    | .exit j => bif Nat.beq j id then k .normal st' else k (.exit j) st'
    | .ret => k .ret st'
  | .exit id, _, st, k => k (.exit id) st
  | .ret, _, st, k => k .ret st
  | .loop c, A, st, k => match L (firstR c) with
    | some l => match (bif itemsOk l.items then matchL st.roots st.tmps st.roots l.items [] else none) with
      | some x => match loopO (fun x => runC T K L c (A := Lp (itemsT l.items) A) (inj st.roots l.items x) fun e st' => match e with
          | .normal => match matchL st.roots st'.tmps st'.roots l.items [] with
            | some x => some (.again x)
            | none => none
          | .exit j => bif Nat.beq j l.out then match matchL st.roots st'.tmps st'.roots l.items [] with
            | some x => some (.exit x)
            | none => none else none
          | .ret => match k .ret st' with
            | some a => some (.ret a)
            | none => none) x with
        | some (.inl x) => k (.exit l.out) (inj st.roots l.items x)
        | some (.inr a) => some a
        | none => none
      | none => none
    | none => none
  | _, _, _, _ => none

/-! ### functions -/
def startT : Nat → (ks : List PK) → argsT ks → Nat → AV
  | _, [], _, _ => .any
  | n, k :: ks, x, t => bif Nat.beq n t then one n k x.1 else startT (n + 1) ks x.2 t
where one (n : Nat) : (k : PK) → k.den → AV
  | .r p, x => p.av x
  | .o t, _ => .al n [] 0 t
  | .p _ _, _ => .ptr n [] 0
  | .c t, _ => .al n [] 0 t
def startR : Nat → (ks : List PK) → argsT ks → Nat → Option Root
  | _, [], _, _ => none
  | n, k :: ks, x, t => bif Nat.beq n t then one n k x.1 else startR (n + 1) ks x.2 t
where one (n : Nat) : (k : PK) → k.den → Option Root
  | .r _, _ => none
  | .o t, x => some ⟨⟨t, x⟩, false, [], none, none⟩
  | .p t _, x => some ⟨⟨t, x⟩, true, [(0, true)], none, some n⟩
  | .c t, x => some ⟨⟨t, x⟩, false, [], some n, none⟩
def resP (T : List (TypeId × TRow)) (tmps : Nat → AV) : ResultVar → Prog AV
  | .tmp t => .ret (tmps t)
  | .cell a t => match tget T t with
    | some row => loadP row (tmps a)
    | none => .fail
def resL (T : List (TypeId × TRow)) (tmps : Nat → AV) : List ResultVar → (ts : List Ty) → Writes → Prog (tysT ts × Writes)
  | [], [], ws => .ret ((), ws)
  | [r], [t], ws => (resP T tmps r).bind fun a => takeTo t a ws
  | r :: s :: rs, t :: u :: ts, ws => (resP T tmps r).bind fun a => (takeTo t a ws).bind fun x => (resL T tmps (s :: rs) (u :: ts) x.2).bind fun y => .ret ((x.1, y.1), y.2)
  | _, _, _ => .fail
def exT (v : V) (t : Ty) : Option t.den := if h : v.t = t then some (cast (congrArg Ty.den h) v.x) else none
/-- The roots of the parameters that are handed back, in order. -/
def findOrg (R : Nat → Option Root) (org : Nat) (blk : Bool) : List Nat → Option V
  | [] => none
  | i :: l => match R i with
    | some r => bif (match (bif blk then r.pin else r.org) with
        | some j => Nat.beq j org
        | none => false) && (blk || since r.log 0 1 false) then some r.v else findOrg R org blk l
    | none => findOrg R org blk l
def joinA : (ts bs : List Ty) → tysT ts → tysT bs → tysT (ts ++ bs)
  | [], _, _, y => y
  | [t], [], x, _ => x
  | [t], _ :: _, x, y => (x, y)
  | t :: u :: ts, bs, x, y => (x.1, joinA (u :: ts) bs x.2 y)
def backL (R : Nat → Option Root) (ids : List Nat) : Nat → (ks : List PK) → Option (tysT (backs ks))
  | _, [] => some ()
  | n, .r _ :: ks => backL R ids (n + 1) ks
  | n, .o _ :: ks => backL R ids (n + 1) ks
  | n, .p _ t :: ks => match findOrg R n true ids with
    | some v => match exT v t, backL R ids (n + 1) ks with
      | some x, some y => some (joinA [t] (backs ks) x y)
      | _, _ => none
    | none => none
  | n, .c t :: ks => match findOrg R n false ids with
    | some v => match exT v t, backL R ids (n + 1) ks with
      | some x, some y => some (joinA [t] (backs ks) x y)
      | _, _ => none
    | none => none
def finish (T : List (TypeId × TRow)) (c : Con) (ids : List Nat) (rs : List ResultVar) (st : St) : Option (ansT c.rk c.ks) := match c.rk with
  | .one t => match (resL T st.tmps rs [t] []).go st.roots with
    | some (x, ws) => match backL (app ws st.roots) ids 0 c.ks with
      | some y => some (joinA [t] (backs c.ks) x y)
      | none => none
    | none => none
  | .many ts => match (resL T st.tmps rs ts []).go st.roots with
    | some (x, ws) => match backL (app ws st.roots) ids 0 c.ks with
      | some y => some (joinA ts (backs c.ks) x y)
      | none => none
    | none => none
  | .ptr t => match rs with
    | [.tmp s] => match st.tmps s with
      | .ptr id [] _ => match st.roots id with
        | some r => bif r.blk && r.org.isNone then match toT r.v t, backL st.roots ids 0 c.ks with
          | some x, some y => some (joinA [t] (backs c.ks) x y)
          | _, _ => none else none
        | none => none
      | _ => none
    | _ => none
noncomputable def runF (T : List (TypeId × TRow)) (K : Cons) (L : Loops) (ids : List Nat) (f : Func) (c : Con) (x : argsT c.ks) : Option (ansT c.rk c.ks) := match f.body with
  | some b => runC T K L b ⟨startT 0 c.ks x, startR 0 c.ks x⟩ fun e st => match e with
    | .exit _ => none
    | .normal => finish T c ids f.results.toList st
    | .ret => finish T c ids f.results.toList st
  | none => none
/-! ### words of what is printed -/
abbrev len {A : Type} (l : List A) : Int := ((List.length l : Nat) : Int)
abbrev blen (b : ByteArray) : Int := ((ByteArray.size b : Nat) : Int)
abbrev w64 (x : Int) : Int := IntKind.wrap .i64 x
def chk {A : Type} (b : Bool) (k : Option A) : Option A := bif b then k else none
def nchk {A : Type} (b : Bool) (k : Option A) : Option A := bif b then none else k
def afterO {X A : Type} (o : Option (X ⊕ A)) (k : X → Option A) : Option A := match o with
  | some (.inl x) => k x
  | some (.inr a) => some a
  | none => none
end Go.Proofs.YtipaepbmdooekaaGreatDoor.Vm
