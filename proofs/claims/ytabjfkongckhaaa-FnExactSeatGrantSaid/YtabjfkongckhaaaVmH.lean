/- The table of types, held against the program's; reading and writing variables in memory. -/
import Derived.Test.YtabjfkongckhaaaVmG
namespace Go.Proofs.Ytabjfkongckhaaa.Vm
open Go Go.RowKit
set_option linter.unusedVariables false

namespace Ty
def zeroC : Ty → List Value
  | .int k => [.int k 0]
  | .bool => [.bool false]
  | .str => [.string ⟨#[]⟩]
  | .hole => []
  | .sl _ _ _ => [.slice none 0 0]
  | .nil => []
  | .cons a r => a.zeroC ++ r.zeroC
def dftD : (t : Ty) → t.own.dec
  | .int _ => (0 : Int)
  | .bool => false
  | .str => (⟨#[]⟩ : ByteArray)
  | .hole => (undef : Value)
  | .sl _ _ _ => ((none, 0), [])
  | .nil => ()
  | .cons a r => (a.dftD, r.dftD)
def full : Ty → Bool
  | .hole => false
  | .cons a r => a.full && r.full
  | _ => true
theorem dftD_er : ∀ t : Ty, t.own.er t.dftD = t.own.dft
  | .int _ | .bool | .str | .hole | .sl _ _ _ | .nil => rfl
  | .cons a r => by simp only [own, dftD, er, dft, dftD_er a, dftD_er r]
theorem dftD_cs : ∀ t : Ty, t.full = true → t.own.cs t.dftD = t.zeroC
  | .int _, _ | .bool, _ | .str, _ | .sl _ _ _, _ | .nil, _ => rfl
  | .hole, h => by cases h
  | .cons a r, h => by
    simp only [full, Bool.and_eq_true] at h
    simp only [own, dftD, cs, zeroC, dftD_cs a h.1, dftD_cs r h.2]
theorem dftD_foot : ∀ t : Ty, t.own.foot t.dftD = []
  | .int _ | .bool | .str | .hole | .sl _ _ _ | .nil => rfl
  | .cons a r => by simp only [own, dftD, foot, dftD_foot a, dftD_foot r]; rfl
theorem dftD_ok (w : World) (Sh : Nat → Prop) : ∀ t : Ty, t.full = true → OK w Sh t.own t.dftD
  | .int _, _ | .bool, _ | .str, _ | .nil, _ => trivial
  | .hole, h => by cases h
  | .sl _ _ _, _ => .inl ⟨rfl, rfl⟩
  | .cons a r, h => by
    simp only [full, Bool.and_eq_true] at h
    exact ⟨dftD_ok w Sh a h.1, dftD_ok w Sh r h.2⟩
theorem own_like : ∀ t : Ty, like t.own t = true
  | .int _ | .bool | .str | .hole | .sl _ _ _ | .nil => rfl
  | .cons a r => by simp only [own, like, own_like a, own_like r, Bool.and_self]
theorem own_sz (t : Ty) : t.own.sz = t.sz := like_sz (own_like t)
theorem own_agg (t : Ty) : t.own.agg = t.agg := like_agg (own_like t)
theorem zeroC_len : ∀ t : Ty, t.full = true → t.zeroC.length = t.sz := fun t h => by rw [← dftD_cs t h, cs_len, own_sz]
end Ty

def cellEq : Value → Value → Bool
  | .int k a, .int k' b => decide (k = k') && a == b
  | .bool a, .bool b => a == b
  | .string a, .string b => Nat.beq a.size 0 && Nat.beq b.size 0
  | .slice none 0 0, .slice none 0 0 => true
  | _, _ => false
theorem cellEq_eq {a b : Value} (h : cellEq a b = true) : a = b := by
  unfold cellEq at h
  split at h
  · simp only [Bool.and_eq_true, decide_eq_true_eq, beq_iff_eq] at h
    rw [h.1, h.2]
  · rw [beq_iff_eq] at h; rw [h]
  · rename_i a b
    simp only [Bool.and_eq_true] at h
    have e : ∀ x : ByteArray, x.size = 0 → x = ⟨#[]⟩ := fun x hx => by
      cases x with | mk d => congr; exact Array.eq_empty_of_size_eq_zero hx
    rw [e a (Nat.eq_of_beq_eq_true h.1), e b (Nat.eq_of_beq_eq_true h.2)]
  · rfl
  · cases h
def cellsEq : List Value → List Value → Bool
  | [], [] => true
  | a :: l, b :: m => cellEq a b && cellsEq l m
  | _, _ => false
theorem cellsEq_eq : ∀ {l m : List Value}, cellsEq l m = true → l = m
  | [], [], _ => rfl
  | a :: l, b :: m, h => by
    simp only [cellsEq, Bool.and_eq_true] at h
    rw [cellEq_eq h.1, cellsEq_eq h.2]
  | [], _ :: _, h => by cases h
  | _ :: _, [], h => by cases h
def zeroOk (ty : Ty) : Value → Bool
  | .agg cs => ty.agg && cellsEq cs.toList ty.zeroC
  | v => !ty.agg && cellsEq [v] ty.zeroC
theorem zeroOk_eq {ty : Ty} {v : Value} (h : zeroOk ty v = true) : v = mkw ty.agg ty.zeroC := by
  unfold zeroOk at h
  split at h
  · simp only [Bool.and_eq_true] at h
    rw [mkw, h.1, if_pos rfl, ← cellsEq_eq h.2]
  · simp only [Bool.and_eq_true, Bool.not_eq_true'] at h
    rw [mkw, h.1, ← cellsEq_eq h.2]; rfl

def FldOK (T : List (TypeId × TRow)) : Nat → Ty → List TypeId → List Field → Prop
  | _, .nil, [], [] => True
  | off, .cons a r, t :: ts, f :: fs => f.type = t ∧ f.offset = off ∧ f.name ≠ "_" ∧ (∃ rf, tget T t = some rf ∧ rf.ty = a) ∧ a.sz ≠ 0 ∧ FldOK T (off + a.sz) r ts fs
  | _, _, _, _ => False
def fldCheck (T : List (TypeId × TRow)) : Nat → Ty → List TypeId → List Field → Bool
  | _, .nil, [], [] => true
  | off, .cons a r, t :: ts, f :: fs => Nat.beq f.type t && Nat.beq f.offset off && !(f.name == "_") && (match tget T t with
    | some rf => decide (rf.ty = a)
    | none => false) && !Nat.beq a.sz 0 && fldCheck T (off + a.sz) r ts fs
  | _, _, _, _ => false
theorem fldCheck_ok {T : List (TypeId × TRow)} : ∀ {off : Nat} {t : Ty} {ts : List TypeId} {fs : List Field}, fldCheck T off t ts fs = true → FldOK T off t ts fs
  | _, .nil, [], [], _ => trivial
  | off, .cons a r, t :: ts, f :: fs, h => by
    simp only [fldCheck, Bool.and_eq_true, Bool.not_eq_true'] at h
    obtain ⟨⟨⟨⟨⟨h1, h2⟩, h3⟩, h4⟩, h5⟩, h6⟩ := h
    refine ⟨Nat.eq_of_beq_eq_true h1, Nat.eq_of_beq_eq_true h2, by simpa using h3, ?_, fun e => ?_, fldCheck_ok h6⟩
    · cases ht : tget T t with
      | none => rw [ht] at h4; cases h4
      | some rf => rw [ht] at h4; exact ⟨rf, rfl, of_decide_eq_true h4⟩
    · rw [e] at h5; cases h5
  | _, .nil, _ :: _, _, h => by cases h
  | _, .nil, [], _ :: _, h => by cases h
  | _, .cons _ _, [], _, h => by cases h
  | _, .cons _ _, _ :: _, [], h => by cases h
  | _, .int _, _, _, h | _, .bool, _, _, h | _, .str, _, _, h | _, .hole, _, _, h | _, .sl _ _ _, _, _, h => by cases h

def DescOK (P : Program) (T : List (TypeId × TRow)) (t : TypeId) (r : TRow) : Prop := match r.ty with
  | .int k => P.underlying t = some (.int k)
  | .bool => P.underlying t = some .bool
  | .str => P.underlying t = some .string
  | .hole => False
  | .sl o e te => o = false ∧ P.underlying t = some (.slice e) ∧ ∃ re, tget T e = some re ∧ re.ty = te ∧ te.sz ≠ 0 ∧ te.plain = true
  | ty => ∃ fs, P.underlying t = some (.struct fs) ∧ FldOK T 0 ty r.fs fs.toList
structure RowOK (P : Program) (T : List (TypeId × TRow)) (t : TypeId) (r : TRow) : Prop where
  info : ∃ i, P.info? t = some i ∧ i.size = r.ty.sz ∧ i.bytes = r.bytes ∧ i.zero = some (mkw r.ty.agg r.ty.zeroC)
  desc : DescOK P T t r
  full : r.ty.full = true
  plain : r.ty.plain = true
  nz : r.ty.sz ≠ 0
  nb : r.bytes ≠ 0
  eqs : r.ty.agg = true → P.stoodInHeld t = false ∧ P.eqGuardType P.depth t = false
def TabOK (P : Program) (T : List (TypeId × TRow)) : Prop := ∀ t r, tget T t = some r → RowOK P T t r
def descCheck (P : Program) (T : List (TypeId × TRow)) (t : TypeId) (r : TRow) : Bool := match r.ty with
  | .int k => match P.underlying t with
    | some (.int k') => decide (k' = k)
    | _ => false
  | .bool => match P.underlying t with
    | some .bool => true
    | _ => false
  | .str => match P.underlying t with
    | some .string => true
    | _ => false
  | .hole => false
  | .sl o e te => !o && (match P.underlying t with
    | some (.slice e') => Nat.beq e' e
    | _ => false) && (match tget T e with
    | some re => decide (re.ty = te)
    | none => false) && !Nat.beq te.sz 0 && te.plain
  | ty => match P.underlying t with
    | some (.struct fs) => fldCheck T 0 ty r.fs fs.toList
    | _ => false
def rowCheck (P : Program) (T : List (TypeId × TRow)) (t : TypeId) (r : TRow) : Bool := (match P.info? t with
  | some i => Nat.beq i.size r.ty.sz && Nat.beq i.bytes r.bytes && (match i.zero with
    | some z => zeroOk r.ty z
    | none => false)
  | none => false) && descCheck P T t r && r.ty.full && r.ty.plain && !Nat.beq r.ty.sz 0 && !Nat.beq r.bytes 0 && (!r.ty.agg || (!P.stoodInHeld t && !P.eqGuardType P.depth t))
theorem descCheck_ok {P : Program} {T : List (TypeId × TRow)} {t : TypeId} {r : TRow} (h : descCheck P T t r = true) : DescOK P T t r := by
  unfold descCheck at h
  unfold DescOK
  split at h
  · split at h
    · rename_i h1 _ _ h2; rw [h2, of_decide_eq_true h]
    · cases h
  · split at h
    · assumption
    · cases h
  · split at h
    · assumption
    · cases h
  · cases h
  · rename_i o e te hty
    simp only [Bool.and_eq_true, Bool.not_eq_true'] at h
    obtain ⟨⟨⟨⟨h1, h2⟩, h3⟩, h4⟩, h5⟩ := h
    refine ⟨h1, ?_, ?_⟩
    · split at h2
      · rename_i hu; rw [hu, Nat.eq_of_beq_eq_true h2]
      · cases h2
    · cases ht : tget T e with
      | none => rw [ht] at h3; cases h3
      | some re => rw [ht] at h3; exact ⟨re, rfl, of_decide_eq_true h3, (fun e => by rw [e] at h4; cases h4), h5⟩
  · split at h
    · rename_i hu; exact ⟨_, hu, fldCheck_ok h⟩
    · cases h
theorem rowCheck_ok {P : Program} {T : List (TypeId × TRow)} {t : TypeId} {r : TRow} (h : rowCheck P T t r = true) : RowOK P T t r := by
  unfold rowCheck at h
  simp only [Bool.and_eq_true] at h
  obtain ⟨⟨⟨⟨⟨⟨h1, h2⟩, h3⟩, h4⟩, h5⟩, h6⟩, h7⟩ := h
  refine ⟨?_, descCheck_ok h2, h3, h4, (fun e => by rw [e] at h5; cases h5), (fun e => by rw [e] at h6; cases h6), fun e => by
    rw [e] at h7
    simpa using h7⟩
  cases hi : P.info? t with
  | none => rw [hi] at h1; cases h1
  | some i =>
    rw [hi] at h1
    simp only [Bool.and_eq_true] at h1
    obtain ⟨⟨a1, a2⟩, a3⟩ := h1
    refine ⟨i, rfl, Nat.eq_of_beq_eq_true a1, Nat.eq_of_beq_eq_true a2, ?_⟩
    cases hz : i.zero with
    | none => rw [hz] at a3; cases a3
    | some z => rw [hz] at a3; rw [zeroOk_eq a3]
def tabCheck (P : Program) (T : List (TypeId × TRow)) : List (TypeId × TRow) → Bool
  | [] => true
  | (t, r) :: l => rowCheck P T t r && tabCheck P T l
theorem tabCheck_ok {P : Program} {T : List (TypeId × TRow)} : ∀ {l : List (TypeId × TRow)}, tabCheck P T l = true → ∀ t r, tget l t = some r → RowOK P T t r
  | [], _, t, r, h => by cases h
  | (i, q) :: l, hc, t, r, h => by
    simp only [tabCheck, Bool.and_eq_true] at hc
    simp only [tget] at h
    cases hb : Nat.beq i t with
    | false => rw [hb] at h; exact tabCheck_ok hc.2 t r h
    | true =>
      rw [hb] at h; cases h
      rw [← Nat.eq_of_beq_eq_true hb]; exact rowCheck_ok hc.1

section
variable {P : Program} {T : List (TypeId × TRow)} {t : TypeId} {r : TRow} {w : World}
theorem RowOK.isAgg (h : RowOK P T t r) (w : World) : (isAgg t).run P w = .ok r.ty.agg w := by
  have d := h.desc
  unfold DescOK at d
  unfold Go.isAgg
  split at d
  · rename_i hty; simp [run_underlying d, hty, Ty.agg]
  · rename_i hty; simp [run_underlying d, hty, Ty.agg]
  · rename_i hty; simp [run_underlying d, hty, Ty.agg]
  · exact d.elim
  · rename_i hty; simp [run_underlying d.2.1, hty, Ty.agg]
  · rename_i hty
    obtain ⟨fs, hu, hf⟩ := d
    have : r.ty.agg = true := by
      cases ht : r.ty <;> first | rfl | (rw [ht] at hf; cases hfs : fs.toList <;> rw [hfs] at hf <;> cases r.fs <;> exact hf.elim)
    simp [run_underlying hu, this]
theorem RowOK.sizeOf (h : RowOK P T t r) (w : World) : (sizeOf t).run P w = .ok r.ty.sz w := by
  obtain ⟨i, hi, hs, _⟩ := h.info
  simp [Go.sizeOf, typeInfo, hi, hs]
theorem RowOK.zero (h : RowOK P T t r) (w : World) : (zeroValue t).run P w = .ok (mkw r.ty.agg r.ty.zeroC) w := by
  obtain ⟨i, hi, _, _, hz⟩ := h.info
  simp [zeroValue, typeInfo, hi, hz]
theorem add_at (k o j : Nat) : (⟨k, o, none⟩ : Addr).add j = ⟨k, o + j, none⟩ := by
  unfold Addr.add
  by_cases hj : j = 0
  · subst hj; simp
  · simp [hj]
/-- A variable is read. -/
theorem RowOK.load (h : RowOK P T t r) {k o : Nat} {cs : List Value} (hl : cs.length = r.ty.sz) (hc : ∀ j v, cs[j]? = some v → w.cell? ⟨k, o + j, none⟩ = some v) : (loadVar t ⟨k, o, none⟩).run P w = .ok (mkw r.ty.agg cs) w := by
  unfold loadVar
  simp only [Sem.run_bind, h.isAgg, Result.andThen_ok]
  cases hg : r.ty.agg with
  | true =>
    simp only [if_true, Sem.run_bind, h.sizeOf, Result.andThen_ok]
    rw [← hl, run_loadCells_list w ⟨k, o, none⟩ cs (fun j v hj => by rw [add_at]; exact hc j v hj)]
    rfl
  | false =>
    have h1 : r.ty.sz = 1 := by cases ht : r.ty <;> rw [ht] at hg <;> first | rfl | cases hg
    rw [h1] at hl
    obtain ⟨v, rfl⟩ := List.length_eq_one_iff.1 hl
    have := hc 0 v rfl
    simp only [Nat.add_zero] at this
    simp [this, mkw]
end
theorem cells_mkw {g : Bool} {cs : List Value} (h : g = false → ∃ v, cs = [v] ∧ v.oneCell' = true) : (mkw g cs).cells.toList = cs := by
  cases g with
  | true => simp [mkw, Value.cells]
  | false =>
    obtain ⟨v, rfl, hv⟩ := h rfl
    cases v <;> first | rfl | cases hv
theorem one_of {t : Ty} {cs : List Value} (hl : cs.length = t.sz) (h1 : ∀ v ∈ cs, v.oneCell' = true) (h : t.agg = false) : ∃ v, cs = [v] ∧ v.oneCell' = true := by
  have h1' : t.sz = 1 := by cases t <;> first | rfl | cases h
  rw [h1'] at hl
  obtain ⟨v, rfl⟩ := List.length_eq_one_iff.1 hl
  exact ⟨v, rfl, h1 v (by simp)⟩

theorem Row.set {w : World} {k : Nat} {row : Array Value} {e : TypeId} (h : Row w k row e) (o : Nat) (v : Value) : Row (w.setCell ⟨k, o, none⟩ v) k (row.setIfInBounds o v) e := by
  obtain ⟨m, h1, h2⟩ := h
  exact ⟨m, by simp [World.setCell, Array.getElem?_modify, h1], by simpa using h2⟩
theorem Row.frozen {w : World} {k : Nat} {row : Array Value} {e : TypeId} (h : Row w k row e) {o : Nat} (ho : o < row.size) : w.frozen? ⟨k, o, none⟩ = false := by
  obtain ⟨⟨lo, hi⟩, h1, h2⟩ := h
  simp only [World.frozen?, h1]
  rcases h2 with h2 | h2
  · cases h2; simp
  · simp only at h2
    rw [show decide (lo ≤ o) = false from decide_eq_false (by omega)]; rfl
def setR (w : World) (k : Nat) : Nat → List Value → World
  | _, [] => w
  | o, v :: vs => setR (w.setCell ⟨k, o, none⟩ v) k (o + 1) vs
theorem setR_spec (k : Nat) (e : TypeId) : ∀ (vs : List Value) (w : World) (o : Nat) (row : Array Value), Row w k row e → o + vs.length ≤ row.size → (∀ v ∈ vs, v.oneCell' = true) →
    (∀ (P : Program), ∀ i, (storeCells ⟨k, o - i, none⟩ vs i).run P w = if i ≤ o then .ok () (setR w k o vs) else (storeCells ⟨k, o - i, none⟩ vs i).run P w) ∧
    (setR w k o vs).os = w.os ∧ (setR w k o vs).tape = w.tape ∧ (setR w k o vs).output = w.output ∧ (setR w k o vs).heap.size = w.heap.size ∧ (∀ b, b ≠ k → (setR w k o vs).heap[b]? = w.heap[b]?) ∧
    ∃ row' : Array Value, Row (setR w k o vs) k row' e ∧ row'.size = row.size ∧ (∀ j, j < o ∨ o + vs.length ≤ j → row'[j]? = row[j]?) ∧ ∀ j v, vs[j]? = some v → row'[o + j]? = some v
  | [], w, o, row, hk, hf, h1 => by
    refine ⟨fun P i => ?_, rfl, rfl, rfl, rfl, fun _ _ => rfl, row, hk, rfl, fun _ _ => rfl, fun j v hv => by cases hv⟩
    split
    · rfl
    · rfl
  | v :: vs, w, o, row, hk, hf, h1 => by
    have hlt : o < row.size := by simp at hf; omega
    have hk' : Row (w.setCell ⟨k, o, none⟩ v) k (row.setIfInBounds o v) e := hk.set o v
    obtain ⟨g0, g1, g2, g3, g4, g5, row', r1, r2, r3, r4⟩ := setR_spec k e vs (w.setCell ⟨k, o, none⟩ v) (o + 1) (row.setIfInBounds o v) hk' (by simp at hf ⊢; omega) (fun u hu => h1 u (List.mem_cons_of_mem _ hu))
    refine ⟨fun P i => ?_, g1, g2, g3, g4.trans (by simp), fun b hb => (g5 b hb).trans (Below.heap_setCell w ⟨k, o, none⟩ v b hb), row', r1, r2.trans (by simp), fun j hj => ?_, fun j u hu => ?_⟩
    · split
      · rename_i hi
        have ha : (⟨k, o - i, none⟩ : Addr).add i = ⟨k, o, none⟩ := by rw [add_at]; congr 1; omega
        have hcell : w.cell? ⟨k, o, none⟩ = some row[o] := by rw [hk.cell]; simp [hlt]
        have hfr : w.frozen? ⟨k, o, none⟩ = false := hk.frozen hlt
        have hs := g0 P (i + 1)
        rw [if_pos (by omega), show o + 1 - (i + 1) = o - i by omega] at hs
        simp only [storeCells, Sem.run_bind, ha, run_store P w ⟨k, o, none⟩ v .plain (h1 v (by simp)), hcell, hfr, if_false, Bool.false_eq_true, Result.andThen_ok]
        exact hs
      · rfl
    · rw [r3 j (by simp at hj ⊢; omega)]
      rw [Array.getElem?_setIfInBounds]
      split
      · rename_i hoj; subst hoj; simp at hj; omega
      · rfl
    · cases j with
      | zero =>
        cases hu
        rw [r3 (o + 0) (by left; omega), Array.getElem?_setIfInBounds]
        simp [hlt]
      | succ j =>
        have := r4 j u hu
        rw [show o + (j + 1) = o + 1 + j by omega]; exact this
section
variable {P : Program} {T : List (TypeId × TRow)} {t : TypeId} {r : TRow} {w : World}
/-- A variable is written. -/
theorem RowOK.store (h : RowOK P T t r) {k o : Nat} {cs : List Value} {g : Bool} {row : Array Value} {e : TypeId} (hl : cs.length = r.ty.sz) (hg : (mkw g cs).cells.toList = cs) (h1 : ∀ v ∈ cs, v.oneCell' = true) (hk : Row w k row e) (hf : o + cs.length ≤ row.size) :
    (storeVar t ⟨k, o, none⟩ (mkw g cs)).run P w = .ok () (setR w k o cs) := by
  have hsz : (mkw g cs).cells.size = r.ty.sz := by rw [← Array.length_toList, hg, hl]
  have hs := (setR_spec k e cs w o row hk hf h1).1 P 0
  rw [if_pos (Nat.zero_le _)] at hs
  unfold storeVar
  simp only [Sem.run_bind, h.sizeOf, Result.andThen_ok, hsz, ne_eq, not_true, if_false, hg]
  exact hs
end
end Go.Proofs.Ytabjfkongckhaaa.Vm
