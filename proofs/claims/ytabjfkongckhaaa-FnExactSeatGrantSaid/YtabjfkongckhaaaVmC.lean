/- What the slots of a frame hold, as far as it is told; the values that a call owns; how both stand to the machine's frame and memory. -/
import Derived.Test.YtabjfkongckhaaaVmB
namespace Go.Proofs.Ytabjfkongckhaaa.Vm
open Go Go.RowKit
set_option linter.unusedVariables false

structure TRow where
  ty : Ty
  bytes : Nat
  fs : List TypeId
abbrev Tab := TypeId → Option TRow

inductive AV where
  | any
  | sh (t : Ty) (x : t.den)
  | nilsl
  | al (id : Nat) (p : Path) (s : Nat) (t : Ty)
  | cut (id : Nat) (p : Path) (s : Nat) (t : Ty) (lo n : Nat)
  | nilf
  | consf (a b : AV)
  | ptr (id : Nat) (p : Path) (s : Nat)
  | sptr (t : Ty) (x : t.den)
  | fn (f : FuncId) (c : AV)
  | tup (c : AV)

/-- A value that the call owns: in a block of its own, or held by slots. log: what was written since (how deep, and whether slices were turned), the newest first. org: the parameter whose cells it was made of. -/
structure Root where
  v : V
  blk : Bool
  log : List (Nat × Bool)
  org : Option Nat
  /-- the parameter that points to it -/
  pin : Option Nat
def bad (m : Nat) (ho : Bool) (e : Nat × Bool) : Bool := (e.2 || !ho) && Nat.blt e.1 m
def since (log : List (Nat × Bool)) (s m : Nat) (ho : Bool) : Bool := (log.take (log.length - s)).all fun e => !bad m ho e

structure St where
  tmps : Nat → AV
  roots : Nat → Option Root
def upt {α : Type} (f : Nat → α) (i : Nat) (a : α) : Nat → α := fun j => bif Nat.beq j i then a else f j
theorem upt_same {α : Type} (f : Nat → α) (i : Nat) (a : α) : upt f i a i = a := by simp [upt]
theorem nbeq {i j : Nat} (h : j ≠ i) : Nat.beq j i = false := by
  cases hb : Nat.beq j i with
  | false => rfl
  | true => exact absurd (Nat.eq_of_beq_eq_true hb) h
theorem upt_ne {α : Type} (f : Nat → α) {i j : Nat} (a : α) (h : j ≠ i) : upt f i a j = f j := by rw [upt, nbeq h]; rfl
theorem upt_comm {α : Type} (f : Nat → α) {i j : Nat} (a b : α) (h : i ≠ j) : upt (upt f i a) j b = upt (upt f j b) i a := by
  funext k
  by_cases h1 : k = i
  · subst h1; rw [upt_ne _ _ h, upt_same, upt_same]
  · rw [upt_ne (upt f j b) _ h1]
    by_cases h2 : k = j
    · subst h2; rw [upt_same, upt_same]
    · rw [upt_ne _ _ h2, upt_ne _ _ h2, upt_ne _ _ h1]

/-- A root's places: its decorated value, and its block. c0: the cells that it was made of. -/
structure DRoot where
  dv : DV
  b : Option Nat
  c0 : List Value
def DRoot.base (d : DRoot) : Base := d.b.map fun k => (k, 0)
def DRoot.foot (d : DRoot) : List Nat := d.b.toList ++ d.dv.foot

section
variable (w : World) (Sh : Nat → Prop) (R : Nat → Option Root) (D : Nat → DRoot)
/-- The cells of what a slot holds. -/
def AVC : AV → List Value → Prop
  | .any, _ => False
  | .sh t x, cs => Ty.RR w Sh t x cs
  | .nilsl, cs => cs = [.slice none 0 0]
  | .al id p s t, cs => t.flat = false ∧ ∃ r, R id = some r ∧ s ≤ r.log.length ∧ (since r.log s (depth p + 1) (!t.agg) = true → ∃ b u, lookD (D id).dv (D id).base p = some (b, u) ∧ u.t = t ∧ cs = u.cs)
  | .cut id p s t lo n, cs => ∃ r, R id = some r ∧ s ≤ r.log.length ∧ (since r.log s (depth p + 1) true = true → ∃ b e te A c ds, t = .sl true e te ∧ lookD (D id).dv (D id).base p = some (b, ⟨.sl true e te, ((A, c), ds)⟩) ∧ lo + n ≤ ds.length ∧
      ∃ A', cs = [.slice A' n (c - lo)] ∧ (n = 0 ∨ ∃ k o, A = some ⟨k, o, none⟩ ∧ A' = some ⟨k, o + lo * te.sz, none⟩))
  | .nilf, cs => cs = []
  | .consf a b, cs => ∃ c0 c1, cs = c0 ++ c1 ∧ AVC a c0 ∧ AVC b c1
  | .ptr id p s, cs => ∃ v, cs = [v] ∧ ∃ r, R id = some r ∧ s ≤ r.log.length ∧ (since r.log s (depth p) true = true → ∃ k o u, lookD (D id).dv (D id).base p = some (some (k, o), u) ∧ v = .pointer (some ⟨k, o, none⟩))
  | .sptr t x, cs => ∃ b o cc, cs = [.pointer (some ⟨b, o, none⟩)] ∧ Sh b ∧ Ty.RR w Sh t x cc ∧ ∀ j v, cc[j]? = some v → w.cell? ⟨b, o + j, none⟩ = some v
  | .fn f c, cs => ∃ cc, cs = [.func (.func f) #[] cc.toArray] ∧ AVC c cc
  | .tup _, _ => False
def AV.agg : AV → Bool
  | .sh t _ => t.agg
  | .al _ _ _ t => t.agg
  | .nilf => true
  | .consf _ _ => true
  | _ => false
def mkw (g : Bool) (cs : List Value) : Value := if g then .agg cs.toArray else cs.headD undef
def AVS (a : AV) (v : Value) : Prop := ∃ cs, AVC w Sh R D a cs ∧ v = mkw a.agg cs
def AVL : AV → List Value → Prop
  | .nilf, vs => vs = []
  | .consf a b, vs => ∃ v vs', vs = v :: vs' ∧ AVS w Sh R D a v ∧ AVL b vs'
  | _, _ => False
def AVR : AV → Value → Prop
  | .any, _ => True
  | .tup c, v => ∃ vs, v = .tuple vs.toArray ∧ AVL w Sh R D c vs
  | a, v => AVS w Sh R D a v
end

structure Ctx where
  P : Program
  w0 : World
  M : Nat → Prop
  Sh0 : Nat → Prop
  n : Nat
  /-- the cells of the parameters that are handed back -/
  pc : Nat → List Value
  /-- the blocks of the variables that parameters point to -/
  pb : Nat → Nat

structure RRel (w : World) (Sh : Nat → Prop) (C : Ctx) (r : Root) (d : DRoot) : Prop where
  er : d.dv.er = r.v
  ok : d.dv.OK w Sh
  blk : d.b.isSome = r.blk
  loc : ∀ k, d.b = some k → Loc w k 0 d.dv
  nd : d.foot.Nodup
  /-- its cells are those that it was made of, if none of them was written -/
  top : since r.log 0 1 false = true → d.dv.cs = d.c0
  org : ∀ i, r.org = some i → d.c0 = C.pc i
  pin : ∀ i, r.pin = some i → d.b = some (C.pb i)

structure Rel (C : Ctx) (st : St) (D : Nat → DRoot) (Sh : Nat → Prop) (a : Act) (w : World) : Prop where
  os : w.os = C.w0.os
  tape : w.tape = C.w0.tape
  output : w.output = C.w0.output
  hsz : C.w0.heap.size ≤ w.heap.size
  block : ∀ b, b < C.w0.heap.size → ¬ C.M b → w.heap[b]? = C.w0.heap[b]?
  sh0 : ∀ b, C.Sh0 b → Sh b
  shn : ∀ b, Sh b → (C.Sh0 b ∨ C.w0.heap.size ≤ b ∨ C.M b) ∧ b < w.heap.size
  root : ∀ id r, st.roots id = some r → RRel w Sh C r (D id)
  dis : ∀ i j r r', i ≠ j → st.roots i = some r → st.roots j = some r' → ∀ b ∈ (D i).foot, b ∉ (D j).foot
  fresh : ∀ id r, st.roots id = some r → ∀ b ∈ (D id).foot, ¬ Sh b ∧ b < w.heap.size ∧ (C.w0.heap.size ≤ b ∨ C.M b)
  tmp : ∀ t, AVR w Sh st.roots D (st.tmps t) (a.tmps.getD t undef)
  size : a.tmps.size = C.n
  defers : a.defers = []

theorem since_append {pre log : List (Nat × Bool)} {s m : Nat} {ho : Bool} (h : s ≤ log.length) : since (pre ++ log) s m ho = (pre.all (fun e => !bad m ho e) && since log s m ho) := by
  unfold since
  rw [List.length_append, show pre.length + log.length - s = pre.length + (log.length - s) by omega, List.take_length_add_append, List.all_append]

/-- What a slot holds stays told while memory and the roots turn as the conditions say. -/
structure Keeps (w w' : World) (Sh Sh' : Nat → Prop) (R R' : Nat → Option Root) (D D' : Nat → DRoot) : Prop where
  sh : ∀ b, Sh b → w'.heap[b]? = w.heap[b]?
  shm : ∀ b, Sh b → Sh' b
  root : ∀ id r, R id = some r → ∃ r' pre, R' id = some r' ∧ r'.log = pre ++ r.log ∧
    (∀ p t, t.flat = false → pre.all (fun e => !bad (depth p + 1) (!t.agg) e) = true → ∀ b u, lookD (D id).dv (D id).base p = some (b, u) → u.t = t → ∃ b' u', lookD (D' id).dv (D' id).base p = some (b', u') ∧ u'.t = t ∧ u'.cs = u.cs) ∧
    (∀ p, pre.all (fun e => !bad (depth p) true e) = true → ∀ k o u, lookD (D id).dv (D id).base p = some (some (k, o), u) → ∃ u', lookD (D' id).dv (D' id).base p = some (some (k, o), u'))

section
variable {w w' : World} {Sh Sh' : Nat → Prop} {R R' : Nat → Option Root} {D D' : Nat → DRoot}
theorem Keeps.avc (K : Keeps w w' Sh Sh' R R' D D') : ∀ {a : AV} {cs : List Value}, AVC w Sh R D a cs → AVC w' Sh' R' D' a cs
  | .any, _, h => h
  | .sh t x, _, h => Ty.RR_mono K.sh K.shm h
  | .nilsl, _, h => h
  | .al id p s t, cs, h => by
    obtain ⟨hf, r, hr, hs, h⟩ := h
    obtain ⟨r', pre, hr', hlog, k1, k2⟩ := K.root id r hr
    refine ⟨hf, r', hr', by rw [hlog, List.length_append]; omega, fun hs' => ?_⟩
    rw [hlog, since_append hs, Bool.and_eq_true] at hs'
    obtain ⟨b, u, hl, ht, rfl⟩ := h hs'.2
    obtain ⟨b', u', hl', ht', hc⟩ := k1 p t hf hs'.1 b u hl ht
    exact ⟨b', u', hl', ht', hc.symm⟩
  | .cut id p s t lo n, cs, h => by
    obtain ⟨r, hr, hs, h⟩ := h
    obtain ⟨r', pre, hr', hlog, k1, k2⟩ := K.root id r hr
    refine ⟨r', hr', by rw [hlog, List.length_append]; omega, fun hs' => ?_⟩
    rw [hlog, since_append hs, Bool.and_eq_true] at hs'
    obtain ⟨b, e, te, A, c, ds, ht, hl, hlen, A', hcs, hA⟩ := h hs'.2
    obtain ⟨b', ⟨t', d'⟩, hl', ht', hc⟩ := k1 p (.sl true e te) rfl hs'.1 b _ hl rfl
    cases ht'
    obtain ⟨⟨A2, c2⟩, ds2⟩ := d'
    have hc : [Value.slice A2 ds2.length c2] = [Value.slice A ds.length c] := hc
    simp only [List.cons.injEq, Value.slice.injEq, and_true] at hc
    obtain ⟨rfl, hl2, rfl⟩ := hc
    exact ⟨b', e, te, A2, c2, ds2, ht, hl', by omega, A', hcs, hA⟩
  | .nilf, _, h => h
  | .consf a b, cs, h => by
    obtain ⟨c0, c1, rfl, h0, h1⟩ := h
    exact ⟨c0, c1, rfl, K.avc h0, K.avc h1⟩
  | .ptr id p s, cs, h => by
    obtain ⟨v, rfl, r, hr, hs, h⟩ := h
    obtain ⟨r', pre, hr', hlog, k1, k2⟩ := K.root id r hr
    refine ⟨v, rfl, r', hr', by rw [hlog, List.length_append]; omega, fun hs' => ?_⟩
    rw [hlog, since_append hs, Bool.and_eq_true] at hs'
    obtain ⟨k, o, u, hl, rfl⟩ := h hs'.2
    obtain ⟨u', hl'⟩ := k2 p hs'.1 k o u hl
    exact ⟨k, o, u', hl', rfl⟩
  | .sptr t x, cs, h => by
    obtain ⟨b, o, cc, rfl, hb, hR, hc⟩ := h
    exact ⟨b, o, cc, rfl, K.shm b hb, Ty.RR_mono K.sh K.shm hR, fun j v hv => (Ty.cell_same (K.sh b hb) _).trans (hc j v hv)⟩
  | .fn f c, cs, h => by
    obtain ⟨cc, rfl, hc⟩ := h
    exact ⟨cc, rfl, K.avc hc⟩
  | .tup _, _, h => h
theorem Keeps.avs (K : Keeps w w' Sh Sh' R R' D D') {a : AV} {v : Value} (h : AVS w Sh R D a v) : AVS w' Sh' R' D' a v := by
  obtain ⟨cs, hc, rfl⟩ := h
  exact ⟨cs, K.avc hc, rfl⟩
theorem Keeps.avl (K : Keeps w w' Sh Sh' R R' D D') : ∀ {a : AV} {vs : List Value}, AVL w Sh R D a vs → AVL w' Sh' R' D' a vs
  | .nilf, _, h => h
  | .consf a b, _, h => by
    obtain ⟨v, vs, rfl, h0, h1⟩ := h
    exact ⟨v, vs, rfl, K.avs h0, K.avl h1⟩
  | .any, _, h | .sh _ _, _, h | .nilsl, _, h | .al _ _ _ _, _, h | .cut _ _ _ _ _ _, _, h | .ptr _ _ _, _, h | .sptr _ _, _, h | .fn _ _, _, h | .tup _, _, h => h
theorem Keeps.avr (K : Keeps w w' Sh Sh' R R' D D') {a : AV} {v : Value} (h : AVR w Sh R D a v) : AVR w' Sh' R' D' a v := by
  cases a with
  | any => trivial
  | tup c => obtain ⟨vs, hv, hl⟩ := h; exact ⟨vs, hv, K.avl hl⟩
  | sh t x => exact K.avs (a := .sh t x) h
  | nilsl => exact K.avs (a := .nilsl) h
  | al id p s t => exact K.avs (a := .al id p s t) h
  | cut id p s t lo n => exact K.avs (a := .cut id p s t lo n) h
  | nilf => exact K.avs (a := .nilf) h
  | consf a b => exact K.avs (a := .consf a b) h
  | ptr id p s => exact K.avs (a := .ptr id p s) h
  | sptr t x => exact K.avs (a := .sptr t x) h
  | fn f c => exact K.avs (a := .fn f c) h
/-- Memory has grown, nothing else. -/
theorem Keeps.grow (hw : ∀ b, Sh b → w'.heap[b]? = w.heap[b]?) : Keeps w w' Sh Sh R R D D where
  sh := hw
  shm := fun _ h => h
  root := fun id r hr => ⟨r, [], hr, rfl, fun p t _ _ b u hl ht => ⟨b, u, hl, ht, rfl⟩, fun p _ k o u hl => ⟨u, hl⟩⟩
theorem Keeps.trans {w'' : World} {Sh'' : Nat → Prop} {R'' : Nat → Option Root} {D'' : Nat → DRoot} (K : Keeps w w' Sh Sh' R R' D D') (L : Keeps w' w'' Sh' Sh'' R' R'' D' D'') : Keeps w w'' Sh Sh'' R R'' D D'' where
  sh := fun b h => (L.sh b (K.shm b h)).trans (K.sh b h)
  shm := fun b h => L.shm b (K.shm b h)
  root := fun id r hr => by
    obtain ⟨r1, p1, h1, l1, a1, b1⟩ := K.root id r hr
    obtain ⟨r2, p2, h2, l2, a2, b2⟩ := L.root id r1 h1
    refine ⟨r2, p2 ++ p1, h2, by rw [l2, l1, List.append_assoc], fun p t hf hp b u hl ht => ?_, fun p hp k o u hl => ?_⟩
    · rw [List.all_append, Bool.and_eq_true] at hp
      obtain ⟨b', u', hl', ht', hc'⟩ := a1 p t hf hp.2 b u hl ht
      obtain ⟨b'', u'', hl'', ht'', hc''⟩ := a2 p t hf hp.1 b' u' hl' ht'
      exact ⟨b'', u'', hl'', ht'', hc''.trans hc'⟩
    · rw [List.all_append, Bool.and_eq_true] at hp
      obtain ⟨u', hl'⟩ := b1 p hp.2 k o u hl
      exact b2 p hp.1 k o u' hl'
end

section
variable {C : Ctx} {st : St} {D : Nat → DRoot} {Sh : Nat → Prop} {a : Act} {w w' : World}
theorem getD_put {a : Act} {n : Nat} (hs : a.tmps.size = n) {d : Nat} (hd : d < n) (v : Value) (t : Nat) : (a.put (some d) v).tmps.getD t undef = if t = d then v else a.tmps.getD t undef := by
  subst hs
  simp only [Act.put, Array.getD_eq_getD_getElem?, Array.getElem?_setIfInBounds]
  by_cases h : t = d
  · subst h; simp [hd]
  · simp [h, Ne.symm h]
/-- A slot is written. -/
theorem Rel.put (h : Rel C st D Sh a w) {d : Nat} (hd : d < C.n) {x : AV} {v : Value} (hv : AVR w Sh st.roots D x v) : Rel C ⟨upt st.tmps d x, st.roots⟩ D Sh (a.put (some d) v) w where
  os := h.os
  tape := h.tape
  output := h.output
  hsz := h.hsz
  block := h.block
  sh0 := h.sh0
  shn := h.shn
  root := h.root
  dis := h.dis
  fresh := h.fresh
  tmp := fun t => by
    rw [getD_put h.size hd]
    by_cases e : t = d
    · subst e; rw [if_pos rfl]; show AVR w Sh st.roots D (upt st.tmps t x t) v; rw [upt_same]; exact hv
    · rw [if_neg e]; show AVR w Sh st.roots D (upt st.tmps d x t) _; rw [upt_ne _ _ e]; exact h.tmp t
  size := by simp [Act.put, h.size]
  defers := h.defers
/-- Memory has grown. -/
theorem Rel.grow (h : Rel C st D Sh a w) (ho : w'.os = w.os) (ht : w'.tape = w.tape) (hp : w'.output = w.output) (hz : w.heap.size ≤ w'.heap.size) (hb : ∀ b, b < w.heap.size → w'.heap[b]? = w.heap[b]?) : Rel C st D Sh a w' where
  os := ho.trans h.os
  tape := ht.trans h.tape
  output := hp.trans h.output
  hsz := Nat.le_trans h.hsz hz
  block := fun b hlt hm => (hb b (Nat.lt_of_lt_of_le hlt h.hsz)).trans (h.block b hlt hm)
  sh0 := h.sh0
  shn := fun b hs => ⟨(h.shn b hs).1, Nat.lt_of_lt_of_le (h.shn b hs).2 hz⟩
  root := fun id r hr => by
    have R := h.root id r hr
    have F := h.fresh id r hr
    refine ⟨R.er, Ty.OK_frame (fun b hs => hb b (h.shn b hs).2) (fun _ hs => hs) (fun b hm => hb b (F b (List.mem_append_right _ hm)).2.1) R.ok, R.blk, fun k hk => ?_, R.nd, R.top, R.org, R.pin⟩
    obtain ⟨row, e, hrow, hc⟩ := R.loc k hk
    exact ⟨row, e, hrow.frame (hb k (F k (List.mem_append_left _ (by rw [hk]; exact List.mem_singleton.2 rfl))).2.1), hc⟩
  dis := h.dis
  fresh := fun id r hr b hm => let F := h.fresh id r hr b hm; ⟨F.1, Nat.lt_of_lt_of_le F.2.1 hz, F.2.2⟩
  tmp := fun t => (Keeps.grow (fun b hs => hb b (h.shn b hs).2)).avr (h.tmp t)
  size := h.size
  defers := h.defers
theorem Rel.below (h : Rel C st D Sh a w) (hb : Below w.heap.size w w') : Rel C st D Sh a w' := h.grow hb.os hb.tape hb.output hb.size hb.block
theorem Rel.drew (h : Rel C st D Sh a w) : Rel C st D Sh a w.drew := h.grow rfl rfl rfl (Nat.le_refl _) (fun _ _ => rfl)
end
end Go.Proofs.Ytabjfkongckhaaa.Vm
