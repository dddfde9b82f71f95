/- A value in hand becomes a root, lands in a block of its own, is stored, is shared. -/
import Derived.Test.YtabjfkongckhaaaVmE
namespace Go.Proofs.Ytabjfkongckhaaa.Vm
open Go Go.RowKit
set_option linter.unusedVariables false

section
variable {C : Ctx} {st : St} {D : Nat → DRoot} {Sh : Nat → Prop} {F : List DV} {a : Act} {w w' : World}

/-- One root turns (or is new): it owns what it did, what was in hand, and new blocks. -/
theorem RelF.set {u : DV} (h : RelF C st D Sh (u :: F) a w) {id : Nat} {r' : Root} {d' : DRoot} (ho : w'.os = w.os) (ht : w'.tape = w.tape) (hp : w'.output = w.output) (hz : w.heap.size ≤ w'.heap.size)
    (hb : ∀ b, b < w.heap.size → (∀ r, st.roots id = some r → b ∉ (D id).foot) → w'.heap[b]? = w.heap[b]?)
    (hR : RRel w' Sh C r' d') (hf : ∀ b ∈ d'.foot, (∃ r, st.roots id = some r ∧ b ∈ (D id).foot) ∨ b ∈ u.foot ∨ (w.heap.size ≤ b ∧ b < w'.heap.size))
    (K : Keeps w w' Sh Sh st.roots (upt st.roots id (some r')) D (upt D id d')) : RelF C ⟨st.tmps, upt st.roots id (some r')⟩ (upt D id d') Sh F a w' := by
  have hu : ∀ b ∈ u.foot, b ∈ (u :: F).flatMap DV.foot := fun b hb => List.mem_append_left _ hb
  have hF : ∀ b ∈ F.flatMap DV.foot, b ∈ (u :: F).flatMap DV.foot := fun b hb => List.mem_append_right _ hb
  have huF : ∀ b ∈ u.foot, b ∉ F.flatMap DV.foot := fun b h1 h2 => (List.nodup_append.1 (show (u.foot ++ F.flatMap DV.foot).Nodup from h.fnd)).2.2 b h1 b h2 rfl
  have hother : ∀ i r, i ≠ id → st.roots i = some r → ∀ b ∈ (D i).foot, b ∉ d'.foot := by
    intro i r hi hr b hb1 hb2
    rcases hf b hb2 with ⟨r0, h0, hm⟩ | hm | hm
    · exact h.rel.dis i id r r0 hi hr h0 b hb1 hm
    · exact (h.fdis b (hu b hm)).1 i r hr hb1
    · have := (h.rel.fresh i r hr b hb1).2.1; omega
  have hkeep : ∀ i r, i ≠ id → st.roots i = some r → ∀ b ∈ (D i).foot, w'.heap[b]? = w.heap[b]? := fun i r hi hr b hm =>
    hb b (h.rel.fresh i r hr b hm).2.1 (fun r0 h0 => h.rel.dis i id r r0 hi hr h0 b hm)
  refine ⟨⟨ho.trans h.rel.os, ht.trans h.rel.tape, hp.trans h.rel.output, Nat.le_trans h.rel.hsz hz, ?_, h.rel.sh0, fun b hs => ⟨(h.rel.shn b hs).1, Nat.lt_of_lt_of_le (h.rel.shn b hs).2 hz⟩, ?_, ?_, ?_, fun t => K.avr (h.rel.tmp t), h.rel.size, h.rel.defers⟩, ?_, ?_, ?_⟩
  · intro b hlt hm
    refine (hb b (Nat.lt_of_lt_of_le hlt h.rel.hsz) (fun r hr hmem => ?_)).trans (h.rel.block b hlt hm)
    rcases (h.rel.fresh id r hr b hmem).2.2 with h1 | h1
    · omega
    · exact hm h1
  · intro i ri hi0
    have hi : upt st.roots id (some r') i = some ri := hi0
    clear hi0
    by_cases e : i = id
    · subst e
      rw [upt_same] at hi; cases hi
      rw [upt_same]; exact hR
    · rw [upt_ne _ _ e] at hi ⊢
      have R := h.rel.root i ri hi
      refine ⟨R.er, Ty.OK_frame K.sh K.shm (fun b hm => hkeep i ri e hi b (mem_dv hm)) R.ok, R.blk, fun k hk => ?_, R.nd, R.top, R.org, R.pin⟩
      obtain ⟨row, el, hrow, hc⟩ := R.loc k hk
      exact ⟨row, el, hrow.frame (hkeep i ri e hi k (mem_b hk)), hc⟩
  · intro i j ri rj hij hi0 hj0 b hb1
    have hi : upt st.roots id (some r') i = some ri := hi0
    have hj : upt st.roots id (some r') j = some rj := hj0
    clear hi0 hj0
    by_cases ei : i = id
    · subst ei
      rw [upt_same] at hb1
      rw [upt_ne _ _ (Ne.symm hij)] at hj ⊢
      exact fun hb2 => hother j rj (Ne.symm hij) hj b hb2 hb1
    · rw [upt_ne _ _ ei] at hi hb1
      by_cases ej : j = id
      · subst ej
        rw [upt_same]
        exact hother i ri ei hi b hb1
      · rw [upt_ne _ _ ej] at hj ⊢
        exact h.rel.dis i j ri rj hij hi hj b hb1
  · intro i ri hi0 b hb1
    have hi : upt st.roots id (some r') i = some ri := hi0
    clear hi0
    by_cases ei : i = id
    · subst ei
      rw [upt_same] at hb1
      rcases hf b hb1 with ⟨r0, h0, hm⟩ | hm | hm
      · obtain ⟨f1, f2, f3⟩ := h.rel.fresh i r0 h0 b hm
        exact ⟨f1, by omega, f3⟩
      · obtain ⟨f1, f2, f3⟩ := (h.fdis b (hu b hm)).2
        exact ⟨f1, by omega, f3⟩
      · refine ⟨fun hs => ?_, hm.2, .inl (Nat.le_trans h.rel.hsz hm.1)⟩
        have := (h.rel.shn b hs).2; omega
    · rw [upt_ne _ _ ei] at hi hb1
      obtain ⟨f1, f2, f3⟩ := h.rel.fresh i ri hi b hb1
      exact ⟨f1, by omega, f3⟩
  · intro v hv
    refine Ty.OK_frame K.sh K.shm (fun b hm => ?_) (h.fok v (List.mem_cons_of_mem _ hv))
    have hm' : b ∈ F.flatMap DV.foot := List.mem_flatMap.2 ⟨v, hv, hm⟩
    obtain ⟨g1, g2, g3, g4⟩ := h.fdis b (hF b hm')
    exact hb b g3 (fun r hr => g1 id r hr)
  · exact (List.nodup_append.1 (show (u.foot ++ F.flatMap DV.foot).Nodup from h.fnd)).2.1
  · intro b hm
    obtain ⟨g1, g2, g3, g4⟩ := h.fdis b (hF b hm)
    refine ⟨fun i ri hi0 => ?_, g2, by omega, g4⟩
    have hi : upt st.roots id (some r') i = some ri := hi0
    clear hi0
    by_cases ei : i = id
    · subst ei
      rw [upt_same]
      intro hb2
      rcases hf b hb2 with ⟨r0, h0, hm2⟩ | hm2 | hm2
      · exact g1 i r0 h0 hm2
      · exact huF b hm2 hm
      · omega
    · rw [upt_ne _ _ ei] at hi ⊢
      exact g1 i ri hi

theorem foot_none (u : DV) (c : List Value) : DRoot.foot ⟨u, none, c⟩ = u.foot := rfl
/-- Held by slots from now on. -/
theorem RelF.hold {u : DV} (h : RelF C st D Sh (u :: F) a w) {id : Nat} (hn : st.roots id = none) {org : Option Nat} (horg : ∀ i, org = some i → u.cs = C.pc i) :
    Keeps w w Sh Sh st.roots (upt st.roots id (some ⟨u.er, false, [], org, none⟩)) D (upt D id ⟨u, none, u.cs⟩) ∧ RelF C ⟨st.tmps, upt st.roots id (some ⟨u.er, false, [], org, none⟩)⟩ (upt D id ⟨u, none, u.cs⟩) Sh F a w := by
  have K : Keeps w w Sh Sh st.roots (upt st.roots id (some ⟨u.er, false, [], org, none⟩)) D (upt D id ⟨u, none, u.cs⟩) := Keeps.add _ _ (fun _ _ => rfl) (fun _ h => h) hn
  refine ⟨K, h.set rfl rfl rfl (Nat.le_refl _) (fun _ _ _ => rfl) ⟨rfl, h.fok u (by simp), rfl, (fun k hk => by cases hk), ?_, fun _ => rfl, horg, fun i hi => by cases hi⟩ (fun b hb => .inr (.inl ?_)) K⟩
  · rw [foot_none]; exact (List.nodup_append.1 (show (u.foot ++ F.flatMap DV.foot).Nodup from h.fnd)).1
  · rw [foot_none] at hb; exact hb
theorem al_of_hold {u : DV} {R : Nat → Option Root} {D : Nat → DRoot} {Sh : Nat → Prop} {id : Nat} {org : Option Nat} {c0 : List Value} (hf : u.t.flat = false) : AVC w Sh (upt R id (some ⟨u.er, false, [], org, none⟩)) (upt D id ⟨u, none, c0⟩) (.al id [] 0 u.t) u.cs :=
  ⟨hf, _, upt_same _ _ _, Nat.le_refl _, fun _ => ⟨none, u, by rw [upt_same]; rfl, rfl, rfl⟩⟩

theorem heap_new (w : World) (o : Obj) : (w.alloc o).heap[w.heap.size]? = some o := heap_alloc_new w o
/-- In a block of its own. -/
theorem RelF.land {u : DV} (h : RelF C st D Sh (u :: F) a w) {id : Nat} (hn : st.roots id = none) {e : TypeId} {org : Option Nat} (horg : ∀ i, org = some i → u.cs = C.pc i) :
    Keeps w (w.alloc (.cells u.cs.toArray e)) Sh Sh st.roots (upt st.roots id (some ⟨u.er, true, [], org, none⟩)) D (upt D id ⟨u, some w.heap.size, u.cs⟩) ∧
    RelF C ⟨st.tmps, upt st.roots id (some ⟨u.er, true, [], org, none⟩)⟩ (upt D id ⟨u, some w.heap.size, u.cs⟩) Sh F a (w.alloc (.cells u.cs.toArray e)) := by
  have hsh : ∀ b, Sh b → (w.alloc (.cells u.cs.toArray e)).heap[b]? = w.heap[b]? := fun b hs => Below.heap_alloc _ _ _ (h.rel.shn b hs).2
  have K : Keeps w (w.alloc (.cells u.cs.toArray e)) Sh Sh st.roots (upt st.roots id (some ⟨u.er, true, [], org, none⟩)) D (upt D id ⟨u, some w.heap.size, u.cs⟩) := Keeps.add _ _ hsh (fun _ h => h) hn
  have hul : ∀ b ∈ u.foot, b < w.heap.size := fun b hb => (h.fdis b (List.mem_append_left _ hb)).2.2.1
  refine ⟨K, h.set rfl rfl rfl (by simp) (fun b hb _ => Below.heap_alloc _ _ _ hb) ⟨rfl, Ty.OK_frame hsh (fun _ h => h) (fun b hb => Below.heap_alloc _ _ _ (hul b hb)) (h.fok u (by simp)), rfl, fun k hk => ?_, ?_, fun _ => rfl, horg, fun i hi => by cases hi⟩ (fun b hb => ?_) K⟩
  · cases hk
    exact ⟨u.cs.toArray, e, Row.new (heap_new w _), fun j v hv => by simpa using hv⟩
  · show (w.heap.size :: u.foot).Nodup
    exact List.nodup_cons.2 ⟨fun hm => Nat.lt_irrefl _ (hul _ hm), (List.nodup_append.1 (show (u.foot ++ F.flatMap DV.foot).Nodup from h.fnd)).1⟩
  · rcases List.mem_cons.1 (show b ∈ w.heap.size :: u.foot from hb) with rfl | hb
    · exact .inr (.inr ⟨Nat.le_refl _, by simp⟩)
    · exact .inr (.inl hb)
theorem ptr_of_land {u : DV} {w : World} {R : Nat → Option Root} {D : Nat → DRoot} {Sh : Nat → Prop} {id k : Nat} {org : Option Nat} {c0 : List Value} : AVC w Sh (upt R id (some ⟨u.er, true, [], org, none⟩)) (upt D id ⟨u, some k, c0⟩) (.ptr id [] 0) [.pointer (some ⟨k, 0, none⟩)] :=
  ⟨_, rfl, _, upt_same _ _ _, Nat.le_refl _, fun _ => ⟨k, 0, u, by rw [upt_same]; rfl, rfl⟩⟩

def stored (r : Root) (p : Path) (u uq v' : V) : Root := { r with v := v', log := (depth p, !(u.t.flat && uq.t.flat)) :: r.log }
/-- At a place of a root. -/
theorem RelF.store {u uq : DV} (h : RelF C st D Sh (u :: F) a w) {id : Nat} {r : Root} (hr : st.roots id = some r) {p : Path} {k o : Nat} (hl : lookD (D id).dv (D id).base p = some (some (k, o), uq)) (hlk : like u.t uq.t = true)
    {v' : V} (hpv : putV r.v p u.er = some v') (ho : w'.os = w.os) (ht : w'.tape = w.tape) (hp : w'.output = w.output) (hz : w'.heap.size = w.heap.size) (hb : ∀ b, b ≠ k → w'.heap[b]? = w.heap[b]?) (hT : Turned w w' k o uq.t.sz u) :
    ∃ D', Keeps w w' Sh Sh st.roots (upt st.roots id (some (stored r p u.er uq.er v'))) D D' ∧ RelF C ⟨st.tmps, upt st.roots id (some (stored r p u.er uq.er v'))⟩ D' Sh F a w' := by
  have R := h.rel.root id r hr
  have hpv2 := hpv
  rw [← R.er] at hpv2
  obtain ⟨dv', hd, hv⟩ := er_put hl hpv2
  have hnd : ((D id).b.toList ++ (D id).dv.foot).Nodup := R.nd
  obtain ⟨n1, n2, n3⟩ := List.nodup_append.1 hnd
  have hkm : k ∈ (D id).foot := by
    rcases look_block hl k o rfl with ⟨o', ho'⟩ | hm
    · exact mem_b (base_some ho').1
    · exact mem_dv hm
  have hkf := h.rel.fresh id r hr k hkm
  have hsh : ∀ b, Sh b → w'.heap[b]? = w.heap[b]? := fun b hs => hb b (fun e => hkf.1 (e ▸ hs))
  have huk : ∀ b ∈ u.foot, b ≠ k := fun b hm e => (h.fdis b (List.mem_append_left _ hm)).1 id r hr (e ▸ hkm)
  have huok : u.OK w' Sh := Ty.OK_frame hsh (fun _ h => h) (fun b hm => hb b (huk b hm)) (h.fok u (by simp))
  obtain ⟨i1, i2⟩ := upd (w := w) (w' := w') (Sh := Sh) (Sh' := Sh) hsh (fun _ hb => hb) hl hd R.ok n2 (fun k' o' hk => by
      obtain ⟨e1, rfl⟩ := base_some hk
      exact ⟨R.loc k' e1, fun hm => n3 k' (by rw [e1]; exact List.mem_singleton.2 rfl) k' hm rfl⟩) (like_sz hlk) huok
    (fun b _ _ hne => hb b (hne k o rfl)) (fun b _ _ hne => hb b (hne k o rfl)) (fun k' o' hk => by cases hk; exact hT)
  obtain ⟨L1, L2, f1, f2⟩ := foot_put hl
  have f3 := f2 _ _ hd
  let d' : DRoot := ⟨dv', (D id).b, (D id).c0⟩
  have hfoot : ∀ b ∈ d'.foot, b ∈ (D id).foot ∨ b ∈ u.foot := by
    intro b hm
    rcases List.mem_append.1 hm with hm | hm
    · exact .inl (List.mem_append_left _ hm)
    · have hm : b ∈ dv'.foot := hm
      rw [f3] at hm
      rcases List.mem_append.1 hm with hm | hm
      · rcases List.mem_append.1 hm with hm | hm
        · exact .inl (mem_dv (by rw [f1]; exact List.mem_append_left _ (List.mem_append_left _ hm)))
        · exact .inr hm
      · exact .inl (mem_dv (by rw [f1]; exact List.mem_append_right _ hm))
  have hnu : (L1 ++ uq.foot ++ L2).Nodup := f1 ▸ n2
  have hL : ∀ b, b ∈ L1 ∨ b ∈ L2 → b ∈ (D id).foot := fun b hm => mem_dv (by
    rw [f1]
    rcases hm with hm | hm
    · exact List.mem_append_left _ (List.mem_append_left _ hm)
    · exact List.mem_append_right _ hm)
  have hud : ∀ b ∈ u.foot, b ∉ (D id).foot := fun b hm => (h.fdis b (List.mem_append_left _ hm)).1 id r hr
  have hund : u.foot.Nodup := (List.nodup_append.1 (show (u.foot ++ F.flatMap DV.foot).Nodup from h.fnd)).1
  have hnd' : d'.foot.Nodup := by
    have q := List.nodup_append.1 hnu
    have q1 := List.nodup_append.1 q.1
    refine List.nodup_append.2 ⟨n1, ?_, fun x hx y hy e => ?_⟩
    · show dv'.foot.Nodup
      rw [f3]
      refine List.nodup_append.2 ⟨List.nodup_append.2 ⟨q1.1, hund, fun x hx y hy e => hud y hy (e ▸ hL x (.inl hx))⟩, q.2.1, fun x hx y hy e => ?_⟩
      rcases List.mem_append.1 hx with hx | hx
      · exact q.2.2 x (List.mem_append_left _ hx) y hy e
      · exact hud x hx (e ▸ hL y (.inr hy))
    · subst e
      have hy : x ∈ dv'.foot := hy
      rw [f3] at hy
      have hxd : x ∈ (D id).foot := List.mem_append_left _ hx
      rcases List.mem_append.1 hy with hy | hy
      · rcases List.mem_append.1 hy with hy | hy
        · exact n3 x hx x (by rw [f1]; exact List.mem_append_left _ (List.mem_append_left _ hy)) rfl
        · exact hud x hy hxd
      · exact n3 x hx x (by rw [f1]; exact List.mem_append_right _ hy) rfl
  have K : Keeps w w' Sh Sh st.roots (upt st.roots id (some (stored r p u.er uq.er v'))) D (upt D id d') :=
    Keeps.store (q := p) (uq := uq) (n := u) d' hsh (fun _ hb => hb) hr hl hd hlk rfl rfl rfl
  refine ⟨upt D id d', K, h.set ho ht hp (Nat.le_of_eq hz.symm) (fun b _ hb' => hb b (fun e => hb' r hr (e ▸ hkm))) ⟨hv, i1, R.blk, fun k' hk => ?_, hnd', fun hs => ?_, R.org, R.pin⟩ (fun b hm => ?_) K⟩
  · obtain ⟨row, e, hrow, hc⟩ := R.loc k' hk
    obtain ⟨row', hr', _, _, hin⟩ := i2 k' 0 (base_of hk) row e hrow
    exact ⟨row', e, hr', hin⟩
  · have hs : since ([(depth p, !(u.er.t.flat && uq.er.t.flat))] ++ r.log) 0 1 false = true := hs
    rw [since_append (Nat.zero_le _), Bool.and_eq_true] at hs
    rcases bad1 hs.1 with hb1 | hb1
    · simp at hb1
    · have hk := (keep_put u p _ _ _ _ _ hl hd hlk [] none none _ rfl).2 (.inr (by show 0 < depth p; have hb1 : 1 ≤ depth p := hb1; omega))
      obtain ⟨u', h1, _, h3⟩ := hk
      cases h1
      exact h3.trans (R.top hs.2)
  · rcases hfoot b hm with hm | hm
    · exact .inl ⟨r, hr, hm⟩
    · exact .inr (.inl hm)
/-- For all to read: its blocks are written no more. -/
theorem RelF.share {u : DV} (h : RelF C st D Sh (u :: F) a w) : ∃ Sh', (∀ b, Sh b → Sh' b) ∧ Keeps w w Sh Sh' st.roots st.roots D D ∧ Ty.RR w Sh' u.t u.er.x u.cs ∧ RelF C st D Sh' F a w := by
  let Sh' : Nat → Prop := fun b => Sh b ∨ b ∈ u.foot
  have hs : ∀ b, Sh b → Sh' b := fun b hb => .inl hb
  have huF : ∀ b ∈ u.foot, b ∈ (u :: F).flatMap DV.foot := fun b hb => List.mem_append_left _ hb
  have hFF : ∀ b ∈ F.flatMap DV.foot, b ∈ (u :: F).flatMap DV.foot := fun b hb => List.mem_append_right _ hb
  have K : Keeps w w Sh Sh' st.roots st.roots D D := ⟨fun _ _ => rfl, hs, fun id r hr => ⟨r, [], hr, rfl, fun p t _ _ b u hl ht => ⟨b, u, hl, ht, rfl⟩, fun p _ k o u hl => ⟨u, hl⟩⟩⟩
  refine ⟨Sh', hs, K, Ty.OK_RR hs (h.fok u (by simp)) (fun b hb => .inr hb), ⟨⟨h.rel.os, h.rel.tape, h.rel.output, h.rel.hsz, h.rel.block, fun b hb => .inl (h.rel.sh0 b hb), ?_, ?_, h.rel.dis, ?_, fun t => K.avr (h.rel.tmp t), h.rel.size, h.rel.defers⟩, ?_, ?_, ?_⟩⟩
  · intro b hb
    rcases hb with hb | hb
    · exact h.rel.shn b hb
    · obtain ⟨_, _, g3, g4⟩ := h.fdis b (huF b hb)
      exact ⟨g4.elim (fun h => .inr (.inl h)) (fun h => .inr (.inr h)), g3⟩
  · intro id r hr
    have R := h.rel.root id r hr
    exact ⟨R.er, Ty.OK_frame (fun _ _ => rfl) hs (fun _ _ => rfl) R.ok, R.blk, R.loc, R.nd, R.top, R.org, R.pin⟩
  · intro id r hr b hb
    obtain ⟨f1, f2⟩ := h.rel.fresh id r hr b hb
    refine ⟨fun hs => ?_, f2⟩
    rcases hs with hs | hs
    · exact f1 hs
    · exact (h.fdis b (huF b hs)).1 id r hr hb
  · exact fun v hv => Ty.OK_frame (fun _ _ => rfl) hs (fun _ _ => rfl) (h.fok v (List.mem_cons_of_mem _ hv))
  · exact (List.nodup_append.1 (show (u.foot ++ F.flatMap DV.foot).Nodup from h.fnd)).2.1
  · intro b hb
    obtain ⟨g1, g2, g3⟩ := h.fdis b (hFF b hb)
    refine ⟨g1, fun hs => ?_, g3⟩
    rcases hs with hs | hs
    · exact g2 hs
    · exact (List.nodup_append.1 (show (u.foot ++ F.flatMap DV.foot).Nodup from h.fnd)).2.2 b hs b hb rfl
/-- Dropped. -/
theorem RelF.drop {u : DV} (h : RelF C st D Sh (u :: F) a w) : RelF C st D Sh F a w :=
  ⟨h.rel, fun v hv => h.fok v (List.mem_cons_of_mem _ hv), (List.nodup_append.1 (show (u.foot ++ F.flatMap DV.foot).Nodup from h.fnd)).2.1, fun b hb => h.fdis b (List.mem_append_right _ hb)⟩
end
end Go.Proofs.Ytabjfkongckhaaa.Vm
