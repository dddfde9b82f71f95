/- Calls, the caller's side: memory turns, values are lent. -/
import Derived.Test.YtabjfkongckhaaaVmU
namespace Go.Proofs.Ytabjfkongckhaaa.Vm
open Go Go.RowKit
set_option linter.unusedVariables false

section
variable {C : Ctx} {st : St} {D : Nat → DRoot} {Sh Sh2 : Nat → Prop} {F F' : List DV} {a : Act} {w w' : World}
/-- Values in hand turn with memory; more is shared. -/
theorem RelF.turn2 (h : RelF C st D Sh F a w) (ho : w'.os = w.os) (ht : w'.tape = w.tape) (hp : w'.output = w.output) (hz : w.heap.size ≤ w'.heap.size)
    (hb : ∀ b, b < w.heap.size → b ∉ F.flatMap DV.foot → w'.heap[b]? = w.heap[b]?) (hs : ∀ b, Sh b → Sh2 b) (hsn : ∀ b, Sh2 b → (Sh b ∨ w.heap.size ≤ b ∨ b ∈ F.flatMap DV.foot) ∧ b < w'.heap.size) (hok : ∀ v ∈ F', v.OK w' Sh2) (hnd : (F'.flatMap DV.foot).Nodup)
    (hsub : ∀ b ∈ F'.flatMap DV.foot, ¬ Sh2 b ∧ b < w'.heap.size ∧ (b ∈ F.flatMap DV.foot ∨ w.heap.size ≤ b)) : Keeps w w' Sh Sh2 st.roots st.roots D D ∧ RelF C st D Sh2 F' a w' := by
  have hsh : ∀ b, Sh b → w'.heap[b]? = w.heap[b]? := fun b hs => hb b (h.rel.shn b hs).2 (fun hm => (h.fdis b hm).2.1 hs)
  have hroot : ∀ id r, st.roots id = some r → ∀ b ∈ (D id).foot, w'.heap[b]? = w.heap[b]? := fun id r hr b hm =>
    hb b (h.rel.fresh id r hr b hm).2.1 (fun hm' => (h.fdis b hm').1 id r hr hm)
  have K : Keeps w w' Sh Sh2 st.roots st.roots D D := ⟨hsh, hs, fun id r hr => ⟨r, [], hr, rfl, fun p t _ _ b u hl ht => ⟨b, u, hl, ht, rfl⟩, fun p _ k o u hl => ⟨u, hl⟩⟩⟩
  refine ⟨K, ⟨⟨ho.trans h.rel.os, ht.trans h.rel.tape, hp.trans h.rel.output, Nat.le_trans h.rel.hsz hz, fun b hlt hm => ?_, fun b hb => hs b (h.rel.sh0 b hb), fun b hb2 => ?_, fun id r hr => ?_, h.rel.dis,
    fun id r hr b hm => ?_, fun t => K.avr (h.rel.tmp t), h.rel.size, h.rel.defers⟩, hok, hnd, fun b hm => ?_⟩⟩
  · refine (hb b (Nat.lt_of_lt_of_le hlt h.rel.hsz) (fun hm' => ?_)).trans (h.rel.block b hlt hm)
    rcases (h.fdis b hm').2.2.2 with h1 | h1
    · omega
    · exact hm h1
  · obtain ⟨h1, h2⟩ := hsn b hb2
    refine ⟨?_, h2⟩
    rcases h1 with h1 | h1 | h1
    · exact (h.rel.shn b h1).1
    · exact .inr (.inl (Nat.le_trans h.rel.hsz h1))
    · exact (h.fdis b h1).2.2.2.elim (fun e => .inr (.inl e)) (fun e => .inr (.inr e))
  · have R := h.rel.root id r hr
    refine ⟨R.er, Ty.OK_frame hsh hs (fun b hm => hroot id r hr b (mem_dv hm)) R.ok, R.blk, fun k hk => ?_, R.nd, R.top, R.org, R.pin⟩
    obtain ⟨row, e, hrow, hc⟩ := R.loc k hk
    exact ⟨row, e, hrow.frame (hroot id r hr k (mem_b hk)), hc⟩
  · have f := h.rel.fresh id r hr b hm
    refine ⟨fun h2 => ?_, Nat.lt_of_lt_of_le f.2.1 hz, f.2.2⟩
    rcases (hsn b h2).1 with h1 | h1 | h1
    · exact f.1 h1
    · omega
    · exact (h.fdis b h1).1 id r hr hm
  · obtain ⟨s1, s2, s3⟩ := hsub b hm
    rcases s3 with hm | hm
    · obtain ⟨g1, g2, g3, g4⟩ := h.fdis b hm
      exact ⟨g1, s1, s2, g4⟩
    · refine ⟨fun id r hr hm' => ?_, s1, s2, .inl (Nat.le_trans h.rel.hsz hm)⟩
      have := (h.rel.fresh id r hr b hm').2.1; omega
/-- One root turns with memory, and the values in hand; more is shared. -/
theorem RelF.both (h : RelF C st D Sh F a w) {id : Nat} {r' : Root} {d' : DRoot} (ho : w'.os = w.os) (ht : w'.tape = w.tape) (hp : w'.output = w.output) (hz : w.heap.size ≤ w'.heap.size)
    (hb : ∀ b, b < w.heap.size → (∀ r, st.roots id = some r → b ∉ (D id).foot) → b ∉ F.flatMap DV.foot → w'.heap[b]? = w.heap[b]?) (hs : ∀ b, Sh b → Sh2 b)
    (hsn : ∀ b, Sh2 b → (Sh b ∨ w.heap.size ≤ b ∨ b ∈ F.flatMap DV.foot ∨ ∃ r, st.roots id = some r ∧ b ∈ (D id).foot) ∧ b < w'.heap.size) (hR : RRel w' Sh2 C r' d')
    (hok : ∀ v ∈ F', v.OK w' Sh2) (hnd : (d'.foot ++ F'.flatMap DV.foot).Nodup)
    (hsub : ∀ b ∈ d'.foot ++ F'.flatMap DV.foot, ¬ Sh2 b ∧ b < w'.heap.size ∧ ((∃ r, st.roots id = some r ∧ b ∈ (D id).foot) ∨ b ∈ F.flatMap DV.foot ∨ w.heap.size ≤ b))
    (K : Keeps w w' Sh Sh2 st.roots (upt st.roots id (some r')) D (upt D id d')) : RelF C ⟨st.tmps, upt st.roots id (some r')⟩ (upt D id d') Sh2 F' a w' := by
  have hkeep : ∀ i r, i ≠ id → st.roots i = some r → ∀ b ∈ (D i).foot, w'.heap[b]? = w.heap[b]? := fun i r hi hr b hm =>
    hb b (h.rel.fresh i r hr b hm).2.1 (fun r0 h0 => h.rel.dis i id r r0 hi hr h0 b hm) (fun hm' => (h.fdis b hm').1 i r hr hm)
  have hns : ∀ i r, i ≠ id → st.roots i = some r → ∀ b ∈ (D i).foot, ¬ Sh2 b := by
    intro i r hi hr b hm h2
    rcases (hsn b h2).1 with h1 | h1 | h1 | ⟨r0, h0, h1⟩
    · exact (h.rel.fresh i r hr b hm).1 h1
    · have := (h.rel.fresh i r hr b hm).2.1; omega
    · exact (h.fdis b h1).1 i r hr hm
    · exact h.rel.dis i id r r0 hi hr h0 b hm h1
  have hM : ∀ b, ((∃ r, st.roots id = some r ∧ b ∈ (D id).foot) ∨ b ∈ F.flatMap DV.foot ∨ w.heap.size ≤ b) → (C.w0.heap.size ≤ b ∨ C.M b) := by
    intro b hb
    rcases hb with ⟨r, hr, hm⟩ | hm | hm
    · exact (h.rel.fresh id r hr b hm).2.2
    · exact (h.fdis b hm).2.2.2
    · exact .inl (Nat.le_trans h.rel.hsz hm)
  have hother : ∀ i r, i ≠ id → st.roots i = some r → ∀ b ∈ (D i).foot, b ∉ d'.foot ++ F'.flatMap DV.foot := by
    intro i r hi hr b hb1 hb2
    rcases (hsub b hb2).2.2 with ⟨r0, h0, hm⟩ | hm | hm
    · exact h.rel.dis i id r r0 hi hr h0 b hb1 hm
    · exact (h.fdis b hm).1 i r hr hb1
    · have := (h.rel.fresh i r hr b hb1).2.1; omega
  refine ⟨⟨ho.trans h.rel.os, ht.trans h.rel.tape, hp.trans h.rel.output, Nat.le_trans h.rel.hsz hz, ?_, fun b hb => hs b (h.rel.sh0 b hb), fun b h2 => ?_, ?_, ?_, ?_, fun t => K.avr (h.rel.tmp t), h.rel.size, h.rel.defers⟩, hok, (List.nodup_append.1 hnd).2.1, ?_⟩
  · intro b hlt hm
    refine (hb b (Nat.lt_of_lt_of_le hlt h.rel.hsz) (fun r hr hmem => ?_) (fun hmem => ?_)).trans (h.rel.block b hlt hm)
    · rcases (h.rel.fresh id r hr b hmem).2.2 with h1 | h1
      · omega
      · exact hm h1
    · rcases (h.fdis b hmem).2.2.2 with h1 | h1
      · omega
      · exact hm h1
  · obtain ⟨h1, h3⟩ := hsn b h2
    refine ⟨?_, h3⟩
    rcases h1 with h1 | h1 | h1 | ⟨r0, h0, h1⟩
    · exact (h.rel.shn b h1).1
    · exact .inr (.inl (Nat.le_trans h.rel.hsz h1))
    · exact (h.fdis b h1).2.2.2.elim (fun e => .inr (.inl e)) (fun e => .inr (.inr e))
    · exact (h.rel.fresh id r0 h0 b h1).2.2.elim (fun e => .inr (.inl e)) (fun e => .inr (.inr e))
  · intro i ri hi0
    have hi : upt st.roots id (some r') i = some ri := hi0
    clear hi0
    by_cases e : i = id
    · subst e
      rw [upt_same] at hi; cases hi
      rw [upt_same]; exact hR
    · rw [upt_ne _ _ e] at hi ⊢
      have R := h.rel.root i ri hi
      refine ⟨R.er, Ty.OK_frame K.sh K.shm (fun b hm => hkeep i ri e hi b (mem_dv hm)) R.ok, R.blk, fun k hk => ?_, R.nd, R.top, R.org, R.pin⟩
      obtain ⟨row, el, hrow, hc⟩ := R.loc k hk
      exact ⟨row, el, hrow.frame (hkeep i ri e hi k (mem_b hk)), hc⟩
  · intro i j ri rj hij hi0 hj0 b hb1
    have hi : upt st.roots id (some r') i = some ri := hi0
    have hj : upt st.roots id (some r') j = some rj := hj0
    clear hi0 hj0
    by_cases ei : i = id
    · subst ei
      rw [upt_same] at hb1
      rw [upt_ne _ _ (Ne.symm hij)] at hj ⊢
      exact fun hb2 => hother j rj (Ne.symm hij) hj b hb2 (List.mem_append_left _ hb1)
    · rw [upt_ne _ _ ei] at hi hb1
      by_cases ej : j = id
      · subst ej
        rw [upt_same]
        exact fun hb2 => hother i ri ei hi b hb1 (List.mem_append_left _ hb2)
      · rw [upt_ne _ _ ej] at hj ⊢
        exact h.rel.dis i j ri rj hij hi hj b hb1
  · intro i ri hi0 b hb1
    have hi : upt st.roots id (some r') i = some ri := hi0
    clear hi0
    by_cases ei : i = id
    · subst ei
      rw [upt_same] at hb1
      obtain ⟨s1, s2, s3⟩ := hsub b (List.mem_append_left _ hb1)
      exact ⟨s1, s2, hM b s3⟩
    · rw [upt_ne _ _ ei] at hi hb1
      obtain ⟨f1, f2, f3⟩ := h.rel.fresh i ri hi b hb1
      exact ⟨hns i ri ei hi b hb1, by omega, f3⟩
  · intro b hm
    obtain ⟨s1, s2, s3⟩ := hsub b (List.mem_append_right _ hm)
    refine ⟨fun i ri hi0 => ?_, s1, s2, hM b s3⟩
    have hi : upt st.roots id (some r') i = some ri := hi0
    clear hi0
    by_cases ei : i = id
    · subst ei
      rw [upt_same]
      exact fun hb2 => (List.nodup_append.1 hnd).2.2 b hb2 b hm rfl
    · rw [upt_ne _ _ ei] at hi ⊢
      exact fun hb2 => hother i ri ei hi b hb2 (List.mem_append_right _ hm)
end

/-! ### what is lent -/
theorem noshr_ok {w : World} {Sh Sh' : Nat → Prop} : ∀ {t : Ty} {d : t.dec}, noshr t = true → t.OK w Sh d → t.OK w Sh' d
  | .int _, _, _, _ | .bool, _, _, _ | .str, _, _, _ | .nil, _, _, _ => trivial
  | .hole, _, _, h => h
  | .sl true e t, x, hn, h => by
    have hn : noshr t = true := by simpa [noshr] using hn
    rcases h with h | ⟨b, o, row, hA, hb, hl, hm, hr, hd⟩
    · exact .inl h
    · exact .inr ⟨b, o, row, hA, hb, hl, hm, hr, fun i d hi => ⟨noshr_ok hn (hd i d hi).1, (hd i d hi).2⟩⟩
  | .sl false _ _, _, hn, _ => by cases hn
  | .cons a r, x, hn, h => by
    simp only [noshr, Bool.and_eq_true] at hn
    exact ⟨noshr_ok hn.1 h.1, noshr_ok hn.2 h.2⟩
section
variable {C : Ctx} {T : Nat → AV} {R : Nat → Option Root} {D : Nat → DRoot} {Sh Sh' : Nat → Prop} {a : Act} {w : World}
def lentIn (R : Nat → Option Root) (D : Nat → DRoot) (ids : List Nat) (b : Nat) : Prop := ∃ id r, id ∈ ids ∧ R id = some r ∧ b ∈ (D id).foot
theorem look_foot : ∀ {p : Path} {v : DV} {b b' : Base} {u : DV}, lookD v b p = some (b', u) → ∀ k ∈ u.foot, k ∈ v.foot := by
  intro p v b b' u hl k hk
  obtain ⟨L1, L2, f1, _⟩ := foot_put hl
  rw [f1]; exact List.mem_append_left _ (List.mem_append_right _ hk)
theorem lendV_ok {ws : Writes} (hR : Rel C ⟨T, app ws R⟩ D Sh a w) (hs : ∀ b, Sh b → Sh' b) : ∀ {x : AV} {ty : Ty} {v : V} {cs : List Value}, (lendV ty x ws).go R = some v → (∀ b, lentIn (app ws R) D (lent x) b → Sh' b) → AVC w Sh (app ws R) D x cs → Ty.RR w Sh' v.t v.x cs ∧ x.agg = v.t.agg
  | .sh t x, ty, v, cs, h, hl, hc => by
    simp only [lendV] at h; cases h
    exact ⟨Ty.RR_mono (fun _ _ => rfl) hs hc, rfl⟩
  | .nilsl, ty, v, cs, h, hl, hc => by
    cases ty <;> simp only [lendV] at h <;> cases h
    cases hc
    exact ⟨⟨none, 0, rfl, Nat.le_refl _, Nat.zero_le _, fun i x hx => by cases hx⟩, rfl⟩
  | .al id p s t, ty, v, cs, h, hl, hc => by
    simp only [lendV, getR_go] at h
    obtain ⟨hf, r, hr, hsl, hcv⟩ := hc
    rw [hr] at h
    simp only at h
    cases hok : okR r s (depth p + 1) (!t.agg) with
    | false => rw [hok] at h; cases h
    | true =>
      rw [hok] at h
      obtain ⟨b, u, hlk, ht, rfl⟩ := hcv (okR_spec hok).2
      obtain ⟨hg, huok, _⟩ := hR.look hr hlk
      simp only [cond_true, hg] at h
      cases h
      refine ⟨Ty.OK_RR hs huok (fun b hb => hl b ⟨id, r, by simp [lent], hr, mem_dv (look_foot hlk b hb)⟩), by rw [← ht]; rfl⟩
  | .cut id p s t lo n, ty, v, cs, h, hl, hc => by
    simp only [lendV, getR_go] at h
    obtain ⟨r, hr, hsl, hcv⟩ := hc
    rw [hr] at h
    simp only at h
    cases hok : okR r s (depth p + 1) true with
    | false => rw [hok] at h; cases h
    | true =>
      rw [hok] at h
      obtain ⟨b, e, te, A, c, ds, ht, hlk, hlen, A', rfl, hA⟩ := hcv (okR_spec hok).2
      obtain ⟨hg, huok, _⟩ := hR.look hr hlk
      have hg : getV r.v p = some ⟨.sl true e te, ds.map te.er⟩ := hg
      simp only [cond_true, hg] at h
      cases h
      have hRR : Ty.RR w Sh' (.sl true e te) (ds.map te.er) [.slice A ds.length c] := Ty.OK_RR (t := .sl true e te) (d := ((A, c), ds)) hs huok (fun b hb => hl b ⟨id, r, by simp [lent], hr, mem_dv (look_foot hlk b hb)⟩)
      rw [show ds.length = (ds.map te.er).length by rw [List.length_map]] at hRR
      exact ⟨RR_cut hRR (lo := lo) (n := n) (by rw [List.length_map]; exact hlen) hA, rfl⟩
  | .nilf, ty, v, cs, h, hl, hc => by
    cases ty <;> simp only [lendV] at h <;> cases h
    cases hc
    exact ⟨rfl, rfl⟩
  | .consf x y, ty, v, cs, h, hl, hc => by
    cases ty with
    | cons ta tb =>
      simp only [lendV, Prog.go_bind] at h
      cases h1 : (lendV ta x ws).go R with
      | none => rw [h1] at h; cases h
      | some u =>
        rw [h1] at h
        simp only at h
        cases h2 : (lendV tb y ws).go R with
        | none => rw [h2] at h; cases h
        | some u2 =>
          rw [h2] at h; cases h
          obtain ⟨c0, c1, rfl, hc0, hc1⟩ := hc
          obtain ⟨i1, _⟩ := lendV_ok hR hs h1 (fun b hb => hl b (by obtain ⟨id, r, m, q1, q2⟩ := hb; exact ⟨id, r, List.mem_append_left _ m, q1, q2⟩)) hc0
          obtain ⟨i2, _⟩ := lendV_ok hR hs h2 (fun b hb => hl b (by obtain ⟨id, r, m, q1, q2⟩ := hb; exact ⟨id, r, List.mem_append_right _ m, q1, q2⟩)) hc1
          exact ⟨⟨c0, c1, rfl, i1, i2⟩, rfl⟩
    | _ => simp only [lendV] at h; cases h
  | .any, ty, v, cs, h, hl, hc => hc.elim
  | .tup _, ty, v, cs, h, hl, hc => hc.elim
  | .ptr _ _ _, ty, v, cs, h, hl, hc => by simp only [lendV] at h; cases h
  | .sptr _ _, ty, v, cs, h, hl, hc => by simp only [lendV] at h; cases h
  | .fn _ _, ty, v, cs, h, hl, hc => by simp only [lendV] at h; cases h
theorem lendP_ok {ws : Writes} (hR : Rel C ⟨T, app ws R⟩ D Sh a w) (hs : ∀ b, Sh b → Sh' b) : ∀ {p : Pat} {x : AV} {y : p.den} {cs : List Value}, (lendP p x ws).go R = some y → (∀ b, lentIn (app ws R) D (lent x) b → Sh' b) → AVC w Sh (app ws R) D x cs → AVC w Sh' noR noD (p.av y) cs ∧ x.agg = (p.av y).agg
  | .val t, x, y, cs, h, hl, hc => by
    simp only [lendP, Prog.go_bind] at h
    cases h1 : (lendV t x ws).go R with
    | none => rw [h1] at h; cases h
    | some v =>
      rw [h1] at h
      simp only [Prog.go] at h
      cases h2 : asT v t with
      | none => rw [h2] at h; cases h
      | some y' =>
        rw [h2] at h; cases h
        obtain ⟨e, rfl⟩ := asT_some h2
        obtain ⟨i1, i2⟩ := lendV_ok hR hs h1 hl hc
        exact ⟨Ty.RR_same e i1, i2.trans (Ty.agg_same e)⟩
  | .sptr t, .sptr t' x, y, cs, h, hl, hc => by
    simp only [lendP, Prog.go] at h
    cases h2 : asT ⟨t', x⟩ t with
    | none => rw [h2] at h; cases h
    | some y' =>
      rw [h2] at h; cases h
      obtain ⟨e, rfl⟩ := asT_some h2
      obtain ⟨b, o, cc, rfl, hb, hRR, hcell⟩ := hc
      exact ⟨⟨b, o, cc, rfl, hs b hb, Ty.RR_same e (Ty.RR_mono (fun _ _ => rfl) hs hRR), hcell⟩, rfl⟩
  | .sptr t, .ptr id p s, y, cs, h, hl, hc => by
    simp only [lendP, getR_go] at h
    obtain ⟨v, rfl, r, hr, hsl, hcv⟩ := hc
    rw [hr] at h
    simp only at h
    cases hok : okR r s (depth p) true with
    | false => rw [hok] at h; cases h
    | true =>
      rw [hok] at h
      obtain ⟨k, o, u, hlk, rfl⟩ := hcv (okR_spec hok).2
      obtain ⟨hg, huok, hloc⟩ := hR.look hr hlk
      simp only [cond_true, hg] at h
      cases h2 : asT u.er t with
      | none => rw [h2] at h; cases h
      | some y' =>
        rw [h2] at h; cases h
        obtain ⟨e, rfl⟩ := asT_some h2
        have hin : ∀ b ∈ (D id).foot, Sh' b := fun b hb => hl b ⟨id, r, by simp [lent], hr, hb⟩
        have hk : k ∈ (D id).foot := by
          rcases look_block hlk k o rfl with ⟨o', ho'⟩ | hm
          · exact mem_b (base_some ho').1
          · exact mem_dv hm
        obtain ⟨row, el, hrow, hcl⟩ := hloc k o rfl
        exact ⟨⟨k, o, u.cs, rfl, hin k hk, Ty.RR_same e (Ty.OK_RR hs huok (fun b hb => hin b (mem_dv (look_foot hlk b hb)))), fun j v hj => by rw [hrow.cell]; exact hcl j v hj⟩, rfl⟩
  | .fn f c, .fn g x, y, cs, h, hl, hc => by
    simp only [lendP] at h
    cases hb : Nat.beq f g with
    | false => rw [hb] at h; cases h
    | true =>
      rw [hb] at h
      have e := Nat.eq_of_beq_eq_true hb
      subst e
      obtain ⟨cc, rfl, hcc⟩ := hc
      exact ⟨⟨cc, rfl, (lendP_ok hR hs (p := c) h hl hcc).1⟩, rfl⟩
  | .nil, .nilf, y, cs, h, hl, hc => ⟨hc, rfl⟩
  | .cons a r, .consf x x', y, cs, h, hl, hc => by
    simp only [lendP, Prog.go_bind] at h
    cases h1 : (lendP a x ws).go R with
    | none => rw [h1] at h; cases h
    | some u =>
      rw [h1] at h
      simp only at h
      cases h2 : (lendP r x' ws).go R with
      | none => rw [h2] at h; cases h
      | some u2 =>
        rw [h2] at h; cases h
        obtain ⟨c0, c1, rfl, hc0, hc1⟩ := hc
        obtain ⟨i1, _⟩ := lendP_ok hR hs h1 (fun b hb => hl b (by obtain ⟨id, r, m, q1, q2⟩ := hb; exact ⟨id, r, List.mem_append_left _ m, q1, q2⟩)) hc0
        obtain ⟨i2, _⟩ := lendP_ok hR hs h2 (fun b hb => hl b (by obtain ⟨id, r, m, q1, q2⟩ := hb; exact ⟨id, r, List.mem_append_right _ m, q1, q2⟩)) hc1
        exact ⟨⟨c0, c1, rfl, i1, i2⟩, rfl⟩
  | .sptr t, .any, y, cs, h, hl, hc | .sptr t, .sh _ _, y, cs, h, hl, hc | .sptr t, .nilsl, y, cs, h, hl, hc | .sptr t, .al _ _ _ _, y, cs, h, hl, hc | .sptr t, .cut _ _ _ _ _ _, y, cs, h, hl, hc | .sptr t, .nilf, y, cs, h, hl, hc
  | .sptr t, .consf _ _, y, cs, h, hl, hc | .sptr t, .fn _ _, y, cs, h, hl, hc | .sptr t, .tup _, y, cs, h, hl, hc => by simp only [lendP] at h; cases h
  | .fn _ _, .any, y, cs, h, hl, hc | .fn _ _, .sh _ _, y, cs, h, hl, hc | .fn _ _, .nilsl, y, cs, h, hl, hc | .fn _ _, .al _ _ _ _, y, cs, h, hl, hc | .fn _ _, .cut _ _ _ _ _ _, y, cs, h, hl, hc | .fn _ _, .nilf, y, cs, h, hl, hc
  | .fn _ _, .consf _ _, y, cs, h, hl, hc | .fn _ _, .ptr _ _ _, y, cs, h, hl, hc | .fn _ _, .sptr _ _, y, cs, h, hl, hc | .fn _ _, .tup _, y, cs, h, hl, hc => by simp only [lendP] at h; cases h
  | .nil, .any, y, cs, h, hl, hc | .nil, .sh _ _, y, cs, h, hl, hc | .nil, .nilsl, y, cs, h, hl, hc | .nil, .al _ _ _ _, y, cs, h, hl, hc | .nil, .cut _ _ _ _ _ _, y, cs, h, hl, hc | .nil, .consf _ _, y, cs, h, hl, hc
  | .nil, .fn _ _, y, cs, h, hl, hc | .nil, .ptr _ _ _, y, cs, h, hl, hc | .nil, .sptr _ _, y, cs, h, hl, hc | .nil, .tup _, y, cs, h, hl, hc => by simp only [lendP] at h; cases h
  | .cons _ _, .any, y, cs, h, hl, hc | .cons _ _, .sh _ _, y, cs, h, hl, hc | .cons _ _, .nilsl, y, cs, h, hl, hc | .cons _ _, .al _ _ _ _, y, cs, h, hl, hc | .cons _ _, .cut _ _ _ _ _ _, y, cs, h, hl, hc | .cons _ _, .nilf, y, cs, h, hl, hc
  | .cons _ _, .fn _ _, y, cs, h, hl, hc | .cons _ _, .ptr _ _ _, y, cs, h, hl, hc | .cons _ _, .sptr _ _, y, cs, h, hl, hc | .cons _ _, .tup _, y, cs, h, hl, hc => by simp only [lendP] at h; cases h
end
end Go.Proofs.Ytabjfkongckhaaa.Vm
