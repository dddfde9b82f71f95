/- Values in hand: lowered, swapped in place; what is taken under the flags that are wanted. -/
import Derived.Test.YtabjfkongckhaaaVmQ
namespace Go.Proofs.Ytabjfkongckhaaa.Vm
open Go Go.RowKit
set_option linter.unusedVariables false

section
variable {C : Ctx} {st : St} {D : Nat → DRoot} {Sh Sh' : Nat → Prop} {F : List DV} {a : Act} {w : World}
theorem RelF.perm {F' : List DV} (h : RelF C st D Sh F a w) (hp : F.Perm F') : RelF C st D Sh F' a w :=
  ⟨h.rel, fun v hv => h.fok v (hp.mem_iff.2 hv), (hp.flatMap_right DV.foot).nodup_iff.1 h.fnd, fun b hb => h.fdis b ((hp.flatMap_right DV.foot).mem_iff.2 hb)⟩
/-- What lies at a place is seen otherwise from now on: the same cells, some blocks shared. -/
theorem RelF.swap (h : RelF C st D Sh F a w) {id : Nat} {r : Root} (hr : st.roots id = some r) {p : Path} {b : Base} {u n : DV} (hl : lookD (D id).dv (D id).base p = some (b, u)) {v' : V} (hp : putV r.v p n.er = some v') (hlk : like n.t u.t = true)
    (hcs : n.cs = u.cs) (hs : ∀ b, Sh b → Sh' b) (hnok : n.OK w Sh') (hsh : ∀ b, Sh' b → Sh b ∨ (b ∈ u.foot ∧ b ∉ n.foot)) (hsub : ∀ b ∈ n.foot, b ∈ u.foot) (hnn : n.foot.Nodup) :
    ∃ D', Keeps w w Sh Sh' st.roots (upt st.roots id (some (stored r p n.er u.er v'))) D D' ∧ RelF C ⟨st.tmps, upt st.roots id (some (stored r p n.er u.er v'))⟩ D' Sh' F a w := by
  have R := h.rel.root id r hr
  have hp' := hp
  rw [← R.er] at hp
  obtain ⟨dv', hd, hv⟩ := er_put hl hp
  obtain ⟨L1, L2, f1, f2⟩ := foot_put hl
  have f3 := f2 _ _ hd
  have hnd : ((D id).b.toList ++ (D id).dv.foot).Nodup := R.nd
  obtain ⟨n1, n2, n3⟩ := List.nodup_append.1 hnd
  have hlook := look_loc (w := w) (Sh := Sh) hl R.ok (fun k o hk => by obtain ⟨e1, rfl⟩ := base_some hk; exact R.loc k e1)
  obtain ⟨i1, i2⟩ := upd (w := w) (w' := w) (Sh := Sh) (Sh' := Sh') (fun _ _ => rfl) hs hl hd R.ok n2 (fun k o hk => by
      obtain ⟨e1, rfl⟩ := base_some hk
      exact ⟨R.loc k e1, fun hm => n3 k (by rw [e1]; exact List.mem_singleton.2 rfl) k hm rfl⟩) (like_sz hlk) hnok
    (fun _ _ _ _ => rfl) (fun _ _ _ _ => rfl) (fun k o hk => Turned.refl_of hcs (hlook.2 k o hk))
  let d' : DRoot := ⟨dv', (D id).b, (D id).c0⟩
  have hnu : (L1 ++ u.foot ++ L2).Nodup := f1 ▸ n2
  have hin : ∀ b, b ∈ dv'.foot → b ∈ (D id).dv.foot := by
    intro b hb
    rw [f3] at hb; rw [f1]
    rcases List.mem_append.1 hb with hb | hb
    · rcases List.mem_append.1 hb with hb | hb
      · exact List.mem_append_left _ (List.mem_append_left _ hb)
      · exact List.mem_append_left _ (List.mem_append_right _ (hsub b hb))
    · exact List.mem_append_right _ hb
  have hfoot : ∀ b ∈ d'.foot, b ∈ (D id).foot := by
    intro b hb
    rcases List.mem_append.1 hb with hb | hb
    · exact List.mem_append_left _ hb
    · exact List.mem_append_right _ (hin b hb)
  have q := List.nodup_append.1 hnu
  have q1 := List.nodup_append.1 q.1
  have hnd' : d'.foot.Nodup := by
    refine List.nodup_append.2 ⟨n1, ?_, fun x hx y hy => n3 x hx y (hin y hy)⟩
    show dv'.foot.Nodup
    rw [f3]
    refine List.nodup_append.2 ⟨List.nodup_append.2 ⟨q1.1, hnn, fun x hx y hy => q1.2.2 x hx y (hsub y hy)⟩, q.2.1, fun x hx y hy => ?_⟩
    rcases List.mem_append.1 hx with hx | hx
    · exact q.2.2 x (List.mem_append_left _ hx) y hy
    · exact q.2.2 x (List.mem_append_right _ (hsub x hx)) y hy
  have hu_id : ∀ b ∈ u.foot, b ∈ (D id).foot := fun b hb => mem_dv (by rw [f1]; exact List.mem_append_left _ (List.mem_append_right _ hb))
  have hu_new : ∀ b ∈ u.foot, b ∉ n.foot → b ∉ d'.foot := by
    intro b hb hbn hb'
    rcases List.mem_append.1 hb' with hb' | hb'
    · exact n3 b hb' b (by rw [f1]; exact List.mem_append_left _ (List.mem_append_right _ hb)) rfl
    · have hb' : b ∈ dv'.foot := hb'
      rw [f3] at hb'
      rcases List.mem_append.1 hb' with hb' | hb'
      · rcases List.mem_append.1 hb' with hb' | hb'
        · exact q1.2.2 b hb' b hb rfl
        · exact hbn hb'
      · exact q.2.2 b (List.mem_append_right _ hb) b hb' rfl
  have hold : ∀ b, Sh' b → ¬ Sh b → b ∈ (D id).foot ∧ b ∉ d'.foot := by
    intro b hb hb'
    rcases hsh b hb with h1 | ⟨h1, h2⟩
    · exact absurd h1 hb'
    · exact ⟨hu_id b h1, hu_new b h1 h2⟩
  have K : Keeps w w Sh Sh' st.roots (upt st.roots id (some (stored r p n.er u.er v'))) D (upt D id d') :=
    Keeps.store (q := p) (uq := u) (n := n) d' (fun _ _ => rfl) hs hr hl hd hlk rfl rfl rfl
  refine ⟨upt D id d', K, ⟨⟨h.rel.os, h.rel.tape, h.rel.output, h.rel.hsz, h.rel.block, fun b hb => hs b (h.rel.sh0 b hb), fun b hb => ?_, ?_, ?_, ?_, fun t => K.avr (h.rel.tmp t), h.rel.size, h.rel.defers⟩, ?_, h.fnd, ?_⟩⟩
  · rcases hsh b hb with h1 | ⟨h1, _⟩
    · exact h.rel.shn b h1
    · obtain ⟨g1, g2, g3⟩ := h.rel.fresh id r hr b (hu_id b h1)
      exact ⟨g3.elim (fun h => .inr (.inl h)) (fun h => .inr (.inr h)), g2⟩
  · intro i ri hi0
    have hi : upt st.roots id (some (stored r p n.er u.er v')) i = some ri := hi0
    clear hi0
    by_cases e : i = id
    · subst e
      rw [upt_same] at hi; cases hi
      rw [upt_same]
      refine ⟨hv, i1, R.blk, fun k hk => ?_, hnd', fun hss => ?_, R.org, R.pin⟩
      · obtain ⟨row, el, hrow, hc⟩ := R.loc k hk
        obtain ⟨row', hr', _, _, hin'⟩ := i2 k 0 (base_of hk) row el hrow
        exact ⟨row', el, hr', hin'⟩
      · have hss : since ([(depth p, !(n.er.t.flat && u.er.t.flat))] ++ r.log) 0 1 false = true := hss
        rw [since_append (Nat.zero_le _), Bool.and_eq_true] at hss
        rcases bad1 hss.1 with hb | hb
        · simp at hb
        · have hk := (keep_put n p _ _ _ _ _ hl hd hlk [] none none _ rfl).2 (.inr (by show 0 < depth p; have hb : 1 ≤ depth p := hb; omega))
          obtain ⟨u', h1, _, h3⟩ := hk
          cases h1
          exact h3.trans (R.top hss.2)
    · rw [upt_ne _ _ e] at hi ⊢
      have R' := h.rel.root i ri hi
      exact ⟨R'.er, Ty.OK_frame (fun _ _ => rfl) hs (fun _ _ => rfl) R'.ok, R'.blk, R'.loc, R'.nd, R'.top, R'.org, R'.pin⟩
  · intro i j ri rj hij hi0 hj0 b hb
    have hi : upt st.roots id (some (stored r p n.er u.er v')) i = some ri := hi0
    have hj : upt st.roots id (some (stored r p n.er u.er v')) j = some rj := hj0
    clear hi0 hj0
    by_cases ei : i = id
    · subst ei
      rw [upt_same] at hb
      rw [upt_ne _ _ (Ne.symm hij)] at hj ⊢
      exact h.rel.dis i j r rj hij hr hj b (hfoot b hb)
    · rw [upt_ne _ _ ei] at hi hb
      by_cases ej : j = id
      · subst ej
        rw [upt_same]
        exact fun hb' => h.rel.dis i j ri r hij hi hr b hb (hfoot b hb')
      · rw [upt_ne _ _ ej] at hj ⊢
        exact h.rel.dis i j ri rj hij hi hj b hb
  · intro i ri hi0 b hb
    have hi : upt st.roots id (some (stored r p n.er u.er v')) i = some ri := hi0
    clear hi0
    have hns : ∀ rr, st.roots i = some rr → b ∈ (D i).foot → (i = id → b ∈ d'.foot) → ¬ Sh' b := by
      intro rr hrr hb1 hb2 hsb
      by_cases hso : Sh b
      · exact (h.rel.fresh i rr hrr b hb1).1 hso
      · obtain ⟨g1, g2⟩ := hold b hsb hso
        by_cases ei : i = id
        · exact g2 (hb2 ei)
        · exact h.rel.dis i id rr r ei hrr hr b hb1 g1
    by_cases ei : i = id
    · subst ei
      rw [upt_same] at hb
      obtain ⟨g1, g2⟩ := h.rel.fresh i r hr b (hfoot b hb)
      exact ⟨hns r hr (hfoot b hb) (fun _ => hb), g2⟩
    · rw [upt_ne _ _ ei] at hi hb
      obtain ⟨g1, g2⟩ := h.rel.fresh i ri hi b hb
      exact ⟨hns ri hi hb (fun e => absurd e ei), g2⟩
  · exact fun v hv => Ty.OK_frame (fun _ _ => rfl) hs (fun _ _ => rfl) (h.fok v hv)
  · intro b hb
    obtain ⟨g1, g2, g3⟩ := h.fdis b hb
    refine ⟨fun i ri hi0 => ?_, fun hsb => ?_, g3⟩
    · have hi : upt st.roots id (some (stored r p n.er u.er v')) i = some ri := hi0
      clear hi0
      by_cases ei : i = id
      · subst ei; rw [upt_same]; exact fun hm => g1 i r hr (hfoot b hm)
      · rw [upt_ne _ _ ei] at hi ⊢
        exact g1 i ri hi
    · by_cases hso : Sh b
      · exact g2 hso
      · exact g1 id r hr (hold b hsb hso).1
/-- What is in hand is lowered. -/
theorem RelF.low {u : DV} (h : RelF C st D Sh (u :: F) a w) {t' : Ty} (hl : lowB u.t t' = true) : ∃ (Sh' : Nat → Prop) (d' : t'.dec), t'.er d' = cast (Ty.den_same (lowB_shr hl)) u.er.x ∧ t'.cs d' = u.cs ∧ (∀ b, Sh b → Sh' b) ∧ Keeps w w Sh Sh' st.roots st.roots D D ∧ RelF C st D Sh' (⟨t', d'⟩ :: F) a w := by
  have hnu : (u.foot ++ F.flatMap DV.foot).Nodup := h.fnd
  obtain ⟨n1, n2, n3⟩ := List.nodup_append.1 hnu
  obtain ⟨d', e1, e2, e3, e4, e5⟩ := Ty.lower hl (h.fok u (by simp)) n1
  let Sh' : Nat → Prop := fun b => Sh b ∨ (b ∈ u.foot ∧ b ∉ t'.foot d')
  have hs : ∀ b, Sh b → Sh' b := fun b hb => .inl hb
  have huF : ∀ b ∈ u.foot, b ∈ (u :: F).flatMap DV.foot := fun b hb => List.mem_append_left _ hb
  have hFF : ∀ b ∈ F.flatMap DV.foot, b ∈ (u :: F).flatMap DV.foot := fun b hb => List.mem_append_right _ hb
  have K : Keeps w w Sh Sh' st.roots st.roots D D := ⟨fun _ _ => rfl, hs, fun id r hr => ⟨r, [], hr, rfl, fun p t _ _ b u hl ht => ⟨b, u, hl, ht, rfl⟩, fun p _ k o u hl => ⟨u, hl⟩⟩⟩
  refine ⟨Sh', d', e1, e2, hs, K, ⟨⟨h.rel.os, h.rel.tape, h.rel.output, h.rel.hsz, h.rel.block, fun b hb => .inl (h.rel.sh0 b hb), ?_, ?_, h.rel.dis, ?_, fun t => K.avr (h.rel.tmp t), h.rel.size, h.rel.defers⟩, ?_, ?_, ?_⟩⟩
  · intro b hb
    rcases hb with hb | ⟨hb, _⟩
    · exact h.rel.shn b hb
    · obtain ⟨_, _, g3, g4⟩ := h.fdis b (huF b hb)
      exact ⟨g4.elim (fun h => .inr (.inl h)) (fun h => .inr (.inr h)), g3⟩
  · intro id r hr
    have R := h.rel.root id r hr
    exact ⟨R.er, Ty.OK_frame (fun _ _ => rfl) hs (fun _ _ => rfl) R.ok, R.blk, R.loc, R.nd, R.top, R.org, R.pin⟩
  · intro id r hr b hb
    obtain ⟨f1, f2⟩ := h.rel.fresh id r hr b hb
    refine ⟨fun hs => ?_, f2⟩
    rcases hs with hs | ⟨hs, _⟩
    · exact f1 hs
    · exact (h.fdis b (huF b hs)).1 id r hr hb
  · intro v hv
    rcases List.mem_cons.1 hv with rfl | hv
    · exact e5 Sh' hs (fun b hb hb' => .inr ⟨hb, hb'⟩)
    · exact Ty.OK_frame (fun _ _ => rfl) hs (fun _ _ => rfl) (h.fok v (List.mem_cons_of_mem _ hv))
  · show (t'.foot d' ++ F.flatMap DV.foot).Nodup
    exact List.nodup_append.2 ⟨e4, n2, fun x hx y hy => n3 x (e3 x hx) y hy⟩
  · intro b hb
    rcases List.mem_append.1 (show b ∈ t'.foot d' ++ F.flatMap DV.foot from hb) with hb | hb
    · obtain ⟨g1, g2, g3⟩ := h.fdis b (huF b (e3 b hb))
      refine ⟨g1, fun hs => ?_, g3⟩
      rcases hs with hs | ⟨_, hs⟩
      · exact g2 hs
      · exact hs hb
    · obtain ⟨g1, g2, g3⟩ := h.fdis b (hFF b hb)
      refine ⟨g1, fun hs => ?_, g3⟩
      rcases hs with hs | ⟨hs, _⟩
      · exact g2 hs
      · exact n3 b hs b hb rfl
end

theorem asT_some {v : V} {t : Ty} {y : t.den} (h : asT v t = some y) : ∃ e : v.t.shr = t.shr, y = cast (Ty.den_same e) v.x := by
  unfold asT at h
  split at h
  · rename_i e; cases h; exact ⟨e, rfl⟩
  · cases h
theorem toT_some {v : V} {t : Ty} {y : t.den} (h : toT v t = some y) : ∃ hl : lowB v.t t = true, y = cast (Ty.den_same (lowB_shr hl)) v.x := by
  unfold toT at h
  by_cases hb : lowB v.t t = true
  · rw [hb] at h
    obtain ⟨e, rfl⟩ := asT_some h
    exact ⟨hb, rfl⟩
  · rw [Bool.not_eq_true] at hb
    rw [hb] at h; cases h
theorem RR_cut {w : World} {Sh : Nat → Prop} {o : Bool} {e : TypeId} {t : Ty} {xs : List t.den} {A : Option Addr} {c : Nat} (h : Ty.RR w Sh (.sl o e t) xs [.slice A xs.length c]) {lo n : Nat} (hl : lo + n ≤ xs.length) {A' : Option Addr}
    (hA : n = 0 ∨ ∃ k o, A = some ⟨k, o, none⟩ ∧ A' = some ⟨k, o + lo * t.sz, none⟩) : Ty.RR w Sh (.sl o e t) ((xs.drop lo).take n) [.slice A' n (c - lo)] := by
  obtain ⟨A0, c0, hc, h1, h2, h3⟩ := h
  simp only [List.cons.injEq, Value.slice.injEq, and_true] at hc
  obtain ⟨rfl, _, rfl⟩ := hc
  have hlen : ((xs.drop lo).take n).length = n := by rw [List.length_take, List.length_drop]; omega
  refine ⟨A', c - lo, by rw [hlen], by rw [hlen]; omega, by omega, fun i x hx => ?_⟩
  rw [List.getElem?_take] at hx
  split at hx
  case isFalse => cases hx
  rename_i hi
  rw [List.getElem?_drop] at hx
  obtain ⟨b, off, rfl, hb, cc, hR, hcell⟩ := h3 (lo + i) x hx
  rcases hA with hA | ⟨k, o', hA, rfl⟩
  · omega
  · cases hA
    refine ⟨b, off + lo * t.sz, rfl, hb, cc, hR, fun j v hv => ?_⟩
    rw [show off + lo * t.sz + i * t.sz + j = off + (lo + i) * t.sz + j by rw [Nat.add_mul]; omega]
    exact hcell j v hv

section
variable {C : Ctx} {T : Nat → AV} {R : Nat → Option Root} {D : Nat → DRoot} {Sh : Nat → Prop} {F : List DV} {a : Act} {w : World}
/-- What a cut is of. -/
theorem cut_look {id : Nat} {p : Path} {s : Nat} {t : Ty} {lo n : Nat} {v : Value} {r : Root} (h : AVR w Sh R D (.cut id p s t lo n) v) (hr : R id = some r) (hs : since r.log s (depth p + 1) true = true) :
    ∃ b e te A c ds A', t = .sl true e te ∧ lookD (D id).dv (D id).base p = some (b, ⟨.sl true e te, ((A, c), ds)⟩) ∧ lo + n ≤ ds.length ∧ v = .slice A' n (c - lo) ∧ (n = 0 ∨ ∃ k o, A = some ⟨k, o, none⟩ ∧ A' = some ⟨k, o + lo * te.sz, none⟩) := by
  obtain ⟨cs, ⟨r', hr', _, hcut⟩, hv⟩ := h
  rw [hr] at hr'; cases hr'
  obtain ⟨b, e, te, A, c, ds, htt, hl, hlm, A', rfl, hA⟩ := hcut hs
  exact ⟨b, e, te, A, c, ds, A', htt, hl, hlm, hv, hA⟩
theorem okR_spec {r : Root} {s m : Nat} {ho : Bool} (h : okR r s m ho = true) : s ≤ r.log.length ∧ since r.log s m ho = true := by
  unfold okR at h
  rw [Bool.and_eq_true] at h
  exact ⟨by simpa [Nat.ble_eq] using h.1, h.2⟩
theorem takeQ_ok {x : AV} {ty : Ty} {ws ws' : Writes} {u : V} (h : (takeQ ty x ws).go R = some (u, ws')) (hF : RelF C ⟨T, app ws R⟩ D Sh F a w) {v : Value} (hv : AVR w Sh (app ws R) D x v) :
    ∃ D' Sh' z, DV.er z = u ∧ v = mkw u.t.agg z.cs ∧ like u.t ty = true ∧ (∀ b, Sh b → Sh' b) ∧ Keeps w w Sh Sh' (app ws R) (app ws' R) D D' ∧ RelF C ⟨T, app ws' R⟩ D' Sh' (z :: F) a w := by
  have std : ∀ (h : (takeP ty x ws).go R = some (u, ws')), ∃ D' Sh' z, DV.er z = u ∧ v = mkw u.t.agg z.cs ∧ like u.t ty = true ∧ (∀ b, Sh b → Sh' b) ∧ Keeps w w Sh Sh' (app ws R) (app ws' R) D D' ∧ RelF C ⟨T, app ws' R⟩ D' Sh' (z :: F) a w := by
    intro h
    have hk := takeP_take h
    have hs : AVS w Sh (app ws R) D x v := avs_of_avr hv (fun e => by subst e; simp only [takeP] at h; cases h) (fun c e => by subst e; simp only [takeP] at h; cases h)
    obtain ⟨cs, hc, rfl⟩ := hs
    obtain ⟨D', z, hz, hcs, hl, hg, K, F'⟩ := take_ok hk hF hc
    exact ⟨D', Sh, z, hz, by rw [hcs, hg], hl, fun _ h => h, K, F'⟩
  cases x with
  | cut id p s t lo n =>
    simp only [takeQ, getR_go] at h
    cases hr : app ws R id with
    | none => rw [hr] at h; cases h
    | some r =>
      rw [hr] at h
      simp only at h
      cases hok : okR r s (depth p + 1) true with
      | false => rw [hok] at h; cases h
      | true =>
        rw [hok] at h
        simp only [cond_true] at h
        obtain ⟨b, e, te, A, c, ds, A', htt, hl, hlm, hvv, hA⟩ := cut_look hv hr (okR_spec hok).2
        have hg := er_look hl
        have her : (D id).dv.er = r.v := (hF.rel.root id r hr).er
        rw [her] at hg
        rw [hg] at h
        have hshow : DV.er ⟨.sl true e te, ((A, c), ds)⟩ = ⟨.sl true e te, ds.map te.er⟩ := rfl
        rw [hshow] at h hg
        simp only at h
        cases has : asT ⟨.sl true e te, ds.map te.er⟩ (.sl false e te.shr) with
        | none => rw [has] at h; cases h
        | some ys =>
          rw [has] at h
          simp only [Prog.go] at h
          cases hlk : like (.sl true e te) ty with
          | false => rw [hlk] at h; cases h
          | true =>
            rw [hlk] at h
            simp only [cond_true] at h
            cases hp : putV r.v p ⟨.sl false e te.shr, ys⟩ with
            | none => rw [hp] at h; cases h
            | some v' =>
              rw [hp] at h; cases h
              have hlow : lowB (.sl true e te) (.sl false e te.shr) = true := by simp [lowB]
              have hR := hF.rel.root id r hr
              have huok := (look_loc (w := w) (Sh := Sh) hl hR.ok (fun k o hk => by obtain ⟨e1, rfl⟩ := base_some hk; exact hR.loc k e1)).1
              obtain ⟨L1, L2, f1, _⟩ := foot_put hl
              have hun : DV.foot ⟨.sl true e te, ((A, c), ds)⟩ |>.Nodup := nodup_mid (f1 ▸ (List.nodup_append.1 hR.nd).2.1)
              obtain ⟨d', e1, e2, e3, e4, e5⟩ := Ty.lower hlow huok hun
              obtain ⟨_, hys⟩ := asT_some has
              have hys' : (Ty.sl false e te.shr).er d' = ys := by rw [e1, hys]; rfl
              let Sh' : Nat → Prop := fun b => Sh b ∨ (b ∈ DV.foot ⟨.sl true e te, ((A, c), ds)⟩ ∧ b ∉ (Ty.sl false e te.shr).foot d')
              have hs : ∀ b, Sh b → Sh' b := fun b hb => .inl hb
              have hnok : DV.OK w Sh' ⟨.sl false e te.shr, d'⟩ := e5 Sh' hs (fun b hb hb' => .inr ⟨hb, hb'⟩)
              have her2 : DV.er ⟨.sl false e te.shr, d'⟩ = ⟨.sl false e te.shr, ys⟩ := congrArg (V.mk _) hys'
              obtain ⟨D', K, F'⟩ := hF.swap (n := ⟨.sl false e te.shr, d'⟩) hr hl (v' := v') (by rw [her2]; exact hp) rfl e2 hs hnok (fun b hb => hb) e3 e4
              rw [her2, hshow] at K F'
              have hcs : [Value.slice d'.1.1 d'.2.length d'.1.2] = [Value.slice A ds.length c] := e2
              simp only [List.cons.injEq, Value.slice.injEq, and_true] at hcs
              have hyl : List.length ys = ds.length := by
                rw [← hys']; exact hcs.2.1
              have hRR : Ty.RR w Sh' (.sl false e te.shr) ys [.slice A (List.length ys) c] := by
                have h0 : Ty.RR w Sh' (.sl false e te.shr) d'.2 [.slice d'.1.1 d'.2.length d'.1.2] := hnok
                have h9 : d'.2 = ys := hys'
                rw [h9, hcs.1, hcs.2.2] at h0
                exact h0
              have hcut := RR_cut hRR (lo := lo) (n := n) (by rw [hyl]; exact hlm) (A' := A') (by rw [Ty.sz_shr]; exact hA)
              have hlen : (List.take n (List.drop lo ys)).length = n := by rw [List.length_take, List.length_drop, hyl]; omega
              refine ⟨D', Sh', ⟨.sl false e te.shr, ((A', c - lo), List.take n (List.drop lo ys))⟩, rfl, ?_, ?_, hs, K, F'.free (v := ⟨.sl false e te.shr, ((A', c - lo), List.take n (List.drop lo ys))⟩) ?_ rfl⟩
              · show v = Value.slice A' (List.take n (List.drop lo ys)).length (c - lo)
                rw [hlen]; exact hvv
              · cases ty <;> first | rfl | cases hlk
              · show Ty.RR w Sh' (.sl false e te.shr) (List.take n (List.drop lo ys)) [.slice A' (List.take n (List.drop lo ys)).length (c - lo)]
                rw [hlen]; exact hcut
  | _ => exact std h
theorem takeTo_ok {x : AV} {t : Ty} {ws ws' : Writes} {y : t.den} (h : (takeTo t x ws).go R = some (y, ws')) (hF : RelF C ⟨T, app ws R⟩ D Sh F a w) {v : Value} (hv : AVR w Sh (app ws R) D x v) :
    ∃ (D' : Nat → DRoot) (Sh' : Nat → Prop) (d : t.dec), t.er d = y ∧ v = mkw t.agg (t.cs d) ∧ (∀ b, Sh b → Sh' b) ∧ Keeps w w Sh Sh' (app ws R) (app ws' R) D D' ∧ RelF C ⟨T, app ws' R⟩ D' Sh' (⟨t, d⟩ :: F) a w := by
  have std : ∀ (h : ((takeQ t x ws).bind fun q => .use (toT q.1 t) fun y => .ret (y, q.2)).go R = some (y, ws')), ∃ (D' : Nat → DRoot) (Sh' : Nat → Prop) (d : t.dec), t.er d = y ∧ v = mkw t.agg (t.cs d) ∧ (∀ b, Sh b → Sh' b) ∧ Keeps w w Sh Sh' (app ws R) (app ws' R) D D' ∧ RelF C ⟨T, app ws' R⟩ D' Sh' (⟨t, d⟩ :: F) a w := by
    intro h
    rw [Prog.go_bind] at h
    cases hq : (takeQ t x ws).go R with
    | none => rw [hq] at h; cases h
    | some q =>
      obtain ⟨u, ws1⟩ := q
      rw [hq] at h
      simp only [Prog.go] at h
      cases ht : toT u t with
      | none => rw [ht] at h; cases h
      | some y' =>
        rw [ht] at h; cases h
        obtain ⟨D1, Sh1, z, hz, hvv, _, hs1, K1, F1⟩ := takeQ_ok hq hF hv
        subst hz
        obtain ⟨hl, hy⟩ := toT_some ht
        obtain ⟨Sh2, d', e1, e2, hs2, K2, F2⟩ := F1.low (t' := t) hl
        refine ⟨D1, Sh2, d', e1.trans hy.symm, ?_, fun b hb => hs2 b (hs1 b hb), K1.trans K2, F2⟩
        rw [hvv, e2]
        have : z.er.t.agg = t.agg := Ty.agg_same (lowB_shr hl)
        rw [this]
  unfold takeTo at h
  split at h
  · rename_i o e te
    cases h
    cases hv with
    | intro cs hv =>
      obtain ⟨hc, hv⟩ := hv
      cases hc
      cases o with
      | true => exact ⟨D, Sh, ((none, 0), []), rfl, hv, fun _ h => h, Keeps.grow (fun _ _ => rfl), hF.free (.inl ⟨rfl, rfl⟩) rfl⟩
      | false =>
        refine ⟨D, Sh, ((none, 0), []), rfl, hv, fun _ h => h, Keeps.grow (fun _ _ => rfl), hF.free (v := ⟨.sl false e te, ((none, 0), [])⟩) ?_ rfl⟩
        exact ⟨none, 0, rfl, Nat.le_refl _, Nat.zero_le _, fun i x hx => by cases hx⟩
  · exact std h
end
end Go.Proofs.Ytabjfkongckhaaa.Vm
