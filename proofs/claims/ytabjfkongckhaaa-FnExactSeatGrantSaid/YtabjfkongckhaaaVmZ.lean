/- Calls, the caller's side: joined. -/
import Derived.Test.YtabjfkongckhaaaVmY
namespace Go.Proofs.Ytabjfkongckhaaa.Vm
open Go Go.RowKit
set_option linter.unusedVariables false

section
variable {C : Ctx} {T : Nat → AV} {R : Nat → Option Root} {D : Nat → DRoot} {Sh Sh' : Nat → Prop} {F : List DV} {a : Act} {w w' : World}
theorem callP_ok {c : Con} {args : List AV} {vs : List Value} {dst : Option Tmp} {res : Res} (hptr : ptrFree c) (h : (callP c args dst).go R = some res) (hR : Rel C ⟨T, R⟩ D Sh a w) (hv : AVRs w Sh R D args vs) :
    ∃ (x : argsT c.ks) (y : ansT c.rk c.ks) (zs : List DRoot) (Sh0 : Nat → Prop), c.fn x = some y ∧ (∀ b, Sh0 b → b < w.heap.size) ∧ ArgsOK w Sh0 c.ks x vs zs ∧ (feet zs).Nodup ∧ (∀ b ∈ feet zs, ¬ Sh0 b ∧ b < w.heap.size) ∧
      ∀ v w' Sh' rs bs, Left w Sh0 (fun b => b ∈ feet zs) w' Sh' (feet rs ++ feet bs) → ResOK w' Sh' c.rk (cutA c.rk.tys (backs c.ks) y).1 v rs → BackOK w' Sh' c.ks zs (cutA c.rk.tys (backs c.ks) y).2 bs →
        ∃ D' Sh'', Rel C ⟨T, app res.ws R⟩ D' Sh'' a w' ∧ AVR w' Sh'' (app res.ws R) D' res.av v := by
  unfold callP at h
  rw [Prog.go_bind] at h
  cases h1 : (preP (strictC c) c.ks args []).go R with
  | none => rw [h1] at h; cases h
  | some q =>
    obtain ⟨y0, ws1⟩ := q
    rw [h1] at h
    simp only at h
    rw [Prog.go_bind] at h
    cases h2 : (argsP c.ks y0 args ws1).go R with
    | none => rw [h2] at h; cases h
    | some q =>
      obtain ⟨x, tg, ids⟩ := q
      rw [h2] at h
      simp only at h
      cases ht : (tgtOk c ws1 ids tg && (!strictC c || ids.isEmpty)) with
      | false => rw [ht] at h; cases h
      | true =>
        rw [ht] at h
        simp only [cond_true] at h
        rw [Bool.and_eq_true] at ht
        obtain ⟨ht, hstr⟩ := ht
        cases hy : c.fn x with
        | none => rw [hy] at h; cases h
        | some y =>
          rw [hy] at h
          simp only [Prog.go] at h
          rw [Prog.go_bind] at h
          cases h3 : (backP tg (cutA c.rk.tys (backs c.ks) y).2 ws1).go R with
          | none => rw [h3] at h; cases h
          | some ws2 =>
            rw [h3] at h
            simp only at h
            obtain ⟨D1, Sh1, zs0, P1, s1, K1, F1⟩ := preP_ok h1 hR.F hv
            let Sh0 : Nat → Prop := fun b => Sh1 b ∨ lentIn (app ws1 R) D1 ids b
            obtain ⟨zs, A, TG, H⟩ := argsP_ok F1.rel (Sh' := Sh0) (fun b hb => .inl hb) h2 (fun b hb => .inr hb) P1 (hv.mono K1) (fun v hv => F1.fok v (List.mem_append_left _ hv))
            rw [List.append_nil, ← H] at F1
            have hp := feet_perm A
            have hsl1 : ∀ b, Sh1 b → b < w.heap.size := fun b hb => (F1.rel.shn b hb).2
            have hsl0 : ∀ b, Sh0 b → b < w.heap.size := by
              intro b hb
              rcases hb with hb | ⟨id, r, _, hr, hm⟩
              · exact hsl1 b hb
              · exact (F1.rel.fresh id r hr b hm).2.1
            have hst : strictC c = true → ∀ b, Sh0 b → Sh1 b := by
              intro e b hb
              rw [e] at hstr
              have : ids = [] := by simpa using hstr
              subst this
              rcases hb with hb | ⟨id, r, hm, _⟩
              · exact hb
              · cases hm
            have hF0 : ∀ b ∈ (hands c.ks zs).flatMap DV.foot, ¬ Sh0 b ∧ b < w.heap.size := by
              intro b hb
              obtain ⟨g1, g2, g3, g4⟩ := F1.fdis b hb
              refine ⟨fun hs => ?_, g3⟩
              rcases hs with hs | ⟨id, r, _, hr, hm⟩
              · exact g2 hs
              · exact g1 id r hr hm
            have hroot0 : ∀ id r, app ws1 R id = some r → id ∉ ids → ∀ b ∈ (D1 id).foot, ¬ Sh0 b ∧ b < w.heap.size := by
              intro id r hr hid b hb
              obtain ⟨g1, g2, _⟩ := F1.rel.fresh id r hr b hb
              refine ⟨fun hs => ?_, g2⟩
              rcases hs with hs | ⟨id', r', hi, hr', hm⟩
              · exact g1 hs
              · by_cases e : id = id'
                · subst e; exact hid hi
                · exact F1.rel.dis id id' r r' e hr hr' b hb hm
            have hnot : ∀ id, ids.any (Nat.beq id) = false → id ∉ ids := by
              intro id he hm
              have : ids.any (Nat.beq id) = true := List.any_eq_true.2 ⟨id, hm, by simp⟩
              rw [he] at this; cases this
            -- from here on: what the targets are
            have fin : (extra c.ks zs ++ (hands c.ks zs).flatMap DV.foot).Nodup → (∀ b ∈ extra c.ks zs, ¬ Sh0 b ∧ b < w.heap.size) →
                (∀ v w' Sh' rs bs, Left w Sh0 (fun b => b ∈ feet zs) w' Sh' (feet rs ++ feet bs) → ResOK w' Sh' c.rk (cutA c.rk.tys (backs c.ks) y).1 v rs → BackOK w' Sh' c.ks zs (cutA c.rk.tys (backs c.ks) y).2 bs →
                  ∃ D' Sh'', Rel C ⟨T, app res.ws R⟩ D' Sh'' a w' ∧ AVR w' Sh'' (app res.ws R) D' res.av v) →
                ∃ (x : argsT c.ks) (y : ansT c.rk c.ks) (zs : List DRoot) (Sh0 : Nat → Prop), c.fn x = some y ∧ (∀ b, Sh0 b → b < w.heap.size) ∧ ArgsOK w Sh0 c.ks x vs zs ∧ (feet zs).Nodup ∧ (∀ b ∈ feet zs, ¬ Sh0 b ∧ b < w.heap.size) ∧
                  ∀ v w' Sh' rs bs, Left w Sh0 (fun b => b ∈ feet zs) w' Sh' (feet rs ++ feet bs) → ResOK w' Sh' c.rk (cutA c.rk.tys (backs c.ks) y).1 v rs → BackOK w' Sh' c.ks zs (cutA c.rk.tys (backs c.ks) y).2 bs →
                    ∃ D' Sh'', Rel C ⟨T, app res.ws R⟩ D' Sh'' a w' ∧ AVR w' Sh'' (app res.ws R) D' res.av v := by
              intro n1 n2 n3
              refine ⟨x, y, zs, Sh0, hy, hsl0, A, hp.nodup_iff.2 n1, fun b hb => ?_, n3⟩
              rcases List.mem_append.1 (hp.mem_iff.1 hb) with hb | hb
              · exact n2 b hb
              · exact hF0 b hb
            have hmemF : ∀ b, b ∈ feet zs ↔ b ∈ extra c.ks zs ∨ b ∈ (hands c.ks zs).flatMap DV.foot := fun b => by rw [hp.mem_iff, List.mem_append]
            have hshz : ∀ {w' : World} {Sh' : Nat → Prop} {foot : List Nat}, (∀ b ∈ feet zs, ¬ Sh0 b) → Left w Sh0 (fun b => b ∈ feet zs) w' Sh' foot → ∀ b, Sh1 b → w'.heap[b]? = w.heap[b]? := fun hz L b hb => L.block b (hsl1 b hb) (fun hm => hz b hm (.inl hb))
            rcases tg with _ | ⟨tg1, _ | ⟨tg2, tg⟩⟩
            · -- nothing comes back
              obtain ⟨e1, _⟩ := tgt_nil (w := w) (Sh := Sh) TG
              have hws : ws2 = ws1 := by
                cases hcb : (cutA c.rk.tys (backs c.ks) y).2 with
                | nil => rw [hcb] at h3; cases h3; rfl
                | cons _ _ => rw [hcb] at h3; cases h3
              subst hws
              refine fin (by rw [e1]; exact F1.fnd) (by rw [e1]; intro b hb; cases hb) (fun v w' Sh' rs bs L hr hb => ?_)
              obtain ⟨_, hbs⟩ := (tgt_nil (w := w') (Sh := Sh') TG).2 _ _ hb
              subst hbs
              have L' := L
              obtain ⟨Sh2, q1, q2, q3, q4, q5⟩ := after_call L hr hb (fun b hb => .inl hb) hst hsl1
              have hfe : feet rs ++ feet ([] : List DRoot) = feet rs := List.append_nil _
              rw [hfe] at L q3
              have hmem : ∀ b, b ∈ feet zs ↔ b ∈ (hands c.ks zs).flatMap DV.foot := fun b => by rw [hmemF, e1]; simp
              by_cases hpt : ∃ t, c.rk = .ptr t
              · obtain ⟨t, hrk⟩ := hpt
                obtain ⟨ks, rk, cf⟩ := c
                have hrk : rk = .ptr t := hrk
                subst hrk
                obtain ⟨dd, b, g1, g2, g3, g4, rfl⟩ := q4
                have hft : feet [(⟨⟨t, dd⟩, some b, []⟩ : DRoot)] = b :: t.foot dd := List.append_nil _
                rw [hft] at L q3
                cases dst with
                | none => cases h
                | some d =>
                  simp only [landP, getR_go] at h
                  cases hn : app ws2 R d with
                  | some r => rw [hn] at h; cases h
                  | none =>
                    rw [hn] at h; cases h
                    have hsame : ∀ b, Sh1 b → w'.heap[b]? = w.heap[b]? := fun b hb => L.block b (hsl1 b hb) (fun hm => (F1.fdis b ((hmem b).1 hm)).2.1 hb)
                    have her : DV.er ⟨t, dd⟩ = ⟨t, (cutA (RK.ptr t).tys (backs ks) y).1.1⟩ := congrArg (V.mk t) g1
                    have hfoot : DRoot.foot ⟨⟨t, dd⟩, some b, t.cs dd⟩ = b :: t.foot dd := rfl
                    have K : Keeps w w' Sh1 Sh2 (app ws2 R) (upt (app ws2 R) d (some ⟨⟨t, (cutA (RK.ptr t).tys (backs ks) y).1.1⟩, true, [], none, none⟩)) D1 (upt D1 d ⟨⟨t, dd⟩, some b, t.cs dd⟩) := Keeps.add _ _ hsame q1 hn
                    have F2 := F1.both (id := d) (r' := ⟨⟨t, (cutA (RK.ptr t).tys (backs ks) y).1.1⟩, true, [], none, none⟩) (d' := ⟨⟨t, dd⟩, some b, t.cs dd⟩) (F' := []) L.os L.tape L.output L.hsz
                      (fun b hlt _ hm => L.block b hlt (fun hm' => hm ((hmem b).1 hm'))) q1
                      (fun b hb => ⟨by
                        rcases (q2 b hb).1 with h1 | h1 | h1
                        · exact .inl h1
                        · exact .inr (.inl h1)
                        · exact .inr (.inr (.inl ((hmem b).1 h1))), (q2 b hb).2⟩)
                      ⟨her, g2, rfl, fun k hk => by cases hk; exact g3, by rw [hfoot]; exact L.nd, fun _ => rfl, (fun i hi => by cases hi), (fun i hi => by cases hi)⟩
                      (fun v hv => by cases hv) (by rw [hfoot, List.flatMap_nil, List.append_nil]; exact L.nd)
                      (fun k hk => by
                        rw [hfoot, List.flatMap_nil, List.append_nil] at hk
                        refine ⟨q3 k hk, (L.fresh k hk).2.1, ?_⟩
                        rcases (L.fresh k hk).2.2 with h1 | h1
                        · exact .inr (.inr h1)
                        · exact .inr (.inl ((hmem k).1 h1))) K
                    refine ⟨_, Sh2, F2.rel, avr_of_avs ⟨[.pointer (some ⟨b, 0, none⟩)], ⟨_, rfl, _, upt_same _ _ _, Nat.le_refl _, fun _ => ⟨b, 0, ⟨t, dd⟩, ?_, rfl⟩⟩, ?_⟩⟩
                    · rw [upt_same]; rfl
                    · rw [g4]; rfl
              · have hnp : ∀ t, c.rk ≠ .ptr t := fun t e => hpt ⟨t, e⟩
                obtain ⟨f1, f2⟩ := res_plain q4 hnp
                obtain ⟨K2, F2⟩ := F1.turn2 (F' := rs.map (·.dv)) L.os L.tape L.output L.hsz (fun b hlt hm => L.block b hlt (fun hm' => hm ((hmem b).1 hm'))) q1
                  (fun b hb => ⟨by
                    rcases (q2 b hb).1 with h1 | h1 | h1
                    · exact .inl h1
                    · exact .inr (.inl h1)
                    · exact .inr (.inr ((hmem b).1 h1)), (q2 b hb).2⟩) f2 (by rw [← f1]; exact L.nd)
                  (fun b hb => by
                    rw [← f1] at hb
                    refine ⟨q3 b hb, (L.fresh b hb).2.1, ?_⟩
                    rcases (L.fresh b hb).2.2 with h1 | h1
                    · exact .inr h1
                    · exact .inl ((hmem b).1 h1))
                obtain ⟨D3, G1, G2⟩ := land_ok h q4 hnp F2
                exact ⟨D3, Sh2, G1, G2⟩
            · -- one comes back
              have hnp : ∀ t, c.rk ≠ .ptr t := fun t e => by
                have := tgt_backs TG (hptr t e)
                cases this
              rcases tg1 with id | ⟨id, p⟩
              · obtain ⟨r, b, e1, e2, e3, _⟩ := tgt_root (w := w) (Sh := Sh) TG
                have hid : id ∉ ids := by
                  have ht : (disj ids (wrIds ws1) && !ids.any (Nat.beq id)) = true := ht
                  rw [Bool.and_eq_true] at ht
                  exact hnot id (by simpa using ht.2)
                have hbr := hroot0 id r e1 hid
                have hbF : ∀ k ∈ (D1 id).foot, k ∉ (hands c.ks zs).flatMap DV.foot := fun k hk hm => (F1.fdis k hm).1 id r e1 hk
                have hmem : ∀ k, k ∈ feet zs ↔ k = b ∨ k ∈ (hands c.ks zs).flatMap DV.foot := fun k => by rw [hmemF, e3]; simp
                refine fin (by rw [e3]; exact List.nodup_cons.2 ⟨hbF b (mem_b e2), F1.fnd⟩) (by rw [e3]; intro k hk; cases List.mem_singleton.1 hk; exact hbr b (mem_b e2)) (fun v w' Sh' rs bs L hr hb => ?_)
                obtain ⟨r2, b2, e1', e2', e3', BK⟩ := tgt_root (w := w') (Sh := Sh') TG
                obtain ⟨Sh2, q1, q2, q3, q4, q5⟩ := after_call L hr hb (fun b hb => .inl hb) hst hsl1
                obtain ⟨r2, b2, e1', e2', e3', BK⟩ := tgt_root (w := w') (Sh := Sh2) TG
                rw [e1] at e1'; cases e1'
                rw [e2] at e2'; cases e2'
                obtain ⟨yv, b0, hY, rfl, k1, k2, k3, k4⟩ := BK _ _ q5
                rw [hY] at h3
                simp only [backP, getR_go, e1] at h3
                cases hlk : like yv.t r.v.t with
                | false => rw [hlk] at h3; cases h3
                | true =>
                  rw [hlk] at h3
                  cases h3
                  obtain ⟨f1, f2⟩ := res_plain q4 hnp
                  have RR := F1.rel.root id r e1
                  have hfb : feet [b0] = b :: b0.dv.foot := by
                    show DRoot.foot b0 ++ [] = _
                    rw [List.append_nil, DRoot.foot, k1]; rfl
                  rw [hfb] at L q3
                  have hfoot : DRoot.foot ⟨b0.dv, some b, (D1 id).c0⟩ = b :: b0.dv.foot := rfl
                  have hsame : ∀ k, Sh1 k → w'.heap[k]? = w.heap[k]? := fun k hk => L.block k (hsl1 k hk) (fun hm => by
                    rcases (hmem k).1 hm with rfl | hm
                    · exact (hbr k (mem_b e2)).1 (.inl hk)
                    · exact (F1.fdis k hm).2.1 hk)
                  have K : Keeps w w' Sh1 Sh2 (app ws1 R) (upt (app ws1 R) id (some (stored r [] yv r.v yv))) D1 (upt D1 id ⟨b0.dv, some b, (D1 id).c0⟩) :=
                    Keeps.store (q := []) (uq := (D1 id).dv) (n := b0.dv) (dv' := b0.dv) ⟨b0.dv, some b, (D1 id).c0⟩ hsame q1 e1 rfl rfl (by
                      have g1 : b0.dv.t = yv.t := by rw [← k2]; rfl
                      have g2 : (D1 id).dv.t = r.v.t := by rw [← RR.er]; rfl
                      rw [g1, g2]; exact hlk) rfl e2.symm (by
                      have g1 : b0.dv.t = yv.t := by rw [← k2]; rfl
                      have g2 : (D1 id).dv.t = r.v.t := by rw [← RR.er]; rfl
                      rw [g1, g2]; rfl)
                  have F2 := F1.both (id := id) (r' := stored r [] yv r.v yv) (d' := ⟨b0.dv, some b, (D1 id).c0⟩) (F' := rs.map (·.dv)) L.os L.tape L.output L.hsz
                    (fun k hlt hk hm => L.block k hlt (fun hm' => by
                      rcases (hmem k).1 hm' with rfl | hm'
                      · exact hk r e1 (mem_b e2)
                      · exact hm hm')) q1
                    (fun k hk => ⟨by
                      rcases (q2 k hk).1 with h1 | h1 | h1
                      · exact .inl h1
                      · exact .inr (.inl h1)
                      · rcases (hmem k).1 h1 with rfl | h1
                        · exact .inr (.inr (.inr ⟨r, e1, mem_b e2⟩))
                        · exact .inr (.inr (.inl h1)), (q2 k hk).2⟩)
                    ⟨k2, k3, by show true = r.blk; rw [← RR.blk, e2]; rfl, (fun k hk => by cases hk; exact k4), by rw [hfoot]; exact (List.nodup_append.1 L.nd).2.1, (fun hs => by
                      have hs : since ((depth [], !(yv.t.flat && r.v.t.flat)) :: r.log) 0 1 false = true := hs
                      rw [show ((depth [], !(yv.t.flat && r.v.t.flat)) :: r.log) = [(depth [], !(yv.t.flat && r.v.t.flat))] ++ r.log from rfl, since_append (Nat.zero_le _), Bool.and_eq_true] at hs
                      rcases bad1 hs.1 with hb1 | hb1
                      · simp at hb1
                      · have hb1 : 1 ≤ 0 := hb1
                        omega), RR.org, fun i hi => by
                      have := RR.pin i hi
                      rw [e2] at this; exact this⟩
                    f2 (by rw [hfoot, ← f1]; exact (List.perm_append_comm.nodup_iff).1 L.nd)
                    (fun k hk => by
                      rw [hfoot, ← f1] at hk
                      have hk : k ∈ feet rs ++ (b :: b0.dv.foot) := List.perm_append_comm.mem_iff.1 hk
                      refine ⟨q3 k hk, (L.fresh k hk).2.1, ?_⟩
                      rcases (L.fresh k hk).2.2 with h1 | h1
                      · exact .inr (.inr h1)
                      · rcases (hmem k).1 h1 with rfl | h1
                        · exact .inl ⟨r, e1, mem_b e2⟩
                        · exact .inr (.inl h1)) K
                  obtain ⟨D3, G1, G2⟩ := land_ok (ws := (id, stored r [] yv r.v yv) :: ws1) h q4 hnp F2
                  exact ⟨D3, Sh2, G1, G2⟩
              · obtain ⟨r, bb, u, e1, e2, e3, _⟩ := tgt_at (w := w) (Sh := Sh) TG
                have hid : id ∉ ids := by
                  have ht : (!ids.any (Nat.beq id) && (tyW c.rk.tys).flat && ws1.isEmpty) = true := ht
                  rw [Bool.and_eq_true, Bool.and_eq_true] at ht
                  exact hnot id (by simpa using ht.1.1)
                have hbr := hroot0 id r e1 hid
                have hbF : ∀ k ∈ (D1 id).foot, k ∉ (hands c.ks zs).flatMap DV.foot := fun k hk hm => (F1.fdis k hm).1 id r e1 hk
                have hmem : ∀ k, k ∈ feet zs ↔ k ∈ u.foot ∨ k ∈ (hands c.ks zs).flatMap DV.foot := fun k => by rw [hmemF, e3]
                have hui : ∀ k ∈ u.foot, k ∈ (D1 id).foot := fun k hk => mem_dv (look_foot e2 k hk)
                have RR := F1.rel.root id r e1
                obtain ⟨n1, n2, n3⟩ := List.nodup_append.1 (show ((D1 id).b.toList ++ (D1 id).dv.foot).Nodup from RR.nd)
                obtain ⟨L1, L2, p1, p2⟩ := foot_put e2
                have hnu : (L1 ++ u.foot ++ L2).Nodup := p1 ▸ n2
                refine fin (by rw [e3]; exact List.nodup_append.2 ⟨nodup_mid hnu, F1.fnd, fun k hk m hm e => hbF k (hui k hk) (e ▸ hm)⟩) (by rw [e3]; intro k hk; exact hbr k (hui k hk)) (fun v w' Sh' rs bs L hr hb => ?_)
                obtain ⟨Sh2, q1, q2, q3, q4, q5⟩ := after_call L hr hb (fun b hb => .inl hb) hst hsl1
                obtain ⟨r2, bb2, u2, e1', e2', _, BK⟩ := tgt_at (w := w') (Sh := Sh2) TG
                rw [e1] at e1'; cases e1'
                rw [e2] at e2'; cases e2'
                obtain ⟨yv, b0, hY, rfl, k1, k2, k3, k4, k5⟩ := BK _ _ q5
                rw [hY] at h3
                simp only [backP, getR_go, e1] at h3
                cases hpv : putV r.v p yv with
                | none => rw [hpv] at h3; cases h3
                | some v' =>
                  rw [hpv] at h3
                  cases h3
                  obtain ⟨f1, f2⟩ := res_plain q4 hnp
                  obtain ⟨dv', hd, hvv⟩ := er_put e2 (n := b0.dv) (v' := v') (by rw [RR.er, k2]; exact hpv)
                  have p3 := p2 _ _ hd
                  have hfb : feet [b0] = b0.dv.foot := by
                    show DRoot.foot b0 ++ [] = _
                    rw [List.append_nil, DRoot.foot, k1]; rfl
                  rw [hfb] at L q3
                  have hsame : ∀ k, Sh1 k → w'.heap[k]? = w.heap[k]? := fun k hk => L.block k (hsl1 k hk) (fun hm => by
                    rcases (hmem k).1 hm with hm | hm
                    · exact (hbr k (hui k hm)).1 (.inl hk)
                    · exact (F1.fdis k hm).2.1 hk)
                  have hin : ∀ k ∈ (D1 id).foot, k ∉ u.foot → w'.heap[k]? = w.heap[k]? := fun k hk hku => L.block k (hbr k hk).2 (fun hm => by
                    rcases (hmem k).1 hm with hm | hm
                    · exact hku hm
                    · exact hbF k hk hm)
                  have hbn : ∀ k o, (D1 id).base = some (k, o) → k ∉ (D1 id).dv.foot := fun k o hk hm => n3 k (by rw [(base_some hk).1]; exact List.mem_singleton.2 rfl) k hm rfl
                  obtain ⟨i1, i2⟩ := upd (w := w) (w' := w') (Sh := Sh1) (Sh' := Sh2) hsame q1 e2 hd RR.ok n2 (fun k o hk => by
                      obtain ⟨g1, rfl⟩ := base_some hk
                      exact ⟨RR.loc k g1, hbn k 0 hk⟩) (by rw [k4]) k3
                    (fun k hk hku _ => hin k (mem_dv hk) hku) (fun k o hk _ => hin k (mem_b (base_some hk).1) (fun hm => hbn k o hk (look_foot e2 k hm)))
                    (fun k o hk row el hrow => by
                      subst hk
                      have hkr : k ∈ (D1 id).foot := by
                        rcases look_block e2 k o rfl with ⟨o', ho'⟩ | hm
                        · exact mem_b (base_some ho').1
                        · exact mem_dv hm
                      have hku := look_notin e2 n2 hbn k o rfl
                      obtain ⟨_, _, hloc⟩ := F1.rel.look e1 e2
                      obtain ⟨row0, e0, h0, hc0⟩ := hloc k o rfl
                      obtain ⟨rfl, rfl⟩ := hrow.uniq h0
                      exact ⟨row, hrow.frame (hin k hkr hku), rfl, fun _ _ => rfl, fun j v hj => hc0 j v (by rw [← k5]; exact hj)⟩)
                  have hfoot : DRoot.foot ⟨dv', (D1 id).b, (D1 id).c0⟩ = (D1 id).b.toList ++ (L1 ++ b0.dv.foot ++ L2) := by rw [← p3]; rfl
                  have K : Keeps w w' Sh1 Sh2 (app ws1 R) (upt (app ws1 R) id (some (rowed r p v'))) D1 (upt D1 id ⟨dv', (D1 id).b, (D1 id).c0⟩) :=
                    Keeps.rows (q := p) (uq := u) (n := b0.dv) (dv' := dv') ⟨dv', (D1 id).b, (D1 id).c0⟩ hsame q1 e1 e2 hd k4 k5 rfl rfl rfl
                  -- what is new or of the place itself lies apart from the rest of the root
                  have hnew : ∀ k ∈ feet rs ++ b0.dv.foot, k ∈ (D1 id).foot → k ∈ u.foot := by
                    intro k hk hkd
                    rcases (L.fresh k hk).2.2 with h1 | h1
                    · have := (hbr k hkd).2; omega
                    · rcases (hmem k).1 h1 with h1 | h1
                      · exact h1
                      · exact absurd h1 (hbF k hkd)
                  have hbu : ∀ k ∈ (D1 id).b.toList, k ∈ (D1 id).foot ∧ k ∉ u.foot := fun k hk => ⟨List.mem_append_left _ hk, fun hm => n3 k hk k (look_foot e2 k hm) rfl⟩
                  have hnu1 := List.nodup_append.1 hnu
                  have hnu2 := List.nodup_append.1 hnu1.1
                  have hL1 : ∀ k ∈ L1, k ∈ (D1 id).foot ∧ k ∉ u.foot := fun k hk => ⟨mem_dv (by rw [p1]; exact List.mem_append_left _ (List.mem_append_left _ hk)), fun hm => hnu2.2.2 k hk k hm rfl⟩
                  have hL2 : ∀ k ∈ L2, k ∈ (D1 id).foot ∧ k ∉ u.foot := fun k hk => ⟨mem_dv (by rw [p1]; exact List.mem_append_right _ hk), fun hm => hnu1.2.2 k (List.mem_append_right _ hm) k hk rfl⟩
                  have hrsn := List.nodup_append.1 L.nd
                  have hdn : ((D1 id).b.toList ++ (L1 ++ b0.dv.foot ++ L2)).Nodup := by
                    have hx : ∀ k ∈ b0.dv.foot, k ∈ (D1 id).foot → k ∈ u.foot := fun k hk => hnew k (List.mem_append_right _ hk)
                    refine List.nodup_append.2 ⟨n1, List.nodup_append.2 ⟨List.nodup_append.2 ⟨hnu2.1, hrsn.2.1, fun k hk m hm e => ?_⟩, hnu1.2.1, fun k hk m hm e => ?_⟩, fun k hk m hm e => ?_⟩
                    · subst e; exact (hL1 k hk).2 (hx k hm (hL1 k hk).1)
                    · subst e
                      rcases List.mem_append.1 hk with hk | hk
                      · exact hnu1.2.2 k (List.mem_append_left _ hk) k hm rfl
                      · exact (hL2 k hm).2 (hx k hk (hL2 k hm).1)
                    · subst e
                      rcases List.mem_append.1 hm with hm | hm
                      · rcases List.mem_append.1 hm with hm | hm
                        · exact n3 k hk k (by rw [p1]; exact List.mem_append_left _ (List.mem_append_left _ hm)) rfl
                        · exact (hbu k hk).2 (hx k hm (hbu k hk).1)
                      · exact n3 k hk k (by rw [p1]; exact List.mem_append_right _ hm) rfl
                  have hmemd : ∀ k ∈ (D1 id).b.toList ++ (L1 ++ b0.dv.foot ++ L2), ((k ∈ (D1 id).foot ∧ k ∉ u.foot) ∨ k ∈ b0.dv.foot) := by
                    intro k hk
                    rcases List.mem_append.1 hk with hk | hk
                    · exact .inl (hbu k hk)
                    · rcases List.mem_append.1 hk with hk | hk
                      · rcases List.mem_append.1 hk with hk | hk
                        · exact .inl (hL1 k hk)
                        · exact .inr hk
                      · exact .inl (hL2 k hk)
                  have hold : ∀ k, k ∈ (D1 id).foot → k ∉ u.foot → ¬ Sh2 k := by
                    intro k hk hku h2
                    rcases (q2 k h2).1 with h1 | h1 | h1
                    · exact (hbr k hk).1 (.inl h1)
                    · have := (hbr k hk).2; omega
                    · rcases (hmem k).1 h1 with h1 | h1
                      · exact hku h1
                      · exact hbF k hk h1
                  have hfr : ∀ k ∈ feet rs ++ b0.dv.foot, (∃ r, app ws1 R id = some r ∧ k ∈ (D1 id).foot) ∨ k ∈ (hands c.ks zs).flatMap DV.foot ∨ w.heap.size ≤ k := by
                    intro k hk
                    rcases (L.fresh k hk).2.2 with h1 | h1
                    · exact .inr (.inr h1)
                    · rcases (hmem k).1 h1 with h1 | h1
                      · exact .inl ⟨r, e1, hui k h1⟩
                      · exact .inr (.inl h1)
                  have F2 := F1.both (id := id) (r' := rowed r p v') (d' := ⟨dv', (D1 id).b, (D1 id).c0⟩) (F' := rs.map (·.dv)) L.os L.tape L.output L.hsz
                    (fun k hlt hk hm => L.block k hlt (fun hm' => by
                      rcases (hmem k).1 hm' with hm' | hm'
                      · exact hk r e1 (hui k hm')
                      · exact hm hm')) q1
                    (fun k hk => ⟨by
                      rcases (q2 k hk).1 with h1 | h1 | h1
                      · exact .inl h1
                      · exact .inr (.inl h1)
                      · rcases (hmem k).1 h1 with h1 | h1
                        · exact .inr (.inr (.inr ⟨r, e1, hui k h1⟩))
                        · exact .inr (.inr (.inl h1)), (q2 k hk).2⟩)
                    ⟨hvv, i1, RR.blk, (fun k hk => by
                      obtain ⟨row, el, hrow, hc⟩ := RR.loc k hk
                      obtain ⟨row', hr', _, _, hin'⟩ := i2 k 0 (base_of hk) row el hrow
                      exact ⟨row', el, hr', hin'⟩), by rw [hfoot]; exact hdn, (fun hs => by
                      have hs : since ([(depth p + 1, true)] ++ r.log) 0 1 false = true := hs
                      rw [since_append (Nat.zero_le _), Bool.and_eq_true] at hs
                      obtain ⟨u', g1, _, g3⟩ := (keep_rows b0.dv p _ _ _ _ _ e2 hd k4 k5 [] none none _ rfl).2 (.inr (by show 0 < depth p + 1; omega))
                      cases g1
                      exact g3.trans (RR.top hs.2)), RR.org, RR.pin⟩
                    f2 (by
                      rw [hfoot, ← f1]
                      refine List.nodup_append.2 ⟨hdn, hrsn.1, fun k hk m hm e => ?_⟩
                      subst e
                      rcases hmemd k hk with ⟨g1, g2⟩ | g1
                      · exact g2 (hnew k (List.mem_append_left _ hm) g1)
                      · exact hrsn.2.2 k hm k g1 rfl)
                    (fun k hk => by
                      rw [hfoot, ← f1] at hk
                      rcases List.mem_append.1 hk with hk | hk
                      · rcases hmemd k hk with ⟨g1, g2⟩ | g1
                        · exact ⟨hold k g1 g2, Nat.lt_of_lt_of_le (hbr k g1).2 L.hsz, .inl ⟨r, e1, g1⟩⟩
                        · have hk' : k ∈ feet rs ++ b0.dv.foot := List.mem_append_right _ g1
                          exact ⟨q3 k hk', (L.fresh k hk').2.1, hfr k hk'⟩
                      · have hk' : k ∈ feet rs ++ b0.dv.foot := List.mem_append_left _ hk
                        exact ⟨q3 k hk', (L.fresh k hk').2.1, hfr k hk'⟩) K
                  obtain ⟨D3, G1, G2⟩ := land_ok (ws := (id, rowed r p v') :: ws1) h q4 hnp F2
                  exact ⟨D3, Sh2, G1, G2⟩
            · rcases tg1 with id | ⟨id, p⟩ <;> cases ht

theorem run_enter {P : Program} {f : FuncId} (he : Enters P f) (args : Array Value) (w : World) : (callFunc f args).run P w = .ok (.enter f args) w := by
  obtain ⟨fn, hf, hname, hb⟩ := he
  have h1 : fn.name ≠ "runtime.NumGoroutine" := by simpa using hname
  have h2 : ¬ fn.body = none := by
    intro e; rw [e] at hb; cases hb
  simp [callFunc, hf, h1, h2]
theorem avrs_map (hR : Rel C ⟨T, R⟩ D Sh a w) : ∀ l : List Operand, AVRs w Sh R D (l.map (evalA T)) (l.map a.eval)
  | [] => rfl
  | x :: l => ⟨_, _, rfl, hR.eval x, avrs_map hR l⟩
theorem avrs_append {R : Nat → Option Root} : ∀ {xs ys : List AV} {vs us : List Value}, AVRs w Sh R D xs vs → AVRs w Sh R D ys us → AVRs w Sh R D (xs ++ ys) (vs ++ us)
  | [], ys, vs, us, h, h' => by have h : vs = [] := h; subst h; exact h'
  | x :: xs, ys, vs, us, h, h' => by
    obtain ⟨v, vs', rfl, h1, h2⟩ := h
    exact ⟨v, vs' ++ us, rfl, h1, avrs_append h2 h'⟩
theorem AVC_one {R : Nat → Option Root} : ∀ {x : AV} {cs : List Value}, AVC w Sh R D x cs → capOk x = true → ∃ v, cs = [v] ∧ AVR w Sh R D x v
  | .sh t x, cs, h, hg => by
    have hl := Ty.RR_len h
    have hg : t.agg = false := by simpa [capOk, AV.agg] using hg
    have : t.sz = 1 := by cases t <;> first | rfl | cases hg
    rw [this] at hl
    obtain ⟨v, rfl⟩ := List.length_eq_one_iff.1 hl
    exact ⟨v, rfl, [v], h, by show v = mkw t.agg [v]; rw [hg]; rfl⟩
  | .nilsl, cs, h, hg => ⟨_, h, cs, h, by rw [show cs = _ from h]; rfl⟩
  | .ptr id p s, cs, h, hg => by obtain ⟨v, rfl, hv⟩ := h; exact ⟨v, rfl, [v], ⟨v, rfl, hv⟩, rfl⟩
  | .sptr t x, cs, h, hg => by obtain ⟨b, o, cc, rfl, hv⟩ := h; exact ⟨_, rfl, _, ⟨b, o, cc, rfl, hv⟩, rfl⟩
  | .fn f c, cs, h, hg => by obtain ⟨cc, rfl, hv⟩ := h; exact ⟨_, rfl, _, ⟨cc, rfl, hv⟩, rfl⟩
  | .any, cs, h, hg => h.elim
  | .tup _, cs, h, hg => h.elim
  | .al _ _ _ _, cs, h, hg => by cases hg
  | .cut _ _ _ _ _ _, cs, h, hg => by cases hg
  | .nilf, cs, h, hg => by cases hg
  | .consf _ _, cs, h, hg => by cases hg
theorem cap_ok {R : Nat → Option Root} : ∀ {x : AV} {cs : List Value}, AVC w Sh R D x cs → capGood x = true → AVRs w Sh R D (capL x) cs
  | .nilf, cs, h, hg => h
  | .consf x y, cs, h, hg => by
    obtain ⟨c0, c1, rfl, h0, h1⟩ := h
    have hg : (capOk x && capGood y) = true := hg
    rw [Bool.and_eq_true] at hg
    obtain ⟨v, rfl, hv⟩ := AVC_one h0 hg.1
    exact ⟨v, c1, rfl, hv, cap_ok h1 hg.2⟩
  | .any, cs, h, hg | .sh _ _, cs, h, hg | .nilsl, cs, h, hg | .al _ _ _ _, cs, h, hg | .cut _ _ _ _ _ _, cs, h, hg | .ptr _ _ _, cs, h, hg | .sptr _ _, cs, h, hg | .fn _ _, cs, h, hg | .tup _, cs, h, hg => by cases hg
/-- The other way: single values, as captured. -/
theorem avs_one {R : Nat → Option Root} : ∀ {x : AV} {v : Value}, AVR w Sh R D x v → capOk x = true → AVC w Sh R D x [v]
  | .sh t x, v, h, hg => by
    obtain ⟨cs, hc, rfl⟩ := h
    obtain ⟨u, hu, _⟩ := AVC_one hc hg
    subst hu
    have hg : t.agg = false := by simpa [capOk, AV.agg] using hg
    have e : mkw (AV.sh t x).agg [u] = u := by show mkw t.agg [u] = u; rw [hg]; rfl
    rw [e]; exact hc
  | .nilsl, v, h, hg => by obtain ⟨cs, hc, rfl⟩ := h; rw [show cs = _ from hc]; rfl
  | .ptr id p s, v, h, hg => by
    obtain ⟨cs, ⟨u, hu, hc⟩, hv⟩ := h
    subst hu
    have hv : v = u := hv
    subst hv
    exact ⟨v, rfl, hc⟩
  | .sptr t x, v, h, hg => by obtain ⟨cs, ⟨b, o, cc, rfl, hc⟩, rfl⟩ := h; exact ⟨b, o, cc, rfl, hc⟩
  | .fn f c, v, h, hg => by obtain ⟨cs, ⟨cc, rfl, hc⟩, rfl⟩ := h; exact ⟨cc, rfl, hc⟩
  | .any, v, h, hg => by cases hg
  | .tup _, v, h, hg => by cases hg
  | .al _ _ _ _, v, h, hg => by cases hg
  | .cut _ _ _ _ _ _, v, h, hg => by cases hg
  | .nilf, v, h, hg => by cases hg
  | .consf _ _, v, h, hg => by cases hg
theorem cap_of {R : Nat → Option Root} : ∀ {xs : List AV} {vs : List Value}, AVRs w Sh R D xs vs → capGood (capP xs) = true → AVC w Sh R D (capP xs) vs
  | [], vs, h, hg => h
  | x :: xs, vs, h, hg => by
    obtain ⟨v, vs', rfl, h1, h2⟩ := h
    have hg : (capOk x && capGood (capP xs)) = true := hg
    rw [Bool.and_eq_true] at hg
    exact ⟨[v], vs', rfl, avs_one h1 hg.1, cap_of h2 hg.2⟩
theorem sound_call {K : Cons} {TT : List (TypeId × TRow)} {st : St} (hK : ∀ f key con, K f key = some con → CallOK C.P f con) {o : Oper} {c : Call} {f : Operand} (ho : o.op = .call c) (hc : c.callee = .value f) (hdn : dstOk C.n o.dst = true) {res : Res}
    (h : (opP TT K o (evalA st.tmps)).go st.roots = some res) : Sound C o st res := by
  intro D Sh a w Kn Q hR hKn
  unfold opP at h
  rw [ho] at h
  simp only [hc] at h
  have hf := hR.eval f
  generalize hff : evalA st.tmps f = af at h hf
  cases af with
  | fn g cap =>
    simp only at h
    cases hk : K g (fnKey (c.args.toList.map (evalA st.tmps) ++ capL cap)) with
    | none => rw [hk] at h; cases h
    | some con =>
      rw [hk] at h
      simp only at h
      cases hcg : capGood cap with
      | false => rw [hcg] at h; cases h
      | true =>
        rw [hcg] at h
        simp only [cond_true] at h
        obtain ⟨cs, ⟨cc, rfl, hcc⟩, hfv⟩ := hf
        have hfv : a.eval f = .func (.func g) #[] cc.toArray := hfv
        obtain ⟨hen, hpf, hcall⟩ := hK _ _ _ hk
        have hav := avrs_append (avrs_map (T := st.tmps) hR c.args.toList) (cap_ok hcc hcg)
        obtain ⟨x, y, zs, Sh0, e1, e2, e3, e4, e5, e6⟩ := callP_ok (T := st.tmps) hpf h hR hav
        have hcs := hcall w Sh0 x y _ zs e1 e2 e3 e4 e5
        have hrun : (execOp a.eval o).run C.P w = .ok (.enter g (c.args.toList.map a.eval ++ cc).toArray) w := by
          simp only [execOp, ho, resolve, hc, hfv, Deferred.ofValue, invoke, Sem.run_bind, Sem.run_pure, Result.andThen_ok]
          have he : (#[] ++ Array.map a.eval c.args ++ cc.toArray) = (c.args.toList.map a.eval ++ cc).toArray := by
            apply Array.ext'
            simp
          rw [he]
          exact run_enter hen _ w
        unfold Oper.wp
        rw [hrun]
        refine Calls.mono hcs (fun e w' he => ?_)
        obtain ⟨v, Sh', rs, bs, rfl, g1, g2, g3⟩ := he
        obtain ⟨D', Sh'', r1, r2⟩ := e6 v w' Sh' rs bs g1 g2 g3
        exact hKn D' Sh'' _ w' (Rel.set (st := ⟨st.tmps, app res.ws st.roots⟩) r1 hdn r2)
  | _ => cases h
theorem sound_makeFunc {K : Cons} {TT : List (TypeId × TRow)} {st : St} {o : Oper} {f : FuncId} {fst cap : Array Operand} (ho : o.op = .makeFunc (.func f) fst cap) (hdn : dstOk C.n o.dst = true) {res : Res}
    (h : (opP TT K o (evalA st.tmps)).go st.roots = some res) : Sound C o st res := by
  unfold opP at h
  rw [ho] at h
  simp only at h
  cases hb : (Nat.beq fst.size 0 && capGood (capP (cap.toList.map (evalA st.tmps)))) with
  | false => rw [hb] at h; cases h
  | true =>
    rw [hb] at h
    cases h
    rw [Bool.and_eq_true] at hb
    refine sound_quiet hdn (fun D Sh a w hR => ?_)
    have hav := avrs_map (T := st.tmps) hR cap.toList
    have hc := cap_of hav hb.2
    have hz : fst = #[] := by
      have := Nat.eq_of_beq_eq_true hb.1
      exact Array.eq_empty_of_size_eq_zero this
    refine ⟨.func (.func f) #[] (cap.toList.map a.eval).toArray, ?_, ⟨_, ⟨_, rfl, hc⟩, rfl⟩⟩
    simp only [execOp, ho, Instr.makeFunc, hz, Sem.run_bind, Sem.run_pure, Result.andThen_ok]
    have he : Array.map a.eval cap = (cap.toList.map a.eval).toArray := by
      apply Array.ext'
      simp
    rw [he, Array.map_empty]
end
end Go.Proofs.Ytabjfkongckhaaa.Vm
