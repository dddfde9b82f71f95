-- compact
import Derived.Test.YtipaepbmdooekaaGreatV2
import Derived.Deep.AppendSrc
import Derived.Laws.BytesString
import Derived.Lib.ConvBytes
import Derived.ChangeOld
import Derived.ChangeReads
import Derived.ChangeStays
import Derived.OpenShut
import Derived.SizedLaws
namespace Go.Proofs.YtipaepbmdooekaaGreat.Vm
open Go Go.RowKit
set_option linter.unusedVariables false
section
variable {C : Ctx} {T : Nat -> AV} {R : Nat -> Option Root} {D : Nat -> DRoot} {Sh Sh' : Nat -> Prop} {F : List DV} {a : Act} {w w' : World}
theorem callP_ok {c : Con} {args : List AV} {vs : List Value} {dst : Option Tmp} {res : Res} (hptr : ptrFree c) (h : (callP c args dst).go R = some res) (hR : Rel C ⟨T, R⟩ D Sh a w) (hv : AVRs w Sh R D args vs) :
  ∃ (x : argsT c.ks) (y : ansT c.rk c.ks) (zs : List DRoot) (Sh0 : Nat -> Prop), c.fn x = some y /\ (∀ b, Sh0 b -> b < w.heap.size) /\ ArgsOK w Sh0 c.ks x vs zs /\ (feet zs).Nodup /\ (∀ b ∈ feet zs, ¬ Sh0 b /\ b < w.heap.size) /\
   ∀ v w' Sh' rs bs, Left w Sh0 (fun b => b ∈ feet zs) w' Sh' (feet rs ++ feet bs) -> ResOK w' Sh' c.rk (cutA c.rk.tys (backs c.ks) y).1 v rs -> BackOK w' Sh' c.ks zs (cutA c.rk.tys (backs c.ks) y).2 bs ->
    ∃ D' Sh'', Rel C ⟨T, app res.ws R⟩ D' Sh'' a w' /\ AVR w' Sh'' (app res.ws R) D' res.av v := by
 unfold callP at h
 rw [Prog.go_bind] at h
 cases h1 : (preP (strictC c) c.ks args []).go R with
 | none => rw [h1] at h; cases h
 | some q =>
  obtain ⟨y0, ws1⟩ := q
  rw [h1] at h
  simp only at h
  rw [Prog.go_bind] at h
  cases h2 : (argsP c.ks y0 args ws1).go R with
  | none => rw [h2] at h; cases h
  | some q =>
   obtain ⟨x, tg, ids⟩ := q
   rw [h2] at h
   simp only at h
   cases ht : (tgtOk c ws1 ids tg && (!strictC c || ids.isEmpty)) with
   | false => rw [ht] at h; cases h
   | true =>
    rw [ht] at h
    simp only [cond_true] at h
    rw [Bool.and_eq_true] at ht
    obtain ⟨ht, hstr⟩ := ht
    cases hy : c.fn x with
    | none => rw [hy] at h; cases h
    | some y =>
     rw [hy] at h
     simp only [Prog.go] at h
     rw [Prog.go_bind] at h
     cases h3 : (backP tg (cutA c.rk.tys (backs c.ks) y).2 ws1).go R with
     | none => rw [h3] at h; cases h
     | some ws2 =>
      rw [h3] at h
      simp only at h
      obtain ⟨D1, Sh1, zs0, P1, s1, K1, F1⟩ := preP_ok h1 hR.F hv
      let Sh0 : Nat -> Prop := fun b => Sh1 b \/ lentIn (app ws1 R) D1 ids b
      obtain ⟨zs, A, TG, H⟩ := argsP_ok F1.rel (Sh' := Sh0) (fun b hb => .inl hb) h2 (fun b hb => .inr hb) P1 (hv.mono K1) (fun v hv => F1.fok v (List.mem_append_left _ hv))
      rw [List.append_nil, <- H] at F1
      have hp := feet_perm A
      have hsl1 : ∀ b, Sh1 b -> b < w.heap.size := fun b hb => (F1.rel.shn b hb).2
      have hsl0 : ∀ b, Sh0 b -> b < w.heap.size := by
       intro b hb
       rcases hb with hb | ⟨id, r, _, hr, hm⟩
       ·exact hsl1 b hb
       ·exact (F1.rel.fresh id r hr b hm).2.1
      have hst : strictC c = true -> ∀ b, Sh0 b -> Sh1 b := by
       intro e b hb
       rw [e] at hstr
       have : ids = [] := by simpa using hstr
       subst this
       rcases hb with hb | ⟨id, r, hm, _⟩
       ·exact hb
       ·cases hm
      have hF0 : ∀ b ∈ (hands c.ks zs).flatMap DV.foot, ¬ Sh0 b /\ b < w.heap.size := by
       intro b hb
       obtain ⟨g1, g2, g3, g4⟩ := F1.fdis b hb
       refine ⟨fun hs => ?_, g3⟩
       rcases hs with hs | ⟨id, r, _, hr, hm⟩
       ·exact g2 hs
       ·exact g1 id r hr hm
      have hroot0 : ∀ id r, app ws1 R id = some r -> id ∉ ids -> ∀ b ∈ (D1 id).foot, ¬ Sh0 b /\ b < w.heap.size := by
       intro id r hr hid b hb
       obtain ⟨g1, g2, _⟩ := F1.rel.fresh id r hr b hb
       refine ⟨fun hs => ?_, g2⟩
       rcases hs with hs | ⟨id', r', hi, hr', hm⟩
       ·exact g1 hs
       ·by_cases e : id = id'
        ·subst e; exact hid hi
        ·exact F1.rel.dis id id' r r' e hr hr' b hb hm
      have hnot : ∀ id, ids.any (Nat.beq id) = false -> id ∉ ids := by
       intro id he hm
       have : ids.any (Nat.beq id) = true := List.any_eq_true.2 ⟨id, hm, by simp⟩
       rw [he] at this; cases this
      -- from here on: what the targets are
      have fin : (extra c.ks zs ++ (hands c.ks zs).flatMap DV.foot).Nodup -> (∀ b ∈ extra c.ks zs, ¬ Sh0 b /\ b < w.heap.size) ->
        (∀ v w' Sh' rs bs, Left w Sh0 (fun b => b ∈ feet zs) w' Sh' (feet rs ++ feet bs) -> ResOK w' Sh' c.rk (cutA c.rk.tys (backs c.ks) y).1 v rs -> BackOK w' Sh' c.ks zs (cutA c.rk.tys (backs c.ks) y).2 bs ->
         ∃ D' Sh'', Rel C ⟨T, app res.ws R⟩ D' Sh'' a w' /\ AVR w' Sh'' (app res.ws R) D' res.av v) ->
        ∃ (x : argsT c.ks) (y : ansT c.rk c.ks) (zs : List DRoot) (Sh0 : Nat -> Prop), c.fn x = some y /\ (∀ b, Sh0 b -> b < w.heap.size) /\ ArgsOK w Sh0 c.ks x vs zs /\ (feet zs).Nodup /\ (∀ b ∈ feet zs, ¬ Sh0 b /\ b < w.heap.size) /\
         ∀ v w' Sh' rs bs, Left w Sh0 (fun b => b ∈ feet zs) w' Sh' (feet rs ++ feet bs) -> ResOK w' Sh' c.rk (cutA c.rk.tys (backs c.ks) y).1 v rs -> BackOK w' Sh' c.ks zs (cutA c.rk.tys (backs c.ks) y).2 bs ->
          ∃ D' Sh'', Rel C ⟨T, app res.ws R⟩ D' Sh'' a w' /\ AVR w' Sh'' (app res.ws R) D' res.av v := by
       intro n1 n2 n3
       refine ⟨x, y, zs, Sh0, hy, hsl0, A, hp.nodup_iff.2 n1, fun b hb => ?_, n3⟩
       rcases List.mem_append.1 (hp.mem_iff.1 hb) with hb | hb
       ·exact n2 b hb
       ·exact hF0 b hb
      have hmemF : ∀ b, b ∈ feet zs ↔ b ∈ extra c.ks zs \/ b ∈ (hands c.ks zs).flatMap DV.foot := fun b => by rw [hp.mem_iff, List.mem_append]
      have hshz : ∀ {w' : World} {Sh' : Nat -> Prop} {foot : List Nat}, (∀ b ∈ feet zs, ¬ Sh0 b) -> Left w Sh0 (fun b => b ∈ feet zs) w' Sh' foot -> ∀ b, Sh1 b -> w'.heap[b]? = w.heap[b]? := fun hz L b hb => L.block b (hsl1 b hb) (fun hm => hz b hm (.inl hb))
      rcases tg with _ | ⟨tg1, _ | ⟨tg2, tg⟩⟩
      ·
       obtain ⟨e1, _⟩ := tgt_nil (w := w) (Sh := Sh) TG
       have hws : ws2 = ws1 := by
        cases hcb : (cutA c.rk.tys (backs c.ks) y).2 with
        | nil => rw [hcb] at h3; cases h3; rfl
        | cons _ _ => rw [hcb] at h3; cases h3
       subst hws
       refine fin (by rw [e1]; exact F1.fnd) (by rw [e1]; intro b hb; cases hb) (fun v w' Sh' rs bs L hr hb => ?_)
       obtain ⟨_, hbs⟩ := (tgt_nil (w := w') (Sh := Sh') TG).2 _ _ hb
       subst hbs
       have L' := L
       obtain ⟨Sh2, q1, q2, q3, q4, q5⟩ := after_call L hr hb (fun b hb => .inl hb) hst hsl1
       have hfe : feet rs ++ feet ([] : List DRoot) = feet rs := List.append_nil _
       rw [hfe] at L q3
       have hmem : ∀ b, b ∈ feet zs ↔ b ∈ (hands c.ks zs).flatMap DV.foot := fun b => by rw [hmemF, e1]; simp
       by_cases hpt : ∃ t, c.rk = .ptr t
       ·obtain ⟨t, hrk⟩ := hpt
        obtain ⟨ks, rk, cf⟩ := c
        have hrk : rk = .ptr t := hrk
        subst hrk
        obtain ⟨dd, b, g1, g2, g3, g4, rfl⟩ := q4
        have hft : feet [(⟨⟨t, dd⟩, some b, []⟩ : DRoot)] = b :: t.foot dd := List.append_nil _
        rw [hft] at L q3
        cases dst with
        | none => cases h
        | some d =>
         simp only [landP, getR_go] at h
         cases hn : app ws2 R d with
         | some r => rw [hn] at h; cases h
         | none =>
          rw [hn] at h; cases h
          have hsame : ∀ b, Sh1 b -> w'.heap[b]? = w.heap[b]? := fun b hb => L.block b (hsl1 b hb) (fun hm => (F1.fdis b ((hmem b).1 hm)).2.1 hb)
          have her : DV.er ⟨t, dd⟩ = ⟨t, (cutA (RK.ptr t).tys (backs ks) y).1.1⟩ := congrArg (V.mk t) g1
          have hfoot : DRoot.foot ⟨⟨t, dd⟩, some b, t.cs dd⟩ = b :: t.foot dd := rfl
          have K : Keeps w w' Sh1 Sh2 (app ws2 R) (upt (app ws2 R) d (some ⟨⟨t, (cutA (RK.ptr t).tys (backs ks) y).1.1⟩, true, [], none, none⟩)) D1 (upt D1 d ⟨⟨t, dd⟩, some b, t.cs dd⟩) := Keeps.add _ _ hsame q1 hn
          have F2 := F1.both (id := d) (r' := ⟨⟨t, (cutA (RK.ptr t).tys (backs ks) y).1.1⟩, true, [], none, none⟩) (d' := ⟨⟨t, dd⟩, some b, t.cs dd⟩) (F' := []) L.os L.tape L.output L.hsz
           (fun b hlt _ hm => L.block b hlt (fun hm' => hm ((hmem b).1 hm'))) q1
           (fun b hb => ⟨by
            rcases (q2 b hb).1 with h1 | h1 | h1
            ·exact .inl h1
            ·exact .inr (.inl h1)
            ·exact .inr (.inr (.inl ((hmem b).1 h1))), (q2 b hb).2⟩)
           ⟨her, g2, rfl, fun k hk => by cases hk; exact g3, by rw [hfoot]; exact L.nd, fun _ => rfl, (fun i hi => by cases hi), (fun i hi => by cases hi)⟩
           (fun v hv => by cases hv) (by rw [hfoot, List.flatMap_nil, List.append_nil]; exact L.nd)
           (fun k hk => by
            rw [hfoot, List.flatMap_nil, List.append_nil] at hk
            refine ⟨q3 k hk, (L.fresh k hk).2.1, ?_⟩
            rcases (L.fresh k hk).2.2 with h1 | h1
            ·exact .inr (.inr h1)
            ·exact .inr (.inl ((hmem k).1 h1))) K
          refine ⟨_, Sh2, F2.rel, avr_of_avs ⟨[.pointer (some ⟨b, 0, none⟩)], ⟨_, rfl, _, upt_same _ _ _, Nat.le_refl _, fun _ => ⟨b, 0, ⟨t, dd⟩, ?_, rfl⟩⟩, ?_⟩⟩
          ·rw [upt_same]; rfl
          ·rw [g4]; rfl
       ·have hnp : ∀ t, c.rk ≠ .ptr t := fun t e => hpt ⟨t, e⟩
        obtain ⟨f1, f2⟩ := res_plain q4 hnp
        obtain ⟨K2, F2⟩ := F1.turn2 (F' := rs.map (·.dv)) L.os L.tape L.output L.hsz (fun b hlt hm => L.block b hlt (fun hm' => hm ((hmem b).1 hm'))) q1
         (fun b hb => ⟨by
          rcases (q2 b hb).1 with h1 | h1 | h1
          ·exact .inl h1
          ·exact .inr (.inl h1)
          ·exact .inr (.inr ((hmem b).1 h1)), (q2 b hb).2⟩) f2 (by rw [<- f1]; exact L.nd)
         (fun b hb => by
          rw [<- f1] at hb
          refine ⟨q3 b hb, (L.fresh b hb).2.1, ?_⟩
          rcases (L.fresh b hb).2.2 with h1 | h1
          ·exact .inr h1
          ·exact .inl ((hmem b).1 h1))
        obtain ⟨D3, G1, G2⟩ := land_ok h q4 hnp F2
        exact ⟨D3, Sh2, G1, G2⟩
      ·
       have hnp : ∀ t, c.rk ≠ .ptr t := fun t e => by
        have := tgt_backs TG (hptr t e)
        cases this
       rcases tg1 with id | ⟨id, p⟩
       ·obtain ⟨r, b, e1, e2, e3, _⟩ := tgt_root (w := w) (Sh := Sh) TG
        have hid : id ∉ ids := by
         have ht : (disj ids (wrIds ws1) && !ids.any (Nat.beq id)) = true := ht
         rw [Bool.and_eq_true] at ht
         exact hnot id (by simpa using ht.2)
        have hbr := hroot0 id r e1 hid
        have hbF : ∀ k ∈ (D1 id).foot, k ∉ (hands c.ks zs).flatMap DV.foot := fun k hk hm => (F1.fdis k hm).1 id r e1 hk
        have hmem : ∀ k, k ∈ feet zs ↔ k = b \/ k ∈ (hands c.ks zs).flatMap DV.foot := fun k => by rw [hmemF, e3]; simp
        refine fin (by rw [e3]; exact List.nodup_cons.2 ⟨hbF b (mem_b e2), F1.fnd⟩) (by rw [e3]; intro k hk; cases List.mem_singleton.1 hk; exact hbr b (mem_b e2)) (fun v w' Sh' rs bs L hr hb => ?_)
        obtain ⟨r2, b2, e1', e2', e3', BK⟩ := tgt_root (w := w') (Sh := Sh') TG
        obtain ⟨Sh2, q1, q2, q3, q4, q5⟩ := after_call L hr hb (fun b hb => .inl hb) hst hsl1
        obtain ⟨r2, b2, e1', e2', e3', BK⟩ := tgt_root (w := w') (Sh := Sh2) TG
        rw [e1] at e1'; cases e1'
        rw [e2] at e2'; cases e2'
        obtain ⟨yv, b0, hY, rfl, k1, k2, k3, k4⟩ := BK _ _ q5
        rw [hY] at h3
        simp only [backP, getR_go, e1] at h3
        cases hlk : like yv.t r.v.t with
        | false => rw [hlk] at h3; cases h3
        | true =>
         rw [hlk] at h3
         cases h3
         obtain ⟨f1, f2⟩ := res_plain q4 hnp
         have RR := F1.rel.root id r e1
         have hfb : feet [b0] = b :: b0.dv.foot := by
          show DRoot.foot b0 ++ [] = _
          rw [List.append_nil, DRoot.foot, k1]; rfl
         rw [hfb] at L q3
         have hfoot : DRoot.foot ⟨b0.dv, some b, (D1 id).c0⟩ = b :: b0.dv.foot := rfl
         have hsame : ∀ k, Sh1 k -> w'.heap[k]? = w.heap[k]? := fun k hk => L.block k (hsl1 k hk) (fun hm => by
          rcases (hmem k).1 hm with rfl | hm
          ·exact (hbr k (mem_b e2)).1 (.inl hk)
          ·exact (F1.fdis k hm).2.1 hk)
         have K : Keeps w w' Sh1 Sh2 (app ws1 R) (upt (app ws1 R) id (some (stored r [] yv r.v yv))) D1 (upt D1 id ⟨b0.dv, some b, (D1 id).c0⟩) :=
          Keeps.store (q := []) (uq := (D1 id).dv) (n := b0.dv) (dv' := b0.dv) ⟨b0.dv, some b, (D1 id).c0⟩ hsame q1 e1 rfl rfl (by
           have g1 : b0.dv.t = yv.t := by rw [<- k2]; rfl
           have g2 : (D1 id).dv.t = r.v.t := by rw [<- RR.er]; rfl
           rw [g1, g2]; exact hlk) rfl e2.symm (by
           have g1 : b0.dv.t = yv.t := by rw [<- k2]; rfl
           have g2 : (D1 id).dv.t = r.v.t := by rw [<- RR.er]; rfl
           rw [g1, g2]; rfl)
         have F2 := F1.both (id := id) (r' := stored r [] yv r.v yv) (d' := ⟨b0.dv, some b, (D1 id).c0⟩) (F' := rs.map (·.dv)) L.os L.tape L.output L.hsz
          (fun k hlt hk hm => L.block k hlt (fun hm' => by
           rcases (hmem k).1 hm' with rfl | hm'
           ·exact hk r e1 (mem_b e2)
           ·exact hm hm')) q1
          (fun k hk => ⟨by
           rcases (q2 k hk).1 with h1 | h1 | h1
           ·exact .inl h1
           ·exact .inr (.inl h1)
           ·rcases (hmem k).1 h1 with rfl | h1
            ·exact .inr (.inr (.inr ⟨r, e1, mem_b e2⟩))
            ·exact .inr (.inr (.inl h1)), (q2 k hk).2⟩)
          ⟨k2, k3, by show true = r.blk; rw [<- RR.blk, e2]; rfl, (fun k hk => by cases hk; exact k4), by rw [hfoot]; exact (List.nodup_append.1 L.nd).2.1, (fun hs => by
           have hs : since ((depth [], !(yv.t.flat && r.v.t.flat)) :: r.log) 0 1 false = true := hs
           rw [show ((depth [], !(yv.t.flat && r.v.t.flat)) :: r.log) = [(depth [], !(yv.t.flat && r.v.t.flat))] ++ r.log from rfl, since_append (Nat.zero_le _), Bool.and_eq_true] at hs
           rcases bad1 hs.1 with hb1 | hb1
           ·simp at hb1
           ·have hb1 : 1 <= 0 := hb1
            omega), RR.org, fun i hi => by
           have := RR.pin i hi
           rw [e2] at this; exact this⟩
          f2 (by rw [hfoot, <- f1]; exact (List.perm_append_comm.nodup_iff).1 L.nd)
          (fun k hk => by
           rw [hfoot, <- f1] at hk
           have hk : k ∈ feet rs ++ (b :: b0.dv.foot) := List.perm_append_comm.mem_iff.1 hk
           refine ⟨q3 k hk, (L.fresh k hk).2.1, ?_⟩
           rcases (L.fresh k hk).2.2 with h1 | h1
           ·exact .inr (.inr h1)
           ·rcases (hmem k).1 h1 with rfl | h1
            ·exact .inl ⟨r, e1, mem_b e2⟩
            ·exact .inr (.inl h1)) K
         obtain ⟨D3, G1, G2⟩ := land_ok (ws := (id, stored r [] yv r.v yv) :: ws1) h q4 hnp F2
         exact ⟨D3, Sh2, G1, G2⟩
       ·obtain ⟨r, bb, u, e1, e2, e3, _⟩ := tgt_at (w := w) (Sh := Sh) TG
        have hid : id ∉ ids := by
         have ht : (!ids.any (Nat.beq id) && (tyW c.rk.tys).flat && ws1.isEmpty) = true := ht
         rw [Bool.and_eq_true, Bool.and_eq_true] at ht
         exact hnot id (by simpa using ht.1.1)
        have hbr := hroot0 id r e1 hid
        have hbF : ∀ k ∈ (D1 id).foot, k ∉ (hands c.ks zs).flatMap DV.foot := fun k hk hm => (F1.fdis k hm).1 id r e1 hk
        have hmem : ∀ k, k ∈ feet zs ↔ k ∈ u.foot \/ k ∈ (hands c.ks zs).flatMap DV.foot := fun k => by rw [hmemF, e3]
        have hui : ∀ k ∈ u.foot, k ∈ (D1 id).foot := fun k hk => mem_dv (look_foot e2 k hk)
        have RR := F1.rel.root id r e1
        obtain ⟨n1, n2, n3⟩ := List.nodup_append.1 (show ((D1 id).b.toList ++ (D1 id).dv.foot).Nodup from RR.nd)
        obtain ⟨L1, L2, p1, p2⟩ := foot_put e2
        have hnu : (L1 ++ u.foot ++ L2).Nodup := p1 ▸ n2
        refine fin (by rw [e3]; exact List.nodup_append.2 ⟨nodup_mid hnu, F1.fnd, fun k hk m hm e => hbF k (hui k hk) (e ▸ hm)⟩) (by rw [e3]; intro k hk; exact hbr k (hui k hk)) (fun v w' Sh' rs bs L hr hb => ?_)
        obtain ⟨Sh2, q1, q2, q3, q4, q5⟩ := after_call L hr hb (fun b hb => .inl hb) hst hsl1
        obtain ⟨r2, bb2, u2, e1', e2', _, BK⟩ := tgt_at (w := w') (Sh := Sh2) TG
        rw [e1] at e1'; cases e1'
        rw [e2] at e2'; cases e2'
        obtain ⟨yv, b0, hY, rfl, k1, k2, k3, k4, k5⟩ := BK _ _ q5
        rw [hY] at h3
        simp only [backP, getR_go, e1] at h3
        cases hpv : putV r.v p yv with
        | none => rw [hpv] at h3; cases h3
        | some v' =>
         rw [hpv] at h3
         cases h3
         obtain ⟨f1, f2⟩ := res_plain q4 hnp
         obtain ⟨dv', hd, hvv⟩ := er_put e2 (n := b0.dv) (v' := v') (by rw [RR.er, k2]; exact hpv)
         have p3 := p2 _ _ hd
         have hfb : feet [b0] = b0.dv.foot := by
          show DRoot.foot b0 ++ [] = _
          rw [List.append_nil, DRoot.foot, k1]; rfl
         rw [hfb] at L q3
         have hsame : ∀ k, Sh1 k -> w'.heap[k]? = w.heap[k]? := fun k hk => L.block k (hsl1 k hk) (fun hm => by
          rcases (hmem k).1 hm with hm | hm
          ·exact (hbr k (hui k hm)).1 (.inl hk)
          ·exact (F1.fdis k hm).2.1 hk)
         have hin : ∀ k ∈ (D1 id).foot, k ∉ u.foot -> w'.heap[k]? = w.heap[k]? := fun k hk hku => L.block k (hbr k hk).2 (fun hm => by
          rcases (hmem k).1 hm with hm | hm
          ·exact hku hm
          ·exact hbF k hk hm)
         have hbn : ∀ k o, (D1 id).base = some (k, o) -> k ∉ (D1 id).dv.foot := fun k o hk hm => n3 k (by rw [(base_some hk).1]; exact List.mem_singleton.2 rfl) k hm rfl
         obtain ⟨i1, i2⟩ := upd (w := w) (w' := w') (Sh := Sh1) (Sh' := Sh2) hsame q1 e2 hd RR.ok n2 (fun k o hk => by
           obtain ⟨g1, rfl⟩ := base_some hk
           exact ⟨RR.loc k g1, hbn k 0 hk⟩) (by rw [k4]) k3
          (fun k hk hku _ => hin k (mem_dv hk) hku) (fun k o hk _ => hin k (mem_b (base_some hk).1) (fun hm => hbn k o hk (look_foot e2 k hm)))
          (fun k o hk row el hrow => by
           subst hk
           have hkr : k ∈ (D1 id).foot := by
            rcases look_block e2 k o rfl with ⟨o', ho'⟩ | hm
            ·exact mem_b (base_some ho').1
            ·exact mem_dv hm
           have hku := look_notin e2 n2 hbn k o rfl
           obtain ⟨_, _, hloc⟩ := F1.rel.look e1 e2
           obtain ⟨row0, e0, h0, hc0⟩ := hloc k o rfl
           obtain ⟨rfl, rfl⟩ := hrow.uniq h0
           exact ⟨row, hrow.frame (hin k hkr hku), rfl, fun _ _ => rfl, fun j v hj => hc0 j v (by rw [<- k5]; exact hj)⟩)
         have hfoot : DRoot.foot ⟨dv', (D1 id).b, (D1 id).c0⟩ = (D1 id).b.toList ++ (L1 ++ b0.dv.foot ++ L2) := by rw [<- p3]; rfl
         have K : Keeps w w' Sh1 Sh2 (app ws1 R) (upt (app ws1 R) id (some (rowed r p v'))) D1 (upt D1 id ⟨dv', (D1 id).b, (D1 id).c0⟩) :=
          Keeps.rows (q := p) (uq := u) (n := b0.dv) (dv' := dv') ⟨dv', (D1 id).b, (D1 id).c0⟩ hsame q1 e1 e2 hd k4 k5 rfl rfl rfl
         -- what is new or of the place itself lies apart from the rest of the root
         have hnew : ∀ k ∈ feet rs ++ b0.dv.foot, k ∈ (D1 id).foot -> k ∈ u.foot := by
          intro k hk hkd
          rcases (L.fresh k hk).2.2 with h1 | h1
          ·have := (hbr k hkd).2; omega
          ·rcases (hmem k).1 h1 with h1 | h1
           ·exact h1
           ·exact absurd h1 (hbF k hkd)
         have hbu : ∀ k ∈ (D1 id).b.toList, k ∈ (D1 id).foot /\ k ∉ u.foot := fun k hk => ⟨List.mem_append_left _ hk, fun hm => n3 k hk k (look_foot e2 k hm) rfl⟩
         have hnu1 := List.nodup_append.1 hnu
         have hnu2 := List.nodup_append.1 hnu1.1
         have hL1 : ∀ k ∈ L1, k ∈ (D1 id).foot /\ k ∉ u.foot := fun k hk => ⟨mem_dv (by rw [p1]; exact List.mem_append_left _ (List.mem_append_left _ hk)), fun hm => hnu2.2.2 k hk k hm rfl⟩
         have hL2 : ∀ k ∈ L2, k ∈ (D1 id).foot /\ k ∉ u.foot := fun k hk => ⟨mem_dv (by rw [p1]; exact List.mem_append_right _ hk), fun hm => hnu1.2.2 k (List.mem_append_right _ hm) k hk rfl⟩
         have hrsn := List.nodup_append.1 L.nd
         have hdn : ((D1 id).b.toList ++ (L1 ++ b0.dv.foot ++ L2)).Nodup := by
          have hx : ∀ k ∈ b0.dv.foot, k ∈ (D1 id).foot -> k ∈ u.foot := fun k hk => hnew k (List.mem_append_right _ hk)
          refine List.nodup_append.2 ⟨n1, List.nodup_append.2 ⟨List.nodup_append.2 ⟨hnu2.1, hrsn.2.1, fun k hk m hm e => ?_⟩, hnu1.2.1, fun k hk m hm e => ?_⟩, fun k hk m hm e => ?_⟩
          ·subst e; exact (hL1 k hk).2 (hx k hm (hL1 k hk).1)
          ·subst e
           rcases List.mem_append.1 hk with hk | hk
           ·exact hnu1.2.2 k (List.mem_append_left _ hk) k hm rfl
           ·exact (hL2 k hm).2 (hx k hk (hL2 k hm).1)
          ·subst e
           rcases List.mem_append.1 hm with hm | hm
           ·rcases List.mem_append.1 hm with hm | hm
            ·exact n3 k hk k (by rw [p1]; exact List.mem_append_left _ (List.mem_append_left _ hm)) rfl
            ·exact (hbu k hk).2 (hx k hm (hbu k hk).1)
           ·exact n3 k hk k (by rw [p1]; exact List.mem_append_right _ hm) rfl
         have hmemd : ∀ k ∈ (D1 id).b.toList ++ (L1 ++ b0.dv.foot ++ L2), ((k ∈ (D1 id).foot /\ k ∉ u.foot) \/ k ∈ b0.dv.foot) := by
          intro k hk
          rcases List.mem_append.1 hk with hk | hk
          ·exact .inl (hbu k hk)
          ·rcases List.mem_append.1 hk with hk | hk
           ·rcases List.mem_append.1 hk with hk | hk
            ·exact .inl (hL1 k hk)
            ·exact .inr hk
           ·exact .inl (hL2 k hk)
         have hold : ∀ k, k ∈ (D1 id).foot -> k ∉ u.foot -> ¬ Sh2 k := by
          intro k hk hku h2
          rcases (q2 k h2).1 with h1 | h1 | h1
          ·exact (hbr k hk).1 (.inl h1)
          ·have := (hbr k hk).2; omega
          ·rcases (hmem k).1 h1 with h1 | h1
           ·exact hku h1
           ·exact hbF k hk h1
         have hfr : ∀ k ∈ feet rs ++ b0.dv.foot, (∃ r, app ws1 R id = some r /\ k ∈ (D1 id).foot) \/ k ∈ (hands c.ks zs).flatMap DV.foot \/ w.heap.size <= k := by
          intro k hk
          rcases (L.fresh k hk).2.2 with h1 | h1
          ·exact .inr (.inr h1)
          ·rcases (hmem k).1 h1 with h1 | h1
           ·exact .inl ⟨r, e1, hui k h1⟩
           ·exact .inr (.inl h1)
         have F2 := F1.both (id := id) (r' := rowed r p v') (d' := ⟨dv', (D1 id).b, (D1 id).c0⟩) (F' := rs.map (·.dv)) L.os L.tape L.output L.hsz
          (fun k hlt hk hm => L.block k hlt (fun hm' => by
           rcases (hmem k).1 hm' with hm' | hm'
           ·exact hk r e1 (hui k hm')
           ·exact hm hm')) q1
          (fun k hk => ⟨by
           rcases (q2 k hk).1 with h1 | h1 | h1
           ·exact .inl h1
           ·exact .inr (.inl h1)
           ·rcases (hmem k).1 h1 with h1 | h1
            ·exact .inr (.inr (.inr ⟨r, e1, hui k h1⟩))
            ·exact .inr (.inr (.inl h1)), (q2 k hk).2⟩)
          ⟨hvv, i1, RR.blk, (fun k hk => by
           obtain ⟨row, el, hrow, hc⟩ := RR.loc k hk
           obtain ⟨row', hr', _, _, hin'⟩ := i2 k 0 (base_of hk) row el hrow
           exact ⟨row', el, hr', hin'⟩), by rw [hfoot]; exact hdn, (fun hs => by
           have hs : since ([(depth p + 1, true)] ++ r.log) 0 1 false = true := hs
           rw [since_append (Nat.zero_le _), Bool.and_eq_true] at hs
           obtain ⟨u', g1, _, g3⟩ := (keep_rows b0.dv p _ _ _ _ _ e2 hd k4 k5 [] none none _ rfl).2 (.inr (by show 0 < depth p + 1; omega))
           cases g1
           exact g3.trans (RR.top hs.2)), RR.org, RR.pin⟩
          f2 (by
           rw [hfoot, <- f1]
           refine List.nodup_append.2 ⟨hdn, hrsn.1, fun k hk m hm e => ?_⟩
           subst e
           rcases hmemd k hk with ⟨g1, g2⟩ | g1
           ·exact g2 (hnew k (List.mem_append_left _ hm) g1)
           ·exact hrsn.2.2 k hm k g1 rfl)
          (fun k hk => by
           rw [hfoot, <- f1] at hk
           rcases List.mem_append.1 hk with hk | hk
           ·rcases hmemd k hk with ⟨g1, g2⟩ | g1
            ·exact ⟨hold k g1 g2, Nat.lt_of_lt_of_le (hbr k g1).2 L.hsz, .inl ⟨r, e1, g1⟩⟩
            ·have hk' : k ∈ feet rs ++ b0.dv.foot := List.mem_append_right _ g1
             exact ⟨q3 k hk', (L.fresh k hk').2.1, hfr k hk'⟩
           ·have hk' : k ∈ feet rs ++ b0.dv.foot := List.mem_append_left _ hk
            exact ⟨q3 k hk', (L.fresh k hk').2.1, hfr k hk'⟩) K
         obtain ⟨D3, G1, G2⟩ := land_ok (ws := (id, rowed r p v') :: ws1) h q4 hnp F2
         exact ⟨D3, Sh2, G1, G2⟩
      ·rcases tg1 with id | ⟨id, p⟩ <;> cases ht
theorem run_enter {P : Program} {f : FuncId} (he : Enters P f) (args : Array Value) (w : World) : (callFunc f args).run P w = .ok (.enter f args) w := by
 obtain ⟨fn, hf, hname, hb⟩ := he
 have h1 : fn.name ≠ "runtime.NumGoroutine" := by simpa using hname
 have h2 : ¬ fn.body = none := by
  intro e; rw [e] at hb; cases hb
 simp [callFunc, hf, h1, h2]
theorem avrs_map (hR : Rel C ⟨T, R⟩ D Sh a w) : ∀ l : List Operand, AVRs w Sh R D (l.map (evalA T)) (l.map a.eval)
 | [] => rfl
 | x :: l => ⟨_, _, rfl, hR.eval x, avrs_map hR l⟩
theorem avrs_append {R : Nat -> Option Root} : ∀ {xs ys : List AV} {vs us : List Value}, AVRs w Sh R D xs vs -> AVRs w Sh R D ys us -> AVRs w Sh R D (xs ++ ys) (vs ++ us)
 | [], ys, vs, us, h, h' => by have h : vs = [] := h; subst h; exact h'
 | x :: xs, ys, vs, us, h, h' => by
  obtain ⟨v, vs', rfl, h1, h2⟩ := h
  exact ⟨v, vs' ++ us, rfl, h1, avrs_append h2 h'⟩
theorem AVC_one {R : Nat -> Option Root} : ∀ {x : AV} {cs : List Value}, AVC w Sh R D x cs -> capOk x = true -> ∃ v, cs = [v] /\ AVR w Sh R D x v
 | .sh t x, cs, h, hg => by
  have hl := Ty.RR_len h
  have hg : t.agg = false := by simpa [capOk, AV.agg] using hg
  have : t.sz = 1 := by cases t <;> first | rfl | cases hg
  rw [this] at hl
  obtain ⟨v, rfl⟩ := List.length_eq_one_iff.1 hl
  exact ⟨v, rfl, [v], h, by show v = mkw t.agg [v]; rw [hg]; rfl⟩
 | .nilsl, cs, h, hg => ⟨_, h, cs, h, by rw [show cs = _ from h]; rfl⟩
 | .ptr id p s, cs, h, hg => by obtain ⟨v, rfl, hv⟩ := h; exact ⟨v, rfl, [v], ⟨v, rfl, hv⟩, rfl⟩
 | .sptr t x, cs, h, hg => by obtain ⟨b, o, cc, rfl, hv⟩ := h; exact ⟨_, rfl, _, ⟨b, o, cc, rfl, hv⟩, rfl⟩
 | .fn f c, cs, h, hg => by obtain ⟨cc, rfl, hv⟩ := h; exact ⟨_, rfl, _, ⟨cc, rfl, hv⟩, rfl⟩
 | .any, cs, h, hg => h.elim
 | .tup _, cs, h, hg => h.elim
 | .al _ _ _ _, cs, h, hg => by cases hg
 | .cut _ _ _ _ _ _, cs, h, hg => by cases hg
 | .nilf, cs, h, hg => by cases hg
 | .consf _ _, cs, h, hg => by cases hg
theorem cap_ok {R : Nat -> Option Root} : ∀ {x : AV} {cs : List Value}, AVC w Sh R D x cs -> capGood x = true -> AVRs w Sh R D (capL x) cs
 | .nilf, cs, h, hg => h
 | .consf x y, cs, h, hg => by
  obtain ⟨c0, c1, rfl, h0, h1⟩ := h
  have hg : (capOk x && capGood y) = true := hg
  rw [Bool.and_eq_true] at hg
  obtain ⟨v, rfl, hv⟩ := AVC_one h0 hg.1
  exact ⟨v, c1, rfl, hv, cap_ok h1 hg.2⟩
 | .any, cs, h, hg | .sh _ _, cs, h, hg | .nilsl, cs, h, hg | .al _ _ _ _, cs, h, hg | .cut _ _ _ _ _ _, cs, h, hg | .ptr _ _ _, cs, h, hg | .sptr _ _, cs, h, hg | .fn _ _, cs, h, hg | .tup _, cs, h, hg => by cases hg
theorem avs_one {R : Nat -> Option Root} : ∀ {x : AV} {v : Value}, AVR w Sh R D x v -> capOk x = true -> AVC w Sh R D x [v]
 | .sh t x, v, h, hg => by
  obtain ⟨cs, hc, rfl⟩ := h
  obtain ⟨u, hu, _⟩ := AVC_one hc hg
  subst hu
  have hg : t.agg = false := by simpa [capOk, AV.agg] using hg
  have e : mkw (AV.sh t x).agg [u] = u := by show mkw t.agg [u] = u; rw [hg]; rfl
  rw [e]; exact hc
 | .nilsl, v, h, hg => by obtain ⟨cs, hc, rfl⟩ := h; rw [show cs = _ from hc]; rfl
 | .ptr id p s, v, h, hg => by
  obtain ⟨cs, ⟨u, hu, hc⟩, hv⟩ := h
  subst hu
  have hv : v = u := hv
  subst hv
  exact ⟨v, rfl, hc⟩
 | .sptr t x, v, h, hg => by obtain ⟨cs, ⟨b, o, cc, rfl, hc⟩, rfl⟩ := h; exact ⟨b, o, cc, rfl, hc⟩
 | .fn f c, v, h, hg => by obtain ⟨cs, ⟨cc, rfl, hc⟩, rfl⟩ := h; exact ⟨cc, rfl, hc⟩
 | .any, v, h, hg => by cases hg
 | .tup _, v, h, hg => by cases hg
 | .al _ _ _ _, v, h, hg => by cases hg
 | .cut _ _ _ _ _ _, v, h, hg => by cases hg
 | .nilf, v, h, hg => by cases hg
 | .consf _ _, v, h, hg => by cases hg
theorem cap_of {R : Nat -> Option Root} : ∀ {xs : List AV} {vs : List Value}, AVRs w Sh R D xs vs -> capGood (capP xs) = true -> AVC w Sh R D (capP xs) vs
 | [], vs, h, hg => h
 | x :: xs, vs, h, hg => by
  obtain ⟨v, vs', rfl, h1, h2⟩ := h
  have hg : (capOk x && capGood (capP xs)) = true := hg
  rw [Bool.and_eq_true] at hg
  exact ⟨[v], vs', rfl, avs_one h1 hg.1, cap_of h2 hg.2⟩
theorem sound_call {K : Cons} {TT : List (TypeId × TRow)} {st : St} (hK : ∀ f key con, K f key = some con -> CallOK C.P f con) {o : Oper} {c : Call} {f : Operand} (ho : o.op = .call c) (hc : c.callee = .value f) (hdn : dstOk C.n o.dst = true) {res : Res}
  (h : (opP TT K o (evalA st.tmps)).go st.roots = some res) : Sound C o st res := by
 intro D Sh a w Kn Q hR hKn
 unfold opP at h
 rw [ho] at h
 simp only [hc] at h
 have hf := hR.eval f
 generalize hff : evalA st.tmps f = af at h hf
 cases af with
 | fn g cap =>
  simp only at h
  cases hk : K g (fnKey (c.args.toList.map (evalA st.tmps) ++ capL cap)) with
  | none => rw [hk] at h; cases h
  | some con =>
   rw [hk] at h
   simp only at h
   cases hcg : capGood cap with
   | false => rw [hcg] at h; cases h
   | true =>
    rw [hcg] at h
    simp only [cond_true] at h
    obtain ⟨cs, ⟨cc, rfl, hcc⟩, hfv⟩ := hf
    have hfv : a.eval f = .func (.func g) #[] cc.toArray := hfv
    obtain ⟨hen, hpf, hcall⟩ := hK _ _ _ hk
    have hav := avrs_append (avrs_map (T := st.tmps) hR c.args.toList) (cap_ok hcc hcg)
    obtain ⟨x, y, zs, Sh0, e1, e2, e3, e4, e5, e6⟩ := callP_ok (T := st.tmps) hpf h hR hav
    have hcs := hcall w Sh0 x y _ zs e1 e2 e3 e4 e5
    have hrun : (execOp a.eval o).run C.P w = .ok (.enter g (c.args.toList.map a.eval ++ cc).toArray) w := by
     simp only [execOp, ho, resolve, hc, hfv, Deferred.ofValue, invoke, Sem.run_bind, Sem.run_pure, Result.andThen_ok]
     have he : (#[] ++ Array.map a.eval c.args ++ cc.toArray) = (c.args.toList.map a.eval ++ cc).toArray := by
      apply Array.ext'
      simp
     rw [he]
     exact run_enter hen _ w
    unfold Oper.wp
    rw [hrun]
    refine Calls.mono hcs (fun e w' he => ?_)
    obtain ⟨v, Sh', rs, bs, rfl, g1, g2, g3⟩ := he
    obtain ⟨D', Sh'', r1, r2⟩ := e6 v w' Sh' rs bs g1 g2 g3
    exact hKn D' Sh'' _ w' (Rel.set (st := ⟨st.tmps, app res.ws st.roots⟩) r1 hdn r2)
 | _ => cases h
theorem sound_makeFunc {K : Cons} {TT : List (TypeId × TRow)} {st : St} {o : Oper} {f : FuncId} {fst cap : Array Operand} (ho : o.op = .makeFunc (.func f) fst cap) (hdn : dstOk C.n o.dst = true) {res : Res}
  (h : (opP TT K o (evalA st.tmps)).go st.roots = some res) : Sound C o st res := by
 unfold opP at h
 rw [ho] at h
 simp only at h
 cases hb : (Nat.beq fst.size 0 && capGood (capP (cap.toList.map (evalA st.tmps)))) with
 | false => rw [hb] at h; cases h
 | true =>
  rw [hb] at h
  cases h
  rw [Bool.and_eq_true] at hb
  refine sound_quiet hdn (fun D Sh a w hR => ?_)
  have hav := avrs_map (T := st.tmps) hR cap.toList
  have hc := cap_of hav hb.2
  have hz : fst = #[] := by
   have := Nat.eq_of_beq_eq_true hb.1
   exact Array.eq_empty_of_size_eq_zero this
  refine ⟨.func (.func f) #[] (cap.toList.map a.eval).toArray, ?_, ⟨_, ⟨_, rfl, hc⟩, rfl⟩⟩
  simp only [execOp, ho, Instr.makeFunc, hz, Sem.run_bind, Sem.run_pure, Result.andThen_ok]
  have he : Array.map a.eval cap = (cap.toList.map a.eval).toArray := by
   apply Array.ext'
   simp
  rw [he, Array.map_empty]
end
end Go.Proofs.YtipaepbmdooekaaGreat.Vm
namespace Go.Proofs.YtipaepbmdooekaaGreat.Vm
open Go Go.RowKit
set_option linter.unusedVariables false
section
variable {C : Ctx} {st : St} {D : Nat -> DRoot} {Sh : Nat -> Prop} {a : Act} {w : World} {T : List (TypeId × TRow)} {o : Oper}
theorem q_go {p : Prog AV} {R : Nat -> Option Root} {res : Res} (h : (q p).go R = some res) : ∃ x, p.go R = some x /\ res = ⟨x, []⟩ := by
 unfold q at h
 rw [Prog.go_bind] at h
 cases hp : p.go R with
 | none => rw [hp] at h; cases h
 | some x => rw [hp] at h; cases h; exact ⟨x, rfl, rfl⟩
theorem sound_nil {x : Operand} (ho : o.op = .nilCheck x) (hd : dstOk C.n o.dst = true) {av : AV} (h : (nilP (evalA st.tmps x)).go st.roots = some av) : Sound C o st ⟨av, []⟩ := by
 refine sound_quiet hd (fun D Sh a w hR => ?_)
 have hx := hR.eval x
 generalize evalA st.tmps x = ax at h hx
 have hex : ∀ k o', a.eval x = .pointer (some ⟨k, o', none⟩) -> (execOp a.eval o).run C.P w = .ok (.value (a.eval x)) w := by
  intro k o' e
  simp only [execOp, ho, e, Sem.run_pure]
 cases ax with
 | ptr id p s =>
  have hin : since ((st.roots id).map (·.log) |>.getD []) s (depth p) true = true -> ∃ v, (execOp a.eval o).run C.P w = .ok (.value v) w /\ AVR w Sh st.roots D (.ptr id p s) v := by
   intro hs
   obtain ⟨cs, ⟨v, rfl, r, hr, hsl, hp⟩, hv⟩ := hx
   rw [hr] at hs
   obtain ⟨k, o', u, hl, hvv⟩ := hp hs
   have hv : a.eval x = v := hv
   subst hv
   exact ⟨_, hex k o' hvv, ⟨[a.eval x], ⟨_, rfl, r, hr, hsl, hp⟩, rfl⟩⟩
  simp only [nilP] at h
  cases hb : Nat.beq (depth p) 0 with
  | true =>
   rw [hb] at h; cases h
   exact hin (by rw [Nat.eq_of_beq_eq_true hb]; exact since0 _ _ _)
  | false =>
   rw [hb] at h
   obtain ⟨r, hr, _, hs, h⟩ := withR_go h
   cases h
   exact hin (by rw [hr]; exact hs)
 | sptr t y =>
  cases h
  obtain ⟨b, o', cc, hv, h2⟩ := sptr_look hx
  exact ⟨_, hex b o' hv, ⟨_, ⟨b, o', cc, rfl, h2⟩, hv⟩⟩
 | _ => cases h
theorem run_mm {P : Program} {mx : Bool} {R : Nat -> Option Root} : ∀ {l : List AV} {vs : List Value} {k : IntKind} {x : Int} {av : AV}, (mmP mx x k l).go R = some av -> AVRs w Sh R D l vs ->
  ∃ v, (vs.foldlM (if mx then Builtin.max2 else Builtin.min2) (.int k x)).run P w = .ok v w /\ AVR w Sh R D av v
 | [], vs, k, x, av, h, hv => by
  cases h
  have hv : vs = [] := hv
  subst hv
  exact ⟨_, rfl, mk_int _ _⟩
 | .sh (.int k') y :: l, vs, k, x, av, h, hv => by
  obtain ⟨v, vs', rfl, h1, h2⟩ := hv
  have e := avr_int h1
  subst e
  obtain ⟨v, g1, g2⟩ := run_mm (P := P) (l := l) h h2
  refine ⟨v, ?_, g2⟩
  rw [List.foldlM_cons, Sem.run_bind]
  cases mx with
  | true => simpa [Builtin.max2, mxI] using g1
  | false => simpa [Builtin.min2, mnI] using g1
 | .sh .bool _ :: l, vs, k, x, av, h, hv | .sh .str _ :: l, vs, k, x, av, h, hv | .sh .hole _ :: l, vs, k, x, av, h, hv | .sh (.sl _ _ _) _ :: l, vs, k, x, av, h, hv | .sh .nil _ :: l, vs, k, x, av, h, hv | .sh (.cons _ _) _ :: l, vs, k, x, av, h, hv
 | .any :: l, vs, k, x, av, h, hv | .nilsl :: l, vs, k, x, av, h, hv | .al _ _ _ _ :: l, vs, k, x, av, h, hv | .cut _ _ _ _ _ _ :: l, vs, k, x, av, h, hv | .nilf :: l, vs, k, x, av, h, hv | .consf _ _ :: l, vs, k, x, av, h, hv
 | .ptr _ _ _ :: l, vs, k, x, av, h, hv | .sptr _ _ :: l, vs, k, x, av, h, hv | .fn _ _ :: l, vs, k, x, av, h, hv | .tup _ :: l, vs, k, x, av, h, hv => by cases h
theorem sound_mm {mx : Bool} {c : Call} (ho : o.op = .call c) (hc : c.callee = .builtin (if mx then .max else .min)) (hd : dstOk C.n o.dst = true) {k : IntKind} {x : Int} {l : List AV} (hl : c.args.toList.map (evalA st.tmps) = .sh (.int k) x :: l) {av : AV}
  (h : (mmP mx x k l).go st.roots = some av) : Sound C o st ⟨av, []⟩ := by
 refine sound_quiet hd (fun D Sh a w hR => ?_)
 have hav := avrs_map (T := st.tmps) hR c.args.toList
 rw [hl] at hav
 obtain ⟨v0, vs, hvs, h1, h2⟩ := hav
 have e := avr_int h1
 subst e
 obtain ⟨v, g1, g2⟩ := run_mm (P := C.P) h h2
 refine ⟨v, ?_, g2⟩
 have hvs' : (Array.map a.eval c.args).toList = .int k x :: vs := by rw [Array.toList_map, hvs]
 cases mx with
 | true =>
  have hc' : c.callee = .builtin .max := hc
  have g1 : (vs.foldlM Builtin.max2 (.int k x)).run C.P w = .ok v w := g1
  simp only [execOp, ho, resolve, hc', invoke, builtin, Builtin.max_, hvs', Sem.run_bind, Sem.run_pure, Result.andThen_ok, g1]
 | false =>
  have hc' : c.callee = .builtin .min := hc
  have g1 : (vs.foldlM Builtin.min2 (.int k x)).run C.P w = .ok v w := g1
  simp only [execOp, ho, resolve, hc', invoke, builtin, Builtin.min_, hvs', Sem.run_bind, Sem.run_pure, Result.andThen_ok, g1]
theorem sound_index (hT : TabOK C.P T) {t : TypeId} {x i : Operand} (ho : o.op = .index t x i) {row : TRow} (hrow : tget T t = some row) (hd : dstOk C.n o.dst = true) {av : AV}
  (h : (indexP row (evalA st.tmps x) (evalA st.tmps i)).go st.roots = some av) : Sound C o st ⟨av, []⟩ := by
 refine sound_quiet hd (fun D Sh a w hR => ?_)
 have hx := hR.eval x
 have hi := hR.eval i
 have hr := hT t row hrow
 unfold indexP at h
 split at h
 case h_2 => cases h
 rename_i t1 b k n hty hxx hii
 rw [hxx] at hx
 rw [hii] at hi
 obtain ⟨g1, g2, h⟩ := within_go h
 cases h
 have hu : C.P.underlying t = some .string := by
  have := hr.desc
  unfold DescOK at this
  rw [hty] at this; exact this
 have e1 := avr_str hx
 have e2 := avr_int hi
 have hlt : n.toNat < b.size := by omega
 refine ⟨.int .u8 (byteAt b n.toNat), ?_, mk_int _ _⟩
 have hb : (if 0 <= n then b[n.toNat]? else none) = some b[n.toNat] := by
  rw [if_pos g1]
  exact getElem?_pos b n.toNat hlt
 have hbv : ((b[n.toNat].toNat : Nat) : Int) = byteAt b n.toNat := by
  unfold byteAt
  rw [List.getD_eq_getElem?_getD]
  have : b.data.toList[n.toNat]? = some b[n.toNat] := by
   rw [Array.getElem?_toList]
   exact Array.getElem?_eq_getElem hlt
  rw [this]; rfl
 simp only [execOp, ho, Instr.index, e1, e2, asIntOf, run_underlying hu, Sem.run_bind, Sem.run_pure, Result.andThen_ok, hb, hbv]
theorem sound_field (hT : TabOK C.P T) {t : TypeId} {x : Operand} {i : Nat} (ho : o.op = .field t x i) {row : TRow} (hrow : tget T t = some row) (hd : dstOk C.n o.dst = true) {av : AV}
  (h : (fieldP row (evalA st.tmps x) i).go st.roots = some av) : Sound C o st ⟨av, []⟩ := by
 refine sound_quiet hd (fun D Sh a w hR => ?_)
 have hx := hR.eval x
 have hr := hT t row hrow
 unfold fieldP at h
 cases hb : (row.ty.agg && Nat.blt i row.fs.length) with
 | false => rw [hb] at h; cases h
 | true =>
  rw [hb] at h
  simp only [cond_true] at h
  rw [Bool.and_eq_true] at hb
  obtain ⟨fs, hu, hfo⟩ := hr.fields hb.1
  generalize hxx : evalA st.tmps x = ax at h hx
  cases ax with
  | sh t' y =>
   simp only at h
   cases hl : like t' row.ty with
   | false => rw [hl] at h; cases h
   | true =>
    rw [hl] at h
    simp only [cond_true] at h
    obtain ⟨cs, hc, hv⟩ := hx
    have hc : Ty.RR w Sh t' y cs := hc
    have hlt : i < fs.toList.length := by rw [hfo.len]; simpa [Nat.blt_eq] using hb.2
    have hfi : fs.toList[i]? = some fs.toList[i] := List.getElem?_eq_getElem hlt
    generalize fs.toList[i] = f at hfi
    obtain ⟨v, n, c, g1, g2, g3, g4, g5, rf, g6, g7, g8⟩ := get_fld hfo hfi hl hc
    rw [g1] at h
    cases h
    have hrf := hT _ rf g6
    have hlc : c.length = v.t.sz := Ty.RR_len g3
    have hsz : v.t.sz = rf.ty.sz := like_sz g7
    have hag : v.t.agg = rf.ty.agg := like_agg g7
    have hagx : t'.agg = true := (like_agg hl).trans hb.1
    have hval : a.eval x = .agg cs.toArray := by rw [hv]; show mkw t'.agg cs = _; rw [hagx]; rfl
    rw [Nat.zero_add] at g2
    refine ⟨mkw v.t.agg c, ?_, ⟨c, g3, rfl⟩⟩
    have hpart : (part f.type cs.toArray f.offset).run C.P w = .ok (mkw v.t.agg c) w := by
     unfold part
     simp only [Sem.run_bind, hrf.isAgg, Result.andThen_ok, hag]
     cases hg : rf.ty.agg with
     | true =>
      simp only [if_true, Sem.run_bind, hrf.sizeOf, Result.andThen_ok, Sem.run_pure]
      congr 1
      show Value.agg _ = Value.agg _
      congr 1
      apply Array.ext'
      rw [Array.toList_extract]
      simp only [List.extract]
      rw [g5, hsz, <- g2]
      congr 1
      omega
     | false =>
      have hone := one_of (t := v.t) (cs := c) hlc (Ty.RR_one g3) (by rw [hag, hg])
      obtain ⟨u, rfl, _⟩ := hone
      have := g4 0 u rfl
      rw [Nat.add_zero, g2] at this
      simp [this, mkw]
    have hfa : fs[i]? = some f := by rw [<- Array.getElem?_toList]; exact hfi
    simp only [execOp, ho, Instr.field, hval, run_underlying hu, Sem.run_bind, Sem.run_pure, Result.andThen_ok, hfa, asAgg, hpart]
  | _ => cases h
end
end Go.Proofs.YtipaepbmdooekaaGreat.Vm
namespace Go.Proofs.YtipaepbmdooekaaGreat.Vm
open Go Go.RowKit
set_option linter.unusedVariables false
section
variable {C : Ctx} {st : St} {D : Nat -> DRoot} {Sh : Nat -> Prop} {F : List DV} {a : Act} {w : World} {T : List (TypeId × TRow)} {o : Oper}
theorem fitV_ok {d : Nat} {z : DV} {t : Ty} (hF : RelF C st D Sh (z :: F) a w) (hl : like z.t t = true) : ∃ (Sh' : Nat -> Prop) (z' : DV), z'.er = fitV d z.er t /\ z'.cs = z.cs /\ like z'.t t = true /\ z'.t.agg = z.t.agg /\ (∀ b, Sh b -> Sh' b) /\ Keeps w w Sh Sh' st.roots st.roots D D /\ RelF C st D Sh' (z' :: F) a w := by
 have same : ∃ (Sh' : Nat -> Prop) (z' : DV), z'.er = z.er /\ z'.cs = z.cs /\ like z'.t t = true /\ z'.t.agg = z.t.agg /\ (∀ b, Sh b -> Sh' b) /\ Keeps w w Sh Sh' st.roots st.roots D D /\ RelF C st D Sh' (z' :: F) a w :=
  ⟨Sh, z, rfl, rfl, hl, rfl, fun _ h => h, Keeps.grow (fun _ _ => rfl), hF⟩
 unfold fitV
 cases hb : Nat.beq d 0 with
 | true => exact same
 | false =>
  simp only [cond_false]
  cases ht : toT z.er t with
  | none => exact same
  | some x =>
   obtain ⟨hlow, hx⟩ := toT_some ht
   obtain ⟨Sh', d', e1, e2, e3, K, F'⟩ := hF.low (t' := t) hlow
   refine ⟨Sh', ⟨t, d'⟩, ?_, e2, like_refl t, (Ty.agg_same (lowB_shr hlow)).symm, e3, K, F'⟩
   show (⟨t, t.er d'⟩ : V) = ⟨t, x⟩
   rw [e1, hx]
   rfl
theorem sound_storeQ (hT : TabOK C.P T) {t : TypeId} {x y : Operand} (ho : o.op = .store t x y) {row : TRow} (hrow : tget T t = some row) (hd : o.dst = none) {ws : Writes}
  (h : (storeQ row (evalA st.tmps x) (evalA st.tmps y)).go st.roots = some ws) : Sound C o st ⟨.any, ws⟩ := by
 intro D Sh a w K Q hR hK
 have hr := hT t row hrow
 unfold storeQ at h
 rw [Prog.go_bind] at h
 cases hq : (takeQ row.ty (evalA st.tmps y) []).go st.roots with
 | none => rw [hq] at h; cases h
 | some q =>
  obtain ⟨u, ws1⟩ := q
  rw [hq] at h
  simp only at h
  obtain ⟨D1, Sh1, z, hz, hv, hl, s1, K1, F1⟩ := takeQ_ok (T := st.tmps) (ws := []) hq hR.F (hR.eval y)
  have hzt : z.t = u.t := by rw [<- hz]; rfl
  have he := K1.avr (hR.eval x)
  generalize hx : evalA st.tmps x = ax at he h
  cases ax with
  | ptr id p s =>
   simp only [getR_go] at h
   cases hr1 : app ws1 st.roots id with
   | none => rw [hr1] at h; cases h
   | some r =>
    rw [hr1] at h
    simp only at h
    cases hs : okR r s (depth p) true with
    | false => rw [hs] at h; cases h
    | true =>
     rw [hs] at h
     obtain ⟨k, o', uq, hlk, hpv⟩ := ptr_look he hr1 (okR_spec hs).2
     obtain ⟨hgv, hok, hloc⟩ := F1.rel.look hr1 hlk
     simp only [cond_true, hgv] at h
     cases hlike : like u.t uq.er.t with
     | false => rw [hlike] at h; cases h
     | true =>
      rw [hlike] at h
      simp only [cond_true] at h
      cases hp : putV r.v p (fitV (depth p) u uq.er.t) with
      | none => rw [hp] at h; cases h
      | some v' =>
       rw [hp] at h; cases h
       have hlz : like z.t uq.t = true := by rw [hzt]; exact hlike
       obtain ⟨Sh2, z', g1, g2, g3, g4, s2, K2, F2⟩ := fitV_ok (d := depth p) F1 hlz
       rw [hz] at g1
       obtain ⟨row0, e0, hrow0, hc0⟩ := hloc k o' rfl
       have hzok : z'.OK w Sh2 := F2.fok z' (by simp)
       have hlen : z'.cs.length = row.ty.sz := by rw [g2]; exact (Ty.cs_len z.t z.d).trans (by rw [hzt]; exact like_sz hl)
       have hlen2 : z'.cs.length = uq.t.sz := (Ty.cs_len z'.t z'.d).trans (like_sz g3)
       have hpos : z'.cs.length ≠ 0 := by rw [hlen]; exact hr.nz
       have hfit : o' + z'.cs.length <= row0.size := by
        have hul : uq.cs.length = z'.cs.length := (Ty.cs_len uq.t uq.d).trans hlen2.symm
        have hj : z'.cs.length - 1 < uq.cs.length := by omega
        have := hc0 (z'.cs.length - 1) _ (List.getElem?_eq_getElem hj)
        have := (Array.getElem?_eq_some_iff.1 this).1
        omega
       have hone : ∀ v ∈ z'.cs, v.oneCell' = true := Ty.OK_one hzok
       obtain ⟨_, w1, w2, w3, w4, w5, row', r1, r2, r3, r4⟩ := setR_spec k e0 z'.cs w o' row0 hrow0 hfit hone
       have hrun := hr.store (w := w) hlen (mkw_cells (u := z'.er) rfl hzok) hone hrow0 hfit
       have hev : a.eval y = mkw z'.er.t.agg z'.cs := by
        rw [hv, g2]
        have : u.t.agg = z'.er.t.agg := by rw [<- hzt]; exact g4.symm
        rw [this]
       have hex : (execOp a.eval o).run C.P w = .ok .skip (setR w k o' z'.cs) := by
        simp only [execOp, ho, Instr.storeAt, Instr.sureAddr, hpv, hev, Sem.run_bind, Sem.run_pure, Result.andThen_ok, hrun]
       obtain ⟨D2, K3, F3⟩ := F2.store (w' := setR w k o' z'.cs) hr1 hlk g3 (v' := v') (by rw [g1]; exact hp) w1 w2 w3 w4 w5 (fun rw0 el hrw => by
        obtain ⟨rfl, rfl⟩ := hrow0.uniq hrw
        exact ⟨row', r1, r2, fun j hj => r3 j (by rw [hlen2]; exact hj), r4⟩)
       rw [g1] at F3
       refine wp_skip' hex (hK D2 Sh2 _ _ ?_)
       rw [hd]
       exact F3.rel
  | _ => cases h
theorem optI_eval (hR : Rel C st D Sh a w) {lo : Option Operand} {l : Option Int} (h : optI (lo.map (evalA st.tmps)) = some l) : lo.map a.eval = l.map (fun n => a.eval (lo.getD (.const undef))) /\ ∀ n, l = some n -> ∃ k, lo.map a.eval = some (.int k n) := by
 cases lo with
 | none => cases h; exact ⟨rfl, fun n e => by cases e⟩
 | some x =>
  simp only [Option.map_some, optI] at h
  have hx := hR.eval x
  cases hxx : idx1 (evalA st.tmps x) with
  | none => rw [hxx] at h; cases h
  | some n =>
   rw [hxx] at h; cases h
   refine ⟨rfl, fun m e => ?_⟩
   cases e
   unfold idx1 at hxx
   split at hxx
   ·rename_i k n' e
    cases hxx
    rw [e] at hx
    exact ⟨k, by rw [Option.map_some, avr_int hx]⟩
   ·cases hxx
theorem elem_of {P : Program} {t e : TypeId} (h : P.underlying t = some (.slice e)) : P.elem t = e := by unfold Program.elem; rw [h]
theorem run_cut {P : Program} {t e : TypeId} (hu : P.underlying t = some (.slice e)) {A : Option Addr} {len cap s : Nat} (hsz : ∀ w, (sizeOf e).run P w = .ok s w) {lo hi : Option Value} {l h : Option Int} (hlo : l = none -> lo = none) (hhi : h = none -> hi = none)
  (hl : ∀ n, l = some n -> ∃ k, lo = some (.int k n)) (hh : ∀ n, h = some n -> ∃ k, hi = some (.int k n)) (hlc : len <= cap) (hc : cutOk (l.getD 0) (h.getD (len : Nat)) len = true) (w : World) :
  (Instr.sliceAt t (.slice A len cap) lo hi none).run P w = .ok (sliced A (l.getD 0).toNat (h.getD (len : Nat)).toNat cap s) w := by
 have he := elem_of hu
 have ht : P.underlying t = some (.slice (P.elem t)) := by rw [he]; exact hu
 rw [run_sliceAt_slice w t _ _ _ _ ht]
 unfold cutOk at hc
 simp only [Bool.and_eq_true, decide_eq_true_eq] at hc
 obtain ⟨⟨c1, c2⟩, c3⟩ := hc
 cases l with
 | none =>
  rw [hlo rfl]
  cases h with
  | none => rw [hhi rfl, run_slice_all w t A len cap ht, he, hsz]; simp
  | some n =>
   obtain ⟨k, hk⟩ := hh n rfl
   simp only [Option.getD_none, Option.getD_some] at c1 c2 c3
   rw [hk, run_slice_h w t A len cap ht k n c2 (by omega), he, hsz]; simp
 | some m =>
  obtain ⟨k, hk⟩ := hl m rfl
  cases h with
  | none =>
   simp only [Option.getD_none, Option.getD_some] at c1 c2 c3
   rw [hhi rfl, hk, run_slice_l w t A len cap ht k m c1 c2, he, hsz]; simp
  | some n =>
   obtain ⟨k', hk'⟩ := hh n rfl
   simp only [Option.getD_some] at c1 c2 c3
   rw [hk, hk', run_slice_lh w t A len cap ht k k' m n c1 c2 (by omega), he, hsz]; simp
theorem opt_none {lo : Option Operand} {T : Nat -> AV} {l : Option Int} (h : optI (lo.map (evalA T)) = some l) (e : l = none) (f : Operand -> Value) : lo.map f = none := by
 cases lo with
 | none => rfl
 | some x =>
  simp only [Option.map_some, optI] at h
  cases hxx : idx1 (evalA T x) with
  | none => rw [hxx] at h; cases h
  | some n => rw [hxx, e] at h; cases h
theorem sliced_at {A : Option Addr} {l h m s : Nat} (hA : h - l = 0 \/ ∃ k o, A = some ⟨k, o, none⟩) (hl : l <= h) (hm : h <= m) : ∃ A', sliced A l h m s = .slice A' (h - l) (m - l) /\ (h - l = 0 \/ ∃ k o, A = some ⟨k, o, none⟩ /\ A' = some ⟨k, o + l * s, none⟩) := by
 refine ⟨_, rfl, ?_⟩
 rcases hA with hA | ⟨k, o, rfl⟩
 ·exact .inl hA
 ·by_cases e : h - l = 0
  ·exact .inl e
  ·right
   refine ⟨k, o, rfl, ?_⟩
   rw [if_neg (by omega)]
   show some ((⟨k, o, none⟩ : Addr).add (l * s)) = _
   rw [add_at]
theorem sound_slice (hT : TabOK C.P T) {t : TypeId} {x : Operand} {lo hi : Option Operand} (ho : o.op = .slice t x lo hi none) {row : TRow} (hrow : tget T t = some row) (hd : dstOk C.n o.dst = true) {res : Res}
  (h : (sliceP row (evalA st.tmps x) (lo.map (evalA st.tmps)) (hi.map (evalA st.tmps))).go st.roots = some res) : Sound C o st res := by
 unfold sliceP at h
 split at h
 case h_2 => cases h
 rename_i e te l hh he hlo hhi
 obtain ⟨hu, ⟨re, hre, hte⟩, hnz, hpl⟩ := (hT t row hrow).elem he
 have hsz : ∀ w, (sizeOf e).run C.P w = .ok te.sz w := fun w => by rw [(hT e re hre).sizeOf w, hte]
 have hrun : ∀ {D : Nat -> DRoot} {Sh : Nat -> Prop} {a : Act} {w : World} {A : Option Addr} {len cap : Nat}, Rel C st D Sh a w -> a.eval x = .slice A len cap -> len <= cap -> cutOk (l.getD 0) (hh.getD (len : Nat)) len = true -> (execOp a.eval o).run C.P w = .ok (.value (sliced A (l.getD 0).toNat (hh.getD (len : Nat)).toNat cap te.sz)) w := by
  intro D Sh a w A len cap hR hx hlc hc
  have := run_cut hu hsz (lo := lo.map a.eval) (hi := hi.map a.eval) (fun e => opt_none hlo e _) (fun e => opt_none hhi e _) (optI_eval hR hlo).2 (optI_eval hR hhi).2 hlc hc w (A := A)
  simp only [execOp, ho, hx, Option.map_none, Sem.run_bind, Sem.run_pure, Result.andThen_ok, this]
 generalize hxx : evalA st.tmps x = ax at h
 cases ax with
 | sh tx y =>
  cases tx with
  | sl o1 e1 t1 =>
   simp only at h
   cases hsb : Nat.beq t1.sz te.sz with
   | false => rw [hsb] at h; cases h
   | true =>
   rw [hsb] at h
   have hsz1 : t1.sz = te.sz := Nat.eq_of_beq_eq_true hsb
   simp only [cond_true, Prog.go] at h
   cases hc : cutOk (l.getD 0) (hh.getD (List.length y : Nat)) (List.length y) with
   | false => rw [hc] at h; cases h
   | true =>
    rw [hc] at h
    simp only [cond_true] at h
    cases h
    refine sound_quiet hd (fun D Sh a w hR => ?_)
    have hx := hR.eval x
    rw [hxx] at hx
    obtain ⟨cs, hcs, hv⟩ := hx
    have hcs' : Ty.RR w Sh (.sl o1 e1 t1) y cs := hcs
    obtain ⟨A, c, rfl, h1, h2, h3⟩ := hcs
    have hev : a.eval x = .slice A (List.length y) c := hv
    have hcc := hc
    unfold cutOk at hcc
    simp only [Bool.and_eq_true, decide_eq_true_eq] at hcc
    obtain ⟨⟨c1, c2⟩, c3⟩ := hcc
    obtain ⟨A', g1, g2⟩ := sliced_at (A := A) (l := (l.getD 0).toNat) (h := (hh.getD (List.length y : Nat)).toNat) (m := c) (s := te.sz) (by
     by_cases e0 : (hh.getD (List.length y : Nat)).toNat - (l.getD 0).toNat = 0
     ·exact .inl e0
     ·right
      have hlt : 0 < List.length y := by omega
      obtain ⟨b, o', hA, _⟩ := h3 0 _ (List.getElem?_eq_getElem hlt)
      exact ⟨b, o', hA⟩) (by omega) (by omega)
    have hr := hrun hR hev h1 hc
    rw [g1] at hr
    refine ⟨_, hr, ⟨_, RR_cut hcs' (lo := (l.getD 0).toNat) (n := (hh.getD (List.length y : Nat)).toNat - (l.getD 0).toNat) (by omega) (A' := A') (by rw [hsz1]; exact g2), rfl⟩⟩
  | _ => cases h
 | al id p s tx =>
  cases tx with
  | sl o1 e1 t1 =>
   cases o1 with
   | false => cases h
   | true =>
    simp only at h
    cases hsb : Nat.beq t1.sz te.sz with
    | false => rw [hsb] at h; cases h
    | true =>
    rw [hsb] at h
    have hsz1 : t1.sz = te.sz := Nat.eq_of_beq_eq_true hsb
    simp only [cond_true] at h
    obtain ⟨r, hr, hs1, hs2, h⟩ := withR_go h
    split at h
    case h_2 => cases h
    rename_i e2 t2 xs hgv
    simp only [Prog.go] at h
    cases hc : cutOk (l.getD 0) (hh.getD (List.length xs : Nat)) (List.length xs) with
    | false => rw [hc] at h; cases h
    | true =>
     rw [hc] at h
     simp only [cond_true] at h
     cases h
     refine sound_quiet hd (fun D Sh a w hR => ?_)
     have hx := hR.eval x
     rw [hxx] at hx
     obtain ⟨cs, ⟨_, r', hr', _, hcv⟩, hv⟩ := hx
     rw [hr] at hr'; cases hr'
     obtain ⟨b, u, hlk, hut, rfl⟩ := hcv hs2
     obtain ⟨hg, huok, _⟩ := hR.look hr hlk
     obtain ⟨ut, ud⟩ := u
     have hut : ut = .sl true e1 t1 := hut
     subst hut
     obtain ⟨⟨A, c⟩, ds⟩ := ud
     rw [hgv] at hg
     have hg : some (⟨.sl true e2 t2, xs⟩ : V) = some ⟨.sl true e1 t1, ds.map t1.er⟩ := hg
     cases hg
     rw [List.length_map] at hc ⊢
     have hev : a.eval x = .slice A ds.length c := hv
     have hcc := hc
     unfold cutOk at hcc
     simp only [Bool.and_eq_true, decide_eq_true_eq] at hcc
     obtain ⟨⟨c1, c2⟩, c3⟩ := hcc
     have hlc : ds.length <= c := by
      rcases huok with ⟨g1, g2⟩ | ⟨b', o', row', g1, g2, g3, _⟩
      ·have g2 : ds = [] := g2
       subst g2; exact Nat.zero_le _
      ·exact g3
     obtain ⟨A', g1, g2⟩ := sliced_at (A := A) (l := (l.getD 0).toNat) (h := (hh.getD (ds.length : Nat)).toNat) (m := c) (s := te.sz) (by
      by_cases e0 : (hh.getD (ds.length : Nat)).toNat - (l.getD 0).toNat = 0
      ·exact .inl e0
      ·right
       exact own_some huok (i := 0) (by omega)) (by omega) (by omega)
     have hr2 := hrun hR hev hlc hc
     rw [g1] at hr2
     exact ⟨_, hr2, ⟨_, ⟨r, hr, Nat.le_refl _, fun _ => ⟨b, e1, t1, A, c, ds, rfl, hlk, by omega, A', rfl, by rw [hsz1]; exact g2⟩⟩, rfl⟩⟩
  | _ => cases h
 | _ => cases h
end
end Go.Proofs.YtipaepbmdooekaaGreat.Vm
namespace Go.Proofs.YtipaepbmdooekaaGreat.Vm
open Go Go.RowKit
set_option linter.unusedVariables false
def flatC (t : Ty) (es : List t.dec) : List Value := es.flatMap t.cs
theorem flatC_len (t : Ty) : ∀ es : List t.dec, (flatC t es).length = es.length * t.sz
 | [] => by simp [flatC]
 | e :: es => by
  have : (flatC t (e :: es)) = t.cs e ++ flatC t es := rfl
  rw [this, List.length_append, flatC_len t es, Ty.cs_len, List.length_cons, Nat.add_mul, Nat.one_mul, Nat.add_comm]
theorem flatC_at (t : Ty) : ∀ (es : List t.dec) (i : Nat) (d : t.dec) (j : Nat) (v : Value), es[i]? = some d -> (t.cs d)[j]? = some v -> (flatC t es)[i * t.sz + j]? = some v
 | [], i, d, j, v, h, _ => by cases h
 | e :: es, 0, d, j, v, h, hj => by
  cases h
  show (t.cs e ++ flatC t es)[0 * t.sz + j]? = some v
  rw [Nat.zero_mul, Nat.zero_add, List.getElem?_append_left (List.getElem?_eq_some_iff.1 hj).1]; exact hj
 | e :: es, i + 1, d, j, v, h, hj => by
  have ih := flatC_at t es i d j v (by simpa using h) hj
  show (t.cs e ++ flatC t es)[(i + 1) * t.sz + j]? = some v
  rw [List.getElem?_append_right (by rw [Ty.cs_len, Nat.add_mul]; omega), Ty.cs_len, Nat.add_mul, Nat.one_mul, show i * t.sz + t.sz + j - t.sz = i * t.sz + j by omega]
  exact ih
theorem flatC_from (t : Ty) (hz : t.sz ≠ 0) : ∀ (es : List t.dec) (k : Nat) (v : Value), (flatC t es)[k]? = some v -> ∃ i d j, es[i]? = some d /\ (t.cs d)[j]? = some v /\ k = i * t.sz + j
 | [], k, v, h => by cases h
 | e :: es, k, v, h => by
  have h : (t.cs e ++ flatC t es)[k]? = some v := h
  by_cases hk : k < t.sz
  ·rw [List.getElem?_append_left (by rw [Ty.cs_len]; exact hk)] at h
   exact ⟨0, e, k, rfl, h, by omega⟩
  ·rw [List.getElem?_append_right (by rw [Ty.cs_len]; omega), Ty.cs_len] at h
   obtain ⟨i, d, j, h1, h2, h3⟩ := flatC_from t hz es _ v h
   exact ⟨i + 1, d, j, by simpa using h1, h2, by rw [Nat.add_mul, Nat.one_mul]; omega⟩
theorem flatC_append (t : Ty) (es fs : List t.dec) : flatC t (es ++ fs) = flatC t es ++ flatC t fs := List.flatMap_append
def eHand (t : Ty) (es : List t.dec) : List DV := es.map (DV.mk t)
theorem eHand_foot (t : Ty) (es : List t.dec) : (eHand t es).flatMap DV.foot = es.flatMap t.foot := by
 unfold eHand
 rw [List.flatMap_map]
 rfl
section
variable {C : Ctx} {st : St} {D : Nat -> DRoot} {Sh Sh' : Nat -> Prop} {F : List DV} {a : Act} {w w' : World}
theorem el_one {t : Ty} {es : List t.dec} (h : ∀ v ∈ eHand t es, v.OK w Sh) : ∀ u ∈ flatC t es, u.oneCell' = true := by
 intro u hu
 obtain ⟨d, hd, hu⟩ := List.mem_flatMap.1 hu
 exact Ty.OK_one (h ⟨t, d⟩ (List.mem_map.2 ⟨d, hd, rfl⟩)) u hu
theorem RelF.open {e : TypeId} {t : Ty} {x : (Option Addr × Nat) × List t.dec} (h : RelF C st D Sh (⟨.sl true e t, x⟩ :: F) a w) : RelF C st D Sh (eHand t x.2 ++ F) a w := by
 have hsub : ∀ b ∈ (eHand t x.2 ++ F).flatMap DV.foot, b ∈ ((⟨.sl true e t, x⟩ : DV) :: F).flatMap DV.foot := by
  intro b hb
  rw [List.flatMap_append, eHand_foot] at hb
  rcases List.mem_append.1 hb with hb | hb
  ·exact List.mem_append_left _ (List.mem_append_right _ hb)
  ·exact List.mem_append_right _ hb
 refine ⟨h.rel, fun v hv => ?_, ?_, fun b hb => h.fdis b (hsub b hb)⟩
 ·rcases List.mem_append.1 hv with hv | hv
  ·obtain ⟨d, hd, rfl⟩ := List.mem_map.1 hv
   have hok : DV.OK w Sh ⟨.sl true e t, x⟩ := h.fok _ (by simp)
   rcases hok with ⟨_, hn⟩ | ⟨b, o, row, _, _, _, _, _, hel⟩
   ·rw [hn] at hd; cases hd
   ·obtain ⟨i, hi⟩ := List.mem_iff_getElem?.1 hd
    exact (hel i d hi).1
  ·exact h.fok v (List.mem_cons_of_mem _ hv)
 ·have hn : (((x.1.1.map (·.block)).toList ++ x.2.flatMap t.foot) ++ F.flatMap DV.foot).Nodup := h.fnd
  rw [List.flatMap_append, eHand_foot]
  rw [List.append_assoc] at hn
  exact (List.nodup_append.1 hn).2.1
theorem RelF.lowEs {t t' : Ty} (hl : lowB t t' = true) : ∀ {es : List t.dec} {Sh : Nat -> Prop} {F : List DV}, RelF C st D Sh (eHand t es ++ F) a w -> ∃ (Sh' : Nat -> Prop) (es' : List t'.dec), es'.map t'.er = (es.map t.er).map (cast (Ty.den_same (lowB_shr hl))) /\ flatC t' es' = flatC t es /\ es'.length = es.length /\
  (∀ b, Sh b -> Sh' b) /\ Keeps w w Sh Sh' st.roots st.roots D D /\ RelF C st D Sh' (eHand t' es' ++ F) a w
 | [], Sh, F, h => ⟨Sh, [], rfl, rfl, rfl, fun _ h => h, Keeps.grow (fun _ _ => rfl), h⟩
 | e :: es, Sh, F, h => by
  obtain ⟨Sh1, d', e1, e2, s1, K1, F1⟩ := RelF.low (u := ⟨t, e⟩) (F := eHand t es ++ F) h (t' := t') hl
  obtain ⟨Sh2, es', g1, g2, g3, s2, K2, F2⟩ := RelF.lowEs hl (es := es) (F := ⟨t', d'⟩ :: F) (F1.perm (List.perm_middle.symm))
  refine ⟨Sh2, d' :: es', ?_, ?_, by simp [g3], fun b hb => s2 b (s1 b hb), K1.trans K2, F2.perm List.perm_middle⟩
  ·simp only [List.map_cons, g1, e1]; rfl
  ·show t'.cs d' ++ flatC t' es' = t.cs e ++ flatC t es
   rw [g2]; congr 1
theorem RelF.rowNew {e : TypeId} {t : Ty} {es : List t.dec} {cap : Nat} {row : Array Value} (h : RelF C st D Sh (eHand t es ++ F) a w) (ho : w'.os = w.os) (ht : w'.tape = w.tape) (hp : w'.output = w.output) (hz : w'.heap.size = w.heap.size + 1) (hb : ∀ b, b < w.heap.size -> w'.heap[b]? = w.heap[b]?)
  (hrow : Row w' w.heap.size row e) (hc : ∀ (j : Nat) (v : Value), (flatC t es)[j]? = some v -> row[j]? = some v) (hl : es.length <= cap) (hm : cap <= maxLen) (hsz : cap * t.sz <= row.size) :
  Keeps w w' Sh Sh st.roots st.roots D D /\ RelF C st D Sh (⟨.sl true e t, ((some ⟨w.heap.size, 0, none⟩, cap), es)⟩ :: F) a w' := by
 have hlt : ∀ b ∈ (eHand t es ++ F).flatMap DV.foot, b < w.heap.size := fun b hb => (h.fdis b hb).2.2.1
 have hfe : (eHand t es ++ F).flatMap DV.foot = es.flatMap t.foot ++ F.flatMap DV.foot := by rw [List.flatMap_append, eHand_foot]
 have hnew : ((⟨.sl true e t, ((some ⟨w.heap.size, 0, none⟩, cap), es)⟩ : DV) :: F).flatMap DV.foot = w.heap.size :: (es.flatMap t.foot ++ F.flatMap DV.foot) := rfl
 refine h.turn ho ht hp (by omega) (fun b hb' _ => hb b hb') (fun v hv => ?_) ?_ (fun b hm' => ?_)
 ·rcases List.mem_cons.1 hv with rfl | hv
  ·refine .inr ⟨w.heap.size, 0, row, rfl, hrow, hl, hm, by rw [Nat.zero_add]; exact hsz, fun i d hi => ⟨?_, fun j v hj => ?_⟩⟩
   ·have hmem : (⟨t, d⟩ : DV) ∈ eHand t es := List.mem_map.2 ⟨d, List.mem_of_getElem? hi, rfl⟩
    exact Ty.OK_frame (fun b hs => hb b (h.rel.shn b hs).2) (fun _ h => h) (fun b hb' => hb b (hlt b (List.mem_flatMap.2 ⟨_, List.mem_append_left _ hmem, hb'⟩))) (h.fok _ (List.mem_append_left _ hmem))
   ·rw [Nat.zero_add]; exact hc _ v (flatC_at t es i d j v hi hj)
  ·exact Ty.OK_frame (fun b hs => hb b (h.rel.shn b hs).2) (fun _ h => h) (fun b hb' => hb b (hlt b (List.mem_flatMap.2 ⟨v, List.mem_append_right _ hv, hb'⟩))) (h.fok v (List.mem_append_right _ hv))
 ·rw [hnew, <- hfe]
  exact List.nodup_cons.2 ⟨fun hm' => Nat.lt_irrefl _ (hlt _ hm'), h.fnd⟩
 ·rw [hnew, <- hfe] at hm'
  rcases List.mem_cons.1 hm' with rfl | hm'
  ·exact .inr ⟨Nat.le_refl _, by omega⟩
  ·exact .inl hm'
theorem RelF.rowRoom {e : TypeId} {t : Ty} {es ds : List t.dec} {k o c : Nat} (hzt : t.sz ≠ 0) (h : RelF C st D Sh (⟨.sl true e t, ((some ⟨k, o, none⟩, c), ds)⟩ :: (eHand t es ++ F)) a w) (hroom : ds.length + es.length <= c) :
  (∀ (P : Program), (storeCells ⟨k, o + ds.length * t.sz, none⟩ (flatC t es)).run P w = .ok () (setR w k (o + ds.length * t.sz) (flatC t es))) /\
  Keeps w (setR w k (o + ds.length * t.sz) (flatC t es)) Sh Sh st.roots st.roots D D /\ RelF C st D Sh (⟨.sl true e t, ((some ⟨k, o, none⟩, c), ds ++ es)⟩ :: F) a (setR w k (o + ds.length * t.sz) (flatC t es)) := by
 have hok : DV.OK w Sh ⟨.sl true e t, ((some ⟨k, o, none⟩, c), ds)⟩ := h.fok _ (by simp)
 have hone := el_one (t := t) (es := es) (fun v hv => h.fok v (by simp [hv]))
 rcases hok with ⟨hn, _⟩ | ⟨k', o', row, hA, hrow, hl, hm, hfit, hel⟩
 ·cases hn
 have hA : some (⟨k, o, none⟩ : Addr) = some ⟨k', o', none⟩ := hA
 simp only [Option.some.injEq, Addr.mk.injEq, and_true] at hA
 obtain ⟨rfl, rfl⟩ := hA
 have hmul : ds.length * t.sz + es.length * t.sz <= c * t.sz := by rw [<- Nat.add_mul]; exact Nat.mul_le_mul_right _ hroom
 obtain ⟨r0, s1, s2, s3, s4, s5, row', r1, r2, r3, r4⟩ := setR_spec k e (flatC t es) w (o + ds.length * t.sz) row hrow (by rw [flatC_len]; have hfit : o + c * t.sz <= row.size := hfit; omega) hone
 have hnd : ((k :: ds.flatMap t.foot) ++ (es.flatMap t.foot ++ F.flatMap DV.foot)).Nodup := by
  have := h.fnd
  have e1 : ((⟨.sl true e t, ((some ⟨k, o, none⟩, c), ds)⟩ : DV) :: (eHand t es ++ F)).flatMap DV.foot = (k :: ds.flatMap t.foot) ++ (es.flatMap t.foot ++ F.flatMap DV.foot) := by
   rw [List.flatMap_cons, List.flatMap_append, eHand_foot]; rfl
  rw [e1] at this; exact this
 have hkn : k ∉ ds.flatMap t.foot ++ (es.flatMap t.foot ++ F.flatMap DV.foot) := (List.nodup_cons.1 (by simpa using hnd)).1
 have e1 : ((⟨.sl true e t, ((some ⟨k, o, none⟩, c), ds)⟩ : DV) :: (eHand t es ++ F)).flatMap DV.foot = (k :: ds.flatMap t.foot) ++ (es.flatMap t.foot ++ F.flatMap DV.foot) := by
  rw [List.flatMap_cons, List.flatMap_append, eHand_foot]; rfl
 have e2 : ((⟨.sl true e t, ((some ⟨k, o, none⟩, c), ds ++ es)⟩ : DV) :: F).flatMap DV.foot = (k :: ds.flatMap t.foot) ++ (es.flatMap t.foot ++ F.flatMap DV.foot) := by
  show (k :: (ds ++ es).flatMap t.foot) ++ F.flatMap DV.foot = _
  rw [List.flatMap_append]; simp
 have hsame : ∀ b, Sh b -> (setR w k (o + ds.length * t.sz) (flatC t es)).heap[b]? = w.heap[b]? := fun b hs => s5 b (fun eq => (h.fdis k (by rw [e1]; simp)).2.1 (eq ▸ hs))
 refine ⟨fun P => ?_, ?_⟩
 ·have := r0 P 0
  rw [if_pos (Nat.zero_le _)] at this
  exact this
 ·refine h.turn s1 s2 s3 (by omega) (fun b _ hb => s5 b (fun eq => hb (by subst eq; rw [e1]; simp))) (fun v hv => ?_) (by rw [e2, <- e1]; exact h.fnd) (fun b hb => .inl (by rw [e2] at hb; rw [e1]; exact hb))
  rcases List.mem_cons.1 hv with rfl | hv
  ·refine .inr ⟨k, o, row', rfl, r1, by show (ds ++ es).length <= c; rw [List.length_append]; exact hroom, hm, by rw [r2]; exact hfit, fun i d hi => ?_⟩
   replace hi : (ds ++ es)[i]? = some d := hi
   by_cases hlt : i < ds.length
   ·rw [List.getElem?_append_left hlt] at hi
    obtain ⟨g1, g2⟩ := hel i d hi
    refine ⟨Ty.OK_frame hsame (fun _ h => h) (fun b hb => s5 b (fun eq => hkn (List.mem_append_left _ (List.mem_flatMap.2 ⟨d, List.mem_of_getElem? hi, eq ▸ hb⟩)))) g1, fun j v hj => ?_⟩
    rw [r3]
    ·exact g2 j v hj
    ·left
     have hj' : j < t.sz := by rw [<- Ty.cs_len t d]; exact (List.getElem?_eq_some_iff.1 hj).1
     have : (i + 1) * t.sz <= ds.length * t.sz := Nat.mul_le_mul_right _ hlt
     rw [Nat.add_mul, Nat.one_mul] at this
     show o + i * t.sz + j < _
     omega
   ·rw [List.getElem?_append_right (by omega)] at hi
    have hmem : (⟨t, d⟩ : DV) ∈ eHand t es := List.mem_map.2 ⟨d, List.mem_of_getElem? hi, rfl⟩
    refine ⟨Ty.OK_frame hsame (fun _ h => h) (fun b hb => s5 b (fun eq => hkn (List.mem_append_right _ (List.mem_append_left _ (List.mem_flatMap.2 ⟨d, List.mem_of_getElem? hi, eq ▸ hb⟩))))) (h.fok ⟨t, d⟩ (by simp [hmem])), fun j v hj => ?_⟩
    have := r4 _ v (flatC_at t es _ d j v hi hj)
    rw [<- this]
    congr 1
    have : i * t.sz = ds.length * t.sz + (i - ds.length) * t.sz := by rw [<- Nat.add_mul]; congr 1; omega
    show o + i * t.sz + j = _
    omega
  ·exact Ty.OK_frame hsame (fun _ h => h) (fun b hb => s5 b (fun eq => hkn (List.mem_append_right _ (List.mem_append_right _ (List.mem_flatMap.2 ⟨v, hv, eq ▸ hb⟩))))) (h.fok v (by simp [hv]))
end
end Go.Proofs.YtipaepbmdooekaaGreat.Vm
namespace Go.Proofs.YtipaepbmdooekaaGreat.Vm
open Go Go.RowKit
set_option linter.unusedVariables false
def Kind (P : Program) (tx : TypeId) : Prop := (∃ e', P.underlying tx = some (.slice e')) \/ P.underlying tx = some .string
theorem src_of {P : Program} {tx : TypeId} (hk : Kind P tx) {w : World} {t : Ty} (hz : t.sz ≠ 0) {A : Option Addr} {c : Nat} {es : List t.dec} (hc : ∀ i d, es[i]? = some d -> ∃ b o, A = some ⟨b, o, none⟩ /\ ∀ j v, (t.cs d)[j]? = some v -> w.cell? ⟨b, o + i * t.sz + j, none⟩ = some v)
  (h1 : ∀ u ∈ flatC t es, u.oneCell' = true) : Src P t.sz tx (.slice A es.length c) es.length (flatC t es) w := by
 cases A with
 | none =>
  cases es with
  | nil => exact ⟨hk, fun _ => rfl, run_firstCells_none w t.sz 0 0 c, run_firstCells_none w.drew t.sz 0 0 c, by simp [flatC], fun _ h => by cases h⟩
  | cons d es => obtain ⟨b, o, hA, _⟩ := hc 0 d rfl; cases hA
 | some A =>
  have hcell : ∀ (j : Nat) (u : Value), (flatC t es)[j]? = some u -> w.cell? (A.add j) = some u := by
   intro k u hu
   obtain ⟨i, d, j, h1, h2, rfl⟩ := flatC_from t hz es k u hu
   obtain ⟨b, o, hA, h3⟩ := hc i d h1
   cases hA
   rw [add_at, <- Nat.add_assoc]
   exact h3 j u h2
  exact ⟨hk, fun _ => rfl, run_firstCells_some w t.sz es.length A es.length c _ (flatC_len t es) hcell, run_firstCells_some w.drew t.sz es.length A es.length c _ (flatC_len t es) (by simpa using hcell), flatC_len t es, h1⟩
theorem src_own {P : Program} {tx : TypeId} (hk : Kind P tx) {w : World} {Sh : Nat -> Prop} {e : TypeId} {t : Ty} (hz : t.sz ≠ 0) {A : Option Addr} {c : Nat} {ds : List t.dec} (h : DV.OK w Sh ⟨.sl true e t, ((A, c), ds)⟩) : Src P t.sz tx (.slice A ds.length c) ds.length (flatC t ds) w := by
 refine src_of hk hz (fun i d hi => ?_) (fun u hu => ?_)
 ·rcases h with ⟨_, hn⟩ | ⟨b, o, row, hA, hrow, _, _, _, hel⟩
  ·have hn : ds = [] := hn
   subst hn; cases hi
  ·refine ⟨b, o, hA, fun j v hj => ?_⟩
   rw [hrow.cell]
   exact (hel i d hi).2 j v hj
 ·obtain ⟨d, hd, hu⟩ := List.mem_flatMap.1 hu
  rcases h with ⟨_, hn⟩ | ⟨b, o, row, hA, hrow, _, _, _, hel⟩
  ·have hn : ds = [] := hn
   subst hn; cases hd
  ·obtain ⟨i, hi⟩ := List.mem_iff_getElem?.1 hd
   exact Ty.OK_one (hel i d hi).1 u hu
section
variable {C : Ctx} {st : St} {D : Nat -> DRoot} {Sh : Nat -> Prop} {F : List DV} {a : Act} {w : World} {T : List (TypeId × TRow)} {o : Oper}
theorem RelF.frees {t : Ty} : ∀ {es : List t.dec}, (∀ d ∈ es, t.OK w Sh d /\ t.foot d = []) -> RelF C st D Sh F a w -> RelF C st D Sh (eHand t es ++ F) a w
 | [], _, h => h
 | d :: es, hd, h => RelF.free (v := ⟨t, d⟩) (RelF.frees (fun d hm => hd d (by simp [hm])) h) (hd d (by simp)).1 (hd d (by simp)).2
theorem app_run (hT : TabOK C.P T) {t tx ty e : TypeId} (hu : C.P.underlying t = some (.slice e)) {re : TRow} (hre : tget T e = some re) {tm : Ty} (hsz : tm.sz = re.ty.sz) {A : Option Addr} {c : Nat} {ds es : List tm.dec}
  (hF : RelF C st D Sh (⟨.sl true e tm, ((A, c), ds)⟩ :: (eHand tm es ++ F)) a w) {vy : Value} (hs : Src C.P tm.sz tx vy es.length (flatC tm es) w) (hfit : fits (ds.length + es.length) re.bytes = true) :
  ∃ A' c' w', (Builtin.append_ #[t, tx] ty #[.slice A ds.length c, vy]).run C.P w = .ok (.slice A' (ds.length + es.length) c') w' /\ Keeps w w' Sh Sh st.roots st.roots D D /\ RelF C st D Sh (⟨.sl true e tm, ((A', c'), ds ++ es)⟩ :: F) a w' := by
 have hr := hT e re hre
 obtain ⟨i, hi, hi1, hi2, hi3⟩ := hr.info
 have hnz : tm.sz ≠ 0 := by rw [hsz]; exact hr.nz
 have hok : DV.OK w Sh ⟨.sl true e tm, ((A, c), ds)⟩ := hF.fok _ (by simp)
 have hisz : i.size = tm.sz := hi1.trans hsz.symm
 rw [<- hisz] at hs
 by_cases hroom : ds.length + es.length <= c
 ·rcases hok with ⟨h1, h2⟩ | ⟨k, off, row, hA, hrow, _⟩
  ·have h1 : (A, c) = (none, 0) := h1
   have h2 : ds = [] := h2
   cases h1
   subst h2
   have hes : es = [] := List.eq_nil_of_length_eq_zero (by simp at hroom; simpa using hroom)
   subst hes
   refine ⟨none, 0, w, ?_, Keeps.grow (fun _ _ => rfl), hF⟩
   have hl : (Builtin.lenOf vy).run C.P w = .ok 0 w := hs.len w
   have hc0 : (Builtin.firstCells i.size 0 vy).run C.P w = .ok #[] w := hs.cells
   rcases hs.kind with ⟨e', hk⟩ | hk <;> simp [Builtin.append_, run_underlying hu, run_underlying hk, sizeOf, typeInfo, hi, hl, hc0]
  ·have hA : A = some ⟨k, off, none⟩ := hA
   subst hA
   obtain ⟨g1, g2, g3⟩ := hF.rowRoom hnz hroom
   refine ⟨_, _, _, ?_, g2, g3⟩
   have g1 := g1 C.P
   have hcc := hs.cells
   rw [hisz] at hcc
   rcases hs.kind with ⟨e', hk⟩ | hk <;> simp [Builtin.append_, run_underlying hu, run_underlying hk, sizeOf, typeInfo, hi, hs.len, hroom, hcc, add_at, g1, hisz]
 ·have hlt : c < ds.length + es.length := by omega
  have hfit' : (ds.length + es.length) * re.bytes <= 140737488355328 := by simpa [fits] using hfit
  have hnb : 0 < re.bytes := Nat.pos_of_ne_zero hr.nb
  have hle : ds.length + es.length <= 140737488355328 := Nat.le_trans (Nat.le_mul_of_pos_right _ hnb) hfit'
  have hold := (src_own (tx := tx) hs.kind hnz hok).cellsD
  rw [<- hisz] at hold
  have hrun := run_append_grow_src (P := C.P) w t tx ty e i _ hu hi hi3 A ds.length c (flatC tm ds) hold vy es.length (flatC tm es) hs hlt (by omega) (growslice_fits hlt (by rw [hi2]; exact hfit'))
  refine ⟨_, _, _, hrun, ?_⟩
  have hcap := grownCap_ge w (ds.length + es.length) c e
  have hF2 : RelF C st D Sh (eHand tm (ds ++ es) ++ F) a w := by
   have := hF.open
   rw [show eHand tm (ds ++ es) ++ F = eHand tm ds ++ (eHand tm es ++ F) by unfold eHand; rw [List.map_append, List.append_assoc]]
   exact this
  have hzc : (mkw re.ty.agg re.ty.zeroC).cells.size = tm.sz := by
   rw [<- Array.length_toList, hr.zcells, Ty.zeroC_len _ hr.full, hsz]
  refine RelF.rowNew (es := ds ++ es) (row := (flatC tm ds ++ flatC tm es).toArray ++ Builtin.zeroCells (mkw re.ty.agg re.ty.zeroC).cells (grownCap w (ds.length + es.length) c e - (ds.length + es.length))) hF2 rfl rfl rfl (by simp) (fun b hb => by
    have := Below.heap_alloc w.drew (.cells ((flatC tm ds ++ flatC tm es).toArray ++ Builtin.zeroCells (mkw re.ty.agg re.ty.zeroC).cells (grownCap w (ds.length + es.length) c e - (ds.length + es.length))) e (0, 0)) b hb
    exact this) (Row.new (heap_new w.drew _)) (fun j v hj => ?_) (by rw [List.length_append]; exact hcap) (grownCap_le_maxLen w _ c e (by simp only [maxLen]; omega)) ?_
  ·rw [flatC_append] at hj
   rw [Array.getElem?_append_left (by simpa using (List.getElem?_eq_some_iff.1 hj).1)]
   simpa using hj
  ·simp only [Array.size_append, size_zeroCells, hzc, List.size_toArray, List.length_append, flatC_len]
   rw [<- Nat.add_mul, <- Nat.add_mul]
   refine Nat.mul_le_mul_right _ ?_
   omega
end
end Go.Proofs.YtipaepbmdooekaaGreat.Vm
namespace Go.Proofs.YtipaepbmdooekaaGreat.Vm
open Go Go.RowKit
set_option linter.unusedVariables false
theorem choose_idx {α β : Type} : ∀ {P : Nat -> α -> β -> Prop} (l : List α), (∀ i a, l[i]? = some a -> ∃ b, P i a b) -> ∃ l' : List β, l'.length = l.length /\ ∀ (i : Nat) (a : α) (b : β), l[i]? = some a -> l'[i]? = some b -> P i a b
 | P, [], _ => ⟨[], rfl, fun i a b h => by cases h⟩
 | P, x :: l, h => by
  obtain ⟨y, hy⟩ := h 0 x rfl
  obtain ⟨l', h1, h2⟩ := choose_idx (P := fun i => P (i + 1)) l (fun i a ha => h (i + 1) a (by simpa using ha))
  refine ⟨y :: l', by simp [h1], fun i a b ha hb => ?_⟩
  cases i with
  | zero => simp only [List.getElem?_cons_zero, Option.some.injEq] at ha hb; subst ha; subst hb; exact hy
  | succ i => exact h2 i a b (by simpa using ha) (by simpa using hb)
theorem map_of {α β : Type} {f : β -> α} {l : List α} {l' : List β} (hl : l'.length = l.length) (h : ∀ (i : Nat) (a : α) (b : β), l[i]? = some a -> l'[i]? = some b -> f b = a) : l'.map f = l := by
 refine List.ext_getElem? fun i => ?_
 rw [List.getElem?_map]
 cases ha : l[i]? with
 | none =>
  have : l'[i]? = none := by rw [List.getElem?_eq_none_iff] at ha ⊢; omega
  rw [this]; rfl
 | some a =>
  have hlt : i < l'.length := by have := (List.getElem?_eq_some_iff.1 ha).1; omega
  have hb : l'[i]? = some l'[i] := List.getElem?_eq_getElem hlt
  rw [hb, Option.map_some, h i a _ ha hb]
theorem flat_bytes : ∀ l : List UInt8, flatC (.int .u8) ((l.map fun c => ((c.toNat : Nat) : Int)) : List Int) = l.map fun b => Value.int .u8 b.toNat
 | [] => rfl
 | c :: l => by
  show Value.int .u8 ((c.toNat : Nat) : Int) :: flatC (.int .u8) ((l.map fun c => ((c.toNat : Nat) : Int)) : List Int) = _
  rw [flat_bytes l]; rfl
section
variable {C : Ctx} {st : St} {D : Nat -> DRoot} {Sh : Nat -> Prop} {F : List DV} {a : Act} {w : World} {T : Nat -> AV} {R : Nat -> Option Root} {o : Oper}
theorem rr_src {ob : Bool} {e : TypeId} {t : Ty} {xs : List t.den} {A : Option Addr} {c : Nat} (hp : t.plain = true) (hz : t.sz ≠ 0) (hRR : Ty.RR w Sh (.sl ob e t) xs [.slice A xs.length c]) (hF : RelF C st D Sh F a w) :
  ∃ es : List t.dec, es.map t.er = xs /\ RelF C st D Sh (eHand t es ++ F) a w /\ ∀ (P : Program) (tx : TypeId), Kind P tx -> Src P t.sz tx (.slice A xs.length c) es.length (flatC t es) w := by
 obtain ⟨A0, c0, hc, h1, h2, h3⟩ := hRR
 simp only [List.cons.injEq, Value.slice.injEq, and_true] at hc
 obtain ⟨rfl, _, rfl⟩ := hc
 obtain ⟨es, l1, l2⟩ := choose_idx (P := fun i (x : t.den) (d : t.dec) => t.er d = x /\ t.OK w Sh d /\ t.foot d = [] /\ ∃ b o, A = some ⟨b, o, none⟩ /\ ∀ j v, (t.cs d)[j]? = some v -> w.cell? ⟨b, o + i * t.sz + j, none⟩ = some v) xs (fun i x hx => by
  obtain ⟨b, o, hA, _, cc, hR, hcell⟩ := h3 i x hx
  obtain ⟨d, d1, d2, d3, d4⟩ := Ty.RR_dec hp hR
  exact ⟨d, d1, d3, d4, b, o, hA, by rw [d2]; exact hcell⟩)
 have hel : ∀ i d, es[i]? = some d -> t.OK w Sh d /\ t.foot d = [] /\ ∃ b o, A = some ⟨b, o, none⟩ /\ ∀ j v, (t.cs d)[j]? = some v -> w.cell? ⟨b, o + i * t.sz + j, none⟩ = some v := by
  intro i d hi
  have hlt : i < xs.length := by have := (List.getElem?_eq_some_iff.1 hi).1; omega
  exact (l2 i _ d (List.getElem?_eq_getElem hlt) hi).2
 have hF' : RelF C st D Sh (eHand t es ++ F) a w := RelF.frees (fun d hd => by
  obtain ⟨i, hi⟩ := List.mem_iff_getElem?.1 hd
  exact ⟨(hel i d hi).1, (hel i d hi).2.1⟩) hF
 refine ⟨es, map_of l1 (fun i x d hx hd => (l2 i x d hx hd).1), hF', fun P tx hk => ?_⟩
 rw [<- l1]
 exact src_of hk hz (fun i d hi => (hel i d hi).2.2) (el_one (fun v hv => hF'.fok v (List.mem_append_left _ hv)))
theorem srcP_ok {te : Ty} {y : AV} {ws ws' : Writes} {e2 : TypeId} {t2 : Ty} {ys : List t2.den} (h : (srcP te y ws).go R = some (⟨.sl true e2 t2, ys⟩, ws')) (hz : t2.sz ≠ 0) (hF : RelF C ⟨T, app ws R⟩ D Sh F a w) {v : Value} (hv : AVR w Sh (app ws R) D y v) :
  ∃ (D' : Nat -> DRoot) (Sh' : Nat -> Prop) (es : List t2.dec), es.map t2.er = ys /\ (∀ b, Sh b -> Sh' b) /\ Keeps w w Sh Sh' (app ws R) (app ws' R) D D' /\ RelF C ⟨T, app ws' R⟩ D' Sh' (eHand t2 es ++ F) a w /\
   ∀ (P : Program) (tx : TypeId), Kind P tx -> Src P t2.sz tx v es.length (flatC t2 es) w := by
 unfold srcP at h
 split at h
 ·rename_i o e t xs
  cases hp : (Ty.sl o e t).plain with
  | false => rw [hp] at h; cases h
  | true =>
   rw [hp] at h
   cases h
   simp only [Ty.plain, Bool.and_eq_true] at hp
   obtain ⟨cs, hc, hvv⟩ := hv
   have hc' : Ty.RR w Sh (.sl o e2 t2) ys cs := hc
   obtain ⟨A, c, rfl, _⟩ := hc
   obtain ⟨es, g1, g2, g3⟩ := rr_src hp.2 hz hc' hF
   have hvv : v = .slice A (List.length ys) c := hvv
   rw [hvv]
   exact ⟨D, Sh, es, g1, fun _ h => h, Keeps.grow (fun _ _ => rfl), g2, g3⟩
 ·cases h
  obtain ⟨cs, hc, hvv⟩ := hv
  cases hc
  have hvv : v = .slice none 0 0 := hvv
  rw [hvv]
  refine ⟨D, Sh, [], rfl, fun _ h => h, Keeps.grow (fun _ _ => rfl), hF, fun P tx hk => ?_⟩
  exact src_of (es := []) hk hz (fun i d hi => by cases hi) (fun u hu => by cases hu)
 ·rename_i id p s o e t
  cases hop : (o && t.plain) with
  | true =>
   rw [hop] at h
   simp only [cond_true] at h
   rw [Bool.and_eq_true] at hop
   obtain ⟨rfl, _⟩ := hop
   simp only [getR_go] at h
   cases hr : app ws R id with
   | none => rw [hr] at h; cases h
   | some r =>
    rw [hr] at h
    simp only at h
    cases hok : okR r s (depth p + 1) true with
    | false => rw [hok] at h; cases h
    | true =>
     rw [hok] at h
     simp only [cond_true] at h
     split at h
     case h_2 => cases h
     rename_i e t' xs hgv
     cases hfl : t'.plain with
     | false => rw [hfl] at h; cases h
     | true =>
      rw [hfl] at h
      cases h
      obtain ⟨b, A, c, ds, hl, hvv⟩ := al_slice hv hr (okR_spec hok).2
      obtain ⟨hg, huok, _⟩ := hF.rel.look hr hl
      rw [hgv] at hg
      cases hg
      have hF' : RelF C ⟨T, app ws R⟩ D Sh (eHand t2 ds ++ F) a w := RelF.frees (fun d hd => by
       obtain ⟨i, hi⟩ := List.mem_iff_getElem?.1 hd
       refine ⟨?_, Ty.plain_foot d hfl⟩
       rcases huok with ⟨_, hn⟩ | ⟨b, o, row, _, _, _, _, _, hx⟩
       ·have hn : ds = [] := hn
        rw [hn] at hi; cases hi
       ·exact (hx _ d hi).1) hF
      refine ⟨D, Sh, ds, rfl, fun _ h => h, Keeps.grow (fun _ _ => rfl), hF', fun P tx hk => ?_⟩
      rw [hvv]
      exact src_own hk hz huok
  | false =>
  rw [hop] at h
  simp only [cond_false] at h
  have hk := takeP_take h
  obtain ⟨cs, hc, hvv⟩ := hv
  obtain ⟨D', z, hz', hcs, hl, hg, K, F'⟩ := take_ok hk hF hc
  obtain ⟨zt, zd⟩ := z
  have hz' : (⟨zt, zt.er zd⟩ : V) = ⟨.sl true e2 t2, ys⟩ := hz'
  have hzt : zt = .sl true e2 t2 := congrArg V.t hz'
  subst hzt
  have hz' : (⟨.sl true e2 t2, (Ty.sl true e2 t2).er zd⟩ : V) = ⟨.sl true e2 t2, ys⟩ := hz'
  cases hz'
  obtain ⟨⟨A, c⟩, ds⟩ := zd
  have hvv2 : v = .slice A ds.length c := by
   rw [hvv, <- hcs]; rfl
  rw [hvv2]
  exact ⟨D', Sh, ds, rfl, fun _ h => h, K, F'.open, fun P tx hk => src_own hk hz (F'.fok ⟨.sl true e2 t2, ((A, c), ds)⟩ (by simp))⟩
 ·rename_i id p s o' e' t0 lo n
  simp only [getR_go] at h
  cases hr : app ws R id with
  | none => rw [hr] at h; cases h
  | some r =>
   rw [hr] at h
   simp only at h
   cases hok : okR r s (depth p + 1) true with
   | false => rw [hok] at h; cases h
   | true =>
    rw [hok] at h
    simp only [cond_true] at h
    split at h
    case h_2 => cases h
    rename_i e t' xs hgv
    cases hfl : t'.plain with
    | true =>
     rw [hfl] at h
     simp only [cond_true] at h
     cases h
     obtain ⟨b, e1, te1, A, c, ds, A', htt, hl, hlm, hvv, hA⟩ := cut_look hv hr (okR_spec hok).2
     obtain ⟨hg, huok, _⟩ := hF.rel.look hr hl
     rw [hgv] at hg
     have hg : some (⟨.sl true e2 t2, xs⟩ : V) = some ⟨.sl true e1 te1, ds.map te1.er⟩ := hg
     cases hg
     have hpl : t2.plain = true := hfl
     have hel : ∀ i d, ((ds.drop lo).take n)[i]? = some d -> i < n /\ ds[lo + i]? = some d := by
      intro i d hi
      rw [List.getElem?_take] at hi
      split at hi
      case isFalse => cases hi
      rename_i hlt
      rw [List.getElem?_drop] at hi
      exact ⟨hlt, hi⟩
     have hF' : RelF C ⟨T, app ws R⟩ D Sh (eHand t2 ((ds.drop lo).take n) ++ F) a w := RelF.frees (fun d hd => by
      obtain ⟨i, hi⟩ := List.mem_iff_getElem?.1 hd
      refine ⟨?_, Ty.plain_foot d hpl⟩
      rcases huok with ⟨_, hn⟩ | ⟨b, o, row, _, _, _, _, _, hx⟩
      ·have hn : ds = [] := hn
       have := (hel i d hi).2
       rw [hn] at this; cases this
      ·exact (hx _ d (hel i d hi).2).1) hF
     have hlen : ((ds.drop lo).take n).length = n := by rw [List.length_take, List.length_drop]; omega
     refine ⟨D, Sh, (ds.drop lo).take n, by rw [List.map_take, List.map_drop], fun _ h => h, Keeps.grow (fun _ _ => rfl), hF', fun P tx hk => ?_⟩
     rw [hvv]
     have := src_of (P := P) (tx := tx) (w := w) (A := A') (c := c - lo) (es := (ds.drop lo).take n) hk hz (fun i d hi => by
      obtain ⟨g1, g2⟩ := hel i d hi
      rcases hA with hA | ⟨k, o, hA, rfl⟩
      ·omega
      ·refine ⟨k, _, rfl, fun j v hj => ?_⟩
       rcases huok with ⟨_, hn⟩ | ⟨b', o'', row, hA2, hrow, _, _, _, hx⟩
       ·have hn : ds = [] := hn
        rw [hn] at g2; cases g2
       ·have hA2 : A = some ⟨b', o'', none⟩ := hA2
        rw [hA] at hA2; cases hA2
        rw [hrow.cell]
        have := (hx _ d g2).2 j v hj
        rw [show o + lo * t2.sz + i * t2.sz + j = o + (lo + i) * t2.sz + j by rw [Nat.add_mul]; omega]
        exact this) (el_one (fun v hv => hF'.fok v (List.mem_append_left _ hv)))
     rw [hlen] at this ⊢
     exact this
    | false =>
     rw [hfl] at h
     simp only [cond_false, Prog.go_bind] at h
     cases hq : (takeQ (.sl o' e' t0) (.cut id p s (.sl o' e' t0) lo n) ws).go R with
     | none => rw [hq] at h; cases h
     | some q =>
      obtain ⟨u, ws1⟩ := q
      rw [hq] at h
      simp only at h
      split at h
      case h_2 => cases h
      rename_i e3 t3 ys3
      cases hpl : t3.plain with
      | false => rw [hpl] at h; cases h
      | true =>
       rw [hpl] at h
       cases h
       obtain ⟨D1, Sh1, z, hzz, hvv, _, s1, K1, F1⟩ := takeQ_ok hq hF hv
       obtain ⟨zt, zd⟩ := z
       have hzt : zt = .sl false e2 t2 := congrArg V.t hzz
       subst hzt
       have hzz : (⟨.sl false e2 t2, zd.2⟩ : V) = ⟨.sl false e2 t2, ys⟩ := hzz
       cases hzz
       obtain ⟨⟨A, c⟩, xs3⟩ := zd
       have hRR : Ty.RR w Sh1 (.sl false e2 t2) xs3 [.slice A xs3.length c] := F1.fok ⟨.sl false e2 t2, ((A, c), xs3)⟩ (by simp)
       obtain ⟨es, g1, g2, g3⟩ := rr_src hpl hz hRR F1.drop
       have hvv : v = .slice A (List.length xs3) c := hvv
       rw [hvv]
       exact ⟨D1, Sh1, es, g1, s1, K1, g2, g3⟩
 ·rename_i b
  cases h
  have e := avr_str hv
  subst e
  have hsz : b.size = (bytesL b).length := by
   unfold bytesL
   rw [List.length_map, Array.length_toList]; rfl
  have hfl : flatC (.int .u8) (bytesL b) = byteCells b := by
   exact flat_bytes b.data.toList
  refine ⟨D, Sh, bytesL b, List.map_id _, fun _ h => h, Keeps.grow (fun _ _ => rfl), RelF.frees (fun d _ => ⟨trivial, rfl⟩) hF, fun P tx hk => ?_⟩
  show Src P 1 tx (.string b) (bytesL b).length (flatC (.int .u8) (bytesL b)) w
  rw [hfl, <- hsz]
  exact ⟨hk, fun _ => rfl, firstCells_string b w, firstCells_string b w.drew, by rw [byteCells_length, Nat.mul_one], fun u hu => by
   obtain ⟨_, _, rfl⟩ := List.mem_map.1 hu
   rfl⟩
 ·cases h
end
end Go.Proofs.YtipaepbmdooekaaGreat.Vm
namespace Go.Proofs.YtipaepbmdooekaaGreat.Vm
open Go Go.RowKit
set_option linter.unusedVariables false
theorem run_append_op {P : Program} {c : Call} (hc : c.callee = .builtin .append) {x y : Operand} {t tx : TypeId} (ha : c.args.toList = [x, y]) (hty : c.argTypes.toList = [t, tx]) {o : Oper} (ho : o.op = .call c) {a : Act} {w w' : World} {v : Value}
  (h : (Builtin.append_ #[t, tx] o.type #[a.eval x, a.eval y]).run P w = .ok v w') : (execOp a.eval o).run P w = .ok (.value v) w' := by
 have e1 : Array.map a.eval c.args = #[a.eval x, a.eval y] := by
  apply Array.ext'
  rw [Array.toList_map, ha]; rfl
 have e2 : c.argTypes = #[t, tx] := by
  apply Array.ext'
  rw [hty]
 simp only [execOp, ho, resolve, hc, invoke, builtin, e1, e2, Sem.run_bind, Sem.run_pure, Result.andThen_ok, h]
theorem lowB_elem {e : TypeId} {t t' : Ty} (h : lowB (.sl true e t) (.sl true e t') = true) : lowB t t' = true := by
 simp only [lowB, Bool.true_and, Bool.and_eq_true] at h
 exact h.2
theorem list_len_map {α β : Type} {f : α -> β} {es : List α} {ys : List β} (h : es.map f = ys) : ys.length = es.length := by rw [<- h, List.length_map]
section
variable {C : Ctx} {st : St} {D : Nat -> DRoot} {Sh : Nat -> Prop} {F : List DV} {a : Act} {w : World} {T : List (TypeId × TRow)} {o : Oper}
theorem sound_append (hT : TabOK C.P T) {c : Call} (ho : o.op = .call c) (hc : c.callee = .builtin .append) {x y : Operand} {t tx : TypeId} (ha : c.args.toList = [x, y]) (hty : c.argTypes.toList = [t, tx]) {row rx : TRow} (hrow : tget T t = some row) (hrx : tget T tx = some rx) (hk : kindOk rx = true)
  {e : TypeId} {te : Ty} (he : elemSz row = some (e, te)) {re : TRow} (hre : tget T e = some re) {d : Nat} (hd : o.dst = some d) (hdn : dstOk C.n o.dst = true) {res : Res}
  (h : (appendP row re.bytes (evalA st.tmps x) (evalA st.tmps y) d).go st.roots = some res) : Sound C o st res := by
 intro D Sh a w K Q hR hK
 obtain ⟨hu, ⟨re', hre', hte⟩, hnz, hpl⟩ := (hT t row hrow).elem he
 rw [hre] at hre'; cases hre'
 have hkind : Kind C.P tx := by
  have := (hT tx rx hrx).desc
  unfold DescOK at this
  unfold kindOk at hk
  cases hty' : rx.ty <;> rw [hty'] at hk this <;> first | exact .inr this | exact .inl ⟨_, this.2.1⟩ | cases hk
 unfold appendP at h
 rw [he] at h
 simp only [Prog.go_bind] at h
 cases h1 : (takeP row.ty (evalA st.tmps x) []).go st.roots with
 | none => rw [h1] at h; cases h
 | some q =>
  obtain ⟨u, ws1⟩ := q
  rw [h1] at h
  simp only at h
  cases h2 : (srcP te (evalA st.tmps y) ws1).go st.roots with
  | none => rw [h2] at h; cases h
  | some q =>
   obtain ⟨v, ws2⟩ := q
   rw [h2] at h
   simp only at h
   obtain ⟨D1, z, hz, hvx, hl, K1, F1⟩ := hR.take (hR.eval x) h1
   split at h
   case h_2 => cases h
   rename_i e1 t1 xs e2 t2 ys
   cases hb : Nat.beq t2.sz te.sz with
   | false => rw [hb] at h; cases h
   | true =>
    rw [hb] at h
    simp only [cond_true] at h
    have hsz2 : t2.sz = te.sz := Nat.eq_of_beq_eq_true hb
    obtain ⟨D2, Sh2, es, g1, s2, K2, F2, hsrc⟩ := srcP_ok (T := st.tmps) h2 (by rw [hsz2]; exact hnz) F1 (K1.avr (hR.eval y))
    have hlen : List.length ys = es.length := list_len_map g1
    split at h
    ·rename_i hax
     have hev : a.eval x = .slice none 0 0 := by
      have := hR.eval x
      rw [hax] at this
      obtain ⟨cs, hcs, hv⟩ := this
      cases hcs; exact hv
     simp only [Prog.go] at h
     cases hfit : fits (List.length ys) re.bytes with
     | false => rw [hfit] at h; cases h
     | true =>
      rw [hfit] at h
      simp only [newRoot, getR_go, cond_true] at h
      cases hn : app ws2 st.roots d with
      | some r => rw [hn] at h; cases h
      | none =>
       rw [hn] at h; cases h
       have F3 : RelF C ⟨st.tmps, app ws2 st.roots⟩ D2 Sh2 (⟨.sl true e t2, ((none, 0), [])⟩ :: (eHand t2 es ++ [])) a w := by
        rw [List.append_nil]
        exact RelF.free (v := ⟨.sl true e t2, ((none, 0), [])⟩) (RelF.drop (F2.perm (F' := z :: eHand t2 es) (List.perm_append_comm))) (.inl ⟨rfl, rfl⟩) rfl
       obtain ⟨A', c', w', r1, r2, r3⟩ := app_run (C := C) (st := ⟨st.tmps, app ws2 st.roots⟩) hT (tx := tx) (ty := o.type) hu hre (by rw [hsz2, hte]) F3 (hsrc C.P tx hkind) (by rw [List.length_nil, Nat.zero_add, <- hlen]; exact hfit)
       have r1' : (Builtin.append_ #[t, tx] o.type #[a.eval x, a.eval y]).run C.P w = .ok (.slice A' ([] ++ es).length c') w' := by
        rw [hev, List.nil_append]
        simpa using r1
       exact done_hold (C := C) (st := st) hd hdn hn r3 (run_append_op hc ha hty ho r1') rfl (congrArg (V.mk (.sl true e t2)) (by show ([] ++ es).map t2.er = ys; rw [List.nil_append]; exact g1)) hK
    ·cases hb2 : (Nat.beq e1 e && Nat.beq t1.sz te.sz) with
     | false => rw [hb2] at h; cases h
     | true =>
      rw [hb2] at h
      rw [Bool.and_eq_true] at hb2
      have hee := Nat.eq_of_beq_eq_true hb2.1
      subst hee
      have hsz1 : t1.sz = te.sz := Nat.eq_of_beq_eq_true hb2.2
      simp only [cond_true] at h
      split at h
      case h_2 => cases h
      rename_i xs' ys' hx' hy'
      simp only [Prog.go] at h
      cases hfit : fits (List.length xs + List.length ys) re.bytes with
      | false => rw [hfit] at h; cases h
      | true =>
       rw [hfit] at h
       simp only [newRoot, getR_go, cond_true] at h
       cases hn : app ws2 st.roots d with
       | some r => rw [hn] at h; cases h
       | none =>
        rw [hn] at h; cases h
        obtain ⟨hl1, hxx⟩ := toT_some (show toT ⟨.sl true e1 t1, xs⟩ (.sl true e1 (meetT t1 t2)) = some xs' from hx')
        obtain ⟨hl2, hyy⟩ := toT_some (show toT ⟨.sl true e2 t2, ys⟩ (.sl true e2 (meetT t1 t2)) = some ys' from hy')
        generalize meetT t1 t2 = tm at *
        obtain ⟨zt, zd⟩ := z
        have hzt : zt = .sl true e1 t1 := congrArg V.t hz
        subst hzt
        obtain ⟨⟨A, c0⟩, ds⟩ := zd
        have hz : (⟨.sl true e1 t1, ds.map t1.er⟩ : V) = ⟨.sl true e1 t1, xs⟩ := hz
        cases hz
        have hev : a.eval x = .slice A ds.length c0 := hvx
        obtain ⟨Sh3, d', p1, p2, s3, K3, F3⟩ := RelF.low (C := C) (u := ⟨.sl true e1 t1, ((A, c0), ds)⟩) (F := eHand t2 es) (F2.perm List.perm_append_comm) (t' := .sl true e1 tm) hl1
        obtain ⟨⟨A3, c3⟩, ds3⟩ := d'
        have p2 : [Value.slice A3 ds3.length c3] = [Value.slice A ds.length c0] := p2
        simp only [List.cons.injEq, Value.slice.injEq, and_true] at p2
        obtain ⟨rfl, p3, rfl⟩ := p2
        obtain ⟨Sh4, es', q1, q2, q3, s4, K4, F4⟩ := RelF.lowEs (C := C) (lowB_elem hl2) (es := es) (F := [⟨.sl true e1 tm, ((A3, c3), ds3)⟩]) (F3.perm (List.perm_append_comm (l₁ := [_])))
        have hszm : tm.sz = te.sz := by rw [<- Ty.sz_same (lowB_shr (lowB_elem hl2))]; exact hsz2
        have F5 : RelF C ⟨st.tmps, app ws2 st.roots⟩ D2 Sh4 (⟨.sl true e1 tm, ((A3, c3), ds3)⟩ :: (eHand tm es' ++ [])) a w := by
         rw [List.append_nil]
         exact F4.perm List.perm_append_comm
        have hs5 : Src C.P tm.sz tx (a.eval y) es'.length (flatC tm es') w := by
         have := hsrc C.P tx hkind
         rw [q2, q3, <- Ty.sz_same (lowB_shr (lowB_elem hl2))]; exact this
        obtain ⟨A', c', w', r1, r2, r3⟩ := app_run (C := C) (st := ⟨st.tmps, app ws2 st.roots⟩) hT (tx := tx) (ty := o.type) hu hre (by rw [hszm, hte]) F5 hs5 (by rw [p3, q3, <- hlen]; simpa using hfit)
        have r1' : (Builtin.append_ #[t, tx] o.type #[a.eval x, a.eval y]).run C.P w = .ok (.slice A' (ds3 ++ es').length c') w' := by
         rw [hev, <- p3, List.length_append]
         exact r1
        refine done_hold (C := C) (st := st) hd hdn hn r3 (run_append_op hc ha hty ho r1') rfl (congrArg (V.mk (.sl true e1 tm)) ?_) hK
        show (ds3 ++ es').map tm.er = xs' ++ ys'
        rw [List.map_append]
        congr 1
        ·rw [hxx]; exact p1
        ·rw [hyy, q1, g1]
         exact (Ty.cast_list (Ty.den_same (lowB_shr (lowB_elem hl2))) _ ys).symm
end
end Go.Proofs.YtipaepbmdooekaaGreat.Vm
namespace Go.Proofs.YtipaepbmdooekaaGreat.Vm
open Go Go.RowKit
set_option linter.unusedVariables false
theorem chunks {sz : Nat} : ∀ (n : Nat) (l : List Value), l.length = n * sz -> ∃ L : List (List Value), L.length = n /\ L.flatten = l /\ ∀ c ∈ L, c.length = sz
 | 0, l, h => ⟨[], rfl, (List.eq_nil_of_length_eq_zero (by simpa using h)).symm, fun c hc => by cases hc⟩
 | n + 1, l, h => by
  obtain ⟨L, h1, h2, h3⟩ := chunks (sz := sz) n (l.drop sz) (by rw [List.length_drop, h, Nat.add_mul, Nat.one_mul]; omega)
  refine ⟨l.take sz :: L, by simp [h1], by rw [List.flatten_cons, h2, List.take_append_drop], fun c hc => ?_⟩
  rcases List.mem_cons.1 hc with rfl | hc
  ·rw [List.length_take, h, Nat.add_mul, Nat.one_mul]; exact Nat.min_eq_left (by omega)
  ·exact h3 c hc
theorem flatten_uniform {sz : Nat} : ∀ (L : List (List Value)), (∀ c ∈ L, c.length = sz) -> L.flatten.length = L.length * sz
 | [], _ => by simp
 | c :: L, h => by rw [List.flatten_cons, List.length_append, flatten_uniform L (fun d hd => h d (by simp [hd])), h c (by simp), List.length_cons, Nat.add_mul, Nat.one_mul]; omega
theorem putL_seq (f : Operand -> List Value) : ∀ (ps : List (Nat × Operand)) (n : Nat) (pre suf : List (List Value)), seqParts n ps = true -> pre.length = n -> suf.length = ps.length -> putL (ps.map fun p => (p.1, f p.2)) (pre ++ suf) = pre ++ ps.map fun p => f p.2
 | [], n, pre, suf, _, _, hs => by
  have : suf = [] := List.eq_nil_of_length_eq_zero (by simpa using hs)
  subst this; rfl
 | (i, x) :: ps, n, pre, [], h, hp, hs => by cases hs
 | (i, x) :: ps, n, pre, s :: suf, h, hp, hs => by
  simp only [seqParts, Bool.and_eq_true] at h
  have e := Nat.eq_of_beq_eq_true h.1
  subst e
  simp only [List.map_cons, putL]
  have hset : (pre ++ s :: suf).set i (f x) = (pre ++ [f x]) ++ suf := by
   rw [List.set_append_right _ _ (by omega), hp, Nat.sub_self]; simp
  rw [hset, putL_seq f ps (i + 1) (pre ++ [f x]) suf h.2 (by simp [hp]) (by simpa using hs)]
  simp
theorem seq_mem : ∀ (ps : List (Nat × Operand)) (n i : Nat) (x : Operand), seqParts n ps = true -> (i, x) ∈ ps -> n <= i /\ i < n + ps.length
 | [], n, i, x, _, h => by cases h
 | (j, y) :: ps, n, i, x, h, hm => by
  simp only [seqParts, Bool.and_eq_true] at h
  have e := Nat.eq_of_beq_eq_true h.1
  subst e
  rcases List.mem_cons.1 hm with hm | hm
  ·cases hm; simp
  ·have := seq_mem ps (j + 1) i x h.2 hm
   simp only [List.length_cons]; omega
section
variable {C : Ctx} {st : St} {D : Nat -> DRoot} {Sh : Nat -> Prop} {F : List DV} {a : Act} {w : World} {T : Nat -> AV} {R : Nat -> Option Root} {o : Oper}
theorem takeAll_ok {te : Ty} : ∀ {xs : List AV} {ws ws' : Writes} {us : List V} {D : Nat -> DRoot} {F : List DV} {vs : List Value}, (takeAll te xs ws).go R = some (us, ws') -> RelF C ⟨T, app ws R⟩ D Sh F a w -> AVRs w Sh (app ws R) D xs vs ->
  ∃ (D' : Nat -> DRoot) (zs : List DV), zs.map DV.er = us /\ vs = zs.map valV /\ (∀ z ∈ zs, like z.t te = true) /\ Keeps w w Sh Sh (app ws R) (app ws' R) D D' /\ RelF C ⟨T, app ws' R⟩ D' Sh (zs ++ F) a w
 | [], ws, ws', us, D, F, vs, h, hF, hv => by
  cases h
  have hv : vs = [] := hv
  subst hv
  exact ⟨D, [], rfl, rfl, (fun z hz => by cases hz), Keeps.grow (fun _ _ => rfl), hF⟩
 | x :: xs, ws, ws', us, D, F, vs, h, hF, hv => by
  simp only [takeAll, Prog.go_bind] at h
  cases h1 : (takeP te x ws).go R with
  | none => rw [h1] at h; cases h
  | some q =>
   obtain ⟨u, ws1⟩ := q
   rw [h1] at h
   simp only at h
   cases h2 : (takeAll te xs ws1).go R with
   | none => rw [h2] at h; cases h
   | some q2 =>
    obtain ⟨us2, ws2⟩ := q2
    rw [h2] at h; cases h
    obtain ⟨v, vs', rfl, hv1, hv2⟩ := hv
    have hk := takeP_take h1
    have hs : AVS w Sh (app ws R) D x v := avs_of_avr hv1 (fun e => by subst e; simp only [takeP] at h1; cases h1) (fun c e => by subst e; simp only [takeP] at h1; cases h1)
    obtain ⟨cs, hc, rfl⟩ := hs
    obtain ⟨D1, z, hz, hcs, hl, hg, K1, F1⟩ := take_ok hk hF hc
    obtain ⟨D2, zs, g1, g2, g3, K2, F2⟩ := takeAll_ok h2 F1 (hv2.mono K1)
    refine ⟨D2, z :: zs, by rw [List.map_cons, hz, g1], ?_, fun y hy => ?_, K1.trans K2, F2.perm List.perm_middle⟩
    ·rw [List.map_cons, g2]
     congr 1
     show mkw x.agg cs = mkw z.t.agg z.cs
     rw [hcs, hg, <- hz]; rfl
    ·rcases List.mem_cons.1 hy with rfl | hy
     ·rw [<- hz] at hl; exact hl
     ·exact g3 y hy
theorem uni_ok {t : Ty} : ∀ {zs : List DV} {xs : List t.den} {Sh : Nat -> Prop} {F : List DV}, uni t (zs.map DV.er) = some xs -> RelF C st D Sh (zs ++ F) a w -> ∃ (Sh' : Nat -> Prop) (es : List t.dec), es.map t.er = xs /\ es.map t.cs = zs.map DV.cs /\ (∀ b, Sh b -> Sh' b) /\
  Keeps w w Sh Sh' st.roots st.roots D D /\ RelF C st D Sh' (eHand t es ++ F) a w
 | [], xs, Sh, F, h, hF => by cases h; exact ⟨Sh, [], rfl, rfl, fun _ h => h, Keeps.grow (fun _ _ => rfl), hF⟩
 | z :: zs, xs, Sh, F, h, hF => by
  simp only [List.map_cons, uni] at h
  cases h1 : toT z.er t with
  | none => rw [h1] at h; cases h
  | some x =>
   cases h2 : uni t (zs.map DV.er) with
   | none => rw [h1, h2] at h; cases h
   | some xs2 =>
    rw [h1, h2] at h; cases h
    obtain ⟨hl, hx⟩ := toT_some h1
    obtain ⟨Sh1, d', e1, e2, s1, K1, F1⟩ := RelF.low (F := zs ++ F) hF (t' := t) hl
    obtain ⟨Sh2, es, g1, g2, s2, K2, F2⟩ := uni_ok (F := ⟨t, d'⟩ :: F) h2 (F1.perm List.perm_middle.symm)
    refine ⟨Sh2, d' :: es, ?_, ?_, fun b hb => s2 b (s1 b hb), K1.trans K2, F2.perm List.perm_middle⟩
    ·rw [List.map_cons, g1, hx, e1]; rfl
    ·rw [List.map_cons, List.map_cons, g2, e2]
theorem sound_buildSlice {TT : List (TypeId × TRow)} (hT : TabOK C.P TT) {t : TypeId} {len : Nat} {ps : Array (Nat × Operand)} (ho : o.op = .buildSlice t len ps) {row : TRow} (hrow : tget TT t = some row) {d : Nat} (hd : o.dst = some d) (hdn : dstOk C.n o.dst = true) {res : Res}
  (h : (buildSliceP row len ps.toList (evalA st.tmps) d).go st.roots = some res) : Sound C o st res := by
 intro D Sh a w K Q hR hK
 unfold buildSliceP at h
 split at h
 case h_2 => cases h
 rename_i e te he
 obtain ⟨hu, ⟨re, hre, hte⟩, hnz, hpl⟩ := (hT t row hrow).elem he
 have hr := hT e re hre
 obtain ⟨i, hi, hi1, hi2, hi3⟩ := hr.info
 have hisz : i.size = te.sz := by rw [hi1, hte]
 cases hb : (seqParts 0 ps.toList && Nat.beq ps.toList.length len && Nat.ble (len * te.sz) 16777216) with
 | false => rw [hb] at h; cases h
 | true =>
  rw [hb] at h
  simp only [cond_true, Prog.go_bind] at h
  rw [Bool.and_eq_true, Bool.and_eq_true] at hb
  obtain ⟨⟨hseq, hlen⟩, hbig⟩ := hb
  have hlen := Nat.eq_of_beq_eq_true hlen
  have hbig : len * te.sz <= 16777216 := by simpa [Nat.ble_eq] using hbig
  cases h1 : (takeAll te (ps.toList.map fun p => evalA st.tmps p.2) []).go st.roots with
  | none => rw [h1] at h; cases h
  | some q =>
   obtain ⟨us, ws⟩ := q
   rw [h1] at h
   simp only at h
   have hav := avrs_map (T := st.tmps) hR (ps.toList.map (·.2))
   rw [List.map_map, List.map_map] at hav
   obtain ⟨D1, zs, g1, g2, g3, K1, F1⟩ := takeAll_ok (T := st.tmps) (ws := []) h1 hR.F hav
   have hzl : zs.length = len := by
    have := congrArg List.length g2
    simp only [List.length_map] at this
    rw [<- this, <- hlen]
   have hlenm : len <= maxLen := by
    have : len <= len * te.sz := Nat.le_mul_of_pos_right _ (Nat.pos_of_ne_zero hnz)
    simp only [maxLen]; omega
   have hparts : (ps.map fun (i, x) => (i, a.eval x)).toList = ps.toList.map fun p => (p.1, a.eval p.2) := by rw [Array.toList_map]
   -- what the machine does
   have run : ∀ (t2 : Ty) (es : List t2.dec), t2.sz = te.sz -> es.map t2.cs = zs.map DV.cs -> ∃ row : Array Value, row.toList = flatC t2 es /\ (execOp a.eval o).run C.P w = .ok (.value (.slice (some ⟨w.heap.size, 0, none⟩) len len)) (w.alloc (.cells row e)) := by
    intro t2 es hsz hcs
    have hvals : ps.toList.map (fun p => (a.eval p.2).cells.toList) = zs.map DV.cs := by
     have e1 : ps.toList.map (fun p => (a.eval p.2).cells.toList) = (ps.toList.map (a.eval ∘ fun p => p.2)).map fun v => v.cells.toList := by rw [List.map_map]; rfl
     rw [e1, g2, List.map_map]
     refine List.map_congr_left fun z hz => ?_
     exact mkw_cells (u := z.er) rfl (F1.fok z (List.mem_append_left _ hz))
    have hflat : (zs.map DV.cs).flatten = flatC t2 es := by
     rw [<- hcs]
     exact List.flatMap_def.symm
    by_cases h0 : len = 0
    ·have hps : ps = #[] := by
      apply Array.eq_empty_of_size_eq_zero
      rw [<- Array.length_toList, hlen, h0]
     have hzs : zs = [] := List.eq_nil_of_length_eq_zero (by rw [hzl, h0])
     refine ⟨#[], ?_, ?_⟩
     ·rw [<- hflat, hzs]; rfl
     ·subst hps; subst h0
      simp [execOp, ho, Instr.buildSlice, run_underlying hu, sizeOf, typeInfo, hi, Instr.fill, newRow]
      congr 2
      apply Array.ext'
      simp [Array.range]
    ·let zc := (mkw re.ty.agg re.ty.zeroC).cells
     let arr : Array Value := (Array.range (len * i.size)).map (zc[· % zc.size]!)
     obtain ⟨L, l1, l2, l3⟩ := chunks (sz := te.sz) len arr.toList (by simp [arr, hisz])
     have htk : ∀ i, i <= len -> (L.take i).flatten.length = i * te.sz := fun i hi' => by
      rw [flatten_uniform (sz := te.sz) _ (fun c hc => l3 c (List.mem_of_mem_take hc)), List.length_take, l1, Nat.min_eq_left hi']
     obtain ⟨row, f1, f2⟩ := fill_spec (fun j => some (j * i.size, i.size)) (ps.toList.map fun p => (p.1, a.eval p.2)) L arr l2.symm (fun j v hj => by
       obtain ⟨⟨j', x⟩, hm, hjx⟩ := List.mem_map.1 hj
       cases hjx
       have hlt := (seq_mem _ 0 _ _ hseq hm).2
       rw [Nat.zero_add, hlen] at hlt
       have hL : L[j']? = some L[j'] := List.getElem?_eq_getElem (by rw [l1]; exact hlt)
       refine ⟨_, hL, ?_⟩
       rw [l3 _ (List.mem_of_getElem? hL)]
       have hmv : (a.eval x).cells.toList ∈ ps.toList.map (fun p => (a.eval p.2).cells.toList) := List.mem_map.2 ⟨(j', x), hm, rfl⟩
       rw [hvals] at hmv
       obtain ⟨z, hz, hzc⟩ := List.mem_map.1 hmv
       rw [<- Array.length_toList, <- hzc]
       exact (Ty.cs_len z.t z.d).trans (like_sz (g3 z hz)))
      (fun j c hj => by
       have hlt := (List.getElem?_eq_some_iff.1 hj).1
       rw [htk j (by omega), l3 c (List.mem_of_getElem? hj), hisz])
     have hput := putL_seq (fun x => (a.eval x).cells.toList) ps.toList 0 [] L hseq rfl (by rw [l1, hlen])
     have f2' : row.toList = flatC t2 es := by
      rw [f2, List.map_map]
      show (putL (ps.toList.map fun p => (p.1, (a.eval p.2).cells.toList)) L).flatten = _
      rw [List.nil_append] at hput
      rw [hput, List.nil_append, hvals, hflat]
     refine ⟨row, f2', ?_⟩
     have hrb := run_buildSlice (P := C.P) w t e len (ps.map fun (i, x) => (i, a.eval x)) row i _ hu hi hi3 (by rw [hisz]; omega) (by rw [hisz]; exact Nat.mul_ne_zero h0 hnz) (by rw [hparts]; exact f1)
     simp only [execOp, ho, Sem.run_bind, Sem.run_pure, Result.andThen_ok, hrb]
   -- a new row of them
   have fin : ∀ (t2 : Ty) (es : List t2.dec) (xs : List t2.den) (D2 : Nat -> DRoot) (Sh2 : Nat -> Prop), t2.sz = te.sz -> es.map t2.cs = zs.map DV.cs -> es.map t2.er = xs -> RelF C ⟨st.tmps, app ws st.roots⟩ D2 Sh2 (eHand t2 es ++ []) a w ->
     (newRoot d ⟨.sl true e t2, xs⟩ ws).go st.roots = some res -> o.wp C.P a w K Q := by
    intro t2 es xs D2 Sh2 hsz hcs her hF h
    simp only [newRoot, getR_go] at h
    cases hn : app ws st.roots d with
    | some r => rw [hn] at h; cases h
    | none =>
     rw [hn] at h; cases h
     obtain ⟨row, hrow', hrun⟩ := run t2 es hsz hcs
     have hel : es.length = len := by
      have := congrArg List.length hcs
      simp only [List.length_map] at this
      rw [this, hzl]
     have hrs : row.size = len * te.sz := by rw [<- Array.length_toList, hrow', flatC_len, hel, hsz]
     obtain ⟨_, F3⟩ := RelF.rowNew (e := e) (cap := len) (row := row) (w' := w.alloc (.cells row e)) hF rfl rfl rfl (by simp) (fun b hb => Below.heap_alloc _ _ _ hb) (Row.new (heap_new w _)) (fun j v hj => by rw [<- hrow'] at hj; simpa using hj) (by omega) hlenm (by rw [hrs, hsz]; exact Nat.le_refl _)
     refine done_hold (C := C) (st := st) hd hdn hn F3 ?_ rfl (congrArg (V.mk (.sl true e t2)) her) hK
     rw [hrun]
     show _ = Result.ok (Next.value (.slice (some ⟨w.heap.size, 0, none⟩) es.length len)) _
     rw [hel]
   cases us with
   | nil =>
    have hzs : zs = [] := List.map_eq_nil_iff.1 g1
    subst hzs
    exact fin te.own [] [] D1 Sh (Ty.own_sz te) rfl rfl F1 h
   | cons v vs =>
    simp only at h
    cases hun : uni (meetL v.t vs) (v :: vs) with
    | none => rw [hun] at h; cases h
    | some xs =>
     rw [hun] at h
     simp only at h
     rw [<- g1] at hun
     obtain ⟨Sh2, es, q1, q2, s2, K2, F2⟩ := uni_ok hun F1
     refine fin _ es xs D1 Sh2 ?_ q2 q1 F2 h
     -- its size
     cases zs with
     | nil => cases g1
     | cons z zs =>
      cases es with
      | nil => cases q2
      | cons d' es =>
       simp only [List.map_cons, List.cons.injEq] at q2
       have e1 := congrArg List.length q2.1
       rw [Ty.cs_len] at e1
       rw [e1]
       exact (Ty.cs_len z.t z.d).trans (like_sz (g3 z (by simp)))
end
end Go.Proofs.YtipaepbmdooekaaGreat.Vm
namespace Go.Proofs.YtipaepbmdooekaaGreat.Vm
open Go Go.RowKit
set_option linter.unusedVariables false
theorem putL_len : ∀ (ps : List (Nat × List Value)) (L : List (List Value)), (putL ps L).length = L.length
 | [], L => rfl
 | (i, c) :: ps, L => by simp only [putL]; rw [putL_len ps]; simp
theorem look_asc : ∀ {ps : List (Nat × Operand)} {n i : Nat}, ascend n ps = true -> i < n -> lookN ps i = none
 | [], n, i, _, _ => rfl
 | (j, x) :: ps, n, i, h, hi => by
  simp only [ascend, Bool.and_eq_true, Nat.ble_eq] at h
  simp only [lookN]
  rw [nbeq (show j ≠ i by omega)]
  exact look_asc h.2 (by omega)
theorem look_mem : ∀ {ps : List (Nat × Operand)} {n i : Nat} {x : Operand}, ascend n ps = true -> (i, x) ∈ ps -> lookN ps i = some x
 | [], n, i, x, _, h => by cases h
 | (j, y) :: ps, n, i, x, h, hm => by
  simp only [ascend, Bool.and_eq_true, Nat.ble_eq] at h
  simp only [lookN]
  rcases List.mem_cons.1 hm with hm | hm
  ·injection hm with e1 e2
   subst e1; subst e2
   rw [show Nat.beq i i = true by simp]; rfl
  ·have hl := look_mem h.2 hm
   by_cases e : j = i
   ·subst e
    rw [look_asc h.2 (by omega)] at hl; cases hl
   ·rw [nbeq e]; exact hl
theorem putL_get (f : Operand -> List Value) : ∀ {ps : List (Nat × Operand)} {n : Nat} {L : List (List Value)} {i : Nat} {c : List Value}, ascend n ps = true -> L[i]? = some c -> (putL (ps.map fun p => (p.1, f p.2)) L)[i]? = some (((lookN ps i).map f).getD c)
 | [], n, L, i, c, _, h => h
 | (j, x) :: ps, n, L, i, c, h, hc => by
  simp only [ascend, Bool.and_eq_true, Nat.ble_eq] at h
  simp only [List.map_cons, putL, lookN]
  by_cases e : j = i
  ·subst e
   rw [show Nat.beq j j = true by simp, putL_get f h.2 (c := f x) (by rw [getElem?_set_self' hc]), look_asc h.2 (by omega)]
   rfl
  ·rw [nbeq e, putL_get f h.2 (c := c) (by rw [List.getElem?_set_ne e]; exact hc)]
   rfl
theorem partL_get (f : Nat -> Option (List Value)) : ∀ (L : List (List Value)) (k i : Nat), (partL f k L)[i]? = L[i]?.map fun c => (f (k + i)).getD c
 | [], k, i => rfl
 | c :: L, k, 0 => rfl
 | c :: L, k, i + 1 => by
  simp only [partL, List.getElem?_cons_succ]
  rw [partL_get f L (k + 1) i, show k + 1 + i = k + (i + 1) by omega]
theorem putL_part (f : Operand -> List Value) {ps : List (Nat × Operand)} {n : Nat} (h : ascend n ps = true) (L : List (List Value)) : putL (ps.map fun p => (p.1, f p.2)) L = partL (fun i => (lookN ps i).map f) 0 L := by
 refine List.ext_getElem? fun i => ?_
 rw [partL_get, Nat.zero_add]
 cases hc : L[i]? with
 | none =>
  rw [List.getElem?_eq_none_iff] at hc
  rw [Option.map_none, List.getElem?_eq_none_iff, putL_len]; exact hc
 | some c => rw [putL_get f h hc]; rfl
theorem zeroL_len {T : List (TypeId × TRow)} : ∀ {off : Nat} {ty : Ty} {ts : List TypeId} {fs : List Field}, FldOK T off ty ts fs -> (zeroL ty).length = ts.length
 | off, .nil, [], [], _ => rfl
 | off, .cons a r, t :: ts, f :: fs, h => by simp only [zeroL, List.length_cons, zeroL_len h.2.2.2.2.2]
 | off, .nil, _ :: _, _, h => by cases h
 | off, .nil, [], _ :: _, h => by cases h
 | off, .cons _ _, [], _, h => by cases h
 | off, .cons _ _, _ :: _, [], h => by cases h
 | off, .int _, _, _, h | off, .bool, _, _, h | off, .str, _, _, h | off, .hole, _, _, h | off, .sl _ _ _, _, _, h => by cases h
section
variable {C : Ctx} {st : St} {D : Nat -> DRoot} {Sh : Nat -> Prop} {F : List DV} {a : Act} {w : World} {T : List (TypeId × TRow)} {o : Oper}
theorem fit_val {x : Operand} {ty : Ty} {av : AV} (hR : Rel C st D Sh a w) (h : (fitP ty (evalA st.tmps x) (.ret (evalA st.tmps x))).go st.roots = some av) :
  av = evalA st.tmps x /\ ∃ cs, AVC w Sh st.roots D av cs /\ (a.eval x).cells.toList = cs /\ cs.length = ty.sz := by
 have hx := hR.eval x
 generalize evalA st.tmps x = ax at h hx
 have h1 := (fit_go (C := C) h).1
 cases h1
 refine ⟨rfl, ?_⟩
 have hs : AVS w Sh st.roots D av (a.eval x) := avs_of_avr hx (fun e => by subst e; simp only [fitP] at h; cases h) (fun c e => by subst e; simp only [fitP] at h; cases h)
 obtain ⟨cs, hc, hv⟩ := hs
 obtain ⟨g1, g2, g3⟩ := (fit_go (C := C) h).2 rfl hR cs hc
 refine ⟨cs, hc, ?_, g1⟩
 rw [hv, g2]
 exact cells_mkw (fun hg => one_of (t := ty) g1 g3 hg)
theorem buildC_ok (hR : Rel C st D Sh a w) {ps : List (Nat × Operand)} : ∀ {ty : Ty} {i : Nat} {av : AV}, ty.full = true -> (buildC (evalA st.tmps) ps i ty).go st.roots = some av ->
  AVC w Sh st.roots D av (partL (fun j => (lookN ps j).map fun x => (a.eval x).cells.toList) i (zeroL ty)).flatten /\ av.agg = true /\
   ∀ j c x, (zeroL ty)[j]? = some c -> lookN ps (i + j) = some x -> (a.eval x).cells.toList.length = c.length
 | .nil, i, av, hf, h => by
  cases h
  exact ⟨rfl, rfl, fun j c x hj => by cases hj⟩
 | .cons t r, i, av, hf, h => by
  simp only [Ty.full, Bool.and_eq_true] at hf
  simp only [buildC, Prog.go_bind] at h
  -- the first field
  have first : ∀ {q : AV}, (match lookN ps i with
    | some x => fitP t (evalA st.tmps x) (.ret (evalA st.tmps x))
    | none => .ret (zeroA t) : Prog AV).go st.roots = some q ->
    AVC w Sh st.roots D q (((lookN ps i).map fun x => (a.eval x).cells.toList).getD t.zeroC) /\ ∀ x, lookN ps i = some x -> (a.eval x).cells.toList.length = t.zeroC.length := by
   intro q hq
   cases hl : lookN ps i with
   | none =>
    rw [hl] at hq; cases hq
    exact ⟨zeroA_avc hf.1, fun x e => by cases e⟩
   | some x =>
    rw [hl] at hq
    obtain ⟨rfl, cs, hc, hcs, hlen⟩ := fit_val hR hq
    refine ⟨by show AVC w Sh st.roots D _ (a.eval x).cells.toList; rw [hcs]; exact hc, fun y e => ?_⟩
    cases e
    rw [hcs, hlen, Ty.zeroC_len t hf.1]
  cases h1 : (match lookN ps i with
    | some x => fitP t (evalA st.tmps x) (.ret (evalA st.tmps x))
    | none => .ret (zeroA t) : Prog AV).go st.roots with
  | none => 
   have h1' := h1
   cases hl : lookN ps i with
   | none => rw [hl] at h1; cases h1
   | some x =>
    rw [hl] at h h1
    simp only at h h1
    rw [h1] at h; cases h
  | some q =>
   obtain ⟨f1, f2⟩ := first h1
   have h' : (match (buildC (evalA st.tmps) ps (i + 1) r).go st.roots with
    | some y => some (AV.consf q y)
    | none => none) = some av := by
    cases hl : lookN ps i with
    | none =>
     rw [hl] at h h1
     simp only at h h1
     rw [h1] at h
     simp only at h
     rw [<- h]
     cases (buildC (evalA st.tmps) ps (i + 1) r).go st.roots <;> rfl
    | some x =>
     rw [hl] at h h1
     simp only at h h1
     rw [h1] at h
     simp only at h
     rw [<- h]
     cases (buildC (evalA st.tmps) ps (i + 1) r).go st.roots <;> rfl
   cases h2 : (buildC (evalA st.tmps) ps (i + 1) r).go st.roots with
   | none => rw [h2] at h'; cases h'
   | some y =>
    rw [h2] at h'; cases h'
    obtain ⟨g1, _, g3⟩ := buildC_ok hR hf.2 h2
    refine ⟨⟨_, _, ?_, f1, g1⟩, rfl, fun j c x hj hx => ?_⟩
    ·simp only [zeroL, partL, List.flatten_cons]
    ·cases j with
     | zero =>
      simp only [zeroL, List.getElem?_cons_zero, Option.some.injEq] at hj
      subst hj
      exact f2 x hx
     | succ j =>
      simp only [zeroL, List.getElem?_cons_succ] at hj
      exact g3 j c x hj (by rw [show i + 1 + j = i + (j + 1) by omega]; exact hx)
 | .int _, i, av, hf, h | .bool, i, av, hf, h | .str, i, av, hf, h | .hole, i, av, hf, h | .sl _ _ _, i, av, hf, h => by cases h
theorem sound_build (hT : TabOK C.P T) {t : TypeId} {ps : Array (Nat × Operand)} (ho : o.op = .build t ps) {row : TRow} (hrow : tget T t = some row) (hd : dstOk C.n o.dst = true) {av : AV}
  (h : (buildP row (evalA st.tmps) ps.toList).go st.roots = some av) : Sound C o st ⟨av, []⟩ := by
 refine sound_quiet hd (fun D Sh a w hR => ?_)
 have hr := hT t row hrow
 unfold buildP at h
 cases hb : (row.ty.agg && ascend 0 ps.toList && ps.toList.all (fun p => Nat.blt p.1 row.fs.length)) with
 | false => rw [hb] at h; cases h
 | true =>
  rw [hb] at h
  simp only [cond_true] at h
  rw [Bool.and_eq_true, Bool.and_eq_true] at hb
  obtain ⟨⟨hag, hasc⟩, hall⟩ := hb
  obtain ⟨fs, hu, hfo⟩ := hr.fields hag
  obtain ⟨i, hi, hi1, hi2, hi3⟩ := hr.info
  obtain ⟨g1, g2, g3⟩ := buildC_ok hR hr.full h
  obtain ⟨pl, p1, p2, p3⟩ := places_ok hT hfo hr.full
  have hzc : (mkw row.ty.agg row.ty.zeroC).cells.toList = (zeroL row.ty).flatten := by rw [hr.zcells, zeroL_flatten (fldOK_ended hfo)]
  obtain ⟨arr, f1, f2⟩ := fill_spec (pl.toArray[·]?) (ps.toList.map fun p => (p.1, a.eval p.2)) (zeroL row.ty) (mkw row.ty.agg row.ty.zeroC).cells hzc (fun j v hj => by
    obtain ⟨⟨j', x⟩, hm, hjx⟩ := List.mem_map.1 hj
    cases hjx
    have hlt := List.all_eq_true.1 hall _ hm
    have hlt : j' < (zeroL row.ty).length := by rw [zeroL_len hfo]; simpa [Nat.blt_eq] using hlt
    have hL : (zeroL row.ty)[j']? = some (zeroL row.ty)[j'] := List.getElem?_eq_getElem hlt
    refine ⟨_, hL, ?_⟩
    rw [<- Array.length_toList]
    exact g3 j' _ x hL (by rw [Nat.zero_add]; exact look_mem hasc hm))
   (fun j c hj => by
    have := p3 j c hj
    rw [Nat.zero_add] at this
    simpa using this)
  have hparts : (ps.map fun (i, x) => (i, a.eval x)).toList = ps.toList.map fun p => (p.1, a.eval p.2) := by rw [Array.toList_map]
  have hbuilt : C.P.built t (ps.map fun (i, x) => (i, a.eval x)).toList = some arr := by
   unfold Program.built
   rw [hi, hu]
   simp only [hi3, p1, hparts]
   exact f1
  have hrun := run_build (P := C.P) w t _ _ hbuilt
  refine ⟨.agg arr, ?_, avr_of_avs ⟨_, g1, ?_⟩⟩
  ·simp only [execOp, ho, Sem.run_bind, Sem.run_pure, Result.andThen_ok, hrun]
  ·rw [g2]
   show Value.agg arr = Value.agg _
   congr 1
   apply Array.ext'
   rw [f2, List.map_map]
   have := putL_part (fun x => (a.eval x).cells.toList) hasc (zeroL row.ty)
   show (putL (ps.toList.map fun p => (p.1, (a.eval p.2).cells.toList)) (zeroL row.ty)).flatten = _
   rw [this]
theorem bytes_push : ∀ (ns : List Int) (s : ByteArray), ns.foldl (fun r n => r.push (UInt8.ofNat n.toNat)) s = ⟨s.data ++ (ns.map fun n => UInt8.ofNat n.toNat).toArray⟩
 | [], s => by simp
 | n :: ns, s => by
  rw [List.foldl_cons, bytes_push ns]
  simp [ByteArray.push]
theorem ty_of {P : Program} {t : TypeId} {r : TRow} (h : RowOK P T t r) {ty : Ty} (e : r.ty = ty) : (match ty with
 | .int k => P.underlying t = some (.int k)
 | .str => P.underlying t = some .string
 | _ => True) := by
 have := h.desc
 unfold DescOK at this
 rw [e] at this
 cases ty <;> first | exact this | trivial
end
end Go.Proofs.YtipaepbmdooekaaGreat.Vm
namespace Go.Proofs.YtipaepbmdooekaaGreat.Vm
open Go Go.RowKit
set_option linter.unusedVariables false
section
variable {C : Ctx} {st : St} {D : Nat -> DRoot} {Sh : Nat -> Prop} {F : List DV} {a : Act} {w : World} {T : List (TypeId × TRow)} {o : Oper}
theorem desc_some {P : Program} {t : TypeId} {r : TRow} (h : RowOK P T t r) : ∃ k, P.underlying t = some k := by
 have := h.desc
 unfold DescOK at this
 cases hty : r.ty with
 | int k => rw [hty] at this; exact ⟨_, this⟩
 | bool => rw [hty] at this; exact ⟨_, this⟩
 | str => rw [hty] at this; exact ⟨_, this⟩
 | hole => rw [hty] at this; exact this.elim
 | sl o e t =>
  rw [hty] at this
  obtain ⟨_, h1, _⟩ := this
  exact ⟨_, h1⟩
 | nil =>
  rw [hty] at this
  obtain ⟨fs, h1, _⟩ := this
  exact ⟨_, h1⟩
 | cons a r =>
  rw [hty] at this
  obtain ⟨fs, h1, _⟩ := this
  exact ⟨_, h1⟩
theorem run_int {P : Program} {src dst : TypeId} {ks : TypeDesc} {k k' : IntKind} {n : Int} (hs : P.underlying src = some ks) (hd : P.underlying dst = some (.int k)) : (convert src dst (.int k' n)).run P w = .ok (.int k (k.wrap n)) w := by
 simp [convert, run_underlying hs, run_underlying hd, Conv.intToInt]
theorem run_text {P : Program} {A : Option Addr} {c : Nat} {xs : List Int} {e : TypeId} {o : Bool} (h : Ty.RR w Sh (.sl o e (.int .u8)) xs [.slice A xs.length c]) : (Conv.bytesToString (.slice A xs.length c)).run P w = .ok (.string (toBytes xs)) w := by
 obtain ⟨A0, c0, hc, h1, h2, h3⟩ := h
 simp only [List.cons.injEq, Value.slice.injEq, and_true] at hc
 obtain ⟨rfl, _, rfl⟩ := hc
 cases A with
 | none =>
  cases xs with
  | nil => rfl
  | cons x xs => obtain ⟨b, off, hA, _⟩ := h3 0 x rfl; cases hA
 | some A =>
  have hcell : ∀ (j : Nat) (u : Value), (xs.map (Value.int .u8))[j]? = some u -> w.cell? (A.add j) = some u := by
   intro j u hu
   rw [List.getElem?_map] at hu
   cases hx : xs[j]? with
   | none => rw [hx] at hu; cases hu
   | some x =>
    rw [hx] at hu; cases hu
    obtain ⟨b, off, hA, _, cc, hR, hcl⟩ := h3 j x hx
    cases hA
    have hR : cc = [Value.int .u8 x] := hR
    subst hR
    have := hcl 0 _ rfl
    rw [add_at]
    simpa [Ty.sz] using this
  have hl := run_loadCells_list (P := P) w A (xs.map (Value.int .u8)) hcell
  rw [List.length_map] at hl
  rw [run_bytesToString w A xs.length c xs hl, bytes_push]
  simp [toBytes, ByteArray.empty, ByteArray.emptyWithCapacity]
  rfl
theorem sound_conv (hT : TabOK C.P T) {s t : TypeId} {x : Operand} (ho : o.op = .convert s t x) {rs rd : TRow} (hrs : tget T s = some rs) (hrd : tget T t = some rd) (hd : dstOk C.n o.dst = true) {av : AV}
  (h : (convP rs rd (evalA st.tmps x)).go st.roots = some av) : Sound C o st ⟨av, []⟩ := by
 refine sound_quiet hd (fun D Sh a w hR => ?_)
 have hx := hR.eval x
 obtain ⟨ks, hks⟩ := desc_some (hT s rs hrs)
 have hex : ∀ v, (convert s t (a.eval x)).run C.P w = .ok v w -> (execOp a.eval o).run C.P w = .ok (.value v) w := by
  intro v hv
  simp only [execOp, ho, Sem.run_bind, Sem.run_pure, Result.andThen_ok, hv]
 unfold convP at h
 split at h
 ·rename_i k k' n hty hax
  cases h
  rw [hax] at hx
  have e := avr_int hx
  exact ⟨_, hex _ (by rw [e]; exact run_int hks (ty_of (hT t rd hrd) hty)), mk_int _ _⟩
 ·rename_i hty
  split at h
  case h_2 => cases h
  rename_i o1 e1 hrt
  rw [Prog.go_bind] at h
  cases h1 : (lendV rs.ty (evalA st.tmps x) []).go st.roots with
  | none => rw [h1] at h; cases h
  | some v =>
   rw [h1] at h
   simp only at h
   split at h
   case h_2 => cases h
   rename_i o2 e2 xs
   cases h
   have hs : AVS w Sh st.roots D (evalA st.tmps x) (a.eval x) := avs_of_avr hx (fun e => by rw [e, hrt] at h1; cases h1) (fun c e => by rw [e, hrt] at h1; cases h1)
   obtain ⟨cs, hc, hv⟩ := hs
   obtain ⟨g1, g2⟩ := lendV_ok (T := st.tmps) (ws := []) (Sh' := fun b => Sh b \/ lentIn st.roots D (lent (evalA st.tmps x)) b) hR (fun b hb => .inl hb) h1 (fun b hb => .inr hb) hc
   have g1' := g1
   obtain ⟨A, c, hcs, _⟩ := g1
   subst hcs
   have hev : a.eval x = .slice A (List.length xs) c := by rw [hv, g2]; rfl
   have hse : ∃ e, C.P.underlying s = some (.slice e) /\ C.P.underlying e = some (.int .u8) := by
    have := (hT s rs hrs).desc
    unfold DescOK at this
    rw [hrt] at this
    obtain ⟨_, h2, re, h3, h4, _⟩ := this
    exact ⟨_, h2, ty_of (hT _ re h3) h4⟩
   obtain ⟨e, he1, he2⟩ := hse
   refine ⟨_, hex _ ?_, mk_str _⟩
   rw [hev, run_convert_bytes_string w s t e A _ c he1 he2 (ty_of (hT t rd hrd) hty)]
   exact run_text g1'
 ·cases h
theorem sound_bytes (hT : TabOK C.P T) {s t : TypeId} {x : Operand} (ho : o.op = .convert s t x) {rs rd : TRow} (hrs : tget T s = some rs) (hrd : tget T t = some rd) {d : Nat} (hd : o.dst = some d) (hdn : dstOk C.n o.dst = true) {b : ByteArray} (hx0 : evalA st.tmps x = .sh .str b) {res : Res}
  (h : (bytesP rd b d).go st.roots = some res) : Sound C o st res := by
 intro D Sh a w K Q hR hK
 unfold bytesP at h
 split at h
 case h_2 => cases h
 rename_i e he
 obtain ⟨hu, ⟨re, hre, hte⟩, hnz, hpl⟩ := (hT t rd hrd).elem he
 have hr := hT e re hre
 obtain ⟨ks, hks⟩ := desc_some (hT s rs hrs)
 have hx := hR.eval x
 rw [hx0] at hx
 have hev := avr_str hx
 have hue : C.P.underlying e = some (.int .u8) := ty_of hr hte
 simp only [Prog.go] at h
 cases hf : fits b.size 1 with
 | false => rw [hf] at h; cases h
 | true =>
  rw [hf] at h
  have hfit : b.size <= 140737488355328 := by simpa [fits] using hf
  simp only [cond_true, newRoot, getR, Prog.go] at h
  cases hn : st.roots d with
  | some r => rw [hn] at h; cases h
  | none =>
   rw [hn] at h; cases h
   have hex0 := Go.Lib.run_convert_string_bytes (P := C.P) w s t e b hks hu hue
   have hlen : (bytesL b).length = b.size := by simp [bytesL]
   have hFF : RelF C st D Sh (eHand (.int .u8) (bytesL b : List (Ty.int .u8).dec) ++ []) a w := RelF.frees (t := .int .u8) (es := bytesL b) (fun d hd => ⟨trivial, rfl⟩) hR.F
   obtain ⟨K1, F1⟩ := RelF.rowNew (e := e) (t := .int .u8) (es := bytesL b) (cap := grownCap w b.size 0 e) (row := Go.Lib.bytesCells w e b) (w' := Go.Lib.bytesWorld w e b) hFF rfl rfl rfl (Go.Lib.bytesWorld_size w e b) (fun k hk => Go.Lib.bytesWorld_at_old w e b k hk)
    ⟨_, Go.Lib.bytesWorld_at_new w e b, .inr (Nat.le_refl _)⟩ (fun j v hj => by
     have hfl : flatC (.int .u8) (bytesL b : List (Ty.int .u8).dec) = b.data.toList.map fun c => Value.int .u8 (c.toNat : Int) := by
      unfold flatC bytesL
      have key : ∀ l : List UInt8, List.flatMap (Ty.int .u8).cs (l.map fun c => ((c.toNat : Nat) : Int) : List (Ty.int .u8).dec) = l.map fun c => Value.int .u8 (c.toNat : Int) := by
       intro l
       induction l with
       | nil => rfl
       | cons c l ih =>
        show Value.int .u8 (c.toNat : Int) :: List.flatMap (Ty.int .u8).cs (l.map fun c => ((c.toNat : Nat) : Int) : List (Ty.int .u8).dec) = _
        rw [ih]; rfl
      exact key _
     rw [hfl] at hj
     have hjl : j < b.data.size := by simpa using (List.getElem?_eq_some_iff.1 hj).1
     unfold Go.Lib.bytesCells
     rw [Array.getElem?_append_left (by simpa using hjl)]
     simpa using hj) (Nat.le_trans (Nat.le_of_eq hlen) (grownCap_ge _ _ _ _)) (grownCap_le_maxLen w _ 0 e (by simp only [maxLen]; omega)) (by
     have := grownCap_ge w b.size 0 e
     have h2 : b.data.size = b.size := rfl
     simp only [Ty.sz, Go.Lib.bytesCells, Array.size_append, Array.size_map, Array.size_replicate, h2]
     omega)
   have hex : (execOp a.eval o).run C.P w = .ok (.value (mkw false (DV.cs ⟨.sl true e (.int .u8), ((some ⟨w.heap.size, 0, none⟩, grownCap w b.size 0 e), bytesL b)⟩))) (Go.Lib.bytesWorld w e b) := by
    show _ = Result.ok (Next.value (Value.slice (some ⟨w.heap.size, 0, none⟩) (bytesL b).length (grownCap w b.size 0 e))) _
    rw [hlen]
    simp only [execOp, ho, hev, Sem.run_bind, hex0, Result.andThen_ok, Sem.run_pure]
   exact done_hold (ws := []) (dv := ⟨.sl true e (.int .u8), ((some ⟨w.heap.size, 0, none⟩, grownCap w b.size 0 e), bytesL b)⟩) hd hdn hn F1 hex rfl (by
    show (⟨.sl true e (.int .u8), List.map (Ty.int .u8).er (bytesL b : List (Ty.int .u8).dec)⟩ : V) = ⟨.sl true e (.int .u8), bytesL b⟩
    congr 1
    exact List.map_id' _) hK
theorem freeze_row {P : Program} {w : World} {b o : Nat} {row : Array Value} {e : TypeId} (h : Row w b row e) : ∃ w' : World, (markStringish ⟨b, o, none⟩).run P w = .ok () w' /\ w'.os = w.os /\ w'.tape = w.tape /\ w'.output = w.output /\ w'.heap.size = w.heap.size /\ (∀ k, k ≠ b -> w'.heap[k]? = w.heap[k]?) /\ Row w' b row e := by
 obtain ⟨⟨lo, hi⟩, h1, h2⟩ := h
 have hsh : w.shape? b = some (e, row.size) := by simp [World.shape?, h1]
 refine ⟨w.freeze ⟨b, row.size, none⟩ 1, ?_, rfl, rfl, rfl, by simp [World.freeze], fun k hk => ?_, ?_⟩
 ·simp [markStringish, hsh]
 ·simp only [World.freeze, Nat.one_ne_zero, if_false]
  rw [Array.getElem?_modify, if_neg (Ne.symm hk)]
 ·refine ⟨if lo == hi then (row.size, row.size + 1) else (min lo row.size, max hi (row.size + 1)), ?_, .inr ?_⟩
  ·simp only [World.freeze, Nat.one_ne_zero, if_false]
   rw [Array.getElem?_modify, if_pos rfl, h1]
   rfl
  ·split
   ·exact Nat.le_refl _
   ·rcases h2 with h2 | h2
    ·cases h2; rename_i hne; simp at hne
    ·simp only at h2 ⊢; omega
theorem sound_self (hT : TabOK C.P T) {s t : TypeId} {x : Operand} (ho : o.op = .convert s t x) (hst : s = t) {rs : TRow} (hrs : tget T s = some rs) (hby : isBytes rs = true) {d : Nat} (hd : o.dst = some d) (hdn : dstOk C.n o.dst = true) {res : Res}
  (h : (selfP rs (evalA st.tmps x) d).go st.roots = some res) : Sound C o st res := by
 subst hst
 intro D Sh a w K Q hR hK
 have hse : ∃ e, C.P.underlying s = some (.slice e) /\ C.P.underlying e = some (.int .u8) := by
  have hd := (hT s rs hrs).desc
  unfold isBytes at hby
  split at hby
  ·rename_i hty
   unfold DescOK at hd
   rw [hty] at hd
   obtain ⟨_, h2, re, h3, h4, _⟩ := hd
   exact ⟨_, h2, ty_of (hT _ re h3) h4⟩
  ·cases hby
 obtain ⟨e0, he1, he2⟩ := hse
 unfold selfP at h
 rw [Prog.go_bind] at h
 cases h1 : (takeP rs.ty (evalA st.tmps x) []).go st.roots with
 | none => rw [h1] at h; cases h
 | some q =>
  obtain ⟨u, ws1⟩ := q
  rw [h1] at h
  simp only at h
  split at h
  case h_2 => cases h
  rename_i e y ys
  obtain ⟨D1, z, hz, hvx, hl, K1, F1⟩ := hR.take (hR.eval x) h1
  simp only [newRoot, getR_go] at h
  cases hn : app ws1 st.roots d with
  | some r => rw [hn] at h; cases h
  | none =>
   rw [hn] at h; cases h
   obtain ⟨zt, zd⟩ := z
   have hzt : zt = .sl true e (.int .u8) := congrArg V.t hz
   subst hzt
   obtain ⟨⟨A, c⟩, ds⟩ := zd
   have hok : DV.OK w Sh ⟨.sl true e (.int .u8), ((A, c), ds)⟩ := F1.fok _ (by simp)
   have hz' : (⟨.sl true e (.int .u8), ds.map (Ty.int .u8).er⟩ : V) = ⟨.sl true e (.int .u8), y :: ys⟩ := hz
   have hne : ds ≠ [] := by
    intro e; subst e
    simp at hz'
   rcases hok with ⟨_, h2⟩ | ⟨b, off, row, hA, hrow, q1, q2, q3, q4⟩
   ·exact absurd h2 hne
   have hA : A = some ⟨b, off, none⟩ := hA
   subst hA
   obtain ⟨w', r0, r1, r2, r3, r4, r5, r6⟩ := freeze_row (P := C.P) (o := off) hrow
   have hfoot : List.flatMap DV.foot [(⟨.sl true e (.int .u8), ((some ⟨b, off, none⟩, c), ds)⟩ : DV)] = b :: ds.flatMap (Ty.int .u8).foot ++ [] := rfl
   obtain ⟨K2, F2⟩ := F1.turn (w' := w') (F' := [⟨.sl true e (.int .u8), ((some ⟨b, off, none⟩, c), ds)⟩]) r1 r2 r3 (by omega) (fun k hk hk' => r5 k (fun e => hk' (by rw [hfoot, e]; simp))) (fun v hv => by
     rw [List.mem_singleton.1 hv]
     exact .inr ⟨b, off, row, rfl, r6, q1, q2, q3, fun i d hi => ⟨trivial, (q4 i d hi).2⟩⟩) F1.fnd (fun k hk => .inl hk)
   have hev : a.eval x = .slice (some ⟨b, off, none⟩) ds.length c := hvx
   have hex : (execOp a.eval o).run C.P w = .ok (.value (mkw false (DV.cs ⟨.sl true e (.int .u8), ((some ⟨b, off, none⟩, c), ds)⟩))) w' := by
    show _ = Result.ok (Next.value (Value.slice (some ⟨b, off, none⟩) ds.length c)) _
    simp [execOp, ho, hev, convert, run_underlying he1, run_underlying he2, r0]
   exact done_hold (dv := ⟨.sl true e (.int .u8), ((some ⟨b, off, none⟩, c), ds)⟩) hd hdn hn F2 hex rfl hz' hK
end
theorem call_eta (c : Call) {b : Callee} {xs : List Operand} {ts : List TypeId} (h1 : c.callee = b) (h2 : c.args.toList = xs) (h3 : c.argTypes.toList = ts) : c = { callee := b, args := xs.toArray, argTypes := ts.toArray } := by
 obtain ⟨c1, c2, c3⟩ := c
 subst h1; subst h2; subst h3
 rfl
theorem all_sound {C : Ctx} {T : List (TypeId × TRow)} {K : Cons} (hT : TabOK C.P T) (hK : ∀ f key con, K f key = some con -> CallOK C.P f con) : AllSound C T K := by
 intro o st res hdn h
 have h0 := h
 unfold opP at h
 cases hop : o.op <;> rw [hop] at h <;> simp only at h <;> try (cases h; done)
 case move x => cases h; exact sound_move (.inl hop) hdn
 case assign x => cases h; exact sound_move (.inr hop) hdn
 case pick c x y => obtain ⟨av, h1, rfl⟩ := q_go h; exact sound_pick hop hdn h1
 case alloc e =>
  split at h
  case h_2 => cases h
  rename_i d row hd hrow
  exact sound_alloc hT hop hrow hd hdn h
 case box e x =>
  split at h
  case h_2 => cases h
  rename_i d row hd hrow
  exact sound_box hT hop hrow hd hdn h
 case build t ps =>
  split at h
  case h_2 => cases h
  rename_i row hrow
  obtain ⟨av, h1, rfl⟩ := q_go h
  exact sound_build hT hop hrow hdn h1
 case buildSlice t len ps =>
  split at h
  case h_2 => cases h
  rename_i d row hd hrow
  exact sound_buildSlice hT hop hrow hd hdn h
 case load t x =>
  split at h
  case h_2 => cases h
  rename_i row hrow
  obtain ⟨av, h1, rfl⟩ := q_go h
  exact sound_load hT hop hrow hdn h1
 case store t x y =>
  split at h
  case h_2 => cases h
  rename_i row hd hrow
  rw [Prog.go_bind] at h
  cases hs : (storeQ row (evalA st.tmps x) (evalA st.tmps y)).go st.roots with
  | none => rw [hs] at h; cases h
  | some ws =>
   rw [hs] at h; cases h
   exact sound_storeQ hT hop hrow hd hs
 case nilCheck x => obtain ⟨av, h1, rfl⟩ := q_go h; exact sound_nil hop hdn h1
 case binOp op xt x y yt => obtain ⟨av, h1, rfl⟩ := q_go h; exact sound_bin hT hop hdn h1
 case unOp op t x => obtain ⟨av, h1, rfl⟩ := q_go h; exact sound_un hop hdn h1
 case convert s t x =>
  split at h
  case h_2 => cases h
  rename_i rs rd hrs hrd
  cases hself : (Nat.beq s t && isBytes rs) with
  | true =>
   rw [hself] at h
   rw [Bool.and_eq_true] at hself
   simp only [cond_true] at h
   split at h
   case h_2 => cases h
   rename_i d hd
   exact sound_self hT hop (Nat.eq_of_beq_eq_true hself.1) hrs hself.2 hd hdn h
  | false =>
  rw [hself] at h
  simp only [cond_false] at h
  unfold convQ at h
  split at h
  ·rename_i b d _ hxb hd
   exact sound_bytes hT hop hrs hrd hd hdn hxb h
  ·obtain ⟨av, h1, rfl⟩ := q_go h
   exact sound_conv hT hop hrs hrd hdn h1
 case makeFunc fn fst cap =>
  cases fn <;> simp only at h <;> try (cases h; done)
  exact sound_makeFunc hop hdn h0
 case makeSlice t l c =>
  split at h
  case h_2 => cases h
  rename_i d row hd hrow
  split at h
  case h_2 => cases h
  rename_i e te he
  split at h
  case h_2 => cases h
  rename_i re hre
  exact sound_make hT hop hrow he hre hd hdn h
 case slice t x lo hi mx =>
  cases mx with
  | some _ => cases h
  | none =>
   simp only at h
   split at h
   case h_2 => cases h
   rename_i row hrow
   exact sound_slice hT hop hrow hdn h
 case fieldAddr s x i =>
  split at h
  case h_2 => cases h
  rename_i row hrow
  obtain ⟨av, h1, rfl⟩ := q_go h
  exact sound_fieldAddr hT hop hrow hdn h1
 case field s x i =>
  split at h
  case h_2 => cases h
  rename_i row hrow
  obtain ⟨av, h1, rfl⟩ := q_go h
  exact sound_field hT hop hrow hdn h1
 case indexAddr t x i =>
  split at h
  case h_2 => cases h
  rename_i row hrow
  obtain ⟨av, h1, rfl⟩ := q_go h
  exact sound_indexAddr hT hop hrow hdn h1
 case index t x i =>
  split at h
  case h_2 => cases h
  rename_i row hrow
  obtain ⟨av, h1, rfl⟩ := q_go h
  exact sound_index hT hop hrow hdn h1
 case extract x i => obtain ⟨av, h1, rfl⟩ := q_go h; exact sound_extract hop hdn h1
 case call c =>
  cases hc : c.callee with
  | value f => exact sound_call hK hop hc hdn h0
  | invoke r m => rw [hc] at h; cases h
  | builtin b =>
   rw [hc] at h
   cases b <;> simp only at h <;> try (cases h; done)
   case len =>
    split at h
    case h_2 => cases h
    rename_i x t hx ht
    split at h
    case h_2 => cases h
    rename_i row hrow
    obtain ⟨av, h1, rfl⟩ := q_go h
    exact sound_len hT (by rw [hop, call_eta c hc hx ht]) hrow hdn h1
   case append =>
    split at h
    case h_2 => cases h
    rename_i d x y t tx hd hx ht
    split at h
    case h_2 => cases h
    rename_i row rx hrow hrx
    cases hk : kindOk rx with
    | false => rw [hk] at h; cases h
    | true =>
     rw [hk] at h
     simp only [cond_true] at h
     split at h
     case h_2 => cases h
     rename_i e te he
     split at h
     case h_2 => cases h
     rename_i re hre
     exact sound_append hT hop hc hx ht hrow hrx hk he hre hd hdn h
   case min =>
    split at h
    case h_2 => cases h
    rename_i k x l hl
    obtain ⟨av, h1, rfl⟩ := q_go h
    exact sound_mm (mx := false) hop hc hdn hl h1
   case max =>
    split at h
    case h_2 => cases h
    rename_i k x l hl
    obtain ⟨av, h1, rfl⟩ := q_go h
    exact sound_mm (mx := true) hop hc hdn hl h1
theorem fun_holds {P : Program} {T : List (TypeId × TRow)} {K : Cons} {L : Loops} {ids : List Nat} {f : FuncId} {fn : Func} {c : Con} (hT : TabOK P T) (hmo : P.follows .mixedOrders = true) (hK : ∀ f key con, K f key = some con -> CallOK P f con)
  (hf : P.funcs[f]? = some fn) (hname : (fn.name == "runtime.NumGoroutine") = false) (hck : funOk fn c = true) (hrun : ∀ x, runF T K L ids fn c x = c.fn x) : CallOK P f c :=
 fun_ok hT hmo hf hname hck (fun C e => all_sound (by rw [e]; exact hT) (by rw [e]; exact hK)) hrun
end Go.Proofs.YtipaepbmdooekaaGreat.Vm
namespace Go.Proofs.YtipaepbmdooekaaGreat.Vm
open Go Go.RowKit Go.ChangeShapes Go.WideShapes
set_option linter.unusedVariables false
def Fits : (t : Ty) -> t.den -> Prop
 | .int k, x => k.min <= (x : Int) /\ (x : Int) <= k.max
 | .str, b => (b : ByteArray).size <= maxLen
 | .sl _ _ t, xs => xs.length <= maxLen /\ ∀ x ∈ xs, Fits t x
 | .cons a r, x => Fits a x.1 /\ Fits r x.2
 | _, _ => True
section
variable {H : Type} {enc : TypeId × Value -> H} {P : Program} {w : World} {base : Nat} {spare : Nat -> Bool} {held : Bool} {T : List (TypeId × TRow)}
theorem cellsOf_sz {t : TypeId} {r : TRow} (h : RowOK P T t r) : P.cellsOf t = r.ty.sz := by
 obtain ⟨i, h1, h2, _⟩ := h.info
 simp [Program.cellsOf, h1, h2]
def Old (w : World) : Nat -> Prop := fun b => b < w.heap.size
theorem trod_fields (hT : TabOK P T) {n : Nat} (ih : ∀ (t : TypeId) (row : TRow) (cs : List Value) (x : DataW H × List MemPlace), tget T t = some row -> DataW.trod enc P w base spare held n t cs = some x -> ∃ y : row.ty.den, Ty.RR w (Old w) row.ty y cs /\ Fits row.ty y) {cs : List Value} :
  ∀ {off : Nat} {ty : Ty} {ts : List TypeId} {fs : List Field}, FldOK T off ty ts fs -> (∀ (i : Nat) (f : Field), fs[i]? = some f -> ∃ x, DataW.trod enc P w base spare held n f.type ((cs.drop f.offset).take (P.cellsOf f.type)) = some x) ->
   ∃ y : ty.den, Ty.RR w (Old w) ty y ((cs.drop off).take ty.sz) /\ Fits ty y
 | off, .nil, [], [], _, _ => ⟨(), by simp [Ty.RR, Ty.sz], trivial⟩
 | off, .cons a r, t :: ts, f :: fs, h, hx => by
  obtain ⟨h1, h2, _, ⟨rf, h3, h4⟩, h5, h6⟩ := h
  obtain ⟨x, hx0⟩ := hx 0 f rfl
  have hrf := hT t rf h3
  subst h4
  rw [h1, h2, cellsOf_sz hrf] at hx0
  obtain ⟨y0, g1, g2⟩ := ih t rf _ x h3 hx0
  obtain ⟨y1, k1, k2⟩ := trod_fields hT ih h6 (fun i f' hi => hx (i + 1) f' (by simpa using hi))
  refine ⟨(y0, y1), ⟨_, _, ?_, g1, k1⟩, g2, k2⟩
  show List.take (rf.ty.sz + r.sz) (List.drop off cs) = _
  rw [List.take_add, List.drop_drop]
 | off, .nil, _ :: _, _, h, _ => by cases h
 | off, .nil, [], _ :: _, h, _ => by cases h
 | off, .cons _ _, [], _, h, _ => by cases h
 | off, .cons _ _, _ :: _, [], h, _ => by cases h
 | off, .int _, _, _, h, _ | off, .bool, _, _, h, _ | off, .str, _, _, h, _ | off, .hole, _, _, h, _ | off, .sl _ _ _, _, _, h, _ => by cases h
theorem trod_rr (hT : TabOK P T) : ∀ (n : Nat) (t : TypeId) (row : TRow) (cs : List Value) (x : DataW H × List MemPlace), tget T t = some row -> DataW.trod enc P w base spare held n t cs = some x -> ∃ y : row.ty.den, Ty.RR w (Old w) row.ty y cs /\ Fits row.ty y := by
 intro n
 induction n with
 | zero => intro t row cs x _ h; simp [DataW.trod] at h
 | succ n ih =>
  intro t row cs x hrow h
  have hr := hT t row hrow
  have hd := hr.desc
  unfold DescOK at hd
  have struct : ∀ {fs : Array Field}, P.underlying t = some (.struct fs) -> FldOK T 0 row.ty row.fs fs.toList -> ∃ y : row.ty.den, Ty.RR w (Old w) row.ty y cs /\ Fits row.ty y := by
   intro fs hu hfo
   obtain ⟨xs, m, hm, _, hl, hlen, hf⟩ := DataW.trod_struct hu h
   cases hm
   obtain ⟨y, g1, g2⟩ := trod_fields hT ih (cs := cs) hfo (fun i f hi => by
    have hi : fs[i]? = some f := by rw [<- Array.getElem?_toList]; exact hi
    have := hf i f hi
    have hlt : i < xs.length := by rw [hlen]; exact (Array.getElem?_eq_some_iff.1 hi).1
    exact ⟨_, this.trans (List.getElem?_eq_getElem hlt)⟩)
   rw [List.drop_zero, <- cellsOf_sz hr, <- hl, List.take_length] at g1
   exact ⟨y, g1, g2⟩
  cases hty : row.ty with
  | int k =>
   rw [hty] at hd
   obtain ⟨m, rfl, _, hw⟩ := DataW.trod_int hd h
   simp only [Lit.wf, Bool.and_eq_true, decide_eq_true_eq] at hw
   exact ⟨m, rfl, hw⟩
  | bool =>
   rw [hty] at hd
   obtain ⟨b, rfl, _⟩ := DataW.trod_bool hd h
   exact ⟨b, rfl, trivial⟩
  | str =>
   rw [hty] at hd
   obtain ⟨b, rfl, _, hs⟩ := DataW.trod_string hd h
   exact ⟨b, rfl, hs⟩
  | hole => rw [hty] at hd; exact hd.elim
  | nil =>
   rw [hty] at hd
   obtain ⟨fs, hu, hfo⟩ := hd
   rw [<- hty] at hfo ⊢
   exact struct hu hfo
  | cons a r =>
   rw [hty] at hd
   obtain ⟨fs, hu, hfo⟩ := hd
   rw [<- hty] at hfo ⊢
   exact struct hu hfo
  | sl o e te =>
   rw [hty] at hd
   obtain ⟨_, hu, re, hre, hte, hnz, _⟩ := hd
   have hrr := hT e re hre
   subst hte
   rcases DataW.trod_slice hu h with ⟨rfl, _⟩ | ⟨A, len, cap, elems, rest, m, hm, rfl, _, hb, hl, hmx, hel, hi, _, _⟩
   ·exact ⟨[], ⟨none, 0, rfl, Nat.le_refl _, Nat.zero_le _, fun i y hy => by cases hy⟩, Nat.zero_le _, fun y hy => by cases hy⟩
   ·cases hm
    have each : ∀ (i : Nat) (z : DataW H × List MemPlace), elems[i]? = some z -> ∃ y : re.ty.den, (∃ b o, A = ⟨b, o, none⟩ /\ Old w b /\ ∃ cc, Ty.RR w (Old w) re.ty y cc /\ ∀ j v, cc[j]? = some v -> w.cell? ⟨b, o + i * re.ty.sz + j, none⟩ = some v) /\ Fits re.ty y := by
     intro i z hz
     have hlt : i < len := by have := (List.getElem?_eq_some_iff.1 hz).1; omega
     have hx := hi i hlt
     rw [hz] at hx
     obtain ⟨ci, hc, ht⟩ := Option.bind_eq_some_iff.1 hx
     rw [cellsOf_sz hrr] at hc
     obtain ⟨_, hcl, hcc⟩ := World.cells?_some hc
     obtain ⟨y, g1, g2⟩ := ih e re ci z hre ht
     refine ⟨y, ?_, g2⟩
     -- the array's own place
     have h0 : 0 < len := by omega
     have hz0 : elems[0]? = some elems[0] := List.getElem?_eq_getElem (by omega)
     have hx0 := hi 0 h0
     rw [hz0] at hx0
     obtain ⟨c0, hc0, _⟩ := Option.bind_eq_some_iff.1 hx0
     rw [cellsOf_sz hrr] at hc0
     obtain ⟨_, hcl0, hcc0⟩ := World.cells?_some hc0
     have hfirst := hcc0 0 (by omega)
     rw [List.getElem?_eq_getElem (show 0 < c0.length by omega)] at hfirst
     have hadd0 : (A.add (0 * re.ty.sz)).add 0 = A := by simp [Addr.add]
     rw [hadd0] at hfirst
     obtain ⟨b, off, sp⟩ := A
     have hsp : sp = none /\ b < w.heap.size := by
      unfold World.cell? at hfirst
      cases hh : w.heap[b]? with
      | none => rw [hh] at hfirst; cases hfirst
      | some ob =>
       refine ⟨?_, (Array.getElem?_eq_some_iff.1 hh).1⟩
       rw [hh] at hfirst
       cases ob <;> simp at hfirst
       exact hfirst.1
     obtain ⟨rfl, hbl⟩ := hsp
     refine ⟨b, off, rfl, hbl, ci, g1, fun j v hj => ?_⟩
     have := hcc j (by have := (List.getElem?_eq_some_iff.1 hj).1; omega)
     rw [add_at, add_at, hj] at this
     exact this
    obtain ⟨ys, l1, l2⟩ := choose_idx (P := fun i z (y : re.ty.den) => (∃ b o, A = ⟨b, o, none⟩ /\ Old w b /\ ∃ cc, Ty.RR w (Old w) re.ty y cc /\ ∀ j v, cc[j]? = some v -> w.cell? ⟨b, o + i * re.ty.sz + j, none⟩ = some v) /\ Fits re.ty y) elems each
    have hat : ∀ (i : Nat) (y : re.ty.den), ys[i]? = some y -> (∃ b o, A = ⟨b, o, none⟩ /\ Old w b /\ ∃ cc, Ty.RR w (Old w) re.ty y cc /\ ∀ j v, cc[j]? = some v -> w.cell? ⟨b, o + i * re.ty.sz + j, none⟩ = some v) /\ Fits re.ty y := by
     intro i y hy
     have hlt : i < elems.length := by have := (List.getElem?_eq_some_iff.1 hy).1; omega
     exact l2 i _ y (List.getElem?_eq_getElem hlt) hy
    have hyl : ys.length = len := l1.trans hel
    refine ⟨ys, ⟨some A, cap, by rw [hyl], by rw [hyl]; exact hl, hmx, fun i y hy => ?_⟩, by show ys.length <= maxLen; omega, fun y hy => ?_⟩
    ·obtain ⟨⟨b, o', rfl, h2⟩, _⟩ := hat i y hy
     exact ⟨b, o', rfl, h2⟩
    ·obtain ⟨i, hi'⟩ := List.mem_iff_getElem?.1 hy
     exact (hat i y hi').2
theorem open_arg (hT : TabOK P T) {r : Reach} {b0 : Nat} {t : TypeId} {row : TRow} (hrow : tget T t = some row) {v : Value} {d : DataW H} {ps : List MemPlace} (hval : Value.okWide P w r b0 t v) (hd : DataW.Trod enc P w base spare held t v d ps) :
  ∃ y : row.ty.den, AVS w (Old w) noR noD ((Pat.val row.ty).av y) v /\ Fits row.ty y := by
 obtain ⟨fuel, hf⟩ := hd
 obtain ⟨y, h1, h2⟩ := trod_rr hT fuel t row _ _ hrow hf
 refine ⟨y, ⟨v.cells.toList, h1, ?_⟩, h2⟩
 have hde := (hT t row hrow).desc
 unfold DescOK at hde
 show v = mkw row.ty.agg v.cells.toList
 cases hty : row.ty with
 | int k => rw [hty] at hde; obtain ⟨n, rfl⟩ := okWide_int hde hval; rfl
 | bool => rw [hty] at hde; obtain ⟨n, rfl⟩ := okWide_bool hde hval; rfl
 | str => rw [hty] at hde; obtain ⟨n, rfl⟩ := okWide_string hde hval; rfl
 | hole => rw [hty] at hde; exact hde.elim
 | sl o e te => rw [hty] at hde; obtain ⟨_, hu, _⟩ := hde; obtain ⟨x, y, z, rfl⟩ := okWide_slice hu hval; rfl
 | nil => rw [hty] at hde; obtain ⟨fs, hu, _⟩ := hde; obtain ⟨cs, rfl, _⟩ := okWide_struct hu hval; simp [mkw, Ty.agg, Value.cells]
 | cons a r => rw [hty] at hde; obtain ⟨fs, hu, _⟩ := hde; obtain ⟨cs, rfl, _⟩ := okWide_struct hu hval; simp [mkw, Ty.agg, Value.cells]
theorem trod_same {w' : World} (hb : ∀ b, b < w.heap.size -> w'.heap[b]? = w.heap[b]?) {t : TypeId} {v : Value} {d : DataW H} {ps : List MemPlace} (h : DataW.Trod enc P w base spare held t v d ps) : DataW.Trod enc P w' base spare held t v d ps := by
 obtain ⟨fuel, hf⟩ := h
 refine ⟨fuel, DataW.trod_carry fuel t _ _ hf (fun p hp => ?_)⟩
 have hlt := DataW.trod_lt fuel t _ _ hf p hp
 cases p with
 | cell b off => simp only [World.sameAt, World.cell?]; rw [hb b hlt]
 | map b => exact hb b hlt
end
section
variable {H : Type} {enc : TypeId × Value -> H} {P : Program} {w : World} {T : List (TypeId × TRow)}
def InT (T : List (TypeId × TRow)) (t : TypeId) : Prop := ∃ r, tget T t = some r
theorem fld_kids (hT : TabOK P T) : ∀ {off : Nat} {ty : Ty} {ts : List TypeId} {fs : List Field}, FldOK T off ty ts fs -> (∀ f ∈ fs, InT T f.type) /\ ty.sz = (fs.map fun f => P.cellsOf f.type).sum /\ ∀ (j : Nat) (f : Field), fs[j]? = some f -> f.offset = off + ((fs.take j).map fun f => P.cellsOf f.type).sum
 | off, .nil, [], [], _ => ⟨(fun f hf => by cases hf), rfl, (fun j f hj => by cases hj)⟩
 | off, .cons a r, t :: ts, f :: fs, h => by
  obtain ⟨h1, h2, _, ⟨rf, h3, h4⟩, h5, h6⟩ := h
  obtain ⟨g1, g2, g3⟩ := fld_kids hT h6
  have hc : P.cellsOf f.type = a.sz := by rw [h1, cellsOf_sz (hT t rf h3), h4]
  refine ⟨fun f' hf => ?_, ?_, fun j f' hj => ?_⟩
  ·rcases List.mem_cons.1 hf with rfl | hf
   ·exact ⟨rf, by rw [h1]; exact h3⟩
   ·exact g1 f' hf
  ·rw [List.map_cons, List.sum_cons, hc, <- g2]; rfl
  ·cases j with
   | zero =>
    simp only [List.getElem?_cons_zero, Option.some.injEq] at hj
    subst hj
    rw [h2]; simp
   | succ j =>
    rw [g3 j f' (by simpa using hj), List.take_succ_cons, List.map_cons, List.sum_cons, hc, Nat.add_assoc]
 | off, .nil, _ :: _, _, h => by cases h
 | off, .nil, [], _ :: _, h => by cases h
 | off, .cons _ _, [], _, h => by cases h
 | off, .cons _ _, _ :: _, [], h => by cases h
 | off, .int _, _, _, h | off, .bool, _, _, h | off, .str, _, _, h | off, .hole, _, _, h | off, .sl _ _ _, _, _, h => by cases h
theorem under_of (hT : TabOK P T) {t : TypeId} {k : TypeDesc} (h : InT T t) (hu : P.underlying t = some k) : (∃ i, k = .int i) \/ k = .bool \/ k = .string \/ (∃ e, k = .slice e /\ InT T e /\ 0 < P.cellsOf e) \/ ∃ fs, k = .struct fs /\ ∃ r, tget T t = some r /\ FldOK T 0 r.ty r.fs fs.toList := by
 obtain ⟨r, hr⟩ := h
 have hd := (hT t r hr).desc
 unfold DescOK at hd
 cases hty : r.ty with
 | int i => rw [hty] at hd; rw [hu] at hd; cases hd; exact .inl ⟨i, rfl⟩
 | bool => rw [hty] at hd; rw [hu] at hd; cases hd; exact .inr (.inl rfl)
 | str => rw [hty] at hd; rw [hu] at hd; cases hd; exact .inr (.inr (.inl rfl))
 | hole => rw [hty] at hd; exact hd.elim
 | sl o e te =>
  rw [hty] at hd
  obtain ⟨_, h1, re, h2, h3, h4, _⟩ := hd
  rw [hu] at h1; cases h1
  exact .inr (.inr (.inr (.inl ⟨e, rfl, ⟨re, h2⟩, by rw [cellsOf_sz (hT e re h2), h3]; exact Nat.pos_of_ne_zero h4⟩)))
 | nil =>
  rw [hty] at hd
  obtain ⟨fs, h1, h2⟩ := hd
  rw [hu] at h1; cases h1
  exact .inr (.inr (.inr (.inr ⟨fs, rfl, r, hr, by rw [hty]; exact h2⟩)))
 | cons a b =>
  rw [hty] at hd
  obtain ⟨fs, h1, h2⟩ := hd
  rw [hu] at h1; cases h1
  exact .inr (.inr (.inr (.inr ⟨fs, rfl, r, hr, by rw [hty]; exact h2⟩)))
theorem kids_tab (hT : TabOK P T) : Kids P (InT T) where
 pointer := fun ht hu => by rcases under_of hT ht hu with ⟨_, h⟩ | h | h | ⟨_, h, _⟩ | ⟨_, h, _⟩ <;> cases h
 slice := fun ht hu => by
  rcases under_of hT ht hu with ⟨_, h⟩ | h | h | ⟨_, h, h2, _⟩ | ⟨_, h, _⟩ <;> cases h
  exact h2
 array := fun ht hu => by rcases under_of hT ht hu with ⟨_, h⟩ | h | h | ⟨_, h, _⟩ | ⟨_, h, _⟩ <;> cases h
 struct := fun ht hu => by
  rcases under_of hT ht hu with ⟨_, h⟩ | h | h | ⟨_, h, _⟩ | ⟨_, h, r, hr, hfo⟩ <;> cases h
  obtain ⟨g1, g2, g3⟩ := fld_kids hT hfo
  exact ⟨g1, (cellsOf_sz (hT _ r hr)).trans g2, fun j f hj => by rw [g3 j f hj, Nat.zero_add]⟩
 map := fun ht hu => by rcases under_of hT ht hu with ⟨_, h⟩ | h | h | ⟨_, h, _⟩ | ⟨_, h, _⟩ <;> cases h
theorem trod_after (hT : TabOK P T) {w' : World} (hb : ∀ b, b < w.heap.size -> w'.heap[b]? = w.heap[b]?) {t : TypeId} (ht : InT T t) {v : Value} {d : DataW H} {ps : List MemPlace} (h : DataW.Trod enc P w 0 (fun _ => true) true t v d ps) :
  DataW.Trod enc P w' 0 (fun b => decide (b < w.heap.size)) true t v d ps := by
 have hs := trod_same hb h
 obtain ⟨f0, h0⟩ := h
 obtain ⟨fuel, hf⟩ := hs
 refine ⟨fuel, DataW.trod_yes (kids_tab hT) (fun ht hu => ?_) (fun e => by cases e) fuel t _ _ ht hf (fun p hp => ?_)⟩
 ·rcases under_of hT ht hu with ⟨_, h⟩ | h | h | ⟨_, h, _, h3⟩ | ⟨_, h, _⟩ <;> cases h
  exact h3
 ·exact decide_eq_true (DataW.trod_lt f0 t _ _ h0 p hp)
theorem trodAll_after (hT : TabOK P T) {w' : World} (hb : ∀ b, b < w.heap.size -> w'.heap[b]? = w.heap[b]?) : ∀ {ts : List TypeId} {vs : List Value} {ds : List (DataW H)} {ps : List MemPlace}, (ts.all fun t => (tget T t).isSome) = true -> DataW.TrodAll enc P w 0 (fun _ => true) true ts vs ds ps ->
  DataW.TrodAll enc P w' 0 (fun b => decide (b < w.heap.size)) true ts vs ds ps
 | [], [], [], ps, _, h => h
 | t :: ts, v :: vs, d :: ds, ps, hi, h => by
  obtain ⟨p, q, h1, h2, h3⟩ := h
  rw [List.all_cons, Bool.and_eq_true] at hi
  exact ⟨p, q, trod_after hT hb (Option.isSome_iff_exists.1 hi.1) h1, trodAll_after hT hb hi.2 h2, h3⟩
 | [], [], _ :: _, _, _, h => h.elim
 | [], _ :: _, _, _, _, h => h.elim
 | _ :: _, [], _, _, _, h => h.elim
 | _ :: _, _ :: _, [], _, _, h => h.elim
end
theorem law_calls {P : Program} {f : FuncId} (ks : List Pat) {cf : argsT (ks.map .r) -> Option (ansT (.one .bool) (ks.map .r))} (hc : CallOK P f ⟨ks.map .r, .one .bool, cf⟩) {w : World} {x : argsT (ks.map .r)} {y : ansT (.one .bool) (ks.map .r)} {vs : List Value} (hfn : cf x = some y)
  (hy : (cutA [Ty.bool] (backs (ks.map .r)) y).1.1 = true) (hA : ArgsOK w (Old w) (ks.map .r) x vs (ks.map fun _ => noZ)) : Calls P f vs.toArray w fun e w' => e = .returned (.bool true) /\ Below w.heap.size w w' := by
 have hfe : feet (ks.map fun _ => noZ) = [] := by
  unfold feet
  exact flatMap_nil_of (fun z hz => by obtain ⟨_, _, rfl⟩ := List.mem_map.1 hz; rfl)
 refine Calls.mono (hc.2.2 w (Old w) x y vs _ hfn (fun b hb => hb) hA (by rw [hfe]; exact List.nodup_nil) (by rw [hfe]; intro b hb; cases hb)) (fun e w' he => ?_)
 obtain ⟨v, Sh', rs, bs, rfl, L, hr, _⟩ := he
 obtain ⟨d, h1, _, rfl, _⟩ := hr
 have h1 : (d : Bool) = (cutA [Ty.bool] (backs (ks.map .r)) y).1.1 := h1
 have hd : (d : Bool) = true := h1.trans hy
 refine ⟨?_, ⟨L.os, L.tape, L.output, L.hsz, fun b hb => L.block b hb (by rw [hfe]; intro hm; cases hm)⟩⟩
 show Ending.returned (Value.bool d) = _
 rw [hd]
end Go.Proofs.YtipaepbmdooekaaGreat.Vm
namespace Go.Proofs.YtipaepbmdooekaaGreat.Vm
open Go Go.RowKit
set_option linter.unusedVariables false
section
variable {X A : Type} {step : X -> Option (Lp X A)}
theorem iterO_unique : ∀ {n m : Nat} {x : X} {y z : X ⊕ A}, iterO step n x = some y -> iterO step m x = some z -> y = z
 | 0, m, x, y, z, h, _ => by cases h
 | n + 1, 0, x, y, z, _, h => by cases h
 | n + 1, m + 1, x, y, z, h, h' => by
  simp only [iterO] at h h'
  cases hs : step x with
  | none => rw [hs] at h; cases h
  | some l =>
   rw [hs] at h h'
   cases l with
   | again x' => exact iterO_unique h h'
   | exit x' => cases h; cases h'; rfl
   | ret a => cases h; cases h'; rfl
theorem loopO_of {n : Nat} {x : X} {y : X ⊕ A} (h : iterO step n x = some y) : loopO step x = some y := by
 unfold loopO
 have hex : ∃ y : X ⊕ A, ∃ n, iterO step n x = some y := ⟨y, n, h⟩
 rw [dif_pos hex]
 obtain ⟨m, hm⟩ := Classical.choose_spec hex
 exact congrArg some (iterO_unique hm h)
theorem loopO_rule (Inv : X -> Prop) (Post : X ⊕ A -> Prop) (m : X -> Nat) (h : ∀ x, Inv x -> ∃ l, step x = some l /\ match l with
  | .again x' => Inv x' /\ m x' < m x
  | .exit x' => Post (.inl x')
  | .ret a => Post (.inr a)) : ∀ {x : X}, Inv x -> ∃ y, loopO step x = some y /\ Post y := by
 have key : ∀ (n : Nat) (x : X), m x < n -> Inv x -> ∃ k y, iterO step k x = some y /\ Post y := by
  intro n
  induction n with
  | zero => intro x hx; omega
  | succ n ih =>
   intro x hx hi
   obtain ⟨l, hs, hl⟩ := h x hi
   cases l with
   | again x' =>
    obtain ⟨k, y, g1, g2⟩ := ih x' (by have := hl.2; omega) hl.1
    exact ⟨k + 1, y, by simp only [iterO, hs]; exact g1, g2⟩
   | exit x' => exact ⟨1, .inl x', by simp only [iterO, hs], hl⟩
   | ret a => exact ⟨1, .inr a, by simp only [iterO, hs], hl⟩
 intro x hi
 obtain ⟨k, y, g1, g2⟩ := key _ x (Nat.lt_succ_self _) hi
 exact ⟨y, loopO_of g1, g2⟩
end
theorem loop_run {X A : Type} {step : X -> Option (Lp X A)} (st : Nat -> X) (n : Nat) (h : ∀ i, i < n -> step (st i) = some (.again (st (i + 1)))) {l : Lp X A} {y : X ⊕ A} (he : step (st n) = some l) (hy : (match l with
  | .again _ => none
  | .exit x => some (.inl x)
  | .ret a => some (.inr a) : Option (X ⊕ A)) = some y) : loopO step (st 0) = some y := by
 have key : ∀ k i, i + k = n -> iterO step (k + 1) (st i) = some y := by
  intro k
  induction k with
  | zero =>
   intro i hi
   have hi : i = n := by omega
   subst hi
   simp only [iterO, he]
   cases l with
   | again x => cases hy
   | exit x => cases hy; rfl
   | ret a => cases hy; rfl
  | succ k ih =>
   intro i hi
   simp only [iterO, h i (by omega)]
   exact ih (i + 1) (by omega)
 exact loopO_of (key n 0 (by omega))
theorem w64_id {x : Int} (h1 : -9223372036854775808 <= x) (h2 : x <= 9223372036854775807) : w64 x = x := by
 unfold w64 IntKind.wrap
 simp [IntKind.bits, IntKind.signed]
 omega
theorem getD_at {α : Type} {l : List α} {i : Nat} {d : α} (h : i < l.length) : l.getD i d = l[i] := by
 rw [List.getD_eq_getElem?_getD, List.getElem?_eq_getElem h]; rfl
theorem inb_of {i : Int} {n : Nat} (h1 : 0 <= i) (h2 : i < n) : inb i n = true := by simp [inb, h1, h2]
theorem copy_step {α : Type} (z : α) (a : List α) {i : Nat} (h : i < a.length) : (a.take i ++ List.replicate (a.length - i) z).set i (a.getD i z) = a.take (i + 1) ++ List.replicate (a.length - (i + 1)) z := by
 have hl : (a.take i).length = i := by rw [List.length_take]; omega
 rw [List.set_append_right _ _ (by omega), hl, Nat.sub_self, show a.length - i = (a.length - (i + 1)) + 1 by omega, List.replicate_succ, List.set_cons_zero, getD_at h]
 rw [List.take_succ_eq_append_getElem h, List.append_assoc]
 rfl
theorem w64_nat {i : Nat} (h : i < 9223372036854775807) : w64 ((i : Int) + 1) = ((i + 1 : Nat) : Int) := by
 rw [w64_id (by omega) (by omega)]; rfl
theorem inb_nat {i n : Nat} (h : i < n) : inb (i : Int) n = true := inb_of (by omega) (by omega)
theorem lt_len {α : Type} {l : List α} {i : Nat} (h : i < l.length) : decide ((i : Int) < len l) = true := decide_eq_true (by show (i : Int) < (l.length : Int); omega)
theorem ge_len {α : Type} {l : List α} : decide (((l.length : Nat) : Int) < len l) = false := decide_eq_false (by show ¬ ((l.length : Nat) : Int) < ((l.length : Nat) : Int); omega)
theorem mk_ok {α : Type} {l : List α} {b : Nat} (h : b * l.length <= 140737488355328) : mk b (len l) (len l) = true := by
 have h2 : (b : Int) * (l.length : Int) = ((b * l.length : Nat) : Int) := (Int.natCast_mul _ _).symm
 unfold mk len
 rw [Bool.and_eq_true, Bool.and_eq_true]
 refine ⟨⟨beq_self_eq_true _, decide_eq_true (Int.natCast_nonneg _)⟩, decide_eq_true ?_⟩
 rw [h2]
 omega
def mid {α : Type} (z : α) (a : List α) (i : Nat) : List α := a.take i ++ List.replicate (a.length - i) z
theorem mid_len {α : Type} {z : α} {a : List α} {i : Nat} (h : i <= a.length) : (mid z a i).length = a.length := by
 unfold mid; rw [List.length_append, List.length_take, List.length_replicate]; omega
theorem chk_true {A : Type} (k : Option A) : chk true k = k := rfl
end Go.Proofs.YtipaepbmdooekaaGreat.Vm
