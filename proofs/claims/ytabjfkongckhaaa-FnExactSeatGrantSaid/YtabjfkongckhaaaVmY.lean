/- Calls, the caller's side: results land; a call answers as its contract says. -/
import Derived.Test.YtabjfkongckhaaaVmX
namespace Go.Proofs.Ytabjfkongckhaaa.Vm
open Go Go.RowKit
set_option linter.unusedVariables false

theorem tgt_nil {R : Nat → Option Root} {D : Nat → DRoot} {w : World} {Sh : Nat → Prop} : ∀ {ks : List PK} {zs : List DRoot}, TgtOK R D [] ks zs → extra ks zs = [] ∧ ∀ ys bs, BackOK w Sh ks zs ys bs → ys = [] ∧ bs = []
  | [], [], h => ⟨rfl, fun ys bs h => h⟩
  | .r _ :: ks, _ :: zs, h => tgt_nil (ks := ks) (zs := zs) h
  | .o _ :: ks, _ :: zs, h => tgt_nil (ks := ks) (zs := zs) h
  | .p _ _ :: ks, _ :: zs, h => h.elim
  | .c _ :: ks, _ :: zs, h => h.elim
  | [], _ :: _, h => h.elim
  | .r _ :: _, [], h => h.elim
  | .o _ :: _, [], h => h.elim
  | .p _ _ :: _, [], h => h.elim
  | .c _ :: _, [], h => h.elim
theorem tgt_root {R : Nat → Option Root} {D : Nat → DRoot} {w : World} {Sh : Nat → Prop} {id : Nat} : ∀ {ks : List PK} {zs : List DRoot}, TgtOK R D [.root id] ks zs →
    ∃ r b, R id = some r ∧ (D id).b = some b ∧ extra ks zs = [b] ∧ ∀ ys bs, BackOK w Sh ks zs ys bs → ∃ y b0, ys = [y] ∧ bs = [b0] ∧ b0.b = some b ∧ b0.dv.er = y ∧ b0.dv.OK w Sh ∧ Loc w b 0 b0.dv
  | .r _ :: ks, _ :: zs, h => tgt_root (ks := ks) (zs := zs) h
  | .o _ :: ks, _ :: zs, h => tgt_root (ks := ks) (zs := zs) h
  | .p _ _ :: ks, z :: zs, h => by
    obtain ⟨⟨r, b, h1, h2, h3⟩, h4⟩ := h
    obtain ⟨e1, e2⟩ := tgt_nil (w := w) (Sh := Sh) h4
    refine ⟨r, b, h1, h2, by show z.b.toList ++ extra ks zs = [b]; rw [e1, h3]; rfl, fun ys bs hb => ?_⟩
    rcases ys with _ | ⟨y, ys⟩
    · exact hb.elim
    · rcases bs with _ | ⟨b0, bs⟩
      · exact hb.elim
      · obtain ⟨g1, g2, g3, g4, g5, g6⟩ := hb
        obtain ⟨rfl, rfl⟩ := e2 ys bs g6
        have gb : b0.b = some b := g1.trans h3
        exact ⟨y, b0, rfl, rfl, gb, g3, g4, g5 b gb⟩
  | .c _ :: ks, _ :: zs, h => h.elim
  | [], _, h => by rename_i zs; cases zs <;> exact h.elim
  | .r _ :: _, [], h => h.elim
  | .o _ :: _, [], h => h.elim
  | .p _ _ :: _, [], h => h.elim
  | .c _ :: _, [], h => h.elim
theorem tgt_at {R : Nat → Option Root} {D : Nat → DRoot} {w : World} {Sh : Nat → Prop} {id : Nat} {p : Path} : ∀ {ks : List PK} {zs : List DRoot}, TgtOK R D [.at id p] ks zs →
    ∃ r bb u, R id = some r ∧ lookD (D id).dv (D id).base p = some (bb, u) ∧ extra ks zs = u.foot ∧ ∀ ys bs, BackOK w Sh ks zs ys bs → ∃ y b0, ys = [y] ∧ bs = [b0] ∧ b0.b = none ∧ b0.dv.er = y ∧ b0.dv.OK w Sh ∧ b0.dv.t = u.t ∧ b0.dv.cs = u.cs
  | .r _ :: ks, _ :: zs, h => tgt_at (ks := ks) (zs := zs) h
  | .o _ :: ks, _ :: zs, h => tgt_at (ks := ks) (zs := zs) h
  | .c t :: ks, z :: zs, h => by
    obtain ⟨⟨r, bb, h1, h2, h3, h5⟩, h4⟩ := h
    obtain ⟨e1, e2⟩ := tgt_nil (w := w) (Sh := Sh) h4
    refine ⟨r, bb, z.dv, h1, h2, by show z.dv.foot ++ extra ks zs = _; rw [e1, List.append_nil], fun ys bs hb => ?_⟩
    rcases ys with _ | ⟨y, ys⟩
    · exact hb.elim
    · rcases bs with _ | ⟨b0, bs⟩
      · exact hb.elim
      · obtain ⟨g1, g2, g3, g4, g5, g6⟩ := hb
        obtain ⟨rfl, rfl⟩ := e2 ys bs g6
        exact ⟨y, b0, rfl, rfl, g1, g3, g4, by rw [h3, ← g2, ← g3]; rfl, g5⟩
  | .p _ _ :: ks, _ :: zs, h => h.elim
  | [], _, h => by rename_i zs; cases zs <;> exact h.elim
  | .r _ :: _, [], h => h.elim
  | .o _ :: _, [], h => h.elim
  | .p _ _ :: _, [], h => h.elim
  | .c _ :: _, [], h => h.elim
theorem tgt_backs {R : Nat → Option Root} {D : Nat → DRoot} : ∀ {ks : List PK} {zs : List DRoot} {tg : List Tgt}, TgtOK R D tg ks zs → backs ks = [] → tg = []
  | [], [], [], h, hb => rfl
  | [], [], .root _ :: _, h, hb => h.elim
  | [], [], .at _ _ :: _, h, hb => h.elim
  | .r _ :: ks, _ :: zs, tg, h, hb => by
    have h : TgtOK R D tg ks zs := by cases tg <;> exact h
    exact tgt_backs (ks := ks) (zs := zs) h hb
  | .o _ :: ks, _ :: zs, tg, h, hb => by
    have h : TgtOK R D tg ks zs := by cases tg <;> exact h
    exact tgt_backs (ks := ks) (zs := zs) h hb
  | .p _ _ :: ks, _ :: zs, tg, h, hb => by cases hb
  | .c _ :: ks, _ :: zs, tg, h, hb => by cases hb
  | [], _ :: _, tg, h, hb => by rcases tg with _ | ⟨_ | _, _⟩ <;> exact h.elim
  | .r _ :: _, [], tg, h, hb => by rcases tg with _ | ⟨_ | _, _⟩ <;> exact h.elim
  | .o _ :: _, [], tg, h, hb => by rcases tg with _ | ⟨_ | _, _⟩ <;> exact h.elim
theorem res_plain {w : World} {Sh : Nat → Prop} {rk : RK} {x : (tyW rk.tys).den} {v : Value} {rs : List DRoot} (h : ResOK w Sh rk x v rs) (hp : ∀ t, rk ≠ .ptr t) : feet rs = (rs.map (·.dv)).flatMap DV.foot ∧ ∀ z ∈ rs.map (·.dv), z.OK w Sh := by
  cases rk with
  | one t =>
    obtain ⟨d, _, h2, _, rfl⟩ := h
    exact ⟨rfl, fun z hz => by cases List.mem_singleton.1 hz; exact h2⟩
  | many ts =>
    obtain ⟨zs, _, h2, _, rfl⟩ := h
    have e : (zs.map fun z => (⟨z, none, []⟩ : DRoot)).map (·.dv) = zs := by rw [List.map_map]; exact List.map_id zs
    rw [e]
    exact ⟨feet_plain zs, h2⟩
  | ptr t => exact absurd rfl (hp t)

section
variable {C : Ctx} {T : Nat → AV} {R : Nat → Option Root} {D : Nat → DRoot} {Sh Sh' : Nat → Prop} {F : List DV} {a : Act} {w w' : World}
theorem plain_rr {t : Ty} {d : t.dec} (hp : t.plain = true) (h : t.OK w Sh d) : Ty.RR w Sh t (t.er d) (t.cs d) :=
  Ty.OK_RR (fun _ h => h) h (fun b hb => by rw [Ty.plain_foot d hp] at hb; cases hb)
theorem unflat {t : Ty} (h : t.plain = false) : t.flat = false := by
  cases hf : t.flat with
  | false => rfl
  | true => rw [flat_plain hf] at h; cases h
theorem land_many {d : Nat} : ∀ {ts : List Ty} {x : (tyW ts).den} {zs : List DV} {i : Nat} {ws ws' : Writes} {av : AV} {D : Nat → DRoot}, (landL d i ts x ws).go R = some (av, ws') → ManyD ts x zs → RelF C ⟨T, app ws R⟩ D Sh (zs ++ F) a w →
    ∃ D', Keeps w w Sh Sh (app ws R) (app ws' R) D D' ∧ RelF C ⟨T, app ws' R⟩ D' Sh F a w ∧ AVL w Sh (app ws' R) D' av (zs.map valV)
  | [], x, zs, i, ws, ws', av, D, h, hm, hF => by
    cases h
    have hm : zs = [] := hm
    subst hm
    exact ⟨D, Keeps.grow (fun _ _ => rfl), hF, rfl⟩
  | t :: ts, x, zs, i, ws, ws', av, D, h, hm, hF => by
    obtain ⟨dd, zs', hd, rfl, hm⟩ := hm
    simp only [landL] at h
    cases hp : t.plain with
    | true =>
      rw [hp] at h
      simp only [cond_true, Prog.go_bind] at h
      cases h1 : (landL d (i + 1) ts x.2 ws).go R with
      | none => rw [h1] at h; cases h
      | some q =>
        obtain ⟨av1, ws1⟩ := q
        rw [h1] at h; cases h
        have hok : t.OK w Sh dd := hF.fok ⟨t, dd⟩ (by simp)
        obtain ⟨D', K, F', hl⟩ := land_many h1 hm (RelF.drop (show RelF C ⟨T, app ws R⟩ D Sh (⟨t, dd⟩ :: (zs' ++ F)) a w from hF))
        exact ⟨D', K, F', _, _, rfl, ⟨t.cs dd, by rw [← hd]; exact plain_rr hp hok, rfl⟩, hl⟩
    | false =>
      rw [hp] at h
      simp only [cond_false, getR_go] at h
      cases hn : app ws R (resId d i) with
      | some r => rw [hn] at h; cases h
      | none =>
        rw [hn] at h
        simp only [Prog.go_bind] at h
        cases h1 : (landL d (i + 1) ts x.2 ((resId d i, ⟨⟨t, x.1⟩, false, [], none, none⟩) :: ws)).go R with
        | none => rw [h1] at h; cases h
        | some q =>
          obtain ⟨av1, ws1⟩ := q
          rw [h1] at h; cases h
          obtain ⟨K1, F1⟩ := RelF.hold (u := ⟨t, dd⟩) (F := zs' ++ F) hF (id := resId d i) hn (org := none) (fun i hi => by cases hi)
          have her : DV.er ⟨t, dd⟩ = ⟨t, x.1⟩ := congrArg (V.mk t) hd
          have hal : AVC w Sh (upt (app ws R) (resId d i) (some ⟨DV.er ⟨t, dd⟩, false, [], none, none⟩)) (upt D (resId d i) ⟨⟨t, dd⟩, none, DV.cs ⟨t, dd⟩⟩) (.al (resId d i) [] 0 t) (t.cs dd) := al_of_hold (u := ⟨t, dd⟩) (unflat hp)
          rw [her] at K1 F1 hal
          obtain ⟨D', K, F', hl⟩ := land_many (ws := (resId d i, ⟨⟨t, x.1⟩, false, [], none, none⟩) :: ws) h1 hm F1
          exact ⟨D', K1.trans K, F', _, _, rfl, K.avs ⟨t.cs dd, hal, rfl⟩, hl⟩
theorem land_ok {dst : Option Tmp} {rk : RK} {x : (tyW rk.tys).den} {v : Value} {rs : List DRoot} {ws : Writes} {res : Res} (h : (landP dst rk x ws).go R = some res) (hr : ResOK w Sh rk x v rs) (hp : ∀ t, rk ≠ .ptr t) (hF : RelF C ⟨T, app ws R⟩ D Sh (rs.map (·.dv)) a w) :
    ∃ D', Rel C ⟨T, app res.ws R⟩ D' Sh a w ∧ AVR w Sh (app res.ws R) D' res.av v := by
  cases rk with
  | one t =>
    obtain ⟨d, h1, h2, rfl, rfl⟩ := hr
    cases dst with
    | none => cases h; exact ⟨D, hF.rel, trivial⟩
    | some dd =>
      simp only [landP] at h
      cases hpl : t.plain with
      | true =>
        rw [hpl] at h; cases h
        refine ⟨D, hF.rel, avr_of_avs ⟨t.cs d, ?_, rfl⟩⟩
        rw [← h1]; exact plain_rr hpl h2
      | false =>
        rw [hpl] at h
        simp only [cond_false, newRoot, getR_go] at h
        cases hn : app ws R dd with
        | some r => rw [hn] at h; cases h
        | none =>
          rw [hn] at h; cases h
          have hF : RelF C ⟨T, app ws R⟩ D Sh [⟨t, d⟩] a w := hF
          obtain ⟨K1, F1⟩ := RelF.hold (u := ⟨t, d⟩) (F := []) hF (id := dd) hn (org := none) (fun i hi => by cases hi)
          have her : DV.er ⟨t, d⟩ = ⟨t, x.1⟩ := congrArg (V.mk t) h1
          have hal : AVC w Sh (upt (app ws R) dd (some ⟨DV.er ⟨t, d⟩, false, [], none, none⟩)) (upt D dd ⟨⟨t, d⟩, none, DV.cs ⟨t, d⟩⟩) (.al dd [] 0 t) (t.cs d) := al_of_hold (u := ⟨t, d⟩) (unflat hpl)
          rw [her] at F1 hal
          exact ⟨_, F1.rel, ⟨t.cs d, hal, rfl⟩⟩
  | many ts =>
    obtain ⟨zs, h1, h2, rfl, rfl⟩ := hr
    have e : (zs.map fun z => (⟨z, none, []⟩ : DRoot)).map (·.dv) = zs := by rw [List.map_map]; exact List.map_id zs
    rw [e] at hF
    cases dst with
    | none => cases h; exact ⟨D, hF.rel, trivial⟩
    | some dd =>
      simp only [landP, Prog.go_bind] at h
      cases h3 : (landL dd 0 ts x ws).go R with
      | none => rw [h3] at h; cases h
      | some q =>
        obtain ⟨av1, ws1⟩ := q
        rw [h3] at h; cases h
        obtain ⟨D', K, F', hl⟩ := land_many (F := []) h3 h1 (by rw [List.append_nil]; exact hF)
        exact ⟨D', F'.rel, _, rfl, hl⟩
  | ptr t => exact absurd rfl (hp t)
end
end Go.Proofs.Ytabjfkongckhaaa.Vm
