/- Calls, the caller's side: arguments. -/
import Derived.Test.YtabjfkongckhaaaVmV
namespace Go.Proofs.Ytabjfkongckhaaa.Vm
open Go Go.RowKit
set_option linter.unusedVariables false

/-! ### rows are written behind a place -/
theorem look_base : ∀ {q : Path} {t : Ty} {d d2 : t.dec} {b bq : Base} {u : DV}, depth q = 0 → lookD ⟨t, d⟩ b q = some (bq, u) → ∃ u2, lookD ⟨t, d2⟩ b q = some (bq, u2)
  | [], t, d, d2, b, bq, u, hd, h => by cases h; exact ⟨_, rfl⟩
  | .fst :: q, .cons a r, d, d2, b, bq, u, hd, h => look_base (q := q) (t := a) (d := d.1) (d2 := d2.1) hd h
  | .snd :: q, .cons a r, d, d2, b, bq, u, hd, h => look_base (q := q) (t := r) (d := d.2) (d2 := d2.2) hd h
  | .idx n :: q, t, d, d2, b, bq, u, hd, h => by cases hd
theorem keep_same : ∀ {t : Ty} {d d2 : t.dec}, t.cs d2 = t.cs d → KeepAt ⟨t, d⟩ ⟨t, d2⟩ 1 False := by
  intro t d d2 hc q
  induction q generalizing t with
  | nil =>
    intro b b' u h
    cases h
    exact ⟨fun _ => ⟨_, rfl⟩, fun _ => ⟨_, rfl, rfl, hc⟩⟩
  | cons s q ih =>
    intro b b' u h
    cases s with
    | fst =>
      cases t with
      | cons a r =>
        have hc : a.cs d2.1 ++ r.cs d2.2 = a.cs d.1 ++ r.cs d.2 := hc
        have := List.append_inj hc (by rw [Ty.cs_len, Ty.cs_len])
        exact ih (t := a) (d := d.1) (d2 := d2.1) this.1 b b' u h
      | _ => cases h
    | snd =>
      cases t with
      | cons a r =>
        have hc : a.cs d2.1 ++ r.cs d2.2 = a.cs d.1 ++ r.cs d.2 := hc
        have := List.append_inj hc (by rw [Ty.cs_len, Ty.cs_len])
        exact ih (t := r) (d := d.2) (d2 := d2.2) this.2 _ b' u h
      | _ => cases h
    | idx n =>
      cases t with
      | sl o e t =>
        cases o with
        | false => cases h
        | true =>
          obtain ⟨⟨A, c⟩, ds⟩ := d
          obtain ⟨⟨A2, c2⟩, ds2⟩ := d2
          have hc : [Value.slice A2 ds2.length c2] = [Value.slice A ds.length c] := hc
          simp only [List.cons.injEq, Value.slice.injEq, and_true] at hc
          obtain ⟨rfl, hl, rfl⟩ := hc
          simp only [lookD] at h
          split at h
          case h_2 => cases h
          rename_i _ A1 dd hd
          have hlt : n < ds2.length := by have := (List.getElem?_eq_some_iff.1 hd).1; omega
          have hd2 : ds2[n]? = some ds2[n] := List.getElem?_eq_getElem hlt
          refine ⟨fun hp => ?_, fun hp => ?_⟩
          · have hp : depth q = 0 := by
              rcases hp with hp | hp
              · exact hp.elim
              · have hp : depth q + 1 ≤ 1 := hp
                omega
            obtain ⟨u2, hu2⟩ := look_base (d2 := ds2[n]) hp h
            refine ⟨u2, ?_⟩
            simp only [lookD, hd2]; exact hu2
          · rcases hp with hp | hp
            · exact hp.1.elim
            · have hp : depth q + 1 < 1 := hp
              omega
      | _ => cases h
theorem keep_rows (n : DV) : ∀ (q : Path) (v : DV) (b bq : Base) (uq v' : DV), lookD v b q = some (bq, uq) → putD v q n = some v' → n.t = uq.t → n.cs = uq.cs → KeepAt v v' (depth q + 1) False := by
  intro q
  induction q with
  | nil =>
    intro v b bq uq v' hq hp ht hc
    cases hq; cases hp
    obtain ⟨t, d⟩ := v
    obtain ⟨t', d'⟩ := n
    have ht : t' = t := ht
    subst ht
    exact keep_same hc
  | cons s q ih =>
    intro v b bq uq v' hq hp ht hc
    obtain ⟨t, x⟩ := v
    cases s with
    | fst =>
      cases t with
      | cons a r =>
        obtain ⟨z, hz, rfl⟩ := Option.map_eq_some_iff.1 (hp : (putD ⟨a, x.1⟩ q n).map _ = some v')
        exact keep_fst (put_sz (v := ⟨a, x.1⟩) (p := q) hq (by rw [ht]) hz) (ih ⟨a, x.1⟩ b bq uq z hq hz ht hc)
      | _ => cases hq
    | snd =>
      cases t with
      | cons a r =>
        obtain ⟨z, hz, rfl⟩ := Option.map_eq_some_iff.1 (hp : (putD ⟨r, x.2⟩ q n).map _ = some v')
        exact keep_snd (ih ⟨r, x.2⟩ _ bq uq z hq hz ht hc)
      | _ => cases hq
    | idx j =>
      cases t with
      | sl o e t =>
        cases o with
        | false => cases hq
        | true =>
          simp only [lookD] at hq
          split at hq
          case h_2 => cases hq
          rename_i A d hA hd
          simp only [putD, hd] at hp
          obtain ⟨z, hz, hp⟩ := Option.bind_eq_some_iff.1 hp
          split at hp
          case isFalse => cases hp
          rename_i ht'
          cases hp
          exact keep_idx hd ht' (ih ⟨t, d⟩ _ bq uq z hq hz ht hc)
      | _ => cases hq
theorem Keeps.rows {w w' : World} {Sh Sh' : Nat → Prop} {R : Nat → Option Root} {D : Nat → DRoot} {id : Nat} {r r' : Root} {q : Path} {bq : Base} {uq n : DV} {dv' : DV} (d' : DRoot) (hsh : ∀ b, Sh b → w'.heap[b]? = w.heap[b]?) (hm : ∀ b, Sh b → Sh' b)
    (hr : R id = some r) (hq : lookD (D id).dv (D id).base q = some (bq, uq)) (hp : putD (D id).dv q n = some dv') (ht : n.t = uq.t) (hc : n.cs = uq.cs)
    (hd : d'.dv = dv') (hb : d'.b = (D id).b) (hlog : r'.log = (depth q + 1, true) :: r.log) : Keeps w w' Sh Sh' R (upt R id (some r')) D (upt D id d') where
  sh := hsh
  shm := hm
  root := fun i ri hri => by
    by_cases e : i = id
    · subst e
      rw [hr] at hri; cases hri
      refine ⟨r', [(depth q + 1, true)], upt_same _ _ _, hlog, fun p t hf hpre b u hu ht' => ?_, fun p hpre k o u hu => ?_⟩
      · rw [upt_same]
        have hbase : d'.base = (D i).base := by rw [DRoot.base, hb]; rfl
        rw [hd, hbase]
        have h := (keep_rows n q _ _ _ _ _ hq hp ht hc p _ _ _ hu).2 (by
          rcases bad1 hpre with hpre | hpre
          · simp at hpre
          · exact .inr hpre)
        obtain ⟨u', h1, h2, h3⟩ := h
        exact ⟨b, u', h1, h2.trans ht', h3⟩
      · rw [upt_same]
        have hbase : d'.base = (D i).base := by rw [DRoot.base, hb]; rfl
        rw [hd, hbase]
        exact (keep_rows n q _ _ _ _ _ hq hp ht hc p _ _ _ hu).1 (by
          rcases bad1 hpre with hpre | hpre
          · simp at hpre
          · exact .inr hpre)
    · refine ⟨ri, [], (upt_ne _ _ e).trans hri, rfl, fun p t _ _ b u hu ht => ?_, fun p _ k o u hu => ?_⟩
      · rw [upt_ne _ _ e]; exact ⟨b, u, hu, ht, rfl⟩
      · rw [upt_ne _ _ e]; exact ⟨u, hu⟩
/-- What lies at a place does not lie in the rows that it owns. -/
theorem look_notin : ∀ {p : Path} {v : DV} {b b' : Base} {u : DV}, lookD v b p = some (b', u) → v.foot.Nodup → (∀ k o, b = some (k, o) → k ∉ v.foot) → ∀ k o, b' = some (k, o) → k ∉ u.foot
  | [], v, b, b', u, h, hn, hb, k, o, hk => by cases h; exact hb k o hk
  | .fst :: p, ⟨.cons a r, x⟩, b, b', u, h, hn, hb, k, o, hk =>
    look_notin (p := p) (v := ⟨a, x.1⟩) h (List.nodup_append.1 (show (a.foot x.1 ++ r.foot x.2).Nodup from hn)).1 (fun k o hk hm => hb k o hk (List.mem_append_left _ hm)) k o hk
  | .snd :: p, ⟨.cons a r, x⟩, b, b', u, h, hn, hb, k, o, hk =>
    look_notin (p := p) (v := ⟨r, x.2⟩) h (List.nodup_append.1 (show (a.foot x.1 ++ r.foot x.2).Nodup from hn)).2.1 (fun k o hk hm => by
      cases b with
      | none => cases hk
      | some z => obtain ⟨k0, o0⟩ := z; cases hk; exact hb k0 o0 rfl (List.mem_append_right _ hm)) k o hk
  | .idx n :: p, ⟨.sl true e t, x⟩, b, b', u, h, hn, hb, k, o, hk => by
    simp only [lookD] at h
    split at h
    case h_2 => cases h
    rename_i A d hA hd
    have hn : ((x.1.1.map (·.block)).toList ++ x.2.flatMap t.foot).Nodup := hn
    obtain ⟨n1, n2, n3⟩ := List.nodup_append.1 hn
    obtain ⟨M1, M2, m1, _⟩ := flatMap_set t.foot x.2 n hd
    exact look_notin (p := p) (v := ⟨t, d⟩) h (nodup_mid (m1 ▸ n2)) (fun k o hk hm => by
      cases hk
      exact n3 _ (by rw [hA]; exact List.mem_singleton.2 rfl) _ (List.mem_flatMap.2 ⟨d, List.mem_of_getElem? hd, hm⟩) rfl) k o hk

/-! ### arguments -/
def AVRs (w : World) (Sh : Nat → Prop) (R : Nat → Option Root) (D : Nat → DRoot) : List AV → List Value → Prop
  | [], vs => vs = []
  | x :: xs, vs => ∃ v vs', vs = v :: vs' ∧ AVR w Sh R D x v ∧ AVRs w Sh R D xs vs'
theorem AVRs.mono {w w' : World} {Sh Sh' : Nat → Prop} {R R' : Nat → Option Root} {D D' : Nat → DRoot} (K : Keeps w w' Sh Sh' R R' D D') : ∀ {xs : List AV} {vs : List Value}, AVRs w Sh R D xs vs → AVRs w' Sh' R' D' xs vs
  | [], vs, h => h
  | x :: xs, vs, h => by obtain ⟨v, vs', e, h1, h2⟩ := h; exact ⟨v, vs', e, K.avr h1, AVRs.mono K h2⟩
section
variable (w : World) (Sh : Nat → Prop) (R : Nat → Option Root) (D : Nat → DRoot)
/-- What stands behind the takes. -/
def PreOK : (k : PK) → k.pre → AV → Value → DRoot → Prop
  | .r p, y, x, v, z => z = noZ ∧ ∀ y' : p.den, y = some y' → AVS w Sh noR noD (p.av y') v
  | .o t, y, x, v, z => t.flat = false ∧ z.b = none ∧ z.dv.er = ⟨t, y⟩ ∧ v = mkw t.agg z.dv.cs
  | .p t t', y, x, v, z => ∃ id s r b, x = .ptr id [] s ∧ R id = some r ∧ (D id).b = some b ∧ z.b = some b ∧ z.dv.er = ⟨t, y⟩ ∧ v = .pointer (some ⟨b, 0, none⟩) ∧ Loc w b 0 z.dv
  | .c t, _, x, v, z => z = noZ
def PresOK : (ks : List PK) → preT ks → List AV → List Value → List DRoot → Prop
  | [], _, [], [], [] => True
  | k :: ks, y, x :: xs, v :: vs, z :: zs => PreOK w Sh R D k y.1 x v z ∧ PresOK ks y.2 xs vs zs
  | _, _, _, _, _ => False
end
section
variable {C : Ctx} {T : Nat → AV} {R : Nat → Option Root} {D : Nat → DRoot} {Sh Sh' : Nat → Prop} {F : List DV} {a : Act} {w : World}
theorem Keeps.blk {w w' : World} {R R' : Nat → Option Root} {D D' : Nat → DRoot} (K : Keeps w w' Sh Sh' R R' D D') {id : Nat} {r : Root} {b : Nat} (hr : R id = some r) (hb : (D id).b = some b) : ∃ r', R' id = some r' ∧ (D' id).b = some b := by
  obtain ⟨r', pre, h1, _, _, h2⟩ := K.root id r hr
  obtain ⟨u', hu⟩ := h2 [] (by
    rw [List.all_eq_true]
    intro e _
    simp [bad, depth, Nat.blt, Nat.ble]) b 0 (D id).dv (by show some (DRoot.base (D id), (D id).dv) = _; rw [base_of hb])
  have hu : some (DRoot.base (D' id), (D' id).dv) = some (some (b, 0), u') := hu
  injection hu with hu
  exact ⟨r', h1, (base_some (congrArg Prod.fst hu)).1⟩
theorem PreOK.mono {R R' : Nat → Option Root} {D D' : Nat → DRoot} (K : Keeps w w Sh Sh' R R' D D') : ∀ {k : PK} {y : k.pre} {x : AV} {v : Value} {z : DRoot}, PreOK w Sh R D k y x v z → PreOK w Sh' R' D' k y x v z
  | .r p, y, x, v, z, h => ⟨h.1, fun y' e => by
    obtain ⟨cs, hc, hv⟩ := h.2 y' e
    exact ⟨cs, (Keeps.avc (R := noR) (R' := noR) (D := noD) (D' := noD) ⟨fun _ _ => rfl, K.shm, fun id r hr => by cases hr⟩ hc), hv⟩⟩
  | .o t, y, x, v, z, h => h
  | .p t t', y, x, v, z, h => by
    obtain ⟨id, s, r, b, h1, h2, h3, h4⟩ := h
    obtain ⟨r', e1, e2⟩ := K.blk h2 h3
    exact ⟨id, s, r', b, h1, e1, e2, h4⟩
  | .c t, y, x, v, z, h => h
theorem takeIf_ok {strict : Bool} {p : Pat} {x : AV} {ws ws' : Writes} {y : Option p.den} (h : (takeIf strict p x ws).go R = some (y, ws')) (hF : RelF C ⟨T, app ws R⟩ D Sh F a w) {v : Value} (hv : AVR w Sh (app ws R) D x v) :
    ∃ (D' : Nat → DRoot) (Sh' : Nat → Prop), (∀ y' : p.den, y = some y' → AVS w Sh' noR noD (p.av y') v) ∧ (∀ b, Sh b → Sh' b) ∧ Keeps w w Sh Sh' (app ws R) (app ws' R) D D' ∧ RelF C ⟨T, app ws' R⟩ D' Sh' F a w := by
  have none_ok : ∀ {y : Option p.den}, some ((none : Option p.den), ws) = some (y, ws') → ∃ (D' : Nat → DRoot) (Sh' : Nat → Prop), (∀ y' : p.den, y = some y' → AVS w Sh' noR noD (p.av y') v) ∧ (∀ b, Sh b → Sh' b) ∧ Keeps w w Sh Sh' (app ws R) (app ws' R) D D' ∧ RelF C ⟨T, app ws' R⟩ D' Sh' F a w := by
    intro y h
    cases h
    exact ⟨D, Sh, (fun y' e => by cases e), fun _ h => h, Keeps.grow (fun _ _ => rfl), hF⟩
  cases p with
  | val t =>
    simp only [takeIf] at h
    cases hb : (strict && isOwn x) with
    | false => rw [hb] at h; exact none_ok h
    | true =>
      rw [hb] at h
      simp only [cond_true, Prog.go_bind] at h
      cases hk : (takeTo t x ws).go R with
      | none => rw [hk] at h; cases h
      | some q =>
        obtain ⟨y1, ws1⟩ := q
        rw [hk] at h; cases h
        obtain ⟨D1, Sh1, d, e1, e2, s1, K1, F1⟩ := takeTo_ok hk hF hv
        obtain ⟨Sh2, s2, K2, hRR, F2⟩ := F1.share
        refine ⟨D1, Sh2, fun y' e => ?_, fun b hb => s2 b (s1 b hb), K1.trans K2, F2⟩
        cases e
        refine ⟨t.cs d, ?_, e2⟩
        rw [← e1]; exact hRR
  | _ => exact none_ok h
theorem pre1_ok {strict : Bool} {k : PK} {x : AV} {ws ws' : Writes} {y : k.pre} (h : (pre1 strict k x ws).go R = some (y, ws')) (hF : RelF C ⟨T, app ws R⟩ D Sh F a w) {v : Value} (hv : AVR w Sh (app ws R) D x v) :
    ∃ (D' : Nat → DRoot) (Sh' : Nat → Prop) (z : DRoot), PreOK w Sh' (app ws' R) D' k y x v z ∧ (∀ b, Sh b → Sh' b) ∧ Keeps w w Sh Sh' (app ws R) (app ws' R) D D' ∧ RelF C ⟨T, app ws' R⟩ D' Sh' (z.dv :: F) a w := by
  cases k with
  | r p =>
    simp only [pre1, Prog.go_bind] at h
    cases hk : (takeIf strict p x ws).go R with
    | none => rw [hk] at h; cases h
    | some q =>
      obtain ⟨y1, ws1⟩ := q
      rw [hk] at h; cases h
      obtain ⟨D1, Sh1, e1, s1, K1, F1⟩ := takeIf_ok hk hF hv
      exact ⟨D1, Sh1, noZ, ⟨rfl, e1⟩, s1, K1, F1.free (v := noZ.dv) trivial rfl⟩
  | o t =>
    simp only [pre1] at h
    cases hf : t.flat with
    | true => rw [hf] at h; cases h
    | false =>
      rw [hf] at h
      simp only [cond_false, Prog.go_bind] at h
      cases hk : (takeTo t x ws).go R with
      | none => rw [hk] at h; cases h
      | some q =>
        obtain ⟨y1, ws1⟩ := q
        rw [hk] at h; cases h
        obtain ⟨D1, Sh1, d, e1, e2, s1, K1, F1⟩ := takeTo_ok hk hF hv
        exact ⟨D1, Sh1, ⟨⟨t, d⟩, none, []⟩, ⟨hf, rfl, congrArg (V.mk t) e1, e2⟩, s1, K1, F1⟩
  | c t =>
    cases h
    exact ⟨D, Sh, noZ, rfl, fun _ h => h, Keeps.grow (fun _ _ => rfl), hF.free (v := noZ.dv) trivial rfl⟩
  | p t t' =>
    cases x with
    | ptr id pp s =>
      cases pp with
      | cons _ _ => cases h
      | nil =>
        simp only [pre1, getR_go] at h
        cases hr : app ws R id with
        | none => rw [hr] at h; cases h
        | some r =>
          rw [hr] at h
          simp only at h
          cases hb : r.blk with
          | false => rw [hb] at h; cases h
          | true =>
            rw [hb] at h
            simp only [cond_true] at h
            cases hx : toT r.v t with
            | none => rw [hx] at h; cases h
            | some x1 =>
              rw [hx] at h
              simp only at h
              cases ht : decide (r.v.t = t) with
              | false => rw [ht] at h; cases h
              | true =>
                rw [ht] at h
                cases h
                have ht := of_decide_eq_true ht
                have RR := hF.rel.root id r hr
                obtain ⟨cs, ⟨v0, rfl, r', hr', _, hp⟩, hvv⟩ := hv
                rw [hr] at hr'; cases hr'
                obtain ⟨b, o, u, hl, rfl⟩ := hp (since0 _ _ _)
                have hl' : some (DRoot.base (D id), (D id).dv) = some (some (b, o), u) := hl
                injection hl' with hl'
                have hu : (D id).dv = u := congrArg Prod.snd hl'
                obtain ⟨hbk, rfl⟩ := base_some (congrArg Prod.fst hl')
                have her : u.er = r.v := by rw [← hu]; exact RR.er
                have hpv : putV r.v [] u.er.hol = some r.v.hol := by rw [her]; rfl
                obtain ⟨D', K, F'⟩ := hF.steal hr hl hpv
                rw [her] at K F'
                obtain ⟨r2, e1, e2⟩ := K.blk hr hbk
                refine ⟨D', Sh, ⟨u, some b, []⟩, ⟨id, s, r2, b, rfl, e1, e2, rfl, ?_, hvv, ?_⟩, fun _ h => h, K, F'⟩
                · rw [her]
                  obtain ⟨hlow, hxx⟩ := toT_some hx
                  subst ht
                  rw [hxx]; rfl
                · rw [← hu]; exact RR.loc b hbk
    | _ => cases h
theorem preP_ok {strict : Bool} : ∀ {ks : List PK} {xs : List AV} {ws ws' : Writes} {y : preT ks} {D : Nat → DRoot} {Sh : Nat → Prop} {F : List DV} {vs : List Value}, (preP strict ks xs ws).go R = some (y, ws') → RelF C ⟨T, app ws R⟩ D Sh F a w → AVRs w Sh (app ws R) D xs vs →
    ∃ (D' : Nat → DRoot) (Sh' : Nat → Prop) (zs : List DRoot), PresOK w Sh' (app ws' R) D' ks y xs vs zs ∧ (∀ b, Sh b → Sh' b) ∧ Keeps w w Sh Sh' (app ws R) (app ws' R) D D' ∧ RelF C ⟨T, app ws' R⟩ D' Sh' (zs.map (·.dv) ++ F) a w
  | [], [], ws, ws', y, D, Sh, F, vs, h, hF, hv => by
    cases h
    have hv : vs = [] := hv
    subst hv
    exact ⟨D, Sh, [], trivial, fun _ h => h, Keeps.grow (fun _ _ => rfl), hF⟩
  | [], _ :: _, ws, ws', y, D, Sh, F, vs, h, hF, hv => by cases h
  | _ :: _, [], ws, ws', y, D, Sh, F, vs, h, hF, hv => by cases h
  | k :: ks, x :: xs, ws, ws', y, D, Sh, F, vs, h, hF, hv => by
    simp only [preP, Prog.go_bind] at h
    cases h1 : (pre1 strict k x ws).go R with
    | none => rw [h1] at h; cases h
    | some q =>
      obtain ⟨y1, ws1⟩ := q
      rw [h1] at h
      simp only at h
      cases h2 : (preP strict ks xs ws1).go R with
      | none => rw [h2] at h; cases h
      | some q2 =>
        obtain ⟨y2, ws2⟩ := q2
        rw [h2] at h; cases h
        obtain ⟨v, vs', rfl, hv1, hv2⟩ := hv
        obtain ⟨D1, Sh1, z, p1, s1, K1, F1⟩ := pre1_ok h1 hF hv1
        obtain ⟨D2, Sh2, zs, p2, s2, K2, F2⟩ := preP_ok h2 F1 (hv2.mono K1)
        exact ⟨D2, Sh2, z :: zs, ⟨p1.mono K2, p2⟩, fun b hb => s2 b (s1 b hb), K1.trans K2, F2.perm List.perm_middle⟩
end
end Go.Proofs.Ytabjfkongckhaaa.Vm
