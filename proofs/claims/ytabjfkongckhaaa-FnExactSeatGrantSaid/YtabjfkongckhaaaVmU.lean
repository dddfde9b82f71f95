/- Functions: what a call needs, what it leaves; a function whose code runs answers as told. -/
import Derived.Test.YtabjfkongckhaaaVmT
namespace Go.Proofs.Ytabjfkongckhaaa.Vm
open Go Go.RowKit
set_option linter.unusedVariables false

def noR : Nat → Option Root := fun _ => none
def noZ : DRoot := ⟨⟨.nil, ()⟩, none, []⟩
def noD : Nat → DRoot := fun _ => noZ
section
variable (w : World) (Sh : Nat → Prop)
/-- An argument, and what it owns. -/
def ArgOK : (k : PK) → k.den → Value → DRoot → Prop
  | .r p, x, v, z => AVS w Sh noR noD (p.av x) v ∧ z = noZ
  | .o t, x, v, z => t.flat = false ∧ z.b = none ∧ z.dv.er = ⟨t, x⟩ ∧ z.dv.OK w Sh ∧ v = mkw t.agg z.dv.cs
  | .p t _, x, v, z => ∃ b, z.b = some b ∧ z.dv.er = ⟨t, x⟩ ∧ z.dv.OK w Sh ∧ v = .pointer (some ⟨b, 0, none⟩) ∧ Loc w b 0 z.dv
  | .c t, x, v, z => t.flat = false ∧ z.b = none ∧ z.dv.er = ⟨t, x⟩ ∧ z.dv.OK w Sh ∧ v = mkw t.agg z.dv.cs
def ArgsOK : (ks : List PK) → argsT ks → List Value → List DRoot → Prop
  | [], _, [], [] => True
  | k :: ks, x, v :: vs, z :: zs => ArgOK w Sh k x.1 v z ∧ ArgsOK ks x.2 vs zs
  | _, _, _, _ => False
def ManyD : (ts : List Ty) → (tyW ts).den → List DV → Prop
  | [], _, zs => zs = []
  | t :: ts, x, zs => ∃ (d : t.dec) (zs' : List DV), t.er d = x.1 ∧ zs = ⟨t, d⟩ :: zs' ∧ ManyD ts x.2 zs'
def DVs : (ts : List Ty) → tysT ts → List DV → Prop
  | [], _, zs => zs = []
  | [t], x, zs => ∃ d : t.dec, t.er d = x ∧ zs = [⟨t, d⟩]
  | t :: u :: ts, x, zs => ∃ (d : t.dec) (zs' : List DV), t.er d = x.1 ∧ zs = ⟨t, d⟩ :: zs' ∧ DVs (u :: ts) x.2 zs'
def valV (z : DV) : Value := mkw z.t.agg z.cs
def ResOK : (rk : RK) → (tyW rk.tys).den → Value → List DRoot → Prop
  | .one t, x, v, rs => ∃ d : t.dec, t.er d = x.1 ∧ t.OK w Sh d ∧ v = mkw t.agg (t.cs d) ∧ rs = [⟨⟨t, d⟩, none, []⟩]
  | .many ts, x, v, rs => ∃ zs : List DV, ManyD ts x zs ∧ (∀ z ∈ zs, z.OK w Sh) ∧ v = .tuple (zs.map valV).toArray ∧ rs = zs.map fun z => ⟨z, none, []⟩
  | .ptr t, x, v, rs => ∃ (d : t.dec) (b : Nat), t.er d = x.1 ∧ t.OK w Sh d ∧ Loc w b 0 ⟨t, d⟩ ∧ v = .pointer (some ⟨b, 0, none⟩) ∧ rs = [⟨⟨t, d⟩, some b, []⟩]
/-- What comes back. -/
def BackOK : List PK → List DRoot → List V → List DRoot → Prop
  | [], [], ys, bs => ys = [] ∧ bs = []
  | .r _ :: ks, _ :: zs, ys, bs => BackOK ks zs ys bs
  | .o _ :: ks, _ :: zs, ys, bs => BackOK ks zs ys bs
  | .p _ t :: ks, z :: zs, y :: ys, b :: bs => b.b = z.b ∧ y.t = t ∧ b.dv.er = y ∧ b.dv.OK w Sh ∧ (∀ k, b.b = some k → Loc w k 0 b.dv) ∧ BackOK ks zs ys bs
  | .c t :: ks, z :: zs, y :: ys, b :: bs => b.b = none ∧ y.t = t ∧ b.dv.er = y ∧ b.dv.OK w Sh ∧ b.dv.cs = z.dv.cs ∧ BackOK ks zs ys bs
  | _, _, _, _ => False
end
/-- How a call leaves memory. -/
structure Left (w : World) (Sh M : Nat → Prop) (w' : World) (Sh' : Nat → Prop) (foot : List Nat) : Prop where
  os : w'.os = w.os
  tape : w'.tape = w.tape
  output : w'.output = w.output
  hsz : w.heap.size ≤ w'.heap.size
  block : ∀ b, b < w.heap.size → ¬ M b → w'.heap[b]? = w.heap[b]?
  sh : ∀ b, Sh b → Sh' b
  shn : ∀ b, Sh' b → (Sh b ∨ w.heap.size ≤ b ∨ M b) ∧ b < w'.heap.size
  nd : foot.Nodup
  fresh : ∀ b ∈ foot, ¬ Sh' b ∧ b < w'.heap.size ∧ (w.heap.size ≤ b ∨ M b)
def feet (zs : List DRoot) : List Nat := zs.flatMap DRoot.foot
def Enters (P : Program) (f : FuncId) : Prop := ∃ fn, P.funcs[f]? = some fn ∧ (fn.name == "runtime.NumGoroutine") = false ∧ fn.body.isNone = false
def ptrFree (c : Con) : Prop := ∀ t, c.rk = .ptr t → backs c.ks = []
def CallOK (P : Program) (f : FuncId) (c : Con) : Prop := Enters P f ∧ ptrFree c ∧ ∀ (w : World) (Sh : Nat → Prop) (x : argsT c.ks) (y : ansT c.rk c.ks) (vs : List Value) (zs : List DRoot), c.fn x = some y →
  (∀ b, Sh b → b < w.heap.size) → ArgsOK w Sh c.ks x vs zs → (feet zs).Nodup → (∀ b ∈ feet zs, ¬ Sh b ∧ b < w.heap.size) →
  Calls P f vs.toArray w fun e w' => ∃ v Sh' rs bs, e = .returned v ∧ Left w Sh (fun b => b ∈ feet zs) w' Sh' (feet rs ++ feet bs) ∧
    ResOK w' Sh' c.rk (cutA c.rk.tys (backs c.ks) y).1 v rs ∧ BackOK w' Sh' c.ks zs (cutA c.rk.tys (backs c.ks) y).2 bs

theorem cut_join : ∀ (ts bs : List Ty) (x : tysT ts) (y : tysT bs), (cutA ts bs (joinA ts bs x y)).2 = cutB bs y ∧ ∀ zs, DVs ts x zs → ManyD ts (cutA ts bs (joinA ts bs x y)).1 zs
  | [], bs, x, y => ⟨rfl, fun zs h => h⟩
  | [t], [], x, y => ⟨rfl, fun zs h => by obtain ⟨d, h1, rfl⟩ := h; exact ⟨d, [], h1, rfl, rfl⟩⟩
  | [t], b :: bs, x, y => ⟨rfl, fun zs h => by obtain ⟨d, h1, rfl⟩ := h; exact ⟨d, [], h1, rfl, rfl⟩⟩
  | t :: u :: ts, bs, x, y => by
    obtain ⟨i1, i2⟩ := cut_join (u :: ts) bs x.2 y
    refine ⟨i1, fun zs h => ?_⟩
    obtain ⟨d, zs', h1, rfl, h3⟩ := h
    exact ⟨d, zs', h1, rfl, i2 zs' h3⟩

/-! ### results -/
section
variable {C : Ctx} {T : List (TypeId × TRow)} {st : St} {D : Nat → DRoot} {Sh : Nat → Prop} {a : Act} {w : World}
theorem load_ok (hT : TabOK C.P T) {t : TypeId} {row : TRow} (hrow : tget T t = some row) {x av : AV} {v : Value} (hR : Rel C st D Sh a w) (he : AVR w Sh st.roots D x v) (h : (loadP row x).go st.roots = some av) :
    ∃ k o u, v = .pointer (some ⟨k, o, none⟩) ∧ (loadVar t ⟨k, o, none⟩).run C.P w = .ok u w ∧ AVR w Sh st.roots D av u := by
  have hr := hT t row hrow
  unfold loadP at h
  cases x with
  | ptr id p s =>
    obtain ⟨r, hr1, hs1, hs2, h⟩ := withR_go h
    obtain ⟨k, o', u, hl, hv⟩ := ptr_look he hr1 hs2
    obtain ⟨hgv, hok, hloc⟩ := hR.look hr1 hl
    simp only [hgv] at h
    cases hlk : like u.er.t row.ty with
    | false => rw [hlk] at h; cases h
    | true =>
      rw [hlk] at h; cases h
      obtain ⟨rw_, e, hrw, hc⟩ := hloc k o' rfl
      have hlen : u.cs.length = row.ty.sz := (Ty.cs_len u.t u.d).trans (like_sz hlk)
      have hag : u.t.agg = row.ty.agg := like_agg hlk
      refine ⟨k, o', _, hv, hr.load (w := w) hlen (fun j v hj => by rw [hrw.cell]; exact hc j v hj), ?_⟩
      cases hp : u.t.plain with
      | true =>
        show AVR w Sh st.roots D (bif u.t.plain then .sh u.t (u.t.er u.d) else _) _
        rw [hp]
        exact ⟨u.cs, Ty.OK_RR (fun _ h => h) hok (fun b hb => by rw [Ty.plain_foot u.d hp] at hb; cases hb), by rw [← hag]; rfl⟩
      | false =>
        show AVR w Sh st.roots D (bif u.t.plain then _ else .al id p r.log.length u.t) _
        rw [hp]
        refine ⟨u.cs, ⟨?_, r, hr1, Nat.le_refl _, fun _ => ⟨_, u, hl, rfl, rfl⟩⟩, by rw [← hag]; rfl⟩
        cases hf : u.t.flat with
        | false => rfl
        | true => rw [flat_plain hf] at hp; cases hp
  | sptr t' xx =>
    simp only at h
    obtain ⟨b, o', cc, hv, hb, hRR, hc⟩ := sptr_look he
    cases hlk : like t' row.ty with
    | false => rw [hlk] at h; cases h
    | true =>
      rw [hlk] at h; cases h
      exact ⟨b, o', _, hv, hr.load (w := w) ((Ty.RR_len hRR).trans (like_sz hlk)) hc, ⟨cc, hRR, by rw [← like_agg hlk]; rfl⟩⟩
  | _ => cases h

def evalR (tmps : Array Value) : ResultVar → Sem Value
  | .tmp t => pure (tmps.getD t undef)
  | .cell a t => do loadVar t (← asAddr (tmps.getD a undef))
def outV : List Value → Value
  | [v] => v
  | vs => .tuple vs.toArray
theorem results_run {P : Program} {fn : Func} {tmps : Array Value} {vs : List Value} {w : World} (h : (fn.results.toList.mapM (evalR tmps)).run P w = .ok vs w) : (results fn tmps).run P w = .ok (outV vs) w := by
  have e : results fn tmps = (do
    let vs ← fn.results.mapM (evalR tmps)
    pure (if h : vs.size = 1 then vs[0] else .tuple vs)) := by
    unfold results
    congr 1
  rw [e, Array.mapM_eq_mapM_toList]
  simp only [Sem.run_bind, Sem.run_map, h, Result.andThen_ok, Sem.run_pure]
  rcases vs with _ | ⟨v, _ | ⟨u, vs⟩⟩ <;> rfl
theorem resP_ok (hT : TabOK C.P T) {r : ResultVar} {av : AV} (hR : Rel C st D Sh a w) (h : (resP T st.tmps r).go st.roots = some av) : ∃ u, (evalR a.tmps r).run C.P w = .ok u w ∧ AVR w Sh st.roots D av u := by
  cases r with
  | tmp t => cases h; exact ⟨_, rfl, hR.tmp t⟩
  | cell x t =>
    simp only [resP] at h
    cases hrow : tget T t with
    | none => rw [hrow] at h; cases h
    | some row =>
      rw [hrow] at h
      obtain ⟨k, o, u, hv, hl, hu⟩ := load_ok hT hrow hR (hR.tmp x) h
      refine ⟨u, ?_, hu⟩
      simp only [evalR, hv, asAddr, Sem.run_bind, Sem.run_pure, Result.andThen_ok, hl]
theorem resL_ok (hT : TabOK C.P T) (hR : Rel C st D Sh a w) : ∀ {rs : List ResultVar} {ts : List Ty} {ws ws' : Writes} {y : tysT ts} {D1 : Nat → DRoot} {Sh1 : Nat → Prop} {F : List DV}, (resL T st.tmps rs ts ws).go st.roots = some (y, ws') →
    (∀ b, Sh b → Sh1 b) → Keeps w w Sh Sh1 st.roots (app ws st.roots) D D1 → RelF C ⟨st.tmps, app ws st.roots⟩ D1 Sh1 F a w →
    ∃ (D' : Nat → DRoot) (Sh' : Nat → Prop) (zs : List DV), (rs.mapM (evalR a.tmps)).run C.P w = .ok (zs.map valV) w ∧ DVs ts y zs ∧ (∀ b, Sh b → Sh' b) ∧ Keeps w w Sh Sh' st.roots (app ws' st.roots) D D' ∧ RelF C ⟨st.tmps, app ws' st.roots⟩ D' Sh' (zs.reverse ++ F) a w
  | [], [], ws, ws', y, D1, Sh1, F, h, hs, K, hF => by
    cases h
    exact ⟨D1, Sh1, [], rfl, rfl, hs, K, hF⟩
  | [r], [t], ws, ws', y, D1, Sh1, F, h, hs, K, hF => by
    simp only [resL, Prog.go_bind] at h
    cases hr : (resP T st.tmps r).go st.roots with
    | none => rw [hr] at h; cases h
    | some av =>
      rw [hr] at h
      obtain ⟨u, hu, hav⟩ := resP_ok hT hR hr
      obtain ⟨D', Sh', d, e1, e2, hs2, K2, F2⟩ := takeTo_ok h hF (K.avr hav)
      refine ⟨D', Sh', [⟨t, d⟩], ?_, ⟨d, e1, rfl⟩, fun b hb => hs2 b (hs b hb), K.trans K2, F2⟩
      simp only [List.mapM_cons, List.mapM_nil, Sem.run_bind, hu, Result.andThen_ok, Sem.run_pure, e2, List.map]; rfl
  | r :: s :: rs, t :: t2 :: ts, ws, ws', y, D1, Sh1, F, h, hs, K, hF => by
    simp only [resL, Prog.go_bind] at h
    cases hr : (resP T st.tmps r).go st.roots with
    | none => rw [hr] at h; cases h
    | some av =>
      rw [hr] at h
      simp only at h
      obtain ⟨u, hu, hav⟩ := resP_ok hT hR hr
      cases hk : (takeTo t av ws).go st.roots with
      | none => rw [hk] at h; cases h
      | some q =>
        obtain ⟨x, ws1⟩ := q
        rw [hk] at h
        simp only at h
        obtain ⟨D2, Sh2, d, e1, e2, hs2, K2, F2⟩ := takeTo_ok hk hF (K.avr hav)
        cases hq : (resL T st.tmps (s :: rs) (t2 :: ts) ws1).go st.roots with
        | none => rw [hq] at h; cases h
        | some q2 =>
          obtain ⟨y2, ws2⟩ := q2
          rw [hq] at h; cases h
          obtain ⟨D', Sh', zs, g1, g2, g3, g4, g5⟩ := resL_ok hT hR hq (fun b hb => hs2 b (hs b hb)) (K.trans K2) F2
          refine ⟨D', Sh', ⟨t, d⟩ :: zs, ?_, ⟨d, zs, e1, rfl, g2⟩, g3, g4, by simpa using g5⟩
          rw [List.mapM_cons]
          simp only [Sem.run_bind, hu, Result.andThen_ok, g1, Sem.run_pure, e2, List.map]; rfl
  | [], _ :: _, _, _, _, _, _, _, h, _, _, _ => by cases h
  | [_], [], _, _, _, _, _, _, h, _, _, _ => by cases h
  | [_], _ :: _ :: _, _, _, _, _, _, _, h, _, _, _ => by cases h
  | _ :: _ :: _, [], _, _, _, _, _, _, h, _, _, _ => by cases h
  | _ :: _ :: _, [_], _, _, _, _, _, _, h, _, _, _ => by cases h
end

/-! ### functions -/
/-- What a function must look like. -/
def conOk (n : Nat) (c : Con) : Bool := Nat.ble (backs c.ks).length 1 && Nat.ble c.ks.length n && (match c.rk with
  | .one _ => true
  | .many ts => !Nat.beq ts.length 1
  | .ptr _ => (backs c.ks).isEmpty)
def funOk (fn : Func) (c : Con) : Bool := conOk fn.ntmps c && (match fn.body with
  | some b => okC fn.ntmps b
  | none => false)
theorem ids_find {R : Nat → Option Root} {n : Nat} {blk : Bool} : ∀ {ids : List Nat} {v : V}, findOrg R n blk ids = some v → ∃ id r, R id = some r ∧ v = r.v ∧ (blk = true → r.pin = some n) ∧ (blk = false → r.org = some n ∧ since r.log 0 1 false = true)
  | [], v, h => by simp only [findOrg] at h; cases h
  | i :: ids, v, h => by
    simp only [findOrg] at h
    cases hr : R i with
    | none => rw [hr] at h; exact ids_find (by simpa using h)
    | some r =>
      rw [hr] at h
      simp only at h
      cases hq : (bif blk then r.pin else r.org) with
      | none => rw [hq] at h; exact ids_find (by simpa using h)
      | some j =>
        rw [hq] at h
        simp only at h
        cases hb : (Nat.beq j n && (blk || since r.log 0 1 false)) with
        | false => rw [hb] at h; exact ids_find h
        | true =>
          rw [hb] at h
          cases h
          rw [Bool.and_eq_true] at hb
          have e := Nat.eq_of_beq_eq_true hb.1
          subst e
          refine ⟨i, r, hr, rfl, fun e => ?_, fun e => ?_⟩
          · subst e; exact hq
          · subst e; exact ⟨hq, by simpa using hb.2⟩
theorem cut1 : ∀ {t : Ty} {bs : List Ty} (h : bs = []) (x : t.den) (y : tysT bs), cutB (t :: bs) (joinA [t] bs x y) = [⟨t, x⟩]
  | t, _, rfl, x, y => rfl
theorem exT_some {v : V} {t : Ty} {x : t.den} (h : exT v t = some x) : v = ⟨t, x⟩ := by
  unfold exT at h
  split at h
  · rename_i e
    obtain ⟨t', x'⟩ := v
    have e : t' = t := e
    subst e
    cases h; rfl
  · cases h
theorem backs_none {w : World} {Sh : Nat → Prop} : ∀ {ks : List PK} {x : argsT ks} {w0 : World} {Sh0 : Nat → Prop} {vs : List Value} {zs : List DRoot}, backs ks = [] → ArgsOK w0 Sh0 ks x vs zs → BackOK w Sh ks zs [] []
  | [], x, w0, Sh0, [], [], _, _ => ⟨rfl, rfl⟩
  | .r p :: ks, x, w0, Sh0, v :: vs, z :: zs, hb, h => backs_none (ks := ks) hb h.2
  | .o p :: ks, x, w0, Sh0, v :: vs, z :: zs, hb, h => backs_none (ks := ks) hb h.2
  | .p _ _ :: ks, x, w0, Sh0, v :: vs, z :: zs, hb, h => by cases hb
  | .c _ :: ks, x, w0, Sh0, v :: vs, z :: zs, hb, h => by cases hb
  | [], x, w0, Sh0, _ :: _, [], _, h => h.elim
  | [], x, w0, Sh0, _, _ :: _, _, h => by cases (show False from by cases ‹List Value› <;> exact h)
  | _ :: _, x, w0, Sh0, [], _, _, h => h.elim
  | _ :: _, x, w0, Sh0, _ :: _, [], _, h => h.elim
section
variable {C : Ctx} {st : St} {D : Nat → DRoot} {Sh : Nat → Prop} {F : List DV} {a : Act} {w : World}
theorem backs_ok {R : Nat → Option Root} {T : Nat → AV} (hR : Rel C ⟨T, R⟩ D Sh a w) {ids : List Nat} : ∀ {ks : List PK} {n : Nat} {y : tysT (backs ks)} {x : argsT ks} {w0 : World} {Sh0 : Nat → Prop} {vs : List Value} {zs : List DRoot}, Nat.ble (backs ks).length 1 = true → backL R ids n ks = some y →
    ArgsOK w0 Sh0 ks x vs zs → (∀ i z, zs[i]? = some z → C.pc (n + i) = z.dv.cs ∧ ∀ b, z.b = some b → C.pb (n + i) = b) →
    ∃ bs, BackOK w Sh ks zs (cutB (backs ks) y) bs ∧ (feet bs).Nodup ∧ ∀ b ∈ feet bs, ∃ id r, R id = some r ∧ b ∈ (D id).foot
  | [], n, y, x, w0, Sh0, [], [], hl, h, hA, hz => ⟨[], ⟨rfl, rfl⟩, List.nodup_nil, fun b hb => by cases hb⟩
  | .r p :: ks, n, y, x, w0, Sh0, v :: vs, z :: zs, hl, h, hA, hz => backs_ok hR (ks := ks) (n := n + 1) hl h hA.2 (fun i z' hi => by
      have := hz (i + 1) z' (by simpa using hi)
      rwa [show n + (i + 1) = n + 1 + i by omega] at this)
  | .o p :: ks, n, y, x, w0, Sh0, v :: vs, z :: zs, hl, h, hA, hz => backs_ok hR (ks := ks) (n := n + 1) hl h hA.2 (fun i z' hi => by
      have := hz (i + 1) z' (by simpa using hi)
      rwa [show n + (i + 1) = n + 1 + i by omega] at this)
  | .p t t' :: ks, n, y, x, w0, Sh0, v :: vs, z :: zs, hl, h, hA, hz => by
    have hbk : backs ks = [] := by
      have : (backs ks).length + 1 ≤ 1 := by simpa [Nat.ble_eq] using hl
      exact List.eq_nil_of_length_eq_zero (by omega)
    simp only [backL] at h
    cases hf : findOrg R n true ids with
    | none => rw [hf] at h; cases h
    | some vv =>
      rw [hf] at h
      simp only at h
      cases he : exT vv t' with
      | none => rw [he] at h; cases h
      | some x1 =>
        cases hy : backL R ids (n + 1) ks with
        | none => rw [he, hy] at h; cases h
        | some y1 =>
          rw [he, hy] at h
          simp only at h
          cases h
          obtain ⟨id, r, hr, rfl, hp, _⟩ := ids_find hf
          have hp := hp rfl
          have RR := hR.root id r hr
          obtain ⟨b, hb, _⟩ := hA.1
          have hpb := RR.pin n hp
          have hz0 := (hz 0 z rfl).2 b hb
          rw [Nat.add_zero] at hz0
          have hv := exT_some he
          have hcut : cutB (t' :: backs ks) (joinA [t'] (backs ks) x1 y1) = [⟨t', x1⟩] := cut1 hbk x1 y1
          refine ⟨[D id], ?_, by show (DRoot.foot (D id) ++ []).Nodup; rw [List.append_nil]; exact RR.nd, fun b hb => ⟨id, r, hr, by simpa [feet] using hb⟩⟩
          show BackOK w Sh (.p t t' :: ks) (z :: zs) (cutB (t' :: backs ks) (joinA [t'] (backs ks) x1 y1)) [D id]
          rw [hcut]
          exact ⟨by rw [hpb, hb, hz0], rfl, RR.er.trans hv, RR.ok, RR.loc, backs_none hbk hA.2⟩
  | .c t :: ks, n, y, x, w0, Sh0, v :: vs, z :: zs, hl, h, hA, hz => by
    have hbk : backs ks = [] := by
      have : (backs ks).length + 1 ≤ 1 := by simpa [Nat.ble_eq] using hl
      exact List.eq_nil_of_length_eq_zero (by omega)
    simp only [backL] at h
    cases hf : findOrg R n false ids with
    | none => rw [hf] at h; cases h
    | some vv =>
      rw [hf] at h
      simp only at h
      cases he : exT vv t with
      | none => rw [he] at h; cases h
      | some x1 =>
        cases hy : backL R ids (n + 1) ks with
        | none => rw [he, hy] at h; cases h
        | some y1 =>
          rw [he, hy] at h
          simp only at h
          cases h
          obtain ⟨id, r, hr, rfl, _, hp⟩ := ids_find hf
          obtain ⟨hp, hs⟩ := hp rfl
          have RR := hR.root id r hr
          have hz0 := (hz 0 z rfl).1
          rw [Nat.add_zero] at hz0
          have hv := exT_some he
          have hcut : cutB (t :: backs ks) (joinA [t] (backs ks) x1 y1) = [⟨t, x1⟩] := cut1 hbk x1 y1
          have hn : (DV.foot (D id).dv).Nodup := (List.nodup_append.1 RR.nd).2.1
          refine ⟨[⟨(D id).dv, none, []⟩], ?_, by show (DV.foot (D id).dv ++ []).Nodup; rw [List.append_nil]; exact hn, fun b hb => ⟨id, r, hr, mem_dv ?_⟩⟩
          · show BackOK w Sh (.c t :: ks) (z :: zs) (cutB (t :: backs ks) (joinA [t] (backs ks) x1 y1)) _
            rw [hcut]
            exact ⟨rfl, rfl, RR.er.trans hv, RR.ok, by rw [RR.top hs, RR.org n hp, hz0], backs_none hbk hA.2⟩
          · have hb : b ∈ DV.foot (D id).dv ++ [] := hb
            rwa [List.append_nil] at hb
  | [], n, y, x, w0, Sh0, [], _ :: _, hl, h, hA, hz => hA.elim
  | [], n, y, x, w0, Sh0, _ :: _, [], hl, h, hA, hz => hA.elim
  | [], n, y, x, w0, Sh0, _ :: _, _ :: _, hl, h, hA, hz => hA.elim
  | _ :: _, n, y, x, w0, Sh0, [], _, hl, h, hA, hz => hA.elim
  | _ :: _, n, y, x, w0, Sh0, _ :: _, [], hl, h, hA, hz => hA.elim
end

/-! ### a call's start -/
theorem args_len {w : World} {Sh : Nat → Prop} : ∀ {ks : List PK} {x : argsT ks} {vs : List Value} {zs : List DRoot}, ArgsOK w Sh ks x vs zs → vs.length = ks.length ∧ zs.length = ks.length
  | [], x, [], [], h => ⟨rfl, rfl⟩
  | k :: ks, x, v :: vs, z :: zs, h => by
    obtain ⟨h1, h2⟩ := args_len h.2
    simp [h1, h2]
  | [], _, [], _ :: _, h => h.elim
  | [], _, _ :: _, [], h => h.elim
  | [], _, _ :: _, _ :: _, h => h.elim
  | _ :: _, _, [], _, h => h.elim
  | _ :: _, _, _ :: _, [], h => h.elim
theorem start_root {w : World} {Sh : Nat → Prop} : ∀ {ks : List PK} {n : Nat} {x : argsT ks} {vs : List Value} {zs : List DRoot} {id : Nat} {r : Root}, ArgsOK w Sh ks x vs zs → startR n ks x id = some r →
    ∃ i z, id = n + i ∧ zs[i]? = some z ∧ z.dv.er = r.v ∧ z.dv.OK w Sh ∧ z.b.isSome = r.blk ∧ (∀ k, z.b = some k → Loc w k 0 z.dv) ∧ (∀ j, r.org = some j → j = id) ∧ (∀ j, r.pin = some j → j = id ∧ z.b.isSome = true)
  | [], n, x, vs, zs, id, r, hA, h => by cases h
  | k :: ks, n, x, v :: vs, z :: zs, id, r, hA, h => by
    simp only [startR] at h
    by_cases e : n = id
    · subst e
      rw [show Nat.beq n n = true by simp] at h
      simp only [cond_true] at h
      refine ⟨0, z, rfl, rfl, ?_⟩
      have h1 := hA.1
      cases k with
      | r p => cases h
      | o t => cases h; obtain ⟨_, hb, he, ho, _⟩ := h1; exact ⟨he, ho, by rw [hb]; rfl, (fun k hk => by rw [hb] at hk; cases hk), (fun j hj => by cases hj), (fun j hj => by cases hj)⟩
      | p t t' =>
        cases h
        obtain ⟨b, hb, he, ho, _, hl⟩ := h1
        exact ⟨he, ho, by rw [hb]; rfl, (fun k hk => by rw [hb] at hk; cases hk; exact hl), (fun j hj => by cases hj), (fun j hj => by cases hj; exact ⟨rfl, by rw [hb]; rfl⟩)⟩
      | c t => cases h; obtain ⟨_, hb, he, ho, _⟩ := h1; exact ⟨he, ho, by rw [hb]; rfl, (fun k hk => by rw [hb] at hk; cases hk), (fun j hj => by cases hj; rfl), (fun j hj => by cases hj)⟩
    · rw [nbeq e] at h
      simp only [cond_false] at h
      obtain ⟨i, z', h1, h2, h3⟩ := start_root hA.2 h
      exact ⟨i + 1, z', by omega, by simpa using h2, h3⟩
  | _ :: _, _, _, [], _, _, _, hA, _ => hA.elim
  | _ :: _, _, _, _ :: _, [], _, _, hA, _ => hA.elim
theorem start_tmp {w : World} {Sh : Nat → Prop} {R : Nat → Option Root} {D : Nat → DRoot} : ∀ {ks : List PK} {n : Nat} {x : argsT ks} {vs : List Value} {zs : List DRoot}, ArgsOK w Sh ks x vs zs → (∀ id r, startR n ks x id = some r → R id = some r) → (∀ i z, zs[i]? = some z → (D (n + i)).dv = z.dv ∧ (D (n + i)).b = z.b) →
    ∀ t v, (∀ u, n ≤ t → vs[t - n]? = some u → v = u) → AVR w Sh R D (startT n ks x t) v
  | [], n, x, vs, zs, hA, hR, hD, t, v, hv => trivial
  | k :: ks, n, x, v0 :: vs, z :: zs, hA, hR, hD, t, v, hv => by
    simp only [startT]
    by_cases e : n = t
    · subst e
      have hv := hv v0 (Nat.le_refl _) (by rw [Nat.sub_self]; rfl)
      subst hv
      rw [show Nat.beq n n = true by simp]
      simp only [cond_true]
      obtain ⟨d1, d2⟩ := hD 0 z rfl
      rw [Nat.add_zero] at d1 d2
      have h1 := hA.1
      have hr0 : ∀ r, startR.one n k x.1 = some r → R n = some r := fun r hr => hR n r (by simp only [startR]; rw [show Nat.beq n n = true by simp]; exact hr)
      cases k with
      | r p =>
        obtain ⟨⟨cs, hc, hv⟩, _⟩ := h1
        exact pat_avs.2 ⟨cs, avr_pat (w' := w) hc, hv⟩
      | o ty =>
        obtain ⟨hf, hb, he, ho, hv⟩ := h1
        have ht : z.dv.t = ty := congrArg V.t he
        refine ⟨z.dv.cs, ⟨hf, _, hr0 _ rfl, Nat.le_refl _, fun _ => ⟨(D n).base, (D n).dv, rfl, by rw [d1]; exact ht, by rw [d1]⟩⟩, hv⟩
      | p ty ty' =>
        obtain ⟨b, hb, he, ho, hv, hl⟩ := h1
        exact ⟨_, ⟨_, rfl, _, hr0 _ rfl, Nat.zero_le _, fun _ => ⟨b, 0, (D n).dv, by show some (DRoot.base (D n), (D n).dv) = _; rw [base_of (d2.trans hb)], hv⟩⟩, rfl⟩
      | c ty =>
        obtain ⟨hf, hb, he, ho, hv⟩ := h1
        have ht : z.dv.t = ty := congrArg V.t he
        refine ⟨z.dv.cs, ⟨hf, _, hr0 _ rfl, Nat.le_refl _, fun _ => ⟨(D n).base, (D n).dv, rfl, by rw [d1]; exact ht, by rw [d1]⟩⟩, hv⟩
    · rw [nbeq e]
      simp only [cond_false]
      refine start_tmp hA.2 (fun id r hr => hR id r ?_) (fun i z' hi => ?_) t v (fun u hle hu => hv u (by omega) ?_)
      · obtain ⟨i, _, h1, _⟩ := start_root hA.2 hr
        simp only [startR]
        rw [nbeq (show n ≠ id by omega)]
        exact hr
      · have := hD (i + 1) z' (by simpa using hi)
        rwa [show n + (i + 1) = n + 1 + i by omega] at this
      · rw [show t - n = (t - (n + 1)) + 1 by omega]
        simpa using hu
  | _ :: _, _, _, [], _, hA, _, _, _, _, _ => hA.elim
  | _ :: _, _, _, _ :: _, [], hA, _, _, _, _, _ => hA.elim
theorem feet_apart {zs : List DRoot} (h : (feet zs).Nodup) {i j : Nat} {z z' : DRoot} (hi : zs[i]? = some z) (hj : zs[j]? = some z') (hij : i ≠ j) {b : Nat} (hb : b ∈ z.foot) : b ∉ z'.foot := by
  intro hb'
  have hpw := (List.pairwise_flatMap.1 (show List.Pairwise (· ≠ ·) (zs.flatMap DRoot.foot) from h)).2
  obtain ⟨hi1, hi2⟩ := List.getElem?_eq_some_iff.1 hi
  obtain ⟨hj1, hj2⟩ := List.getElem?_eq_some_iff.1 hj
  rcases Nat.lt_or_gt_of_ne hij with hlt | hlt
  · exact (List.pairwise_iff_getElem.1 hpw) i j hi1 hj1 hlt b (hi2 ▸ hb) b (hj2 ▸ hb') rfl
  · exact (List.pairwise_iff_getElem.1 hpw) j i hj1 hi1 hlt b (hj2 ▸ hb') b (hi2 ▸ hb) rfl
theorem feet_one {zs : List DRoot} (h : (feet zs).Nodup) {i : Nat} {z : DRoot} (hi : zs[i]? = some z) : z.foot.Nodup := by
  obtain ⟨M1, M2, m1, _⟩ := flatMap_set DRoot.foot zs i hi
  have h : (zs.flatMap DRoot.foot).Nodup := h
  rw [m1] at h
  exact nodup_mid h
def ctxOf (P : Program) (w : World) (Sh : Nat → Prop) (n : Nat) (zs : List DRoot) : Ctx := ⟨P, w, fun b => b ∈ feet zs, Sh, n, fun i => (zs.getD i noZ).dv.cs, fun i => ((zs.getD i noZ).b).getD 0⟩
theorem start_ok {P : Program} {w : World} {Sh : Nat → Prop} {ks : List PK} {x : argsT ks} {vs : List Value} {zs : List DRoot} {n : Nat} (hsl : ∀ b, Sh b → b < w.heap.size) (hA : ArgsOK w Sh ks x vs zs) (hnd : (feet zs).Nodup) (hfr : ∀ b ∈ feet zs, ¬ Sh b ∧ b < w.heap.size) (hn : ks.length ≤ n) :
    Rel (ctxOf P w Sh n zs) ⟨startT 0 ks x, startR 0 ks x⟩ (fun i => ⟨(zs.getD i noZ).dv, (zs.getD i noZ).b, (zs.getD i noZ).dv.cs⟩) Sh { tmps := vs.toArray ++ Array.replicate (n - vs.toArray.size) undef, defers := [] } w := by
  obtain ⟨hl1, hl2⟩ := args_len hA
  have hget : ∀ {i z}, zs[i]? = some z → zs.getD i noZ = z := fun {i z} h => by rw [List.getD_eq_getElem?_getD, h]; rfl
  have hmem : ∀ {i : Nat} {z : DRoot} {b : Nat}, zs[i]? = some z → b ∈ z.foot → b ∈ feet zs := fun {i z b} h hb => List.mem_flatMap.2 ⟨z, List.mem_of_getElem? h, hb⟩
  refine ⟨rfl, rfl, rfl, Nat.le_refl _, fun _ _ _ => rfl, fun _ h => h, fun b hb => ⟨.inl hb, hsl b hb⟩, ?_, ?_, ?_, ?_, ?_, rfl⟩
  · intro id r hr
    obtain ⟨i, z, rfl, hz, h1, h2, h3, h4, h5, h6⟩ := start_root hA hr
    rw [Nat.zero_add] at *
    simp only [hget hz]
    refine ⟨h1, h2, h3, h4, (show z.foot.Nodup from feet_one hnd hz), fun _ => rfl, fun j hj => ?_, fun j hj => ?_⟩
    · have e := h5 j hj
      subst e
      show z.dv.cs = (zs.getD j noZ).dv.cs
      rw [hget hz]
    · obtain ⟨e, hs⟩ := h6 j hj
      subst e
      show z.b = some ((zs.getD j noZ).b.getD 0)
      rw [hget hz]
      cases hb : z.b with
      | none => rw [hb] at hs; cases hs
      | some k => rfl
  · intro i j r r' hij hr hr' b hb
    obtain ⟨i', z, e1, hz, _⟩ := start_root hA hr
    obtain ⟨j', z', e2, hz', _⟩ := start_root hA hr'
    rw [Nat.zero_add] at e1 e2
    subst e1; subst e2
    simp only [hget hz] at hb
    simp only [hget hz']
    exact feet_apart hnd hz hz' hij hb
  · intro id r hr b hb
    obtain ⟨i, z, e1, hz, _⟩ := start_root hA hr
    rw [Nat.zero_add] at e1
    subst e1
    simp only [hget hz] at hb
    have := hfr b (hmem hz hb)
    exact ⟨this.1, this.2, .inr (hmem hz hb)⟩
  · intro t
    refine start_tmp hA (fun _ _ h => h) (fun i z hz => ?_) t _ (fun u _ hu => ?_)
    · rw [Nat.zero_add]
      show (zs.getD i noZ).dv = z.dv ∧ (zs.getD i noZ).b = z.b
      rw [hget hz]; exact ⟨rfl, rfl⟩
    · rw [Nat.sub_zero] at hu
      have hlt := (List.getElem?_eq_some_iff.1 hu).1
      rw [Array.getD_eq_getD_getElem?, Array.getElem?_append_left (by simpa using hlt)]
      simp [hu]
  · show (vs.toArray ++ Array.replicate (n - vs.toArray.size) undef).size = n
    simp; omega

theorem feet_plain (zs : List DV) : feet (zs.map fun z => ⟨z, none, []⟩) = zs.flatMap DV.foot := by
  unfold feet
  induction zs with
  | nil => rfl
  | cons z zs ih => simp only [List.map_cons, List.flatMap_cons, ih, foot_none]
theorem many_dvs {w : World} {Sh : Nat → Prop} {t : Ty} {x : (tyW [t]).den} {zs : List DV} (h : ManyD [t] x zs) : ∃ d : t.dec, t.er d = x.1 ∧ zs = [⟨t, d⟩] := by
  obtain ⟨d, zs', h1, rfl, h2⟩ := h
  have h2 : zs' = [] := h2
  subst h2
  exact ⟨d, h1, rfl⟩
theorem dvs_len : ∀ {ts : List Ty} {x : tysT ts} {zs : List DV}, DVs ts x zs → zs.length = ts.length
  | [], x, zs, h => by have h : zs = [] := h; subst h; rfl
  | [t], x, zs, h => by obtain ⟨d, _, rfl⟩ := h; rfl
  | t :: u :: ts, x, zs, h => by obtain ⟨d, zs', _, rfl, h3⟩ := h; simp [dvs_len h3]
theorem since0 (log : List (Nat × Bool)) (s : Nat) (ho : Bool) : since log s 0 ho = true := by
  unfold since
  rw [List.all_eq_true]
  intro e _
  simp [bad, Nat.blt, Nat.ble]
theorem cut_fst {t : Ty} : ∀ (bs : List Ty) (x : t.den) (y : tysT bs), (cutA [t] bs (joinA [t] bs x y)).1.1 = x
  | [], _, _ => rfl
  | _ :: _, _, _ => rfl
theorem cutB_nil : ∀ {bs : List Ty} (h : bs = []) (y : tysT bs), cutB bs y = []
  | _, rfl, _ => rfl
theorem fun_ok {P : Program} {T : List (TypeId × TRow)} {K : Cons} {L : Loops} {ids : List Nat} {f : FuncId} {fn : Func} {c : Con} (hT : TabOK P T) (hmo : P.follows .mixedOrders = true) (hf : P.funcs[f]? = some fn) (hname : (fn.name == "runtime.NumGoroutine") = false) (hck : funOk fn c = true)
    (hop : ∀ C : Ctx, C.P = P → AllSound C T K) (hrun : ∀ x, runF T K L ids fn c x = c.fn x) : CallOK P f c := by
  unfold funOk at hck
  rw [Bool.and_eq_true] at hck
  obtain ⟨hco, hck⟩ := hck
  refine ⟨⟨fn, hf, hname, ?_⟩, fun t ht => ?_, ?_⟩
  · cases hb : fn.body with
    | none => rw [hb] at hck; cases hck
    | some b => rfl
  · unfold conOk at hco
    rw [Bool.and_eq_true, ht] at hco
    have := hco.2
    simpa using this
  intro w Sh x y vs zs hfn hsl hA hnd hfr
  cases hb : fn.body with
  | none => rw [hb] at hck; cases hck
  | some code =>
    rw [hb] at hck
    unfold conOk at hco
    simp only [Bool.and_eq_true, Nat.ble_eq] at hco
    obtain ⟨⟨hbk, hkn⟩, hrk⟩ := hco
    have hrel := start_ok (P := P) hsl hA hnd hfr hkn
    have hr := hrun x
    rw [hfn] at hr
    unfold runF at hr
    rw [hb] at hr
    simp only at hr
    have hget : ∀ {i z}, zs[i]? = some z → zs.getD i noZ = z := fun {i z} h => by rw [List.getD_eq_getElem?_getD, h]; rfl
    have hz : ∀ i z, zs[i]? = some z → (ctxOf P w Sh fn.ntmps zs).pc (0 + i) = z.dv.cs ∧ ∀ b, z.b = some b → (ctxOf P w Sh fn.ntmps zs).pb (0 + i) = b := by
      intro i z hi
      rw [Nat.zero_add]
      refine ⟨by show (zs.getD i noZ).dv.cs = _; rw [hget hi], fun b hb => by show ((zs.getD i noZ).b).getD 0 = b; rw [hget hi, hb]; rfl⟩
    have hfin : ∀ (st : St) (D : Nat → DRoot) (Sh1 : Nat → Prop) (act : Act) (w' : World), finish T c ids fn.results.toList st = some y → Rel (ctxOf P w Sh fn.ntmps zs) st D Sh1 act w' →
        act.defers = [] ∧ ∃ v, (results fn act.tmps).run P w' = .ok v w' ∧ ∃ v' Sh' rs bs, Ending.returned v = .returned v' ∧ Left w Sh (fun b => b ∈ feet zs) w' Sh' (feet rs ++ feet bs) ∧ ResOK w' Sh' c.rk (cutA c.rk.tys (backs c.ks) y).1 v' rs ∧ BackOK w' Sh' c.ks zs (cutA c.rk.tys (backs c.ks) y).2 bs := by
      intro st D Sh1 act w' hfi hR
      refine ⟨hR.defers, ?_⟩
      obtain ⟨ks, rk, cf⟩ := c
      -- several results, or one
      have gen : ∀ (ts : List Ty) (xs : tysT ts) (ws : Writes) (ys : tysT (backs ks)), (resL T st.tmps fn.results.toList ts []).go st.roots = some (xs, ws) → backL (app ws st.roots) ids 0 ks = some ys →
          ∃ (Sh' : Nat → Prop) (rs : List DV) (bs : List DRoot), (results fn act.tmps).run P w' = .ok (outV (rs.map valV)) w' ∧ DVs ts xs rs ∧ (∀ z ∈ rs, z.OK w' Sh') ∧ Left w Sh (fun b => b ∈ feet zs) w' Sh' (feet (rs.map fun z => ⟨z, none, []⟩) ++ feet bs) ∧ BackOK w' Sh' ks zs (cutB (backs ks) ys) bs := by
        intro ts xs ws ys h1 h2
        obtain ⟨D', Sh', rs, e1, e2, e3, e4, e5⟩ := resL_ok (C := ctxOf P w Sh fn.ntmps zs) hT hR h1 (fun _ h => h) (Keeps.grow (fun _ _ => rfl)) hR.F
        obtain ⟨bs, b1, b2, b3⟩ := backs_ok e5.rel (ks := ks) (n := 0) (by rw [Nat.ble_eq]; exact hbk) h2 hA hz
        have e5' := e5.perm (F' := rs) (by rw [List.append_nil]; exact List.reverse_perm rs)
        refine ⟨Sh', rs, bs, results_run e1, e2, fun z hz => e5'.fok z hz, ⟨e5.rel.os, e5.rel.tape, e5.rel.output, e5.rel.hsz, e5.rel.block, e5.rel.sh0, e5.rel.shn, ?_, ?_⟩, b1⟩
        · rw [feet_plain]
          exact List.nodup_append.2 ⟨e5'.fnd, b2, fun p hp q hq e => by
            subst e
            obtain ⟨id, r, hr, hm⟩ := b3 p hq
            exact (e5'.fdis p hp).1 id r hr hm⟩
        · intro b hb
          rw [feet_plain] at hb
          rcases List.mem_append.1 hb with hb | hb
          · exact (e5'.fdis b hb).2
          · obtain ⟨id, r, hr, hm⟩ := b3 b hb
            exact e5'.rel.fresh id r hr b hm
      cases rk with
      | one t =>
        simp only [finish] at hfi
        cases h1 : (resL T st.tmps fn.results.toList [t] []).go st.roots with
        | none => rw [h1] at hfi; cases hfi
        | some q =>
          obtain ⟨xs, ws⟩ := q
          rw [h1] at hfi
          simp only at hfi
          cases h2 : backL (app ws st.roots) ids 0 ks with
          | none => rw [h2] at hfi; cases hfi
          | some ys =>
            rw [h2] at hfi; cases hfi
            obtain ⟨Sh', rs, bs, g1, g2, g3, g4, g5⟩ := gen [t] xs ws ys h1 h2
            obtain ⟨c1, c2⟩ := cut_join [t] (backs ks) xs ys
            obtain ⟨d, hd, rfl⟩ := many_dvs (w := w) (Sh := Sh) (c2 rs g2)
            refine ⟨_, g1, _, Sh', [⟨⟨t, d⟩, none, []⟩], bs, rfl, g4, ⟨d, hd, g3 ⟨t, d⟩ (by simp), rfl, rfl⟩, ?_⟩
            show BackOK w' Sh' ks zs (cutA [t] (backs ks) (joinA [t] (backs ks) xs ys)).2 bs
            rw [c1]; exact g5
      | many ts =>
        simp only [finish] at hfi
        cases h1 : (resL T st.tmps fn.results.toList ts []).go st.roots with
        | none => rw [h1] at hfi; cases hfi
        | some q =>
          obtain ⟨xs, ws⟩ := q
          rw [h1] at hfi
          simp only at hfi
          cases h2 : backL (app ws st.roots) ids 0 ks with
          | none => rw [h2] at hfi; cases hfi
          | some ys =>
            rw [h2] at hfi; cases hfi
            obtain ⟨Sh', rs, bs, g1, g2, g3, g4, g5⟩ := gen ts xs ws ys h1 h2
            obtain ⟨c1, c2⟩ := cut_join ts (backs ks) xs ys
            have hlen : rs.length ≠ 1 := by
              rw [dvs_len g2]
              intro e
              have hrk : (!Nat.beq ts.length 1) = true := hrk
              rw [e] at hrk; cases hrk
            refine ⟨_, g1, _, Sh', rs.map (fun z => ⟨z, none, []⟩), bs, rfl, g4, ⟨rs, c2 rs g2, g3, ?_, rfl⟩, ?_⟩
            · rcases rs with _ | ⟨r1, _ | ⟨r2, rs⟩⟩
              · rfl
              · exact absurd rfl hlen
              · rfl
            · show BackOK w' Sh' ks zs (cutA ts (backs ks) (joinA ts (backs ks) xs ys)).2 bs
              rw [c1]; exact g5
      | ptr t =>
        have hb0 : backs ks = [] := by
          have : (backs ks).isEmpty = true := hrk
          simpa using this
        simp only [finish] at hfi
        split at hfi
        case h_2 => cases hfi
        rename_i s hrs
        split at hfi
        case h_2 => cases hfi
        rename_i id s' hts
        cases hr1 : st.roots id with
        | none => rw [hr1] at hfi; cases hfi
        | some r =>
          rw [hr1] at hfi
          simp only at hfi
          cases hbo : (r.blk && r.org.isNone) with
          | false => rw [hbo] at hfi; cases hfi
          | true =>
            rw [hbo] at hfi
            simp only [cond_true] at hfi
            rw [Bool.and_eq_true] at hbo
            cases hx : toT r.v t with
            | none => rw [hx] at hfi; cases hfi
            | some x1 =>
              cases h2 : backL st.roots ids 0 ks with
              | none => rw [hx, h2] at hfi; cases hfi
              | some ys =>
                rw [hx, h2] at hfi; cases hfi
                have RR := hR.root id r hr1
                have hv := hR.tmp s
                rw [hts] at hv
                obtain ⟨cs, ⟨v0, rfl, r', hr', _, hp⟩, hv⟩ := hv
                rw [hr1] at hr'; cases hr'
                obtain ⟨k, o, u, hl, rfl⟩ := hp (since0 _ _ _)
                have hbase : DRoot.base (D id) = some (k, o) := by
                  have hl : some (DRoot.base (D id), (D id).dv) = some (some (k, o), u) := hl
                  injection hl with hl
                  exact congrArg Prod.fst hl
                obtain ⟨hbk', rfl⟩ := base_some hbase
                rw [← RR.er] at hx
                obtain ⟨hlow, hxx⟩ := toT_some hx
                have hnd1 := List.nodup_append.1 RR.nd
                obtain ⟨d', e1, e2, e3, e4, e5⟩ := Ty.lower (t := (D id).dv.t) hlow RR.ok hnd1.2.1
                have hbt : k ∉ DV.foot (D id).dv := fun hm => hnd1.2.2 k (by rw [hbk']; exact List.mem_singleton.2 rfl) k hm rfl
                have hfresh := hR.fresh id r hr1
                have hlen : act.tmps.getD s undef = .pointer (some ⟨k, 0, none⟩) := hv
                let Sh' : Nat → Prop := fun b => Sh1 b ∨ (b ∈ DV.foot (D id).dv ∧ b ∉ t.foot d')
                refine ⟨.pointer (some ⟨k, 0, none⟩), ?_, _, Sh', [⟨⟨t, d'⟩, some k, []⟩], [], rfl, ⟨hR.os, hR.tape, hR.output, hR.hsz, hR.block, fun b hb => .inl (hR.sh0 b hb), fun b hb => ?_, ?_, fun b hb => ?_⟩, ⟨d', k, (e1.trans hxx.symm).trans (cut_fst (backs ks) x1 ys).symm, e5 Sh' (fun b hb => .inl hb) (fun b hb hb' => .inr ⟨hb, hb'⟩), ?_, rfl, rfl⟩, ?_⟩
                · refine results_run (vs := [.pointer (some ⟨k, 0, none⟩)]) ?_
                  rw [hrs]
                  simp only [List.mapM_cons, List.mapM_nil, evalR, Sem.run_bind, Sem.run_pure, Result.andThen_ok, hlen]
                · rcases hb with hb | ⟨hb, _⟩
                  · exact hR.shn b hb
                  · have := hfresh b (mem_dv hb)
                    exact ⟨this.2.2.elim (fun h => .inr (.inl h)) (fun h => .inr (.inr h)), this.2.1⟩
                · show ((k :: t.foot d') ++ [] ++ []).Nodup
                  rw [List.append_nil, List.append_nil]
                  exact List.nodup_cons.2 ⟨fun hm => hbt (e3 k hm), e4⟩
                · have hb : b ∈ (k :: t.foot d') ++ [] ++ [] := hb
                  rw [List.append_nil, List.append_nil] at hb
                  rcases List.mem_cons.1 hb with rfl | hb
                  · have := hfresh b (mem_b hbk')
                    refine ⟨fun hs => ?_, this.2⟩
                    rcases hs with hs | ⟨hs, _⟩
                    · exact this.1 hs
                    · exact hbt hs
                  · have := hfresh b (mem_dv (e3 b hb))
                    refine ⟨fun hs => ?_, this.2⟩
                    rcases hs with hs | ⟨_, hs⟩
                    · exact this.1 hs
                    · exact hs hb
                · obtain ⟨row, e, hrow, hc⟩ := RR.loc k hbk'
                  refine ⟨row, e, hrow, fun j v hj => hc j v ?_⟩
                  have hj : (t.cs d')[j]? = some v := hj
                  rw [e2] at hj; exact hj
                · show BackOK w' Sh' ks zs (cutA [t] (backs ks) (joinA [t] (backs ks) x1 ys)).2 []
                  rw [(cut_join [t] (backs ks) x1 ys).1, cutB_nil hb0]
                  exact backs_none hb0 hA
    refine calls_of_wp hf hb (runC_ok (C := ctxOf P w Sh fn.ntmps zs) (hop _ rfl) hmo code hck _ _ y hr _ (fun e st' hk D Sh1 act w' hR => ?_) _ Sh _ w hrel)
    cases e with
    | normal => exact hfin st' D Sh1 act w' hk hR
    | ret => exact hfin st' D Sh1 act w' hk hR
    | exit j => cases hk
end Go.Proofs.Ytabjfkongckhaaa.Vm
