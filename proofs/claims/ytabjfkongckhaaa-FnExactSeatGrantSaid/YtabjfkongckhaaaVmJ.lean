/- Operations: stores, new variables, numbers, elements. -/
import Derived.Test.YtabjfkongckhaaaVmIS
namespace Go.Proofs.Ytabjfkongckhaaa.Vm
open Go Go.RowKit
set_option linter.unusedVariables false

def getR {α : Type} : Writes → Nat → (Option Root → Prog α) → Prog α
  | [], id, k => .ask id k
  | (i, r) :: ws, id, k => bif Nat.beq id i then k (some r) else getR ws id k
theorem getR_go {α : Type} {R : Nat → Option Root} : ∀ (ws : Writes) (id : Nat) (k : Option Root → Prog α), (getR ws id k).go R = (k (app ws R id)).go R
  | [], id, k => rfl
  | (i, r) :: ws, id, k => by
    simp only [getR, app, upt]
    cases Nat.beq id i with
    | true => rfl
    | false => exact getR_go ws id k
def takeP : Ty → AV → Writes → Prog (V × Writes)
  | ty, .sh t x, ws => bif t.plain && like t ty then .ret (⟨t, x⟩, ws) else .fail
  | ty, .nilsl, ws => match ty with
    | .sl _ e t => .ret (⟨.sl true e t.own, []⟩, ws)
    | _ => .fail
  | ty, .al id p s t, ws => getR ws id fun
    | some r => bif Nat.ble s r.log.length && since r.log s (depth p + 1) (!t.agg) then
        match getV r.v p with
        | some v => bif like v.t ty then
            match putV r.v p v.hol with
            | some v' => .ret (v, (id, stolen r p v v') :: ws)
            | none => .fail
          else .fail
        | none => .fail
      else .fail
    | none => .fail
  | ty, .nilf, ws => match ty with
    | .nil => .ret (⟨.nil, ()⟩, ws)
    | _ => .fail
  | ty, .consf x y, ws => match ty with
    | .cons tx ty => (takeP tx x ws).bind fun q => (takeP ty y q.2).bind fun z => .ret (⟨.cons q.1.t z.1.t, (q.1.x, z.1.x)⟩, z.2)
    | _ => .fail
  | _, _, _ => .fail
theorem takeP_take {R : Nat → Option Root} : ∀ {x : AV} {ty : Ty} {ws ws' : Writes} {v : V}, (takeP ty x ws).go R = some (v, ws') → take ty x (app ws R) = some (v, app ws' R)
  | .sh t x, ty, ws, ws', v, h => by
    simp only [takeP] at h
    simp only [take]
    cases hp : (t.plain && like t ty) with
    | false => rw [hp] at h; cases h
    | true => rw [hp] at h; cases h; rfl
  | .nilsl, ty, ws, ws', v, h => by cases ty <;> cases h; rfl
  | .al id p s t, ty, ws, ws', v, h => by
    simp only [takeP, getR_go] at h
    simp only [take]
    cases hr : app ws R id with
    | none => rw [hr] at h; cases h
    | some r =>
      rw [hr] at h
      simp only at h ⊢
      cases hs : (Nat.ble s r.log.length && since r.log s (depth p + 1) (!t.agg)) with
      | false => rw [hs] at h; cases h
      | true =>
        rw [hs] at h
        simp only [cond_true] at h ⊢
        cases hg : getV r.v p with
        | none => rw [hg] at h; cases h
        | some u =>
          rw [hg] at h
          simp only at h ⊢
          cases hl : like u.t ty with
          | false => rw [hl] at h; cases h
          | true =>
            rw [hl] at h
            simp only [cond_true] at h ⊢
            cases hp : putV r.v p u.hol with
            | none => rw [hp] at h; cases h
            | some v' => rw [hp] at h; cases h; rfl
  | .nilf, ty, ws, ws', v, h => by cases ty <;> cases h; rfl
  | .consf x y, ty, ws, ws', v, h => by
    cases ty with
    | cons tx ty =>
      simp only [takeP, Prog.go_bind] at h
      cases h1 : (takeP tx x ws).go R with
      | none => rw [h1] at h; cases h
      | some q =>
        obtain ⟨v1, w1⟩ := q
        rw [h1] at h
        simp only at h
        cases h2 : (takeP ty y w1).go R with
        | none => rw [h2] at h; cases h
        | some z =>
          obtain ⟨v2, w2⟩ := z
          rw [h2] at h; cases h
          simp only [take, takeP_take h1, takeP_take h2]
    | _ => cases h
  | .any, ty, ws, ws', v, h | .cut _ _ _ _ _ _, ty, ws, ws', v, h | .ptr _ _ _, ty, ws, ws', v, h | .sptr _ _, ty, ws, ws', v, h | .fn _ _, ty, ws, ws', v, h | .tup _, ty, ws, ws', v, h => by simp only [takeP] at h; cases h

def storeP (row : TRow) (x y : AV) : Prog Writes := (takeP row.ty y []).bind fun q => match x with
  | .ptr id p s => getR q.2 id fun
    | some r => bif Nat.ble s r.log.length && since r.log s (depth p) true then match getV r.v p with
        | some u => bif like q.1.t u.t then match putV r.v p q.1 with
            | some v' => .ret ((id, stored r p q.1 u v') :: q.2)
            | none => .fail
          else .fail
        | none => .fail
      else .fail
    | none => .fail
  | _ => .fail
def orgOf (x : AV) : Prog (Option Nat) := match x with
  | .al id [] s t => .ask id fun
    | some r => .ret (bif Nat.ble s r.log.length && since r.log s 1 (!t.agg) && since r.log 0 1 false then r.org else none)
    | none => .ret none
  | _ => .ret none
def newP (d : Nat) {α : Type} (k : Prog α) : Prog α := .ask d fun
  | none => k
  | some _ => .fail
def allocP (row : TRow) (d : Nat) : Prog Res := newP d (.ret ⟨.ptr d [] 0, [(d, ⟨⟨row.ty.own, row.ty.own.dft⟩, true, [], none, none⟩)]⟩)
def boxP (row : TRow) (x : AV) (d : Nat) : Prog Res := (orgOf x).bind fun org => (takeP row.ty x []).bind fun q => getR q.2 d fun
  | none => .ret ⟨.ptr d [] 0, (d, ⟨q.1, true, [], org, none⟩) :: q.2⟩
  | some _ => .fail

section
variable {C : Ctx} {st : St} {D : Nat → DRoot} {Sh : Nat → Prop} {a : Act} {w w' : World} {T : List (TypeId × TRow)}
theorem avs_of_avr {R : Nat → Option Root} {x : AV} {v : Value} (h : AVR w Sh R D x v) (h1 : x ≠ .any) (h2 : ∀ c, x ≠ .tup c) : AVS w Sh R D x v := by
  cases x <;> first | exact h | exact absurd rfl h1 | exact absurd rfl (h2 _)
theorem avr_of_avs {R : Nat → Option Root} {x : AV} {v : Value} (h : AVS w Sh R D x v) : AVR w Sh R D x v := by
  cases x <;> first | exact h | (obtain ⟨cs, hc, _⟩ := h; exact hc.elim)
/-- A value is taken out of a slot. -/
theorem Rel.take (h : Rel C st D Sh a w) {x : AV} {v : Value} (hx : AVR w Sh st.roots D x v) {ty : Ty} {u : V} {ws : Writes} (ht : (takeP ty x []).go st.roots = some (u, ws)) :
    ∃ D' z, DV.er z = u ∧ v = mkw u.t.agg z.cs ∧ like u.t ty = true ∧ Keeps w w Sh Sh st.roots (app ws st.roots) D D' ∧ RelF C ⟨st.tmps, app ws st.roots⟩ D' Sh [z] a w := by
  have hk := takeP_take ht
  have hs : AVS w Sh st.roots D x v := avs_of_avr hx (fun e => by subst e; simp only [takeP] at ht; cases ht) (fun c e => by subst e; simp only [takeP] at ht; cases ht)
  obtain ⟨cs, hc, rfl⟩ := hs
  obtain ⟨D', z, hz, hcs, hl, hg, K, F⟩ := take_ok hk (T := st.tmps) h.F hc
  exact ⟨D', z, hz, by rw [hcs, hg], hl, K, F⟩
theorem mkw_cells {u : V} {z : DV} (hz : DV.er z = u) {Sh : Nat → Prop} (hok : z.OK w Sh) : (mkw u.t.agg z.cs).cells.toList = z.cs := by
  have ht : z.t = u.t := by rw [← hz]; rfl
  refine cells_mkw (fun hg => one_of (t := z.t) (Ty.cs_len z.t z.d) (Ty.OK_one hok) (by rw [ht]; exact hg))

theorem sound_store (hT : TabOK C.P T) {o : Oper} {t : TypeId} {x y : Operand} (ho : o.op = .store t x y) {row : TRow} (hrow : tget T t = some row) (hd : o.dst = none) {ws : Writes}
    (h : (storeP row (evalA st.tmps x) (evalA st.tmps y)).go st.roots = some ws) : Sound C o st ⟨.any, ws⟩ := by
  intro D Sh a w K Q hR hK
  have hr := hT t row hrow
  unfold storeP at h
  rw [Prog.go_bind] at h
  cases hq : (takeP row.ty (evalA st.tmps y) []).go st.roots with
  | none => rw [hq] at h; cases h
  | some q =>
    obtain ⟨u, ws1⟩ := q
    rw [hq] at h
    simp only at h
    obtain ⟨D1, z, hz, hv, hl, K1, F1⟩ := hR.take (hR.eval y) hq
    have hzt : z.t = u.t := by rw [← hz]; rfl
    have he := K1.avr (hR.eval x)
    generalize hx : evalA st.tmps x = ax at he h
    cases ax with
    | ptr id p s =>
      simp only [getR_go] at h
      cases hr1 : app ws1 st.roots id with
      | none => rw [hr1] at h; cases h
      | some r =>
        rw [hr1] at h
        simp only at h
        cases hs : (Nat.ble s r.log.length && since r.log s (depth p) true) with
        | false => rw [hs] at h; cases h
        | true =>
          rw [hs] at h
          rw [Bool.and_eq_true] at hs
          obtain ⟨k, o', uq, hlk, hpv⟩ := ptr_look he hr1 hs.2
          obtain ⟨hgv, hok, hloc⟩ := F1.rel.look hr1 hlk
          simp only [cond_true, hgv] at h
          cases hlike : like u.t uq.er.t with
          | false => rw [hlike] at h; cases h
          | true =>
            rw [hlike] at h
            simp only [cond_true] at h
            cases hp : putV r.v p u with
            | none => rw [hp] at h; cases h
            | some v' =>
              rw [hp] at h; cases h
              obtain ⟨row0, e0, hrow0, hc0⟩ := hloc k o' rfl
              have hzok : z.OK w Sh := F1.fok z (by simp)
              have hlen : z.cs.length = row.ty.sz := (Ty.cs_len z.t z.d).trans (by rw [hzt]; exact like_sz hl)
              have hlen2 : z.cs.length = uq.t.sz := (Ty.cs_len z.t z.d).trans (by rw [hzt]; exact like_sz hlike)
              have hpos : z.cs.length ≠ 0 := by rw [hlen]; exact hr.nz
              have hfit : o' + z.cs.length ≤ row0.size := by
                have hul : uq.cs.length = z.cs.length := (Ty.cs_len uq.t uq.d).trans hlen2.symm
                have hj : z.cs.length - 1 < uq.cs.length := by omega
                have := hc0 (z.cs.length - 1) _ (List.getElem?_eq_getElem hj)
                have := (Array.getElem?_eq_some_iff.1 this).1
                omega
              have hone : ∀ v ∈ z.cs, v.oneCell' = true := Ty.OK_one hzok
              obtain ⟨_, s1, s2, s3, s4, s5, row', r1, r2, r3, r4⟩ := setR_spec k e0 z.cs w o' row0 hrow0 hfit hone
              have hrun := hr.store (w := w) hlen (mkw_cells hz hzok) hone hrow0 hfit
              have hex : (execOp a.eval o).run C.P w = .ok .skip (setR w k o' z.cs) := by
                simp only [execOp, ho, Instr.storeAt, Instr.sureAddr, hpv, hv, Sem.run_bind, Sem.run_pure, Result.andThen_ok, hrun]
              have hlike2 : like z.t uq.t = true := by rw [hzt]; exact hlike
              obtain ⟨D2, K2, F2⟩ := F1.store (w' := setR w k o' z.cs) hr1 hlk hlike2 (v' := v') (by rw [hz]; exact hp) s1 s2 s3 s4 s5 (fun rw0 el hrw => by
                obtain ⟨rfl, rfl⟩ := hrow0.uniq hrw
                exact ⟨row', r1, r2, fun j hj => r3 j (by rw [hlen2]; exact hj), r4⟩)
              rw [hz] at F2
              refine wp_skip' hex (hK D2 Sh _ _ ?_)
              simp only [hd, put_none, St.after, app]
              exact F2.rel
    | _ => cases h

theorem sound_alloc (hT : TabOK C.P T) {o : Oper} {t : TypeId} (ho : o.op = .alloc t) {row : TRow} (hrow : tget T t = some row) {d : Nat} (hd : o.dst = some d) (hdn : dstOk C.n o.dst = true) {res : Res}
    (h : (allocP row d).go st.roots = some res) : Sound C o st res := by
  intro D Sh a w K Q hR hK
  have hr := hT t row hrow
  unfold allocP newP at h
  simp only [Prog.go] at h
  cases hn : st.roots d with
  | some r => rw [hn] at h; cases h
  | none =>
    rw [hn] at h; cases h
    have F0 := hR.F.free (v := ⟨row.ty.own, row.ty.dftD⟩) (Ty.dftD_ok w Sh row.ty hr.full) (Ty.dftD_foot row.ty)
    have hcs : DV.cs ⟨row.ty.own, row.ty.dftD⟩ = row.ty.zeroC := Ty.dftD_cs row.ty hr.full
    have her : DV.er ⟨row.ty.own, row.ty.dftD⟩ = ⟨row.ty.own, row.ty.own.dft⟩ := congrArg (V.mk _) (Ty.dftD_er row.ty)
    obtain ⟨K1, F1⟩ := F0.land (e := t) (org := none) hn (fun i hi => by cases hi)
    have hone := one_of (t := row.ty.own) (cs := row.ty.zeroC) (by rw [Ty.zeroC_len row.ty hr.full, Ty.own_sz]) (by rw [← hcs]; exact Ty.OK_one (Ty.dftD_ok w Sh row.ty hr.full))
    have hcell : (mkw row.ty.agg row.ty.zeroC).cells = row.ty.zeroC.toArray := by
      have := cells_mkw (g := row.ty.agg) (cs := row.ty.zeroC) (fun hg => hone (by rw [Ty.own_agg]; exact hg))
      have := congrArg List.toArray this
      rwa [Array.toArray_toList] at this
    have hex : (execOp a.eval o).run C.P w = .ok (.value (.pointer (some ⟨w.heap.size, 0, none⟩))) (w.alloc (.cells row.ty.zeroC.toArray t)) := by
      simp only [execOp, ho, Instr.alloc, Sem.run_bind, hr.zero, Result.andThen_ok, newVar, newRow, run_newObj, Sem.run_pure, hcell, World.alloc_eq]
    rw [hcs] at F1
    rw [her] at F1
    refine wp_value hex (hK (upt D d ⟨⟨row.ty.own, row.ty.dftD⟩, some w.heap.size, row.ty.zeroC⟩) Sh _ _ ?_)
    rw [hd]
    rw [hd] at hdn
    refine F1.rel.put (by simpa [dstOk, Nat.blt_eq] using hdn) ?_
    have := ptr_of_land (u := ⟨row.ty.own, row.ty.dftD⟩) (w := w.alloc (.cells row.ty.zeroC.toArray t)) (R := st.roots) (D := D) (Sh := Sh) (id := d) (k := w.heap.size) (org := none) (c0 := row.ty.zeroC)
    rw [her] at this
    exact ⟨_, this, rfl⟩

theorem sound_box (hT : TabOK C.P T) {o : Oper} {t : TypeId} {x : Operand} (ho : o.op = .box t x) {row : TRow} (hrow : tget T t = some row) {d : Nat} (hd : o.dst = some d) (hdn : dstOk C.n o.dst = true) {res : Res}
    (h : (boxP row (evalA st.tmps x) d).go st.roots = some res) : Sound C o st res := by
  intro D Sh a w K Q hR hK
  have hr := hT t row hrow
  have he := hR.eval x
  unfold boxP at h
  rw [Prog.go_bind] at h
  cases horg : (orgOf (evalA st.tmps x)).go st.roots with
  | none => rw [horg] at h; cases h
  | some org =>
    rw [horg] at h
    simp only [Prog.go_bind] at h
    cases hq : (takeP row.ty (evalA st.tmps x) []).go st.roots with
    | none => rw [hq] at h; cases h
    | some q =>
      obtain ⟨u, ws1⟩ := q
      rw [hq] at h
      simp only [getR_go] at h
      cases hn : app ws1 st.roots d with
      | some r => rw [hn] at h; cases h
      | none =>
        rw [hn] at h; cases h
        obtain ⟨D1, z, hz, hv, hl, K1, F1⟩ := hR.take he hq
        have hzt : z.t = u.t := by rw [← hz]; rfl
        have hzok : z.OK w Sh := F1.fok z (by simp)
        have hcell := mkw_cells hz hzok
        have hog : ∀ i, org = some i → z.cs = C.pc i := by
          intro i hi
          subst hi
          generalize evalA st.tmps x = ax at he hq horg
          unfold orgOf at horg
          split at horg
          · rename_i id s t'
            simp only [Prog.go] at horg
            cases hr1 : st.roots id with
            | none => rw [hr1] at horg; cases horg
            | some r =>
              rw [hr1] at horg
              simp only [Prog.go, Option.some.injEq] at horg
              cases hb : (Nat.ble s r.log.length && since r.log s 1 (!t'.agg) && since r.log 0 1 false) with
              | false => rw [hb] at horg; cases horg
              | true =>
                rw [hb] at horg
                simp only [Bool.and_eq_true] at hb
                simp only [cond_true] at horg
                obtain ⟨cs, ⟨_, r', hr', _, hal⟩, hval⟩ := he
                rw [hr1] at hr'; cases hr'
                obtain ⟨b, uu, hlook, htt, rfl⟩ := hal hb.1.2
                cases hlook
                have RR := hR.root id r hr1
                have hc0 : (D id).dv.cs = C.pc i := (RR.top hb.2).trans (RR.org i horg)
                have h1 : mkw u.t.agg z.cs = mkw (AV.agg (.al id [] s t')) (D id).dv.cs := hv.symm.trans hval
                have h2 : (mkw u.t.agg z.cs).cells.toList = (mkw t'.agg (D id).dv.cs).cells.toList := congrArg (fun v => v.cells.toList) h1
                rw [hcell, cells_mkw (g := t'.agg) (cs := (D id).dv.cs) (fun hg => one_of (t := (D id).dv.t) (Ty.cs_len _ _) (Ty.OK_one RR.ok) (by rw [htt]; exact hg))] at h2
                rw [h2]; exact hc0
          · simp only [Prog.go, Option.some.injEq] at horg; cases horg
        obtain ⟨K2, F2⟩ := F1.land (e := t) (org := org) hn hog
        have hex : (execOp a.eval o).run C.P w = .ok (.value (.pointer (some ⟨w.heap.size, 0, none⟩))) (w.alloc (.cells z.cs.toArray t)) := by
          have hc2 : (mkw u.t.agg z.cs).cells = z.cs.toArray := by
            have := congrArg List.toArray hcell
            rwa [Array.toArray_toList] at this
          simp only [execOp, ho, Instr.box, hv, newVar, newRow, Sem.run_bind, run_newObj, Result.andThen_ok, Sem.run_pure, hc2, World.alloc_eq]
        rw [hz] at F2
        refine wp_value hex (hK (upt D1 d ⟨z, some w.heap.size, z.cs⟩) Sh _ _ ?_)
        rw [hd]
        rw [hd] at hdn
        refine F2.rel.put (by simpa [dstOk, Nat.blt_eq] using hdn) ?_
        have := ptr_of_land (u := z) (w := w.alloc (.cells z.cs.toArray t)) (R := app ws1 st.roots) (D := D1) (Sh := Sh) (id := d) (k := w.heap.size) (org := org) (c0 := z.cs)
        rw [hz] at this
        exact ⟨_, this, rfl⟩

theorem sound_move {o : Oper} {x : Operand} (ho : o.op = .move x ∨ o.op = .assign x) (hd : dstOk C.n o.dst = true) : Sound C o st ⟨evalA st.tmps x, []⟩ := by
  refine sound_quiet hd (fun D Sh a w hR => ⟨a.eval x, ?_, hR.eval x⟩)
  rcases ho with ho | ho <;> simp only [execOp, ho, Sem.run_pure]
def pickP (c x y : AV) : Prog AV := match c with
  | .sh .bool b => .test (b : Bool) (.ret x) (.ret y)
  | _ => .fail
theorem sound_pick {o : Oper} {c x y : Operand} (ho : o.op = .pick c x y) (hd : dstOk C.n o.dst = true) {av : AV} (h : (pickP (evalA st.tmps c) (evalA st.tmps x) (evalA st.tmps y)).go st.roots = some av) : Sound C o st ⟨av, []⟩ := by
  refine sound_quiet hd (fun D Sh a w hR => ?_)
  have hc := hR.eval c
  unfold pickP at h
  split at h
  · rename_i b hcb
    rw [hcb] at hc
    have hv := avr_bool hc
    cases b with
    | true =>
      have h : some (evalA st.tmps x) = some av := h
      cases h
      exact ⟨a.eval x, by simp [execOp, ho, hv, asBool], hR.eval x⟩
    | false =>
      have h : some (evalA st.tmps y) = some av := h
      cases h
      exact ⟨a.eval y, by simp [execOp, ho, hv, asBool], hR.eval y⟩
  · cases h
theorem run_eq_bool {P : Program} {xt : TypeId} (hu : P.underlying xt = some .bool) (x y : Bool) (w : World) : (Op.equal xt (.bool x) (.bool y)).run P w = .ok (x == y) w := by
  unfold Op.equal
  rw [show Op.maxDepth = 9999 + 1 from rfl, Op.equalIn]
  simp only [Sem.run_bind, run_underlying hu, Result.andThen_ok]
  rfl
def asTT (t : Ty) (v : t.den) (t' : Ty) : Option t'.den := if h : t = t' then some (cast (congrArg Ty.den h) v) else none
def binT (T : List (TypeId × TRow)) (xt : TypeId) (op : BinOp) (x y : AV) : Prog AV := match x, y with
  | .sh .bool _, .sh .bool _ => match tget T xt with
    | some ⟨.bool, _, _⟩ => binP op x y
    | _ => .fail
  | .sh (.cons a r) u, .sh t v => match tget T xt with
    | some row => bif (Ty.cons a r).ints && decide (row.ty = .cons a r) then match asTT t v (.cons a r) with
      | some v => match op with
        | .eql => .ret (.sh .bool ((Ty.cons a r).eqX u v))
        | .neq => .ret (.sh .bool !((Ty.cons a r).eqX u v))
        | _ => .fail
      | none => .fail
      else .fail
    | none => .fail
  | _, _ => binP op x y
theorem sound_bin (hT : TabOK C.P T) {o : Oper} {op : BinOp} {xt yt : TypeId} {x y : Operand} (ho : o.op = .binOp op xt x y yt) (hd : dstOk C.n o.dst = true) {av : AV}
    (h : (binT T xt op (evalA st.tmps x) (evalA st.tmps y)).go st.roots = some av) : Sound C o st ⟨av, []⟩ := by
  refine sound_quiet hd (fun D Sh a w hR => ?_)
  have hx := hR.eval x
  have hy := hR.eval y
  have key : ∀ (vx vy v : Value), a.eval x = vx → a.eval y = vy → (match vx, vy with
      | .nilIface, .nilIface => False
      | .agg _, .agg _ => False
      | _, _ => True) → (binOp op xt vx vy).run C.P w = .ok v w → (execOp a.eval o).run C.P w = .ok (.value v) w := by
    intro vx vy v e1 e2 hm hrun
    simp only [execOp, ho, e1, e2, Sem.run_bind, run_eqGuard op xt x y hm, Result.andThen_ok, hrun, Sem.run_pure]
  unfold binT at h
  split at h
  · rename_i b c hbx hby
    split at h
    · rename_i bt fs hrow
      have hu : C.P.underlying xt = some .bool := (hT xt _ hrow).desc
      rw [hbx] at hx; rw [hby] at hy
      rw [hbx, hby] at h
      have e1 := avr_bool hx
      have e2 := avr_bool hy
      unfold binP at h
      cases op <;> simp only [Prog.go] at h <;> try (cases h; done)
      · cases h
        refine ⟨_, key _ _ (.bool ((b : Bool) == (c : Bool))) e1 e2 trivial ?_, mk_bool _⟩
        show ((Op.equal xt (.bool b) (.bool c)) >>= fun z => (pure (.bool z) : Sem Value)).run C.P w = _
        rw [Sem.run_bind, run_eq_bool hu]; rfl
      · cases h
        refine ⟨_, key _ _ (.bool (!((b : Bool) == (c : Bool)))) e1 e2 trivial ?_, mk_bool _⟩
        show ((Op.equal xt (.bool b) (.bool c)) >>= fun z => (pure (.bool !z) : Sem Value)).run C.P w = _
        rw [Sem.run_bind, run_eq_bool hu]; rfl
    · cases h
  · rename_i ta tr u t v hbx hby
    rw [hbx] at hx; rw [hby] at hy
    split at h
    · rename_i row hrow
      cases hb : ((Ty.cons ta tr).ints && decide (row.ty = .cons ta tr)) with
      | false => rw [hb] at h; cases h
      | true =>
        rw [hb] at h
        rw [Bool.and_eq_true] at hb
        have hty := of_decide_eq_true hb.2
        simp only [cond_true] at h
        split at h
        · rename_i v' hv'
          unfold asTT at hv'
          split at hv'
          · rename_i ht
            subst ht
            cases hv'
            obtain ⟨cu, hu, e1⟩ := hx
            obtain ⟨cv, hv, e2⟩ := hy
            have e1 : a.eval x = .agg cu.toArray := e1
            have e2 : a.eval y = .agg cv.toArray := e2
            obtain ⟨q1, q2⟩ := run_eqStruct hT hrow hty hb.1 (Sh := Sh) (w := w) hu hv
            cases op <;> simp only [Prog.go] at h <;> try (cases h; done)
            · cases h
              refine ⟨.bool ((Ty.cons ta tr).eqX u v), ?_, mk_bool _⟩
              simp only [execOp, ho, e1, e2, Sem.run_bind, q1, Result.andThen_ok, run_eql_struct, q2, Sem.run_pure]
            · cases h
              refine ⟨.bool (!(Ty.cons ta tr).eqX u v), ?_, mk_bool _⟩
              simp only [execOp, ho, e1, e2, Sem.run_bind, q1, Result.andThen_ok, run_neq_struct, q2, Sem.run_pure]
          · cases hv'
        · cases h
    · cases h
  · unfold binP at h
    split at h
    · rename_i k m k' n hbx hby
      rw [hbx] at hx; rw [hby] at hy
      have e1 := avr_int hx
      have e2 := avr_int hy
      cases hs : isShift op with
      | true =>
        rw [hs] at h
        obtain ⟨v, hv, hr⟩ := run_shiftOp (P := C.P) (w := w) (k' := k') h (Sh := Sh) (D := D)
        refine ⟨v, key _ _ v e1 e2 trivial ?_, hr⟩
        cases op <;> first | exact hv | cases hs
      | false =>
        rw [hs] at h
        simp only [cond_false] at h
        cases hk : decide (k = k') with
        | false => rw [hk] at h; cases h
        | true =>
          rw [hk] at h
          have hkk := of_decide_eq_true hk
          subst hkk
          obtain ⟨v, hv, hr⟩ := run_intOp (P := C.P) (w := w) h (Sh := Sh) (D := D)
          refine ⟨v, key _ _ v e1 e2 trivial ?_, hr⟩
          cases op <;> first | (simp only [binOp, ne_eq, not_true, if_false]; exact hv) | cases hs
    · rename_i hne _ _ _ b c hbx hby; exact (hne _ _ hbx hby).elim
    · rename_i b c hbx hby
      rw [hbx] at hx; rw [hby] at hy
      have e1 := avr_str hx
      have e2 := avr_str hy
      cases op <;> simp only [Prog.go] at h <;> try (cases h; done)
      · cases h
        exact ⟨_, key _ _ (.bool ((b : ByteArray).toList == (c : ByteArray).toList)) e1 e2 trivial rfl, mk_bool _⟩
      · cases h
        exact ⟨_, key _ _ (.bool (!((b : ByteArray).toList == (c : ByteArray).toList))) e1 e2 trivial rfl, mk_bool _⟩
    · cases h
theorem sound_un {o : Oper} {op : UnOp} {xt : TypeId} {x : Operand} (ho : o.op = .unOp op xt x) (hd : dstOk C.n o.dst = true) {av : AV} (h : (unP op (evalA st.tmps x)).go st.roots = some av) : Sound C o st ⟨av, []⟩ := by
  refine sound_quiet hd (fun D Sh a w hR => ?_)
  have hx := hR.eval x
  unfold unP at h
  split at h
  · rename_i k m hbx
    rw [hbx] at hx
    have e1 := avr_int hx
    cases h
    exact ⟨_, by simp only [execOp, ho, e1, Op.unary, Op.intArith, Sem.run_bind, Sem.run_pure, Result.andThen_ok], mk_int _ _⟩
  · rename_i k m hbx
    rw [hbx] at hx
    have e1 := avr_int hx
    cases h
    exact ⟨_, by simp only [execOp, ho, e1, Op.unary, Op.intBits, Sem.run_bind, Sem.run_pure, Result.andThen_ok, ibits], mk_int _ _⟩
  · rename_i b hbx
    rw [hbx] at hx
    have e1 := avr_bool hx
    cases h
    exact ⟨_, by simp only [execOp, ho, e1, Op.unary, Sem.run_bind, Sem.run_pure, Result.andThen_ok], mk_bool _⟩
  · cases h
end
end Go.Proofs.Ytabjfkongckhaaa.Vm
