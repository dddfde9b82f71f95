/- Regions: what runs in the order of the text, runs in every order that is allowed. -/
import Derived.Test.YtabjfkongckhaaaVmN
namespace Go.Proofs.Ytabjfkongckhaaa.Vm
open Go Go.RowKit
set_option linter.unusedVariables false

theorem splitB_go (R : Nat → Option Root) (p : Prog Res) : (splitB p).go R = p.go R := by
  unfold splitB
  rw [Prog.go_bind]
  cases p.go R with
  | none => rfl
  | some r =>
    obtain ⟨av, ws⟩ := r
    show (match av with
      | .sh .bool b => Prog.test (b : Bool) (.ret (⟨.sh .bool true, ws⟩ : Res)) (.ret ⟨.sh .bool false, ws⟩)
      | _ => .ret ⟨av, ws⟩).go R = some ⟨av, ws⟩
    split
    · rename_i b
      cases b <;> rfl
    · rfl
theorem rds_bind {α β : Type} (R : Nat → Option Root) : ∀ (p : Prog α) (f : α → Prog β) (id : Nat), id ∈ p.rds R → id ∈ (p.bind f).rds R
  | .ret a, f, id, h => by cases h
  | .fail, f, id, h => by cases h
  | .ask i k, f, id, h => by
    rcases List.mem_cons.1 (show id ∈ i :: (k (R i)).rds R from h) with h | h
    · exact List.mem_cons.2 (.inl h)
    · exact List.mem_cons.2 (.inr (rds_bind R (k (R i)) f id h))
  | .test b t e, f, id, h => by
    cases b
    · exact rds_bind R e f id h
    · exact rds_bind R t f id h
  | .use o k, f, id, h => by
    cases o with
    | none => cases h
    | some x => exact rds_bind R (k x) f id h

/-- It says the same wherever its operands do. -/
theorem opP_congr (T : List (TypeId × TRow)) (K : Cons) (o : Oper) {ρ ρ' : Operand → AV} (h : ∀ x ∈ o.op.operands.toList, ρ x = ρ' x) : opP T K o ρ = opP T K o ρ' := by
  obtain ⟨dst, op, type, pos, after, guard⟩ := o
  have pairs : ∀ ps : List (Nat × Operand), (∀ x ∈ ps.map (·.2), ρ x = ρ' x) → (ps.map fun p => ρ p.2) = ps.map fun p => ρ' p.2 := fun ps hp =>
    List.map_congr_left fun p hm => hp p.2 (List.mem_map.2 ⟨p, hm, rfl⟩)
  have looks : ∀ (ps : List (Nat × Operand)) (i : Nat) (x : Operand), lookN ps i = some x → x ∈ ps.map (·.2) := by
    intro ps i x
    induction ps with
    | nil => intro h; cases h
    | cons p ps ih =>
      obtain ⟨j, y⟩ := p
      intro hx
      simp only [lookN] at hx
      cases hb : Nat.beq j i with
      | true => rw [hb] at hx; cases hx; simp
      | false => rw [hb] at hx; exact List.mem_cons.2 (.inr (ih hx))
  have hbuild : ∀ (ps : List (Nat × Operand)), (∀ x ∈ ps.map (·.2), ρ x = ρ' x) → ∀ (t : Ty) (i : Nat), buildC ρ ps i t = buildC ρ' ps i t := by
    intro ps hp t
    induction t with
    | cons a r iha ihr =>
      intro i
      simp only [buildC]
      rw [ihr (i + 1)]
      cases hl : lookN ps i with
      | none => rfl
      | some x => simp only [hp x (looks ps i x hl)]
    | _ => intro i; rfl
  cases op <;> simp only [Op.operands] at h <;> simp only [opP]
  case build t ps =>
    have hp : ∀ x ∈ ps.toList.map (·.2), ρ x = ρ' x := fun x hx => h x (by simpa using hx)
    cases tget T t with
    | none => rfl
    | some row => simp only [buildP, hbuild ps.toList hp row.ty 0]
  case buildSlice t n ps =>
    have hp : ∀ x ∈ ps.toList.map (·.2), ρ x = ρ' x := fun x hx => h x (by simpa using hx)
    cases dst <;> cases tget T t <;> first | rfl | simp only [buildSliceP, pairs ps.toList hp]
  case makeFunc fn first captured =>
    have hm : captured.toList.map ρ = captured.toList.map ρ' := List.map_congr_left fun x hx => h x (by simp at hx ⊢; exact .inr hx)
    cases fn <;> first | rfl | simp only [hm]
  case call c =>
    obtain ⟨callee, args, argTypes⟩ := c
    have hargs : args.toList.map ρ = args.toList.map ρ' := List.map_congr_left fun x hx => h x (by simp at hx; simp [Call.operands, hx])
    cases callee with
    | value f =>
      have hf : ρ f = ρ' f := h f (by simp [Call.operands])
      simp only [hf, hargs]
    | invoke r m => rfl
    | builtin b =>
      have ha : ∀ x ∈ args.toList, ρ x = ρ' x := fun x hx => h x (by simp at hx; simp [Call.operands, hx])
      cases b <;> first | rfl | (simp only [hargs]; done) | skip
      · generalize args.toList = l at ha
        generalize argTypes.toList = m
        cases dst with
        | none => rfl
        | some d =>
          rcases l with _ | ⟨x, _ | ⟨y, _ | ⟨z, l⟩⟩⟩ <;> rcases m with _ | ⟨t, _ | ⟨u, _ | ⟨v, m⟩⟩⟩ <;> first | rfl | simp only [ha x (by simp), ha y (by simp)]
      · generalize args.toList = l at ha
        generalize argTypes.toList = m
        rcases l with _ | ⟨x, _ | ⟨y, l⟩⟩ <;> rcases m with _ | ⟨t, _ | ⟨u, m⟩⟩ <;> first | rfl | simp only [ha x (by simp)]
  case slice t x lo hi mx =>
    cases mx with
    | some _ => rfl
    | none =>
      have hx : ρ x = ρ' x := h x (by simp)
      have hlo : lo.map ρ = lo.map ρ' := by
        cases lo with
        | none => rfl
        | some y => simp only [Option.map_some]; rw [h y (by simp)]
      have hhi : hi.map ρ = hi.map ρ' := by
        cases hi with
        | none => rfl
        | some y => simp only [Option.map_some]; rw [h y (by simp)]
      simp only [hx, hlo, hhi]
  all_goals (first | rfl | (simp_all; done))

/-! ### the order of the text -/
section
variable {C : Ctx} {T : List (TypeId × TRow)} {K : Cons}
def AllSound (C : Ctx) (T : List (TypeId × TRow)) (K : Cons) : Prop := ∀ (o : Oper) (st : St) (res : Res), dstOk C.n o.dst = true → (opP T K o (evalA st.tmps)).go st.roots = some res → Sound C o st res

theorem yielded_of {st : St} {D : Nat → DRoot} {Sh : Nat → Prop} {a : Act} {w : World} (h : Rel C st D Sh a w) {all : Array Oper} {g : Nat} {og : Oper} (hg : all.toList[g]? = some og) {d : Nat} (hd : og.dst = some d) :
    (∀ b, st.tmps d = .sh .bool b → yielded all a.tmps g = some b) ∧ (st.tmps d = .tup .nilf → yielded all a.tmps g = none) := by
  have ha : all[g]? = some og := by rw [← Array.getElem?_toList]; exact hg
  have hv := h.tmp d
  have hy : yielded all a.tmps g = (match a.tmps[d]? with
      | some (.bool b) => some b
      | _ => none) := by
    unfold yielded
    rw [ha]; simp only [Option.bind_some, hd]; rfl
  refine ⟨fun b hb => ?_, fun hb => ?_⟩
  · rw [hb] at hv
    have hv := avr_bool hv
    rw [hy]
    rw [Array.getD_eq_getD_getElem?] at hv
    cases ht : a.tmps[d]? with
    | none => rw [ht] at hv; cases hv
    | some v =>
      rw [ht] at hv
      have : v = .bool b := hv
      rw [this]
  · rw [hb] at hv
    obtain ⟨vs, hv, hl⟩ := hv
    have hl : vs = [] := hl
    subst hl
    rw [hy]
    rw [Array.getD_eq_getD_getElem?] at hv
    cases ht : a.tmps[d]? with
    | none => rfl
    | some v =>
      rw [ht] at hv
      have : v = .tuple #[] := hv
      rw [this]
theorem wanted_ok {st : St} {D : Nat → DRoot} {Sh : Nat → Prop} {a : Act} {w : World} (h : Rel C st D Sh a w) {all : Array Oper} {o : Oper} {b : Bool} (hw : wantedP all.toList st.tmps o = some b) : Region.wanted o (yielded all a.tmps) = b := by
  unfold wantedP at hw
  unfold Region.wanted
  cases hg : o.guard with
  | none => rw [hg] at hw; cases hw; rfl
  | some gw =>
    obtain ⟨g, want⟩ := gw
    rw [hg] at hw
    simp only at hw ⊢
    cases hog : all.toList[g]? with
    | none => rw [hog] at hw; cases hw
    | some og =>
      rw [hog] at hw
      simp only at hw
      cases hd : og.dst with
      | none => rw [hd] at hw; cases hw
      | some d =>
        rw [hd] at hw
        simp only at hw
        obtain ⟨h1, h2⟩ := yielded_of h hog hd
        split at hw
        · rename_i b' hb
          rw [h1 b' hb]
          cases hw
          cases want <;> cases b' <;> rfl
        · rename_i hb
          rw [h2 hb]
          cases hw; rfl
        · cases hw

theorem Rel.undef {st : St} {D : Nat → DRoot} {Sh : Nat → Prop} {a : Act} {w : World} (h : Rel C st D Sh a w) {dst : Option Tmp} (hd : dstOk C.n dst = true) : Rel C (st.after dst ⟨.tup .nilf, []⟩) D Sh (a.put dst undef) w :=
  h.set hd ⟨[], rfl, rfl⟩
theorem seq_ok {A : Type} (hop : AllSound C T K) {all : Array Oper} {a : A} {Q : Exit → Act → World → Prop} : ∀ (os : List Oper) (i : Nat) (st : St) (rs : List Rec) (k : St → List Rec → Option A), all.toList.drop i = os → os.all (fun o => dstOk C.n o.dst) = true →
    runOps T K all.toList i os st rs k = some a → (∀ st' rs', k st' rs' = some a → ∀ D Sh act w, Rel C st' D Sh act w → Q .normal act w) → ∀ D Sh act w, Rel C st D Sh act w → wpOps C.P all Q (List.range' i os.length) act w
  | [], i, st, rs, k, hd, hok, h, hk, D, Sh, act, w, hR => hk st rs h D Sh act w hR
  | o :: os, i, st, rs, k, hd, hok, h, hk, D, Sh, act, w, hR => by
    have hoi : all[i]? = some o := by
      have : (all.toList.drop i)[0]? = some o := by rw [hd]; rfl
      rw [List.getElem?_drop, Nat.add_zero, Array.getElem?_toList] at this
      exact this
    have hd' : all.toList.drop (i + 1) = os := by rw [← List.drop_drop, hd]; rfl
    simp only [List.all_cons, Bool.and_eq_true] at hok
    show wpOps C.P all Q (i :: List.range' (i + 1) os.length) act w
    rw [wpOps_cons]
    unfold wpOp
    rw [hoi]
    simp only [runOps] at h
    cases hw : wantedP all.toList st.tmps o with
    | none => rw [hw] at h; cases h
    | some b =>
      rw [hw] at h
      simp only at h ⊢
      rw [wanted_ok hR hw]
      cases b with
      | false =>
        simp only [cond_false, Bool.false_eq_true, if_false] at h ⊢
        exact seq_ok hop os (i + 1) _ _ k hd' hok.2 h hk D Sh _ w (hR.undef hok.1)
      | true =>
        simp only [cond_true, if_true] at h ⊢
        refine .inl ?_
        rw [Prog.cps_eq] at h
        have hgo : (bif guards all.toList i then splitB (opP T K o (evalA st.tmps)) else opP T K o (evalA st.tmps)).go st.roots = (opP T K o (evalA st.tmps)).go st.roots := by
          cases guards all.toList i
          · rfl
          · exact splitB_go _ _
        rw [hgo] at h
        cases hg : (opP T K o (evalA st.tmps)).go st.roots with
        | none => rw [hg] at h; cases h
        | some res =>
          rw [hg] at h
          simp only at h
          exact hop o st res hok.1 hg D Sh act w _ Q hR (fun D' Sh' a' w' hR' => seq_ok hop os (i + 1) _ _ k hd' hok.2 h hk D' Sh' a' w' hR')

/-! ### every order -/
/-- What one operation did, at the state at hand. -/
def Fact (T : List (TypeId × TRow)) (K : Cons) (all : List Oper) (st : St) (o : Oper) (x : Rec × Res) : Prop :=
  (wantedP all st.tmps o = some true ∧ (opP T K o (evalA st.tmps)).go st.roots = some x.2 ∧ ∀ id ∈ (opP T K o (evalA st.tmps)).rds st.roots, id ∈ x.1.ask) ∨
  (wantedP all st.tmps o = some false ∧ x.2 = ⟨.tup .nilf, []⟩)
def Sof (L : Nat → Bool) : Nat → List (Rec × Res) → St → St
  | _, [], st => st
  | i, x :: xs, st => Sof L (i + 1) xs (bif L i then st.after x.1.dst x.2 else st)
def RecOK (all : List Oper) (i : Nat) (o : Oper) (x : Rec × Res) : Prop := x.1.i = i ∧ x.1.dst = o.dst ∧ x.1.rd = looks all o ∧ x.1.wr = wrIds x.2.ws
theorem Sof_none (L : Nat → Bool) : ∀ (xs : List (Rec × Res)) (i : Nat) (st : St), (∀ m, i ≤ m → L m = false) → Sof L i xs st = st
  | [], _, _, _ => rfl
  | x :: xs, i, st, h => by
    simp only [Sof]
    rw [h i (Nat.le_refl _)]
    exact Sof_none L xs (i + 1) st (fun m hm => h m (by omega))
theorem ran_of {A : Type} {a : A} {all : List Oper} : ∀ (os : List Oper) (i : Nat) (st : St) (rs : List Rec) (k : St → List Rec → Option A), runOps T K all i os st rs k = some a →
    ∃ xs : List (Rec × Res), xs.length = os.length ∧ k (Sof (fun _ => true) i xs st) ((xs.map (·.1)).reverse ++ rs) = some a ∧
      ∀ n x o, xs[n]? = some x → os[n]? = some o → RecOK all (i + n) o x ∧ Fact T K all (Sof (fun m => Nat.blt m (i + n)) i xs st) o x
  | [], i, st, rs, k, h => ⟨[], rfl, h, fun n x o hx => by cases hx⟩
  | o :: os, i, st, rs, k, h => by
    simp only [runOps] at h
    have fin : ∀ (x : Rec × Res), Fact T K all st o x → RecOK all i o x → runOps T K all (i + 1) os (st.after x.1.dst x.2) (x.1 :: rs) k = some a →
        ∃ xs : List (Rec × Res), xs.length = (o :: os).length ∧ k (Sof (fun _ => true) i xs st) ((xs.map (·.1)).reverse ++ rs) = some a ∧
          ∀ n y p, xs[n]? = some y → (o :: os)[n]? = some p → RecOK all (i + n) p y ∧ Fact T K all (Sof (fun m => Nat.blt m (i + n)) i xs st) p y := by
      intro x hF hr h
      obtain ⟨xs, e1, e2, e3⟩ := ran_of os (i + 1) _ _ k h
      refine ⟨x :: xs, by simp [e1], ?_, fun n y p hy hp => ?_⟩
      · simp only [Sof, cond_true, List.map_cons, List.reverse_cons, List.append_assoc, List.cons_append, List.nil_append]
        exact e2
      · cases n with
        | zero =>
          simp only [List.getElem?_cons_zero, Option.some.injEq] at hy hp
          subst hy; subst hp
          refine ⟨hr, ?_⟩
          rw [Sof_none _ _ _ _ (fun m hm => by cases hb : Nat.blt m (i + 0) with | false => rfl | true => rw [Nat.blt_eq] at hb; omega)]
          exact hF
        | succ n =>
          simp only [List.getElem?_cons_succ] at hy hp
          obtain ⟨f1, f2⟩ := e3 n y p hy hp
          have e : i + 1 + n = i + (n + 1) := by omega
          rw [e] at f1 f2
          refine ⟨f1, ?_⟩
          simp only [Sof]
          have hb : Nat.blt i (i + (n + 1)) = true := by rw [Nat.blt_eq]; omega
          rw [hb]; exact f2
    cases hw : wantedP all st.tmps o with
    | none => rw [hw] at h; cases h
    | some b =>
      rw [hw] at h
      cases b with
      | false =>
        simp only [cond_false] at h
        exact fin (⟨i, o.dst, looks all o, [], []⟩, ⟨.tup .nilf, []⟩) (.inr ⟨hw, rfl⟩) ⟨rfl, rfl, rfl, rfl⟩ h
      | true =>
        simp only [cond_true] at h
        rw [Prog.cps_eq] at h
        have hgo : (bif guards all i then splitB (opP T K o (evalA st.tmps)) else opP T K o (evalA st.tmps)).go st.roots = (opP T K o (evalA st.tmps)).go st.roots := by
          cases guards all i
          · rfl
          · exact splitB_go _ _
        have hrd : ∀ id ∈ (opP T K o (evalA st.tmps)).rds st.roots, id ∈ (bif guards all i then splitB (opP T K o (evalA st.tmps)) else opP T K o (evalA st.tmps)).rds st.roots := by
          intro id hid
          cases guards all i
          · exact hid
          · exact rds_bind _ _ _ _ hid
        rw [hgo] at h
        cases hg : (opP T K o (evalA st.tmps)).go st.roots with
        | none => rw [hg] at h; cases h
        | some res =>
          rw [hg] at h
          simp only at h
          exact fin (⟨i, o.dst, looks all o, _, wrIds res.ws⟩, res) (.inl ⟨hw, hg, fun id hid => by
            show id ∈ _ ++ []
            rw [List.append_nil, List.mem_reverse]; exact hrd id hid⟩) ⟨rfl, rfl, rfl, rfl⟩ h
end
end Go.Proofs.Ytabjfkongckhaaa.Vm
