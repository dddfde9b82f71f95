-- compact
import Derived.Test.YtipaepbmdooekaaGreatV1
import Derived.LoopN
namespace Go.Proofs.YtipaepbmdooekaaGreat.Vm
open Go Go.RowKit
set_option linter.unusedVariables false
theorem splitB_go (R : Nat -> Option Root) (p : Prog Res) : (splitB p).go R = p.go R := by
 unfold splitB
 rw [Prog.go_bind]
 cases p.go R with
 | none => rfl
 | some r =>
  obtain ⟨av, ws⟩ := r
  show (match av with
   | .sh .bool b => Prog.test (b : Bool) (.ret (⟨.sh .bool true, ws⟩ : Res)) (.ret ⟨.sh .bool false, ws⟩)
   | _ => .ret ⟨av, ws⟩).go R = some ⟨av, ws⟩
  split
  ·rename_i b
   cases b <;> rfl
  ·rfl
theorem rds_bind {α β : Type} (R : Nat -> Option Root) : ∀ (p : Prog α) (f : α -> Prog β) (id : Nat), id ∈ p.rds R -> id ∈ (p.bind f).rds R
 | .ret a, f, id, h => by cases h
 | .fail, f, id, h => by cases h
 | .ask i k, f, id, h => by
  rcases List.mem_cons.1 (show id ∈ i :: (k (R i)).rds R from h) with h | h
  ·exact List.mem_cons.2 (.inl h)
  ·exact List.mem_cons.2 (.inr (rds_bind R (k (R i)) f id h))
 | .test b t e, f, id, h => by
  cases b
  ·exact rds_bind R e f id h
  ·exact rds_bind R t f id h
 | .use o k, f, id, h => by
  cases o with
  | none => cases h
  | some x => exact rds_bind R (k x) f id h
theorem opP_congr (T : List (TypeId × TRow)) (K : Cons) (o : Oper) {ρ ρ' : Operand -> AV} (h : ∀ x ∈ o.op.operands.toList, ρ x = ρ' x) : opP T K o ρ = opP T K o ρ' := by
 obtain ⟨dst, op, type, pos, after, guard⟩ := o
 have pairs : ∀ ps : List (Nat × Operand), (∀ x ∈ ps.map (·.2), ρ x = ρ' x) -> (ps.map fun p => ρ p.2) = ps.map fun p => ρ' p.2 := fun ps hp =>
  List.map_congr_left fun p hm => hp p.2 (List.mem_map.2 ⟨p, hm, rfl⟩)
 have looks : ∀ (ps : List (Nat × Operand)) (i : Nat) (x : Operand), lookN ps i = some x -> x ∈ ps.map (·.2) := by
  intro ps i x
  induction ps with
  | nil => intro h; cases h
  | cons p ps ih =>
   obtain ⟨j, y⟩ := p
   intro hx
   simp only [lookN] at hx
   cases hb : Nat.beq j i with
   | true => rw [hb] at hx; cases hx; simp
   | false => rw [hb] at hx; exact List.mem_cons.2 (.inr (ih hx))
 have hbuild : ∀ (ps : List (Nat × Operand)), (∀ x ∈ ps.map (·.2), ρ x = ρ' x) -> ∀ (t : Ty) (i : Nat), buildC ρ ps i t = buildC ρ' ps i t := by
  intro ps hp t
  induction t with
  | cons a r iha ihr =>
   intro i
   simp only [buildC]
   rw [ihr (i + 1)]
   cases hl : lookN ps i with
   | none => rfl
   | some x => simp only [hp x (looks ps i x hl)]
  | _ => intro i; rfl
 cases op <;> simp only [Op.operands] at h <;> simp only [opP]
 case build t ps =>
  have hp : ∀ x ∈ ps.toList.map (·.2), ρ x = ρ' x := fun x hx => h x (by simpa using hx)
  cases tget T t with
  | none => rfl
  | some row => simp only [buildP, hbuild ps.toList hp row.ty 0]
 case buildSlice t n ps =>
  have hp : ∀ x ∈ ps.toList.map (·.2), ρ x = ρ' x := fun x hx => h x (by simpa using hx)
  cases dst <;> cases tget T t <;> first | rfl | simp only [buildSliceP, pairs ps.toList hp]
 case makeFunc fn first captured =>
  have hm : captured.toList.map ρ = captured.toList.map ρ' := List.map_congr_left fun x hx => h x (by simp at hx ⊢; exact .inr hx)
  cases fn <;> first | rfl | simp only [hm]
 case call c =>
  obtain ⟨callee, args, argTypes⟩ := c
  have hargs : args.toList.map ρ = args.toList.map ρ' := List.map_congr_left fun x hx => h x (by simp at hx; simp [Call.operands, hx])
  cases callee with
  | value f =>
   have hf : ρ f = ρ' f := h f (by simp [Call.operands])
   simp only [hf, hargs]
  | invoke r m => rfl
  | builtin b =>
   have ha : ∀ x ∈ args.toList, ρ x = ρ' x := fun x hx => h x (by simp at hx; simp [Call.operands, hx])
   cases b <;> first | rfl | (simp only [hargs]; done) | skip
   ·generalize args.toList = l at ha
    generalize argTypes.toList = m
    cases dst with
    | none => rfl
    | some d =>
     rcases l with _ | ⟨x, _ | ⟨y, _ | ⟨z, l⟩⟩⟩ <;> rcases m with _ | ⟨t, _ | ⟨u, _ | ⟨v, m⟩⟩⟩ <;> first | rfl | simp only [ha x (by simp), ha y (by simp)]
   ·generalize args.toList = l at ha
    generalize argTypes.toList = m
    rcases l with _ | ⟨x, _ | ⟨y, l⟩⟩ <;> rcases m with _ | ⟨t, _ | ⟨u, m⟩⟩ <;> first | rfl | simp only [ha x (by simp)]
 case slice t x lo hi mx =>
  cases mx with
  | some _ => rfl
  | none =>
   have hx : ρ x = ρ' x := h x (by simp)
   have hlo : lo.map ρ = lo.map ρ' := by
    cases lo with
    | none => rfl
    | some y => simp only [Option.map_some]; rw [h y (by simp)]
   have hhi : hi.map ρ = hi.map ρ' := by
    cases hi with
    | none => rfl
    | some y => simp only [Option.map_some]; rw [h y (by simp)]
   simp only [hx, hlo, hhi]
 all_goals (first | rfl | (simp_all; done))
section
variable {C : Ctx} {T : List (TypeId × TRow)} {K : Cons}
structure AllSound (C : Ctx) (T : List (TypeId × TRow)) (K : Cons) : Prop where
 sound : ∀ (o : Oper) (st : St) (res : Res), dstOk C.n o.dst = true -> (opP T K o (evalA st.tmps)).go st.roots = some res -> Sound C o st res
 quiet : ∀ (o : Oper) (st : St) (res : Res), dstOk C.n o.dst = true -> softOp o = true -> (opP T K o (evalA st.tmps)).go st.roots = some res -> ∃ av, res = ⟨av, []⟩ /\ Quiet C o st av
 pend : ∀ (o : Oper) (st : St) (q : Pend), pendOf T o st = some q -> ∀ (D : Nat -> DRoot) (Sh : Nat -> Prop) (a : Act) (w : World), Rel C st D Sh a w ->
  ∃ D' w', (execOp a.eval o).run C.P w = .ok .skip w' /\ Rel C (pendSt q st) D' Sh a w' /\ a.eval (pendArg o) = mkw q.t.agg (D' q.id).dv.cs
theorem yielded_of {st : St} {D : Nat -> DRoot} {Sh : Nat -> Prop} {a : Act} {w : World} (h : Rel C st D Sh a w) {all : Array Oper} {g : Nat} {og : Oper} (hg : all.toList[g]? = some og) {d : Nat} (hd : og.dst = some d) :
  (∀ b, st.tmps d = .sh .bool b -> yielded all a.tmps g = some b) /\ (st.tmps d = .tup .nilf -> yielded all a.tmps g = none) := by
 have ha : all[g]? = some og := by rw [<- Array.getElem?_toList]; exact hg
 have hv := h.tmp d
 have hy : yielded all a.tmps g = (match a.tmps[d]? with
   | some (.bool b) => some b
   | _ => none) := by
  unfold yielded
  rw [ha]; simp only [Option.bind_some, hd]; rfl
 refine ⟨fun b hb => ?_, fun hb => ?_⟩
 ·rw [hb] at hv
  have hv := avr_bool hv
  rw [hy]
  rw [Array.getD_eq_getD_getElem?] at hv
  cases ht : a.tmps[d]? with
  | none => rw [ht] at hv; cases hv
  | some v =>
   rw [ht] at hv
   have : v = .bool b := hv
   rw [this]
 ·rw [hb] at hv
  obtain ⟨vs, hv, hl⟩ := hv
  have hl : vs = [] := hl
  subst hl
  rw [hy]
  rw [Array.getD_eq_getD_getElem?] at hv
  cases ht : a.tmps[d]? with
  | none => rfl
  | some v =>
   rw [ht] at hv
   have : v = .tuple #[] := hv
   rw [this]
theorem wanted_ok {st : St} {D : Nat -> DRoot} {Sh : Nat -> Prop} {a : Act} {w : World} (h : Rel C st D Sh a w) {all : Array Oper} {o : Oper} {b : Bool} (hw : wantedP all.toList st.tmps o = some b) : Region.wanted o (yielded all a.tmps) = b := by
 unfold wantedP at hw
 unfold Region.wanted
 cases hg : o.guard with
 | none => rw [hg] at hw; cases hw; rfl
 | some gw =>
  obtain ⟨g, want⟩ := gw
  rw [hg] at hw
  simp only at hw ⊢
  cases hog : all.toList[g]? with
  | none => rw [hog] at hw; cases hw
  | some og =>
   rw [hog] at hw
   simp only at hw
   cases hd : og.dst with
   | none => rw [hd] at hw; cases hw
   | some d =>
    rw [hd] at hw
    simp only at hw
    obtain ⟨h1, h2⟩ := yielded_of h hog hd
    split at hw
    ·rename_i b' hb
     rw [h1 b' hb]
     cases hw
     cases want <;> cases b' <;> rfl
    ·rename_i hb
     rw [h2 hb]
     cases hw; rfl
    ·cases hw
theorem Rel.undef {st : St} {D : Nat -> DRoot} {Sh : Nat -> Prop} {a : Act} {w : World} (h : Rel C st D Sh a w) {dst : Option Tmp} (hd : dstOk C.n dst = true) : Rel C (st.after dst ⟨.tup .nilf, []⟩) D Sh (a.put dst undef) w :=
 h.set hd ⟨[], rfl, rfl⟩
theorem seq_ok {A : Type} (hop : AllSound C T K) {all : Array Oper} {a : A} {Q : Exit -> Act -> World -> Prop} : ∀ (os : List Oper) (i : Nat) (st : St) (rs : List Rec) (k : St -> List Rec -> Option A), all.toList.drop i = os -> os.all (fun o => dstOk C.n o.dst) = true ->
  runOps T K all.toList i os st rs k = some a -> (∀ st' rs', k st' rs' = some a -> ∀ D Sh act w, Rel C st' D Sh act w -> Q .normal act w) -> ∀ D Sh act w, Rel C st D Sh act w -> wpOps C.P all Q (List.range' i os.length) act w
 | [], i, st, rs, k, hd, hok, h, hk, D, Sh, act, w, hR => hk st rs h D Sh act w hR
 | o :: os, i, st, rs, k, hd, hok, h, hk, D, Sh, act, w, hR => by
  have hoi : all[i]? = some o := by
   have : (all.toList.drop i)[0]? = some o := by rw [hd]; rfl
   rw [List.getElem?_drop, Nat.add_zero, Array.getElem?_toList] at this
   exact this
  have hd' : all.toList.drop (i + 1) = os := by rw [<- List.drop_drop, hd]; rfl
  simp only [List.all_cons, Bool.and_eq_true] at hok
  show wpOps C.P all Q (i :: List.range' (i + 1) os.length) act w
  rw [wpOps_cons]
  unfold wpOp
  rw [hoi]
  simp only [runOps] at h
  cases hw : wantedP all.toList st.tmps o with
  | none => rw [hw] at h; cases h
  | some b =>
   rw [hw] at h
   simp only at h ⊢
   rw [wanted_ok hR hw]
   cases b with
   | false =>
    simp only [cond_false, Bool.false_eq_true, if_false] at h ⊢
    exact seq_ok hop os (i + 1) _ _ k hd' hok.2 h hk D Sh _ w (hR.undef hok.1)
   | true =>
    simp only [cond_true, if_true] at h ⊢
    refine .inl ?_
    rw [Prog.cps_eq] at h
    have hgo : (bif guards all.toList i then splitB (opP T K o (evalA st.tmps)) else opP T K o (evalA st.tmps)).go st.roots = (opP T K o (evalA st.tmps)).go st.roots := by
     cases guards all.toList i
     ·rfl
     ·exact splitB_go _ _
    rw [hgo] at h
    cases hg : (opP T K o (evalA st.tmps)).go st.roots with
    | none => rw [hg] at h; cases h
    | some res =>
     rw [hg] at h
     simp only at h
     exact hop.sound o st res hok.1 hg D Sh act w _ Q hR (fun D' Sh' a' w' hR' => seq_ok hop os (i + 1) _ _ k hd' hok.2 h hk D' Sh' a' w' hR')
def Fact (T : List (TypeId × TRow)) (K : Cons) (all : List Oper) (st : St) (o : Oper) (x : Rec × Res) : Prop :=
 (wantedP all st.tmps o = some true /\ (opP T K o (evalA st.tmps)).go st.roots = some x.2 /\ ∀ id ∈ (opP T K o (evalA st.tmps)).rds st.roots, id ∈ x.1.ask) \/
 (wantedP all st.tmps o = some false /\ x.2 = ⟨.tup .nilf, []⟩)
def Sof (L : Nat -> Bool) : Nat -> List (Rec × Res) -> St -> St
 | _, [], st => st
 | i, x :: xs, st => Sof L (i + 1) xs (bif L i then st.after x.1.dst x.2 else st)
def RecOK (all : List Oper) (i : Nat) (o : Oper) (x : Rec × Res) : Prop := x.1.i = i /\ x.1.dst = o.dst /\ x.1.rd = looks all o /\ x.1.wr = wrIds x.2.ws
theorem Sof_none (L : Nat -> Bool) : ∀ (xs : List (Rec × Res)) (i : Nat) (st : St), (∀ m, i <= m -> L m = false) -> Sof L i xs st = st
 | [], _, _, _ => rfl
 | x :: xs, i, st, h => by
  simp only [Sof]
  rw [h i (Nat.le_refl _)]
  exact Sof_none L xs (i + 1) st (fun m hm => h m (by omega))
theorem ran_of {A : Type} {a : A} {all : List Oper} : ∀ (os : List Oper) (i : Nat) (st : St) (rs : List Rec) (k : St -> List Rec -> Option A), runOps T K all i os st rs k = some a ->
  ∃ xs : List (Rec × Res), xs.length = os.length /\ k (Sof (fun _ => true) i xs st) ((xs.map (·.1)).reverse ++ rs) = some a /\
   ∀ n x o, xs[n]? = some x -> os[n]? = some o -> RecOK all (i + n) o x /\ Fact T K all (Sof (fun m => Nat.blt m (i + n)) i xs st) o x
 | [], i, st, rs, k, h => ⟨[], rfl, h, fun n x o hx => by cases hx⟩
 | o :: os, i, st, rs, k, h => by
  simp only [runOps] at h
  have fin : ∀ (x : Rec × Res), Fact T K all st o x -> RecOK all i o x -> runOps T K all (i + 1) os (st.after x.1.dst x.2) (x.1 :: rs) k = some a ->
    ∃ xs : List (Rec × Res), xs.length = (o :: os).length /\ k (Sof (fun _ => true) i xs st) ((xs.map (·.1)).reverse ++ rs) = some a /\
     ∀ n y p, xs[n]? = some y -> (o :: os)[n]? = some p -> RecOK all (i + n) p y /\ Fact T K all (Sof (fun m => Nat.blt m (i + n)) i xs st) p y := by
   intro x hF hr h
   obtain ⟨xs, e1, e2, e3⟩ := ran_of os (i + 1) _ _ k h
   refine ⟨x :: xs, by simp [e1], ?_, fun n y p hy hp => ?_⟩
   ·simp only [Sof, cond_true, List.map_cons, List.reverse_cons, List.append_assoc, List.cons_append, List.nil_append]
    exact e2
   ·cases n with
    | zero =>
     simp only [List.getElem?_cons_zero, Option.some.injEq] at hy hp
     subst hy; subst hp
     refine ⟨hr, ?_⟩
     rw [Sof_none _ _ _ _ (fun m hm => by cases hb : Nat.blt m (i + 0) with | false => rfl | true => rw [Nat.blt_eq] at hb; omega)]
     exact hF
    | succ n =>
     simp only [List.getElem?_cons_succ] at hy hp
     obtain ⟨f1, f2⟩ := e3 n y p hy hp
     have e : i + 1 + n = i + (n + 1) := by omega
     rw [e] at f1 f2
     refine ⟨f1, ?_⟩
     simp only [Sof]
     have hb : Nat.blt i (i + (n + 1)) = true := by rw [Nat.blt_eq]; omega
     rw [hb]; exact f2
  cases hw : wantedP all st.tmps o with
  | none => rw [hw] at h; cases h
  | some b =>
   rw [hw] at h
   cases b with
   | false =>
    simp only [cond_false] at h
    exact fin (⟨i, o.dst, looks all o, [], []⟩, ⟨.tup .nilf, []⟩) (.inr ⟨hw, rfl⟩) ⟨rfl, rfl, rfl, rfl⟩ h
   | true =>
    simp only [cond_true] at h
    rw [Prog.cps_eq] at h
    have hgo : (bif guards all i then splitB (opP T K o (evalA st.tmps)) else opP T K o (evalA st.tmps)).go st.roots = (opP T K o (evalA st.tmps)).go st.roots := by
     cases guards all i
     ·rfl
     ·exact splitB_go _ _
    have hrd : ∀ id ∈ (opP T K o (evalA st.tmps)).rds st.roots, id ∈ (bif guards all i then splitB (opP T K o (evalA st.tmps)) else opP T K o (evalA st.tmps)).rds st.roots := by
     intro id hid
     cases guards all i
     ·exact hid
     ·exact rds_bind _ _ _ _ hid
    rw [hgo] at h
    cases hg : (opP T K o (evalA st.tmps)).go st.roots with
    | none => rw [hg] at h; cases h
    | some res =>
     rw [hg] at h
     simp only at h
     exact fin (⟨i, o.dst, looks all o, _, wrIds res.ws⟩, res) (.inl ⟨hw, hg, fun id hid => by
      show id ∈ _ ++ []
      rw [List.append_nil, List.mem_reverse]; exact hrd id hid⟩) ⟨rfl, rfl, rfl, rfl⟩ h
end
end Go.Proofs.YtipaepbmdooekaaGreat.Vm
namespace Go.Proofs.YtipaepbmdooekaaGreat.Vm
open Go Go.RowKit
set_option linter.unusedVariables false
theorem memN_iff {x : Nat} : ∀ {l : List Nat}, memN x l = true ↔ x ∈ l
 | [] => by simp [memN]
 | y :: l => by simp [memN, memN_iff (l := l)]
theorem meets_false {a b : List Nat} (h : (!meets a b) = true) : ∀ x ∈ a, x ∉ b := by
 intro x hx hb
 simp only [Bool.not_eq_true', meets, List.any_eq_false] at h
 exact h x hx (memN_iff.2 hb)
structure Apart (x y : Rec) : Prop where
 xr : ∀ d, x.dst = some d -> d ∉ y.rd
 yr : ∀ d, y.dst = some d -> d ∉ x.rd
 xy : ∀ d, x.dst = some d -> y.dst ≠ some d
 wa : ∀ i ∈ x.wr, i ∉ y.ask
 ww : ∀ i ∈ x.wr, i ∉ y.wr
 aw : ∀ i ∈ x.ask, i ∉ y.wr
theorem apart_of {x y : Rec} (h : apart2 x y = true) : Apart x y := by
 unfold apart2 at h
 simp only [Bool.and_eq_true] at h
 obtain ⟨⟨⟨⟨h1, h2⟩, h3⟩, h4⟩, h5⟩ := h
 refine ⟨fun d hd hm => ?_, fun d hd hm => ?_, fun d hd he => ?_, meets_false h3, meets_false h4, meets_false h5⟩
 ·rw [hd] at h1
  simp only [Bool.and_eq_true, Bool.not_eq_true'] at h1
  rw [memN_iff.2 hm] at h1; cases h1.1
 ·rw [hd] at h2
  simp only [Bool.not_eq_true'] at h2
  rw [memN_iff.2 hm] at h2; cases h2
 ·rw [hd, he] at h1
  simp at h1
theorem wr_out {id : Nat} : ∀ {ws : Writes} {R : Nat -> Option Root}, id ∉ wrIds ws -> app ws R id = R id
 | [], R, h => rfl
 | (i, r) :: ws, R, h => by
  have hne : id ≠ i := fun e => h (by subst e; exact List.mem_cons_self)
  show upt (app ws R) i (some r) id = _
  rw [upt_ne _ _ hne]
  exact wr_out (fun hm => h (List.mem_cons_of_mem _ hm))
theorem wr_in {id : Nat} : ∀ {ws : Writes} {R R' : Nat -> Option Root}, id ∈ wrIds ws -> app ws R id = app ws R' id
 | [], R, R', h => by cases h
 | (i, r) :: ws, R, R', h => by
  show upt (app ws R) i (some r) id = upt (app ws R') i (some r) id
  by_cases e : id = i
  ·subst e; rw [upt_same, upt_same]
  ·rw [upt_ne _ _ e, upt_ne _ _ e]
   rcases List.mem_cons.1 h with h | h
   ·exact absurd h e
   ·exact wr_in h
theorem app_comm {ws vs : Writes} (h : ∀ i ∈ wrIds ws, i ∉ wrIds vs) (R : Nat -> Option Root) : app ws (app vs R) = app vs (app ws R) := by
 funext id
 by_cases h1 : id ∈ wrIds ws
 ·rw [wr_in (R' := R) h1, wr_out (h id h1)]
 ·rw [wr_out h1]
  by_cases h2 : id ∈ wrIds vs
  ·exact wr_in h2
  ·rw [wr_out h2, wr_out h2, wr_out h1]
theorem after_comm {st : St} {x y : Rec × Res} (h1 : ∀ d, x.1.dst = some d -> y.1.dst ≠ some d) (h2 : ∀ i ∈ wrIds x.2.ws, i ∉ wrIds y.2.ws) : (st.after x.1.dst x.2).after y.1.dst y.2 = (st.after y.1.dst y.2).after x.1.dst x.2 := by
 unfold St.after
 congr 1
 ·cases hx : x.1.dst with
  | none => rfl
  | some d =>
   cases hy : y.1.dst with
   | none => rfl
   | some e => exact upt_comm _ _ _ (fun he => h1 d hx (he ▸ hy))
 ·exact (app_comm h2 st.roots).symm
theorem Sof_comm {L : Nat -> Bool} {x : Rec × Res} : ∀ (xs : List (Rec × Res)) (i : Nat) (st : St), (∀ n y, xs[n]? = some y -> L (i + n) = true -> (∀ d, x.1.dst = some d -> y.1.dst ≠ some d) /\ ∀ k ∈ wrIds x.2.ws, k ∉ wrIds y.2.ws) ->
  Sof L i xs (st.after x.1.dst x.2) = (Sof L i xs st).after x.1.dst x.2
 | [], i, st, h => rfl
 | y :: xs, i, st, h => by
  simp only [Sof]
  have ht : ∀ st : St, Sof L (i + 1) xs (st.after x.1.dst x.2) = (Sof L (i + 1) xs st).after x.1.dst x.2 := fun st => Sof_comm xs (i + 1) st (fun n z hz hl => h (n + 1) z (by simpa using hz) (by rw [<- hl]; congr 1; omega))
  cases hl : L i with
  | false => exact ht st
  | true =>
   simp only [cond_true]
   obtain ⟨h1, h2⟩ := h 0 y rfl (by simpa using hl)
   rw [after_comm h1 h2]
   exact ht _
theorem Sof_congr {L L' : Nat -> Bool} : ∀ (xs : List (Rec × Res)) (i : Nat) (st : St), (∀ n, n < xs.length -> L (i + n) = L' (i + n)) -> Sof L i xs st = Sof L' i xs st
 | [], i, st, h => rfl
 | x :: xs, i, st, h => by
  simp only [Sof]
  have h0 : L i = L' i := by simpa using h 0 (by simp)
  rw [h0]
  exact Sof_congr xs (i + 1) _ (fun n hn => by have := h (n + 1) (by simpa using hn); rw [show i + 1 + n = i + (n + 1) by omega]; exact this)
theorem Sof_add {L L' : Nat -> Bool} {x : Rec × Res} : ∀ (n : Nat) (xs : List (Rec × Res)) (i : Nat) (st : St), xs[n]? = some x -> L (i + n) = false -> L' (i + n) = true -> (∀ m, m ≠ i + n -> L' m = L m) ->
  (∀ m y, n < m -> xs[m]? = some y -> L (i + m) = true -> (∀ d, x.1.dst = some d -> y.1.dst ≠ some d) /\ ∀ k ∈ wrIds x.2.ws, k ∉ wrIds y.2.ws) -> Sof L' i xs st = (Sof L i xs st).after x.1.dst x.2
 | 0, y :: xs, i, st, hx, h0, h1, hne, hc => by
  simp only [List.getElem?_cons_zero, Option.some.injEq] at hx
  subst hx
  simp only [Sof]
  rw [show L i = false from h0, show L' i = true from h1]
  simp only [cond_true, cond_false]
  rw [Sof_congr (L := L') (L' := L) xs (i + 1) _ (fun n _ => hne _ (by omega))]
  exact Sof_comm xs (i + 1) st (fun n z hz hl => hc (n + 1) z (by omega) (by simpa using hz) (by rw [<- hl]; congr 1; omega))
 | n + 1, y :: xs, i, st, hx, h0, h1, hne, hc => by
  simp only [Sof]
  rw [hne i (by omega)]
  exact Sof_add n xs (i + 1) _ (by simpa using hx) (by rw [<- h0]; congr 1; omega) (by rw [<- h1]; congr 1; omega) (fun m hm => hne m (by omega))
   (fun m z hm hz hl => hc (m + 1) z (by omega) (by simpa using hz) (by rw [<- hl]; congr 1; omega))
 | n, [], i, st, hx, _, _, _, _ => by cases hx
theorem Sof_tmp {L L' : Nat -> Bool} {t : Nat} : ∀ (xs : List (Rec × Res)) (i : Nat) (st st' : St), (∀ n x, xs[n]? = some x -> x.1.dst = some t -> L (i + n) = L' (i + n)) -> st.tmps t = st'.tmps t -> (Sof L i xs st).tmps t = (Sof L' i xs st').tmps t
 | [], i, st, st', h, e => e
 | x :: xs, i, st, st', h, e => by
  simp only [Sof]
  refine Sof_tmp xs (i + 1) _ _ (fun n y hy hd => ?_) ?_
  ·have := h (n + 1) y (by simpa using hy) hd
   rw [show i + 1 + n = i + (n + 1) by omega]; exact this
  ·have hput : ∀ st : St, x.1.dst ≠ some t -> (st.after x.1.dst x.2).tmps t = st.tmps t := by
    intro st hd
    unfold St.after
    cases hx : x.1.dst with
    | none => rfl
    | some d => exact upt_ne _ _ (fun he => hd (by rw [hx, he]))
   by_cases hd : x.1.dst = some t
   ·have h0 : L i = L' i := by simpa using h 0 x rfl hd
    rw [h0]
    cases L' i with
    | false => exact e
    | true => simp only [cond_true, St.after, hd, upt_same]
   ·cases L i <;> cases L' i <;> simp only [cond_true, cond_false, hput _ hd, e]
theorem Sof_root {L L' : Nat -> Bool} {id : Nat} : ∀ (xs : List (Rec × Res)) (i : Nat) (st st' : St), (∀ n x, xs[n]? = some x -> id ∈ wrIds x.2.ws -> L (i + n) = L' (i + n)) -> st.roots id = st'.roots id -> (Sof L i xs st).roots id = (Sof L' i xs st').roots id
 | [], i, st, st', h, e => e
 | x :: xs, i, st, st', h, e => by
  simp only [Sof]
  refine Sof_root xs (i + 1) _ _ (fun n y hy hd => ?_) ?_
  ·have := h (n + 1) y (by simpa using hy) hd
   rw [show i + 1 + n = i + (n + 1) by omega]; exact this
  ·have hr : ∀ st : St, (st.after x.1.dst x.2).roots id = app x.2.ws st.roots id := fun st => rfl
   by_cases hd : id ∈ wrIds x.2.ws
   ·have h0 : L i = L' i := by simpa using h 0 x rfl hd
    rw [h0]
    cases L' i with
    | false => exact e
    | true => simp only [cond_true, hr]; exact wr_in hd
   ·cases L i <;> cases L' i <;> simp only [cond_true, cond_false, hr, wr_out hd, e]
theorem looks_guard {all : List Oper} {o og : Oper} {g : Nat} {want : Bool} {d : Nat} (h : o.guard = some (g, want)) (hg : all[g]? = some og) (hd : og.dst = some d) : d ∈ looks all o := by
 unfold looks
 rw [h]; simp only [hg, hd]
 simp
theorem looks_tmp {all : List Oper} {o : Oper} {t : Nat} (h : Operand.tmp t ∈ o.op.operands.toList) : t ∈ looks all o := by
 unfold looks
 refine List.mem_append_left _ ?_
 generalize o.op.operands.toList = l at h
 induction l with
 | nil => cases h
 | cons x l ih =>
  have hh := List.mem_cons.1 h
  clear h
  rcases hh with hh | hh
  ·subst hh; exact List.mem_cons_self
  ·have hi := ih hh
   clear hh ih
   cases x <;> simp only [opTmps] <;> first | exact hi | exact List.mem_cons_of_mem _ hi
theorem Fact.of {T : List (TypeId × TRow)} {K : Cons} {all : List Oper} {st st' : St} {o : Oper} {x : Rec × Res} (h : Fact T K all st o x) (hr : x.1.rd = looks all o) (h1 : ∀ t ∈ x.1.rd, st'.tmps t = st.tmps t) (h2 : ∀ id ∈ x.1.ask, st'.roots id = st.roots id) : Fact T K all st' o x := by
 have hw : wantedP all st'.tmps o = wantedP all st.tmps o := by
  unfold wantedP
  cases hg : o.guard with
  | none => rfl
  | some gw =>
   obtain ⟨g, want⟩ := gw
   simp only
   cases hog : all[g]? with
   | none => rfl
   | some og =>
    simp only
    cases hd : og.dst with
    | none => rfl
    | some d => simp only [h1 d (by rw [hr]; exact looks_guard hg hog hd)]
 have hp : opP T K o (evalA st'.tmps) = opP T K o (evalA st.tmps) := opP_congr T K o (fun y hy => by
  cases y with
  | tmp t => exact h1 t (by rw [hr]; exact looks_tmp hy)
  | _ => rfl)
 rcases h with ⟨a1, a2, a3⟩ | ⟨a1, a2⟩
 ·left
  obtain ⟨g1, g2⟩ := Prog.go_congr (R := st.roots) (R' := st'.roots) (opP T K o (evalA st.tmps)) (fun id hid => h2 id (a3 id hid))
  exact ⟨hw.trans a1, by rw [hp, g1]; exact a2, by rw [hp, g2]; exact a3⟩
 ·exact .inr ⟨hw.trans a1, a2⟩
theorem edgeM_bit {i : Nat} : ∀ {es : List Edge} {acc : List Nat}, Nat.testBit (edgeM es acc) i = true -> ∃ e ∈ es, Region.binds .any e = true /\ (i = e.on \/ Nat.testBit (acc.getD e.on 0) i = true)
 | [], acc, h => by simp [edgeM] at h
 | e :: es, acc, h => by
  simp only [edgeM] at h
  cases hb : Region.binds .any e with
  | false =>
   rw [hb] at h
   obtain ⟨e', h1, h2⟩ := edgeM_bit (es := es) h
   exact ⟨e', List.mem_cons_of_mem _ h1, h2⟩
  | true =>
   rw [hb] at h
   simp only [cond_true, Nat.testBit_or, Bool.or_eq_true] at h
   rcases h with (h | h) | h
   ·refine ⟨e, List.mem_cons_self, hb, .inl ?_⟩
    rw [Nat.testBit_two_pow] at h
    exact (of_decide_eq_true h).symm
   ·exact ⟨e, List.mem_cons_self, hb, .inr h⟩
   ·obtain ⟨e', h1, h2⟩ := edgeM_bit (es := es) h
    exact ⟨e', List.mem_cons_of_mem _ h1, h2⟩
theorem masks_get : ∀ (os : List Oper) (acc : List Nat), (masks os acc).take acc.length = acc /\ ∀ n o, os[n]? = some o -> (masks os acc).getD (acc.length + n) 0 = edgeM o.after.toList ((masks os acc).take (acc.length + n))
 | [], acc => ⟨by simp [masks], fun n o h => by cases h⟩
 | o :: os, acc => by
  obtain ⟨h1, h2⟩ := masks_get os (acc ++ [edgeM o.after.toList acc])
  simp only [masks]
  have e0 : (masks os (acc ++ [edgeM o.after.toList acc])).take acc.length = acc := by
   have := congrArg (List.take acc.length) h1
   rw [List.take_take] at this
   simpa using this
  refine ⟨e0, fun n p hp => ?_⟩
  cases n with
  | zero =>
   simp only [List.getElem?_cons_zero, Option.some.injEq] at hp
   subst hp
   rw [Nat.add_zero, e0]
   have hl := congrArg (fun l => l[acc.length]?) h1
   simp only [List.getElem?_take] at hl
   simp at hl
   rw [List.getD_eq_getElem?_getD, hl]; rfl
  | succ n =>
   have := h2 n p (by simpa using hp)
   simp only [List.length_append, List.length_cons, List.length_nil] at this
   rw [show acc.length + (n + 1) = acc.length + (0 + 1) + n by omega]
   exact this
theorem masks_closed {ops : List Oper} {L : Nat -> Bool} (hcl : ∀ i o, ops[i]? = some o -> L i = true -> ∀ e ∈ o.after.toList, Region.binds .any e = true -> L e.on = true) :
  ∀ (n j : Nat), j <= n -> ∀ o, ops[j]? = some o -> (∀ e ∈ o.after.toList, Region.binds .any e = true -> L e.on = true) -> ∀ i, Nat.testBit ((masks ops []).getD j 0) i = true -> L i = true
 | n, j, hj, o, ho, he, i, hb => by
  have hm := (masks_get ops []).2 j o ho
  simp only [List.length_nil, Nat.zero_add] at hm
  rw [hm] at hb
  obtain ⟨e, h1, h2, h3⟩ := edgeM_bit hb
  rcases h3 with h3 | h3
  ·rw [h3]; exact he e h1 h2
  ·have hlt : e.on < j := by
    rcases Nat.lt_or_ge e.on j with h | h
    ·exact h
    ·rw [List.getD_eq_getElem?_getD, List.getElem?_take, if_neg (by omega)] at h3
     simp at h3
   rw [List.getD_eq_getElem?_getD, List.getElem?_take, if_pos hlt, <- List.getD_eq_getElem?_getD] at h3
   cases n with
   | zero => omega
   | succ n =>
    have hon := he e h1 h2
    have hlo : e.on < ops.length := by have := (List.getElem?_eq_some_iff.1 ho).1; omega
    exact masks_closed hcl n e.on (by omega) ops[e.on] (List.getElem?_eq_getElem hlo) (hcl e.on _ (List.getElem?_eq_getElem hlo) hon) i h3
theorem calm_pair {bf : List Nat} : ∀ {rs : List Rec}, calm bf rs = true -> rs.Pairwise fun y x => Nat.testBit (bf.getD y.i 0) x.i = true \/ apart2 x y = true
 | [], _ => List.Pairwise.nil
 | y :: l, h => by
  simp only [calm, Bool.and_eq_true, List.all_eq_true, Bool.or_eq_true] at h
  exact List.Pairwise.cons (fun x hx => h.1 x hx) (calm_pair h.2)
theorem calm_get {bf : List Nat} {xs : List (Rec × Res)} (h : calm bf ((xs.map (·.1)).reverse) = true) {m n : Nat} {x y : Rec × Res} (hlt : m < n) (hx : xs[m]? = some x) (hy : xs[n]? = some y) : Nat.testBit (bf.getD y.1.i 0) x.1.i = true \/ apart2 x.1 y.1 = true := by
 have hp := List.pairwise_reverse.1 (calm_pair h)
 obtain ⟨m1, m2⟩ := List.getElem?_eq_some_iff.1 hx
 obtain ⟨n1, n2⟩ := List.getElem?_eq_some_iff.1 hy
 have := (List.pairwise_iff_getElem.1 hp) m n (by simpa using m1) (by simpa using n1) hlt
 simpa [m2, n2] using this
section
variable {C : Ctx} {T : List (TypeId × TRow)} {K : Cons}
def left (n : Nat) (listed : Array Bool) : Nat := ((List.range n).filter fun i => !listed.getD i false).length
theorem left_set {n j : Nat} {listed : Array Bool} (hj : j < n) (hl : listed.getD j true = false) : left n (listed.setIfInBounds j true) < left n listed := by
 have hsz : j < listed.size := by
  rcases Nat.lt_or_ge j listed.size with h | h
  ·exact h
  ·simp [Array.getElem?_eq_none h] at hl
 unfold left
 have hsub : ∀ i, (!(listed.setIfInBounds j true).getD i false) = true -> (!listed.getD i false) = true := by
  intro i hi
  by_cases e : i = j
  ·subst e; simp [hsz] at hi
  ·rw [getD_set_ne false (Ne.symm e)] at hi; exact hi
 have : ∀ l : List Nat, (l.filter fun i => !(listed.setIfInBounds j true).getD i false).length <= (l.filter fun i => !listed.getD i false).length /\ (j ∈ l -> (l.filter fun i => !(listed.setIfInBounds j true).getD i false).length < (l.filter fun i => !listed.getD i false).length) := by
  intro l
  induction l with
  | nil => exact ⟨Nat.le_refl _, fun h => by cases h⟩
  | cons a l ih =>
   rw [List.filter_cons, List.filter_cons]
   by_cases ha : a = j
   ·subst ha
    have h1 : (!(listed.setIfInBounds a true).getD a false) = false := by simp [hsz]
    have h2 : (!listed.getD a false) = true := by
     simp [hsz] at hl ⊢; exact hl
    rw [if_neg (by rw [h1]; exact Bool.false_ne_true), if_pos h2]
    refine ⟨by simp only [List.length_cons]; omega, fun _ => by simp only [List.length_cons]; omega⟩
   ·have h1 : (listed.setIfInBounds j true).getD a false = listed.getD a false := getD_set_ne false (Ne.symm ha)
    rw [h1]
    split
    ·refine ⟨by simp only [List.length_cons]; omega, fun h => ?_⟩
     rcases List.mem_cons.1 h with h | h
     ·exact absurd h.symm ha
     ·simp only [List.length_cons]; have := ih.2 h; omega
    ·refine ⟨ih.1, fun h => ?_⟩
     rcases List.mem_cons.1 h with h | h
     ·exact absurd h.symm ha
     ·exact ih.2 h
 exact (this (List.range n)).2 (List.mem_range.2 hj)
def okOps (n : Nat) : Nat -> List Oper -> Bool
 | _, [] => true
 | i, o :: os => dstOk n o.dst && o.after.toList.all (fun e => !Region.binds .any e || Nat.blt e.on i) && okOps n (i + 1) os
theorem okOps_get {n : Nat} : ∀ {i : Nat} {os : List Oper} {m : Nat} {o : Oper}, okOps n i os = true -> os[m]? = some o -> dstOk n o.dst = true /\ ∀ e ∈ o.after.toList, Region.binds .any e = true -> e.on < i + m
 | i, p :: os, 0, o, h, ho => by
  simp only [List.getElem?_cons_zero, Option.some.injEq] at ho
  subst ho
  simp only [okOps, Bool.and_eq_true, List.all_eq_true, Bool.or_eq_true, Bool.not_eq_true'] at h
  refine ⟨h.1.1, fun e he hb => ?_⟩
  rcases h.1.2 e he with h1 | h1
  ·rw [hb] at h1; cases h1
  ·rw [Nat.blt_eq] at h1; exact h1
 | i, p :: os, m + 1, o, h, ho => by
  simp only [okOps, Bool.and_eq_true] at h
  obtain ⟨h1, h2⟩ := okOps_get (i := i + 1) h.2 (by simpa using ho)
  exact ⟨h1, fun e he hb => by have := h2 e he hb; omega⟩
 | i, [], m, o, h, ho => by cases ho
theorem any_ok (hop : AllSound C T K) {all : Array Oper} {Q : Exit -> Act -> World -> Prop} {st0 : St} {xs : List (Rec × Res)} (hok : okOps C.n 0 all.toList = true) (hlen : xs.length = all.toList.length)
  (hfact : ∀ n x o, xs[n]? = some x -> all.toList[n]? = some o -> RecOK all.toList n o x /\ Fact T K all.toList (Sof (fun m => Nat.blt m n) 0 xs st0) o x)
  (hcalm : calm (masks all.toList []) ((xs.map (·.1)).reverse) = true)
  (hQ : ∀ D Sh act w, Rel C (Sof (fun _ => true) 0 xs st0) D Sh act w -> Q .normal act w) :
  ∀ (fuel : Nat) (listed : Array Bool) (D : Nat -> DRoot) (Sh : Nat -> Prop) (act : Act) (w : World), listed.size = all.size -> left all.size listed <= fuel ->
   (∀ i o, all.toList[i]? = some o -> listed.getD i false = true -> ∀ e ∈ o.after.toList, Region.binds .any e = true -> listed.getD e.on false = true) ->
   Rel C (Sof (fun i => listed.getD i false) 0 xs st0) D Sh act w -> wpAny C.P .any all Q fuel listed act w := by
 have hn : all.toList.length = all.size := Array.length_toList
 have hall : ∀ (listed : Array Bool), listed.size = all.size -> Region.ready .any all listed = [] -> ∀ i, i < all.size -> listed.getD i false = true := by
  intro listed hsz hr i
  induction i using Nat.strongRecOn with
  | _ i ih =>
   intro hi
   cases hl : listed.getD i false with
   | true => rfl
   | false =>
    exfalso
    have hoi : all[i]? = some all[i] := Array.getElem?_eq_getElem hi
    have hm : i ∈ Region.ready .any all listed := mem_ready.2 ⟨by simp [hsz, hi] at hl ⊢; exact hl, all[i], hoi, fun e he hb => by
     obtain ⟨_, h2⟩ := okOps_get hok (m := i) (o := all[i]) (by rw [Array.getElem?_toList]; exact hoi)
     have := h2 e (by simpa using he) hb
     exact ih e.on (by omega) (by omega)⟩
    rw [hr] at hm; cases hm
 have hend : ∀ (listed : Array Bool) (D : Nat -> DRoot) (Sh : Nat -> Prop) (act : Act) (w : World), listed.size = all.size -> Region.ready .any all listed = [] -> Rel C (Sof (fun i => listed.getD i false) 0 xs st0) D Sh act w -> Q .normal act w := by
  intro listed D Sh act w hsz hr hR
  refine hQ D Sh act w ?_
  rw [Sof_congr (L := fun _ => true) (L' := fun i => listed.getD i false) xs 0 st0 (fun n hlt => by
   rw [Nat.zero_add]
   exact (hall listed hsz hr n (by omega)).symm)]
  exact hR
 intro fuel
 induction fuel with
 | zero =>
  intro listed D Sh act w hsz hleft hcl hR
  have hr : Region.ready .any all listed = [] := by
   rw [List.eq_nil_iff_forall_not_mem]
   intro j hj
   obtain ⟨h1, o, h2, _⟩ := mem_ready.1 hj
   have := left_set (n := all.size) (Array.getElem?_eq_some_iff.1 h2).1 h1
   omega
  exact ⟨hr, hend listed D Sh act w hsz hr hR⟩
 | succ fuel ih =>
  intro listed D Sh act w hsz hleft hcl hR
  refine ⟨fun hr => hend listed D Sh act w hsz hr hR, fun j hj => ?_⟩
  obtain ⟨hun, o, hoj, hedge⟩ := mem_ready.1 hj
  have hjn : j < all.size := (Array.getElem?_eq_some_iff.1 hoj).1
  have hoj' : all.toList[j]? = some o := by rw [Array.getElem?_toList]; exact hoj
  have hxl : j < xs.length := by omega
  have hxj : xs[j]? = some xs[j] := List.getElem?_eq_getElem hxl
  generalize hxe : xs[j] = x at hxj
  obtain ⟨⟨r1, r2, r3, r4⟩, hF⟩ := hfact j x o hxj hoj'
  have hLj : listed.getD j false = false := by
   simp [hsz, hjn] at hun ⊢; exact hun
  have hedge' : ∀ e ∈ o.after.toList, Region.binds .any e = true -> listed.getD e.on false = true := fun e he hb => hedge e (by simpa using he) hb
  have hbelow : ∀ m y, m < j -> xs[m]? = some y -> listed.getD m false = false -> Apart y.1 x.1 := by
   intro m y hm hy hl
   rcases calm_get hcalm hm hy hxj with hb | hb
   ·exfalso
    have hom : all.toList[m]? = some all.toList[m] := List.getElem?_eq_getElem (by omega)
    have ry := (hfact m y _ hy hom).1
    rw [r1, ry.1] at hb
    have := masks_closed (L := fun i => listed.getD i false) hcl j j (Nat.le_refl _) o hoj' hedge' m hb
    rw [hl] at this; cases this
   ·exact apart_of hb
  have habove : ∀ m y, j < m -> xs[m]? = some y -> listed.getD m false = true -> Apart x.1 y.1 := by
   intro m y hm hy hl
   rcases calm_get hcalm hm hxj hy with hb | hb
   ·exfalso
    have hmn : m < all.toList.length := by have := (List.getElem?_eq_some_iff.1 hy).1; omega
    have hom : all.toList[m]? = some all.toList[m] := List.getElem?_eq_getElem hmn
    have ry := (hfact m y _ hy hom).1
    rw [r1, ry.1] at hb
    have := masks_closed (L := fun i => listed.getD i false) hcl m m (Nat.le_refl _) _ hom (hcl m _ hom hl) j hb
    rw [hLj] at this; cases this
   ·exact apart_of hb
  have hF2 : Fact T K all.toList (Sof (fun i => listed.getD i false) 0 xs st0) o x := by
   refine hF.of r3 (fun t ht => ?_) (fun id hid => ?_)
   ·refine Sof_tmp xs 0 st0 st0 (fun m y hy hd => ?_) rfl
    rw [Nat.zero_add]
    rcases Nat.lt_trichotomy m j with hm | hm | hm
    ·rw [show Nat.blt m j = true by rw [Nat.blt_eq]; exact hm]
     cases hl : listed.getD m false with
     | true => rfl
     | false => exact absurd ht ((hbelow m y hm hy hl).xr t hd)
    ·subst hm
     rw [hLj]
     cases hb : Nat.blt m m with
     | false => rfl
     | true => rw [Nat.blt_eq] at hb; omega
    ·rw [show Nat.blt m j = false by
      cases hb : Nat.blt m j with
      | false => rfl
      | true => rw [Nat.blt_eq] at hb; omega]
     cases hl : listed.getD m false with
     | false => rfl
     | true => exact absurd ht ((habove m y hm hy hl).yr t hd)
   ·refine Sof_root xs 0 st0 st0 (fun m y hy hd => ?_) rfl
    rw [Nat.zero_add]
    have hmn : m < all.toList.length := by have := (List.getElem?_eq_some_iff.1 hy).1; omega
    have ry := (hfact m y _ hy (List.getElem?_eq_getElem hmn)).1
    rcases Nat.lt_trichotomy m j with hm | hm | hm
    ·rw [show Nat.blt m j = true by rw [Nat.blt_eq]; exact hm]
     cases hl : listed.getD m false with
     | true => rfl
     | false => exact absurd hid ((hbelow m y hm hy hl).wa id (by rw [ry.2.2.2]; exact hd))
    ·subst hm
     rw [hLj]
     cases hb : Nat.blt m m with
     | false => rfl
     | true => rw [Nat.blt_eq] at hb; omega
    ·rw [show Nat.blt m j = false by
      cases hb : Nat.blt m j with
      | false => rfl
      | true => rw [Nat.blt_eq] at hb; omega]
     cases hl : listed.getD m false with
     | false => rfl
     | true => exact absurd (show id ∈ y.1.wr by rw [ry.2.2.2]; exact hd) ((habove m y hm hy hl).aw id hid)
  have hstep : Sof (fun i => (listed.setIfInBounds j true).getD i false) 0 xs st0 = (Sof (fun i => listed.getD i false) 0 xs st0).after o.dst x.2 := by
   rw [<- r2]
   refine Sof_add j xs 0 st0 hxj (by rw [Nat.zero_add]; exact hLj) ?_ (fun m hm => ?_) (fun m y hm hy hl => ?_)
   ·rw [Nat.zero_add]; simp [hsz, hjn]
   ·exact getD_set_ne false (fun e => hm (by omega))
   ·rw [Nat.zero_add] at hl
    have hmn : m < all.toList.length := by have := (List.getElem?_eq_some_iff.1 hy).1; omega
    have ry := (hfact m y _ hy (List.getElem?_eq_getElem hmn)).1
    have A := habove m y hm hy hl
    exact ⟨A.xy, fun k hk => by rw [<- ry.2.2.2]; exact A.ww k (by rw [r4]; exact hk)⟩
  have hdst := (okOps_get hok hoj').1
  have hnext : ∀ (D' : Nat -> DRoot) (Sh' : Nat -> Prop) (act' : Act) (w' : World), Rel C ((Sof (fun i => listed.getD i false) 0 xs st0).after o.dst x.2) D' Sh' act' w' -> wpAny C.P .any all Q fuel (listed.setIfInBounds j true) act' w' := by
   intro D' Sh' act' w' hR'
   refine ih _ D' Sh' act' w' (by simp [hsz]) ?_ (fun i oi hoi hli e he hb => ?_) (by rw [hstep]; exact hR')
   ·have := left_set (n := all.size) hjn hun
    omega
   ·by_cases hij : i = j
    ·subst hij
     rw [hoj'] at hoi; cases hoi
     exact getD_set_true (hedge' e he hb)
    ·rw [getD_set_ne false (Ne.symm hij)] at hli
     exact getD_set_true (hcl i oi hoi hli e he hb)
  unfold wpOp
  rw [hoj]
  simp only
  rcases hF2 with ⟨a1, a2, a3⟩ | ⟨a1, a2⟩
  ·rw [wanted_ok hR a1]
   simp only [if_true]
   exact .inl (hop.sound o _ x.2 hdst a2 D Sh act w _ Q hR hnext)
  ·rw [wanted_ok hR a1]
   simp only [Bool.false_eq_true, if_false]
   refine hnext D Sh _ w ?_
   rw [a2]
   exact hR.undef hdst
theorem region_ok {A : Type} (hop : AllSound C T K) (hm : C.P.follows .mixedOrders = true) {id : Nat} {all : Array Oper} {draw : Bool} {a : A} {Q : Exit -> Act -> World -> Prop} {st : St} {k : St -> Option A} (hok : okOps C.n 0 all.toList = true)
  (h : runOps T K all.toList 0 all.toList st [] (fun st' rs => bif !draw || calm (masks all.toList []) rs then k st' else none) = some a) (hk : ∀ st', k st' = some a -> ∀ D Sh act w, Rel C st' D Sh act w -> Q .normal act w) :
  ∀ D Sh act w, Rel C st D Sh act w -> (Code.region id all draw).wp C.P Q act w := by
 intro D Sh act w hR
 cases draw with
 | false =>
  refine wp_region ?_
  have := seq_ok hop all.toList 0 st [] _ rfl (List.all_eq_true.2 fun o ho => by
   obtain ⟨i, hi⟩ := List.mem_iff_getElem?.1 ho
   exact (okOps_get hok hi).1) h (Q := Q) (fun st' rs' h' => hk st' (by simpa using h')) D Sh act w hR
  rw [Array.length_toList] at this
  rw [List.range_eq_range']
  exact this
 | true =>
  obtain ⟨xs, e1, e2, e3⟩ := ran_of all.toList 0 st [] _ h
  simp only [Bool.not_true, Bool.false_or, List.append_nil] at e2
  cases hc : calm (masks all.toList []) (xs.map (·.1)).reverse with
  | false => rw [hc] at e2; cases e2
  | true =>
   rw [hc] at e2
   simp only [cond_true] at e2
   refine wp_region_any hm ?_
   refine any_ok hop hok e1 (st0 := st) (fun n x o hx ho => ?_) hc (fun D' Sh' act' w' hR' => hk _ e2 D' Sh' act' w' hR') all.size _ D Sh act _ (by simp) ?_ (fun i o hi hl => ?_) ?_
   ·have := e3 n x o hx ho
    rw [Nat.zero_add] at this
    exact this
   ·unfold left
    refine Nat.le_trans (List.length_filter_le _ _) ?_
    rw [List.length_range]; exact Nat.le_refl _
   ·exfalso
    simp [Array.getElem?_replicate] at hl
    split at hl <;> simp at hl
   ·rw [Sof_none _ _ _ _ (fun m _ => by simp [Array.getElem?_replicate]; split <;> rfl)]
    exact hR.drew
end
end Go.Proofs.YtipaepbmdooekaaGreat.Vm
namespace Go.Proofs.YtipaepbmdooekaaGreat.Vm
open Go Go.RowKit
set_option linter.unusedVariables false
namespace Ty
theorem shr_shr : ∀ t : Ty, t.shr.shr = t.shr
 | .int _ | .bool | .str | .hole | .nil => rfl
 | .sl _ e t => by simp only [shr, shr_shr t]
 | .cons a r => by simp only [shr, shr_shr a, shr_shr r]
end Ty
theorem lowB_shr : ∀ {t t' : Ty}, lowB t t' = true -> t.shr = t'.shr
 | .sl o e t, .sl o' e' t', h => by
  simp only [lowB, Bool.and_eq_true] at h
  obtain ⟨h1, h2⟩ := h
  have he := Nat.eq_of_beq_eq_true h1
  subst he
  cases o' with
  | true =>
   simp only [Bool.and_eq_true] at h2
   simp only [Ty.shr, lowB_shr h2.2]
  | false =>
   have h2 := of_decide_eq_true h2
   subst h2
   simp only [Ty.shr, Ty.shr_shr]
 | .cons a r, .cons a' r', h => by
  simp only [lowB, Bool.and_eq_true] at h
  simp only [Ty.shr, lowB_shr h.1, lowB_shr h.2]
 | .int _, t', h | .bool, t', h | .str, t', h | .hole, t', h | .nil, t', h => by
  have h : decide (_ = t') = true := h
  rw [<- of_decide_eq_true h]
 | .sl _ _ _, .int _, h | .sl _ _ _, .bool, h | .sl _ _ _, .str, h | .sl _ _ _, .hole, h | .sl _ _ _, .nil, h | .sl _ _ _, .cons _ _, h => by
  have h := of_decide_eq_true (show decide (_ = _) = true from h); cases h
 | .cons _ _, .int _, h | .cons _ _, .bool, h | .cons _ _, .str, h | .cons _ _, .hole, h | .cons _ _, .nil, h | .cons _ _, .sl _ _ _, h => by
  have h := of_decide_eq_true (show decide (_ = _) = true from h); cases h
theorem choose_list {α β : Type} {P : α -> β -> Prop} : ∀ (l : List α), (∀ a ∈ l, ∃ b, P a b) -> ∃ l' : List β, l'.length = l.length /\ ∀ (i : Nat) (a : α) (b : β), l[i]? = some a -> l'[i]? = some b -> P a b
 | [], _ => ⟨[], rfl, fun i a b h => by cases h⟩
 | x :: l, h => by
  obtain ⟨y, hy⟩ := h x (by simp)
  obtain ⟨l', h1, h2⟩ := choose_list l (fun a ha => h a (by simp [ha]))
  refine ⟨y :: l', by simp [h1], fun i a b ha hb => ?_⟩
  cases i with
  | zero => simp only [List.getElem?_cons_zero, Option.some.injEq] at ha hb; subst ha; subst hb; exact hy
  | succ i => exact h2 i a b (by simpa using ha) (by simpa using hb)
theorem foot_list {α β : Type} {f : α -> List Nat} {g : β -> List Nat} : ∀ (l : List α) (l' : List β), l'.length = l.length -> (∀ (i : Nat) (a : α) (b : β), l[i]? = some a -> l'[i]? = some b -> (∀ k ∈ g b, k ∈ f a) /\ (g b).Nodup) -> (l.flatMap f).Nodup ->
  (l'.flatMap g).Nodup /\ (∀ k ∈ l'.flatMap g, k ∈ l.flatMap f) /\ ∀ (i : Nat) (a : α) (b : β), l[i]? = some a -> l'[i]? = some b -> ∀ k ∈ f a, k ∉ g b -> k ∉ l'.flatMap g
 | [], [], _, _, _ => ⟨List.nodup_nil, (fun k h => by cases h), fun i a b h => by cases h⟩
 | [], y :: l', h, _, _ => by cases h
 | x :: l, [], h, _, _ => by cases h
 | x :: l, y :: l', hl, hp, hn => by
  have hn : (f x ++ l.flatMap f).Nodup := hn
  obtain ⟨n1, n2, n3⟩ := List.nodup_append.1 hn
  obtain ⟨h1, h2⟩ := hp 0 x y rfl rfl
  obtain ⟨i1, i2, i3⟩ := foot_list l l' (by simpa using hl) (fun i a b ha hb => hp (i + 1) a b (by simpa using ha) (by simpa using hb)) n2
  refine ⟨?_, fun k hk => ?_, fun i a b ha hb k hk hg => ?_⟩
  ·show (g y ++ l'.flatMap g).Nodup
   exact List.nodup_append.2 ⟨h2, i1, fun k hk m hm => n3 k (h1 k hk) m (i2 m hm)⟩
  ·have hk : k ∈ g y ++ l'.flatMap g := hk
   show k ∈ f x ++ l.flatMap f
   rcases List.mem_append.1 hk with hk | hk
   ·exact List.mem_append_left _ (h1 k hk)
   ·exact List.mem_append_right _ (i2 k hk)
  ·show k ∉ g y ++ l'.flatMap g
   cases i with
   | zero =>
    simp only [List.getElem?_cons_zero, Option.some.injEq] at ha hb
    subst ha; subst hb
    intro hm
    rcases List.mem_append.1 hm with hm | hm
    ·exact hg hm
    ·exact n3 k hk k (i2 k hm) rfl
   | succ i =>
    intro hm
    have ha : l[i]? = some a := by simpa using ha
    rcases List.mem_append.1 hm with hm | hm
    ·exact n3 k (h1 k hm) k (List.mem_flatMap.2 ⟨a, List.mem_of_getElem? ha, hk⟩) rfl
    ·exact i3 i a b ha (by simpa using hb) k hk hg hm
namespace Ty
def Lows (w : World) (Sh : Nat -> Prop) {t t' : Ty} (h : t.shr = t'.shr) (d : t.dec) (d' : t'.dec) : Prop :=
 t'.er d' = cast (den_same h) (t.er d) /\ t'.cs d' = t.cs d /\ (∀ b ∈ t'.foot d', b ∈ t.foot d) /\ (t'.foot d').Nodup /\
  ∀ Sh' : Nat -> Prop, (∀ b, Sh b -> Sh' b) -> (∀ b ∈ t.foot d, b ∉ t'.foot d' -> Sh' b) -> OK w Sh' t' d'
theorem lows_refl {w : World} {Sh : Nat -> Prop} {t : Ty} {d : t.dec} (h : OK w Sh t d) (hn : (t.foot d).Nodup) : Lows w Sh (rfl : t.shr = t.shr) d d :=
 ⟨rfl, rfl, fun _ hb => hb, hn, fun Sh' hs _ => OK_frame (fun _ _ => rfl) hs (fun _ _ => rfl) h⟩
theorem lower {w : World} {Sh : Nat -> Prop} : ∀ {t t' : Ty} (h : lowB t t' = true) {d : t.dec}, OK w Sh t d -> (t.foot d).Nodup -> ∃ d' : t'.dec, Lows w Sh (lowB_shr h) d d'
 | .sl o e t, .sl o' e' t', h, x, hok, hn => by
  have h0 := h
  simp only [lowB, Bool.and_eq_true] at h
  obtain ⟨h1, h2⟩ := h
  have he := Nat.eq_of_beq_eq_true h1
  subst he
  cases o' with
  | true =>
   simp only [Bool.and_eq_true] at h2
   obtain ⟨ho, h2⟩ := h2
   subst ho
   obtain ⟨⟨A, c⟩, ds⟩ := x
   have hs : t.shr = t'.shr := lowB_shr h2
   have hnf : ((A.map (·.block)).toList ++ ds.flatMap t.foot).Nodup := hn
   obtain ⟨n1, n2, n3⟩ := List.nodup_append.1 hnf
   have hel : ∀ d ∈ ds, ∃ d' : t'.dec, Lows w Sh hs d d' := by
    intro d hd
    have hnd : (t.foot d).Nodup := by
     obtain ⟨i, hi⟩ := List.mem_iff_getElem?.1 hd
     obtain ⟨M1, M2, m1, _⟩ := flatMap_set t.foot ds i hi
     exact nodup_mid (m1 ▸ n2)
    rcases hok with ⟨_, hnil⟩ | ⟨b, off, row, hA, hb, hl, hm, hr, hx⟩
    ·have hnil : ds = [] := hnil
     subst hnil; cases hd
    ·obtain ⟨i, hi⟩ := List.mem_iff_getElem?.1 hd
     exact lower h2 (hx i d hi).1 hnd
   obtain ⟨ds', l1, l2⟩ := choose_list ds hel
   obtain ⟨f1, f2, f3⟩ := foot_list (f := t.foot) (g := t'.foot) ds ds' l1 (fun i a b ha hb => ⟨(l2 i a b ha hb).2.2.1, (l2 i a b ha hb).2.2.2.1⟩) n2
   refine ⟨((A, c), ds'), ?_, ?_, fun b hb => ?_, ?_, fun Sh' hS hf => ?_⟩
   ·show ds'.map t'.er = cast _ (ds.map t.er)
    rw [cast_list (den_same hs), List.map_map]
    refine List.ext_getElem? fun i => ?_
    rw [List.getElem?_map, List.getElem?_map]
    cases ha : ds[i]? with
    | none =>
     have : ds'[i]? = none := by rw [List.getElem?_eq_none_iff] at ha ⊢; omega
     rw [this]; rfl
    | some a =>
     have hlt : i < ds'.length := by have := (List.getElem?_eq_some_iff.1 ha).1; omega
     have hb : ds'[i]? = some ds'[i] := List.getElem?_eq_getElem hlt
     rw [hb]
     simp only [Option.map_some, Function.comp]
     rw [(l2 i a _ ha hb).1]
   ·show [Value.slice A ds'.length c] = [Value.slice A ds.length c]
    rw [l1]
   ·have hb : b ∈ (A.map (·.block)).toList ++ ds'.flatMap t'.foot := hb
    show b ∈ (A.map (·.block)).toList ++ ds.flatMap t.foot
    rcases List.mem_append.1 hb with hb | hb
    ·exact List.mem_append_left _ hb
    ·exact List.mem_append_right _ (f2 b hb)
   ·show ((A.map (·.block)).toList ++ ds'.flatMap t'.foot).Nodup
    exact List.nodup_append.2 ⟨n1, f1, fun a ha b hb => n3 a ha b (f2 b hb)⟩
   ·have hf : ∀ b ∈ (A.map (·.block)).toList ++ ds.flatMap t.foot, b ∉ (A.map (·.block)).toList ++ ds'.flatMap t'.foot -> Sh' b := hf
    rcases hok with ⟨h1', hnil⟩ | ⟨b, off, row, hA, hb, hl, hm, hr, hx⟩
    ·have hnil : ds = [] := hnil
     subst hnil
     exact .inl ⟨h1', List.eq_nil_of_length_eq_zero l1⟩
    ·refine .inr ⟨b, off, row, hA, hb, by show ds'.length <= c; rw [l1]; exact hl, hm, by rw [<- sz_same hs]; exact hr, fun i d' hi => ?_⟩
     have hlt : i < ds.length := by have := (List.getElem?_eq_some_iff.1 hi).1; have : i < ds'.length := this; omega
     have ha : ds[i]? = some ds[i] := List.getElem?_eq_getElem hlt
     have L := l2 i _ d' ha hi
     refine ⟨L.2.2.2.2 Sh' hS (fun k hk hk' => hf k (List.mem_append_right _ (List.mem_flatMap.2 ⟨_, List.mem_of_getElem? ha, hk⟩)) (fun hm' => ?_)), ?_⟩
     ·rcases List.mem_append.1 hm' with hm' | hm'
      ·exact n3 k hm' k (List.mem_flatMap.2 ⟨_, List.mem_of_getElem? ha, hk⟩) rfl
      ·exact f3 i _ d' ha hi k hk hk' hm'
     ·rw [L.2.1, <- sz_same hs]; exact (hx i _ ha).2
  | false =>
   have h2 := of_decide_eq_true h2
   subst h2
   cases o with
   | false =>
    obtain ⟨⟨A, c⟩, ds⟩ := x
    refine ⟨((A, c), cast (congrArg List (den_shr t).symm) (ds : List t.den)), ?_, ?_, fun b hb => hb, List.nodup_nil, fun Sh' hS _ => ?_⟩
    ·rfl
    ·show [Value.slice A (cast (congrArg List (den_shr t).symm) (ds : List t.den)).length c] = [Value.slice A ds.length c]
     rw [cast_list (den_shr t).symm, List.length_map]
    ·have hok : RR w Sh (.sl false e t) ds [.slice A ds.length c] := hok
     have h3 := RR_same (t' := .sl false e t.shr) (lowB_shr h0) (RR_mono (fun _ _ => rfl) hS hok)
     show RR w Sh' (.sl false e t.shr) (cast (congrArg List (den_shr t).symm) (ds : List t.den)) [.slice A (cast (congrArg List (den_shr t).symm) (ds : List t.den)).length c]
     have hlen : (cast (congrArg List (den_shr t).symm) (ds : List t.den)).length = ds.length := by rw [cast_list (den_shr t).symm, List.length_map]
     rw [hlen]
     exact h3
   | true =>
    obtain ⟨⟨A, c⟩, ds⟩ := x
    refine ⟨((A, c), cast (congrArg List (den_shr t).symm) (ds.map t.er)), ?_, ?_, fun b hb => (by cases hb), List.nodup_nil, fun Sh' hS hf => ?_⟩
    ·rfl
    ·show [Value.slice A (cast (congrArg List (den_shr t).symm) (ds.map t.er)).length c] = [Value.slice A ds.length c]
     rw [cast_list (den_shr t).symm, List.length_map, List.length_map]
    ·have h2' := OK_RR (t := .sl true e t) (d := ((A, c), ds)) hS hok (fun b hb => hf b hb (fun hm => by cases hm))
     have h3 := RR_same (t' := .sl false e t.shr) (lowB_shr h0) h2'
     show RR w Sh' (.sl false e t.shr) (cast (congrArg List (den_shr t).symm) (ds.map t.er)) [.slice A (cast (congrArg List (den_shr t).symm) (ds.map t.er)).length c]
     have hlen : (cast (congrArg List (den_shr t).symm) (ds.map t.er)).length = ds.length := by rw [cast_list (den_shr t).symm, List.length_map, List.length_map]
     rw [hlen]
     exact h3
 | .cons a r, .cons a' r', h, x, hok, hn => by
  simp only [lowB, Bool.and_eq_true] at h
  have hnf : (a.foot x.1 ++ r.foot x.2).Nodup := hn
  obtain ⟨n1, n2, n3⟩ := List.nodup_append.1 hnf
  obtain ⟨d1, e1, c1, s1, m1, o1⟩ := lower h.1 hok.1 n1
  obtain ⟨d2, e2, c2, s2, m2, o2⟩ := lower h.2 hok.2 n2
  refine ⟨(d1, d2), ?_, ?_, fun b hb => ?_, ?_, fun Sh' hS hf => ⟨o1 Sh' hS (fun b hb hb' => ?_), o2 Sh' hS (fun b hb hb' => ?_)⟩⟩
  ·show (a'.er d1, r'.er d2) = cast _ (a.er x.1, r.er x.2)
   rw [cast_prod (den_same (lowB_shr h.1)) (den_same (lowB_shr h.2)), e1, e2]
  ·show a'.cs d1 ++ r'.cs d2 = a.cs x.1 ++ r.cs x.2
   rw [c1, c2]
  ·rcases List.mem_append.1 (show b ∈ a'.foot d1 ++ r'.foot d2 from hb) with hb | hb
   ·exact List.mem_append_left _ (s1 b hb)
   ·exact List.mem_append_right _ (s2 b hb)
  ·exact List.nodup_append.2 ⟨m1, m2, fun k hk m hm => n3 k (s1 k hk) m (s2 m hm)⟩
  ·refine hf b (List.mem_append_left _ hb) (fun hm => ?_)
   rcases List.mem_append.1 (show b ∈ a'.foot d1 ++ r'.foot d2 from hm) with hm | hm
   ·exact hb' hm
   ·exact n3 b hb b (s2 b hm) rfl
  ·refine hf b (List.mem_append_right _ hb) (fun hm => ?_)
   rcases List.mem_append.1 (show b ∈ a'.foot d1 ++ r'.foot d2 from hm) with hm | hm
   ·exact n3 b (s1 b hm) b hb rfl
   ·exact hb' hm
 | .int k, t', h, x, hok, hn => by
  have e : Ty.int k = t' := of_decide_eq_true h
  subst e; exact ⟨x, lows_refl hok hn⟩
 | .bool, t', h, x, hok, hn => by
  have e : Ty.bool = t' := of_decide_eq_true h
  subst e; exact ⟨x, lows_refl hok hn⟩
 | .str, t', h, x, hok, hn => by
  have e : Ty.str = t' := of_decide_eq_true h
  subst e; exact ⟨x, lows_refl hok hn⟩
 | .hole, t', h, x, hok, hn => by
  have e : Ty.hole = t' := of_decide_eq_true h
  subst e; exact ⟨x, lows_refl hok hn⟩
 | .nil, t', h, x, hok, hn => by
  have e : Ty.nil = t' := of_decide_eq_true h
  subst e; exact ⟨x, lows_refl hok hn⟩
 | .sl _ _ _, .int _, h, _, _, _ | .sl _ _ _, .bool, h, _, _, _ | .sl _ _ _, .str, h, _, _, _ | .sl _ _ _, .hole, h, _, _, _ | .sl _ _ _, .nil, h, _, _, _ | .sl _ _ _, .cons _ _, h, _, _, _ => by
  have h := of_decide_eq_true (show decide (_ = _) = true from h); cases h
 | .cons _ _, .int _, h, _, _, _ | .cons _ _, .bool, h, _, _, _ | .cons _ _, .str, h, _, _, _ | .cons _ _, .hole, h, _, _, _ | .cons _ _, .nil, h, _, _, _ | .cons _ _, .sl _ _ _, h, _, _, _ => by
  have h := of_decide_eq_true (show decide (_ = _) = true from h); cases h
end Ty
end Go.Proofs.YtipaepbmdooekaaGreat.Vm
namespace Go.Proofs.YtipaepbmdooekaaGreat.Vm
open Go Go.RowKit
set_option linter.unusedVariables false
section
variable {C : Ctx} {st : St} {D : Nat -> DRoot} {Sh Sh' : Nat -> Prop} {F : List DV} {a : Act} {w : World}
theorem RelF.perm {F' : List DV} (h : RelF C st D Sh F a w) (hp : F.Perm F') : RelF C st D Sh F' a w :=
 ⟨h.rel, fun v hv => h.fok v (hp.mem_iff.2 hv), (hp.flatMap_right DV.foot).nodup_iff.1 h.fnd, fun b hb => h.fdis b ((hp.flatMap_right DV.foot).mem_iff.2 hb)⟩
theorem RelF.swap (h : RelF C st D Sh F a w) {id : Nat} {r : Root} (hr : st.roots id = some r) {p : Path} {b : Base} {u n : DV} (hl : lookD (D id).dv (D id).base p = some (b, u)) {v' : V} (hp : putV r.v p n.er = some v') (hlk : like n.t u.t = true)
  (hcs : n.cs = u.cs) (hs : ∀ b, Sh b -> Sh' b) (hnok : n.OK w Sh') (hsh : ∀ b, Sh' b -> Sh b \/ (b ∈ u.foot /\ b ∉ n.foot)) (hsub : ∀ b ∈ n.foot, b ∈ u.foot) (hnn : n.foot.Nodup) :
  ∃ D', Keeps w w Sh Sh' st.roots (upt st.roots id (some (stored r p n.er u.er v'))) D D' /\ RelF C ⟨st.tmps, upt st.roots id (some (stored r p n.er u.er v'))⟩ D' Sh' F a w := by
 have R := h.rel.root id r hr
 have hp' := hp
 rw [<- R.er] at hp
 obtain ⟨dv', hd, hv⟩ := er_put hl hp
 obtain ⟨L1, L2, f1, f2⟩ := foot_put hl
 have f3 := f2 _ _ hd
 have hnd : ((D id).b.toList ++ (D id).dv.foot).Nodup := R.nd
 obtain ⟨n1, n2, n3⟩ := List.nodup_append.1 hnd
 have hlook := look_loc (w := w) (Sh := Sh) hl R.ok (fun k o hk => by obtain ⟨e1, rfl⟩ := base_some hk; exact R.loc k e1)
 obtain ⟨i1, i2⟩ := upd (w := w) (w' := w) (Sh := Sh) (Sh' := Sh') (fun _ _ => rfl) hs hl hd R.ok n2 (fun k o hk => by
   obtain ⟨e1, rfl⟩ := base_some hk
   exact ⟨R.loc k e1, fun hm => n3 k (by rw [e1]; exact List.mem_singleton.2 rfl) k hm rfl⟩) (like_sz hlk) hnok
  (fun _ _ _ _ => rfl) (fun _ _ _ _ => rfl) (fun k o hk => Turned.refl_of hcs (hlook.2 k o hk))
 let d' : DRoot := ⟨dv', (D id).b, (D id).c0⟩
 have hnu : (L1 ++ u.foot ++ L2).Nodup := f1 ▸ n2
 have hin : ∀ b, b ∈ dv'.foot -> b ∈ (D id).dv.foot := by
  intro b hb
  rw [f3] at hb; rw [f1]
  rcases List.mem_append.1 hb with hb | hb
  ·rcases List.mem_append.1 hb with hb | hb
   ·exact List.mem_append_left _ (List.mem_append_left _ hb)
   ·exact List.mem_append_left _ (List.mem_append_right _ (hsub b hb))
  ·exact List.mem_append_right _ hb
 have hfoot : ∀ b ∈ d'.foot, b ∈ (D id).foot := by
  intro b hb
  rcases List.mem_append.1 hb with hb | hb
  ·exact List.mem_append_left _ hb
  ·exact List.mem_append_right _ (hin b hb)
 have q := List.nodup_append.1 hnu
 have q1 := List.nodup_append.1 q.1
 have hnd' : d'.foot.Nodup := by
  refine List.nodup_append.2 ⟨n1, ?_, fun x hx y hy => n3 x hx y (hin y hy)⟩
  show dv'.foot.Nodup
  rw [f3]
  refine List.nodup_append.2 ⟨List.nodup_append.2 ⟨q1.1, hnn, fun x hx y hy => q1.2.2 x hx y (hsub y hy)⟩, q.2.1, fun x hx y hy => ?_⟩
  rcases List.mem_append.1 hx with hx | hx
  ·exact q.2.2 x (List.mem_append_left _ hx) y hy
  ·exact q.2.2 x (List.mem_append_right _ (hsub x hx)) y hy
 have hu_id : ∀ b ∈ u.foot, b ∈ (D id).foot := fun b hb => mem_dv (by rw [f1]; exact List.mem_append_left _ (List.mem_append_right _ hb))
 have hu_new : ∀ b ∈ u.foot, b ∉ n.foot -> b ∉ d'.foot := by
  intro b hb hbn hb'
  rcases List.mem_append.1 hb' with hb' | hb'
  ·exact n3 b hb' b (by rw [f1]; exact List.mem_append_left _ (List.mem_append_right _ hb)) rfl
  ·have hb' : b ∈ dv'.foot := hb'
   rw [f3] at hb'
   rcases List.mem_append.1 hb' with hb' | hb'
   ·rcases List.mem_append.1 hb' with hb' | hb'
    ·exact q1.2.2 b hb' b hb rfl
    ·exact hbn hb'
   ·exact q.2.2 b (List.mem_append_right _ hb) b hb' rfl
 have hold : ∀ b, Sh' b -> ¬ Sh b -> b ∈ (D id).foot /\ b ∉ d'.foot := by
  intro b hb hb'
  rcases hsh b hb with h1 | ⟨h1, h2⟩
  ·exact absurd h1 hb'
  ·exact ⟨hu_id b h1, hu_new b h1 h2⟩
 have K : Keeps w w Sh Sh' st.roots (upt st.roots id (some (stored r p n.er u.er v'))) D (upt D id d') :=
  Keeps.store (q := p) (uq := u) (n := n) d' (fun _ _ => rfl) hs hr hl hd hlk rfl rfl rfl
 refine ⟨upt D id d', K, ⟨⟨h.rel.os, h.rel.tape, h.rel.output, h.rel.hsz, h.rel.block, fun b hb => hs b (h.rel.sh0 b hb), fun b hb => ?_, ?_, ?_, ?_, fun t => K.avr (h.rel.tmp t), h.rel.size, h.rel.defers⟩, ?_, h.fnd, ?_⟩⟩
 ·rcases hsh b hb with h1 | ⟨h1, _⟩
  ·exact h.rel.shn b h1
  ·obtain ⟨g1, g2, g3⟩ := h.rel.fresh id r hr b (hu_id b h1)
   exact ⟨g3.elim (fun h => .inr (.inl h)) (fun h => .inr (.inr h)), g2⟩
 ·intro i ri hi0
  have hi : upt st.roots id (some (stored r p n.er u.er v')) i = some ri := hi0
  clear hi0
  by_cases e : i = id
  ·subst e
   rw [upt_same] at hi; cases hi
   rw [upt_same]
   refine ⟨hv, i1, R.blk, fun k hk => ?_, hnd', fun hss => ?_, R.org, R.pin⟩
   ·obtain ⟨row, el, hrow, hc⟩ := R.loc k hk
    obtain ⟨row', hr', _, _, hin'⟩ := i2 k 0 (base_of hk) row el hrow
    exact ⟨row', el, hr', hin'⟩
   ·have hss : since ([(depth p, !(n.er.t.flat && u.er.t.flat))] ++ r.log) 0 1 false = true := hss
    rw [since_append (Nat.zero_le _), Bool.and_eq_true] at hss
    rcases bad1 hss.1 with hb | hb
    ·simp at hb
    ·have hk := (keep_put n p _ _ _ _ _ hl hd hlk [] none none _ rfl).2 (.inr (by show 0 < depth p; have hb : 1 <= depth p := hb; omega))
     obtain ⟨u', h1, _, h3⟩ := hk
     cases h1
     exact h3.trans (R.top hss.2)
  ·rw [upt_ne _ _ e] at hi ⊢
   have R' := h.rel.root i ri hi
   exact ⟨R'.er, Ty.OK_frame (fun _ _ => rfl) hs (fun _ _ => rfl) R'.ok, R'.blk, R'.loc, R'.nd, R'.top, R'.org, R'.pin⟩
 ·intro i j ri rj hij hi0 hj0 b hb
  have hi : upt st.roots id (some (stored r p n.er u.er v')) i = some ri := hi0
  have hj : upt st.roots id (some (stored r p n.er u.er v')) j = some rj := hj0
  clear hi0 hj0
  by_cases ei : i = id
  ·subst ei
   rw [upt_same] at hb
   rw [upt_ne _ _ (Ne.symm hij)] at hj ⊢
   exact h.rel.dis i j r rj hij hr hj b (hfoot b hb)
  ·rw [upt_ne _ _ ei] at hi hb
   by_cases ej : j = id
   ·subst ej
    rw [upt_same]
    exact fun hb' => h.rel.dis i j ri r hij hi hr b hb (hfoot b hb')
   ·rw [upt_ne _ _ ej] at hj ⊢
    exact h.rel.dis i j ri rj hij hi hj b hb
 ·intro i ri hi0 b hb
  have hi : upt st.roots id (some (stored r p n.er u.er v')) i = some ri := hi0
  clear hi0
  have hns : ∀ rr, st.roots i = some rr -> b ∈ (D i).foot -> (i = id -> b ∈ d'.foot) -> ¬ Sh' b := by
   intro rr hrr hb1 hb2 hsb
   by_cases hso : Sh b
   ·exact (h.rel.fresh i rr hrr b hb1).1 hso
   ·obtain ⟨g1, g2⟩ := hold b hsb hso
    by_cases ei : i = id
    ·exact g2 (hb2 ei)
    ·exact h.rel.dis i id rr r ei hrr hr b hb1 g1
  by_cases ei : i = id
  ·subst ei
   rw [upt_same] at hb
   obtain ⟨g1, g2⟩ := h.rel.fresh i r hr b (hfoot b hb)
   exact ⟨hns r hr (hfoot b hb) (fun _ => hb), g2⟩
  ·rw [upt_ne _ _ ei] at hi hb
   obtain ⟨g1, g2⟩ := h.rel.fresh i ri hi b hb
   exact ⟨hns ri hi hb (fun e => absurd e ei), g2⟩
 ·exact fun v hv => Ty.OK_frame (fun _ _ => rfl) hs (fun _ _ => rfl) (h.fok v hv)
 ·intro b hb
  obtain ⟨g1, g2, g3⟩ := h.fdis b hb
  refine ⟨fun i ri hi0 => ?_, fun hsb => ?_, g3⟩
  ·have hi : upt st.roots id (some (stored r p n.er u.er v')) i = some ri := hi0
   clear hi0
   by_cases ei : i = id
   ·subst ei; rw [upt_same]; exact fun hm => g1 i r hr (hfoot b hm)
   ·rw [upt_ne _ _ ei] at hi ⊢
    exact g1 i ri hi
  ·by_cases hso : Sh b
   ·exact g2 hso
   ·exact g1 id r hr (hold b hsb hso).1
theorem RelF.low {u : DV} (h : RelF C st D Sh (u :: F) a w) {t' : Ty} (hl : lowB u.t t' = true) : ∃ (Sh' : Nat -> Prop) (d' : t'.dec), t'.er d' = cast (Ty.den_same (lowB_shr hl)) u.er.x /\ t'.cs d' = u.cs /\ (∀ b, Sh b -> Sh' b) /\ Keeps w w Sh Sh' st.roots st.roots D D /\ RelF C st D Sh' (⟨t', d'⟩ :: F) a w := by
 have hnu : (u.foot ++ F.flatMap DV.foot).Nodup := h.fnd
 obtain ⟨n1, n2, n3⟩ := List.nodup_append.1 hnu
 obtain ⟨d', e1, e2, e3, e4, e5⟩ := Ty.lower hl (h.fok u (by simp)) n1
 let Sh' : Nat -> Prop := fun b => Sh b \/ (b ∈ u.foot /\ b ∉ t'.foot d')
 have hs : ∀ b, Sh b -> Sh' b := fun b hb => .inl hb
 have huF : ∀ b ∈ u.foot, b ∈ (u :: F).flatMap DV.foot := fun b hb => List.mem_append_left _ hb
 have hFF : ∀ b ∈ F.flatMap DV.foot, b ∈ (u :: F).flatMap DV.foot := fun b hb => List.mem_append_right _ hb
 have K : Keeps w w Sh Sh' st.roots st.roots D D := ⟨fun _ _ => rfl, hs, fun id r hr => ⟨r, [], hr, rfl, fun p t _ _ b u hl ht => ⟨b, u, hl, ht, rfl⟩, fun p _ k o u hl => ⟨u, hl⟩⟩⟩
 refine ⟨Sh', d', e1, e2, hs, K, ⟨⟨h.rel.os, h.rel.tape, h.rel.output, h.rel.hsz, h.rel.block, fun b hb => .inl (h.rel.sh0 b hb), ?_, ?_, h.rel.dis, ?_, fun t => K.avr (h.rel.tmp t), h.rel.size, h.rel.defers⟩, ?_, ?_, ?_⟩⟩
 ·intro b hb
  rcases hb with hb | ⟨hb, _⟩
  ·exact h.rel.shn b hb
  ·obtain ⟨_, _, g3, g4⟩ := h.fdis b (huF b hb)
   exact ⟨g4.elim (fun h => .inr (.inl h)) (fun h => .inr (.inr h)), g3⟩
 ·intro id r hr
  have R := h.rel.root id r hr
  exact ⟨R.er, Ty.OK_frame (fun _ _ => rfl) hs (fun _ _ => rfl) R.ok, R.blk, R.loc, R.nd, R.top, R.org, R.pin⟩
 ·intro id r hr b hb
  obtain ⟨f1, f2⟩ := h.rel.fresh id r hr b hb
  refine ⟨fun hs => ?_, f2⟩
  rcases hs with hs | ⟨hs, _⟩
  ·exact f1 hs
  ·exact (h.fdis b (huF b hs)).1 id r hr hb
 ·intro v hv
  rcases List.mem_cons.1 hv with rfl | hv
  ·exact e5 Sh' hs (fun b hb hb' => .inr ⟨hb, hb'⟩)
  ·exact Ty.OK_frame (fun _ _ => rfl) hs (fun _ _ => rfl) (h.fok v (List.mem_cons_of_mem _ hv))
 ·show (t'.foot d' ++ F.flatMap DV.foot).Nodup
  exact List.nodup_append.2 ⟨e4, n2, fun x hx y hy => n3 x (e3 x hx) y hy⟩
 ·intro b hb
  rcases List.mem_append.1 (show b ∈ t'.foot d' ++ F.flatMap DV.foot from hb) with hb | hb
  ·obtain ⟨g1, g2, g3⟩ := h.fdis b (huF b (e3 b hb))
   refine ⟨g1, fun hs => ?_, g3⟩
   rcases hs with hs | ⟨_, hs⟩
   ·exact g2 hs
   ·exact hs hb
  ·obtain ⟨g1, g2, g3⟩ := h.fdis b (hFF b hb)
   refine ⟨g1, fun hs => ?_, g3⟩
   rcases hs with hs | ⟨hs, _⟩
   ·exact g2 hs
   ·exact n3 b hs b hb rfl
end
theorem asT_some {v : V} {t : Ty} {y : t.den} (h : asT v t = some y) : ∃ e : v.t.shr = t.shr, y = cast (Ty.den_same e) v.x := by
 unfold asT at h
 split at h
 ·rename_i e; cases h; exact ⟨e, rfl⟩
 ·cases h
theorem toT_some {v : V} {t : Ty} {y : t.den} (h : toT v t = some y) : ∃ hl : lowB v.t t = true, y = cast (Ty.den_same (lowB_shr hl)) v.x := by
 unfold toT at h
 by_cases hb : lowB v.t t = true
 ·rw [hb] at h
  obtain ⟨e, rfl⟩ := asT_some h
  exact ⟨hb, rfl⟩
 ·rw [Bool.not_eq_true] at hb
  rw [hb] at h; cases h
theorem RR_cut {w : World} {Sh : Nat -> Prop} {o : Bool} {e : TypeId} {t : Ty} {xs : List t.den} {A : Option Addr} {c : Nat} (h : Ty.RR w Sh (.sl o e t) xs [.slice A xs.length c]) {lo n : Nat} (hl : lo + n <= xs.length) {A' : Option Addr}
  (hA : n = 0 \/ ∃ k o, A = some ⟨k, o, none⟩ /\ A' = some ⟨k, o + lo * t.sz, none⟩) : Ty.RR w Sh (.sl o e t) ((xs.drop lo).take n) [.slice A' n (c - lo)] := by
 obtain ⟨A0, c0, hc, h1, h2, h3⟩ := h
 simp only [List.cons.injEq, Value.slice.injEq, and_true] at hc
 obtain ⟨rfl, _, rfl⟩ := hc
 have hlen : ((xs.drop lo).take n).length = n := by rw [List.length_take, List.length_drop]; omega
 refine ⟨A', c - lo, by rw [hlen], by rw [hlen]; omega, by omega, fun i x hx => ?_⟩
 rw [List.getElem?_take] at hx
 split at hx
 case isFalse => cases hx
 rename_i hi
 rw [List.getElem?_drop] at hx
 obtain ⟨b, off, rfl, hb, cc, hR, hcell⟩ := h3 (lo + i) x hx
 rcases hA with hA | ⟨k, o', hA, rfl⟩
 ·omega
 ·cases hA
  refine ⟨b, off + lo * t.sz, rfl, hb, cc, hR, fun j v hv => ?_⟩
  rw [show off + lo * t.sz + i * t.sz + j = off + (lo + i) * t.sz + j by rw [Nat.add_mul]; omega]
  exact hcell j v hv
section
variable {C : Ctx} {T : Nat -> AV} {R : Nat -> Option Root} {D : Nat -> DRoot} {Sh : Nat -> Prop} {F : List DV} {a : Act} {w : World}
theorem cut_look {id : Nat} {p : Path} {s : Nat} {t : Ty} {lo n : Nat} {v : Value} {r : Root} (h : AVR w Sh R D (.cut id p s t lo n) v) (hr : R id = some r) (hs : since r.log s (depth p + 1) true = true) :
  ∃ b e te A c ds A', t = .sl true e te /\ lookD (D id).dv (D id).base p = some (b, ⟨.sl true e te, ((A, c), ds)⟩) /\ lo + n <= ds.length /\ v = .slice A' n (c - lo) /\ (n = 0 \/ ∃ k o, A = some ⟨k, o, none⟩ /\ A' = some ⟨k, o + lo * te.sz, none⟩) := by
 obtain ⟨cs, ⟨r', hr', _, hcut⟩, hv⟩ := h
 rw [hr] at hr'; cases hr'
 obtain ⟨b, e, te, A, c, ds, htt, hl, hlm, A', rfl, hA⟩ := hcut hs
 exact ⟨b, e, te, A, c, ds, A', htt, hl, hlm, hv, hA.1⟩
theorem okR_spec {r : Root} {s m : Nat} {ho : Bool} (h : okR r s m ho = true) : s <= r.log.length /\ since r.log s m ho = true := by
 unfold okR at h
 rw [Bool.and_eq_true] at h
 exact ⟨by simpa [Nat.ble_eq] using h.1, h.2⟩
theorem takeQ_ok {x : AV} {ty : Ty} {ws ws' : Writes} {u : V} (h : (takeQ ty x ws).go R = some (u, ws')) (hF : RelF C ⟨T, app ws R⟩ D Sh F a w) {v : Value} (hv : AVR w Sh (app ws R) D x v) :
  ∃ D' Sh' z, DV.er z = u /\ v = mkw u.t.agg z.cs /\ like u.t ty = true /\ (∀ b, Sh b -> Sh' b) /\ Keeps w w Sh Sh' (app ws R) (app ws' R) D D' /\ RelF C ⟨T, app ws' R⟩ D' Sh' (z :: F) a w := by
 have std : ∀ (h : (takeP ty x ws).go R = some (u, ws')), ∃ D' Sh' z, DV.er z = u /\ v = mkw u.t.agg z.cs /\ like u.t ty = true /\ (∀ b, Sh b -> Sh' b) /\ Keeps w w Sh Sh' (app ws R) (app ws' R) D D' /\ RelF C ⟨T, app ws' R⟩ D' Sh' (z :: F) a w := by
  intro h
  have hk := takeP_take h
  have hs : AVS w Sh (app ws R) D x v := avs_of_avr hv (fun e => by subst e; simp only [takeP] at h; cases h) (fun c e => by subst e; simp only [takeP] at h; cases h)
  obtain ⟨cs, hc, rfl⟩ := hs
  obtain ⟨D', z, hz, hcs, hl, hg, K, F'⟩ := take_ok hk hF hc
  exact ⟨D', Sh, z, hz, by rw [hcs, hg], hl, fun _ h => h, K, F'⟩
 cases x with
 | cut id p s t lo n =>
  simp only [takeQ, getR_go] at h
  cases hr : app ws R id with
  | none => rw [hr] at h; cases h
  | some r =>
   rw [hr] at h
   simp only at h
   cases hok : okR r s (depth p + 1) true with
   | false => rw [hok] at h; cases h
   | true =>
    rw [hok] at h
    simp only [cond_true] at h
    obtain ⟨b, e, te, A, c, ds, A', htt, hl, hlm, hvv, hA⟩ := cut_look hv hr (okR_spec hok).2
    have hg := er_look hl
    have her : (D id).dv.er = r.v := (hF.rel.root id r hr).er
    rw [her] at hg
    rw [hg] at h
    have hshow : DV.er ⟨.sl true e te, ((A, c), ds)⟩ = ⟨.sl true e te, ds.map te.er⟩ := rfl
    rw [hshow] at h hg
    simp only at h
    cases has : asT ⟨.sl true e te, ds.map te.er⟩ (.sl false e te.shr) with
    | none => rw [has] at h; cases h
    | some ys =>
     rw [has] at h
     simp only [Prog.go] at h
     cases hlk : like (.sl true e te) ty with
     | false => rw [hlk] at h; cases h
     | true =>
      rw [hlk] at h
      simp only [cond_true] at h
      cases hp : putV r.v p ⟨.sl false e te.shr, ys⟩ with
      | none => rw [hp] at h; cases h
      | some v' =>
       rw [hp] at h; cases h
       have hlow : lowB (.sl true e te) (.sl false e te.shr) = true := by simp [lowB]
       have hR := hF.rel.root id r hr
       have huok := (look_loc (w := w) (Sh := Sh) hl hR.ok (fun k o hk => by obtain ⟨e1, rfl⟩ := base_some hk; exact hR.loc k e1)).1
       obtain ⟨L1, L2, f1, _⟩ := foot_put hl
       have hun : DV.foot ⟨.sl true e te, ((A, c), ds)⟩ |>.Nodup := nodup_mid (f1 ▸ (List.nodup_append.1 hR.nd).2.1)
       obtain ⟨d', e1, e2, e3, e4, e5⟩ := Ty.lower hlow huok hun
       obtain ⟨_, hys⟩ := asT_some has
       have hys' : (Ty.sl false e te.shr).er d' = ys := by rw [e1, hys]; rfl
       let Sh' : Nat -> Prop := fun b => Sh b \/ (b ∈ DV.foot ⟨.sl true e te, ((A, c), ds)⟩ /\ b ∉ (Ty.sl false e te.shr).foot d')
       have hs : ∀ b, Sh b -> Sh' b := fun b hb => .inl hb
       have hnok : DV.OK w Sh' ⟨.sl false e te.shr, d'⟩ := e5 Sh' hs (fun b hb hb' => .inr ⟨hb, hb'⟩)
       have her2 : DV.er ⟨.sl false e te.shr, d'⟩ = ⟨.sl false e te.shr, ys⟩ := congrArg (V.mk _) hys'
       obtain ⟨D', K, F'⟩ := hF.swap (n := ⟨.sl false e te.shr, d'⟩) hr hl (v' := v') (by rw [her2]; exact hp) rfl e2 hs hnok (fun b hb => hb) e3 e4
       rw [her2, hshow] at K F'
       have hcs : [Value.slice d'.1.1 d'.2.length d'.1.2] = [Value.slice A ds.length c] := e2
       simp only [List.cons.injEq, Value.slice.injEq, and_true] at hcs
       have hyl : List.length ys = ds.length := by
        rw [<- hys']; exact hcs.2.1
       have hRR : Ty.RR w Sh' (.sl false e te.shr) ys [.slice A (List.length ys) c] := by
        have h0 : Ty.RR w Sh' (.sl false e te.shr) d'.2 [.slice d'.1.1 d'.2.length d'.1.2] := hnok
        have h9 : d'.2 = ys := hys'
        rw [h9, hcs.1, hcs.2.2] at h0
        exact h0
       have hcut := RR_cut hRR (lo := lo) (n := n) (by rw [hyl]; exact hlm) (A' := A') (by rw [Ty.sz_shr]; exact hA)
       have hlen : (List.take n (List.drop lo ys)).length = n := by rw [List.length_take, List.length_drop, hyl]; omega
       refine ⟨D', Sh', ⟨.sl false e te.shr, ((A', c - lo), List.take n (List.drop lo ys))⟩, rfl, ?_, ?_, hs, K, F'.free (v := ⟨.sl false e te.shr, ((A', c - lo), List.take n (List.drop lo ys))⟩) ?_ rfl⟩
       ·show v = Value.slice A' (List.take n (List.drop lo ys)).length (c - lo)
        rw [hlen]; exact hvv
       ·cases ty <;> first | rfl | cases hlk
       ·show Ty.RR w Sh' (.sl false e te.shr) (List.take n (List.drop lo ys)) [.slice A' (List.take n (List.drop lo ys)).length (c - lo)]
        rw [hlen]; exact hcut
 | _ => exact std h
theorem takeTo_ok {x : AV} {t : Ty} {ws ws' : Writes} {y : t.den} (h : (takeTo t x ws).go R = some (y, ws')) (hF : RelF C ⟨T, app ws R⟩ D Sh F a w) {v : Value} (hv : AVR w Sh (app ws R) D x v) :
  ∃ (D' : Nat -> DRoot) (Sh' : Nat -> Prop) (d : t.dec), t.er d = y /\ v = mkw t.agg (t.cs d) /\ (∀ b, Sh b -> Sh' b) /\ Keeps w w Sh Sh' (app ws R) (app ws' R) D D' /\ RelF C ⟨T, app ws' R⟩ D' Sh' (⟨t, d⟩ :: F) a w := by
 have std : ∀ (h : ((takeQ t x ws).bind fun q => .use (toT q.1 t) fun y => .ret (y, q.2)).go R = some (y, ws')), ∃ (D' : Nat -> DRoot) (Sh' : Nat -> Prop) (d : t.dec), t.er d = y /\ v = mkw t.agg (t.cs d) /\ (∀ b, Sh b -> Sh' b) /\ Keeps w w Sh Sh' (app ws R) (app ws' R) D D' /\ RelF C ⟨T, app ws' R⟩ D' Sh' (⟨t, d⟩ :: F) a w := by
  intro h
  rw [Prog.go_bind] at h
  cases hq : (takeQ t x ws).go R with
  | none => rw [hq] at h; cases h
  | some q =>
   obtain ⟨u, ws1⟩ := q
   rw [hq] at h
   simp only at h
   cases ht : toT u t with
   | none => rw [ht] at h; cases h
   | some y' =>
    rw [ht] at h; cases h
    obtain ⟨D1, Sh1, z, hz, hvv, _, hs1, K1, F1⟩ := takeQ_ok hq hF hv
    subst hz
    obtain ⟨hl, hy⟩ := toT_some ht
    obtain ⟨Sh2, d', e1, e2, hs2, K2, F2⟩ := F1.low (t' := t) hl
    refine ⟨D1, Sh2, d', e1.trans hy.symm, ?_, fun b hb => hs2 b (hs1 b hb), K1.trans K2, F2⟩
    rw [hvv, e2]
    have : z.er.t.agg = t.agg := Ty.agg_same (lowB_shr hl)
    rw [this]
 unfold takeTo at h
 split at h
 ·rename_i o e te
  cases h
  cases hv with
  | intro cs hv =>
   obtain ⟨hc, hv⟩ := hv
   cases hc
   cases o with
   | true => exact ⟨D, Sh, ((none, 0), []), rfl, hv, fun _ h => h, Keeps.grow (fun _ _ => rfl), hF.free (.inl ⟨rfl, rfl⟩) rfl⟩
   | false =>
    refine ⟨D, Sh, ((none, 0), []), rfl, hv, fun _ h => h, Keeps.grow (fun _ _ => rfl), hF.free (v := ⟨.sl false e te, ((none, 0), [])⟩) ?_ rfl⟩
    exact ⟨none, 0, rfl, Nat.le_refl _, Nat.zero_le _, fun i x hx => by cases hx⟩
 ·exact std h
end
end Go.Proofs.YtipaepbmdooekaaGreat.Vm
namespace Go.Proofs.YtipaepbmdooekaaGreat.Vm
open Go Go.RowKit
set_option linter.unusedVariables false
theorem since_zero (log : List (Nat × Bool)) (s : Nat) (ho : Bool) : since log s 0 ho = true := by
 have : ∀ x : Nat, Nat.blt x 0 = false := fun x => by
  cases hb : Nat.blt x 0 with
  | false => rfl
  | true => rw [Nat.blt_eq] at hb; omega
 simp [since, bad, this]
theorem clean_since {log : List (Nat × Bool)} (h : since (clean log) 0 1 false = true) : since log 0 1 false = true := by
 unfold clean at h
 cases hs : since log 0 1 false with
 | true => rfl
 | false => rw [hs] at h; cases h
theorem eqO_spec : ∀ {a b : Option Nat}, eqO a b = true -> a = b
 | none, none, _ => rfl
 | some a, some b, h => by rw [Nat.eq_of_beq_eq_true h]
 | none, some _, h => by cases h
 | some _, none, h => by cases h
theorem eqBool_spec : ∀ {a b : Bool}, eqBool a b = true -> a = b
 | true, true, _ => rfl
 | false, false, _ => rfl
 | true, false, h => by cases h
 | false, true, h => by cases h
theorem nodupN_cons {x : Nat} {l : List Nat} (h : nodupN (x :: l) = true) : x ∉ l /\ nodupN l = true := by
 simp only [nodupN, Bool.and_eq_true, Bool.not_eq_true', List.any_eq_false] at h
 refine ⟨fun hm => ?_, h.2⟩
 have := h.1 x hm
 simp at this
theorem avr_pat {w w' : World} {Sh : Nat -> Prop} {R R' : Nat -> Option Root} {D D' : Nat -> DRoot} : ∀ {p : Pat} {x : p.den} {cs : List Value}, AVC w Sh R D (p.av x) cs -> AVC w Sh R' D' (p.av x) cs
 | .val t, x, cs, h => h
 | .sptr t, x, cs, h => h
 | .fn f c, x, cs, h => by
  obtain ⟨cc, h1, h2⟩ := h
  exact ⟨cc, h1, avr_pat (w' := w) h2⟩
 | .nil, x, cs, h => h
 | .cons a r, x, cs, h => by
  obtain ⟨c0, c1, h0, h1, h2⟩ := h
  exact ⟨c0, c1, h0, avr_pat (w' := w) h1, avr_pat (w' := w) h2⟩
theorem pat_avs {w : World} {Sh : Nat -> Prop} {R : Nat -> Option Root} {D : Nat -> DRoot} {p : Pat} {x : p.den} {v : Value} : AVR w Sh R D (p.av x) v ↔ AVS w Sh R D (p.av x) v := by
 cases p <;> exact Iff.rfl
section
variable {C : Ctx} {T : Nat -> AV} {R : Nat -> Option Root} {D : Nat -> DRoot} {Sh : Nat -> Prop} {F : List DV} {a : Act} {w : World}
theorem canonV_ok : ∀ {x : AV} {t : Ty} {v : V} {cs : List Value}, canonV t x = some v -> AVC w Sh R D x cs -> Ty.RR w Sh v.t v.x cs
 | .sh t' y, t, v, cs, h, hc => by simp only [canonV] at h; cases h; exact hc
 | .nilsl, t, v, cs, h, hc => by
  cases t <;> simp only [canonV] at h <;> try (cases h; done)
  cases h; cases hc
  exact ⟨none, 0, rfl, Nat.le_refl _, Nat.zero_le _, fun i x hx => by cases hx⟩
 | .nilf, t, v, cs, h, hc => by
  cases t <;> simp only [canonV] at h <;> try (cases h; done)
  cases h; exact hc
 | .consf x y, t, v, cs, h, hc => by
  cases t <;> simp only [canonV] at h <;> try (cases h; done)
  split at h
  ·rename_i u z h1 h2
   cases h
   obtain ⟨c0, c1, rfl, hc0, hc1⟩ := hc
   exact ⟨c0, c1, rfl, canonV_ok h1 hc0, canonV_ok h2 hc1⟩
  ·cases h
 | .any, t, v, cs, h, hc | .al _ _ _ _, t, v, cs, h, hc | .cut _ _ _ _ _ _, t, v, cs, h, hc | .ptr _ _ _, t, v, cs, h, hc | .sptr _ _, t, v, cs, h, hc | .fn _ _, t, v, cs, h, hc | .tup _, t, v, cs, h, hc => by
  cases t <;> simp only [canonV] at h <;> cases h
theorem canonV_agg : ∀ {x : AV} {t : Ty} {v : V}, canonV t x = some v -> x.agg = v.t.agg
 | .sh t' y, t, v, h => by simp only [canonV] at h; cases h; rfl
 | .nilsl, t, v, h => by
  cases t <;> simp only [canonV] at h <;> try (cases h; done)
  cases h; rfl
 | .nilf, t, v, h => by
  cases t <;> simp only [canonV] at h <;> try (cases h; done)
  cases h; rfl
 | .consf x y, t, v, h => by
  cases t <;> simp only [canonV] at h <;> try (cases h; done)
  split at h
  ·cases h; rfl
  ·cases h
 | .any, t, v, h | .al _ _ _ _, t, v, h | .cut _ _ _ _ _ _, t, v, h | .ptr _ _ _, t, v, h | .sptr _ _, t, v, h | .fn _ _, t, v, h | .tup _, t, v, h => by
  cases t <;> simp only [canonV] at h <;> cases h
theorem canon_ok : ∀ {p : Pat} {x : AV} {y : p.den} {cs : List Value}, canon p x = some y -> AVC w Sh R D x cs -> AVC w Sh R D (p.av y) cs /\ (p.av y).agg = x.agg
 | .val t, x, y, cs, h, hc => by
  simp only [canon] at h
  split at h
  ·rename_i v hv
   obtain ⟨e, rfl⟩ := asT_some h
   refine ⟨Ty.RR_same e (canonV_ok hv hc), ?_⟩
   show t.agg = _
   rw [canonV_agg hv, Ty.agg_same e]
  ·cases h
 | .sptr t, x, y, cs, h, hc => by
  cases x <;> simp only [canon] at h <;> try (cases h; done)
  obtain ⟨e, rfl⟩ := asT_some h
  obtain ⟨b, o, cc, hcs, hb, hR, hcell⟩ := hc
  exact ⟨⟨b, o, cc, hcs, hb, Ty.RR_same e hR, hcell⟩, rfl⟩
 | .fn f c, x, y, cs, h, hc => by
  cases x <;> simp only [canon] at h <;> try (cases h; done)
  rename_i g z
  cases hb : Nat.beq f g with
  | false => rw [hb] at h; cases h
  | true =>
   rw [hb] at h
   have e := Nat.eq_of_beq_eq_true hb
   subst e
   obtain ⟨cc, h1, h2⟩ := hc
   exact ⟨⟨cc, h1, (canon_ok h h2).1⟩, rfl⟩
 | .nil, x, y, cs, h, hc => by
  cases x <;> simp only [canon] at h <;> try (cases h; done)
  exact ⟨hc, rfl⟩
 | .cons p1 p2, x, y, cs, h, hc => by
  cases x <;> simp only [canon] at h <;> try (cases h; done)
  split at h
  ·rename_i u v h1 h2
   cases h
   obtain ⟨c0, c1, hcs, hc0, hc1⟩ := hc
   exact ⟨⟨c0, c1, hcs, (canon_ok h1 hc0).1, (canon_ok h2 hc1).1⟩, rfl⟩
  ·cases h
theorem canon_avr {p : Pat} {x : AV} {y : p.den} {v : Value} (h : canon p x = some y) (hv : AVR w Sh R D x v) : AVR w Sh R D (p.av y) v := by
 have hne : x ≠ .any := fun e => by
  subst e
  cases p <;> simp only [canon, canonV] at h <;> cases h
 have hnt : ∀ c, x ≠ .tup c := fun c e => by
  subst e
  cases p <;> simp only [canon, canonV] at h <;> cases h
 obtain ⟨cs, hc, hvv⟩ := avs_of_avr hv hne hnt
 obtain ⟨h1, h2⟩ := canon_ok h hc
 exact pat_avs.2 ⟨cs, h1, by rw [h2]; exact hvv⟩
def Told (R0 : Nat -> Option Root) (T : Nat -> AV) (w : World) (Sh : Nat -> Prop) (R : Nat -> Option Root) (D : Nat -> DRoot) (a : Act) : (is : List Item) -> itemsT is -> List DV -> Prop
 | [], _, zs => zs = []
 | .pat s p :: is, x, zs => AVR w Sh R D (p.av x.1) (a.tmps.getD s undef) /\ Told R0 T w Sh R D a is x.2 zs
 | .own s t :: is, x, zs => ∃ (d : t.dec) (zs' : List DV), zs = ⟨t, d⟩ :: zs' /\ t.er d = x.1 /\ a.tmps.getD s undef = mkw t.agg (t.cs d) /\ t.flat = false /\ Told R0 T w Sh R D a is x.2 zs'
 | .root k blk t ps :: is, x, zs => (∃ r0 r, R0 k = some r0 /\ R k = some r /\ r.v = ⟨t, x.1⟩ /\ r0.blk = r.blk /\ r.blk = blk /\ r0.org = r.org /\ r0.pin = r.pin /\ (∀ i, r.org = some i -> since r0.log 0 1 false = true -> since r.log 0 1 false = true) /\
   (∀ s ∈ ps, blk = true -> ∃ s', T s = .ptr k [] s') /\ (∀ s ∈ ps, blk = false -> ∃ s', T s = .al k [] s' t /\ since r.log s' 1 (!t.agg) = true)) /\ Told R0 T w Sh R D a is x.2 zs
theorem root_step {R0 : Nat -> Option Root} {k : Nat} {blk : Bool} {t : Ty} {ps : List Nat} {ws ws' : Writes} {x : t.den} (h : matchI R0 T R (.root k blk t ps) ws = some (x, ws')) :
  ws' = ws /\ ∃ r0 r, R0 k = some r0 /\ app ws R k = some r /\ sameR r0 r t = true /\ r.blk = blk /\ (blk = false -> r.v.t = t) /\ toT r.v t = some x /\
   (∀ s ∈ ps, blk = true -> ∃ s', T s = .ptr k [] s') /\ (∀ s ∈ ps, blk = false -> ∃ s', T s = .al k [] s' t /\ since r.log s' 1 (!t.agg) = true) := by
 simp only [matchI] at h
 cases h0 : R0 k with
 | none => rw [h0] at h; cases h
 | some r0 =>
  cases h1 : app ws R k with
  | none => rw [h0, h1] at h; cases h
  | some r =>
   rw [h0, h1] at h
   simp only at h
   generalize hc : (sameR r0 r t && eqBool blk r.blk && (blk || decide (r.v.t = t)) && ps.all (fun s => match T s with
    | .ptr j [] _ => blk && Nat.beq j k
    | .al j [] s' t' => !blk && Nat.beq j k && okR r s' 1 (!t'.agg) && decide (t' = t)
    | _ => false)) = c at h
   cases c with
   | false => cases h
   | true =>
    simp only [cond_true] at h
    cases ht : toT r.v t with
    | none => rw [ht] at h; cases h
    | some y =>
     rw [ht] at h; cases h
     simp only [Bool.and_eq_true, List.all_eq_true] at hc
     obtain ⟨⟨⟨c1, c2⟩, c3⟩, c4⟩ := hc
     refine ⟨rfl, r0, r, rfl, rfl, c1, (eqBool_spec c2).symm, fun hb => ?_, ht, fun s hs hb => ?_, fun s hs hb => ?_⟩
     ·rw [hb] at c3; simpa using c3
     ·have := c4 s hs
      split at this
      ·rename_i j s' hT
       rw [Bool.and_eq_true] at this
       rw [Nat.eq_of_beq_eq_true this.2] at hT
       exact ⟨s', hT⟩
      ·rw [hb] at this; simp at this
      ·cases this
     ·have := c4 s hs
      split at this
      ·rw [hb] at this; simp at this
      ·rename_i j s' t' hT
       simp only [Bool.and_eq_true] at this
       obtain ⟨⟨⟨_, e1⟩, e2⟩, e3⟩ := this
       have e3 := of_decide_eq_true e3
       subst e3
       rw [Nat.eq_of_beq_eq_true e1] at hT
       exact ⟨s', hT, (okR_spec e2).2⟩
      ·cases this
theorem sameR_spec {r0 r : Root} {t : Ty} (h : sameR r0 r t = true) : r0.blk = r.blk /\ r0.org = r.org /\ r0.pin = r.pin /\ (∀ i, r.org = some i -> r.v.t = t /\ (since r0.log 0 1 false = true -> since r.log 0 1 false = true)) := by
 unfold sameR at h
 simp only [Bool.and_eq_true] at h
 obtain ⟨⟨⟨h1, h2⟩, h3⟩, h4⟩ := h
 refine ⟨eqBool_spec h1, eqO_spec h2, eqO_spec h3, fun i hi => ?_⟩
 rw [hi] at h4
 simp only [Option.isNone_some, Bool.false_or, Bool.and_eq_true, decide_eq_true_eq] at h4
 refine ⟨h4.1, fun hs => ?_⟩
 have := h4.2
 rw [hs] at this
 simpa using this
theorem V_eta {v : V} {t : Ty} {x : t.den} (ht : v.t = t) (h : toT v t = some x) : v = ⟨t, x⟩ := by
 obtain ⟨t', y⟩ := v
 have ht : t' = t := ht
 subst ht
 obtain ⟨hl, e⟩ := toT_some h
 rw [e]; rfl
theorem like_of_shr : ∀ {t t' : Ty}, t.shr = t'.shr -> like t t' = true
 | .cons a r, t', h => by
  cases t' <;> simp only [Ty.shr, Ty.cons.injEq, reduceCtorEq] at h
  simp only [like, like_of_shr h.1, like_of_shr h.2, Bool.and_self]
 | .nil, t', h => by cases t' <;> simp only [Ty.shr] at h <;> cases h; rfl
 | .sl _ _ _, t', h => by cases t' <;> simp only [Ty.shr] at h <;> first | rfl | cases h
 | .int _, t', h | .bool, t', h | .str, t', h | .hole, t', h => by cases t' <;> simp only [Ty.shr] at h <;> first | rfl | cases h
theorem matchL_out {R0 : Nat -> Option Root} {k : Nat} {r : Root} : ∀ {is : List Item} {ws : Writes}, is.all isRoot = true -> k ∉ itemIds is -> matchL R0 T R is ((k, r) :: ws) = matchL R0 T R is ws
 | [], ws, ha, hk => rfl
 | .pat _ _ :: is, ws, ha, hk => by simp [isRoot] at ha
 | .own _ _ :: is, ws, ha, hk => by simp [isRoot] at ha
 | .root j blk t ps :: is, ws, ha, hk => by
  have hj : j ≠ k := fun e => hk (by rw [e]; exact List.mem_cons_self)
  have e : app ((k, r) :: ws) R j = app ws R j := upt_ne _ _ hj
  have hi : ∀ ws0, matchI R0 T R (.root j blk t ps) ws0 = (match R0 j, app ws0 R j with
   | some r0, some r => bif sameR r0 r t && eqBool blk r.blk && (blk || decide (r.v.t = t)) && ps.all (fun s => match T s with
     | .ptr j' [] _ => blk && Nat.beq j' j
     | .al j' [] s' t' => !blk && Nat.beq j' j && okR r s' 1 (!t'.agg) && decide (t' = t)
     | _ => false) then match toT r.v t with
    | some x => some (x, ws0)
    | none => none else none
   | _, _ => none) := fun _ => rfl
  have ih : ∀ ws, matchL R0 T R is ((k, r) :: ws) = matchL R0 T R is ws := fun ws => matchL_out (is := is) (ws := ws) (by simpa [isRoot] using ha) (fun h => hk (List.mem_cons_of_mem _ h))
  cases h1 : matchI R0 T R (.root j blk t ps) ws with
  | none =>
   have h2 : matchI R0 T R (.root j blk t ps) ((k, r) :: ws) = none := by
    rw [hi] at h1 ⊢
    rw [e]
    revert h1
    split
    ·generalize (sameR _ _ t && eqBool blk _ && (blk || decide (_ = t)) && ps.all _) = c
     cases c
     ·simp
     ·simp only [cond_true]
      split <;> simp
    ·simp
   simp only [matchL, h1, h2]
  | some q =>
   obtain ⟨y, ws1⟩ := q
   obtain ⟨rfl, _⟩ := root_step h1
   have h2 : matchI R0 T R (.root j blk t ps) ((k, r) :: ws1) = some (y, (k, r) :: ws1) := by
    rw [hi] at h1 ⊢
    rw [e]
    revert h1
    split
    ·generalize (sameR _ _ t && eqBool blk _ && (blk || decide (_ = t)) && ps.all _) = c
     cases c
     ·simp
     ·simp only [cond_true]
      split <;> simp
    ·simp
   simp only [matchL, h1, h2, ih ws1]
theorem match_ok {R0 : Nat -> Option Root} : ∀ {is : List Item} {x : itemsT is} {ws : Writes} {D : Nat -> DRoot} {Sh : Nat -> Prop} {F : List DV}, matchL R0 T R is ws = some x -> rootsLast is = true -> nodupN (itemIds is) = true -> RelF C ⟨T, app ws R⟩ D Sh F a w ->
  ∃ (R' : Nat -> Option Root) (D' : Nat -> DRoot) (Sh' : Nat -> Prop) (zs : List DV), (∀ b, Sh b -> Sh' b) /\ Keeps w w Sh Sh' (app ws R) R' D D' /\ RelF C ⟨T, R'⟩ D' Sh' (zs ++ F) a w /\ Told R0 T w Sh' R' D' a is x zs /\ (is.all isRoot = true -> ∀ id, id ∉ itemIds is -> R' id = app ws R id)
 | [], x, ws, D, Sh, F, h, hr, hn, hF => ⟨app ws R, D, Sh, [], fun _ h => h, Keeps.grow (fun _ _ => rfl), hF, rfl, fun _ _ _ => rfl⟩
 | .pat s p :: is, x, ws, D, Sh, F, h, hr, hn, hF => by
  simp only [matchL, matchI] at h
  cases hc : canon p (T s) with
  | none => rw [hc] at h; cases h
  | some y =>
   rw [hc] at h
   simp only at h
   cases hm : matchL R0 T R is ws with
   | none => rw [hm] at h; cases h
   | some z =>
    rw [hm] at h; cases h
    obtain ⟨R', D', Sh', zs, h1, h2, h3, h4, h5⟩ := match_ok hm (by simpa [rootsLast, isRoot] using hr) hn hF
    exact ⟨R', D', Sh', zs, h1, h2, h3, ⟨h2.avr (canon_avr hc (hF.rel.tmp s)), h4⟩, fun ha => by simp [isRoot] at ha⟩
 | .own s t :: is, x, ws, D, Sh, F, h, hr, hn, hF => by
  simp only [matchL, matchI] at h
  cases hfl : t.flat with
  | true => rw [hfl] at h; cases h
  | false =>
   rw [hfl] at h
   simp only [cond_false] at h
   cases ht : (takeTo t (T s) ws).go R with
   | none => rw [ht] at h; cases h
   | some q =>
    obtain ⟨y, ws1⟩ := q
    rw [ht] at h
    simp only at h
    cases hm : matchL R0 T R is ws1 with
    | none => rw [hm] at h; cases h
    | some z =>
     rw [hm] at h; cases h
     obtain ⟨D1, Sh1, d, e1, e2, e3, K1, F1⟩ := takeTo_ok ht hF (hF.rel.tmp s)
     obtain ⟨R', D', Sh', zs, h1, h2, h3, h4, h5⟩ := match_ok hm (by simpa [rootsLast, isRoot] using hr) (nodupN_cons (show nodupN (ownId s :: itemIds is) = true from hn)).2 F1
     refine ⟨R', D', Sh', ⟨t, d⟩ :: zs, fun b hb => h1 b (e3 b hb), K1.trans h2, h3.perm (List.perm_middle), ⟨d, zs, rfl, e1, e2, hfl, h4⟩, fun ha => by simp [isRoot] at ha⟩
 | .root k blk t ps :: is, x, ws, D, Sh, F, h, hr, hn, hF => by
  simp only [matchL] at h
  cases hi : matchI R0 T R (.root k blk t ps) ws with
  | none => rw [hi] at h; cases h
  | some q =>
   obtain ⟨y, ws1⟩ := q
   rw [hi] at h
   simp only at h
   cases hm : matchL R0 T R is ws1 with
   | none => rw [hm] at h; cases h
   | some z =>
    rw [hm] at h; cases h
    obtain ⟨rfl, r0, r, g0, g1, g2, g3, g4, g5, g6, g7⟩ := root_step hi
    have hall : is.all isRoot = true := by simpa [rootsLast, isRoot] using hr
    have hrl : rootsLast is = true := by
     clear hm hi hn hr
     induction is with
     | nil => rfl
     | cons i is ih =>
      simp only [List.all_cons, Bool.and_eq_true] at hall
      simp only [rootsLast, hall.1, cond_true, hall.2]
    obtain ⟨hk, hnn⟩ := nodupN_cons (show nodupN (k :: itemIds is) = true from hn)
    obtain ⟨s1, s2, s3, s4⟩ := sameR_spec g2
    by_cases hty : r.v.t = t
    ·obtain ⟨R', D', Sh', zs, h1, h2, h3, h4, h5⟩ := match_ok hm hrl hnn hF
     refine ⟨R', D', Sh', zs, h1, h2, h3, ⟨⟨r0, r, g0, (h5 hall k hk).trans g1, V_eta hty g5, s1, g3, s2, s3, fun i hi => (s4 i hi).2, g6, g7⟩, h4⟩, fun _ id hid => h5 hall id (fun hm => hid (List.mem_cons_of_mem _ hm))⟩
    ·have hbt : blk = true := by
      cases blk with
      | true => rfl
      | false => exact absurd (g4 rfl) hty
     have horg : r.org = none := by
      cases ho : r.org with
      | none => rfl
      | some i => exact absurd (s4 i ho).1 hty
     have RR := hF.rel.root k r g1
     have hl0 : lookD (D k).dv (D k).base [] = some ((D k).base, (D k).dv) := rfl
     obtain ⟨hlow, hy⟩ := toT_some g5
     have hvt : (D k).dv.er = r.v := RR.er
     have hlow' : lowB (D k).dv.t t = true := by
      have : (D k).dv.t = r.v.t := congrArg V.t hvt
      rw [this]; exact hlow
     have hnd : ((D k).b.toList ++ (D k).dv.foot).Nodup := RR.nd
     obtain ⟨d', l1, l2, l3, l4, l5⟩ := Ty.lower hlow' RR.ok (List.nodup_append.1 hnd).2.1
     let Sh1 : Nat -> Prop := fun b => Sh b \/ (b ∈ (D k).dv.foot /\ b ∉ t.foot d')
     have her : DV.er ⟨t, d'⟩ = ⟨t, y⟩ := by
      refine congrArg (V.mk t) ?_
      rw [l1, hy]
      clear l1 hy hi hm
      revert hlow hlow' d'
      rw [<- hvt]
      intros; rfl
     have hlk : like t (D k).dv.t = true := by
      have hs := (lowB_shr hlow').symm
      clear_value Sh1
      exact like_of_shr hs
     obtain ⟨D1, K1, F1⟩ := hF.swap (Sh' := Sh1) (n := ⟨t, d'⟩) (v' := ⟨t, y⟩) g1 hl0 (by rw [her]; rfl) hlk l2 (fun b hb => .inl hb) (l5 Sh1 (fun b hb => .inl hb) (fun b hb hb' => .inr ⟨hb, hb'⟩)) (fun b hb => hb) l3 l4
     let r1 : Root := stored r [] (DV.er ⟨t, d'⟩) (D k).dv.er ⟨t, y⟩
     have F1' : RelF C ⟨T, app ((k, r1) :: ws1) R⟩ D1 Sh1 F a w := F1
     have hm' : matchL R0 T R is ((k, r1) :: ws1) = some z := by
      rw [<- hm]
      exact matchL_out hall hk
     obtain ⟨R', D', Sh', zs, h1, h2, h3, h4, h5⟩ := match_ok hm' hrl hnn F1'
     have hRk : R' k = some r1 := (h5 hall k hk).trans (upt_same _ _ _)
     refine ⟨R', D', Sh', zs, fun b hb => h1 b (.inl hb), K1.trans h2, h3, ⟨⟨r0, r1, g0, hRk, rfl, s1, g3, s2, s3, fun i hi => (by rw [show r1.org = r.org from rfl, horg] at hi; cases hi), g6, fun s hs hb => by rw [hbt] at hb; cases hb⟩, h4⟩, fun _ id hid => ?_⟩
     have hid' : id ≠ k := fun e => hid (e ▸ List.mem_cons_self)
     rw [h5 hall id (fun hm => hid (List.mem_cons_of_mem _ hm))]
     exact upt_ne _ _ hid'
end
end Go.Proofs.YtipaepbmdooekaaGreat.Vm
namespace Go.Proofs.YtipaepbmdooekaaGreat.Vm
open Go Go.RowKit
set_option linter.unusedVariables false
theorem pendOf_some {T : List (TypeId × TRow)} {o : Oper} {st : St} {q : Pend} (h : pendOf T o st = some q) : ∃ t x y row s s2, o.op = .store t x y /\ o.dst = none /\ o.guard = none /\ tget T t = some row /\ evalA st.tmps x = .ptr q.id [] s /\ evalA st.tmps y = .al q.id2 q.p s2 q.t /\
  st.roots q.id = some q.r /\ st.roots q.id2 = some q.r2 /\ getV q.r2.v q.p = some q.u /\ q.id ≠ q.id2 /\ okR q.r s 0 true = true /\ okR q.r2 s2 (depth q.p + 1) (!q.t.agg) = true /\ like q.t row.ty = true /\ like q.t q.r.v.t = true /\ q.u.t = q.t := by
 unfold pendOf at h
 split at h
 case h_2 => cases h
 rename_i t x y ho hd hg
 split at h
 case h_2 => cases h
 rename_i row id s id2 p s2 t2 hrow hx hy
 split at h
 case h_2 => cases h
 rename_i r r2 hr hr2
 split at h
 case h_2 => cases h
 rename_i u hu
 cases hc : (!Nat.beq id id2 && (okR r s 0 true && (okR r2 s2 (depth p + 1) (!t2.agg) && (like t2 row.ty && (like t2 r.v.t && decide (u.t = t2)))))) with
 | false => rw [hc] at h; cases h
 | true =>
  rw [hc] at h
  simp only [cond_true, Option.some.injEq] at h
  subst h
  simp only [Bool.and_eq_true, decide_eq_true_eq, Bool.not_eq_true'] at hc
  obtain ⟨c1, c2, c3, c4, c5, c6⟩ := hc
  exact ⟨t, x, y, row, s, s2, ho, hd, hg, hrow, hx, hy, hr, hr2, hu, (fun e => by have e : id = id2 := e; subst e; simp at c1), c2, c3, c4, c5, c6⟩
theorem agg_sz {t : Ty} (h : t.agg = false) : t.sz = 1 := by
 cases t <;> first | rfl | cases h
theorem mkw_inj {t : Ty} {cs ds : List Value} (h1 : cs.length = t.sz) (h2 : ds.length = t.sz) (h : mkw t.agg cs = mkw t.agg ds) : cs = ds := by
 cases hg : t.agg with
 | true =>
  rw [hg] at h
  have h : Value.agg cs.toArray = Value.agg ds.toArray := h
  injection h with h
  have := congrArg Array.toList h
  simpa using this
 | false =>
  rw [hg] at h
  have hs := agg_sz hg
  rw [hs] at h1 h2
  obtain ⟨x, rfl⟩ := List.length_eq_one_iff.1 h1
  obtain ⟨y, rfl⟩ := List.length_eq_one_iff.1 h2
  have h : x = y := h
  rw [h]
theorem like_hol : ∀ t : Ty, like t t.holT = true
 | .sl true _ _ => rfl
 | .sl false _ _ => rfl
 | .cons a r => by simp only [Ty.holT, like, like_hol a, like_hol r, Bool.and_self]
 | .int _ => rfl
 | .bool => rfl
 | .str => rfl
 | .hole => rfl
 | .nil => rfl
section
variable {C : Ctx} {T : List (TypeId × TRow)} {K : Cons} {st st2 : St} {D : Nat -> DRoot} {Sh : Nat -> Prop} {F : List DV} {a : Act} {w : World}
theorem RelF.fill {u z : DV} (h : RelF C st D Sh (u :: F) a w) {id : Nat} {r : Root} (hr : st.roots id = some r) {k o : Nat} (hl : lookD (D id).dv (D id).base [] = some (some (k, o), z)) (hlk : like u.t z.t = true) (hc : u.cs = z.cs) :
  ∃ D', Keeps w w Sh Sh st.roots (upt st.roots id (some (stored r [] u.er z.er u.er))) D D' /\ RelF C ⟨st.tmps, upt st.roots id (some (stored r [] u.er z.er u.er))⟩ D' Sh F a w := by
 obtain ⟨_, _, hloc⟩ := h.rel.look hr hl
 exact h.store (w' := w) hr hl hlk (v' := u.er) rfl rfl rfl rfl rfl (fun _ _ => rfl) (Turned.refl_of hc (hloc k o rfl))
theorem pend_look {oy : Oper} {q : Pend} (hp : pendOf T oy st = some q) (hR : Rel C (pendSt q st) D Sh a w) (hH : a.eval (pendArg oy) = mkw q.t.agg (D q.id).dv.cs) :
  ∃ (u z : DV) (b : Base) (k : Nat), lookD (D q.id2).dv (D q.id2).base q.p = some (b, u) /\ u.er = q.u /\ u.t = q.t /\ lookD (D q.id).dv (D q.id).base [] = some (some (k, 0), z) /\ z.er = q.u.hol /\ u.cs = z.cs /\ q.id ≠ q.id2 /\ st.roots q.id2 = some q.r2 := by
 obtain ⟨t, x, y, row, s, s2, ho, hd, hg, hrow, hx, hy, hr1, hr2, hgv2, hne, hs1, hs2, hl1, hl2, hut⟩ := pendOf_some hp
 have he : pendArg oy = y := by unfold pendArg; rw [ho]
 rw [he] at hH
 have hr1' : (pendSt q st).roots q.id = some (pendRoot q) := upt_same _ _ _
 have hr2' : (pendSt q st).roots q.id2 = some q.r2 := (upt_ne _ _ (Ne.symm hne)).trans hr2
 have hay := hR.eval y
 have hy' : evalA (pendSt q st).tmps y = .al q.id2 q.p s2 q.t := hy
 rw [hy'] at hay
 obtain ⟨cs, ⟨hfl, r2', hq2, _, hal⟩, hvy⟩ := hay
 rw [hr2'] at hq2; cases hq2
 obtain ⟨b, u, hlu, hu, rfl⟩ := hal (okR_spec hs2).2
 obtain ⟨hgu, huok, _⟩ := hR.look hr2' hlu
 rw [hgv2] at hgu
 have hqu : q.u = u.er := Option.some.inj hgu
 have hvy : a.eval y = mkw q.t.agg u.cs := hvy
 have hu : u.t = q.t := hu
 have hax := hR.eval x
 have hx' : evalA (pendSt q st).tmps x = .ptr q.id [] s := hx
 rw [hx'] at hax
 obtain ⟨k, o', z, hlk, hpv⟩ := ptr_look hax hr1' (since_zero _ _ _)
 have hz : (D q.id).dv = z /\ o' = 0 := by
  have h1 : some (DRoot.base (D q.id), (D q.id).dv) = some (some (k, o'), z) := hlk
  injection h1 with h1
  exact ⟨congrArg Prod.snd h1, (base_some (congrArg Prod.fst h1)).2⟩
 obtain ⟨hz1, rfl⟩ := hz
 obtain ⟨hgz, _, _⟩ := hR.look hr1' hlk
 have hze : z.er = q.u.hol := (Option.some.inj (hgz : some (pendRoot q).v = some z.er)).symm
 refine ⟨u, z, b, k, hlu, hqu.symm, hu, hlk, hze, ?_, hne, hr2⟩
 rw [hz1] at hH
 have hzt : z.t = q.u.t.holT := congrArg V.t hze
 refine mkw_inj (t := q.t) ((Ty.cs_len u.t u.d).trans (by rw [hu])) ((Ty.cs_len z.t z.d).trans ?_) (hvy.symm.trans hH)
 rw [hzt, hut]
 exact like_sz (Ty.hol_like q.t)
theorem resolve0_ok {oy : Oper} {q : Pend} (hp : pendOf T oy st = some q) (h : resolve0 q st = some st2) (hR : Rel C (pendSt q st) D Sh a w) (hH : a.eval (pendArg oy) = mkw q.t.agg (D q.id).dv.cs) : ∃ D', Rel C st2 D' Sh a w := by
 obtain ⟨u, z, b, k, hlu, hue, hut, hlz, hze, hcs, hne, hr2⟩ := pend_look hp hR hH
 unfold resolve0 at h
 cases hv2 : putV q.r2.v q.p q.u.hol with
 | none => rw [hv2] at h; cases h
 | some v2 =>
  rw [hv2] at h
  cases h
  have hr2' : (pendSt q st).roots q.id2 = some q.r2 := (upt_ne _ _ (Ne.symm hne)).trans hr2
  obtain ⟨D1, hD1, K1, F1⟩ := hR.F.stealD hr2' hlu (v' := v2) (by rw [hue]; exact hv2)
  rw [hue] at F1
  have hlz1 : lookD (D1 q.id).dv (D1 q.id).base [] = some (some (k, 0), z) := by rw [hD1 q.id hne]; exact hlz
  have hrid : (upt (pendSt q st).roots q.id2 (some (stolen q.r2 q.p q.u v2))) q.id = some (pendRoot q) := (upt_ne _ _ hne).trans (upt_same _ _ _)
  have hlk : like u.t z.t = true := by
   have hzt : z.t = q.u.t.holT := congrArg V.t hze
   have hut2 : u.t = q.u.t := congrArg V.t hue
   rw [hzt, hut2]; exact like_hol _
  obtain ⟨D2, K2, F2⟩ := F1.fill hrid hlz1 hlk hcs
  rw [hue, hze] at F2
  exact ⟨D2, F2.rel⟩
theorem lastIdx_some : ∀ {p q : Path} {k : Nat}, lastIdx p = some (q, k) -> p = q ++ [.idx k]
 | [], q, k, h => by cases h
 | [.idx j], q, k, h => by cases h; rfl
 | [.fst], q, k, h => by simp only [lastIdx] at h; cases h
 | [.snd], q, k, h => by simp only [lastIdx] at h; cases h
 | s :: s' :: p, q, k, h => by
  have hh : (match lastIdx (s' :: p) with
   | some (q, k) => some (s :: q, k)
   | none => none) = some (q, k) := by cases s <;> exact h
  cases hl : lastIdx (s' :: p) with
  | none => rw [hl] at hh; cases hh
  | some z =>
   obtain ⟨q', k'⟩ := z
   rw [hl] at hh
   cases hh
   rw [lastIdx_some hl]; rfl
theorem eqPath_eq : ∀ {p q : Path}, eqPath p q = true -> p = q
 | [], [], _ => rfl
 | .fst :: p, .fst :: q, h => by rw [eqPath_eq (p := p) (q := q) h]
 | .snd :: p, .snd :: q, h => by rw [eqPath_eq (p := p) (q := q) h]
 | .idx i :: p, .idx j :: q, h => by
  simp only [eqPath, Bool.and_eq_true] at h
  rw [Nat.eq_of_beq_eq_true h.1, eqPath_eq h.2]
 | [], .fst :: _, h | [], .snd :: _, h | [], .idx _ :: _, h | .fst :: _, [], h | .snd :: _, [], h | .idx _ :: _, [], h => by cases h
 | .fst :: _, .snd :: _, h | .fst :: _, .idx _ :: _, h | .snd :: _, .fst :: _, h | .snd :: _, .idx _ :: _, h | .idx _ :: _, .fst :: _, h | .idx _ :: _, .snd :: _, h => by cases h
theorem flatMap_sub {α β : Type} {f : α -> List β} {l m : List α} (h : l.Sublist m) : (l.flatMap f).Sublist (m.flatMap f) := by
 induction h with
 | slnil => exact List.Sublist.refl _
 | cons x _ ih => rw [List.flatMap_cons]; exact ih.trans (List.sublist_append_right _ _)
 | cons_cons x _ ih => rw [List.flatMap_cons, List.flatMap_cons]; exact (List.Sublist.refl _).append ih
theorem RelF.part {e : TypeId} {te : Ty} {A : Option Addr} {c : Nat} {ds : List te.dec} (h : RelF C st D Sh ((⟨.sl true e te, ((A, c), ds)⟩ : DV) :: F) a w) {k lo n : Nat} {d : te.dec} (hd : ds[k]? = some d) (hk : k < lo) (hlo : lo + n <= ds.length) :
  RelF C st D Sh ((⟨te, d⟩ : DV) :: (⟨.sl true e te, (((if c = lo then A else A.map (·.add (lo * te.sz))), c - lo), (ds.drop lo).take n)⟩ : DV) :: F) a w := by
 have hok := h.fok _ (List.mem_cons_self ..)
 have hnd : (((A.map (·.block)).toList ++ ds.flatMap te.foot) ++ F.flatMap DV.foot).Nodup := h.fnd
 rcases hok with ⟨_, hn⟩ | ⟨b, o, row, hA, hrow, hl, hm, hr, hel⟩
 ·have hn : ds = [] := hn
  rw [hn] at hd; cases hd
 have hA : A = some ⟨b, o, none⟩ := hA
 subst hA
 have hl : ds.length <= c := hl
 have hm : c <= maxLen := hm
 have hr : o + c * te.sz <= row.size := hr
 have hel : ∀ (i : Nat) (d : te.dec), ds[i]? = some d -> Ty.OK w Sh te d /\ ∀ j v, (te.cs d)[j]? = some v -> row[o + i * te.sz + j]? = some v := hel
 have hget : ∀ i d', ((ds.drop lo).take n)[i]? = some d' -> i < n /\ ds[lo + i]? = some d' := by
  intro i d' hi
  rw [List.getElem?_take] at hi
  split at hi
  case isFalse => cases hi
  rename_i hlt
  rw [List.getElem?_drop] at hi
  exact ⟨hlt, hi⟩
 have hlen : ((ds.drop lo).take n).length = n := by rw [List.length_take, List.length_drop]; omega
 obtain ⟨o', hA', ho', hro⟩ : ∃ o', (if c = lo then (some ⟨b, o, none⟩ : Option Addr) else (some ⟨b, o, none⟩ : Option Addr).map (·.add (lo * te.sz))) = some ⟨b, o', none⟩ /\ (c ≠ lo -> o' = o + lo * te.sz) /\ o' + (c - lo) * te.sz <= row.size := by
  by_cases hc : c = lo
  ·rw [if_pos hc]
   exact ⟨o, rfl, fun h => absurd hc h, by rw [hc, Nat.sub_self, Nat.zero_mul]; omega⟩
  ·rw [if_neg hc]
   refine ⟨o + lo * te.sz, by rw [Option.map_some, add_at], fun _ => rfl, ?_⟩
   have : lo * te.sz + (c - lo) * te.sz = c * te.sz := by rw [<- Nat.add_mul]; congr 1; omega
   omega
 have hsub : (d :: (ds.drop lo).take n).Sublist ds := by
  have h1 : [d].Sublist (ds.take lo) := by
   rw [List.singleton_sublist]
   refine List.mem_of_getElem? (i := k) ?_
   rw [List.getElem?_take, if_pos hk]; exact hd
  have := h1.append (List.take_sublist n (ds.drop lo))
  rwa [List.take_append_drop] at this
 have hfsub := flatMap_sub (f := te.foot) hsub
 rw [List.flatMap_cons] at hfsub
 rw [hA']
 have hnd0 : ([b] ++ ds.flatMap te.foot ++ F.flatMap DV.foot).Nodup := hnd
 have hfoot : ∀ x, x ∈ te.foot d ++ ([b] ++ ((ds.drop lo).take n).flatMap te.foot ++ F.flatMap DV.foot) -> x ∈ [b] ++ ds.flatMap te.foot ++ F.flatMap DV.foot := by
  intro x hx
  simp only [List.mem_append] at hx ⊢
  rcases hx with hx | (hx | hx) | hx
  ·exact .inl (.inr (hfsub.subset (List.mem_append_left _ hx)))
  ·exact .inl (.inl hx)
  ·exact .inl (.inr (hfsub.subset (List.mem_append_right _ hx)))
  ·exact .inr hx
 refine ⟨h.rel, fun v hv => ?_, ?_, fun x hx => h.fdis x (hfoot x hx)⟩
 ·rcases List.mem_cons.1 hv with rfl | hv
  ·exact (hel k d hd).1
  ·rcases List.mem_cons.1 hv with rfl | hv
   ·refine .inr ⟨b, o', row, rfl, hrow, ?_, ?_, hro, fun i d' hi => ?_⟩
    ·show ((ds.drop lo).take n).length <= c - lo
     omega
    ·show c - lo <= maxLen
     omega
    ·obtain ⟨h1, h2⟩ := hget i d' hi
     have hc : c ≠ lo := by omega
     obtain ⟨g1, g2⟩ := hel (lo + i) d' h2
     refine ⟨g1, fun j v hv => ?_⟩
     rw [ho' hc, show o + lo * te.sz + i * te.sz + j = o + (lo + i) * te.sz + j by rw [Nat.add_mul]; omega]
     exact g2 j v hv
   ·exact h.fok v (List.mem_cons_of_mem _ hv)
 ·show (te.foot d ++ (([b] ++ ((ds.drop lo).take n).flatMap te.foot) ++ F.flatMap DV.foot)).Nodup
  have hs2 : (te.foot d ++ ((ds.drop lo).take n).flatMap te.foot).Nodup := hfsub.nodup (List.nodup_append.1 (List.nodup_append.1 hnd0).1).2.1
  have q1 := List.nodup_append.1 hnd0
  have q2 := List.nodup_append.1 q1.1
  have q3 := List.nodup_append.1 hs2
  have inD : ∀ x ∈ te.foot d, x ∈ ds.flatMap te.foot := fun x hx => hfsub.subset (List.mem_append_left _ hx)
  have inT : ∀ x ∈ ((ds.drop lo).take n).flatMap te.foot, x ∈ ds.flatMap te.foot := fun x hx => hfsub.subset (List.mem_append_right _ hx)
  refine List.nodup_append.2 ⟨q3.1, List.nodup_append.2 ⟨List.nodup_append.2 ⟨q2.1, q3.2.1, fun x hx y hy => q2.2.2 x hx y (inT y hy)⟩, q1.2.1, fun x hx y hy => ?_⟩, fun x hx y hy => ?_⟩
  ·rcases List.mem_append.1 hx with hx | hx
   ·exact q1.2.2 x (List.mem_append_left _ hx) y hy
   ·exact q1.2.2 x (List.mem_append_right _ (inT x hx)) y hy
  ·rcases List.mem_append.1 hy with hy | hy
   ·rcases List.mem_append.1 hy with hy | hy
    ·exact fun e => q2.2.2 y hy x (inD x hx) e.symm
    ·exact q3.2.2 x hx y hy
   ·exact q1.2.2 x (List.mem_append_right _ (inD x hx)) y hy
theorem resolve1_ok {oy : Oper} {q : Pend} {slot : Nat} (hp : pendOf T oy st = some q) (h : resolve1 q st slot = some st2) (hR : Rel C (pendSt q st) D Sh a w) (hH : a.eval (pendArg oy) = mkw q.t.agg (D q.id).dv.cs) : ∃ D', Rel C st2 D' Sh a w := by
 obtain ⟨u, z, b, k0, hlu, hue, hut, hlz, hze, hcs, hne, hr2⟩ := pend_look hp hR hH
 unfold resolve1 at h
 split at h
 case h_2 => cases h
 rename_i p k id2 p2 s2 t2 lo n hlast hslot
 cases hc : (Nat.beq id2 q.id2 && (eqPath p2 p && (Nat.blt k lo && okR q.r2 s2 (depth p2 + 1) true))) with
 | false => rw [hc] at h; cases h
 | true =>
  rw [hc] at h
  simp only [cond_true] at h
  simp only [Bool.and_eq_true] at hc
  obtain ⟨c1, c2, c3, c4⟩ := hc
  have c1 := Nat.eq_of_beq_eq_true c1
  have c2 := eqPath_eq c2
  subst c1; subst c2
  have hk : k < lo := by rwa [Nat.blt_eq] at c3
  split at h
  case h_2 => cases h
  rename_i e te xs hgv
  split at h
  case h_2 => cases h
  rename_i v2 hnone hput
  cases hne2 : (!Nat.beq (tailId slot) q.id && !Nat.beq (tailId slot) q.id2) with
  | false => rw [hne2] at h; cases h
  | true =>
   rw [hne2] at h
   simp only [cond_true, Option.some.injEq] at h
   subst h
   rw [Bool.and_eq_true, Bool.not_eq_true', Bool.not_eq_true'] at hne2
   have hG1 : tailId slot ≠ q.id := fun e => by rw [e] at hne2; simp at hne2
   have hG2 : tailId slot ≠ q.id2 := fun e => by rw [e] at hne2; simp at hne2
   have hr2' : (pendSt q st).roots q.id2 = some q.r2 := (upt_ne _ _ (Ne.symm hne)).trans hr2
   -- the part
   have hsl := hR.tmp slot
   have hslot' : (pendSt q st).tmps slot = .consf (.cut q.id2 p2 s2 t2 lo n) .nilf := hslot
   rw [hslot'] at hsl
   obtain ⟨cs, ⟨ca, cb, rfl, ⟨r', hr', _, hcut⟩, hcb⟩, hvs⟩ := hsl
   have hcb : cb = [] := hcb
   subst hcb
   rw [hr2'] at hr'; cases hr'
   obtain ⟨b2, e1, te1, A, c, ds, htt, hll, hlm, A', rfl, _, hA'⟩ := hcut (okR_spec c4).2
   obtain ⟨hg2, _, _⟩ := hR.look hr2' hll
   rw [hgv] at hg2
   have hg2 : some (⟨.sl true e te, xs⟩ : V) = some ⟨.sl true e1 te1, ds.map te1.er⟩ := hg2
   cases hg2
   -- the element
   have hpath := lastIdx_some hlast
   rw [hpath, lookD_append, hll] at hlu
   simp only [lookD] at hlu
   cases A with
   | none => cases hlu
   | some A0 =>
   cases hd : ds[k]? with
   | none => simp only [hd] at hlu; cases hlu
   | some d =>
   simp only [hd] at hlu
   have hlu : some ((some (A0.block, A0.off + k * te.sz) : Base), (⟨te, d⟩ : DV)) = some (b, u) := hlu
   simp only [Option.some.injEq, Prod.mk.injEq] at hlu
   obtain ⟨_, rfl⟩ := hlu
   obtain ⟨D1, hD1, K1, F1⟩ := hR.F.stealD hr2' hll (v' := v2) hput
   have F1' := F1.part (k := k) (lo := lo) (n := n) hd hk hlm
   have hlz1 : lookD (D1 q.id).dv (D1 q.id).base [] = some (some (k0, 0), z) := by rw [hD1 q.id hne]; exact hlz
   have hrid : (upt (pendSt q st).roots q.id2 (some (stolen q.r2 p2 ⟨.sl true e te, ds.map te.er⟩ v2))) q.id = some (pendRoot q) := (upt_ne _ _ hne).trans (upt_same _ _ _)
   have hlk : like te z.t = true := by
    have hzt : z.t = q.u.t.holT := congrArg V.t hze
    have hut2 : te = q.u.t := congrArg V.t hue
    rw [hzt, <- hut2]; exact like_hol _
   obtain ⟨D2, K2, F2⟩ := F1'.fill hrid hlz1 hlk hcs
   have hue : (⟨te, d⟩ : DV).er = q.u := hue
   rw [hue, hze] at F2 K2
   have hnone2 : (upt (upt (pendSt q st).roots q.id2 (some (stolen q.r2 p2 ⟨.sl true e te, ds.map te.er⟩ v2))) q.id (some (stored (pendRoot q) [] q.u q.u.hol q.u))) (tailId slot) = none := by
    rw [upt_ne _ _ hG1, upt_ne _ _ hG2]
    show upt st.roots q.id _ (tailId slot) = none
    rw [upt_ne _ _ hG1]; exact hnone
   obtain ⟨K3, F3⟩ := F2.hold (id := tailId slot) hnone2 (org := none) (fun i hi => by cases hi)
   have htl : (⟨.sl true e te, (((if c = lo then (some A0 : Option Addr) else (some A0 : Option Addr).map (·.add (lo * te.sz))), c - lo), (ds.drop lo).take n)⟩ : DV).er = ⟨.sl true e te, List.take n (List.drop lo (ds.map te.er))⟩ := by
    show (⟨.sl true e te, ((ds.drop lo).take n).map te.er⟩ : V) = _
    rw [List.map_take, List.map_drop]
   have hal := al_of_hold (w := w) (u := ⟨.sl true e te, (((if c = lo then (some A0 : Option Addr) else (some A0 : Option Addr).map (·.add (lo * te.sz))), c - lo), (ds.drop lo).take n)⟩) (R := upt (upt (pendSt q st).roots q.id2 (some (stolen q.r2 p2 ⟨.sl true e te, ds.map te.er⟩ v2))) q.id (some (stored (pendRoot q) [] q.u q.u.hol q.u))) (D := D2) (Sh := Sh) (id := tailId slot) (org := none) (c0 := DV.cs ⟨.sl true e te, (((if c = lo then (some A0 : Option Addr) else (some A0 : Option Addr).map (·.add (lo * te.sz))), c - lo), (ds.drop lo).take n)⟩) rfl
   rw [htl] at F3 hal
   have hRel := F3.rel
   have hcs2 : DV.cs ⟨.sl true e te, (((if c = lo then (some A0 : Option Addr) else (some A0 : Option Addr).map (·.add (lo * te.sz))), c - lo), (ds.drop lo).take n)⟩ = [.slice A' n (c - lo)] := by
    show [Value.slice _ ((ds.drop lo).take n).length (c - lo)] = _
    rw [show ((ds.drop lo).take n).length = n by rw [List.length_take, List.length_drop]; omega, hA']
   refine ⟨_, ⟨hRel.os, hRel.tape, hRel.output, hRel.hsz, hRel.block, hRel.sh0, hRel.shn, hRel.root, hRel.dis, hRel.fresh, fun t => ?_, hRel.size, hRel.defers⟩⟩
   have ht := hRel.tmp t
   by_cases et : t = slot
   ·subst et
    show AVR w Sh _ _ (upt st.tmps t _ t) _
    rw [upt_same]
    exact ⟨_, ⟨_, _, rfl, hal, rfl⟩, by rw [hcs2]; exact hvs⟩
   ·show AVR w Sh _ _ (upt st.tmps slot _ t) _
    rw [upt_ne _ _ et]
    exact ht
theorem resolveL_ok {items : List Item} {oy : Oper} {q : Pend} (hp : pendOf T oy st = some q) (h : resolveL items q st = some st2) (hR : Rel C (pendSt q st) D Sh a w) (hH : a.eval (pendArg oy) = mkw q.t.agg (D q.id).dv.cs) : ∃ D', Rel C st2 D' Sh a w := by
 unfold resolveL at h
 split at h
 ·exact resolve1_ok hp h hR hH
 ·exact resolve0_ok hp h hR hH
theorem pendOf_congr {oy : Oper} {all : List Oper} {st st' : St} (ht : ∀ t ∈ looks all oy, st'.tmps t = st.tmps t) (hr : st'.roots = st.roots) : pendOf T oy st' = pendOf T oy st := by
 have he : ∀ x ∈ oy.op.operands.toList, evalA st'.tmps x = evalA st.tmps x := fun x hx => by
  cases x with
  | tmp t => exact ht t (looks_tmp hx)
  | _ => rfl
 unfold pendOf
 rw [hr]
 cases ho : oy.op <;> try rfl
 rename_i t x y
 rw [ho] at he
 have hx := he x (by simp [Op.operands])
 have hy := he y (by simp [Op.operands])
 cases oy.dst <;> cases oy.guard <;> try rfl
 simp only [hx, hy]
theorem eval_put_ne {a : Act} {n d : Nat} (hs : a.tmps.size = n) (hd : d < n) {y : Operand} (h : ∀ t, y = .tmp t -> t ≠ d) (v : Value) : (a.put (some d) v).eval y = a.eval y := by
 cases y with
 | tmp t =>
  show (a.put (some d) v).tmps.getD t undef = a.tmps.getD t undef
  rw [getD_put hs hd, if_neg (h t rfl)]
 | _ => rfl
theorem wanted_none {o : Oper} (h : o.guard = none) (f : Nat -> Option Bool) : Region.wanted o f = true := by
 unfold Region.wanted
 rw [h]
theorem ready_hole {all : Array Oper} {listed : Array Bool} (hok : okOps C.n 0 all.toList = true) (hsz : listed.size = all.size) (hr : Region.ready .any all listed = []) : ∀ i, i < all.size -> listed.getD i false = true := by
 intro i
 induction i using Nat.strongRecOn with
 | _ i ih =>
  intro hi
  cases hl : listed.getD i false with
  | true => rfl
  | false =>
   exfalso
   have hoi : all[i]? = some all[i] := Array.getElem?_eq_getElem hi
   have hm : i ∈ Region.ready .any all listed := mem_ready.2 ⟨by simp [hsz, hi] at hl ⊢; exact hl, all[i], hoi, fun e he hb => by
    obtain ⟨_, h2⟩ := okOps_get hok (m := i) (o := all[i]) (by rw [Array.getElem?_toList]; exact hoi)
    have := h2 e (by simpa using he) hb
    exact ih e.on (by omega) (by omega)⟩
   rw [hr] at hm; cases hm
theorem forced_ok {A : Type} (hop : AllSound C T K) {all : Array Oper} {a0 : A} {Q : Exit -> Act -> World -> Prop} (hok : okOps C.n 0 all.toList = true) :
  ∀ (os : List Oper) (i : Nat) (st : St) (rs : List Rec) (k : St -> List Rec -> Option A), all.toList.drop i = os -> (∀ n, i <= n -> n < all.size -> ∀ m, m < n -> Nat.testBit ((masks all.toList []).getD n 0) m = true) ->
  runOps T K all.toList i os st rs k = some a0 -> (∀ st' rs', k st' rs' = some a0 -> ∀ D Sh act w, Rel C st' D Sh act w -> Q .normal act w) ->
  ∀ (fuel : Nat) (listed : Array Bool) (D : Nat -> DRoot) (Sh : Nat -> Prop) (act : Act) (w : World), listed.size = all.size -> left all.size listed <= fuel -> (∀ j, j < all.size -> (listed.getD j false = true ↔ j < i)) ->
   Rel C st D Sh act w -> wpAny C.P .any all Q fuel listed act w
 | [], i, st, rs, k, hd, hf, h, hk, fuel, listed, D, Sh, act, w, hsz, hleft, hl, hR => by
  have hi : all.size <= i := by
   have := congrArg List.length hd
   rw [List.length_drop, List.length_nil, Array.length_toList] at this
   omega
  have hq := hk st rs h D Sh act w hR
  have hr : Region.ready .any all listed = [] := by
   rw [List.eq_nil_iff_forall_not_mem]
   intro j hj
   obtain ⟨h1, o, h2, _⟩ := mem_ready.1 hj
   have hjn := (Array.getElem?_eq_some_iff.1 h2).1
   have := (hl j hjn).2 (by omega)
   simp [hsz, hjn] at h1 this
   rw [h1] at this; cases this
  cases fuel with
  | zero => exact ⟨hr, hq⟩
  | succ fuel => exact ⟨fun _ => hq, fun j hj => by rw [hr] at hj; cases hj⟩
 | o :: os, i, st, rs, k, hd, hf, h, hk, fuel, listed, D, Sh, act, w, hsz, hleft, hl, hR => by
  have hoi : all[i]? = some o := by
   have : (all.toList.drop i)[0]? = some o := by rw [hd]; rfl
   rw [List.getElem?_drop, Nat.add_zero, Array.getElem?_toList] at this
   exact this
  have hin : i < all.size := (Array.getElem?_eq_some_iff.1 hoi).1
  have hoi' : all.toList[i]? = some o := by rw [Array.getElem?_toList]; exact hoi
  have hd' : all.toList.drop (i + 1) = os := by rw [<- List.drop_drop, hd]; rfl
  have hli : listed.getD i false = false := by
   cases hb : listed.getD i false with
   | false => rfl
   | true => have := (hl i hin).1 hb; omega
  have hun : listed.getD i true = false := by
   simp [hsz, hin] at hli ⊢; exact hli
  have hdst := (okOps_get hok hoi').1
  cases fuel with
  | zero =>
   have := left_set (n := all.size) hin hun
   omega
  | succ fuel =>
   refine ⟨fun hr => ?_, fun j hj => ?_⟩
   ·have := ready_hole hok hsz hr i hin
    rw [hli] at this; cases this
   ·obtain ⟨hju, oj, hoj, hedge⟩ := mem_ready.1 hj
    have hjn : j < all.size := (Array.getElem?_eq_some_iff.1 hoj).1
    have hji : j = i := by
     have h1 : i <= j := by
      rcases Nat.lt_or_ge j i with h1 | h1
      ·have := (hl j hjn).2 h1
       simp [hsz, hjn] at hju this
       rw [hju] at this; cases this
      ·exact h1
     rcases Nat.lt_or_ge i j with h2 | h2
     ·exfalso
      have hb := hf j h1 hjn i h2
      have hcl : ∀ i' o', all.toList[i']? = some o' -> listed.getD i' false = true -> ∀ e ∈ o'.after.toList, Region.binds .any e = true -> listed.getD e.on false = true := fun i' o' ho' hl' e he hb' => by
       have hi' : i' < all.size := by rw [Array.getElem?_toList] at ho'; exact (Array.getElem?_eq_some_iff.1 ho').1
       have h3 := (hl i' hi').1 hl'
       have h4 := (okOps_get hok ho').2 e he hb'
       exact (hl e.on (by omega)).2 (by omega)
      have := masks_closed (L := fun i => listed.getD i false) hcl j j (Nat.le_refl _) oj (by rw [Array.getElem?_toList]; exact hoj) (fun e he hb' => hedge e (by simpa using he) hb') i hb
      rw [hli] at this; cases this
     ·omega
    subst hji
    rw [hoi] at hoj; cases hoj
    have hnl : ∀ m, m < all.size -> ((listed.setIfInBounds j true).getD m false = true ↔ m < j + 1) := fun m hm => by
     by_cases e : m = j
     ·subst e
      simp [hsz, hin]
     ·rw [getD_set_ne false (Ne.symm e), hl m hm]; omega
    have hnleft : left all.size (listed.setIfInBounds j true) <= fuel := by
     have := left_set (n := all.size) hin hun
     omega
    have hf' : ∀ n, j + 1 <= n -> n < all.size -> ∀ m, m < n -> Nat.testBit ((masks all.toList []).getD n 0) m = true := fun n h1 h2 => hf n (by omega) h2
    simp only [runOps] at h
    unfold wpOp
    rw [hoi]
    simp only
    cases hw : wantedP all.toList st.tmps o with
    | none => rw [hw] at h; cases h
    | some b =>
     rw [hw] at h
     simp only at h
     rw [wanted_ok hR hw]
     cases b with
     | false =>
      simp only [cond_false, Bool.false_eq_true, if_false] at h ⊢
      exact forced_ok hop hok os (j + 1) _ _ k hd' hf' h hk fuel _ D Sh _ w (by simp [hsz]) hnleft hnl (hR.undef hdst)
     | true =>
      simp only [cond_true, if_true] at h ⊢
      refine .inl ?_
      rw [Prog.cps_eq] at h
      have hgo : (bif guards all.toList j then splitB (opP T K o (evalA st.tmps)) else opP T K o (evalA st.tmps)).go st.roots = (opP T K o (evalA st.tmps)).go st.roots := by
       cases guards all.toList j
       ·rfl
       ·exact splitB_go _ _
      rw [hgo] at h
      cases hg : (opP T K o (evalA st.tmps)).go st.roots with
      | none => rw [hg] at h; cases h
      | some res =>
       rw [hg] at h
       simp only at h
       exact hop.sound o st res hdst hg D Sh act w _ Q hR (fun D' Sh' a' w' hR' => forced_ok hop hok os (j + 1) _ _ k hd' hf' h hk fuel _ D' Sh' a' w' (by simp [hsz]) hnleft hnl hR')
theorem pendSt_after {q : Pend} {st : St} {dst : Option Tmp} {av : AV} : (pendSt q st).after dst ⟨av, []⟩ = pendSt q (st.after dst ⟨av, []⟩) := by
 cases dst <;> rfl
theorem soft_spec {all : List Oper} {q : Pend} {oy : Oper} {x : Rec} (h : softRec all q oy x = true) : (∃ o, all[x.i]? = some o /\ softOp o = true /\ o.guard = none) /\ x.wr = [] /\ q.id ∉ x.ask /\ ∀ d, x.dst = some d -> d ∉ looks all oy := by
 unfold softRec at h
 simp only [Bool.and_eq_true] at h
 obtain ⟨h1, h2, h3, h4⟩ := h
 refine ⟨?_, by simpa using h2, (fun hm => by rw [memN_iff.2 hm] at h3; cases h3), fun d hd hm => ?_⟩
 ·cases ho : all[x.i]? with
  | none => rw [ho] at h1; cases h1
  | some o =>
   rw [ho] at h1
   refine ⟨o, rfl, h1, ?_⟩
   have h1 : softOp o = true := h1
   unfold softOp at h1
   rw [Bool.and_eq_true] at h1
   simpa using h1.1
 ·rw [hd] at h4
  simp only [Bool.not_eq_true'] at h4
  rw [memN_iff.2 hm] at h4; cases h4
theorem pend_ok (hop : AllSound C T K) {all : Array Oper} {my : Nat} {oy : Oper} {Q : Exit -> Act -> World -> Prop} {st0 st2 : St} {xs : List (Rec × Res)} {q : Pend} (hok : okOps C.n 0 all.toList = true) (hoy : all.toList[my]? = some oy) (hlen : xs.length = my)
  (hfact : ∀ n x o, xs[n]? = some x -> all.toList[n]? = some o -> RecOK all.toList n o x /\ Fact T K all.toList (Sof (fun m => Nat.blt m n) 0 xs st0) o x)
  (hcalm : calm (masks all.toList []) ((xs.map (·.1)).reverse) = true)
  (hq : pendOf T oy (Sof (fun _ => true) 0 xs st0) = some q)
  (hsoft : ∀ n x, xs[n]? = some x -> Nat.testBit ((masks all.toList []).getD my 0) n = true \/ softRec all.toList q oy x.1 = true)
  (hforce : ∀ n, my < n -> n < all.size -> ∀ m, m < n -> Nat.testBit ((masks all.toList []).getD n 0) m = true)
  (hres : ∀ D Sh act w, Rel C (pendSt q (Sof (fun _ => true) 0 xs st0)) D Sh act w -> act.eval (pendArg oy) = mkw q.t.agg (D q.id).dv.cs -> ∃ D', Rel C st2 D' Sh act w)
  (hrest : ∀ (fuel : Nat) (listed : Array Bool) (D : Nat -> DRoot) (Sh : Nat -> Prop) (act : Act) (w : World), listed.size = all.size -> left all.size listed <= fuel -> (∀ j, j < all.size -> (listed.getD j false = true ↔ j < my + 1)) -> Rel C st2 D Sh act w -> wpAny C.P .any all Q fuel listed act w) :
  ∀ (fuel : Nat) (listed : Array Bool) (D : Nat -> DRoot) (Sh : Nat -> Prop) (act : Act) (w : World), listed.size = all.size -> left all.size listed <= fuel ->
   (∀ i o, all.toList[i]? = some o -> listed.getD i false = true -> ∀ e ∈ o.after.toList, Region.binds .any e = true -> listed.getD e.on false = true) ->
   (∀ j, my < j -> listed.getD j false = false) ->
   ((listed.getD my false = false /\ Rel C (Sof (fun i => listed.getD i false) 0 xs st0) D Sh act w) \/
    (listed.getD my false = true /\ Rel C (pendSt q (Sof (fun i => listed.getD i false) 0 xs st0)) D Sh act w /\ act.eval (pendArg oy) = mkw q.t.agg (D q.id).dv.cs)) ->
   wpAny C.P .any all Q fuel listed act w := by
 have hn : all.toList.length = all.size := Array.length_toList
 have hmy : my < all.size := by rw [<- hn]; exact (List.getElem?_eq_some_iff.1 hoy).1
 have hoyA : all[my]? = some oy := by rw [<- Array.getElem?_toList]; exact hoy
 -- all is done
 have hend : ∀ (fuel : Nat) (listed : Array Bool) (D : Nat -> DRoot) (Sh : Nat -> Prop) (act : Act) (w : World), listed.size = all.size -> left all.size listed <= fuel -> (∀ j, my < j -> listed.getD j false = false) ->
   (∀ j, j <= my -> listed.getD j false = true) -> Rel C (pendSt q (Sof (fun i => listed.getD i false) 0 xs st0)) D Sh act w -> act.eval (pendArg oy) = mkw q.t.agg (D q.id).dv.cs -> wpAny C.P .any all Q fuel listed act w := by
  intro fuel listed D Sh act w hsz hleft habove hall hR hH
  rw [Sof_congr (L := fun i => listed.getD i false) (L' := fun _ => true) xs 0 st0 (fun n hlt => by rw [Nat.zero_add]; exact hall n (by omega))] at hR
  obtain ⟨D', hR'⟩ := hres D Sh act w hR hH
  refine hrest fuel listed D' Sh act w hsz hleft (fun j hj => ⟨fun h => ?_, fun h => hall j (by omega)⟩) hR'
  rcases Nat.lt_or_ge my j with h1 | h1
  ·rw [habove j h1] at h; cases h
  ·omega
 intro fuel
 induction fuel with
 | zero =>
  intro listed D Sh act w hsz hleft hcl habove hst
  -- nothing is left, so all is done
  have hall : ∀ j, j < all.size -> listed.getD j false = true := by
   intro j hj
   cases hl : listed.getD j false with
   | true => rfl
   | false =>
    exfalso
    have := left_set (n := all.size) hj (listed := listed) (by simp [hsz, hj] at hl ⊢; exact hl)
    omega
  rcases hst with ⟨h1, _⟩ | ⟨_, hR, hH⟩
  ·rw [hall my hmy] at h1; cases h1
  ·exact hend 0 listed D Sh act w hsz hleft habove (fun j hj => hall j (by omega)) hR hH
 | succ fuel ih =>
  intro listed D Sh act w hsz hleft hcl habove hst
  by_cases hdone : ∀ j, j <= my -> listed.getD j false = true
  ·rcases hst with ⟨h1, _⟩ | ⟨_, hR, hH⟩
   ·rw [hdone my (Nat.le_refl _)] at h1; cases h1
   ·exact hend (fuel + 1) listed D Sh act w hsz hleft habove hdone hR hH
  ·obtain ⟨j0, hj0, hj0u⟩ : ∃ j, j <= my /\ listed.getD j false = false := by
    refine Classical.byContradiction fun hn => hdone fun j hj => ?_
    cases hb : listed.getD j false with
    | true => rfl
    | false => exact absurd ⟨j, hj, hb⟩ hn
   refine ⟨fun hr => ?_, fun j hj => ?_⟩
   ·have := ready_hole hok hsz hr j0 (by omega)
    rw [hj0u] at this; cases this
   obtain ⟨hun, o, hoj, hedge⟩ := mem_ready.1 hj
   have hjn : j < all.size := (Array.getElem?_eq_some_iff.1 hoj).1
   have hoj' : all.toList[j]? = some o := by rw [Array.getElem?_toList]; exact hoj
   have hLj : listed.getD j false = false := by
    simp [hsz, hjn] at hun ⊢; exact hun
   have hedge' : ∀ e ∈ o.after.toList, Region.binds .any e = true -> listed.getD e.on false = true := fun e he hb => hedge e (by simpa using he) hb
   have hbit : ∀ m, Nat.testBit ((masks all.toList []).getD j 0) m = true -> listed.getD m false = true := fun m hb => masks_closed (L := fun i => listed.getD i false) hcl j j (Nat.le_refl _) o hoj' hedge' m hb
   have hjmy : j <= my := by
    rcases Nat.lt_or_ge my j with h1 | h1
    ·have := hbit j0 (hforce j h1 hjn j0 (by omega))
     rw [hj0u] at this; cases this
    ·exact h1
   have hcl' : ∀ i oi, all.toList[i]? = some oi -> (listed.setIfInBounds j true).getD i false = true -> ∀ e ∈ oi.after.toList, Region.binds .any e = true -> (listed.setIfInBounds j true).getD e.on false = true := fun i oi hoi hli e he hb => by
    by_cases hij : i = j
    ·subst hij
     rw [hoj'] at hoi; cases hoi
     exact getD_set_true (hedge' e he hb)
    ·rw [getD_set_ne false (Ne.symm hij)] at hli
     exact getD_set_true (hcl i oi hoi hli e he hb)
   have hleft' : left all.size (listed.setIfInBounds j true) <= fuel := by
    have := left_set (n := all.size) hjn hun
    omega
   have habove' : ∀ m, my < m -> (listed.setIfInBounds j true).getD m false = false := fun m hm => by
    rw [getD_set_ne false (by omega)]; exact habove m hm
   have hdst := (okOps_get hok hoj').1
   rcases Nat.lt_or_eq_of_le hjmy with hjlt | rfl
   case inr =>
    -- the store itself
    rw [hoy] at hoj'; cases hoj'
    rcases hst with ⟨_, hR⟩ | ⟨h1, _⟩
    case inr => rw [hLj] at h1; cases h1
    have hun_soft : ∀ n x, xs[n]? = some x -> listed.getD n false = false -> softRec all.toList q oy x.1 = true := fun n x hx hl => by
     rcases hsoft n x hx with hb | hs
     ·have := hbit n hb
      rw [hl] at this; cases this
     ·exact hs
    have hqL : pendOf T oy (Sof (fun i => listed.getD i false) 0 xs st0) = some q := by
     rw [<- hq]
     refine pendOf_congr (all := all.toList) (fun t ht => ?_) (funext fun id => ?_)
     ·refine Sof_tmp xs 0 st0 st0 (fun n x hx hd => ?_) rfl
      rw [Nat.zero_add]
      cases hl : listed.getD n false with
      | true => rfl
      | false => exact absurd ht ((soft_spec (hun_soft n x hx hl)).2.2.2 t hd)
     ·refine Sof_root xs 0 st0 st0 (fun n x hx hid => ?_) rfl
      rw [Nat.zero_add]
      cases hl : listed.getD n false with
      | true => rfl
      | false =>
       have hs := (soft_spec (hun_soft n x hx hl)).2.1
       have hno : n < all.toList.length := by have := (List.getElem?_eq_some_iff.1 hx).1; omega
       have ry := (hfact n x _ hx (List.getElem?_eq_getElem hno)).1
       rw [<- ry.2.2.2, hs] at hid
       cases hid
    obtain ⟨D', w', hrun, hR', hH'⟩ := hop.pend oy _ q hqL D Sh act w hR
    obtain ⟨_, _, _, _, _, _, _, hyd, hyg, _⟩ := pendOf_some hqL
    unfold wpOp
    rw [hoyA]
    simp only
    rw [wanted_none hyg]
    simp only [if_true]
    refine .inl (wp_skip' hrun ?_)
    rw [hyd]
    refine ih _ D' Sh act w' (by simp [hsz]) hleft' hcl' habove' (.inr ⟨by simp [hsz, hjn], ?_, hH'⟩)
    rw [Sof_congr (L := fun i => (listed.setIfInBounds j true).getD i false) (L' := fun i => listed.getD i false) xs 0 st0 (fun n hlt => by
     rw [Nat.zero_add]; exact getD_set_ne false (by omega))]
    exact hR'
   -- one that reads
   have hxl : j < xs.length := by omega
   have hxj : xs[j]? = some xs[j] := List.getElem?_eq_getElem hxl
   generalize hxe : xs[j] = x at hxj
   obtain ⟨⟨r1, r2, r3, r4⟩, hF⟩ := hfact j x o hxj hoj'
   have hbelow : ∀ m y, m < j -> xs[m]? = some y -> listed.getD m false = false -> Apart y.1 x.1 := by
    intro m y hm hy hl
    rcases calm_get hcalm hm hy hxj with hb | hb
    ·exfalso
     have hom : all.toList[m]? = some all.toList[m] := List.getElem?_eq_getElem (by omega)
     have ry := (hfact m y _ hy hom).1
     rw [r1, ry.1] at hb
     have := hbit m hb
     rw [hl] at this; cases this
    ·exact apart_of hb
   have hab : ∀ m y, j < m -> xs[m]? = some y -> listed.getD m false = true -> Apart x.1 y.1 := by
    intro m y hm hy hl
    rcases calm_get hcalm hm hxj hy with hb | hb
    ·exfalso
     have hmn : m < all.toList.length := by have := (List.getElem?_eq_some_iff.1 hy).1; omega
     have hom : all.toList[m]? = some all.toList[m] := List.getElem?_eq_getElem hmn
     have ry := (hfact m y _ hy hom).1
     rw [r1, ry.1] at hb
     have := masks_closed (L := fun i => listed.getD i false) hcl m m (Nat.le_refl _) _ hom (hcl m _ hom hl) j hb
     rw [hLj] at this; cases this
    ·exact apart_of hb
   have hF2 : Fact T K all.toList (Sof (fun i => listed.getD i false) 0 xs st0) o x := by
    refine hF.of r3 (fun t ht => ?_) (fun id hid => ?_)
    ·refine Sof_tmp xs 0 st0 st0 (fun m y hy hd => ?_) rfl
     rw [Nat.zero_add]
     rcases Nat.lt_trichotomy m j with hm | hm | hm
     ·rw [show Nat.blt m j = true by rw [Nat.blt_eq]; exact hm]
      cases hl : listed.getD m false with
      | true => rfl
      | false => exact absurd ht ((hbelow m y hm hy hl).xr t hd)
     ·subst hm
      rw [hLj]
      cases hb : Nat.blt m m with
      | false => rfl
      | true => rw [Nat.blt_eq] at hb; omega
     ·rw [show Nat.blt m j = false by
       cases hb : Nat.blt m j with
       | false => rfl
       | true => rw [Nat.blt_eq] at hb; omega]
      cases hl : listed.getD m false with
      | false => rfl
      | true => exact absurd ht ((hab m y hm hy hl).yr t hd)
    ·refine Sof_root xs 0 st0 st0 (fun m y hy hd => ?_) rfl
     rw [Nat.zero_add]
     have hmn : m < all.toList.length := by have := (List.getElem?_eq_some_iff.1 hy).1; omega
     have ry := (hfact m y _ hy (List.getElem?_eq_getElem hmn)).1
     rcases Nat.lt_trichotomy m j with hm | hm | hm
     ·rw [show Nat.blt m j = true by rw [Nat.blt_eq]; exact hm]
      cases hl : listed.getD m false with
      | true => rfl
      | false => exact absurd hid ((hbelow m y hm hy hl).wa id (by rw [ry.2.2.2]; exact hd))
     ·subst hm
      rw [hLj]
      cases hb : Nat.blt m m with
      | false => rfl
      | true => rw [Nat.blt_eq] at hb; omega
     ·rw [show Nat.blt m j = false by
       cases hb : Nat.blt m j with
       | false => rfl
       | true => rw [Nat.blt_eq] at hb; omega]
      cases hl : listed.getD m false with
      | false => rfl
      | true => exact absurd (show id ∈ y.1.wr by rw [ry.2.2.2]; exact hd) ((hab m y hm hy hl).aw id hid)
   have hstep : Sof (fun i => (listed.setIfInBounds j true).getD i false) 0 xs st0 = (Sof (fun i => listed.getD i false) 0 xs st0).after o.dst x.2 := by
    rw [<- r2]
    refine Sof_add j xs 0 st0 hxj (by rw [Nat.zero_add]; exact hLj) ?_ (fun m hm => ?_) (fun m y hm hy hl => ?_)
    ·rw [Nat.zero_add]; simp [hsz, hjn]
    ·exact getD_set_ne false (fun e => hm (by omega))
    ·rw [Nat.zero_add] at hl
     have hmn : m < all.toList.length := by have := (List.getElem?_eq_some_iff.1 hy).1; omega
     have ry := (hfact m y _ hy (List.getElem?_eq_getElem hmn)).1
     have A := hab m y hm hy hl
     exact ⟨A.xy, fun k hk => by rw [<- ry.2.2.2]; exact A.ww k (by rw [r4]; exact hk)⟩
   have hmyset : (listed.setIfInBounds j true).getD my false = listed.getD my false := getD_set_ne false (by omega)
   rcases hst with ⟨h1, hR⟩ | ⟨h1, hR, hH⟩
   ·
    have hnext : ∀ (D' : Nat -> DRoot) (Sh' : Nat -> Prop) (act' : Act) (w' : World), Rel C ((Sof (fun i => listed.getD i false) 0 xs st0).after o.dst x.2) D' Sh' act' w' -> wpAny C.P .any all Q fuel (listed.setIfInBounds j true) act' w' := fun D' Sh' act' w' hR' =>
     ih _ D' Sh' act' w' (by simp [hsz]) hleft' hcl' habove' (.inl ⟨by rw [hmyset]; exact h1, by rw [hstep]; exact hR'⟩)
    unfold wpOp
    rw [hoj]
    simp only
    rcases hF2 with ⟨a1, a2, a3⟩ | ⟨a1, a2⟩
    ·rw [wanted_ok hR a1]
     simp only [if_true]
     exact .inl (hop.sound o _ x.2 hdst a2 D Sh act w _ Q hR hnext)
    ·rw [wanted_ok hR a1]
     simp only [Bool.false_eq_true, if_false]
     refine hnext D Sh _ w ?_
     rw [a2]
     exact hR.undef hdst
   ·
    have hsr : softRec all.toList q oy x.1 = true := by
     rcases hsoft j x hxj with hb | hs
     ·exfalso
      have := masks_closed (L := fun i => listed.getD i false) hcl my my (Nat.le_refl _) oy hoy (hcl my oy hoy h1) j hb
      rw [hLj] at this; cases this
     ·exact hs
    obtain ⟨⟨o', ho', hso, hgo⟩, hwr, hask, hdl⟩ := soft_spec hsr
    rw [r1, hoj'] at ho'; cases ho'
    have hw1 : wantedP all.toList (Sof (fun i => listed.getD i false) 0 xs st0).tmps o = some true := by unfold wantedP; rw [hgo]
    rcases hF2 with ⟨a1, a2, a3⟩ | ⟨a1, _⟩
    case inr => rw [hw1] at a1; cases a1
    have a2' : (opP T K o (evalA (pendSt q (Sof (fun i => listed.getD i false) 0 xs st0)).tmps)).go (pendSt q (Sof (fun i => listed.getD i false) 0 xs st0)).roots = some x.2 := by
     rw [<- a2]
     exact (Prog.go_congr (R := (Sof (fun i => listed.getD i false) 0 xs st0).roots) (R' := (pendSt q (Sof (fun i => listed.getD i false) 0 xs st0)).roots) (opP T K o (evalA (Sof (fun i => listed.getD i false) 0 xs st0).tmps)) (fun id hid => upt_ne _ _ (fun e => hask (e ▸ a3 id hid)))).1
    obtain ⟨av, hx2, hquiet⟩ := hop.quiet o _ x.2 hdst hso a2'
    obtain ⟨v, hrun, hav⟩ := hquiet D Sh act w hR
    unfold wpOp
    rw [hoj]
    simp only
    rw [wanted_none hgo]
    simp only [if_true]
    refine .inl (wp_value hrun ?_)
    refine ih _ D Sh _ w (by simp [hsz]) hleft' hcl' habove' (.inr ⟨by rw [hmyset]; exact h1, ?_, ?_⟩)
    ·rw [hstep, hx2, <- pendSt_after]
     exact hR.set hdst hav
    ·cases hd : o.dst with
     | none => exact hH
     | some d =>
      rw [<- hH]
      refine eval_put_ne hR.size (by rw [hd] at hdst; simpa [dstOk, Nat.blt_eq] using hdst) (fun t ht e => ?_) v
      subst e
      refine hdl t (by rw [r2, hd]) (looks_tmp ?_)
      obtain ⟨t0, x0, y0, _, _, _, hyo, _⟩ := pendOf_some hq
      have : pendArg oy = y0 := by unfold pendArg; rw [hyo]
      rw [this] at ht
      rw [hyo, <- ht]
      simp [Op.operands]
theorem pend_region {A : Type} (hop : AllSound C T K) (hm : C.P.follows .mixedOrders = true) {id my : Nat} {items : List Item} {all : Array Oper} {draw : Bool} {a0 : A} {Q : Exit -> Act -> World -> Prop} {oy : Oper} {st : St} {k : St -> Option A} (hoy : all.toList[my]? = some oy) (hok : okOps C.n 0 all.toList = true)
  (h : runOps T K all.toList 0 (all.toList.take my) st [] (fun st1 rs => match pendOf T oy st1 with
    | some q => bif draw && pendCalm my all.toList rs q oy then match resolveL items q st1 with
      | some st2 => runOps T K all.toList (my + 1) (all.toList.drop (my + 1)) st2 [] fun st3 _ => k st3
      | none => none
     else none
    | none => none) = some a0) (hk : ∀ st', k st' = some a0 -> ∀ D Sh act w, Rel C st' D Sh act w -> Q .normal act w) :
  ∀ D Sh act w, Rel C st D Sh act w -> (Code.region id all draw).wp C.P Q act w := by
 intro D Sh act w hR
 have hmy : my < all.toList.length := (List.getElem?_eq_some_iff.1 hoy).1
 have hn : all.toList.length = all.size := Array.length_toList
 obtain ⟨xs, e1, e2, e3⟩ := ran_of (all.toList.take my) 0 st [] _ h
 rw [List.length_take, Nat.min_eq_left (by omega)] at e1
 simp only [List.append_nil] at e2
 cases hq : pendOf T oy (Sof (fun _ => true) 0 xs st) with
 | none => rw [hq] at e2; cases e2
 | some q =>
  rw [hq] at e2
  simp only at e2
  cases hc : (draw && pendCalm my all.toList (xs.map (·.1)).reverse q oy) with
  | false => rw [hc] at e2; cases e2
  | true =>
   rw [hc] at e2
   simp only [cond_true] at e2
   rw [Bool.and_eq_true] at hc
   obtain ⟨rfl, hc⟩ := hc
   cases hres : resolveL items q (Sof (fun _ => true) 0 xs st) with
   | none => rw [hres] at e2; cases e2
   | some st2 =>
    rw [hres] at e2
    simp only at e2
    unfold pendCalm at hc
    simp only [Bool.and_eq_true, List.all_eq_true, Bool.or_eq_true] at hc
    obtain ⟨c1, c2, c3⟩ := hc
    have hfact : ∀ n x o, xs[n]? = some x -> all.toList[n]? = some o -> RecOK all.toList n o x /\ Fact T K all.toList (Sof (fun m => Nat.blt m n) 0 xs st) o x := fun n x o hx ho => by
     have hlt : n < my := by have := (List.getElem?_eq_some_iff.1 hx).1; omega
     have := e3 n x o hx (by rw [List.getElem?_take, if_pos hlt]; exact ho)
     rw [Nat.zero_add] at this
     exact this
    refine wp_region_any hm ?_
    refine pend_ok hop hok hoy e1 (st0 := st) (st2 := st2) (q := q) hfact c1 hq (fun n x hx => ?_) (fun n h1 h2 m hm' => ?_) (fun D' Sh' act' w' hR' hH' => resolveL_ok hq hres hR' hH') (fun fuel listed D' Sh' act' w' hsz hleft hl hR' => ?_) all.size _ D Sh act _ (by simp) ?_ (fun i o hi hl => ?_) (fun j hj => ?_) (.inl ⟨?_, ?_⟩)
    ·have hlt : n < my := by have := (List.getElem?_eq_some_iff.1 hx).1; omega
     have := c2 x.1 (List.mem_reverse.2 (List.mem_map.2 ⟨x, List.mem_of_getElem? hx, rfl⟩))
     have ry := (hfact n x _ hx (List.getElem?_eq_getElem (by omega))).1
     rw [ry.1] at this
     exact this
    ·have := c3 n (List.mem_range.2 (by omega))
     rcases this with h3 | h3
     ·rw [Nat.ble_eq] at h3; omega
     ·exact h3 m (List.mem_range.2 hm')
    ·exact forced_ok hop hok (all.toList.drop (my + 1)) (my + 1) st2 [] _ rfl (fun n h1 h2 m hm' => by
      have := c3 n (List.mem_range.2 (by omega))
      rcases this with h3 | h3
      ·rw [Nat.ble_eq] at h3; omega
      ·exact h3 m (List.mem_range.2 hm')) e2 (fun st' rs' h' => hk st' h') fuel listed D' Sh' act' w' hsz hleft hl hR'
    ·unfold left
     refine Nat.le_trans (List.length_filter_le _ _) ?_
     rw [List.length_range]; exact Nat.le_refl _
    ·exfalso
     simp [Array.getElem?_replicate] at hl
     split at hl <;> simp at hl
    ·simp [Array.getElem?_replicate]; split <;> rfl
    ·simp [Array.getElem?_replicate]; split <;> rfl
    ·rw [Sof_none _ _ _ _ (fun m _ => by simp [Array.getElem?_replicate]; split <;> rfl)]
     exact hR.drew
end
end Go.Proofs.YtipaepbmdooekaaGreat.Vm
namespace Go.Proofs.YtipaepbmdooekaaGreat.Vm
open Go Go.RowKit
set_option linter.unusedVariables false
section
variable {C : Ctx} {T : Nat -> AV} {R : Nat -> Option Root} {D : Nat -> DRoot} {Sh : Nat -> Prop} {F : List DV} {a : Act} {w : World}
theorem injR_none {R0 : Nat -> Option Root} {id : Nat} : ∀ {is : List Item} {x : itemsT is}, id ∉ itemIds is -> injR R0 is x id = none
 | [], x, h => rfl
 | .pat s p :: is, x, h => injR_none (is := is) h
 | .own s t :: is, x, h => by
  simp only [injR]
  rw [nbeq (fun e => h (by rw [<- e]; exact List.mem_cons_self))]
  exact injR_none (fun hm => h (List.mem_cons_of_mem _ hm))
 | .root k blk t ps :: is, x, h => by
  simp only [injR]
  rw [nbeq (fun e => h (by rw [<- e]; exact List.mem_cons_self))]
  exact injR_none (fun hm => h (List.mem_cons_of_mem _ hm))
theorem injR_root {R0 : Nat -> Option Root} {id : Nat} {r' : Root} : ∀ {is : List Item} {x : itemsT is}, is.all isRoot = true -> Told R0 T w Sh R D a is x [] -> injR R0 is x id = some r' ->
  ∃ r0 r, R0 id = some r0 /\ R id = some r /\ r' = ⟨r.v, r.blk, clean r0.log, r.org, r.pin⟩ /\ (∀ i, r.org = some i -> since r0.log 0 1 false = true -> since r.log 0 1 false = true)
 | [], x, ha, h, hi => by cases hi
 | .pat s p :: is, x, ha, h, hi => by simp [isRoot] at ha
 | .own s t :: is, x, ha, h, hi => by simp [isRoot] at ha
 | .root k blk t ps :: is, x, ha, h, hi => by
  obtain ⟨⟨r0, r, g0, g1, g2, g3, g4, g5, g6, g7, _⟩, h2⟩ := h
  simp only [injR] at hi
  by_cases e : k = id
  ·subst e
   rw [show Nat.beq k k = true by simp] at hi
   simp only [cond_true, g0, rootR] at hi
   cases hi
   exact ⟨r0, r, g0, g1, by rw [g2, g3, g5, g6], g7⟩
  ·rw [nbeq e] at hi
   exact injR_root (is := is) (by simpa [isRoot] using ha) h2 hi
theorem injT_root {R0 : Nat -> Option Root} {t : Nat} : ∀ {is : List Item} {x : itemsT is}, is.all isRoot = true -> nodupN (itemIds is) = true -> Told R0 T w Sh R D a is x [] -> injT is x t = .any \/ ∃ k blk ty r r', injT is x t = rootAV k blk ty /\ R k = some r /\ r.v.t = ty /\ r.blk = blk /\ injR R0 is x k = some r' /\
   (blk = true -> ∃ s', T t = .ptr k [] s') /\ (blk = false -> ∃ s', T t = .al k [] s' ty /\ since r.log s' 1 (!ty.agg) = true)
 | [], x, ha, hn, h => .inl rfl
 | .pat s p :: is, x, ha, hn, h => by simp [isRoot] at ha
 | .own s t :: is, x, ha, hn, h => by simp [isRoot] at ha
 | .root k blk ty ps :: is, x, ha, hn, h => by
  obtain ⟨⟨r0, r, g0, g1, g2, g3, g4, g5, g6, g7, g8, g9⟩, h2⟩ := h
  obtain ⟨hk, hnn⟩ := nodupN_cons (show nodupN (k :: itemIds is) = true from hn)
  simp only [injT]
  cases hp : ps.any (Nat.beq t) with
  | true =>
   right
   obtain ⟨s, hs, hb⟩ := List.any_eq_true.1 hp
   have e := Nat.eq_of_beq_eq_true hb
   subst e
   refine ⟨k, blk, ty, r, ⟨⟨ty, x.1⟩, r0.blk, clean r0.log, r0.org, r0.pin⟩, rfl, g1, by rw [g2], g4, ?_, g8 t hs, g9 t hs⟩
   simp only [injR]
   rw [show Nat.beq k k = true by simp]
   simp only [cond_true, g0, rootR]
  | false =>
   rcases injT_root (is := is) (by simpa [isRoot] using ha) hnn h2 with h | ⟨k', blk', ty', r', r'', e1, e2, e3, e4, e5, e6⟩
   ·exact .inl h
   ·refine .inr ⟨k', blk', ty', r', r'', e1, e2, e3, e4, ?_, e6⟩
    simp only [injR]
    have hne : k ≠ k' := fun e => by
     rw [<- e, injR_none hk] at e5; cases e5
    rw [nbeq hne]
    exact e5
theorem told_nil {R0 : Nat -> Option Root} : ∀ {is : List Item} {x : itemsT is} {zs : List DV}, is.all isRoot = true -> Told R0 T w Sh R D a is x zs -> zs = []
 | [], x, zs, ha, h => h
 | .pat s p :: is, x, zs, ha, h => by simp [isRoot] at ha
 | .own s t :: is, x, zs, ha, h => by simp [isRoot] at ha
 | .root k blk t ps :: is, x, zs, ha, h => told_nil (is := is) (by simpa [isRoot] using ha) h.2
theorem roots_ok {R0 : Nat -> Option Root} {is : List Item} {x : itemsT is} (ha : is.all isRoot = true) (hn : nodupN (itemIds is) = true) (hF : RelF C ⟨T, R⟩ D Sh F a w) (h : Told R0 T w Sh R D a is x []) : ∃ D', RelF C ⟨injT is x, injR R0 is x⟩ D' Sh F a w := by
 let D' : Nat -> DRoot := fun k => ⟨(D k).dv, (D k).b, match R k with
  | some r => bif r.org.isSome then (D k).c0 else (D k).dv.cs
  | none => []⟩
 have hfoot : ∀ k, (D' k).foot = (D k).foot := fun _ => rfl
 refine ⟨D', ⟨⟨hF.rel.os, hF.rel.tape, hF.rel.output, hF.rel.hsz, hF.rel.block, hF.rel.sh0, hF.rel.shn, fun id r' hr' => ?_, fun i j ri rj hij hi hj b hb => ?_, fun id r' hr' b hb => ?_, fun t => ?_, hF.rel.size, hF.rel.defers⟩, hF.fok, hF.fnd, fun b hb => ?_⟩⟩
 ·obtain ⟨r0, r, g0, g1, rfl, g3⟩ := injR_root ha h hr'
  have RR := hF.rel.root id r g1
  have hc0 : (D' id).c0 = bif r.org.isSome then (D id).c0 else (D id).dv.cs := by
   show (match R id with
    | some r => bif r.org.isSome then (D id).c0 else (D id).dv.cs
    | none => []) = _
   rw [g1]
  refine ⟨RR.er, RR.ok, RR.blk, RR.loc, RR.nd, fun hs => ?_, fun i hi => ?_, RR.pin⟩
  ·rw [hc0]
   cases ho : r.org with
   | none => rfl
   | some i => exact RR.top (g3 i ho (clean_since hs))
  ·rw [hc0]
   have hi : r.org = some i := hi
   rw [hi]
   exact RR.org i hi
 ·obtain ⟨_, r1, _, g1, _⟩ := injR_root ha h hi
  obtain ⟨_, r2, _, g2, _⟩ := injR_root ha h hj
  exact hF.rel.dis i j r1 r2 hij g1 g2 b hb
 ·obtain ⟨_, r1, _, g1, _⟩ := injR_root ha h hr'
  exact hF.rel.fresh id r1 g1 b hb
 ·rcases injT_root ha hn h (t := t) with e | ⟨k, blk, ty, r, r', e1, e2, e3, e4, e5, e6, e7⟩
  ·show AVR w Sh _ D' (injT is x t) _
   rw [e]; trivial
  ·show AVR w Sh _ D' (injT is x t) _
   rw [e1]
   have hv := hF.rel.tmp t
   cases blk with
   | true =>
    obtain ⟨s', hT⟩ := e6 rfl
    have hv : AVR w Sh R D (T t) (a.tmps.getD t undef) := hv
    rw [hT] at hv
    obtain ⟨k0, o, u, hl, hvv⟩ := ptr_look hv e2 (since_zero _ _ _)
    exact ⟨_, ⟨_, rfl, r', e5, Nat.zero_le _, fun _ => ⟨k0, o, u, hl, hvv⟩⟩, rfl⟩
   | false =>
    obtain ⟨s', hT, hs⟩ := e7 rfl
    have hv : AVR w Sh R D (T t) (a.tmps.getD t undef) := hv
    rw [hT] at hv
    obtain ⟨cs, ⟨hfl, r1, hr1, _, hal⟩, hvv⟩ := hv
    rw [e2] at hr1; cases hr1
    obtain ⟨b, u, hl, ht, hcs⟩ := hal hs
    exact ⟨cs, ⟨hfl, r', e5, Nat.zero_le _, fun _ => ⟨b, u, hl, ht, hcs⟩⟩, hvv⟩
 ·obtain ⟨g1, g2⟩ := hF.fdis b hb
  refine ⟨fun id r' hr' => ?_, g2⟩
  obtain ⟨_, r1, _, e1, _⟩ := injR_root ha h hr'
  exact g1 id r1 e1
theorem RelF.slots (hF : RelF C ⟨T, R⟩ D Sh F a w) {T' : Nat -> AV} (h : ∀ t, AVR w Sh R D (T' t) (a.tmps.getD t undef)) : RelF C ⟨T', R⟩ D Sh F a w :=
 ⟨⟨hF.rel.os, hF.rel.tape, hF.rel.output, hF.rel.hsz, hF.rel.block, hF.rel.sh0, hF.rel.shn, hF.rel.root, hF.rel.dis, hF.rel.fresh, h, hF.rel.size, hF.rel.defers⟩, hF.fok, hF.fnd, hF.fdis⟩
theorem assemble {R0 : Nat -> Option Root} : ∀ {is : List Item} {x : itemsT is} {zs : List DV} {F : List DV}, rootsLast is = true -> nodupN (itemIds is) = true -> RelF C ⟨T, R⟩ D Sh (zs ++ F) a w -> Told R0 T w Sh R D a is x zs -> ∃ D', RelF C ⟨injT is x, injR R0 is x⟩ D' Sh F a w
 | [], x, zs, F, hr, hn, hF, h => by
  have h : zs = [] := h
  subst h
  exact roots_ok (is := []) (x := ()) rfl rfl hF rfl
 | .pat s p :: is, x, zs, F, hr, hn, hF, h => by
  obtain ⟨D', hF'⟩ := assemble (is := is) (x := x.2) (by simpa [rootsLast, isRoot] using hr) hn hF h.2
  refine ⟨D', hF'.slots (fun t => ?_)⟩
  simp only [injT]
  by_cases e : s = t
  ·subst e
   rw [show Nat.beq s s = true by simp]
   have h1 := pat_avs.1 h.1
   obtain ⟨cs, hc, hv⟩ := h1
   exact pat_avs.2 ⟨cs, avr_pat (w' := w) hc, hv⟩
  ·rw [nbeq e]; exact hF'.rel.tmp t
 | .own s t :: is, x, zs, F, hr, hn, hF, h => by
  obtain ⟨d, zs', rfl, h2, h3, h4, h5⟩ := h
  obtain ⟨hk, hnn⟩ := nodupN_cons (show nodupN (ownId s :: itemIds is) = true from hn)
  obtain ⟨D', hF'⟩ := assemble (is := is) (x := x.2) (F := ⟨t, d⟩ :: F) (by simpa [rootsLast, isRoot] using hr) hnn (hF.perm (List.perm_middle).symm) h5
  have hnone : injR R0 is x.2 (ownId s) = none := injR_none hk
  obtain ⟨K, hF2⟩ := hF'.hold (id := ownId s) hnone (org := none) (fun i hi => by cases hi)
  have her : DV.er ⟨t, d⟩ = ⟨t, x.1⟩ := congrArg (V.mk t) h2
  have hR : upt (injR R0 is x.2) (ownId s) (some ⟨DV.er ⟨t, d⟩, false, [], none, none⟩) = injR R0 (.own s t :: is) x := by
   funext id
   simp only [injR, upt, her]
   by_cases e : id = ownId s
   ·subst e; rfl
   ·rw [nbeq e, nbeq (Ne.symm e)]
  rw [show (⟨injT is x.2, injR R0 is x.2⟩ : St).roots = injR R0 is x.2 from rfl] at K hF2
  have hal : AVR w Sh (upt (injR R0 is x.2) (ownId s) (some ⟨DV.er ⟨t, d⟩, false, [], none, none⟩)) (upt D' (ownId s) ⟨⟨t, d⟩, none, DV.cs ⟨t, d⟩⟩) (.al (ownId s) [] 0 t) (a.tmps.getD s undef) := by
   rw [h3]
   exact ⟨_, al_of_hold (u := ⟨t, d⟩) h4, rfl⟩
  rw [hR] at hF2 K hal
  refine ⟨_, hF2.slots (fun t' => ?_)⟩
  simp only [injT]
  by_cases e : s = t'
  ·subst e
   rw [show Nat.beq s s = true by simp]
   exact hal
  ·rw [nbeq e]; exact K.avr (hF'.rel.tmp t')
 | .root k blk t ps :: is, x, zs, F, hr, hn, hF, h => by
  have hall : (Item.root k blk t ps :: is).all isRoot = true := by
   have : is.all isRoot = true := by simpa [rootsLast, isRoot] using hr
   simp only [List.all_cons, isRoot, this, Bool.and_self]
  have hz := told_nil hall h
  subst hz
  exact roots_ok hall hn hF h
theorem head_ok {R0 : Nat -> Option Root} {is : List Item} {x : itemsT is} (hi : itemsOk is = true) (hm : matchL R0 T R is [] = some x) (hR : Rel C ⟨T, R⟩ D Sh a w) : ∃ D' Sh', Rel C (inj R0 is x) D' Sh' a w := by
 unfold itemsOk at hi
 rw [Bool.and_eq_true] at hi
 obtain ⟨R', D', Sh', zs, h1, h2, h3, h4, _⟩ := match_ok hm hi.1 hi.2 hR.F
 obtain ⟨D2, hF⟩ := assemble (F := []) hi.1 hi.2 h3 h4
 exact ⟨D2, Sh', hF.rel⟩
end
def exOf : Ex -> Exit
 | .normal => .normal
 | .exit j => .exit j
 | .ret => .ret
def okC (n : Nat) : Code -> Bool
 | .skip => true
 | .region _ ops _ => okOps n 0 ops.toList
 | .seq a b => okC n a && okC n b
 | .cond _ a b => okC n a && okC n b
 | .block _ c => okC n c
 | .exit _ => true
 | .ret => true
 | .loop c => okC n c
 | _ => false
theorem loopO_some {X A : Type} {step : X -> Option (Lp X A)} {x : X} {y : X ⊕ A} (h : loopO step x = some y) : ∃ n, iterO step n x = some y := by
 unfold loopO at h
 split at h
 ·rename_i hex
  cases h
  exact Classical.choose_spec hex
 ·cases h
section
variable {C : Ctx} {T : List (TypeId × TRow)} {K : Cons} {L : Loops}
theorem runC_ok (hop : AllSound C T K) (hmo : C.P.follows .mixedOrders = true) : ∀ (c : Code) (hok : okC C.n c = true) {A : Type} (st : St) (k : Ex -> St -> Option A) (a : A), runC T K L c st k = some a -> ∀ (Q : Exit -> Act -> World -> Prop),
  (∀ e st', k e st' = some a -> ∀ D Sh act w, Rel C st' D Sh act w -> Q (exOf e) act w) -> ∀ D Sh act w, Rel C st D Sh act w -> c.wp C.P Q act w
 | .skip, hok, A, st, k, a, h, Q, hk, D, Sh, act, w, hR => wp_skip (hk .normal st h D Sh act w hR)
 | .region id ops draw, hok, A, st, k, a, h, Q, hk, D, Sh, act, w, hR => by
  simp only [runC] at h
  cases hl2 : L (id + 2000000) with
  | some l =>
   rw [hl2] at h
   simp only at h
   cases hoy : ops.toList[l.out]? with
   | none => rw [hoy] at h; cases h
   | some oy =>
    rw [hoy] at h
    exact pend_region (k := k .normal) hop hmo hoy hok h (fun st' h' => hk .normal st' h') D Sh act w hR
  | none =>
  rw [hl2] at h
  simp only at h
  cases hl : L (id + 1000000) with
  | none =>
   rw [hl] at h
   exact region_ok hop hmo (k := k .normal) hok h (fun st' h' => hk .normal st' h') D Sh act w hR
  | some l =>
   rw [hl] at h
   simp only at h
   cases hi : itemsOk l.items with
   | false => rw [hi] at h; cases h
   | true =>
    rw [hi] at h
    simp only [cond_true] at h
    cases hm : matchL st.roots st.tmps st.roots l.items [] with
    | none => rw [hm] at h; cases h
    | some x =>
     rw [hm] at h
     obtain ⟨D2, Sh2, hR2⟩ := head_ok hi hm hR
     exact region_ok hop hmo (k := k .normal) hok h (fun st' h' => hk .normal st' h') D2 Sh2 act w hR2
 | .seq x y, hok, A, st, k, a, h, Q, hk, D, Sh, act, w, hR => by
  simp only [okC, Bool.and_eq_true] at hok
  refine wp_seq (runC_ok hop hmo x hok.1 st _ a h _ (fun e st' h' D' Sh' act' w' hR' => ?_) D Sh act w hR)
  cases e with
  | normal => exact runC_ok hop hmo y hok.2 st' k a h' Q hk D' Sh' act' w' hR'
  | exit j => exact hk (.exit j) st' h' D' Sh' act' w' hR'
  | ret => exact hk .ret st' h' D' Sh' act' w' hR'
 | .cond c x y, hok, A, st, k, a, h, Q, hk, D, Sh, act, w, hR => by
  simp only [okC, Bool.and_eq_true] at hok
  have hc := hR.eval c
  simp only [runC] at h
  split at h
  ·rename_i b hb
   rw [hb] at hc
   have hv := avr_bool hc
   refine wp_cond_split hv (fun e => ?_) (fun e => ?_)
   ·rw [e] at h
    exact runC_ok hop hmo x hok.1 st k a h Q hk D Sh act w hR
   ·rw [e] at h
    exact runC_ok hop hmo y hok.2 st k a h Q hk D Sh act w hR
  ·cases h
 | .block id c, hok, A, st, k, a, h, Q, hk, D, Sh, act, w, hR => by
  refine wp_block (runC_ok hop hmo c hok st _ a h _ (fun e st' h' D' Sh' act' w' hR' => ?_) D Sh act w hR)
  cases e with
  | normal => exact hk .normal st' h' D' Sh' act' w' hR'
  | exit j =>
   show (if j = id then Q .normal act' w' else Q (.exit j) act' w')
   have h' : (bif Nat.beq j id then k .normal st' else k (.exit j) st') = some a := h'
   by_cases e : j = id
   ·subst e
    rw [if_pos rfl]
    rw [show Nat.beq j j = true by simp] at h'
    exact hk .normal st' h' D' Sh' act' w' hR'
   ·rw [if_neg e]
    rw [nbeq e] at h'
    exact hk (.exit j) st' h' D' Sh' act' w' hR'
  | ret => exact hk .ret st' h' D' Sh' act' w' hR'
 | .exit id, hok, A, st, k, a, h, Q, hk, D, Sh, act, w, hR => wp_exit (hk (.exit id) st h D Sh act w hR)
 | .ret, hok, A, st, k, a, h, Q, hk, D, Sh, act, w, hR => wp_ret (hk .ret st h D Sh act w hR)
 | .loop c, hok, A, st, k, a, h, Q, hk, D, Sh, act, w, hR => by
  simp only [runC] at h
  cases hl : L (firstR c) with
  | none => rw [hl] at h; cases h
  | some l =>
   rw [hl] at h
   simp only at h
   cases hi : itemsOk l.items with
   | false => rw [hi] at h; cases h
   | true =>
    rw [hi] at h
    simp only [cond_true] at h
    cases hm : matchL st.roots st.tmps st.roots l.items [] with
    | none => rw [hm] at h; cases h
    | some x =>
     rw [hm] at h
     simp only at h
     generalize hstep : (fun x => runC T K L c (A := Lp (itemsT l.items) A) (inj st.roots l.items x) fun e st' => match e with
       | .normal => match matchL st.roots st'.tmps st'.roots l.items [] with
        | some x => some (.again x)
        | none => none
       | .exit j => bif Nat.beq j l.out then match matchL st.roots st'.tmps st'.roots l.items [] with
        | some x => some (.exit x)
        | none => none else none
       | .ret => match k .ret st' with
        | some a => some (.ret a)
        | none => none) = step at h
     cases hlo : loopO step x with
     | none => rw [hlo] at h; cases h
     | some y =>
      rw [hlo] at h
      obtain ⟨n, hn⟩ := loopO_some hlo
      have hy : ∀ x', y = .inl x' -> k (.exit l.out) (inj st.roots l.items x') = some a := fun x' e => by rw [e] at h; exact h
      have hy2 : ∀ a', y = .inr a' -> a' = a := fun a' e => by rw [e] at h; cases h; rfl
      have key : ∀ (n : Nat) (x : itemsT l.items) (D : Nat -> DRoot) (Sh : Nat -> Prop) (act : Act) (w : World), iterO step n x = some y -> Rel C (inj st.roots l.items x) D Sh act w -> Code.rounds C.P c Q n act w := by
       intro n
       induction n with
       | zero => intro x D Sh act w hn _; cases hn
       | succ n ih =>
        intro x D Sh act w hn hR
        rw [rounds_succ]
        simp only [iterO] at hn
        cases hs : step x with
        | none => rw [hs] at hn; cases hn
        | some lp =>
         rw [hs] at hn
         have hs' := hs
         rw [<- hstep] at hs'
         refine runC_ok hop hmo c hok (inj st.roots l.items x) _ lp hs' _ (fun e st' h' D' Sh' act' w' hR' => ?_) D Sh act w hR
         cases e with
         | normal =>
          simp only at h'
          cases hm' : matchL st.roots st'.tmps st'.roots l.items [] with
          | none => rw [hm'] at h'; cases h'
          | some x' =>
           rw [hm'] at h'; cases h'
           obtain ⟨D2, Sh2, hR2⟩ := head_ok hi hm' hR'
           exact ih x' D2 Sh2 act' w' hn hR2
         | exit j =>
          simp only at h'
          cases hb : Nat.beq j l.out with
          | false => rw [hb] at h'; cases h'
          | true =>
           rw [hb] at h'
           simp only [cond_true] at h'
           cases hm' : matchL st.roots st'.tmps st'.roots l.items [] with
           | none => rw [hm'] at h'; cases h'
           | some x' =>
            rw [hm'] at h'; cases h'
            obtain ⟨D2, Sh2, hR2⟩ := head_ok hi hm' hR'
            have e := Nat.eq_of_beq_eq_true hb
            subst e
            cases hn
            exact hk (.exit l.out) _ (hy x' rfl) D2 Sh2 act' w' hR2
         | ret =>
          simp only at h'
          cases hr : k .ret st' with
          | none => rw [hr] at h'; cases h'
          | some a' =>
           rw [hr] at h'; cases h'
           cases hn
           have e := hy2 a' rfl
           subst e
           exact hk .ret st' hr D' Sh' act' w' hR'
      obtain ⟨D2, Sh2, hR2⟩ := head_ok hi hm hR
      exact wp_loop_rounds n (key n x D2 Sh2 act w hn hR2)
 | .rangeFunc _ _ _ _, hok, A, st, k, a, h, Q, hk, D, Sh, act, w, hR => by cases hok
 | .scope _, hok, A, st, k, a, h, Q, hk, D, Sh, act, w, hR => by cases hok
 | .label _, hok, A, st, k, a, h, Q, hk, D, Sh, act, w, hR => by cases hok
 | .goto _, hok, A, st, k, a, h, Q, hk, D, Sh, act, w, hR => by cases hok
 | .refuse _, hok, A, st, k, a, h, Q, hk, D, Sh, act, w, hR => by cases hok
end
end Go.Proofs.YtipaepbmdooekaaGreat.Vm
namespace Go.Proofs.YtipaepbmdooekaaGreat.Vm
open Go Go.RowKit
set_option linter.unusedVariables false
def noR : Nat -> Option Root := fun _ => none
def noZ : DRoot := ⟨⟨.nil, ()⟩, none, []⟩
def noD : Nat -> DRoot := fun _ => noZ
section
variable (w : World) (Sh : Nat -> Prop)
def ArgOK : (k : PK) -> k.den -> Value -> DRoot -> Prop
 | .r p, x, v, z => AVS w Sh noR noD (p.av x) v /\ z = noZ
 | .o t, x, v, z => t.flat = false /\ z.b = none /\ z.dv.er = ⟨t, x⟩ /\ z.dv.OK w Sh /\ v = mkw t.agg z.dv.cs
 | .p t _, x, v, z => ∃ b, z.b = some b /\ z.dv.er = ⟨t, x⟩ /\ z.dv.OK w Sh /\ v = .pointer (some ⟨b, 0, none⟩) /\ Loc w b 0 z.dv
 | .c t, x, v, z => t.flat = false /\ z.b = none /\ z.dv.er = ⟨t, x⟩ /\ z.dv.OK w Sh /\ v = mkw t.agg z.dv.cs
def ArgsOK : (ks : List PK) -> argsT ks -> List Value -> List DRoot -> Prop
 | [], _, [], [] => True
 | k :: ks, x, v :: vs, z :: zs => ArgOK w Sh k x.1 v z /\ ArgsOK ks x.2 vs zs
 | _, _, _, _ => False
def ManyD : (ts : List Ty) -> (tyW ts).den -> List DV -> Prop
 | [], _, zs => zs = []
 | t :: ts, x, zs => ∃ (d : t.dec) (zs' : List DV), t.er d = x.1 /\ zs = ⟨t, d⟩ :: zs' /\ ManyD ts x.2 zs'
def DVs : (ts : List Ty) -> tysT ts -> List DV -> Prop
 | [], _, zs => zs = []
 | [t], x, zs => ∃ d : t.dec, t.er d = x /\ zs = [⟨t, d⟩]
 | t :: u :: ts, x, zs => ∃ (d : t.dec) (zs' : List DV), t.er d = x.1 /\ zs = ⟨t, d⟩ :: zs' /\ DVs (u :: ts) x.2 zs'
def valV (z : DV) : Value := mkw z.t.agg z.cs
def ResOK : (rk : RK) -> (tyW rk.tys).den -> Value -> List DRoot -> Prop
 | .one t, x, v, rs => ∃ d : t.dec, t.er d = x.1 /\ t.OK w Sh d /\ v = mkw t.agg (t.cs d) /\ rs = [⟨⟨t, d⟩, none, []⟩]
 | .many ts, x, v, rs => ∃ zs : List DV, ManyD ts x zs /\ (∀ z ∈ zs, z.OK w Sh) /\ v = .tuple (zs.map valV).toArray /\ rs = zs.map fun z => ⟨z, none, []⟩
 | .ptr t, x, v, rs => ∃ (d : t.dec) (b : Nat), t.er d = x.1 /\ t.OK w Sh d /\ Loc w b 0 ⟨t, d⟩ /\ v = .pointer (some ⟨b, 0, none⟩) /\ rs = [⟨⟨t, d⟩, some b, []⟩]
def BackOK : List PK -> List DRoot -> List V -> List DRoot -> Prop
 | [], [], ys, bs => ys = [] /\ bs = []
 | .r _ :: ks, _ :: zs, ys, bs => BackOK ks zs ys bs
 | .o _ :: ks, _ :: zs, ys, bs => BackOK ks zs ys bs
 | .p _ t :: ks, z :: zs, y :: ys, b :: bs => b.b = z.b /\ y.t = t /\ b.dv.er = y /\ b.dv.OK w Sh /\ (∀ k, b.b = some k -> Loc w k 0 b.dv) /\ BackOK ks zs ys bs
 | .c t :: ks, z :: zs, y :: ys, b :: bs => b.b = none /\ y.t = t /\ b.dv.er = y /\ b.dv.OK w Sh /\ b.dv.cs = z.dv.cs /\ BackOK ks zs ys bs
 | _, _, _, _ => False
end
structure Left (w : World) (Sh M : Nat -> Prop) (w' : World) (Sh' : Nat -> Prop) (foot : List Nat) : Prop where
 os : w'.os = w.os
 tape : w'.tape = w.tape
 output : w'.output = w.output
 hsz : w.heap.size <= w'.heap.size
 block : ∀ b, b < w.heap.size -> ¬ M b -> w'.heap[b]? = w.heap[b]?
 sh : ∀ b, Sh b -> Sh' b
 shn : ∀ b, Sh' b -> (Sh b \/ w.heap.size <= b \/ M b) /\ b < w'.heap.size
 nd : foot.Nodup
 fresh : ∀ b ∈ foot, ¬ Sh' b /\ b < w'.heap.size /\ (w.heap.size <= b \/ M b)
def feet (zs : List DRoot) : List Nat := zs.flatMap DRoot.foot
def Enters (P : Program) (f : FuncId) : Prop := ∃ fn, P.funcs[f]? = some fn /\ (fn.name == "runtime.NumGoroutine") = false /\ fn.body.isNone = false
def ptrFree (c : Con) : Prop := ∀ t, c.rk = .ptr t -> backs c.ks = []
def CallOK (P : Program) (f : FuncId) (c : Con) : Prop := Enters P f /\ ptrFree c /\ ∀ (w : World) (Sh : Nat -> Prop) (x : argsT c.ks) (y : ansT c.rk c.ks) (vs : List Value) (zs : List DRoot), c.fn x = some y ->
 (∀ b, Sh b -> b < w.heap.size) -> ArgsOK w Sh c.ks x vs zs -> (feet zs).Nodup -> (∀ b ∈ feet zs, ¬ Sh b /\ b < w.heap.size) ->
 Calls P f vs.toArray w fun e w' => ∃ v Sh' rs bs, e = .returned v /\ Left w Sh (fun b => b ∈ feet zs) w' Sh' (feet rs ++ feet bs) /\
  ResOK w' Sh' c.rk (cutA c.rk.tys (backs c.ks) y).1 v rs /\ BackOK w' Sh' c.ks zs (cutA c.rk.tys (backs c.ks) y).2 bs
theorem cut_join : ∀ (ts bs : List Ty) (x : tysT ts) (y : tysT bs), (cutA ts bs (joinA ts bs x y)).2 = cutB bs y /\ ∀ zs, DVs ts x zs -> ManyD ts (cutA ts bs (joinA ts bs x y)).1 zs
 | [], bs, x, y => ⟨rfl, fun zs h => h⟩
 | [t], [], x, y => ⟨rfl, fun zs h => by obtain ⟨d, h1, rfl⟩ := h; exact ⟨d, [], h1, rfl, rfl⟩⟩
 | [t], b :: bs, x, y => ⟨rfl, fun zs h => by obtain ⟨d, h1, rfl⟩ := h; exact ⟨d, [], h1, rfl, rfl⟩⟩
 | t :: u :: ts, bs, x, y => by
  obtain ⟨i1, i2⟩ := cut_join (u :: ts) bs x.2 y
  refine ⟨i1, fun zs h => ?_⟩
  obtain ⟨d, zs', h1, rfl, h3⟩ := h
  exact ⟨d, zs', h1, rfl, i2 zs' h3⟩
section
variable {C : Ctx} {T : List (TypeId × TRow)} {st : St} {D : Nat -> DRoot} {Sh : Nat -> Prop} {a : Act} {w : World}
theorem load_ok (hT : TabOK C.P T) {t : TypeId} {row : TRow} (hrow : tget T t = some row) {x av : AV} {v : Value} (hR : Rel C st D Sh a w) (he : AVR w Sh st.roots D x v) (h : (loadP row x).go st.roots = some av) :
  ∃ k o u, v = .pointer (some ⟨k, o, none⟩) /\ (loadVar t ⟨k, o, none⟩).run C.P w = .ok u w /\ AVR w Sh st.roots D av u := by
 have hr := hT t row hrow
 unfold loadP at h
 cases x with
 | ptr id p s =>
  obtain ⟨r, hr1, hs1, hs2, h⟩ := withR_go h
  obtain ⟨k, o', u, hl, hv⟩ := ptr_look he hr1 hs2
  obtain ⟨hgv, hok, hloc⟩ := hR.look hr1 hl
  simp only [hgv] at h
  cases hlk : like u.er.t row.ty with
  | false => rw [hlk] at h; cases h
  | true =>
   rw [hlk] at h; cases h
   obtain ⟨rw_, e, hrw, hc⟩ := hloc k o' rfl
   have hlen : u.cs.length = row.ty.sz := (Ty.cs_len u.t u.d).trans (like_sz hlk)
   have hag : u.t.agg = row.ty.agg := like_agg hlk
   refine ⟨k, o', _, hv, hr.load (w := w) hlen (fun j v hj => by rw [hrw.cell]; exact hc j v hj), ?_⟩
   cases hp : u.t.plain with
   | true =>
    show AVR w Sh st.roots D (bif u.t.plain then .sh u.t (u.t.er u.d) else _) _
    rw [hp]
    exact ⟨u.cs, Ty.OK_RR (fun _ h => h) hok (fun b hb => by rw [Ty.plain_foot u.d hp] at hb; cases hb), by rw [<- hag]; rfl⟩
   | false =>
    show AVR w Sh st.roots D (bif u.t.plain then _ else .al id p r.log.length u.t) _
    rw [hp]
    refine ⟨u.cs, ⟨?_, r, hr1, Nat.le_refl _, fun _ => ⟨_, u, hl, rfl, rfl⟩⟩, by rw [<- hag]; rfl⟩
    cases hf : u.t.flat with
    | false => rfl
    | true => rw [flat_plain hf] at hp; cases hp
 | sptr t' xx =>
  simp only at h
  obtain ⟨b, o', cc, hv, hb, hRR, hc⟩ := sptr_look he
  cases hlk : like t' row.ty with
  | false => rw [hlk] at h; cases h
  | true =>
   rw [hlk] at h; cases h
   exact ⟨b, o', _, hv, hr.load (w := w) ((Ty.RR_len hRR).trans (like_sz hlk)) hc, ⟨cc, hRR, by rw [<- like_agg hlk]; rfl⟩⟩
 | _ => cases h
def evalR (tmps : Array Value) : ResultVar -> Sem Value
 | .tmp t => pure (tmps.getD t undef)
 | .cell a t => do loadVar t (<- asAddr (tmps.getD a undef))
def outV : List Value -> Value
 | [v] => v
 | vs => .tuple vs.toArray
theorem results_run {P : Program} {fn : Func} {tmps : Array Value} {vs : List Value} {w : World} (h : (fn.results.toList.mapM (evalR tmps)).run P w = .ok vs w) : (results fn tmps).run P w = .ok (outV vs) w := by
 have e : results fn tmps = (do
  let vs <- fn.results.mapM (evalR tmps)
  pure (if h : vs.size = 1 then vs[0] else .tuple vs)) := by
  unfold results
  congr 1
 rw [e, Array.mapM_eq_mapM_toList]
 simp only [Sem.run_bind, Sem.run_map, h, Result.andThen_ok, Sem.run_pure]
 rcases vs with _ | ⟨v, _ | ⟨u, vs⟩⟩ <;> rfl
theorem resP_ok (hT : TabOK C.P T) {r : ResultVar} {av : AV} (hR : Rel C st D Sh a w) (h : (resP T st.tmps r).go st.roots = some av) : ∃ u, (evalR a.tmps r).run C.P w = .ok u w /\ AVR w Sh st.roots D av u := by
 cases r with
 | tmp t => cases h; exact ⟨_, rfl, hR.tmp t⟩
 | cell x t =>
  simp only [resP] at h
  cases hrow : tget T t with
  | none => rw [hrow] at h; cases h
  | some row =>
   rw [hrow] at h
   obtain ⟨k, o, u, hv, hl, hu⟩ := load_ok hT hrow hR (hR.tmp x) h
   refine ⟨u, ?_, hu⟩
   simp only [evalR, hv, asAddr, Sem.run_bind, Sem.run_pure, Result.andThen_ok, hl]
theorem resL_ok (hT : TabOK C.P T) (hR : Rel C st D Sh a w) : ∀ {rs : List ResultVar} {ts : List Ty} {ws ws' : Writes} {y : tysT ts} {D1 : Nat -> DRoot} {Sh1 : Nat -> Prop} {F : List DV}, (resL T st.tmps rs ts ws).go st.roots = some (y, ws') ->
  (∀ b, Sh b -> Sh1 b) -> Keeps w w Sh Sh1 st.roots (app ws st.roots) D D1 -> RelF C ⟨st.tmps, app ws st.roots⟩ D1 Sh1 F a w ->
  ∃ (D' : Nat -> DRoot) (Sh' : Nat -> Prop) (zs : List DV), (rs.mapM (evalR a.tmps)).run C.P w = .ok (zs.map valV) w /\ DVs ts y zs /\ (∀ b, Sh b -> Sh' b) /\ Keeps w w Sh Sh' st.roots (app ws' st.roots) D D' /\ RelF C ⟨st.tmps, app ws' st.roots⟩ D' Sh' (zs.reverse ++ F) a w
 | [], [], ws, ws', y, D1, Sh1, F, h, hs, K, hF => by
  cases h
  exact ⟨D1, Sh1, [], rfl, rfl, hs, K, hF⟩
 | [r], [t], ws, ws', y, D1, Sh1, F, h, hs, K, hF => by
  simp only [resL, Prog.go_bind] at h
  cases hr : (resP T st.tmps r).go st.roots with
  | none => rw [hr] at h; cases h
  | some av =>
   rw [hr] at h
   obtain ⟨u, hu, hav⟩ := resP_ok hT hR hr
   obtain ⟨D', Sh', d, e1, e2, hs2, K2, F2⟩ := takeTo_ok h hF (K.avr hav)
   refine ⟨D', Sh', [⟨t, d⟩], ?_, ⟨d, e1, rfl⟩, fun b hb => hs2 b (hs b hb), K.trans K2, F2⟩
   simp only [List.mapM_cons, List.mapM_nil, Sem.run_bind, hu, Result.andThen_ok, Sem.run_pure, e2, List.map]; rfl
 | r :: s :: rs, t :: t2 :: ts, ws, ws', y, D1, Sh1, F, h, hs, K, hF => by
  simp only [resL, Prog.go_bind] at h
  cases hr : (resP T st.tmps r).go st.roots with
  | none => rw [hr] at h; cases h
  | some av =>
   rw [hr] at h
   simp only at h
   obtain ⟨u, hu, hav⟩ := resP_ok hT hR hr
   cases hk : (takeTo t av ws).go st.roots with
   | none => rw [hk] at h; cases h
   | some q =>
    obtain ⟨x, ws1⟩ := q
    rw [hk] at h
    simp only at h
    obtain ⟨D2, Sh2, d, e1, e2, hs2, K2, F2⟩ := takeTo_ok hk hF (K.avr hav)
    cases hq : (resL T st.tmps (s :: rs) (t2 :: ts) ws1).go st.roots with
    | none => rw [hq] at h; cases h
    | some q2 =>
     obtain ⟨y2, ws2⟩ := q2
     rw [hq] at h; cases h
     obtain ⟨D', Sh', zs, g1, g2, g3, g4, g5⟩ := resL_ok hT hR hq (fun b hb => hs2 b (hs b hb)) (K.trans K2) F2
     refine ⟨D', Sh', ⟨t, d⟩ :: zs, ?_, ⟨d, zs, e1, rfl, g2⟩, g3, g4, by simpa using g5⟩
     rw [List.mapM_cons]
     simp only [Sem.run_bind, hu, Result.andThen_ok, g1, Sem.run_pure, e2, List.map]; rfl
 | [], _ :: _, _, _, _, _, _, _, h, _, _, _ => by cases h
 | [_], [], _, _, _, _, _, _, h, _, _, _ => by cases h
 | [_], _ :: _ :: _, _, _, _, _, _, _, h, _, _, _ => by cases h
 | _ :: _ :: _, [], _, _, _, _, _, _, h, _, _, _ => by cases h
 | _ :: _ :: _, [_], _, _, _, _, _, _, h, _, _, _ => by cases h
end
def conOk (n : Nat) (c : Con) : Bool := Nat.ble (backs c.ks).length 1 && Nat.ble c.ks.length n && (match c.rk with
 | .one _ => true
 | .many ts => !Nat.beq ts.length 1
 | .ptr _ => (backs c.ks).isEmpty)
def funOk (fn : Func) (c : Con) : Bool := conOk fn.ntmps c && (match fn.body with
 | some b => okC fn.ntmps b
 | none => false)
theorem ids_find {R : Nat -> Option Root} {n : Nat} {blk : Bool} : ∀ {ids : List Nat} {v : V}, findOrg R n blk ids = some v -> ∃ id r, R id = some r /\ v = r.v /\ (blk = true -> r.pin = some n) /\ (blk = false -> r.org = some n /\ since r.log 0 1 false = true)
 | [], v, h => by simp only [findOrg] at h; cases h
 | i :: ids, v, h => by
  simp only [findOrg] at h
  cases hr : R i with
  | none => rw [hr] at h; exact ids_find (by simpa using h)
  | some r =>
   rw [hr] at h
   simp only at h
   cases hq : (bif blk then r.pin else r.org) with
   | none => rw [hq] at h; exact ids_find (by simpa using h)
   | some j =>
    rw [hq] at h
    simp only at h
    cases hb : (Nat.beq j n && (blk || since r.log 0 1 false)) with
    | false => rw [hb] at h; exact ids_find h
    | true =>
     rw [hb] at h
     cases h
     rw [Bool.and_eq_true] at hb
     have e := Nat.eq_of_beq_eq_true hb.1
     subst e
     refine ⟨i, r, hr, rfl, fun e => ?_, fun e => ?_⟩
     ·subst e; exact hq
     ·subst e; exact ⟨hq, by simpa using hb.2⟩
theorem cut1 : ∀ {t : Ty} {bs : List Ty} (h : bs = []) (x : t.den) (y : tysT bs), cutB (t :: bs) (joinA [t] bs x y) = [⟨t, x⟩]
 | t, _, rfl, x, y => rfl
theorem exT_some {v : V} {t : Ty} {x : t.den} (h : exT v t = some x) : v = ⟨t, x⟩ := by
 unfold exT at h
 split at h
 ·rename_i e
  obtain ⟨t', x'⟩ := v
  have e : t' = t := e
  subst e
  cases h; rfl
 ·cases h
theorem backs_none {w : World} {Sh : Nat -> Prop} : ∀ {ks : List PK} {x : argsT ks} {w0 : World} {Sh0 : Nat -> Prop} {vs : List Value} {zs : List DRoot}, backs ks = [] -> ArgsOK w0 Sh0 ks x vs zs -> BackOK w Sh ks zs [] []
 | [], x, w0, Sh0, [], [], _, _ => ⟨rfl, rfl⟩
 | .r p :: ks, x, w0, Sh0, v :: vs, z :: zs, hb, h => backs_none (ks := ks) hb h.2
 | .o p :: ks, x, w0, Sh0, v :: vs, z :: zs, hb, h => backs_none (ks := ks) hb h.2
 | .p _ _ :: ks, x, w0, Sh0, v :: vs, z :: zs, hb, h => by cases hb
 | .c _ :: ks, x, w0, Sh0, v :: vs, z :: zs, hb, h => by cases hb
 | [], x, w0, Sh0, _ :: _, [], _, h => h.elim
 | [], x, w0, Sh0, _, _ :: _, _, h => by cases (show False from by cases ‹List Value› <;> exact h)
 | _ :: _, x, w0, Sh0, [], _, _, h => h.elim
 | _ :: _, x, w0, Sh0, _ :: _, [], _, h => h.elim
section
variable {C : Ctx} {st : St} {D : Nat -> DRoot} {Sh : Nat -> Prop} {F : List DV} {a : Act} {w : World}
theorem backs_ok {R : Nat -> Option Root} {T : Nat -> AV} (hR : Rel C ⟨T, R⟩ D Sh a w) {ids : List Nat} : ∀ {ks : List PK} {n : Nat} {y : tysT (backs ks)} {x : argsT ks} {w0 : World} {Sh0 : Nat -> Prop} {vs : List Value} {zs : List DRoot}, Nat.ble (backs ks).length 1 = true -> backL R ids n ks = some y ->
  ArgsOK w0 Sh0 ks x vs zs -> (∀ i z, zs[i]? = some z -> C.pc (n + i) = z.dv.cs /\ ∀ b, z.b = some b -> C.pb (n + i) = b) ->
  ∃ bs, BackOK w Sh ks zs (cutB (backs ks) y) bs /\ (feet bs).Nodup /\ ∀ b ∈ feet bs, ∃ id r, R id = some r /\ b ∈ (D id).foot
 | [], n, y, x, w0, Sh0, [], [], hl, h, hA, hz => ⟨[], ⟨rfl, rfl⟩, List.nodup_nil, fun b hb => by cases hb⟩
 | .r p :: ks, n, y, x, w0, Sh0, v :: vs, z :: zs, hl, h, hA, hz => backs_ok hR (ks := ks) (n := n + 1) hl h hA.2 (fun i z' hi => by
   have := hz (i + 1) z' (by simpa using hi)
   rwa [show n + (i + 1) = n + 1 + i by omega] at this)
 | .o p :: ks, n, y, x, w0, Sh0, v :: vs, z :: zs, hl, h, hA, hz => backs_ok hR (ks := ks) (n := n + 1) hl h hA.2 (fun i z' hi => by
   have := hz (i + 1) z' (by simpa using hi)
   rwa [show n + (i + 1) = n + 1 + i by omega] at this)
 | .p t t' :: ks, n, y, x, w0, Sh0, v :: vs, z :: zs, hl, h, hA, hz => by
  have hbk : backs ks = [] := by
   have : (backs ks).length + 1 <= 1 := by simpa [Nat.ble_eq] using hl
   exact List.eq_nil_of_length_eq_zero (by omega)
  simp only [backL] at h
  cases hf : findOrg R n true ids with
  | none => rw [hf] at h; cases h
  | some vv =>
   rw [hf] at h
   simp only at h
   cases he : exT vv t' with
   | none => rw [he] at h; cases h
   | some x1 =>
    cases hy : backL R ids (n + 1) ks with
    | none => rw [he, hy] at h; cases h
    | some y1 =>
     rw [he, hy] at h
     simp only at h
     cases h
     obtain ⟨id, r, hr, rfl, hp, _⟩ := ids_find hf
     have hp := hp rfl
     have RR := hR.root id r hr
     obtain ⟨b, hb, _⟩ := hA.1
     have hpb := RR.pin n hp
     have hz0 := (hz 0 z rfl).2 b hb
     rw [Nat.add_zero] at hz0
     have hv := exT_some he
     have hcut : cutB (t' :: backs ks) (joinA [t'] (backs ks) x1 y1) = [⟨t', x1⟩] := cut1 hbk x1 y1
     refine ⟨[D id], ?_, by show (DRoot.foot (D id) ++ []).Nodup; rw [List.append_nil]; exact RR.nd, fun b hb => ⟨id, r, hr, by simpa [feet] using hb⟩⟩
     show BackOK w Sh (.p t t' :: ks) (z :: zs) (cutB (t' :: backs ks) (joinA [t'] (backs ks) x1 y1)) [D id]
     rw [hcut]
     exact ⟨by rw [hpb, hb, hz0], rfl, RR.er.trans hv, RR.ok, RR.loc, backs_none hbk hA.2⟩
 | .c t :: ks, n, y, x, w0, Sh0, v :: vs, z :: zs, hl, h, hA, hz => by
  have hbk : backs ks = [] := by
   have : (backs ks).length + 1 <= 1 := by simpa [Nat.ble_eq] using hl
   exact List.eq_nil_of_length_eq_zero (by omega)
  simp only [backL] at h
  cases hf : findOrg R n false ids with
  | none => rw [hf] at h; cases h
  | some vv =>
   rw [hf] at h
   simp only at h
   cases he : exT vv t with
   | none => rw [he] at h; cases h
   | some x1 =>
    cases hy : backL R ids (n + 1) ks with
    | none => rw [he, hy] at h; cases h
    | some y1 =>
     rw [he, hy] at h
     simp only at h
     cases h
     obtain ⟨id, r, hr, rfl, _, hp⟩ := ids_find hf
     obtain ⟨hp, hs⟩ := hp rfl
     have RR := hR.root id r hr
     have hz0 := (hz 0 z rfl).1
     rw [Nat.add_zero] at hz0
     have hv := exT_some he
     have hcut : cutB (t :: backs ks) (joinA [t] (backs ks) x1 y1) = [⟨t, x1⟩] := cut1 hbk x1 y1
     have hn : (DV.foot (D id).dv).Nodup := (List.nodup_append.1 RR.nd).2.1
     refine ⟨[⟨(D id).dv, none, []⟩], ?_, by show (DV.foot (D id).dv ++ []).Nodup; rw [List.append_nil]; exact hn, fun b hb => ⟨id, r, hr, mem_dv ?_⟩⟩
     ·show BackOK w Sh (.c t :: ks) (z :: zs) (cutB (t :: backs ks) (joinA [t] (backs ks) x1 y1)) _
      rw [hcut]
      exact ⟨rfl, rfl, RR.er.trans hv, RR.ok, by rw [RR.top hs, RR.org n hp, hz0], backs_none hbk hA.2⟩
     ·have hb : b ∈ DV.foot (D id).dv ++ [] := hb
      rwa [List.append_nil] at hb
 | [], n, y, x, w0, Sh0, [], _ :: _, hl, h, hA, hz => hA.elim
 | [], n, y, x, w0, Sh0, _ :: _, [], hl, h, hA, hz => hA.elim
 | [], n, y, x, w0, Sh0, _ :: _, _ :: _, hl, h, hA, hz => hA.elim
 | _ :: _, n, y, x, w0, Sh0, [], _, hl, h, hA, hz => hA.elim
 | _ :: _, n, y, x, w0, Sh0, _ :: _, [], hl, h, hA, hz => hA.elim
end
theorem args_len {w : World} {Sh : Nat -> Prop} : ∀ {ks : List PK} {x : argsT ks} {vs : List Value} {zs : List DRoot}, ArgsOK w Sh ks x vs zs -> vs.length = ks.length /\ zs.length = ks.length
 | [], x, [], [], h => ⟨rfl, rfl⟩
 | k :: ks, x, v :: vs, z :: zs, h => by
  obtain ⟨h1, h2⟩ := args_len h.2
  simp [h1, h2]
 | [], _, [], _ :: _, h => h.elim
 | [], _, _ :: _, [], h => h.elim
 | [], _, _ :: _, _ :: _, h => h.elim
 | _ :: _, _, [], _, h => h.elim
 | _ :: _, _, _ :: _, [], h => h.elim
theorem start_root {w : World} {Sh : Nat -> Prop} : ∀ {ks : List PK} {n : Nat} {x : argsT ks} {vs : List Value} {zs : List DRoot} {id : Nat} {r : Root}, ArgsOK w Sh ks x vs zs -> startR n ks x id = some r ->
  ∃ i z, id = n + i /\ zs[i]? = some z /\ z.dv.er = r.v /\ z.dv.OK w Sh /\ z.b.isSome = r.blk /\ (∀ k, z.b = some k -> Loc w k 0 z.dv) /\ (∀ j, r.org = some j -> j = id) /\ (∀ j, r.pin = some j -> j = id /\ z.b.isSome = true)
 | [], n, x, vs, zs, id, r, hA, h => by cases h
 | k :: ks, n, x, v :: vs, z :: zs, id, r, hA, h => by
  simp only [startR] at h
  by_cases e : n = id
  ·subst e
   rw [show Nat.beq n n = true by simp] at h
   simp only [cond_true] at h
   refine ⟨0, z, rfl, rfl, ?_⟩
   have h1 := hA.1
   cases k with
   | r p => cases h
   | o t => cases h; obtain ⟨_, hb, he, ho, _⟩ := h1; exact ⟨he, ho, by rw [hb]; rfl, (fun k hk => by rw [hb] at hk; cases hk), (fun j hj => by cases hj), (fun j hj => by cases hj)⟩
   | p t t' =>
    cases h
    obtain ⟨b, hb, he, ho, _, hl⟩ := h1
    exact ⟨he, ho, by rw [hb]; rfl, (fun k hk => by rw [hb] at hk; cases hk; exact hl), (fun j hj => by cases hj), (fun j hj => by cases hj; exact ⟨rfl, by rw [hb]; rfl⟩)⟩
   | c t => cases h; obtain ⟨_, hb, he, ho, _⟩ := h1; exact ⟨he, ho, by rw [hb]; rfl, (fun k hk => by rw [hb] at hk; cases hk), (fun j hj => by cases hj; rfl), (fun j hj => by cases hj)⟩
  ·rw [nbeq e] at h
   simp only [cond_false] at h
   obtain ⟨i, z', h1, h2, h3⟩ := start_root hA.2 h
   exact ⟨i + 1, z', by omega, by simpa using h2, h3⟩
 | _ :: _, _, _, [], _, _, _, hA, _ => hA.elim
 | _ :: _, _, _, _ :: _, [], _, _, hA, _ => hA.elim
theorem start_tmp {w : World} {Sh : Nat -> Prop} {R : Nat -> Option Root} {D : Nat -> DRoot} : ∀ {ks : List PK} {n : Nat} {x : argsT ks} {vs : List Value} {zs : List DRoot}, ArgsOK w Sh ks x vs zs -> (∀ id r, startR n ks x id = some r -> R id = some r) -> (∀ i z, zs[i]? = some z -> (D (n + i)).dv = z.dv /\ (D (n + i)).b = z.b) ->
  ∀ t v, (∀ u, n <= t -> vs[t - n]? = some u -> v = u) -> AVR w Sh R D (startT n ks x t) v
 | [], n, x, vs, zs, hA, hR, hD, t, v, hv => trivial
 | k :: ks, n, x, v0 :: vs, z :: zs, hA, hR, hD, t, v, hv => by
  simp only [startT]
  by_cases e : n = t
  ·subst e
   have hv := hv v0 (Nat.le_refl _) (by rw [Nat.sub_self]; rfl)
   subst hv
   rw [show Nat.beq n n = true by simp]
   simp only [cond_true]
   obtain ⟨d1, d2⟩ := hD 0 z rfl
   rw [Nat.add_zero] at d1 d2
   have h1 := hA.1
   have hr0 : ∀ r, startR.one n k x.1 = some r -> R n = some r := fun r hr => hR n r (by simp only [startR]; rw [show Nat.beq n n = true by simp]; exact hr)
   cases k with
   | r p =>
    obtain ⟨⟨cs, hc, hv⟩, _⟩ := h1
    exact pat_avs.2 ⟨cs, avr_pat (w' := w) hc, hv⟩
   | o ty =>
    obtain ⟨hf, hb, he, ho, hv⟩ := h1
    have ht : z.dv.t = ty := congrArg V.t he
    refine ⟨z.dv.cs, ⟨hf, _, hr0 _ rfl, Nat.le_refl _, fun _ => ⟨(D n).base, (D n).dv, rfl, by rw [d1]; exact ht, by rw [d1]⟩⟩, hv⟩
   | p ty ty' =>
    obtain ⟨b, hb, he, ho, hv, hl⟩ := h1
    exact ⟨_, ⟨_, rfl, _, hr0 _ rfl, Nat.zero_le _, fun _ => ⟨b, 0, (D n).dv, by show some (DRoot.base (D n), (D n).dv) = _; rw [base_of (d2.trans hb)], hv⟩⟩, rfl⟩
   | c ty =>
    obtain ⟨hf, hb, he, ho, hv⟩ := h1
    have ht : z.dv.t = ty := congrArg V.t he
    refine ⟨z.dv.cs, ⟨hf, _, hr0 _ rfl, Nat.le_refl _, fun _ => ⟨(D n).base, (D n).dv, rfl, by rw [d1]; exact ht, by rw [d1]⟩⟩, hv⟩
  ·rw [nbeq e]
   simp only [cond_false]
   refine start_tmp hA.2 (fun id r hr => hR id r ?_) (fun i z' hi => ?_) t v (fun u hle hu => hv u (by omega) ?_)
   ·obtain ⟨i, _, h1, _⟩ := start_root hA.2 hr
    simp only [startR]
    rw [nbeq (show n ≠ id by omega)]
    exact hr
   ·have := hD (i + 1) z' (by simpa using hi)
    rwa [show n + (i + 1) = n + 1 + i by omega] at this
   ·rw [show t - n = (t - (n + 1)) + 1 by omega]
    simpa using hu
 | _ :: _, _, _, [], _, hA, _, _, _, _, _ => hA.elim
 | _ :: _, _, _, _ :: _, [], hA, _, _, _, _, _ => hA.elim
theorem feet_apart {zs : List DRoot} (h : (feet zs).Nodup) {i j : Nat} {z z' : DRoot} (hi : zs[i]? = some z) (hj : zs[j]? = some z') (hij : i ≠ j) {b : Nat} (hb : b ∈ z.foot) : b ∉ z'.foot := by
 intro hb'
 have hpw := (List.pairwise_flatMap.1 (show List.Pairwise (· ≠ ·) (zs.flatMap DRoot.foot) from h)).2
 obtain ⟨hi1, hi2⟩ := List.getElem?_eq_some_iff.1 hi
 obtain ⟨hj1, hj2⟩ := List.getElem?_eq_some_iff.1 hj
 rcases Nat.lt_or_gt_of_ne hij with hlt | hlt
 ·exact (List.pairwise_iff_getElem.1 hpw) i j hi1 hj1 hlt b (hi2 ▸ hb) b (hj2 ▸ hb') rfl
 ·exact (List.pairwise_iff_getElem.1 hpw) j i hj1 hi1 hlt b (hj2 ▸ hb') b (hi2 ▸ hb) rfl
theorem feet_one {zs : List DRoot} (h : (feet zs).Nodup) {i : Nat} {z : DRoot} (hi : zs[i]? = some z) : z.foot.Nodup := by
 obtain ⟨M1, M2, m1, _⟩ := flatMap_set DRoot.foot zs i hi
 have h : (zs.flatMap DRoot.foot).Nodup := h
 rw [m1] at h
 exact nodup_mid h
def ctxOf (P : Program) (w : World) (Sh : Nat -> Prop) (n : Nat) (zs : List DRoot) : Ctx := ⟨P, w, fun b => b ∈ feet zs, Sh, n, fun i => (zs.getD i noZ).dv.cs, fun i => ((zs.getD i noZ).b).getD 0⟩
theorem start_ok {P : Program} {w : World} {Sh : Nat -> Prop} {ks : List PK} {x : argsT ks} {vs : List Value} {zs : List DRoot} {n : Nat} (hsl : ∀ b, Sh b -> b < w.heap.size) (hA : ArgsOK w Sh ks x vs zs) (hnd : (feet zs).Nodup) (hfr : ∀ b ∈ feet zs, ¬ Sh b /\ b < w.heap.size) (hn : ks.length <= n) :
  Rel (ctxOf P w Sh n zs) ⟨startT 0 ks x, startR 0 ks x⟩ (fun i => ⟨(zs.getD i noZ).dv, (zs.getD i noZ).b, (zs.getD i noZ).dv.cs⟩) Sh { tmps := vs.toArray ++ Array.replicate (n - vs.toArray.size) undef, defers := [] } w := by
 obtain ⟨hl1, hl2⟩ := args_len hA
 have hget : ∀ {i z}, zs[i]? = some z -> zs.getD i noZ = z := fun {i z} h => by rw [List.getD_eq_getElem?_getD, h]; rfl
 have hmem : ∀ {i : Nat} {z : DRoot} {b : Nat}, zs[i]? = some z -> b ∈ z.foot -> b ∈ feet zs := fun {i z b} h hb => List.mem_flatMap.2 ⟨z, List.mem_of_getElem? h, hb⟩
 refine ⟨rfl, rfl, rfl, Nat.le_refl _, fun _ _ _ => rfl, fun _ h => h, fun b hb => ⟨.inl hb, hsl b hb⟩, ?_, ?_, ?_, ?_, ?_, rfl⟩
 ·intro id r hr
  obtain ⟨i, z, rfl, hz, h1, h2, h3, h4, h5, h6⟩ := start_root hA hr
  rw [Nat.zero_add] at *
  simp only [hget hz]
  refine ⟨h1, h2, h3, h4, (show z.foot.Nodup from feet_one hnd hz), fun _ => rfl, fun j hj => ?_, fun j hj => ?_⟩
  ·have e := h5 j hj
   subst e
   show z.dv.cs = (zs.getD j noZ).dv.cs
   rw [hget hz]
  ·obtain ⟨e, hs⟩ := h6 j hj
   subst e
   show z.b = some ((zs.getD j noZ).b.getD 0)
   rw [hget hz]
   cases hb : z.b with
   | none => rw [hb] at hs; cases hs
   | some k => rfl
 ·intro i j r r' hij hr hr' b hb
  obtain ⟨i', z, e1, hz, _⟩ := start_root hA hr
  obtain ⟨j', z', e2, hz', _⟩ := start_root hA hr'
  rw [Nat.zero_add] at e1 e2
  subst e1; subst e2
  simp only [hget hz] at hb
  simp only [hget hz']
  exact feet_apart hnd hz hz' hij hb
 ·intro id r hr b hb
  obtain ⟨i, z, e1, hz, _⟩ := start_root hA hr
  rw [Nat.zero_add] at e1
  subst e1
  simp only [hget hz] at hb
  have := hfr b (hmem hz hb)
  exact ⟨this.1, this.2, .inr (hmem hz hb)⟩
 ·intro t
  refine start_tmp hA (fun _ _ h => h) (fun i z hz => ?_) t _ (fun u _ hu => ?_)
  ·rw [Nat.zero_add]
   show (zs.getD i noZ).dv = z.dv /\ (zs.getD i noZ).b = z.b
   rw [hget hz]; exact ⟨rfl, rfl⟩
  ·rw [Nat.sub_zero] at hu
   have hlt := (List.getElem?_eq_some_iff.1 hu).1
   rw [Array.getD_eq_getD_getElem?, Array.getElem?_append_left (by simpa using hlt)]
   simp [hu]
 ·show (vs.toArray ++ Array.replicate (n - vs.toArray.size) undef).size = n
  simp; omega
theorem feet_plain (zs : List DV) : feet (zs.map fun z => ⟨z, none, []⟩) = zs.flatMap DV.foot := by
 unfold feet
 induction zs with
 | nil => rfl
 | cons z zs ih => simp only [List.map_cons, List.flatMap_cons, ih, foot_none]
theorem many_dvs {w : World} {Sh : Nat -> Prop} {t : Ty} {x : (tyW [t]).den} {zs : List DV} (h : ManyD [t] x zs) : ∃ d : t.dec, t.er d = x.1 /\ zs = [⟨t, d⟩] := by
 obtain ⟨d, zs', h1, rfl, h2⟩ := h
 have h2 : zs' = [] := h2
 subst h2
 exact ⟨d, h1, rfl⟩
theorem dvs_len : ∀ {ts : List Ty} {x : tysT ts} {zs : List DV}, DVs ts x zs -> zs.length = ts.length
 | [], x, zs, h => by have h : zs = [] := h; subst h; rfl
 | [t], x, zs, h => by obtain ⟨d, _, rfl⟩ := h; rfl
 | t :: u :: ts, x, zs, h => by obtain ⟨d, zs', _, rfl, h3⟩ := h; simp [dvs_len h3]
theorem since0 (log : List (Nat × Bool)) (s : Nat) (ho : Bool) : since log s 0 ho = true := by
 unfold since
 rw [List.all_eq_true]
 intro e _
 simp [bad, Nat.blt, Nat.ble]
theorem cut_fst {t : Ty} : ∀ (bs : List Ty) (x : t.den) (y : tysT bs), (cutA [t] bs (joinA [t] bs x y)).1.1 = x
 | [], _, _ => rfl
 | _ :: _, _, _ => rfl
theorem cutB_nil : ∀ {bs : List Ty} (h : bs = []) (y : tysT bs), cutB bs y = []
 | _, rfl, _ => rfl
theorem fun_ok {P : Program} {T : List (TypeId × TRow)} {K : Cons} {L : Loops} {ids : List Nat} {f : FuncId} {fn : Func} {c : Con} (hT : TabOK P T) (hmo : P.follows .mixedOrders = true) (hf : P.funcs[f]? = some fn) (hname : (fn.name == "runtime.NumGoroutine") = false) (hck : funOk fn c = true)
  (hop : ∀ C : Ctx, C.P = P -> AllSound C T K) (hrun : ∀ x, runF T K L ids fn c x = c.fn x) : CallOK P f c := by
 unfold funOk at hck
 rw [Bool.and_eq_true] at hck
 obtain ⟨hco, hck⟩ := hck
 refine ⟨⟨fn, hf, hname, ?_⟩, fun t ht => ?_, ?_⟩
 ·cases hb : fn.body with
  | none => rw [hb] at hck; cases hck
  | some b => rfl
 ·unfold conOk at hco
  rw [Bool.and_eq_true, ht] at hco
  have := hco.2
  simpa using this
 intro w Sh x y vs zs hfn hsl hA hnd hfr
 cases hb : fn.body with
 | none => rw [hb] at hck; cases hck
 | some code =>
  rw [hb] at hck
  unfold conOk at hco
  simp only [Bool.and_eq_true, Nat.ble_eq] at hco
  obtain ⟨⟨hbk, hkn⟩, hrk⟩ := hco
  have hrel := start_ok (P := P) hsl hA hnd hfr hkn
  have hr := hrun x
  rw [hfn] at hr
  unfold runF at hr
  rw [hb] at hr
  simp only at hr
  have hget : ∀ {i z}, zs[i]? = some z -> zs.getD i noZ = z := fun {i z} h => by rw [List.getD_eq_getElem?_getD, h]; rfl
  have hz : ∀ i z, zs[i]? = some z -> (ctxOf P w Sh fn.ntmps zs).pc (0 + i) = z.dv.cs /\ ∀ b, z.b = some b -> (ctxOf P w Sh fn.ntmps zs).pb (0 + i) = b := by
   intro i z hi
   rw [Nat.zero_add]
   refine ⟨by show (zs.getD i noZ).dv.cs = _; rw [hget hi], fun b hb => by show ((zs.getD i noZ).b).getD 0 = b; rw [hget hi, hb]; rfl⟩
  have hfin : ∀ (st : St) (D : Nat -> DRoot) (Sh1 : Nat -> Prop) (act : Act) (w' : World), finish T c ids fn.results.toList st = some y -> Rel (ctxOf P w Sh fn.ntmps zs) st D Sh1 act w' ->
    act.defers = [] /\ ∃ v, (results fn act.tmps).run P w' = .ok v w' /\ ∃ v' Sh' rs bs, Ending.returned v = .returned v' /\ Left w Sh (fun b => b ∈ feet zs) w' Sh' (feet rs ++ feet bs) /\ ResOK w' Sh' c.rk (cutA c.rk.tys (backs c.ks) y).1 v' rs /\ BackOK w' Sh' c.ks zs (cutA c.rk.tys (backs c.ks) y).2 bs := by
   intro st D Sh1 act w' hfi hR
   refine ⟨hR.defers, ?_⟩
   obtain ⟨ks, rk, cf⟩ := c
   -- several results, or one
   have gen : ∀ (ts : List Ty) (xs : tysT ts) (ws : Writes) (ys : tysT (backs ks)), (resL T st.tmps fn.results.toList ts []).go st.roots = some (xs, ws) -> backL (app ws st.roots) ids 0 ks = some ys ->
     ∃ (Sh' : Nat -> Prop) (rs : List DV) (bs : List DRoot), (results fn act.tmps).run P w' = .ok (outV (rs.map valV)) w' /\ DVs ts xs rs /\ (∀ z ∈ rs, z.OK w' Sh') /\ Left w Sh (fun b => b ∈ feet zs) w' Sh' (feet (rs.map fun z => ⟨z, none, []⟩) ++ feet bs) /\ BackOK w' Sh' ks zs (cutB (backs ks) ys) bs := by
    intro ts xs ws ys h1 h2
    obtain ⟨D', Sh', rs, e1, e2, e3, e4, e5⟩ := resL_ok (C := ctxOf P w Sh fn.ntmps zs) hT hR h1 (fun _ h => h) (Keeps.grow (fun _ _ => rfl)) hR.F
    obtain ⟨bs, b1, b2, b3⟩ := backs_ok e5.rel (ks := ks) (n := 0) (by rw [Nat.ble_eq]; exact hbk) h2 hA hz
    have e5' := e5.perm (F' := rs) (by rw [List.append_nil]; exact List.reverse_perm rs)
    refine ⟨Sh', rs, bs, results_run e1, e2, fun z hz => e5'.fok z hz, ⟨e5.rel.os, e5.rel.tape, e5.rel.output, e5.rel.hsz, e5.rel.block, e5.rel.sh0, e5.rel.shn, ?_, ?_⟩, b1⟩
    ·rw [feet_plain]
     exact List.nodup_append.2 ⟨e5'.fnd, b2, fun p hp q hq e => by
      subst e
      obtain ⟨id, r, hr, hm⟩ := b3 p hq
      exact (e5'.fdis p hp).1 id r hr hm⟩
    ·intro b hb
     rw [feet_plain] at hb
     rcases List.mem_append.1 hb with hb | hb
     ·exact (e5'.fdis b hb).2
     ·obtain ⟨id, r, hr, hm⟩ := b3 b hb
      exact e5'.rel.fresh id r hr b hm
   cases rk with
   | one t =>
    simp only [finish] at hfi
    cases h1 : (resL T st.tmps fn.results.toList [t] []).go st.roots with
    | none => rw [h1] at hfi; cases hfi
    | some q =>
     obtain ⟨xs, ws⟩ := q
     rw [h1] at hfi
     simp only at hfi
     cases h2 : backL (app ws st.roots) ids 0 ks with
     | none => rw [h2] at hfi; cases hfi
     | some ys =>
      rw [h2] at hfi; cases hfi
      obtain ⟨Sh', rs, bs, g1, g2, g3, g4, g5⟩ := gen [t] xs ws ys h1 h2
      obtain ⟨c1, c2⟩ := cut_join [t] (backs ks) xs ys
      obtain ⟨d, hd, rfl⟩ := many_dvs (w := w) (Sh := Sh) (c2 rs g2)
      refine ⟨_, g1, _, Sh', [⟨⟨t, d⟩, none, []⟩], bs, rfl, g4, ⟨d, hd, g3 ⟨t, d⟩ (by simp), rfl, rfl⟩, ?_⟩
      show BackOK w' Sh' ks zs (cutA [t] (backs ks) (joinA [t] (backs ks) xs ys)).2 bs
      rw [c1]; exact g5
   | many ts =>
    simp only [finish] at hfi
    cases h1 : (resL T st.tmps fn.results.toList ts []).go st.roots with
    | none => rw [h1] at hfi; cases hfi
    | some q =>
     obtain ⟨xs, ws⟩ := q
     rw [h1] at hfi
     simp only at hfi
     cases h2 : backL (app ws st.roots) ids 0 ks with
     | none => rw [h2] at hfi; cases hfi
     | some ys =>
      rw [h2] at hfi; cases hfi
      obtain ⟨Sh', rs, bs, g1, g2, g3, g4, g5⟩ := gen ts xs ws ys h1 h2
      obtain ⟨c1, c2⟩ := cut_join ts (backs ks) xs ys
      have hlen : rs.length ≠ 1 := by
       rw [dvs_len g2]
       intro e
       have hrk : (!Nat.beq ts.length 1) = true := hrk
       rw [e] at hrk; cases hrk
      refine ⟨_, g1, _, Sh', rs.map (fun z => ⟨z, none, []⟩), bs, rfl, g4, ⟨rs, c2 rs g2, g3, ?_, rfl⟩, ?_⟩
      ·rcases rs with _ | ⟨r1, _ | ⟨r2, rs⟩⟩
       ·rfl
       ·exact absurd rfl hlen
       ·rfl
      ·show BackOK w' Sh' ks zs (cutA ts (backs ks) (joinA ts (backs ks) xs ys)).2 bs
       rw [c1]; exact g5
   | ptr t =>
    have hb0 : backs ks = [] := by
     have : (backs ks).isEmpty = true := hrk
     simpa using this
    simp only [finish] at hfi
    split at hfi
    case h_2 => cases hfi
    rename_i s hrs
    split at hfi
    case h_2 => cases hfi
    rename_i id s' hts
    cases hr1 : st.roots id with
    | none => rw [hr1] at hfi; cases hfi
    | some r =>
     rw [hr1] at hfi
     simp only at hfi
     cases hbo : (r.blk && r.org.isNone) with
     | false => rw [hbo] at hfi; cases hfi
     | true =>
      rw [hbo] at hfi
      simp only [cond_true] at hfi
      rw [Bool.and_eq_true] at hbo
      cases hx : toT r.v t with
      | none => rw [hx] at hfi; cases hfi
      | some x1 =>
       cases h2 : backL st.roots ids 0 ks with
       | none => rw [hx, h2] at hfi; cases hfi
       | some ys =>
        rw [hx, h2] at hfi; cases hfi
        have RR := hR.root id r hr1
        have hv := hR.tmp s
        rw [hts] at hv
        obtain ⟨cs, ⟨v0, rfl, r', hr', _, hp⟩, hv⟩ := hv
        rw [hr1] at hr'; cases hr'
        obtain ⟨k, o, u, hl, rfl⟩ := hp (since0 _ _ _)
        have hbase : DRoot.base (D id) = some (k, o) := by
         have hl : some (DRoot.base (D id), (D id).dv) = some (some (k, o), u) := hl
         injection hl with hl
         exact congrArg Prod.fst hl
        obtain ⟨hbk', rfl⟩ := base_some hbase
        rw [<- RR.er] at hx
        obtain ⟨hlow, hxx⟩ := toT_some hx
        have hnd1 := List.nodup_append.1 RR.nd
        obtain ⟨d', e1, e2, e3, e4, e5⟩ := Ty.lower (t := (D id).dv.t) hlow RR.ok hnd1.2.1
        have hbt : k ∉ DV.foot (D id).dv := fun hm => hnd1.2.2 k (by rw [hbk']; exact List.mem_singleton.2 rfl) k hm rfl
        have hfresh := hR.fresh id r hr1
        have hlen : act.tmps.getD s undef = .pointer (some ⟨k, 0, none⟩) := hv
        let Sh' : Nat -> Prop := fun b => Sh1 b \/ (b ∈ DV.foot (D id).dv /\ b ∉ t.foot d')
        refine ⟨.pointer (some ⟨k, 0, none⟩), ?_, _, Sh', [⟨⟨t, d'⟩, some k, []⟩], [], rfl, ⟨hR.os, hR.tape, hR.output, hR.hsz, hR.block, fun b hb => .inl (hR.sh0 b hb), fun b hb => ?_, ?_, fun b hb => ?_⟩, ⟨d', k, (e1.trans hxx.symm).trans (cut_fst (backs ks) x1 ys).symm, e5 Sh' (fun b hb => .inl hb) (fun b hb hb' => .inr ⟨hb, hb'⟩), ?_, rfl, rfl⟩, ?_⟩
        ·refine results_run (vs := [.pointer (some ⟨k, 0, none⟩)]) ?_
         rw [hrs]
         simp only [List.mapM_cons, List.mapM_nil, evalR, Sem.run_bind, Sem.run_pure, Result.andThen_ok, hlen]
        ·rcases hb with hb | ⟨hb, _⟩
         ·exact hR.shn b hb
         ·have := hfresh b (mem_dv hb)
          exact ⟨this.2.2.elim (fun h => .inr (.inl h)) (fun h => .inr (.inr h)), this.2.1⟩
        ·show ((k :: t.foot d') ++ [] ++ []).Nodup
         rw [List.append_nil, List.append_nil]
         exact List.nodup_cons.2 ⟨fun hm => hbt (e3 k hm), e4⟩
        ·have hb : b ∈ (k :: t.foot d') ++ [] ++ [] := hb
         rw [List.append_nil, List.append_nil] at hb
         rcases List.mem_cons.1 hb with rfl | hb
         ·have := hfresh b (mem_b hbk')
          refine ⟨fun hs => ?_, this.2⟩
          rcases hs with hs | ⟨hs, _⟩
          ·exact this.1 hs
          ·exact hbt hs
         ·have := hfresh b (mem_dv (e3 b hb))
          refine ⟨fun hs => ?_, this.2⟩
          rcases hs with hs | ⟨_, hs⟩
          ·exact this.1 hs
          ·exact hs hb
        ·obtain ⟨row, e, hrow, hc⟩ := RR.loc k hbk'
         refine ⟨row, e, hrow, fun j v hj => hc j v ?_⟩
         have hj : (t.cs d')[j]? = some v := hj
         rw [e2] at hj; exact hj
        ·show BackOK w' Sh' ks zs (cutA [t] (backs ks) (joinA [t] (backs ks) x1 ys)).2 []
         rw [(cut_join [t] (backs ks) x1 ys).1, cutB_nil hb0]
         exact backs_none hb0 hA
  refine calls_of_wp hf hb (runC_ok (C := ctxOf P w Sh fn.ntmps zs) (hop _ rfl) hmo code hck _ _ y hr _ (fun e st' hk D Sh1 act w' hR => ?_) _ Sh _ w hrel)
  cases e with
  | normal => exact hfin st' D Sh1 act w' hk hR
  | ret => exact hfin st' D Sh1 act w' hk hR
  | exit j => cases hk
end Go.Proofs.YtipaepbmdooekaaGreat.Vm
namespace Go.Proofs.YtipaepbmdooekaaGreat.Vm
open Go Go.RowKit
set_option linter.unusedVariables false
section
variable {C : Ctx} {st : St} {D : Nat -> DRoot} {Sh Sh2 : Nat -> Prop} {F F' : List DV} {a : Act} {w w' : World}
theorem RelF.turn2 (h : RelF C st D Sh F a w) (ho : w'.os = w.os) (ht : w'.tape = w.tape) (hp : w'.output = w.output) (hz : w.heap.size <= w'.heap.size)
  (hb : ∀ b, b < w.heap.size -> b ∉ F.flatMap DV.foot -> w'.heap[b]? = w.heap[b]?) (hs : ∀ b, Sh b -> Sh2 b) (hsn : ∀ b, Sh2 b -> (Sh b \/ w.heap.size <= b \/ b ∈ F.flatMap DV.foot) /\ b < w'.heap.size) (hok : ∀ v ∈ F', v.OK w' Sh2) (hnd : (F'.flatMap DV.foot).Nodup)
  (hsub : ∀ b ∈ F'.flatMap DV.foot, ¬ Sh2 b /\ b < w'.heap.size /\ (b ∈ F.flatMap DV.foot \/ w.heap.size <= b)) : Keeps w w' Sh Sh2 st.roots st.roots D D /\ RelF C st D Sh2 F' a w' := by
 have hsh : ∀ b, Sh b -> w'.heap[b]? = w.heap[b]? := fun b hs => hb b (h.rel.shn b hs).2 (fun hm => (h.fdis b hm).2.1 hs)
 have hroot : ∀ id r, st.roots id = some r -> ∀ b ∈ (D id).foot, w'.heap[b]? = w.heap[b]? := fun id r hr b hm =>
  hb b (h.rel.fresh id r hr b hm).2.1 (fun hm' => (h.fdis b hm').1 id r hr hm)
 have K : Keeps w w' Sh Sh2 st.roots st.roots D D := ⟨hsh, hs, fun id r hr => ⟨r, [], hr, rfl, fun p t _ _ b u hl ht => ⟨b, u, hl, ht, rfl⟩, fun p _ k o u hl => ⟨u, hl⟩⟩⟩
 refine ⟨K, ⟨⟨ho.trans h.rel.os, ht.trans h.rel.tape, hp.trans h.rel.output, Nat.le_trans h.rel.hsz hz, fun b hlt hm => ?_, fun b hb => hs b (h.rel.sh0 b hb), fun b hb2 => ?_, fun id r hr => ?_, h.rel.dis,
  fun id r hr b hm => ?_, fun t => K.avr (h.rel.tmp t), h.rel.size, h.rel.defers⟩, hok, hnd, fun b hm => ?_⟩⟩
 ·refine (hb b (Nat.lt_of_lt_of_le hlt h.rel.hsz) (fun hm' => ?_)).trans (h.rel.block b hlt hm)
  rcases (h.fdis b hm').2.2.2 with h1 | h1
  ·omega
  ·exact hm h1
 ·obtain ⟨h1, h2⟩ := hsn b hb2
  refine ⟨?_, h2⟩
  rcases h1 with h1 | h1 | h1
  ·exact (h.rel.shn b h1).1
  ·exact .inr (.inl (Nat.le_trans h.rel.hsz h1))
  ·exact (h.fdis b h1).2.2.2.elim (fun e => .inr (.inl e)) (fun e => .inr (.inr e))
 ·have R := h.rel.root id r hr
  refine ⟨R.er, Ty.OK_frame hsh hs (fun b hm => hroot id r hr b (mem_dv hm)) R.ok, R.blk, fun k hk => ?_, R.nd, R.top, R.org, R.pin⟩
  obtain ⟨row, e, hrow, hc⟩ := R.loc k hk
  exact ⟨row, e, hrow.frame (hroot id r hr k (mem_b hk)), hc⟩
 ·have f := h.rel.fresh id r hr b hm
  refine ⟨fun h2 => ?_, Nat.lt_of_lt_of_le f.2.1 hz, f.2.2⟩
  rcases (hsn b h2).1 with h1 | h1 | h1
  ·exact f.1 h1
  ·omega
  ·exact (h.fdis b h1).1 id r hr hm
 ·obtain ⟨s1, s2, s3⟩ := hsub b hm
  rcases s3 with hm | hm
  ·obtain ⟨g1, g2, g3, g4⟩ := h.fdis b hm
   exact ⟨g1, s1, s2, g4⟩
  ·refine ⟨fun id r hr hm' => ?_, s1, s2, .inl (Nat.le_trans h.rel.hsz hm)⟩
   have := (h.rel.fresh id r hr b hm').2.1; omega
theorem RelF.both (h : RelF C st D Sh F a w) {id : Nat} {r' : Root} {d' : DRoot} (ho : w'.os = w.os) (ht : w'.tape = w.tape) (hp : w'.output = w.output) (hz : w.heap.size <= w'.heap.size)
  (hb : ∀ b, b < w.heap.size -> (∀ r, st.roots id = some r -> b ∉ (D id).foot) -> b ∉ F.flatMap DV.foot -> w'.heap[b]? = w.heap[b]?) (hs : ∀ b, Sh b -> Sh2 b)
  (hsn : ∀ b, Sh2 b -> (Sh b \/ w.heap.size <= b \/ b ∈ F.flatMap DV.foot \/ ∃ r, st.roots id = some r /\ b ∈ (D id).foot) /\ b < w'.heap.size) (hR : RRel w' Sh2 C r' d')
  (hok : ∀ v ∈ F', v.OK w' Sh2) (hnd : (d'.foot ++ F'.flatMap DV.foot).Nodup)
  (hsub : ∀ b ∈ d'.foot ++ F'.flatMap DV.foot, ¬ Sh2 b /\ b < w'.heap.size /\ ((∃ r, st.roots id = some r /\ b ∈ (D id).foot) \/ b ∈ F.flatMap DV.foot \/ w.heap.size <= b))
  (K : Keeps w w' Sh Sh2 st.roots (upt st.roots id (some r')) D (upt D id d')) : RelF C ⟨st.tmps, upt st.roots id (some r')⟩ (upt D id d') Sh2 F' a w' := by
 have hkeep : ∀ i r, i ≠ id -> st.roots i = some r -> ∀ b ∈ (D i).foot, w'.heap[b]? = w.heap[b]? := fun i r hi hr b hm =>
  hb b (h.rel.fresh i r hr b hm).2.1 (fun r0 h0 => h.rel.dis i id r r0 hi hr h0 b hm) (fun hm' => (h.fdis b hm').1 i r hr hm)
 have hns : ∀ i r, i ≠ id -> st.roots i = some r -> ∀ b ∈ (D i).foot, ¬ Sh2 b := by
  intro i r hi hr b hm h2
  rcases (hsn b h2).1 with h1 | h1 | h1 | ⟨r0, h0, h1⟩
  ·exact (h.rel.fresh i r hr b hm).1 h1
  ·have := (h.rel.fresh i r hr b hm).2.1; omega
  ·exact (h.fdis b h1).1 i r hr hm
  ·exact h.rel.dis i id r r0 hi hr h0 b hm h1
 have hM : ∀ b, ((∃ r, st.roots id = some r /\ b ∈ (D id).foot) \/ b ∈ F.flatMap DV.foot \/ w.heap.size <= b) -> (C.w0.heap.size <= b \/ C.M b) := by
  intro b hb
  rcases hb with ⟨r, hr, hm⟩ | hm | hm
  ·exact (h.rel.fresh id r hr b hm).2.2
  ·exact (h.fdis b hm).2.2.2
  ·exact .inl (Nat.le_trans h.rel.hsz hm)
 have hother : ∀ i r, i ≠ id -> st.roots i = some r -> ∀ b ∈ (D i).foot, b ∉ d'.foot ++ F'.flatMap DV.foot := by
  intro i r hi hr b hb1 hb2
  rcases (hsub b hb2).2.2 with ⟨r0, h0, hm⟩ | hm | hm
  ·exact h.rel.dis i id r r0 hi hr h0 b hb1 hm
  ·exact (h.fdis b hm).1 i r hr hb1
  ·have := (h.rel.fresh i r hr b hb1).2.1; omega
 refine ⟨⟨ho.trans h.rel.os, ht.trans h.rel.tape, hp.trans h.rel.output, Nat.le_trans h.rel.hsz hz, ?_, fun b hb => hs b (h.rel.sh0 b hb), fun b h2 => ?_, ?_, ?_, ?_, fun t => K.avr (h.rel.tmp t), h.rel.size, h.rel.defers⟩, hok, (List.nodup_append.1 hnd).2.1, ?_⟩
 ·intro b hlt hm
  refine (hb b (Nat.lt_of_lt_of_le hlt h.rel.hsz) (fun r hr hmem => ?_) (fun hmem => ?_)).trans (h.rel.block b hlt hm)
  ·rcases (h.rel.fresh id r hr b hmem).2.2 with h1 | h1
   ·omega
   ·exact hm h1
  ·rcases (h.fdis b hmem).2.2.2 with h1 | h1
   ·omega
   ·exact hm h1
 ·obtain ⟨h1, h3⟩ := hsn b h2
  refine ⟨?_, h3⟩
  rcases h1 with h1 | h1 | h1 | ⟨r0, h0, h1⟩
  ·exact (h.rel.shn b h1).1
  ·exact .inr (.inl (Nat.le_trans h.rel.hsz h1))
  ·exact (h.fdis b h1).2.2.2.elim (fun e => .inr (.inl e)) (fun e => .inr (.inr e))
  ·exact (h.rel.fresh id r0 h0 b h1).2.2.elim (fun e => .inr (.inl e)) (fun e => .inr (.inr e))
 ·intro i ri hi0
  have hi : upt st.roots id (some r') i = some ri := hi0
  clear hi0
  by_cases e : i = id
  ·subst e
   rw [upt_same] at hi; cases hi
   rw [upt_same]; exact hR
  ·rw [upt_ne _ _ e] at hi ⊢
   have R := h.rel.root i ri hi
   refine ⟨R.er, Ty.OK_frame K.sh K.shm (fun b hm => hkeep i ri e hi b (mem_dv hm)) R.ok, R.blk, fun k hk => ?_, R.nd, R.top, R.org, R.pin⟩
   obtain ⟨row, el, hrow, hc⟩ := R.loc k hk
   exact ⟨row, el, hrow.frame (hkeep i ri e hi k (mem_b hk)), hc⟩
 ·intro i j ri rj hij hi0 hj0 b hb1
  have hi : upt st.roots id (some r') i = some ri := hi0
  have hj : upt st.roots id (some r') j = some rj := hj0
  clear hi0 hj0
  by_cases ei : i = id
  ·subst ei
   rw [upt_same] at hb1
   rw [upt_ne _ _ (Ne.symm hij)] at hj ⊢
   exact fun hb2 => hother j rj (Ne.symm hij) hj b hb2 (List.mem_append_left _ hb1)
  ·rw [upt_ne _ _ ei] at hi hb1
   by_cases ej : j = id
   ·subst ej
    rw [upt_same]
    exact fun hb2 => hother i ri ei hi b hb1 (List.mem_append_left _ hb2)
   ·rw [upt_ne _ _ ej] at hj ⊢
    exact h.rel.dis i j ri rj hij hi hj b hb1
 ·intro i ri hi0 b hb1
  have hi : upt st.roots id (some r') i = some ri := hi0
  clear hi0
  by_cases ei : i = id
  ·subst ei
   rw [upt_same] at hb1
   obtain ⟨s1, s2, s3⟩ := hsub b (List.mem_append_left _ hb1)
   exact ⟨s1, s2, hM b s3⟩
  ·rw [upt_ne _ _ ei] at hi hb1
   obtain ⟨f1, f2, f3⟩ := h.rel.fresh i ri hi b hb1
   exact ⟨hns i ri ei hi b hb1, by omega, f3⟩
 ·intro b hm
  obtain ⟨s1, s2, s3⟩ := hsub b (List.mem_append_right _ hm)
  refine ⟨fun i ri hi0 => ?_, s1, s2, hM b s3⟩
  have hi : upt st.roots id (some r') i = some ri := hi0
  clear hi0
  by_cases ei : i = id
  ·subst ei
   rw [upt_same]
   exact fun hb2 => (List.nodup_append.1 hnd).2.2 b hb2 b hm rfl
  ·rw [upt_ne _ _ ei] at hi ⊢
   exact fun hb2 => hother i ri ei hi b hb2 (List.mem_append_right _ hm)
end
theorem noshr_ok {w : World} {Sh Sh' : Nat -> Prop} : ∀ {t : Ty} {d : t.dec}, noshr t = true -> t.OK w Sh d -> t.OK w Sh' d
 | .int _, _, _, _ | .bool, _, _, _ | .str, _, _, _ | .nil, _, _, _ => trivial
 | .hole, _, _, h => h
 | .sl true e t, x, hn, h => by
  have hn : noshr t = true := by simpa [noshr] using hn
  rcases h with h | ⟨b, o, row, hA, hb, hl, hm, hr, hd⟩
  ·exact .inl h
  ·exact .inr ⟨b, o, row, hA, hb, hl, hm, hr, fun i d hi => ⟨noshr_ok hn (hd i d hi).1, (hd i d hi).2⟩⟩
 | .sl false _ _, _, hn, _ => by cases hn
 | .cons a r, x, hn, h => by
  simp only [noshr, Bool.and_eq_true] at hn
  exact ⟨noshr_ok hn.1 h.1, noshr_ok hn.2 h.2⟩
section
variable {C : Ctx} {T : Nat -> AV} {R : Nat -> Option Root} {D : Nat -> DRoot} {Sh Sh' : Nat -> Prop} {a : Act} {w : World}
def lentIn (R : Nat -> Option Root) (D : Nat -> DRoot) (ids : List Nat) (b : Nat) : Prop := ∃ id r, id ∈ ids /\ R id = some r /\ b ∈ (D id).foot
theorem look_foot : ∀ {p : Path} {v : DV} {b b' : Base} {u : DV}, lookD v b p = some (b', u) -> ∀ k ∈ u.foot, k ∈ v.foot := by
 intro p v b b' u hl k hk
 obtain ⟨L1, L2, f1, _⟩ := foot_put hl
 rw [f1]; exact List.mem_append_left _ (List.mem_append_right _ hk)
theorem lendV_ok {ws : Writes} (hR : Rel C ⟨T, app ws R⟩ D Sh a w) (hs : ∀ b, Sh b -> Sh' b) : ∀ {x : AV} {ty : Ty} {v : V} {cs : List Value}, (lendV ty x ws).go R = some v -> (∀ b, lentIn (app ws R) D (lent x) b -> Sh' b) -> AVC w Sh (app ws R) D x cs -> Ty.RR w Sh' v.t v.x cs /\ x.agg = v.t.agg
 | .sh t x, ty, v, cs, h, hl, hc => by
  simp only [lendV] at h; cases h
  exact ⟨Ty.RR_mono (fun _ _ => rfl) hs hc, rfl⟩
 | .nilsl, ty, v, cs, h, hl, hc => by
  cases ty <;> simp only [lendV] at h <;> cases h
  cases hc
  exact ⟨⟨none, 0, rfl, Nat.le_refl _, Nat.zero_le _, fun i x hx => by cases hx⟩, rfl⟩
 | .al id p s t, ty, v, cs, h, hl, hc => by
  simp only [lendV, getR_go] at h
  obtain ⟨hf, r, hr, hsl, hcv⟩ := hc
  rw [hr] at h
  simp only at h
  cases hok : okR r s (depth p + 1) (!t.agg) with
  | false => rw [hok] at h; cases h
  | true =>
   rw [hok] at h
   obtain ⟨b, u, hlk, ht, rfl⟩ := hcv (okR_spec hok).2
   obtain ⟨hg, huok, _⟩ := hR.look hr hlk
   simp only [cond_true, hg] at h
   cases h
   refine ⟨Ty.OK_RR hs huok (fun b hb => hl b ⟨id, r, by simp [lent], hr, mem_dv (look_foot hlk b hb)⟩), by rw [<- ht]; rfl⟩
 | .cut id p s t lo n, ty, v, cs, h, hl, hc => by
  simp only [lendV, getR_go] at h
  obtain ⟨r, hr, hsl, hcv⟩ := hc
  rw [hr] at h
  simp only at h
  cases hok : okR r s (depth p + 1) true with
  | false => rw [hok] at h; cases h
  | true =>
   rw [hok] at h
   obtain ⟨b, e, te, A, c, ds, ht, hlk, hlen, A', rfl, hA⟩ := hcv (okR_spec hok).2
   obtain ⟨hg, huok, _⟩ := hR.look hr hlk
   have hg : getV r.v p = some ⟨.sl true e te, ds.map te.er⟩ := hg
   simp only [cond_true, hg] at h
   cases h
   have hRR : Ty.RR w Sh' (.sl true e te) (ds.map te.er) [.slice A ds.length c] := Ty.OK_RR (t := .sl true e te) (d := ((A, c), ds)) hs huok (fun b hb => hl b ⟨id, r, by simp [lent], hr, mem_dv (look_foot hlk b hb)⟩)
   rw [show ds.length = (ds.map te.er).length by rw [List.length_map]] at hRR
   exact ⟨RR_cut hRR (lo := lo) (n := n) (by rw [List.length_map]; exact hlen) hA.1, rfl⟩
 | .nilf, ty, v, cs, h, hl, hc => by
  cases ty <;> simp only [lendV] at h <;> cases h
  cases hc
  exact ⟨rfl, rfl⟩
 | .consf x y, ty, v, cs, h, hl, hc => by
  cases ty with
  | cons ta tb =>
   simp only [lendV, Prog.go_bind] at h
   cases h1 : (lendV ta x ws).go R with
   | none => rw [h1] at h; cases h
   | some u =>
    rw [h1] at h
    simp only at h
    cases h2 : (lendV tb y ws).go R with
    | none => rw [h2] at h; cases h
    | some u2 =>
     rw [h2] at h; cases h
     obtain ⟨c0, c1, rfl, hc0, hc1⟩ := hc
     obtain ⟨i1, _⟩ := lendV_ok hR hs h1 (fun b hb => hl b (by obtain ⟨id, r, m, q1, q2⟩ := hb; exact ⟨id, r, List.mem_append_left _ m, q1, q2⟩)) hc0
     obtain ⟨i2, _⟩ := lendV_ok hR hs h2 (fun b hb => hl b (by obtain ⟨id, r, m, q1, q2⟩ := hb; exact ⟨id, r, List.mem_append_right _ m, q1, q2⟩)) hc1
     exact ⟨⟨c0, c1, rfl, i1, i2⟩, rfl⟩
  | _ => simp only [lendV] at h; cases h
 | .any, ty, v, cs, h, hl, hc => hc.elim
 | .tup _, ty, v, cs, h, hl, hc => hc.elim
 | .ptr _ _ _, ty, v, cs, h, hl, hc => by simp only [lendV] at h; cases h
 | .sptr _ _, ty, v, cs, h, hl, hc => by simp only [lendV] at h; cases h
 | .fn _ _, ty, v, cs, h, hl, hc => by simp only [lendV] at h; cases h
theorem lendP_ok {ws : Writes} (hR : Rel C ⟨T, app ws R⟩ D Sh a w) (hs : ∀ b, Sh b -> Sh' b) : ∀ {p : Pat} {x : AV} {y : p.den} {cs : List Value}, (lendP p x ws).go R = some y -> (∀ b, lentIn (app ws R) D (lent x) b -> Sh' b) -> AVC w Sh (app ws R) D x cs -> AVC w Sh' noR noD (p.av y) cs /\ x.agg = (p.av y).agg
 | .val t, x, y, cs, h, hl, hc => by
  simp only [lendP, Prog.go_bind] at h
  cases h1 : (lendV t x ws).go R with
  | none => rw [h1] at h; cases h
  | some v =>
   rw [h1] at h
   simp only at h
   cases h2 : asT v t with
   | none => rw [h2] at h; cases h
   | some y' =>
    rw [h2] at h; cases h
    obtain ⟨e, rfl⟩ := asT_some h2
    obtain ⟨i1, i2⟩ := lendV_ok hR hs h1 hl hc
    exact ⟨Ty.RR_same e i1, i2.trans (Ty.agg_same e)⟩
 | .sptr t, .sptr t' x, y, cs, h, hl, hc => by
  simp only [lendP] at h
  cases h2 : asT ⟨t', x⟩ t with
  | none => rw [h2] at h; cases h
  | some y' =>
   rw [h2] at h; cases h
   obtain ⟨e, rfl⟩ := asT_some h2
   obtain ⟨b, o, cc, rfl, hb, hRR, hcell⟩ := hc
   exact ⟨⟨b, o, cc, rfl, hs b hb, Ty.RR_same e (Ty.RR_mono (fun _ _ => rfl) hs hRR), hcell⟩, rfl⟩
 | .sptr t, .ptr id p s, y, cs, h, hl, hc => by
  simp only [lendP, getR_go] at h
  obtain ⟨v, rfl, r, hr, hsl, hcv⟩ := hc
  rw [hr] at h
  simp only at h
  cases hok : okR r s (depth p) true with
  | false => rw [hok] at h; cases h
  | true =>
   rw [hok] at h
   obtain ⟨k, o, u, hlk, rfl⟩ := hcv (okR_spec hok).2
   obtain ⟨hg, huok, hloc⟩ := hR.look hr hlk
   simp only [cond_true, hg] at h
   cases h2 : asT u.er t with
   | none => rw [h2] at h; cases h
   | some y' =>
    rw [h2] at h; cases h
    obtain ⟨e, rfl⟩ := asT_some h2
    have hin : ∀ b ∈ (D id).foot, Sh' b := fun b hb => hl b ⟨id, r, by simp [lent], hr, hb⟩
    have hk : k ∈ (D id).foot := by
     rcases look_block hlk k o rfl with ⟨o', ho'⟩ | hm
     ·exact mem_b (base_some ho').1
     ·exact mem_dv hm
    obtain ⟨row, el, hrow, hcl⟩ := hloc k o rfl
    exact ⟨⟨k, o, u.cs, rfl, hin k hk, Ty.RR_same e (Ty.OK_RR hs huok (fun b hb => hin b (mem_dv (look_foot hlk b hb)))), fun j v hj => by rw [hrow.cell]; exact hcl j v hj⟩, rfl⟩
 | .fn f c, .fn g x, y, cs, h, hl, hc => by
  simp only [lendP] at h
  cases hb : Nat.beq f g with
  | false => rw [hb] at h; cases h
  | true =>
   rw [hb] at h
   have e := Nat.eq_of_beq_eq_true hb
   subst e
   obtain ⟨cc, rfl, hcc⟩ := hc
   exact ⟨⟨cc, rfl, (lendP_ok hR hs (p := c) h hl hcc).1⟩, rfl⟩
 | .nil, .nilf, y, cs, h, hl, hc => ⟨hc, rfl⟩
 | .cons a r, .consf x x', y, cs, h, hl, hc => by
  simp only [lendP, Prog.go_bind] at h
  cases h1 : (lendP a x ws).go R with
  | none => rw [h1] at h; cases h
  | some u =>
   rw [h1] at h
   simp only at h
   cases h2 : (lendP r x' ws).go R with
   | none => rw [h2] at h; cases h
   | some u2 =>
    rw [h2] at h; cases h
    obtain ⟨c0, c1, rfl, hc0, hc1⟩ := hc
    obtain ⟨i1, _⟩ := lendP_ok hR hs h1 (fun b hb => hl b (by obtain ⟨id, r, m, q1, q2⟩ := hb; exact ⟨id, r, List.mem_append_left _ m, q1, q2⟩)) hc0
    obtain ⟨i2, _⟩ := lendP_ok hR hs h2 (fun b hb => hl b (by obtain ⟨id, r, m, q1, q2⟩ := hb; exact ⟨id, r, List.mem_append_right _ m, q1, q2⟩)) hc1
    exact ⟨⟨c0, c1, rfl, i1, i2⟩, rfl⟩
 | .sptr t, .any, y, cs, h, hl, hc | .sptr t, .sh _ _, y, cs, h, hl, hc | .sptr t, .nilsl, y, cs, h, hl, hc | .sptr t, .al _ _ _ _, y, cs, h, hl, hc | .sptr t, .cut _ _ _ _ _ _, y, cs, h, hl, hc | .sptr t, .nilf, y, cs, h, hl, hc
 | .sptr t, .consf _ _, y, cs, h, hl, hc | .sptr t, .fn _ _, y, cs, h, hl, hc | .sptr t, .tup _, y, cs, h, hl, hc => by simp only [lendP] at h; cases h
 | .fn _ _, .any, y, cs, h, hl, hc | .fn _ _, .sh _ _, y, cs, h, hl, hc | .fn _ _, .nilsl, y, cs, h, hl, hc | .fn _ _, .al _ _ _ _, y, cs, h, hl, hc | .fn _ _, .cut _ _ _ _ _ _, y, cs, h, hl, hc | .fn _ _, .nilf, y, cs, h, hl, hc
 | .fn _ _, .consf _ _, y, cs, h, hl, hc | .fn _ _, .ptr _ _ _, y, cs, h, hl, hc | .fn _ _, .sptr _ _, y, cs, h, hl, hc | .fn _ _, .tup _, y, cs, h, hl, hc => by simp only [lendP] at h; cases h
 | .nil, .any, y, cs, h, hl, hc | .nil, .sh _ _, y, cs, h, hl, hc | .nil, .nilsl, y, cs, h, hl, hc | .nil, .al _ _ _ _, y, cs, h, hl, hc | .nil, .cut _ _ _ _ _ _, y, cs, h, hl, hc | .nil, .consf _ _, y, cs, h, hl, hc
 | .nil, .fn _ _, y, cs, h, hl, hc | .nil, .ptr _ _ _, y, cs, h, hl, hc | .nil, .sptr _ _, y, cs, h, hl, hc | .nil, .tup _, y, cs, h, hl, hc => by simp only [lendP] at h; cases h
 | .cons _ _, .any, y, cs, h, hl, hc | .cons _ _, .sh _ _, y, cs, h, hl, hc | .cons _ _, .nilsl, y, cs, h, hl, hc | .cons _ _, .al _ _ _ _, y, cs, h, hl, hc | .cons _ _, .cut _ _ _ _ _ _, y, cs, h, hl, hc | .cons _ _, .nilf, y, cs, h, hl, hc
 | .cons _ _, .fn _ _, y, cs, h, hl, hc | .cons _ _, .ptr _ _ _, y, cs, h, hl, hc | .cons _ _, .sptr _ _, y, cs, h, hl, hc | .cons _ _, .tup _, y, cs, h, hl, hc => by simp only [lendP] at h; cases h
end
end Go.Proofs.YtipaepbmdooekaaGreat.Vm
namespace Go.Proofs.YtipaepbmdooekaaGreat.Vm
open Go Go.RowKit
set_option linter.unusedVariables false
theorem look_base : ∀ {q : Path} {t : Ty} {d d2 : t.dec} {b bq : Base} {u : DV}, depth q = 0 -> lookD ⟨t, d⟩ b q = some (bq, u) -> ∃ u2, lookD ⟨t, d2⟩ b q = some (bq, u2)
 | [], t, d, d2, b, bq, u, hd, h => by cases h; exact ⟨_, rfl⟩
 | .fst :: q, .cons a r, d, d2, b, bq, u, hd, h => look_base (q := q) (t := a) (d := d.1) (d2 := d2.1) hd h
 | .snd :: q, .cons a r, d, d2, b, bq, u, hd, h => look_base (q := q) (t := r) (d := d.2) (d2 := d2.2) hd h
 | .idx n :: q, t, d, d2, b, bq, u, hd, h => by cases hd
theorem keep_same : ∀ {t : Ty} {d d2 : t.dec}, t.cs d2 = t.cs d -> KeepAt ⟨t, d⟩ ⟨t, d2⟩ 1 False := by
 intro t d d2 hc q
 induction q generalizing t with
 | nil =>
  intro b b' u h
  cases h
  exact ⟨fun _ => ⟨_, rfl⟩, fun _ => ⟨_, rfl, rfl, hc⟩⟩
 | cons s q ih =>
  intro b b' u h
  cases s with
  | fst =>
   cases t with
   | cons a r =>
    have hc : a.cs d2.1 ++ r.cs d2.2 = a.cs d.1 ++ r.cs d.2 := hc
    have := List.append_inj hc (by rw [Ty.cs_len, Ty.cs_len])
    exact ih (t := a) (d := d.1) (d2 := d2.1) this.1 b b' u h
   | _ => cases h
  | snd =>
   cases t with
   | cons a r =>
    have hc : a.cs d2.1 ++ r.cs d2.2 = a.cs d.1 ++ r.cs d.2 := hc
    have := List.append_inj hc (by rw [Ty.cs_len, Ty.cs_len])
    exact ih (t := r) (d := d.2) (d2 := d2.2) this.2 _ b' u h
   | _ => cases h
  | idx n =>
   cases t with
   | sl o e t =>
    cases o with
    | false => cases h
    | true =>
     obtain ⟨⟨A, c⟩, ds⟩ := d
     obtain ⟨⟨A2, c2⟩, ds2⟩ := d2
     have hc : [Value.slice A2 ds2.length c2] = [Value.slice A ds.length c] := hc
     simp only [List.cons.injEq, Value.slice.injEq, and_true] at hc
     obtain ⟨rfl, hl, rfl⟩ := hc
     simp only [lookD] at h
     split at h
     case h_2 => cases h
     rename_i _ A1 dd hd
     have hlt : n < ds2.length := by have := (List.getElem?_eq_some_iff.1 hd).1; omega
     have hd2 : ds2[n]? = some ds2[n] := List.getElem?_eq_getElem hlt
     refine ⟨fun hp => ?_, fun hp => ?_⟩
     ·have hp : depth q = 0 := by
       rcases hp with hp | hp
       ·exact hp.elim
       ·have hp : depth q + 1 <= 1 := hp
        omega
      obtain ⟨u2, hu2⟩ := look_base (d2 := ds2[n]) hp h
      refine ⟨u2, ?_⟩
      simp only [lookD, hd2]; exact hu2
     ·rcases hp with hp | hp
      ·exact hp.1.elim
      ·have hp : depth q + 1 < 1 := hp
       omega
   | _ => cases h
theorem keep_rows (n : DV) : ∀ (q : Path) (v : DV) (b bq : Base) (uq v' : DV), lookD v b q = some (bq, uq) -> putD v q n = some v' -> n.t = uq.t -> n.cs = uq.cs -> KeepAt v v' (depth q + 1) False := by
 intro q
 induction q with
 | nil =>
  intro v b bq uq v' hq hp ht hc
  cases hq; cases hp
  obtain ⟨t, d⟩ := v
  obtain ⟨t', d'⟩ := n
  have ht : t' = t := ht
  subst ht
  exact keep_same hc
 | cons s q ih =>
  intro v b bq uq v' hq hp ht hc
  obtain ⟨t, x⟩ := v
  cases s with
  | fst =>
   cases t with
   | cons a r =>
    obtain ⟨z, hz, rfl⟩ := Option.map_eq_some_iff.1 (hp : (putD ⟨a, x.1⟩ q n).map _ = some v')
    exact keep_fst (put_sz (v := ⟨a, x.1⟩) (p := q) hq (by rw [ht]) hz) (ih ⟨a, x.1⟩ b bq uq z hq hz ht hc)
   | _ => cases hq
  | snd =>
   cases t with
   | cons a r =>
    obtain ⟨z, hz, rfl⟩ := Option.map_eq_some_iff.1 (hp : (putD ⟨r, x.2⟩ q n).map _ = some v')
    exact keep_snd (ih ⟨r, x.2⟩ _ bq uq z hq hz ht hc)
   | _ => cases hq
  | idx j =>
   cases t with
   | sl o e t =>
    cases o with
    | false => cases hq
    | true =>
     simp only [lookD] at hq
     split at hq
     case h_2 => cases hq
     rename_i A d hA hd
     simp only [putD, hd] at hp
     obtain ⟨z, hz, hp⟩ := Option.bind_eq_some_iff.1 hp
     split at hp
     case isFalse => cases hp
     rename_i ht'
     cases hp
     exact keep_idx hd ht' (ih ⟨t, d⟩ _ bq uq z hq hz ht hc)
   | _ => cases hq
theorem Keeps.rows {w w' : World} {Sh Sh' : Nat -> Prop} {R : Nat -> Option Root} {D : Nat -> DRoot} {id : Nat} {r r' : Root} {q : Path} {bq : Base} {uq n : DV} {dv' : DV} (d' : DRoot) (hsh : ∀ b, Sh b -> w'.heap[b]? = w.heap[b]?) (hm : ∀ b, Sh b -> Sh' b)
  (hr : R id = some r) (hq : lookD (D id).dv (D id).base q = some (bq, uq)) (hp : putD (D id).dv q n = some dv') (ht : n.t = uq.t) (hc : n.cs = uq.cs)
  (hd : d'.dv = dv') (hb : d'.b = (D id).b) (hlog : r'.log = (depth q + 1, true) :: r.log) : Keeps w w' Sh Sh' R (upt R id (some r')) D (upt D id d') where
 sh := hsh
 shm := hm
 root := fun i ri hri => by
  by_cases e : i = id
  ·subst e
   rw [hr] at hri; cases hri
   refine ⟨r', [(depth q + 1, true)], upt_same _ _ _, hlog, fun p t hf hpre b u hu ht' => ?_, fun p hpre k o u hu => ?_⟩
   ·rw [upt_same]
    have hbase : d'.base = (D i).base := by rw [DRoot.base, hb]; rfl
    rw [hd, hbase]
    have h := (keep_rows n q _ _ _ _ _ hq hp ht hc p _ _ _ hu).2 (by
     rcases bad1 hpre with hpre | hpre
     ·simp at hpre
     ·exact .inr hpre)
    obtain ⟨u', h1, h2, h3⟩ := h
    exact ⟨b, u', h1, h2.trans ht', h3⟩
   ·rw [upt_same]
    have hbase : d'.base = (D i).base := by rw [DRoot.base, hb]; rfl
    rw [hd, hbase]
    exact (keep_rows n q _ _ _ _ _ hq hp ht hc p _ _ _ hu).1 (by
     rcases bad1 hpre with hpre | hpre
     ·simp at hpre
     ·exact .inr hpre)
  ·refine ⟨ri, [], (upt_ne _ _ e).trans hri, rfl, fun p t _ _ b u hu ht => ?_, fun p _ k o u hu => ?_⟩
   ·rw [upt_ne _ _ e]; exact ⟨b, u, hu, ht, rfl⟩
   ·rw [upt_ne _ _ e]; exact ⟨u, hu⟩
theorem look_notin : ∀ {p : Path} {v : DV} {b b' : Base} {u : DV}, lookD v b p = some (b', u) -> v.foot.Nodup -> (∀ k o, b = some (k, o) -> k ∉ v.foot) -> ∀ k o, b' = some (k, o) -> k ∉ u.foot
 | [], v, b, b', u, h, hn, hb, k, o, hk => by cases h; exact hb k o hk
 | .fst :: p, ⟨.cons a r, x⟩, b, b', u, h, hn, hb, k, o, hk =>
  look_notin (p := p) (v := ⟨a, x.1⟩) h (List.nodup_append.1 (show (a.foot x.1 ++ r.foot x.2).Nodup from hn)).1 (fun k o hk hm => hb k o hk (List.mem_append_left _ hm)) k o hk
 | .snd :: p, ⟨.cons a r, x⟩, b, b', u, h, hn, hb, k, o, hk =>
  look_notin (p := p) (v := ⟨r, x.2⟩) h (List.nodup_append.1 (show (a.foot x.1 ++ r.foot x.2).Nodup from hn)).2.1 (fun k o hk hm => by
   cases b with
   | none => cases hk
   | some z => obtain ⟨k0, o0⟩ := z; cases hk; exact hb k0 o0 rfl (List.mem_append_right _ hm)) k o hk
 | .idx n :: p, ⟨.sl true e t, x⟩, b, b', u, h, hn, hb, k, o, hk => by
  simp only [lookD] at h
  split at h
  case h_2 => cases h
  rename_i A d hA hd
  have hn : ((x.1.1.map (·.block)).toList ++ x.2.flatMap t.foot).Nodup := hn
  obtain ⟨n1, n2, n3⟩ := List.nodup_append.1 hn
  obtain ⟨M1, M2, m1, _⟩ := flatMap_set t.foot x.2 n hd
  exact look_notin (p := p) (v := ⟨t, d⟩) h (nodup_mid (m1 ▸ n2)) (fun k o hk hm => by
   cases hk
   exact n3 _ (by rw [hA]; exact List.mem_singleton.2 rfl) _ (List.mem_flatMap.2 ⟨d, List.mem_of_getElem? hd, hm⟩) rfl) k o hk
def AVRs (w : World) (Sh : Nat -> Prop) (R : Nat -> Option Root) (D : Nat -> DRoot) : List AV -> List Value -> Prop
 | [], vs => vs = []
 | x :: xs, vs => ∃ v vs', vs = v :: vs' /\ AVR w Sh R D x v /\ AVRs w Sh R D xs vs'
theorem AVRs.mono {w w' : World} {Sh Sh' : Nat -> Prop} {R R' : Nat -> Option Root} {D D' : Nat -> DRoot} (K : Keeps w w' Sh Sh' R R' D D') : ∀ {xs : List AV} {vs : List Value}, AVRs w Sh R D xs vs -> AVRs w' Sh' R' D' xs vs
 | [], vs, h => h
 | x :: xs, vs, h => by obtain ⟨v, vs', e, h1, h2⟩ := h; exact ⟨v, vs', e, K.avr h1, AVRs.mono K h2⟩
section
variable (w : World) (Sh : Nat -> Prop) (R : Nat -> Option Root) (D : Nat -> DRoot)
def PreOK : (k : PK) -> k.pre -> AV -> Value -> DRoot -> Prop
 | .r p, y, x, v, z => z = noZ /\ ∀ y' : p.den, y = some y' -> AVS w Sh noR noD (p.av y') v
 | .o t, y, x, v, z => t.flat = false /\ z.b = none /\ z.dv.er = ⟨t, y⟩ /\ v = mkw t.agg z.dv.cs
 | .p t t', y, x, v, z => ∃ id s r b, x = .ptr id [] s /\ R id = some r /\ (D id).b = some b /\ z.b = some b /\ z.dv.er = ⟨t, y⟩ /\ v = .pointer (some ⟨b, 0, none⟩) /\ Loc w b 0 z.dv
 | .c t, _, x, v, z => z = noZ
def PresOK : (ks : List PK) -> preT ks -> List AV -> List Value -> List DRoot -> Prop
 | [], _, [], [], [] => True
 | k :: ks, y, x :: xs, v :: vs, z :: zs => PreOK w Sh R D k y.1 x v z /\ PresOK ks y.2 xs vs zs
 | _, _, _, _, _ => False
end
section
variable {C : Ctx} {T : Nat -> AV} {R : Nat -> Option Root} {D : Nat -> DRoot} {Sh Sh' : Nat -> Prop} {F : List DV} {a : Act} {w : World}
theorem Keeps.blk {w w' : World} {R R' : Nat -> Option Root} {D D' : Nat -> DRoot} (K : Keeps w w' Sh Sh' R R' D D') {id : Nat} {r : Root} {b : Nat} (hr : R id = some r) (hb : (D id).b = some b) : ∃ r', R' id = some r' /\ (D' id).b = some b := by
 obtain ⟨r', pre, h1, _, _, h2⟩ := K.root id r hr
 obtain ⟨u', hu⟩ := h2 [] (by
  rw [List.all_eq_true]
  intro e _
  simp [bad, depth, Nat.blt, Nat.ble]) b 0 (D id).dv (by show some (DRoot.base (D id), (D id).dv) = _; rw [base_of hb])
 have hu : some (DRoot.base (D' id), (D' id).dv) = some (some (b, 0), u') := hu
 injection hu with hu
 exact ⟨r', h1, (base_some (congrArg Prod.fst hu)).1⟩
theorem PreOK.mono {R R' : Nat -> Option Root} {D D' : Nat -> DRoot} (K : Keeps w w Sh Sh' R R' D D') : ∀ {k : PK} {y : k.pre} {x : AV} {v : Value} {z : DRoot}, PreOK w Sh R D k y x v z -> PreOK w Sh' R' D' k y x v z
 | .r p, y, x, v, z, h => ⟨h.1, fun y' e => by
  obtain ⟨cs, hc, hv⟩ := h.2 y' e
  exact ⟨cs, (Keeps.avc (R := noR) (R' := noR) (D := noD) (D' := noD) ⟨fun _ _ => rfl, K.shm, fun id r hr => by cases hr⟩ hc), hv⟩⟩
 | .o t, y, x, v, z, h => h
 | .p t t', y, x, v, z, h => by
  obtain ⟨id, s, r, b, h1, h2, h3, h4⟩ := h
  obtain ⟨r', e1, e2⟩ := K.blk h2 h3
  exact ⟨id, s, r', b, h1, e1, e2, h4⟩
 | .c t, y, x, v, z, h => h
theorem takeIf_ok {strict : Bool} {p : Pat} {x : AV} {ws ws' : Writes} {y : Option p.den} (h : (takeIf strict p x ws).go R = some (y, ws')) (hF : RelF C ⟨T, app ws R⟩ D Sh F a w) {v : Value} (hv : AVR w Sh (app ws R) D x v) :
  ∃ (D' : Nat -> DRoot) (Sh' : Nat -> Prop), (∀ y' : p.den, y = some y' -> AVS w Sh' noR noD (p.av y') v) /\ (∀ b, Sh b -> Sh' b) /\ Keeps w w Sh Sh' (app ws R) (app ws' R) D D' /\ RelF C ⟨T, app ws' R⟩ D' Sh' F a w := by
 have none_ok : ∀ {y : Option p.den}, some ((none : Option p.den), ws) = some (y, ws') -> ∃ (D' : Nat -> DRoot) (Sh' : Nat -> Prop), (∀ y' : p.den, y = some y' -> AVS w Sh' noR noD (p.av y') v) /\ (∀ b, Sh b -> Sh' b) /\ Keeps w w Sh Sh' (app ws R) (app ws' R) D D' /\ RelF C ⟨T, app ws' R⟩ D' Sh' F a w := by
  intro y h
  cases h
  exact ⟨D, Sh, (fun y' e => by cases e), fun _ h => h, Keeps.grow (fun _ _ => rfl), hF⟩
 cases p with
 | val t =>
  simp only [takeIf] at h
  cases hb : (strict && isOwn x) with
  | false => rw [hb] at h; exact none_ok h
  | true =>
   rw [hb] at h
   simp only [cond_true, Prog.go_bind] at h
   cases hk : (takeTo t x ws).go R with
   | none => rw [hk] at h; cases h
   | some q =>
    obtain ⟨y1, ws1⟩ := q
    rw [hk] at h; cases h
    obtain ⟨D1, Sh1, d, e1, e2, s1, K1, F1⟩ := takeTo_ok hk hF hv
    obtain ⟨Sh2, s2, K2, hRR, F2⟩ := F1.share
    refine ⟨D1, Sh2, fun y' e => ?_, fun b hb => s2 b (s1 b hb), K1.trans K2, F2⟩
    cases e
    refine ⟨t.cs d, ?_, e2⟩
    rw [<- e1]; exact hRR
 | _ => exact none_ok h
theorem pre1_ok {strict : Bool} {k : PK} {x : AV} {ws ws' : Writes} {y : k.pre} (h : (pre1 strict k x ws).go R = some (y, ws')) (hF : RelF C ⟨T, app ws R⟩ D Sh F a w) {v : Value} (hv : AVR w Sh (app ws R) D x v) :
  ∃ (D' : Nat -> DRoot) (Sh' : Nat -> Prop) (z : DRoot), PreOK w Sh' (app ws' R) D' k y x v z /\ (∀ b, Sh b -> Sh' b) /\ Keeps w w Sh Sh' (app ws R) (app ws' R) D D' /\ RelF C ⟨T, app ws' R⟩ D' Sh' (z.dv :: F) a w := by
 cases k with
 | r p =>
  simp only [pre1, Prog.go_bind] at h
  cases hk : (takeIf strict p x ws).go R with
  | none => rw [hk] at h; cases h
  | some q =>
   obtain ⟨y1, ws1⟩ := q
   rw [hk] at h; cases h
   obtain ⟨D1, Sh1, e1, s1, K1, F1⟩ := takeIf_ok hk hF hv
   exact ⟨D1, Sh1, noZ, ⟨rfl, e1⟩, s1, K1, F1.free (v := noZ.dv) trivial rfl⟩
 | o t =>
  simp only [pre1] at h
  cases hf : t.flat with
  | true => rw [hf] at h; cases h
  | false =>
   rw [hf] at h
   simp only [cond_false, Prog.go_bind] at h
   cases hk : (takeTo t x ws).go R with
   | none => rw [hk] at h; cases h
   | some q =>
    obtain ⟨y1, ws1⟩ := q
    rw [hk] at h; cases h
    obtain ⟨D1, Sh1, d, e1, e2, s1, K1, F1⟩ := takeTo_ok hk hF hv
    exact ⟨D1, Sh1, ⟨⟨t, d⟩, none, []⟩, ⟨hf, rfl, congrArg (V.mk t) e1, e2⟩, s1, K1, F1⟩
 | c t =>
  cases h
  exact ⟨D, Sh, noZ, rfl, fun _ h => h, Keeps.grow (fun _ _ => rfl), hF.free (v := noZ.dv) trivial rfl⟩
 | p t t' =>
  cases x with
  | ptr id pp s =>
   cases pp with
   | cons _ _ => cases h
   | nil =>
    simp only [pre1, getR_go] at h
    cases hr : app ws R id with
    | none => rw [hr] at h; cases h
    | some r =>
     rw [hr] at h
     simp only at h
     cases hb : r.blk with
     | false => rw [hb] at h; cases h
     | true =>
      rw [hb] at h
      simp only [cond_true] at h
      cases hx : toT r.v t with
      | none => rw [hx] at h; cases h
      | some x1 =>
       rw [hx] at h
       simp only at h
       cases ht : decide (r.v.t = t) with
       | false => rw [ht] at h; cases h
       | true =>
        rw [ht] at h
        cases h
        have ht := of_decide_eq_true ht
        have RR := hF.rel.root id r hr
        obtain ⟨cs, ⟨v0, rfl, r', hr', _, hp⟩, hvv⟩ := hv
        rw [hr] at hr'; cases hr'
        obtain ⟨b, o, u, hl, rfl⟩ := hp (since0 _ _ _)
        have hl' : some (DRoot.base (D id), (D id).dv) = some (some (b, o), u) := hl
        injection hl' with hl'
        have hu : (D id).dv = u := congrArg Prod.snd hl'
        obtain ⟨hbk, rfl⟩ := base_some (congrArg Prod.fst hl')
        have her : u.er = r.v := by rw [<- hu]; exact RR.er
        have hpv : putV r.v [] u.er.hol = some r.v.hol := by rw [her]; rfl
        obtain ⟨D', K, F'⟩ := hF.steal hr hl hpv
        rw [her] at K F'
        obtain ⟨r2, e1, e2⟩ := K.blk hr hbk
        refine ⟨D', Sh, ⟨u, some b, []⟩, ⟨id, s, r2, b, rfl, e1, e2, rfl, ?_, hvv, ?_⟩, fun _ h => h, K, F'⟩
        ·rw [her]
         obtain ⟨hlow, hxx⟩ := toT_some hx
         subst ht
         rw [hxx]; rfl
        ·rw [<- hu]; exact RR.loc b hbk
  | _ => cases h
theorem preP_ok {strict : Bool} : ∀ {ks : List PK} {xs : List AV} {ws ws' : Writes} {y : preT ks} {D : Nat -> DRoot} {Sh : Nat -> Prop} {F : List DV} {vs : List Value}, (preP strict ks xs ws).go R = some (y, ws') -> RelF C ⟨T, app ws R⟩ D Sh F a w -> AVRs w Sh (app ws R) D xs vs ->
  ∃ (D' : Nat -> DRoot) (Sh' : Nat -> Prop) (zs : List DRoot), PresOK w Sh' (app ws' R) D' ks y xs vs zs /\ (∀ b, Sh b -> Sh' b) /\ Keeps w w Sh Sh' (app ws R) (app ws' R) D D' /\ RelF C ⟨T, app ws' R⟩ D' Sh' (zs.map (·.dv) ++ F) a w
 | [], [], ws, ws', y, D, Sh, F, vs, h, hF, hv => by
  cases h
  have hv : vs = [] := hv
  subst hv
  exact ⟨D, Sh, [], trivial, fun _ h => h, Keeps.grow (fun _ _ => rfl), hF⟩
 | [], _ :: _, ws, ws', y, D, Sh, F, vs, h, hF, hv => by cases h
 | _ :: _, [], ws, ws', y, D, Sh, F, vs, h, hF, hv => by cases h
 | k :: ks, x :: xs, ws, ws', y, D, Sh, F, vs, h, hF, hv => by
  simp only [preP, Prog.go_bind] at h
  cases h1 : (pre1 strict k x ws).go R with
  | none => rw [h1] at h; cases h
  | some q =>
   obtain ⟨y1, ws1⟩ := q
   rw [h1] at h
   simp only at h
   cases h2 : (preP strict ks xs ws1).go R with
   | none => rw [h2] at h; cases h
   | some q2 =>
    obtain ⟨y2, ws2⟩ := q2
    rw [h2] at h; cases h
    obtain ⟨v, vs', rfl, hv1, hv2⟩ := hv
    obtain ⟨D1, Sh1, z, p1, s1, K1, F1⟩ := pre1_ok h1 hF hv1
    obtain ⟨D2, Sh2, zs, p2, s2, K2, F2⟩ := preP_ok h2 F1 (hv2.mono K1)
    exact ⟨D2, Sh2, z :: zs, ⟨p1.mono K2, p2⟩, fun b hb => s2 b (s1 b hb), K1.trans K2, F2.perm List.perm_middle⟩
end
end Go.Proofs.YtipaepbmdooekaaGreat.Vm
namespace Go.Proofs.YtipaepbmdooekaaGreat.Vm
open Go Go.RowKit
set_option linter.unusedVariables false
def extra : List PK -> List DRoot -> List Nat
 | .p _ _ :: ks, z :: zs => z.b.toList ++ extra ks zs
 | .c _ :: ks, z :: zs => z.dv.foot ++ extra ks zs
 | .r _ :: ks, _ :: zs => extra ks zs
 | .o _ :: ks, _ :: zs => extra ks zs
 | _, _ => []
def hands : List PK -> List DRoot -> List DV
 | .c _ :: ks, z :: zs => noZ.dv :: hands ks zs
 | .r _ :: ks, z :: zs => z.dv :: hands ks zs
 | .o _ :: ks, z :: zs => z.dv :: hands ks zs
 | .p _ _ :: ks, z :: zs => z.dv :: hands ks zs
 | _, _ => []
def TgtOK (R : Nat -> Option Root) (D : Nat -> DRoot) : List Tgt -> List PK -> List DRoot -> Prop
 | tg, .r _ :: ks, _ :: zs => TgtOK R D tg ks zs
 | tg, .o _ :: ks, _ :: zs => TgtOK R D tg ks zs
 | .root id :: tg, .p _ _ :: ks, z :: zs => (∃ r b, R id = some r /\ (D id).b = some b /\ z.b = some b) /\ TgtOK R D tg ks zs
 | .at id p :: tg, .c t :: ks, z :: zs => (∃ r bb, R id = some r /\ lookD (D id).dv (D id).base p = some (bb, z.dv) /\ z.dv.t = t /\ z.b = none) /\ TgtOK R D tg ks zs
 | [], [], [] => True
 | _, _, _ => False
theorem avs_mono {w : World} {Sh Sh' : Nat -> Prop} (hs : ∀ b, Sh b -> Sh' b) {x : AV} {v : Value} (h : AVS w Sh noR noD x v) : AVS w Sh' noR noD x v :=
 Keeps.avs (R := noR) (R' := noR) (D := noD) (D' := noD) ⟨fun _ _ => rfl, hs, fun id r hr => by cases hr⟩ h
theorem perm4 {A B X Y : List Nat} : ((A ++ B) ++ (X ++ Y)).Perm ((A ++ X) ++ (B ++ Y)) := by
 rw [List.append_assoc, List.append_assoc]
 refine List.Perm.append_left A ?_
 rw [<- List.append_assoc, <- List.append_assoc]
 exact List.perm_append_comm.append_right Y
theorem feet_perm {w : World} {Sh : Nat -> Prop} : ∀ {ks : List PK} {x : argsT ks} {vs : List Value} {zs : List DRoot}, ArgsOK w Sh ks x vs zs -> (feet zs).Perm (extra ks zs ++ (hands ks zs).flatMap DV.foot)
 | [], x, [], [], h => List.Perm.refl _
 | k :: ks, x, v :: vs, z :: zs, h => by
  have ih := feet_perm h.2
  have h1 := h.1
  show (z.foot ++ feet zs).Perm _
  cases k with
  | r p =>
   obtain ⟨_, rfl⟩ := h1
   exact ih
  | o t =>
   have hb : z.b = none := h1.2.1
   show ((z.b.toList ++ z.dv.foot) ++ feet zs).Perm (extra ks zs ++ (z.dv.foot ++ (hands ks zs).flatMap DV.foot))
   rw [hb]
   exact (List.Perm.append_left _ ih).trans (by
    show (z.dv.foot ++ (extra ks zs ++ _)).Perm _
    rw [<- List.append_assoc, <- List.append_assoc]
    exact List.perm_append_comm.append_right _)
  | p t t' =>
   show ((z.b.toList ++ z.dv.foot) ++ feet zs).Perm ((z.b.toList ++ extra ks zs) ++ (z.dv.foot ++ (hands ks zs).flatMap DV.foot))
   exact (List.Perm.append_left _ ih).trans perm4
  | c t =>
   have hb : z.b = none := h1.2.1
   show ((z.b.toList ++ z.dv.foot) ++ feet zs).Perm ((z.dv.foot ++ extra ks zs) ++ (noZ.dv.foot ++ (hands ks zs).flatMap DV.foot))
   rw [hb]
   show ((([] : List Nat) ++ z.dv.foot) ++ feet zs).Perm ((z.dv.foot ++ extra ks zs) ++ ([] ++ (hands ks zs).flatMap DV.foot))
   rw [List.nil_append, List.nil_append, List.append_assoc]
   exact List.Perm.append_left _ ih
 | [], _, [], _ :: _, h => h.elim
 | [], _, _ :: _, [], h => h.elim
 | [], _, _ :: _, _ :: _, h => h.elim
 | _ :: _, _, [], _, h => h.elim
 | _ :: _, _, _ :: _, [], h => h.elim
theorem lendP_any (p : Pat) (ws : Writes) (R : Nat -> Option Root) : (lendP p .any ws).go R = none := by
 cases p with
 | val t => cases t <;> rfl
 | _ => rfl
theorem lendP_tup (p : Pat) (c : AV) (ws : Writes) (R : Nat -> Option Root) : (lendP p (.tup c) ws).go R = none := by
 cases p with
 | val t => cases t <;> rfl
 | _ => rfl
section
variable {C : Ctx} {T : Nat -> AV} {R : Nat -> Option Root} {D : Nat -> DRoot} {Sh Sh' : Nat -> Prop} {F : List DV} {a : Act} {w : World}
theorem argsP_ok {ws : Writes} (hR : Rel C ⟨T, app ws R⟩ D Sh a w) (hs : ∀ b, Sh b -> Sh' b) : ∀ {ks : List PK} {y : preT ks} {xs : List AV} {vs : List Value} {zs : List DRoot} {x : argsT ks} {tg : List Tgt} {ids : List Nat}, (argsP ks y xs ws).go R = some (x, tg, ids) ->
  (∀ b, lentIn (app ws R) D ids b -> Sh' b) -> PresOK w Sh (app ws R) D ks y xs vs zs -> AVRs w Sh (app ws R) D xs vs -> (∀ v ∈ zs.map (·.dv), v.OK w Sh) ->
  ∃ zs', ArgsOK w Sh' ks x vs zs' /\ TgtOK (app ws R) D tg ks zs' /\ hands ks zs' = zs.map (·.dv)
 | [], y, [], vs, zs, x, tg, ids, h, hl, hp, hv, hz => by
  cases h
  rcases vs with _ | ⟨v, vs⟩ <;> rcases zs with _ | ⟨z, zs⟩ <;> first | exact ⟨[], trivial, trivial, rfl⟩ | exact hp.elim
 | [], y, _ :: _, vs, zs, x, tg, ids, h, hl, hp, hv, hz => by
  rcases vs with _ | ⟨v, vs⟩ <;> rcases zs with _ | ⟨z, zs⟩ <;> exact hp.elim
 | _ :: _, y, [], vs, zs, x, tg, ids, h, hl, hp, hv, hz => by cases h
 | k :: ks, y, xx :: xs, vs, zs, x, tg, ids, h, hl, hp, hv, hz => by
  obtain ⟨v, vs', rfl, hv1, hv2⟩ := hv
  cases zs with
  | nil => exact hp.elim
  | cons z zs =>
   simp only [argsP, Prog.go_bind] at h
   cases h1 : (arg1 k y.1 xx ws).go R with
   | none => rw [h1] at h; cases h
   | some q =>
    obtain ⟨x1, tg1, ids1⟩ := q
    rw [h1] at h
    simp only at h
    cases h2 : (argsP ks y.2 xs ws).go R with
    | none => rw [h2] at h; cases h
    | some q2 =>
     obtain ⟨x2, tg2, ids2⟩ := q2
     rw [h2] at h; cases h
     have hl1 : ∀ b, lentIn (app ws R) D ids1 b -> Sh' b := fun b hb => hl b (by obtain ⟨id, r, m, q1, q2⟩ := hb; exact ⟨id, r, List.mem_append_left _ m, q1, q2⟩)
     have hl2 : ∀ b, lentIn (app ws R) D ids2 b -> Sh' b := fun b hb => hl b (by obtain ⟨id, r, m, q1, q2⟩ := hb; exact ⟨id, r, List.mem_append_right _ m, q1, q2⟩)
     obtain ⟨zs', i1, i2, i3⟩ := argsP_ok hR hs h2 hl2 hp.2 hv2 (fun v hv => hz v (by simp only [List.map_cons]; exact List.mem_cons_of_mem _ hv))
     have hzok : z.dv.OK w Sh := hz z.dv (by simp)
     have hzok' : z.dv.OK w Sh' := Ty.OK_frame (fun _ _ => rfl) hs (fun _ _ => rfl) hzok
     have hp1 := hp.1
     cases k with
     | r p =>
      obtain ⟨rfl, hp1⟩ := hp1
      obtain ⟨y1, y2⟩ := y
      have hAt : AVS w Sh' noR noD (p.av x1) v /\ tg1 = [] := by
       cases y1 with
       | some y' =>
        cases h1
        exact ⟨avs_mono hs (hp1 _ rfl), rfl⟩
       | none =>
        have h1 : ((lendP p xx ws).bind fun u => Prog.ret (((u : (PK.r p).den), ([] : List Tgt), lent xx) : (PK.r p).den × List Tgt × List Nat)).go R = some (x1, tg1, ids1) := h1
        rw [Prog.go_bind] at h1
        cases h3 : (lendP p xx ws).go R with
        | none => rw [h3] at h1; cases h1
        | some u =>
         rw [h3] at h1; cases h1
         have hvs : AVS w Sh (app ws R) D xx v := avs_of_avr hv1 (fun e => by subst e; rw [lendP_any] at h3; cases h3) (fun c e => by subst e; rw [lendP_tup] at h3; cases h3)
         obtain ⟨cs, hc, hvv⟩ := hvs
         obtain ⟨g1, g2⟩ := lendP_ok hR hs h3 hl1 hc
         exact ⟨⟨cs, g1, by rw [hvv, g2]⟩, rfl⟩
      obtain ⟨g1, rfl⟩ := hAt
      exact ⟨noZ :: zs', ⟨⟨g1, rfl⟩, i1⟩, i2, by show noZ.dv :: hands ks zs' = _; rw [i3]; rfl⟩
     | o t =>
      cases h1
      obtain ⟨g1, g2, g3, g4⟩ := hp1
      exact ⟨z :: zs', ⟨⟨g1, g2, g3, hzok', g4⟩, i1⟩, i2, by show z.dv :: hands ks zs' = _; rw [i3]; rfl⟩
     | p t t' =>
      obtain ⟨id, s, r, b, rfl, g1, g2, g3, g4, g5, g6⟩ := hp1
      cases h1
      exact ⟨z :: zs', ⟨⟨b, g3, g4, hzok', g5, g6⟩, i1⟩, ⟨⟨r, b, g1, g2, g3⟩, i2⟩, by show z.dv :: hands ks zs' = _; rw [i3]; rfl⟩
     | c t =>
      have hp1 : z = noZ := hp1
      subst hp1
      cases xx with
      | al id p s t' =>
       simp only [arg1, getR_go] at h1
       obtain ⟨cs, ⟨hf, r, hr, hsl, hcv⟩, hvv⟩ := hv1
       rw [hr] at h1
       simp only at h1
       cases hok : (okR r s (depth p + 1) (!t'.agg) && !t.flat) with
       | false => rw [hok] at h1; cases h1
       | true =>
        rw [hok] at h1
        rw [Bool.and_eq_true] at hok
        obtain ⟨bb, u, hlk, ht, rfl⟩ := hcv (okR_spec hok.1).2
        obtain ⟨hg, huok, _⟩ := hR.look hr hlk
        simp only [cond_true, hg] at h1
        split at h1
        case isFalse => cases h1
        rename_i hut
        cases h1
        have hut : u.t = t := hut
        have huok' : u.OK w Sh' := Ty.OK_frame (fun _ _ => rfl) hs (fun _ _ => rfl) huok
        obtain ⟨ut, ud⟩ := u
        have hut : ut = t := hut
        subst hut
        refine ⟨⟨⟨ut, ud⟩, none, []⟩ :: zs', ⟨⟨by simpa using hok.2, rfl, rfl, huok', ?_⟩, i1⟩, ⟨⟨r, bb, hr, hlk, rfl, rfl⟩, i2⟩, ?_⟩
        ·rw [hvv]
         have ht : ut = t' := ht
         have hag : t'.agg = ut.agg := congrArg Ty.agg ht.symm
         show mkw t'.agg _ = mkw ut.agg _
         rw [hag]
        ·show noZ.dv :: hands ks zs' = _; rw [i3]; rfl
      | _ => cases h1
end
theorem many_noshr : ∀ {ts : List Ty} {x : (tyW ts).den} {zs : List DV}, noshr (tyW ts) = true -> ManyD ts x zs -> ∀ z ∈ zs, noshr z.t = true
 | [], x, zs, hn, h, z, hz => by have h : zs = [] := h; subst h; cases hz
 | t :: ts, x, zs, hn, h, z, hz => by
  obtain ⟨d, zs', _, rfl, h2⟩ := h
  have hn : (noshr t && noshr (tyW ts)) = true := hn
  rw [Bool.and_eq_true] at hn
  rcases List.mem_cons.1 hz with rfl | hz
  ·exact hn.1
  ·exact many_noshr hn.2 h2 z hz
theorem res_noshr {w : World} {Sh Sh' : Nat -> Prop} {rk : RK} {x : (tyW rk.tys).den} {v : Value} {rs : List DRoot} (hn : noshr (tyW rk.tys) = true) (h : ResOK w Sh rk x v rs) : ResOK w Sh' rk x v rs := by
 cases rk with
 | one t =>
  obtain ⟨d, h1, h2, h3, h4⟩ := h
  have hn : (noshr t && true) = true := hn
  rw [Bool.and_true] at hn
  exact ⟨d, h1, noshr_ok hn h2, h3, h4⟩
 | many ts =>
  obtain ⟨zs, h1, h2, h3, h4⟩ := h
  exact ⟨zs, h1, fun z hz => noshr_ok (many_noshr hn h1 z hz) (h2 z hz), h3, h4⟩
 | ptr t =>
  obtain ⟨d, b, h1, h2, h3⟩ := h
  have hn : (noshr t && true) = true := hn
  rw [Bool.and_true] at hn
  exact ⟨d, b, h1, noshr_ok hn h2, h3⟩
def strictK : PK -> Bool
 | .p _ t' => !noshr t'
 | .c t => !noshr t
 | _ => false
theorem back_noshr {w : World} {Sh Sh' : Nat -> Prop} : ∀ {ks : List PK} {zs : List DRoot} {ys : List V} {bs : List DRoot}, ks.any strictK = false -> BackOK w Sh ks zs ys bs -> BackOK w Sh' ks zs ys bs
 | [], [], ys, bs, hn, h => h
 | .r _ :: ks, _ :: zs, ys, bs, hn, h => back_noshr (ks := ks) (by simpa [strictK] using hn) h
 | .o _ :: ks, _ :: zs, ys, bs, hn, h => back_noshr (ks := ks) (by simpa [strictK] using hn) h
 | .p _ t :: ks, z :: zs, y :: ys, b :: bs, hn, h => by
  simp only [List.any_cons, strictK, Bool.or_eq_false_iff, Bool.not_eq_false'] at hn
  obtain ⟨h1, h2, h3, h4, h5, h6⟩ := h
  have ht : b.dv.t = t := by rw [<- h2, <- h3]; rfl
  exact ⟨h1, h2, h3, noshr_ok (by rw [ht]; exact hn.1) h4, h5, back_noshr hn.2 h6⟩
 | .c t :: ks, z :: zs, y :: ys, b :: bs, hn, h => by
  simp only [List.any_cons, strictK, Bool.or_eq_false_iff, Bool.not_eq_false'] at hn
  obtain ⟨h1, h2, h3, h4, h5, h6⟩ := h
  have ht : b.dv.t = t := by rw [<- h2, <- h3]; rfl
  exact ⟨h1, h2, h3, noshr_ok (by rw [ht]; exact hn.1) h4, h5, back_noshr hn.2 h6⟩
 | [], _ :: _, _, _, hn, h => h.elim
 | _ :: _, [], _, _, hn, h => by rename_i k ks _ _; cases k <;> exact h.elim
 | .p _ _ :: _, _ :: _, [], _, hn, h => h.elim
 | .p _ _ :: _, _ :: _, _ :: _, [], hn, h => h.elim
 | .c _ :: _, _ :: _, [], _, hn, h => h.elim
 | .c _ :: _, _ :: _, _ :: _, [], hn, h => h.elim
theorem strict_split {c : Con} (h : strictC c = false) : noshr (tyW c.rk.tys) = true /\ c.ks.any strictK = false := by
 unfold strictC at h
 rw [Bool.or_eq_false_iff] at h
 refine ⟨by simpa using h.1, ?_⟩
 have e : (fun k : PK => match k with
  | .p _ t' => !noshr t'
  | .c t => !noshr t
  | _ => false) = strictK := by funext k; cases k <;> rfl
 exact h.2
theorem after_call {c : Con} {w w' : World} {Sh Sh0 M Sh' : Nat -> Prop} {foot : List Nat} {X : (tyW c.rk.tys).den} {Y : List V} {v : Value} {rs bs zs : List DRoot} (L : Left w Sh0 M w' Sh' foot) (hr : ResOK w' Sh' c.rk X v rs) (hb : BackOK w' Sh' c.ks zs Y bs)
  (hs : ∀ b, Sh b -> Sh0 b) (hst : strictC c = true -> ∀ b, Sh0 b -> Sh b) (hsl : ∀ b, Sh b -> b < w.heap.size) :
  ∃ Sh2 : Nat -> Prop, (∀ b, Sh b -> Sh2 b) /\ (∀ b, Sh2 b -> (Sh b \/ w.heap.size <= b \/ M b) /\ b < w'.heap.size) /\ (∀ b ∈ foot, ¬ Sh2 b) /\ ResOK w' Sh2 c.rk X v rs /\ BackOK w' Sh2 c.ks zs Y bs := by
 cases hc : strictC c with
 | true =>
  refine ⟨Sh', fun b hb => L.sh b (hs b hb), fun b hb => ⟨?_, (L.shn b hb).2⟩, fun b hb => (L.fresh b hb).1, hr, hb⟩
  rcases (L.shn b hb).1 with h1 | h1 | h1
  ·exact .inl (hst hc b h1)
  ·exact .inr (.inl h1)
  ·exact .inr (.inr h1)
 | false =>
  obtain ⟨n1, n2⟩ := strict_split hc
  exact ⟨Sh, fun _ h => h, fun b hb => ⟨.inl hb, Nat.lt_of_lt_of_le (hsl b hb) L.hsz⟩, fun b hb hs' => (L.fresh b hb).1 (L.sh b (hs b hs')), res_noshr n1 hr, back_noshr n2 hb⟩
end Go.Proofs.YtipaepbmdooekaaGreat.Vm
namespace Go.Proofs.YtipaepbmdooekaaGreat.Vm
open Go Go.RowKit
set_option linter.unusedVariables false
theorem tgt_nil {R : Nat -> Option Root} {D : Nat -> DRoot} {w : World} {Sh : Nat -> Prop} : ∀ {ks : List PK} {zs : List DRoot}, TgtOK R D [] ks zs -> extra ks zs = [] /\ ∀ ys bs, BackOK w Sh ks zs ys bs -> ys = [] /\ bs = []
 | [], [], h => ⟨rfl, fun ys bs h => h⟩
 | .r _ :: ks, _ :: zs, h => tgt_nil (ks := ks) (zs := zs) h
 | .o _ :: ks, _ :: zs, h => tgt_nil (ks := ks) (zs := zs) h
 | .p _ _ :: ks, _ :: zs, h => h.elim
 | .c _ :: ks, _ :: zs, h => h.elim
 | [], _ :: _, h => h.elim
 | .r _ :: _, [], h => h.elim
 | .o _ :: _, [], h => h.elim
 | .p _ _ :: _, [], h => h.elim
 | .c _ :: _, [], h => h.elim
theorem tgt_root {R : Nat -> Option Root} {D : Nat -> DRoot} {w : World} {Sh : Nat -> Prop} {id : Nat} : ∀ {ks : List PK} {zs : List DRoot}, TgtOK R D [.root id] ks zs ->
  ∃ r b, R id = some r /\ (D id).b = some b /\ extra ks zs = [b] /\ ∀ ys bs, BackOK w Sh ks zs ys bs -> ∃ y b0, ys = [y] /\ bs = [b0] /\ b0.b = some b /\ b0.dv.er = y /\ b0.dv.OK w Sh /\ Loc w b 0 b0.dv
 | .r _ :: ks, _ :: zs, h => tgt_root (ks := ks) (zs := zs) h
 | .o _ :: ks, _ :: zs, h => tgt_root (ks := ks) (zs := zs) h
 | .p _ _ :: ks, z :: zs, h => by
  obtain ⟨⟨r, b, h1, h2, h3⟩, h4⟩ := h
  obtain ⟨e1, e2⟩ := tgt_nil (w := w) (Sh := Sh) h4
  refine ⟨r, b, h1, h2, by show z.b.toList ++ extra ks zs = [b]; rw [e1, h3]; rfl, fun ys bs hb => ?_⟩
  rcases ys with _ | ⟨y, ys⟩
  ·exact hb.elim
  ·rcases bs with _ | ⟨b0, bs⟩
   ·exact hb.elim
   ·obtain ⟨g1, g2, g3, g4, g5, g6⟩ := hb
    obtain ⟨rfl, rfl⟩ := e2 ys bs g6
    have gb : b0.b = some b := g1.trans h3
    exact ⟨y, b0, rfl, rfl, gb, g3, g4, g5 b gb⟩
 | .c _ :: ks, _ :: zs, h => h.elim
 | [], _, h => by rename_i zs; cases zs <;> exact h.elim
 | .r _ :: _, [], h => h.elim
 | .o _ :: _, [], h => h.elim
 | .p _ _ :: _, [], h => h.elim
 | .c _ :: _, [], h => h.elim
theorem tgt_at {R : Nat -> Option Root} {D : Nat -> DRoot} {w : World} {Sh : Nat -> Prop} {id : Nat} {p : Path} : ∀ {ks : List PK} {zs : List DRoot}, TgtOK R D [.at id p] ks zs ->
  ∃ r bb u, R id = some r /\ lookD (D id).dv (D id).base p = some (bb, u) /\ extra ks zs = u.foot /\ ∀ ys bs, BackOK w Sh ks zs ys bs -> ∃ y b0, ys = [y] /\ bs = [b0] /\ b0.b = none /\ b0.dv.er = y /\ b0.dv.OK w Sh /\ b0.dv.t = u.t /\ b0.dv.cs = u.cs
 | .r _ :: ks, _ :: zs, h => tgt_at (ks := ks) (zs := zs) h
 | .o _ :: ks, _ :: zs, h => tgt_at (ks := ks) (zs := zs) h
 | .c t :: ks, z :: zs, h => by
  obtain ⟨⟨r, bb, h1, h2, h3, h5⟩, h4⟩ := h
  obtain ⟨e1, e2⟩ := tgt_nil (w := w) (Sh := Sh) h4
  refine ⟨r, bb, z.dv, h1, h2, by show z.dv.foot ++ extra ks zs = _; rw [e1, List.append_nil], fun ys bs hb => ?_⟩
  rcases ys with _ | ⟨y, ys⟩
  ·exact hb.elim
  ·rcases bs with _ | ⟨b0, bs⟩
   ·exact hb.elim
   ·obtain ⟨g1, g2, g3, g4, g5, g6⟩ := hb
    obtain ⟨rfl, rfl⟩ := e2 ys bs g6
    exact ⟨y, b0, rfl, rfl, g1, g3, g4, by rw [h3, <- g2, <- g3]; rfl, g5⟩
 | .p _ _ :: ks, _ :: zs, h => h.elim
 | [], _, h => by rename_i zs; cases zs <;> exact h.elim
 | .r _ :: _, [], h => h.elim
 | .o _ :: _, [], h => h.elim
 | .p _ _ :: _, [], h => h.elim
 | .c _ :: _, [], h => h.elim
theorem tgt_backs {R : Nat -> Option Root} {D : Nat -> DRoot} : ∀ {ks : List PK} {zs : List DRoot} {tg : List Tgt}, TgtOK R D tg ks zs -> backs ks = [] -> tg = []
 | [], [], [], h, hb => rfl
 | [], [], .root _ :: _, h, hb => h.elim
 | [], [], .at _ _ :: _, h, hb => h.elim
 | .r _ :: ks, _ :: zs, tg, h, hb => by
  have h : TgtOK R D tg ks zs := by cases tg <;> exact h
  exact tgt_backs (ks := ks) (zs := zs) h hb
 | .o _ :: ks, _ :: zs, tg, h, hb => by
  have h : TgtOK R D tg ks zs := by cases tg <;> exact h
  exact tgt_backs (ks := ks) (zs := zs) h hb
 | .p _ _ :: ks, _ :: zs, tg, h, hb => by cases hb
 | .c _ :: ks, _ :: zs, tg, h, hb => by cases hb
 | [], _ :: _, tg, h, hb => by rcases tg with _ | ⟨_ | _, _⟩ <;> exact h.elim
 | .r _ :: _, [], tg, h, hb => by rcases tg with _ | ⟨_ | _, _⟩ <;> exact h.elim
 | .o _ :: _, [], tg, h, hb => by rcases tg with _ | ⟨_ | _, _⟩ <;> exact h.elim
theorem res_plain {w : World} {Sh : Nat -> Prop} {rk : RK} {x : (tyW rk.tys).den} {v : Value} {rs : List DRoot} (h : ResOK w Sh rk x v rs) (hp : ∀ t, rk ≠ .ptr t) : feet rs = (rs.map (·.dv)).flatMap DV.foot /\ ∀ z ∈ rs.map (·.dv), z.OK w Sh := by
 cases rk with
 | one t =>
  obtain ⟨d, _, h2, _, rfl⟩ := h
  exact ⟨rfl, fun z hz => by cases List.mem_singleton.1 hz; exact h2⟩
 | many ts =>
  obtain ⟨zs, _, h2, _, rfl⟩ := h
  have e : (zs.map fun z => (⟨z, none, []⟩ : DRoot)).map (·.dv) = zs := by rw [List.map_map]; exact List.map_id zs
  rw [e]
  exact ⟨feet_plain zs, h2⟩
 | ptr t => exact absurd rfl (hp t)
section
variable {C : Ctx} {T : Nat -> AV} {R : Nat -> Option Root} {D : Nat -> DRoot} {Sh Sh' : Nat -> Prop} {F : List DV} {a : Act} {w w' : World}
theorem plain_rr {t : Ty} {d : t.dec} (hp : t.plain = true) (h : t.OK w Sh d) : Ty.RR w Sh t (t.er d) (t.cs d) :=
 Ty.OK_RR (fun _ h => h) h (fun b hb => by rw [Ty.plain_foot d hp] at hb; cases hb)
theorem unflat {t : Ty} (h : t.plain = false) : t.flat = false := by
 cases hf : t.flat with
 | false => rfl
 | true => rw [flat_plain hf] at h; cases h
theorem land_many {d : Nat} : ∀ {ts : List Ty} {x : (tyW ts).den} {zs : List DV} {i : Nat} {ws ws' : Writes} {av : AV} {D : Nat -> DRoot}, (landL d i ts x ws).go R = some (av, ws') -> ManyD ts x zs -> RelF C ⟨T, app ws R⟩ D Sh (zs ++ F) a w ->
  ∃ D', Keeps w w Sh Sh (app ws R) (app ws' R) D D' /\ RelF C ⟨T, app ws' R⟩ D' Sh F a w /\ AVL w Sh (app ws' R) D' av (zs.map valV)
 | [], x, zs, i, ws, ws', av, D, h, hm, hF => by
  cases h
  have hm : zs = [] := hm
  subst hm
  exact ⟨D, Keeps.grow (fun _ _ => rfl), hF, rfl⟩
 | t :: ts, x, zs, i, ws, ws', av, D, h, hm, hF => by
  obtain ⟨dd, zs', hd, rfl, hm⟩ := hm
  simp only [landL] at h
  cases hp : t.plain with
  | true =>
   rw [hp] at h
   simp only [cond_true, Prog.go_bind] at h
   cases h1 : (landL d (i + 1) ts x.2 ws).go R with
   | none => rw [h1] at h; cases h
   | some q =>
    obtain ⟨av1, ws1⟩ := q
    rw [h1] at h; cases h
    have hok : t.OK w Sh dd := hF.fok ⟨t, dd⟩ (by simp)
    obtain ⟨D', K, F', hl⟩ := land_many h1 hm (RelF.drop (show RelF C ⟨T, app ws R⟩ D Sh (⟨t, dd⟩ :: (zs' ++ F)) a w from hF))
    exact ⟨D', K, F', _, _, rfl, ⟨t.cs dd, by rw [<- hd]; exact plain_rr hp hok, rfl⟩, hl⟩
  | false =>
   rw [hp] at h
   simp only [cond_false, getR_go] at h
   cases hn : app ws R (resId d i) with
   | some r => rw [hn] at h; cases h
   | none =>
    rw [hn] at h
    simp only [Prog.go_bind] at h
    cases h1 : (landL d (i + 1) ts x.2 ((resId d i, ⟨⟨t, x.1⟩, false, [], none, none⟩) :: ws)).go R with
    | none => rw [h1] at h; cases h
    | some q =>
     obtain ⟨av1, ws1⟩ := q
     rw [h1] at h; cases h
     obtain ⟨K1, F1⟩ := RelF.hold (u := ⟨t, dd⟩) (F := zs' ++ F) hF (id := resId d i) hn (org := none) (fun i hi => by cases hi)
     have her : DV.er ⟨t, dd⟩ = ⟨t, x.1⟩ := congrArg (V.mk t) hd
     have hal : AVC w Sh (upt (app ws R) (resId d i) (some ⟨DV.er ⟨t, dd⟩, false, [], none, none⟩)) (upt D (resId d i) ⟨⟨t, dd⟩, none, DV.cs ⟨t, dd⟩⟩) (.al (resId d i) [] 0 t) (t.cs dd) := al_of_hold (u := ⟨t, dd⟩) (unflat hp)
     rw [her] at K1 F1 hal
     obtain ⟨D', K, F', hl⟩ := land_many (ws := (resId d i, ⟨⟨t, x.1⟩, false, [], none, none⟩) :: ws) h1 hm F1
     exact ⟨D', K1.trans K, F', _, _, rfl, K.avs ⟨t.cs dd, hal, rfl⟩, hl⟩
theorem land_ok {dst : Option Tmp} {rk : RK} {x : (tyW rk.tys).den} {v : Value} {rs : List DRoot} {ws : Writes} {res : Res} (h : (landP dst rk x ws).go R = some res) (hr : ResOK w Sh rk x v rs) (hp : ∀ t, rk ≠ .ptr t) (hF : RelF C ⟨T, app ws R⟩ D Sh (rs.map (·.dv)) a w) :
  ∃ D', Rel C ⟨T, app res.ws R⟩ D' Sh a w /\ AVR w Sh (app res.ws R) D' res.av v := by
 cases rk with
 | one t =>
  obtain ⟨d, h1, h2, rfl, rfl⟩ := hr
  cases dst with
  | none => cases h; exact ⟨D, hF.rel, trivial⟩
  | some dd =>
   simp only [landP] at h
   cases hpl : t.plain with
   | true =>
    rw [hpl] at h; cases h
    refine ⟨D, hF.rel, avr_of_avs ⟨t.cs d, ?_, rfl⟩⟩
    rw [<- h1]; exact plain_rr hpl h2
   | false =>
    rw [hpl] at h
    simp only [cond_false, newRoot, getR_go] at h
    cases hn : app ws R dd with
    | some r => rw [hn] at h; cases h
    | none =>
     rw [hn] at h; cases h
     have hF : RelF C ⟨T, app ws R⟩ D Sh [⟨t, d⟩] a w := hF
     obtain ⟨K1, F1⟩ := RelF.hold (u := ⟨t, d⟩) (F := []) hF (id := dd) hn (org := none) (fun i hi => by cases hi)
     have her : DV.er ⟨t, d⟩ = ⟨t, x.1⟩ := congrArg (V.mk t) h1
     have hal : AVC w Sh (upt (app ws R) dd (some ⟨DV.er ⟨t, d⟩, false, [], none, none⟩)) (upt D dd ⟨⟨t, d⟩, none, DV.cs ⟨t, d⟩⟩) (.al dd [] 0 t) (t.cs d) := al_of_hold (u := ⟨t, d⟩) (unflat hpl)
     rw [her] at F1 hal
     exact ⟨_, F1.rel, ⟨t.cs d, hal, rfl⟩⟩
 | many ts =>
  obtain ⟨zs, h1, h2, rfl, rfl⟩ := hr
  have e : (zs.map fun z => (⟨z, none, []⟩ : DRoot)).map (·.dv) = zs := by rw [List.map_map]; exact List.map_id zs
  rw [e] at hF
  cases dst with
  | none => cases h; exact ⟨D, hF.rel, trivial⟩
  | some dd =>
   simp only [landP, Prog.go_bind] at h
   cases h3 : (landL dd 0 ts x ws).go R with
   | none => rw [h3] at h; cases h
   | some q =>
    obtain ⟨av1, ws1⟩ := q
    rw [h3] at h; cases h
    obtain ⟨D', K, F', hl⟩ := land_many (F := []) h3 h1 (by rw [List.append_nil]; exact hF)
    exact ⟨D', F'.rel, _, rfl, hl⟩
 | ptr t => exact absurd rfl (hp t)
end
end Go.Proofs.YtipaepbmdooekaaGreat.Vm
