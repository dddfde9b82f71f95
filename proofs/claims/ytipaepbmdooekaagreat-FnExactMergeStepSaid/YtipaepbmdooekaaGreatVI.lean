-- compact
import Derived.Test.YtipaepbmdooekaaGreatV3
import Derived.Lib.AppendZerosOnto
import Derived.Lib.Overlaps
namespace Go.Proofs.YtipaepbmdooekaaGreat.Vm
open Go Go.RowKit
set_option linter.unusedVariables false
theorem Row.bare {w : World} {b : Nat} {row : Array Value} {e : TypeId} (h : Row w b row e) (he : byteT e = false) : w.heap[b]? = some (.cells row e (0, 0)) := by
 obtain ⟨m, h1, h2⟩ := h
 rcases h2 with rfl | h2
 ·exact h1
 ·rw [he] at h2; cases h2.2
theorem copy_run {P : Program} (w : World) {dT sT ty e : TypeId} (hu : P.underlying dT = some (.slice e)) {k : Nat} (hz : ∀ w, (Go.sizeOf e).run P w = .ok k w) {b o dLen dCap : Nat} {A : Addr} {sLen sCap : Nat} {cs : List Value}
  (hn : cs.length = Nat.min sLen dLen * k) (hsrc : ∀ (j : Nat) (v : Value), cs[j]? = some v -> w.cell? (A.add j) = some v) {row : Array Value} {el : TypeId} (hb : Row w b row el) (hfit : o + cs.length <= row.size) (h1 : ∀ v ∈ cs, v.oneCell' = true) :
  (Builtin.copy_ #[dT, sT] ty #[.slice (some ⟨b, o, none⟩) dLen dCap, .slice (some A) sLen sCap]).run P w = .ok (goInt (Nat.min sLen dLen)) (setR w b o cs) := by
 have hl := run_loadCells_list (P := P) w A cs hsrc
 have hst := (setR_spec b el cs w o row hb hfit h1).1 P 0
 rw [if_pos (Nat.zero_le _), Nat.sub_zero] at hst
 have hn' : (min sLen dLen) * k = cs.length := hn.symm
 simp [Builtin.copy_, run_underlying hu, Builtin.lenOf, Builtin.firstCells, hz, hn', hl, hst]
section
variable {C : Ctx} {st : St} {D : Nat -> DRoot} {Sh : Nat -> Prop} {F : List DV} {a : Act} {w w' : World}
theorem RelF.rowSet {e : TypeId} {t : Ty} {ds es es' : List t.dec} {k o c : Nat} {row row' : Array Value} (h : RelF C st D Sh (⟨.sl true e t, ((some ⟨k, o, none⟩, c), ds)⟩ :: (eHand t es ++ F)) a w) (hp : es'.Perm (ds ++ es)) (hl : es'.length <= c)
  (ho : w'.os = w.os) (ht : w'.tape = w.tape) (hpo : w'.output = w.output) (hz : w'.heap.size = w.heap.size) (hb : ∀ b, b ≠ k -> w'.heap[b]? = w.heap[b]?) (hr0 : Row w k row e) (hr : Row w' k row' e) (hs : row'.size = row.size)
  (hc : ∀ (i : Nat) (d : t.dec), es'[i]? = some d -> ∀ j v, (t.cs d)[j]? = some v -> row'[o + i * t.sz + j]? = some v) :
  Keeps w w' Sh Sh st.roots st.roots D D /\ RelF C st D Sh (⟨.sl true e t, ((some ⟨k, o, none⟩, c), es')⟩ :: F) a w' := by
 have hok : DV.OK w Sh ⟨.sl true e t, ((some ⟨k, o, none⟩, c), ds)⟩ := h.fok _ (by simp)
 rcases hok with ⟨hn, _⟩ | ⟨k', o', row0, hA, hrow, _, hm, hfit, hel⟩
 ·cases hn
 have hA : some (⟨k, o, none⟩ : Addr) = some ⟨k', o', none⟩ := hA
 simp only [Option.some.injEq, Addr.mk.injEq, and_true] at hA
 obtain ⟨rfl, rfl⟩ := hA
 obtain ⟨rfl, _⟩ := hrow.uniq hr0
 have e1 : ((⟨.sl true e t, ((some ⟨k, o, none⟩, c), ds)⟩ : DV) :: (eHand t es ++ F)).flatMap DV.foot = k :: (ds.flatMap t.foot ++ (es.flatMap t.foot ++ F.flatMap DV.foot)) := by
  rw [List.flatMap_cons, List.flatMap_append, eHand_foot]; rfl
 have hpe : (es'.flatMap t.foot).Perm (ds.flatMap t.foot ++ es.flatMap t.foot) := by
  have := hp.flatMap_right t.foot
  rwa [List.flatMap_append] at this
 have hpf : (((⟨.sl true e t, ((some ⟨k, o, none⟩, c), es')⟩ : DV) :: F).flatMap DV.foot).Perm (((⟨.sl true e t, ((some ⟨k, o, none⟩, c), ds)⟩ : DV) :: (eHand t es ++ F)).flatMap DV.foot) := by
  rw [e1]
  show (k :: (es'.flatMap t.foot ++ F.flatMap DV.foot)).Perm _
  rw [<- List.append_assoc]
  exact (hpe.append_right _).cons k
 have hnd := h.fnd
 rw [e1] at hnd
 have hkn := (List.nodup_cons.1 hnd).1
 have hsame : ∀ b, Sh b -> w'.heap[b]? = w.heap[b]? := fun b hs => hb b (fun eq => (h.fdis k (by rw [e1]; simp)).2.1 (eq ▸ hs))
 have hel' : ∀ d ∈ es', Ty.OK w Sh t d := by
  intro d hd
  rcases List.mem_append.1 (hp.mem_iff.1 hd) with hd | hd
  ·obtain ⟨i, hi⟩ := List.mem_iff_getElem?.1 hd
   exact (hel i d hi).1
  ·exact h.fok ⟨t, d⟩ (List.mem_cons_of_mem _ (List.mem_append_left _ (List.mem_map.2 ⟨d, hd, rfl⟩)))
 have hnk : ∀ d ∈ es', ∀ b ∈ t.foot d, b ≠ k := by
  intro d hd b hb' eq
  subst eq
  have : b ∈ es'.flatMap t.foot := List.mem_flatMap.2 ⟨d, hd, hb'⟩
  have := hpe.mem_iff.1 this
  apply hkn
  rw [<- List.append_assoc]
  exact List.mem_append_left _ this
 refine h.turn ho ht hpo (by omega) (fun b _ hb' => hb b (fun eq => hb' (by rw [e1, eq]; simp))) (fun v hv => ?_) (hpf.nodup_iff.2 h.fnd) (fun b hb => .inl (hpf.mem_iff.1 hb))
 rcases List.mem_cons.1 hv with rfl | hv
 ·refine .inr ⟨k, o, row', rfl, hr, hl, hm, by rw [hs]; exact hfit, fun i d hi => ⟨?_, hc i d hi⟩⟩
  exact Ty.OK_frame hsame (fun _ h => h) (fun b hb' => hb b (hnk d (List.mem_of_getElem? hi) b hb')) (hel' d (List.mem_of_getElem? hi))
 ·exact Ty.OK_frame hsame (fun _ h => h) (fun b hb' => hb b (fun eq => hkn (List.mem_append.2 (.inr (List.mem_append.2 (.inr (List.mem_flatMap.2 ⟨v, hv, eq ▸ hb'⟩))))))) (h.fok v (by simp [hv]))
end
structure OnlyB (w w' : World) (b : Nat) : Prop where
 os : w'.os = w.os
 tape : w'.tape = w.tape
 output : w'.output = w.output
 size : w'.heap.size = w.heap.size
 other : ∀ x, x ≠ b -> w'.heap[x]? = w.heap[x]?
structure NewB (w w' : World) : Prop where
 os : w'.os = w.os
 tape : w'.tape = w.tape
 output : w'.output = w.output
 size : w'.heap.size = w.heap.size + 1
 other : ∀ x, x < w.heap.size -> w'.heap[x]? = w.heap[x]?
structure InsR (P : Program) (f : FuncId) (S e : TypeId) (k bytes : Nat) : Prop where
 /-- there is room: in place -/
 shift : ∀ (w : World) (b off n c i vb voff vc : Nat) (row rv : Array Value) (cs vs : List Value), i < n -> n + 1 <= c -> c <= maxLen -> vb ≠ b -> Row w b row e -> off + c * k <= row.size -> Row w vb rv e -> voff + k <= rv.size -> cs.length = (n - i) * k -> vs.length = k ->
  (∀ (j : Nat) (v : Value), cs[j]? = some v -> row[off + i * k + j]? = some v) -> (∀ (j : Nat) (v : Value), vs[j]? = some v -> rv[voff + j]? = some v) -> (∀ v ∈ cs, v.oneCell' = true) -> (∀ v ∈ vs, v.oneCell' = true) ->
  Calls P f #[.slice (some ⟨b, off, none⟩) n c, .int .i64 i, .slice (some ⟨vb, voff, none⟩) 1 vc] w fun x w' => x = .returned (.slice (some ⟨b, off, none⟩) ((n + 1 : Nat)) c) /\ OnlyB w w' b /\ ∃ row', Row w' b row' e /\ row'.size = row.size /\
   (∀ (j : Nat), j < off + i * k -> row'[j]? = row[j]?) /\ (∀ (j : Nat) (v : Value), (vs ++ cs)[j]? = some v -> row'[off + i * k + j]? = some v)
 /-- there is none: a new row -/
 grow : ∀ (w : World) (b off n c i vb voff vc : Nat) (row rv : Array Value) (hs cs vs : List Value), i < n -> n <= c -> c < n + 1 -> (n + 1) * bytes <= 140737488355328 -> vb ≠ b -> Row w b row e -> off + c * k <= row.size -> Row w vb rv e -> voff + k <= rv.size -> hs.length = i * k -> cs.length = (n - i) * k -> vs.length = k ->
  (∀ (j : Nat) (v : Value), hs[j]? = some v -> row[off + j]? = some v) -> (∀ (j : Nat) (v : Value), cs[j]? = some v -> row[off + i * k + j]? = some v) -> (∀ (j : Nat) (v : Value), vs[j]? = some v -> rv[voff + j]? = some v) -> (∀ v ∈ cs, v.oneCell' = true) -> (∀ v ∈ vs, v.oneCell' = true) ->
  Calls P f #[.slice (some ⟨b, off, none⟩) n c, .int .i64 i, .slice (some ⟨vb, voff, none⟩) 1 vc] w fun x w' => ∃ (c' : Nat) (row' : Array Value), x = .returned (.slice (some ⟨w.heap.size, 0, none⟩) ((n + 1 : Nat)) c') /\ n + 1 <= c' /\ c' <= maxLen /\ NewB w w' /\ Row w' w.heap.size row' e /\ c' * k <= row'.size /\
   ∀ (j : Nat) (v : Value), (hs ++ (vs ++ cs))[j]? = some v -> row'[j]? = some v
 /-- behind all others -/
 tail : ∀ (w w1 : World) (A vA A' : Option Addr) (n c vc c' : Nat), (Builtin.append_ #[S, S] S #[.slice A n c, .slice vA 1 vc]).run P w = .ok (.slice A' (n + 1) c') w1 ->
  Calls P f #[.slice A n c, .int .i64 n, .slice vA 1 vc] w fun x w' => x = .returned (.slice A' ((n + 1 : Nat)) c') /\ w' = w1
def ctxI (P : Program) (w : World) (Sh M : Nat -> Prop) : Ctx := ⟨P, w, M, Sh, 0, fun _ => [], fun _ => 0⟩
def stI : St := ⟨fun _ => .any, noR⟩
theorem rel_start {P : Program} {w : World} {Sh M : Nat -> Prop} {F : List DV} (hsh : ∀ b, Sh b -> b < w.heap.size) (hok : ∀ v ∈ F, v.OK w Sh) (hnd : (F.flatMap DV.foot).Nodup) (hfz : ∀ b ∈ F.flatMap DV.foot, ¬ Sh b /\ b < w.heap.size /\ M b) :
  RelF (ctxI P w Sh M) stI noD Sh F ⟨#[], []⟩ w where
 rel := ⟨rfl, rfl, rfl, Nat.le_refl _, fun _ _ _ => rfl, fun _ h => h, fun b h => ⟨.inl h, hsh b h⟩, (fun id r h => by cases h), (fun i j r r' _ h => by cases h), (fun id r h => by cases h), fun t => trivial, rfl, rfl⟩
 fok := hok
 fnd := hnd
 fdis := fun b hb => ⟨(fun id r h => by cases h), (hfz b hb).1, (hfz b hb).2.1, .inr (hfz b hb).2.2⟩
theorem ins_fin {P : Program} {w w' : World} {Sh M : Nat -> Prop} {D : Nat -> DRoot} {a : Act} {e : TypeId} {t : Ty} {A : Option Addr} {c : Nat} {es : List t.dec} (h : RelF (ctxI P w Sh M) stI D Sh [⟨.sl true e t, ((A, c), es)⟩] a w') :
  ∃ v Sh' rs, v = .slice A es.length c /\ Left w Sh M w' Sh' (feet rs ++ feet []) /\ ResOK w' Sh' (.one (.sl true e t)) (es.map t.er, ()) v rs := by
 refine ⟨_, Sh, [⟨⟨.sl true e t, ((A, c), es)⟩, none, []⟩], rfl, ⟨h.rel.os, h.rel.tape, h.rel.output, h.rel.hsz, fun b h1 h2 => h.rel.block b h1 h2, fun _ h => h, h.rel.shn, ?_, fun b hb => ?_⟩, ⟨((A, c), es), rfl, h.fok ⟨.sl true e t, ((A, c), es)⟩ (by simp), rfl, rfl⟩⟩
 ·have := h.fnd
  simpa [feet, DRoot.foot] using this
 ·have hb' : b ∈ ([⟨.sl true e t, ((A, c), es)⟩] : List DV).flatMap DV.foot := by simpa [feet, DRoot.foot] using hb
  have := h.fdis b hb'
  exact ⟨this.2.1, this.2.2.1, this.2.2.2⟩
theorem flat_cell (t : Ty) {es : List t.dec} {off : Nat} {row : Array Value} (hnz : t.sz ≠ 0) (hd : ∀ (i : Nat) (d : t.dec), es[i]? = some d -> ∀ j v, (t.cs d)[j]? = some v -> row[off + i * t.sz + j]? = some v) : ∀ j v, (flatC t es)[j]? = some v -> row[off + j]? = some v := by
 intro j v hj
 obtain ⟨i, d, j', h1, h2, rfl⟩ := flatC_from t hnz es j v hj
 rw [<- Nat.add_assoc]
 exact hd i d h1 j' v h2
theorem insert_callOK {P : Program} {T : List (TypeId × TRow)} (hT : TabOK P T) {f : FuncId} {S e : TypeId} {k bytes : Nat} (R : InsR P f S e k bytes) (t : Ty) (hk : t.sz = k) (hu : P.underlying S = some (.slice e)) {re : TRow} (hre : tget T e = some re) (hrs : re.ty.sz = k) (hrb : re.bytes = bytes) (hE : Enters P f) :
  CallOK P f ⟨[.o (.sl true e t), .r (.val (.int .i64)), .o (.sl true e t)], .one (.sl true e t), fun x => chk (decide (0 <= x.2.1) && (decide (x.2.1 <= (x.1.length : Int)) && (Nat.beq x.2.2.1.length 1 && fits (x.1.length + 1) bytes))) (some (x.1.take x.2.1.toNat ++ (x.2.2.1 ++ x.1.drop x.2.1.toNat)))⟩ := by
 refine ⟨hE, (fun t h => by cases h), ?_⟩
 intro w Sh x y vs zs hy hsh ha hnd hfz
 obtain ⟨xs, i, es, u⟩ := x
 obtain ⟨v0, v1, v2, z0, z1, z2, rfl, rfl, h0, h1, h2⟩ : ∃ v0 v1 v2 z0 z1 z2, vs = [v0, v1, v2] /\ zs = [z0, z1, z2] /\ ArgOK w Sh (.o (.sl true e t)) xs v0 z0 /\ ArgOK w Sh (.r (.val (.int .i64))) i v1 z1 /\ ArgOK w Sh (.o (.sl true e t)) es v2 z2 := by
  rcases vs with _ | ⟨v0, _ | ⟨v1, _ | ⟨v2, _ | ⟨v3, vs⟩⟩⟩⟩ <;> rcases zs with _ | ⟨z0, _ | ⟨z1, _ | ⟨z2, _ | ⟨z3, zs⟩⟩⟩⟩ <;> first
   | exact ⟨_, _, _, _, _, _, rfl, rfl, ha.1, ha.2.1, ha.2.2.1⟩
   | exact ha.elim
   | exact ha.2.elim
   | exact ha.2.2.elim
   | exact ha.2.2.2.elim
 clear ha
 have hy : chk (decide (0 <= i) && (decide (i <= (List.length xs : Int)) && (Nat.beq (List.length es) 1 && fits (List.length xs + 1) bytes))) (some (List.take i.toNat xs ++ (es ++ List.drop i.toNat xs))) = some y := hy
 unfold chk at hy
 cases hc : (decide (0 <= i) && (decide (i <= (List.length xs : Int)) && (Nat.beq (List.length es) 1 && fits (List.length xs + 1) bytes))) with
 | false => rw [hc] at hy; cases hy
 | true =>
  rw [hc] at hy
  have hy : List.take i.toNat xs ++ (es ++ List.drop i.toNat xs) = y := Option.some.inj hy
  subst hy
  simp only [Bool.and_eq_true, decide_eq_true_eq] at hc
  obtain ⟨hi0, hin, hes, hfit⟩ := hc
  have hes := Nat.eq_of_beq_eq_true hes
  obtain ⟨⟨cs1, hcs1, hv1⟩, rfl⟩ := h1
  have hcs1 : cs1 = [.int .i64 i] := hcs1
  subst hcs1
  have hv1 : v1 = .int .i64 i := hv1
  subst hv1
  obtain ⟨_, hb0, her0, hok0, rfl⟩ := h0
  obtain ⟨_, hb2, her2, hok2, rfl⟩ := h2
  obtain ⟨⟨t0, d0⟩, zb0, zc0⟩ := z0
  obtain ⟨⟨t2, d2⟩, zb2, zc2⟩ := z2
  cases hb0
  cases hb2
  have e0 : t0 = .sl true e t := congrArg V.t her0
  subst e0
  have e2 : t2 = .sl true e t := congrArg V.t her2
  subst e2
  obtain ⟨⟨A, c⟩, ds⟩ := d0
  obtain ⟨⟨vA, vc⟩, us⟩ := d2
  have hxs : ds.map t.er = xs := by
   have : (⟨.sl true e t, ds.map t.er⟩ : V) = ⟨.sl true e t, xs⟩ := her0
   injection this with _ h2
  have hus : us.map t.er = es := by
   have : (⟨.sl true e t, us.map t.er⟩ : V) = ⟨.sl true e t, es⟩ := her2
   injection this with _ h2
  subst hxs
  subst hus
  clear her0 her2
  simp only [List.length_map] at hin hes hfit
  obtain ⟨x1, rfl⟩ := List.length_eq_one_iff.1 hes
  clear hes
  have hnz : t.sz ≠ 0 := by rw [hk, <- hrs]; exact (hT e re hre).nz
  obtain ⟨n, rfl⟩ : ∃ n : Nat, i = (n : Int) := ⟨Int.toNat i, (Int.toNat_of_nonneg hi0).symm⟩
  clear hi0
  have hin' : (n : Int) <= (ds.length : Int) := hin
  have hin : n <= ds.length := by omega
  simp only [Int.toNat_natCast]
  have hfe : feet [(⟨⟨.sl true e t, ((A, c), ds)⟩, none, zc0⟩ : DRoot), noZ, ⟨⟨.sl true e t, ((vA, vc), [x1])⟩, none, zc2⟩] = [(⟨.sl true e t, ((A, c), ds)⟩ : DV), ⟨.sl true e t, ((vA, vc), [x1])⟩].flatMap DV.foot := by
   simp [feet, DRoot.foot, noZ, DV.foot, Ty.foot]
  have hF0 : RelF (ctxI P w Sh (fun b => b ∈ feet [(⟨⟨.sl true e t, ((A, c), ds)⟩, none, zc0⟩ : DRoot), noZ, ⟨⟨.sl true e t, ((vA, vc), [x1])⟩, none, zc2⟩])) stI noD Sh [(⟨.sl true e t, ((A, c), ds)⟩ : DV), ⟨.sl true e t, ((vA, vc), [x1])⟩] ⟨#[], []⟩ w :=
   rel_start hsh (fun v hv => by
    rcases List.mem_cons.1 hv with rfl | hv
    ·exact hok0
    ·cases List.mem_singleton.1 hv; exact hok2) (by rw [<- hfe]; exact hnd) (fun b hb => by
    rw [<- hfe] at hb
    exact ⟨(hfz b hb).1, (hfz b hb).2, hb⟩)
  have hF1 : RelF (ctxI P w Sh (fun b => b ∈ feet [(⟨⟨.sl true e t, ((A, c), ds)⟩, none, zc0⟩ : DRoot), noZ, ⟨⟨.sl true e t, ((vA, vc), [x1])⟩, none, zc2⟩])) stI noD Sh ((⟨.sl true e t, ((A, c), ds)⟩ : DV) :: (eHand t [x1] ++ [])) ⟨#[], []⟩ w :=
   (RelF.open (F := [⟨.sl true e t, ((A, c), ds)⟩]) (x := ((vA, vc), [x1])) (hF0.perm (List.Perm.swap _ _ _))).perm (List.Perm.swap _ _ _)
  have done : ∀ (A' : Option Addr) (c' : Nat) (es' : List t.dec) (w' : World), RelF (ctxI P w Sh (fun b => b ∈ feet [(⟨⟨.sl true e t, ((A, c), ds)⟩, none, zc0⟩ : DRoot), noZ, ⟨⟨.sl true e t, ((vA, vc), [x1])⟩, none, zc2⟩])) stI noD Sh [⟨.sl true e t, ((A', c'), es')⟩] ⟨#[], []⟩ w' -> es' = ds.take n ++ ([x1] ++ ds.drop n) ->
    ∃ v Sh' rs bs, Ending.returned (.slice A' ((ds.length + 1 : Nat)) c') = .returned v /\ Left w Sh (fun b => b ∈ feet [(⟨⟨.sl true e t, ((A, c), ds)⟩, none, zc0⟩ : DRoot), noZ, ⟨⟨.sl true e t, ((vA, vc), [x1])⟩, none, zc2⟩]) w' Sh' (feet rs ++ feet bs) /\
     ResOK w' Sh' (.one (.sl true e t)) (List.take n (ds.map t.er) ++ ([x1].map t.er ++ List.drop n (ds.map t.er)), ()) v rs /\ BackOK w' Sh' [.o (.sl true e t), .r (.val (.int .i64)), .o (.sl true e t)] [(⟨⟨.sl true e t, ((A, c), ds)⟩, none, zc0⟩ : DRoot), noZ, ⟨⟨.sl true e t, ((vA, vc), [x1])⟩, none, zc2⟩] [] bs := by
   intro A' c' es' w' hF he
   subst he
   obtain ⟨v, Sh', rs, hv, hL, hR⟩ := ins_fin hF
   refine ⟨v, Sh', rs, [], ?_, hL, ?_, ⟨rfl, rfl⟩⟩
   ·rw [hv]
    congr 2
    simp only [List.length_append, List.length_take, List.length_drop, List.length_cons, List.length_nil]
    omega
   ·have : List.take n (ds.map t.er) ++ ([x1].map t.er ++ List.drop n (ds.map t.er)) = (ds.take n ++ ([x1] ++ ds.drop n)).map t.er := by
     rw [List.map_append, List.map_append, List.map_take, List.map_drop]
    rw [this]; exact hR
  show Calls P f #[.slice A ds.length c, .int .i64 n, .slice vA 1 vc] w _
  by_cases hend : n = ds.length
  ·subst hend
   obtain ⟨A', c', w', hrun, _, hF⟩ := app_run (C := ctxI P w Sh _) (ty := S) hT hu hre (tm := t) (hk.trans hrs.symm) hF1 (src_own (P := P) (tx := S) (.inl ⟨e, hu⟩) hnz hok2) (by rw [hrb]; exact hfit)
   refine (R.tail w w' A vA A' ds.length c vc c' hrun).mono ?_
   rintro x' w'' ⟨rfl, rfl⟩
   exact done A' c' _ w'' hF (by rw [List.take_length, List.drop_length, List.append_nil])
  ·have hlt : n < ds.length := by omega
   rcases hok0 with ⟨_, hn⟩ | ⟨b, off, row, hA, hrow, hle, hmx, hsz, hel⟩
   ·have hn : ds = [] := hn
    subst hn; simp at hlt
   rcases hok2 with ⟨_, hn⟩ | ⟨vb, voff, rv, hvA, hrv, hvle, hvmx, hvsz, hvel⟩
   ·cases hn
   have hA : A = some ⟨b, off, none⟩ := hA
   have hvA : vA = some ⟨vb, voff, none⟩ := hvA
   subst hA
   subst hvA
   have hle : ds.length <= c := hle
   have hmx : c <= maxLen := hmx
   have hsz : off + c * t.sz <= row.size := hsz
   have hvle : 1 <= vc := hvle
   have hvsz : voff + vc * t.sz <= rv.size := hvsz
   have hne : vb ≠ b := by
    intro eq
    have := hF0.fnd
    have e1 : [(⟨.sl true e t, ((some ⟨b, off, none⟩, c), ds)⟩ : DV), ⟨.sl true e t, ((some ⟨vb, voff, none⟩, vc), [x1])⟩].flatMap DV.foot = b :: (ds.flatMap t.foot ++ (vb :: ([x1].flatMap t.foot ++ []))) := rfl
    rw [e1, eq] at this
    exact (List.nodup_cons.1 this).1 (by simp)
   have hcell : ∀ (i : Nat) (d : t.dec), ds[i]? = some d -> ∀ j v, (t.cs d)[j]? = some v -> row[off + i * t.sz + j]? = some v := fun i d hi => (hel i d hi).2
   have hvcell : ∀ j v, (t.cs x1)[j]? = some v -> rv[voff + j]? = some v := fun j v hj => by
    have := (hvel 0 x1 rfl).2 j v hj
    rwa [Nat.zero_mul, Nat.add_zero] at this
   have hv1 : voff + t.sz <= rv.size := by
    have : 1 * t.sz <= vc * t.sz := Nat.mul_le_mul_right _ hvle
    omega
   have hdcell : ∀ j v, (flatC t (ds.drop n))[j]? = some v -> row[off + n * t.sz + j]? = some v := flat_cell t hnz (off := off + n * t.sz) (fun i d hi j v hj => by
    have := hcell (n + i) d (by rw [<- hi, List.getElem?_drop]) j v hj
    rwa [Nat.add_mul, <- Nat.add_assoc] at this)
   have htcell : ∀ j v, (flatC t (ds.take n))[j]? = some v -> row[off + j]? = some v := flat_cell t hnz (fun i d hi j v hj => by
    rw [List.getElem?_take] at hi
    split at hi
    ·exact hcell i d hi j v hj
    ·cases hi)
   have hdl : (flatC t (ds.drop n)).length = (ds.length - n) * t.sz := by rw [flatC_len, List.length_drop]
   have htl : (flatC t (ds.take n)).length = n * t.sz := by rw [flatC_len, List.length_take, Nat.min_eq_left hin]
   have hone : ∀ es' : List t.dec, (∀ d ∈ es', d ∈ ds) -> ∀ u ∈ flatC t es', u.oneCell' = true := fun es' hs => el_one (w := w) (Sh := Sh) (fun v hv => by
    obtain ⟨d, hd, rfl⟩ := List.mem_map.1 hv
    obtain ⟨i, hi⟩ := List.mem_iff_getElem?.1 (hs d hd)
    exact (hel i d hi).1)
   have hd1 := hone (ds.drop n) (fun d hd => List.mem_of_mem_drop hd)
   have hx1 : ∀ u ∈ t.cs x1, u.oneCell' = true := Ty.OK_one (hvel 0 x1 rfl).1
   have hpm : (ds.take n ++ ([x1] ++ ds.drop n)).Perm (ds ++ [x1]) := by
    have h1 : (ds.take n ++ ([x1] ++ ds.drop n)).Perm (x1 :: (ds.take n ++ ds.drop n)) := List.perm_middle
    rw [List.take_append_drop] at h1
    exact h1.trans (List.perm_append_singleton x1 ds).symm
   have hel3 : flatC t (ds.take n ++ ([x1] ++ ds.drop n)) = flatC t (ds.take n) ++ (t.cs x1 ++ flatC t (ds.drop n)) := by
    rw [flatC_append, flatC_append]
    congr 2
    simp [flatC]
   have hlen3 : (ds.take n ++ ([x1] ++ ds.drop n)).length = ds.length + 1 := by
    simp only [List.length_append, List.length_take, List.length_drop, List.length_cons, List.length_nil]
    omega
   subst hk
   by_cases hroom : ds.length + 1 <= c
   ·refine (R.shift w b off ds.length c n vb voff vc row rv _ _ hlt hroom hmx hne hrow hsz hrv hv1 hdl (Ty.cs_len t x1) hdcell hvcell hd1 hx1).mono ?_
    rintro x' w' ⟨rfl, hO, row', hr', hs', hp', hc'⟩
    obtain ⟨_, hF⟩ := hF1.rowSet (es' := ds.take n ++ ([x1] ++ ds.drop n)) hpm (by rw [hlen3]; exact hroom) hO.os hO.tape hO.output hO.size hO.other hrow hr' hs' (fun i d hi j v hj => by
     have hj' : j < t.sz := by rw [<- Ty.cs_len t d]; exact (List.getElem?_eq_some_iff.1 hj).1
     by_cases hin' : i < n
     ·rw [List.getElem?_append_left (by rw [List.length_take]; omega), List.getElem?_take, if_pos hin'] at hi
      have hlt' : (i + 1) * t.sz <= n * t.sz := Nat.mul_le_mul_right _ hin'
      rw [Nat.add_mul, Nat.one_mul] at hlt'
      rw [hp' _ (by omega)]
      exact hcell i d hi j v hj
     ·have hf := flatC_at t _ i d j v hi hj
      rw [hel3, List.getElem?_append_right (by
       have : n * t.sz <= i * t.sz := Nat.mul_le_mul_right _ (by omega)
       omega), htl] at hf
      have := hc' _ v hf
      rw [<- this]
      congr 1
      have : n * t.sz <= i * t.sz := Nat.mul_le_mul_right _ (by omega)
      omega)
    exact done _ _ _ w' hF rfl
   ·refine (R.grow w b off ds.length c n vb voff vc row rv _ _ _ hlt hle (by omega) (by simpa [fits] using hfit) hne hrow hsz hrv hv1 htl hdl (Ty.cs_len t x1) htcell hdcell hvcell hd1 hx1).mono ?_
    rintro x' w' ⟨c', row', rfl, hc1, hc2, hN, hr', hs', hc'⟩
    have hF2 : RelF (ctxI P w Sh (fun b' => b' ∈ feet [(⟨⟨.sl true e t, ((some ⟨b, off, none⟩, c), ds)⟩, none, zc0⟩ : DRoot), noZ, ⟨⟨.sl true e t, ((some ⟨vb, voff, none⟩, vc), [x1])⟩, none, zc2⟩])) stI noD Sh (eHand t (ds.take n ++ ([x1] ++ ds.drop n)) ++ []) ⟨#[], []⟩ w := by
     have h1 := hF1.open
     refine h1.perm ?_
     rw [List.append_nil, List.append_nil]
     have : eHand t ds ++ eHand t [x1] = eHand t (ds ++ [x1]) := (List.map_append).symm
     show (eHand t ds ++ eHand t [x1]).Perm _
     rw [this]
     exact (hpm.symm.map _)
    obtain ⟨_, hF⟩ := hF2.rowNew (e := e) (cap := c') (row := row') hN.os hN.tape hN.output hN.size hN.other hr' (fun j v hj => hc' j v (by rw [<- hel3]; exact hj)) (by rw [hlen3]; exact hc1) hc2 hs'
    exact done _ _ _ w' hF rfl
end Go.Proofs.YtipaepbmdooekaaGreat.Vm
