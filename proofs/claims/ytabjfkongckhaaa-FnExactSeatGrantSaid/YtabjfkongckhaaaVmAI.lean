/- Operations: conversions; all of them. -/
import Derived.Test.YtabjfkongckhaaaVmAH
import Derived.Laws.BytesString
import Derived.Lib.ConvBytes
namespace Go.Proofs.Ytabjfkongckhaaa.Vm
open Go Go.RowKit
set_option linter.unusedVariables false

section
variable {C : Ctx} {st : St} {D : Nat → DRoot} {Sh : Nat → Prop} {F : List DV} {a : Act} {w : World} {T : List (TypeId × TRow)} {o : Oper}
theorem desc_some {P : Program} {t : TypeId} {r : TRow} (h : RowOK P T t r) : ∃ k, P.underlying t = some k := by
  have := h.desc
  unfold DescOK at this
  cases hty : r.ty with
  | int k => rw [hty] at this; exact ⟨_, this⟩
  | bool => rw [hty] at this; exact ⟨_, this⟩
  | str => rw [hty] at this; exact ⟨_, this⟩
  | hole => rw [hty] at this; exact this.elim
  | sl o e t =>
    rw [hty] at this
    obtain ⟨_, h1, _⟩ := this
    exact ⟨_, h1⟩
  | nil =>
    rw [hty] at this
    obtain ⟨fs, h1, _⟩ := this
    exact ⟨_, h1⟩
  | cons a r =>
    rw [hty] at this
    obtain ⟨fs, h1, _⟩ := this
    exact ⟨_, h1⟩
theorem run_int {P : Program} {src dst : TypeId} {ks : TypeDesc} {k k' : IntKind} {n : Int} (hs : P.underlying src = some ks) (hd : P.underlying dst = some (.int k)) : (convert src dst (.int k' n)).run P w = .ok (.int k (k.wrap n)) w := by
  simp [convert, run_underlying hs, run_underlying hd, Conv.intToInt]
theorem run_text {P : Program} {A : Option Addr} {c : Nat} {xs : List Int} {e : TypeId} {o : Bool} (h : Ty.RR w Sh (.sl o e (.int .u8)) xs [.slice A xs.length c]) : (Conv.bytesToString (.slice A xs.length c)).run P w = .ok (.string (toBytes xs)) w := by
  obtain ⟨A0, c0, hc, h1, h2, h3⟩ := h
  simp only [List.cons.injEq, Value.slice.injEq, and_true] at hc
  obtain ⟨rfl, _, rfl⟩ := hc
  cases A with
  | none =>
    cases xs with
    | nil => rfl
    | cons x xs => obtain ⟨b, off, hA, _⟩ := h3 0 x rfl; cases hA
  | some A =>
    have hcell : ∀ (j : Nat) (u : Value), (xs.map (Value.int .u8))[j]? = some u → w.cell? (A.add j) = some u := by
      intro j u hu
      rw [List.getElem?_map] at hu
      cases hx : xs[j]? with
      | none => rw [hx] at hu; cases hu
      | some x =>
        rw [hx] at hu; cases hu
        obtain ⟨b, off, hA, _, cc, hR, hcl⟩ := h3 j x hx
        cases hA
        have hR : cc = [Value.int .u8 x] := hR
        subst hR
        have := hcl 0 _ rfl
        rw [add_at]
        simpa [Ty.sz] using this
    have hl := run_loadCells_list (P := P) w A (xs.map (Value.int .u8)) hcell
    rw [List.length_map] at hl
    rw [run_bytesToString w A xs.length c xs hl, bytes_push]
    simp [toBytes, ByteArray.empty, ByteArray.emptyWithCapacity]
    rfl
theorem sound_conv (hT : TabOK C.P T) {s t : TypeId} {x : Operand} (ho : o.op = .convert s t x) {rs rd : TRow} (hrs : tget T s = some rs) (hrd : tget T t = some rd) (hd : dstOk C.n o.dst = true) {av : AV}
    (h : (convP rs rd (evalA st.tmps x)).go st.roots = some av) : Sound C o st ⟨av, []⟩ := by
  refine sound_quiet hd (fun D Sh a w hR => ?_)
  have hx := hR.eval x
  obtain ⟨ks, hks⟩ := desc_some (hT s rs hrs)
  have hex : ∀ v, (convert s t (a.eval x)).run C.P w = .ok v w → (execOp a.eval o).run C.P w = .ok (.value v) w := by
    intro v hv
    simp only [execOp, ho, Sem.run_bind, Sem.run_pure, Result.andThen_ok, hv]
  unfold convP at h
  split at h
  · rename_i k k' n hty hax
    cases h
    rw [hax] at hx
    have e := avr_int hx
    exact ⟨_, hex _ (by rw [e]; exact run_int hks (ty_of (hT t rd hrd) hty)), mk_int _ _⟩
  · rename_i hty
    split at h
    case h_2 => cases h
    rename_i o1 e1 hrt
    rw [Prog.go_bind] at h
    cases h1 : (lendV rs.ty (evalA st.tmps x) []).go st.roots with
    | none => rw [h1] at h; cases h
    | some v =>
      rw [h1] at h
      simp only at h
      split at h
      case h_2 => cases h
      rename_i o2 e2 xs
      cases h
      have hs : AVS w Sh st.roots D (evalA st.tmps x) (a.eval x) := avs_of_avr hx (fun e => by rw [e, hrt] at h1; cases h1) (fun c e => by rw [e, hrt] at h1; cases h1)
      obtain ⟨cs, hc, hv⟩ := hs
      obtain ⟨g1, g2⟩ := lendV_ok (T := st.tmps) (ws := []) (Sh' := fun b => Sh b ∨ lentIn st.roots D (lent (evalA st.tmps x)) b) hR (fun b hb => .inl hb) h1 (fun b hb => .inr hb) hc
      have g1' := g1
      obtain ⟨A, c, hcs, _⟩ := g1
      subst hcs
      have hev : a.eval x = .slice A (List.length xs) c := by rw [hv, g2]; rfl
      have hse : ∃ e, C.P.underlying s = some (.slice e) ∧ C.P.underlying e = some (.int .u8) := by
        have := (hT s rs hrs).desc
        unfold DescOK at this
        rw [hrt] at this
        obtain ⟨_, h2, re, h3, h4, _⟩ := this
        exact ⟨_, h2, ty_of (hT _ re h3) h4⟩
      obtain ⟨e, he1, he2⟩ := hse
      refine ⟨_, hex _ ?_, mk_str _⟩
      rw [hev, run_convert_bytes_string w s t e A _ c he1 he2 (ty_of (hT t rd hrd) hty)]
      exact run_text g1'
  · cases h

theorem sound_bytes (hT : TabOK C.P T) {s t : TypeId} {x : Operand} (ho : o.op = .convert s t x) {rs rd : TRow} (hrs : tget T s = some rs) (hrd : tget T t = some rd) {d : Nat} (hd : o.dst = some d) (hdn : dstOk C.n o.dst = true) {b : ByteArray} (hx0 : evalA st.tmps x = .sh .str b) {res : Res}
    (h : (bytesP rd b d).go st.roots = some res) : Sound C o st res := by
  intro D Sh a w K Q hR hK
  unfold bytesP at h
  split at h
  case h_2 => cases h
  rename_i e he
  obtain ⟨hu, ⟨re, hre, hte⟩, hnz, hpl⟩ := (hT t rd hrd).elem he
  have hr := hT e re hre
  obtain ⟨ks, hks⟩ := desc_some (hT s rs hrs)
  have hx := hR.eval x
  rw [hx0] at hx
  have hev := avr_str hx
  have hue : C.P.underlying e = some (.int .u8) := ty_of hr hte
  simp only [Prog.go] at h
  cases hf : fits b.size 1 with
  | false => rw [hf] at h; cases h
  | true =>
    rw [hf] at h
    have hfit : b.size ≤ 140737488355328 := by simpa [fits] using hf
    simp only [cond_true, newRoot, getR, Prog.go] at h
    cases hn : st.roots d with
    | some r => rw [hn] at h; cases h
    | none =>
      rw [hn] at h; cases h
      have hex0 := Go.Lib.run_convert_string_bytes (P := C.P) w s t e b hks hu hue
      have hlen : (bytesL b).length = b.size := by simp [bytesL]
      have hFF : RelF C st D Sh (eHand (.int .u8) (bytesL b : List (Ty.int .u8).dec) ++ []) a w := RelF.frees (t := .int .u8) (es := bytesL b) (fun d hd => ⟨trivial, rfl⟩) hR.F
      obtain ⟨K1, F1⟩ := RelF.rowNew (e := e) (t := .int .u8) (es := bytesL b) (cap := grownCap w b.size 0 e) (row := Go.Lib.bytesCells w e b) (w' := Go.Lib.bytesWorld w e b) hFF rfl rfl rfl (Go.Lib.bytesWorld_size w e b) (fun k hk => Go.Lib.bytesWorld_at_old w e b k hk)
        ⟨_, Go.Lib.bytesWorld_at_new w e b, .inr (Nat.le_refl _)⟩ (fun j v hj => by
          have hfl : flatC (.int .u8) (bytesL b : List (Ty.int .u8).dec) = b.data.toList.map fun c => Value.int .u8 (c.toNat : Int) := by
            unfold flatC bytesL
            have key : ∀ l : List UInt8, List.flatMap (Ty.int .u8).cs (l.map fun c => ((c.toNat : Nat) : Int) : List (Ty.int .u8).dec) = l.map fun c => Value.int .u8 (c.toNat : Int) := by
              intro l
              induction l with
              | nil => rfl
              | cons c l ih =>
                show Value.int .u8 (c.toNat : Int) :: List.flatMap (Ty.int .u8).cs (l.map fun c => ((c.toNat : Nat) : Int) : List (Ty.int .u8).dec) = _
                rw [ih]; rfl
            exact key _
          rw [hfl] at hj
          have hjl : j < b.data.size := by simpa using (List.getElem?_eq_some_iff.1 hj).1
          unfold Go.Lib.bytesCells
          rw [Array.getElem?_append_left (by simpa using hjl)]
          simpa using hj) (Nat.le_trans (Nat.le_of_eq hlen) (grownCap_ge _ _ _ _)) (grownCap_le_maxLen w _ 0 e (by simp only [maxLen]; omega)) (by
          have := grownCap_ge w b.size 0 e
          have h2 : b.data.size = b.size := rfl
          simp only [Ty.sz, Go.Lib.bytesCells, Array.size_append, Array.size_map, Array.size_replicate, h2]
          omega)
      have hex : (execOp a.eval o).run C.P w = .ok (.value (mkw false (DV.cs ⟨.sl true e (.int .u8), ((some ⟨w.heap.size, 0, none⟩, grownCap w b.size 0 e), bytesL b)⟩))) (Go.Lib.bytesWorld w e b) := by
        show _ = Result.ok (Next.value (Value.slice (some ⟨w.heap.size, 0, none⟩) (bytesL b).length (grownCap w b.size 0 e))) _
        rw [hlen]
        simp only [execOp, ho, hev, Sem.run_bind, hex0, Result.andThen_ok, Sem.run_pure]
      exact done_hold (ws := []) (dv := ⟨.sl true e (.int .u8), ((some ⟨w.heap.size, 0, none⟩, grownCap w b.size 0 e), bytesL b)⟩) hd hdn hn F1 hex rfl (by
        show (⟨.sl true e (.int .u8), List.map (Ty.int .u8).er (bytesL b : List (Ty.int .u8).dec)⟩ : V) = ⟨.sl true e (.int .u8), bytesL b⟩
        congr 1
        exact List.map_id' _) hK
theorem freeze_row {P : Program} {w : World} {b o : Nat} {row : Array Value} {e : TypeId} (h : Row w b row e) : ∃ w' : World, (markStringish ⟨b, o, none⟩).run P w = .ok () w' ∧ w'.os = w.os ∧ w'.tape = w.tape ∧ w'.output = w.output ∧ w'.heap.size = w.heap.size ∧ (∀ k, k ≠ b → w'.heap[k]? = w.heap[k]?) ∧ Row w' b row e := by
  obtain ⟨⟨lo, hi⟩, h1, h2⟩ := h
  have hsh : w.shape? b = some (e, row.size) := by simp [World.shape?, h1]
  refine ⟨w.freeze ⟨b, row.size, none⟩ 1, ?_, rfl, rfl, rfl, by simp [World.freeze], fun k hk => ?_, ?_⟩
  · simp [markStringish, hsh]
  · simp only [World.freeze, Nat.one_ne_zero, if_false]
    rw [Array.getElem?_modify, if_neg (Ne.symm hk)]
  · refine ⟨if lo == hi then (row.size, row.size + 1) else (min lo row.size, max hi (row.size + 1)), ?_, .inr ?_⟩
    · simp only [World.freeze, Nat.one_ne_zero, if_false]
      rw [Array.getElem?_modify, if_pos rfl, h1]
      rfl
    · split
      · exact Nat.le_refl _
      · rcases h2 with h2 | h2
        · cases h2; rename_i hne; simp at hne
        · simp only at h2 ⊢; omega
theorem sound_self (hT : TabOK C.P T) {s t : TypeId} {x : Operand} (ho : o.op = .convert s t x) (hst : s = t) {rs : TRow} (hrs : tget T s = some rs) (hby : isBytes rs = true) {d : Nat} (hd : o.dst = some d) (hdn : dstOk C.n o.dst = true) {res : Res}
    (h : (selfP rs (evalA st.tmps x) d).go st.roots = some res) : Sound C o st res := by
  subst hst
  intro D Sh a w K Q hR hK
  have hse : ∃ e, C.P.underlying s = some (.slice e) ∧ C.P.underlying e = some (.int .u8) := by
    have hd := (hT s rs hrs).desc
    unfold isBytes at hby
    split at hby
    · rename_i hty
      unfold DescOK at hd
      rw [hty] at hd
      obtain ⟨_, h2, re, h3, h4, _⟩ := hd
      exact ⟨_, h2, ty_of (hT _ re h3) h4⟩
    · cases hby
  obtain ⟨e0, he1, he2⟩ := hse
  unfold selfP at h
  rw [Prog.go_bind] at h
  cases h1 : (takeP rs.ty (evalA st.tmps x) []).go st.roots with
  | none => rw [h1] at h; cases h
  | some q =>
    obtain ⟨u, ws1⟩ := q
    rw [h1] at h
    simp only at h
    split at h
    case h_2 => cases h
    rename_i e y ys
    obtain ⟨D1, z, hz, hvx, hl, K1, F1⟩ := hR.take (hR.eval x) h1
    simp only [newRoot, getR_go] at h
    cases hn : app ws1 st.roots d with
    | some r => rw [hn] at h; cases h
    | none =>
      rw [hn] at h; cases h
      obtain ⟨zt, zd⟩ := z
      have hzt : zt = .sl true e (.int .u8) := congrArg V.t hz
      subst hzt
      obtain ⟨⟨A, c⟩, ds⟩ := zd
      have hok : DV.OK w Sh ⟨.sl true e (.int .u8), ((A, c), ds)⟩ := F1.fok _ (by simp)
      have hz' : (⟨.sl true e (.int .u8), ds.map (Ty.int .u8).er⟩ : V) = ⟨.sl true e (.int .u8), y :: ys⟩ := hz
      have hne : ds ≠ [] := by
        intro e; subst e
        simp at hz'
      rcases hok with ⟨_, h2⟩ | ⟨b, off, row, hA, hrow, q1, q2, q3, q4⟩
      · exact absurd h2 hne
      have hA : A = some ⟨b, off, none⟩ := hA
      subst hA
      obtain ⟨w', r0, r1, r2, r3, r4, r5, r6⟩ := freeze_row (P := C.P) (o := off) hrow
      have hfoot : List.flatMap DV.foot [(⟨.sl true e (.int .u8), ((some ⟨b, off, none⟩, c), ds)⟩ : DV)] = b :: ds.flatMap (Ty.int .u8).foot ++ [] := rfl
      obtain ⟨K2, F2⟩ := F1.turn (w' := w') (F' := [⟨.sl true e (.int .u8), ((some ⟨b, off, none⟩, c), ds)⟩]) r1 r2 r3 (by omega) (fun k hk hk' => r5 k (fun e => hk' (by rw [hfoot, e]; simp))) (fun v hv => by
          rw [List.mem_singleton.1 hv]
          exact .inr ⟨b, off, row, rfl, r6, q1, q2, q3, fun i d hi => ⟨trivial, (q4 i d hi).2⟩⟩) F1.fnd (fun k hk => .inl hk)
      have hev : a.eval x = .slice (some ⟨b, off, none⟩) ds.length c := hvx
      have hex : (execOp a.eval o).run C.P w = .ok (.value (mkw false (DV.cs ⟨.sl true e (.int .u8), ((some ⟨b, off, none⟩, c), ds)⟩))) w' := by
        show _ = Result.ok (Next.value (Value.slice (some ⟨b, off, none⟩) ds.length c)) _
        simp [execOp, ho, hev, convert, run_underlying he1, run_underlying he2, r0]
      exact done_hold (dv := ⟨.sl true e (.int .u8), ((some ⟨b, off, none⟩, c), ds)⟩) hd hdn hn F2 hex rfl hz' hK
end

theorem call_eta (c : Call) {b : Callee} {xs : List Operand} {ts : List TypeId} (h1 : c.callee = b) (h2 : c.args.toList = xs) (h3 : c.argTypes.toList = ts) : c = { callee := b, args := xs.toArray, argTypes := ts.toArray } := by
  obtain ⟨c1, c2, c3⟩ := c
  subst h1; subst h2; subst h3
  rfl
theorem all_sound {C : Ctx} {T : List (TypeId × TRow)} {K : Cons} (hT : TabOK C.P T) (hK : ∀ f key con, K f key = some con → CallOK C.P f con) : AllSound C T K := by
  intro o st res hdn h
  have h0 := h
  unfold opP at h
  cases hop : o.op <;> rw [hop] at h <;> simp only at h <;> try (cases h; done)
  case move x => cases h; exact sound_move (.inl hop) hdn
  case assign x => cases h; exact sound_move (.inr hop) hdn
  case pick c x y => obtain ⟨av, h1, rfl⟩ := q_go h; exact sound_pick hop hdn h1
  case alloc e =>
    split at h
    case h_2 => cases h
    rename_i d row hd hrow
    exact sound_alloc hT hop hrow hd hdn h
  case box e x =>
    split at h
    case h_2 => cases h
    rename_i d row hd hrow
    exact sound_box hT hop hrow hd hdn h
  case build t ps =>
    split at h
    case h_2 => cases h
    rename_i row hrow
    obtain ⟨av, h1, rfl⟩ := q_go h
    exact sound_build hT hop hrow hdn h1
  case buildSlice t len ps =>
    split at h
    case h_2 => cases h
    rename_i d row hd hrow
    exact sound_buildSlice hT hop hrow hd hdn h
  case load t x =>
    split at h
    case h_2 => cases h
    rename_i row hrow
    obtain ⟨av, h1, rfl⟩ := q_go h
    exact sound_load hT hop hrow hdn h1
  case store t x y =>
    split at h
    case h_2 => cases h
    rename_i row hd hrow
    rw [Prog.go_bind] at h
    cases hs : (storeQ row (evalA st.tmps x) (evalA st.tmps y)).go st.roots with
    | none => rw [hs] at h; cases h
    | some ws =>
      rw [hs] at h; cases h
      exact sound_storeQ hT hop hrow hd hs
  case nilCheck x => obtain ⟨av, h1, rfl⟩ := q_go h; exact sound_nil hop hdn h1
  case binOp op xt x y yt => obtain ⟨av, h1, rfl⟩ := q_go h; exact sound_bin hT hop hdn h1
  case unOp op t x => obtain ⟨av, h1, rfl⟩ := q_go h; exact sound_un hop hdn h1
  case convert s t x =>
    split at h
    case h_2 => cases h
    rename_i rs rd hrs hrd
    cases hself : (Nat.beq s t && isBytes rs) with
    | true =>
      rw [hself] at h
      rw [Bool.and_eq_true] at hself
      simp only [cond_true] at h
      split at h
      case h_2 => cases h
      rename_i d hd
      exact sound_self hT hop (Nat.eq_of_beq_eq_true hself.1) hrs hself.2 hd hdn h
    | false =>
    rw [hself] at h
    simp only [cond_false] at h
    unfold convQ at h
    split at h
    · rename_i b d _ hxb hd
      exact sound_bytes hT hop hrs hrd hd hdn hxb h
    · obtain ⟨av, h1, rfl⟩ := q_go h
      exact sound_conv hT hop hrs hrd hdn h1
  case makeFunc fn fst cap =>
    cases fn <;> simp only at h <;> try (cases h; done)
    exact sound_makeFunc hop hdn h0
  case makeSlice t l c =>
    split at h
    case h_2 => cases h
    rename_i d row hd hrow
    split at h
    case h_2 => cases h
    rename_i e te he
    split at h
    case h_2 => cases h
    rename_i re hre
    exact sound_make hT hop hrow he hre hd hdn h
  case slice t x lo hi mx =>
    cases mx with
    | some _ => cases h
    | none =>
      simp only at h
      split at h
      case h_2 => cases h
      rename_i row hrow
      exact sound_slice hT hop hrow hdn h
  case fieldAddr s x i =>
    split at h
    case h_2 => cases h
    rename_i row hrow
    obtain ⟨av, h1, rfl⟩ := q_go h
    exact sound_fieldAddr hT hop hrow hdn h1
  case field s x i =>
    split at h
    case h_2 => cases h
    rename_i row hrow
    obtain ⟨av, h1, rfl⟩ := q_go h
    exact sound_field hT hop hrow hdn h1
  case indexAddr t x i =>
    split at h
    case h_2 => cases h
    rename_i row hrow
    obtain ⟨av, h1, rfl⟩ := q_go h
    exact sound_indexAddr hT hop hrow hdn h1
  case index t x i =>
    split at h
    case h_2 => cases h
    rename_i row hrow
    obtain ⟨av, h1, rfl⟩ := q_go h
    exact sound_index hT hop hrow hdn h1
  case extract x i => obtain ⟨av, h1, rfl⟩ := q_go h; exact sound_extract hop hdn h1
  case call c =>
    cases hc : c.callee with
    | value f => exact sound_call hK hop hc hdn h0
    | invoke r m => rw [hc] at h; cases h
    | builtin b =>
      rw [hc] at h
      cases b <;> simp only at h <;> try (cases h; done)
      case len =>
        split at h
        case h_2 => cases h
        rename_i x t hx ht
        split at h
        case h_2 => cases h
        rename_i row hrow
        obtain ⟨av, h1, rfl⟩ := q_go h
        exact sound_len hT (by rw [hop, call_eta c hc hx ht]) hrow hdn h1
      case append =>
        split at h
        case h_2 => cases h
        rename_i d x y t tx hd hx ht
        split at h
        case h_2 => cases h
        rename_i row rx hrow hrx
        cases hk : kindOk rx with
        | false => rw [hk] at h; cases h
        | true =>
          rw [hk] at h
          simp only [cond_true] at h
          split at h
          case h_2 => cases h
          rename_i e te he
          split at h
          case h_2 => cases h
          rename_i re hre
          exact sound_append hT hop hc hx ht hrow hrx hk he hre hd hdn h
      case min =>
        split at h
        case h_2 => cases h
        rename_i k x l hl
        obtain ⟨av, h1, rfl⟩ := q_go h
        exact sound_mm (mx := false) hop hc hdn hl h1
      case max =>
        split at h
        case h_2 => cases h
        rename_i k x l hl
        obtain ⟨av, h1, rfl⟩ := q_go h
        exact sound_mm (mx := true) hop hc hdn hl h1
/-- A function whose code runs as told keeps its contract. -/
theorem fun_holds {P : Program} {T : List (TypeId × TRow)} {K : Cons} {L : Loops} {ids : List Nat} {f : FuncId} {fn : Func} {c : Con} (hT : TabOK P T) (hmo : P.follows .mixedOrders = true) (hK : ∀ f key con, K f key = some con → CallOK P f con)
    (hf : P.funcs[f]? = some fn) (hname : (fn.name == "runtime.NumGoroutine") = false) (hck : funOk fn c = true) (hrun : ∀ x, runF T K L ids fn c x = c.fn x) : CallOK P f c :=
  fun_ok hT hmo hf hname hck (fun C e => all_sound (by rw [e]; exact hT) (by rw [e]; exact hK)) hrun
end Go.Proofs.Ytabjfkongckhaaa.Vm
