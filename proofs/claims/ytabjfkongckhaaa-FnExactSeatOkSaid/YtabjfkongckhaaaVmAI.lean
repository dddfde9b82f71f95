/- Operations: conversions; all of them. -/
import Derived.Test.YtabjfkongckhaaaVmAH
import Derived.Laws.BytesString
namespace Go.Proofs.Ytabjfkongckhaaa.Vm
open Go Go.RowKit
set_option linter.unusedVariables false

section
variable {C : Ctx} {st : St} {D : Nat → DRoot} {Sh : Nat → Prop} {F : List DV} {a : Act} {w : World} {T : List (TypeId × TRow)} {o : Oper}
theorem desc_some {P : Program} {t : TypeId} {r : TRow} (h : RowOK P T t r) : ∃ k, P.underlying t = some k := by
  have := h.desc
  unfold DescOK at this
  cases hty : r.ty with
  | int k => rw [hty] at this; exact ⟨_, this⟩
  | bool => rw [hty] at this; exact ⟨_, this⟩
  | str => rw [hty] at this; exact ⟨_, this⟩
  | hole => rw [hty] at this; exact this.elim
  | sl o e t =>
    rw [hty] at this
    obtain ⟨_, h1, _⟩ := this
    exact ⟨_, h1⟩
  | nil =>
    rw [hty] at this
    obtain ⟨fs, h1, _⟩ := this
    exact ⟨_, h1⟩
  | cons a r =>
    rw [hty] at this
    obtain ⟨fs, h1, _⟩ := this
    exact ⟨_, h1⟩
theorem run_int {P : Program} {src dst : TypeId} {ks : TypeDesc} {k k' : IntKind} {n : Int} (hs : P.underlying src = some ks) (hd : P.underlying dst = some (.int k)) : (convert src dst (.int k' n)).run P w = .ok (.int k (k.wrap n)) w := by
  simp [convert, run_underlying hs, run_underlying hd, Conv.intToInt]
theorem run_text {P : Program} {A : Option Addr} {c : Nat} {xs : List Int} {e : TypeId} {o : Bool} (h : Ty.RR w Sh (.sl o e (.int .u8)) xs [.slice A xs.length c]) : (Conv.bytesToString (.slice A xs.length c)).run P w = .ok (.string (toBytes xs)) w := by
  obtain ⟨A0, c0, hc, h1, h2, h3⟩ := h
  simp only [List.cons.injEq, Value.slice.injEq, and_true] at hc
  obtain ⟨rfl, _, rfl⟩ := hc
  cases A with
  | none =>
    cases xs with
    | nil => rfl
    | cons x xs => obtain ⟨b, off, hA, _⟩ := h3 0 x rfl; cases hA
  | some A =>
    have hcell : ∀ (j : Nat) (u : Value), (xs.map (Value.int .u8))[j]? = some u → w.cell? (A.add j) = some u := by
      intro j u hu
      rw [List.getElem?_map] at hu
      cases hx : xs[j]? with
      | none => rw [hx] at hu; cases hu
      | some x =>
        rw [hx] at hu; cases hu
        obtain ⟨b, off, hA, _, cc, hR, hcl⟩ := h3 j x hx
        cases hA
        have hR : cc = [Value.int .u8 x] := hR
        subst hR
        have := hcl 0 _ rfl
        rw [add_at]
        simpa [Ty.sz] using this
    have hl := run_loadCells_list (P := P) w A (xs.map (Value.int .u8)) hcell
    rw [List.length_map] at hl
    rw [run_bytesToString w A xs.length c xs hl, bytes_push]
    simp [toBytes, ByteArray.empty, ByteArray.emptyWithCapacity]
    rfl
theorem sound_conv (hT : TabOK C.P T) {s t : TypeId} {x : Operand} (ho : o.op = .convert s t x) {rs rd : TRow} (hrs : tget T s = some rs) (hrd : tget T t = some rd) (hd : dstOk C.n o.dst = true) {av : AV}
    (h : (convP rs rd (evalA st.tmps x)).go st.roots = some av) : Sound C o st ⟨av, []⟩ := by
  refine sound_quiet hd (fun D Sh a w hR => ?_)
  have hx := hR.eval x
  obtain ⟨ks, hks⟩ := desc_some (hT s rs hrs)
  have hex : ∀ v, (convert s t (a.eval x)).run C.P w = .ok v w → (execOp a.eval o).run C.P w = .ok (.value v) w := by
    intro v hv
    simp only [execOp, ho, Sem.run_bind, Sem.run_pure, Result.andThen_ok, hv]
  unfold convP at h
  split at h
  · rename_i k k' n hty hax
    cases h
    rw [hax] at hx
    have e := avr_int hx
    exact ⟨_, hex _ (by rw [e]; exact run_int hks (ty_of (hT t rd hrd) hty)), mk_int _ _⟩
  · rename_i hty
    split at h
    case h_2 => cases h
    rename_i o1 e1 hrt
    rw [Prog.go_bind] at h
    cases h1 : (lendV rs.ty (evalA st.tmps x) []).go st.roots with
    | none => rw [h1] at h; cases h
    | some v =>
      rw [h1] at h
      simp only at h
      split at h
      case h_2 => cases h
      rename_i o2 e2 xs
      cases h
      have hs : AVS w Sh st.roots D (evalA st.tmps x) (a.eval x) := avs_of_avr hx (fun e => by rw [e, hrt] at h1; cases h1) (fun c e => by rw [e, hrt] at h1; cases h1)
      obtain ⟨cs, hc, hv⟩ := hs
      obtain ⟨g1, g2⟩ := lendV_ok (T := st.tmps) (ws := []) (Sh' := fun b => Sh b ∨ lentIn st.roots D (lent (evalA st.tmps x)) b) hR (fun b hb => .inl hb) h1 (fun b hb => .inr hb) hc
      have g1' := g1
      obtain ⟨A, c, hcs, _⟩ := g1
      subst hcs
      have hev : a.eval x = .slice A (List.length xs) c := by rw [hv, g2]; rfl
      have hse : ∃ e, C.P.underlying s = some (.slice e) ∧ C.P.underlying e = some (.int .u8) := by
        have := (hT s rs hrs).desc
        unfold DescOK at this
        rw [hrt] at this
        obtain ⟨_, h2, re, h3, h4, _⟩ := this
        exact ⟨_, h2, ty_of (hT _ re h3) h4⟩
      obtain ⟨e, he1, he2⟩ := hse
      refine ⟨_, hex _ ?_, mk_str _⟩
      rw [hev, run_convert_bytes_string w s t e A _ c he1 he2 (ty_of (hT t rd hrd) hty)]
      exact run_text g1'
  · cases h
end

theorem call_eta (c : Call) {b : Callee} {xs : List Operand} {ts : List TypeId} (h1 : c.callee = b) (h2 : c.args.toList = xs) (h3 : c.argTypes.toList = ts) : c = { callee := b, args := xs.toArray, argTypes := ts.toArray } := by
  obtain ⟨c1, c2, c3⟩ := c
  subst h1; subst h2; subst h3
  rfl
theorem all_sound {C : Ctx} {T : List (TypeId × TRow)} {K : Cons} (hT : TabOK C.P T) (hK : ∀ f key con, K f key = some con → CallOK C.P f con) : AllSound C T K := by
  intro o st res hdn h
  have h0 := h
  unfold opP at h
  cases hop : o.op <;> rw [hop] at h <;> simp only at h <;> try (cases h; done)
  case move x => cases h; exact sound_move (.inl hop) hdn
  case assign x => cases h; exact sound_move (.inr hop) hdn
  case pick c x y => obtain ⟨av, h1, rfl⟩ := q_go h; exact sound_pick hop hdn h1
  case alloc e =>
    split at h
    case h_2 => cases h
    rename_i d row hd hrow
    exact sound_alloc hT hop hrow hd hdn h
  case box e x =>
    split at h
    case h_2 => cases h
    rename_i d row hd hrow
    exact sound_box hT hop hrow hd hdn h
  case build t ps =>
    split at h
    case h_2 => cases h
    rename_i row hrow
    obtain ⟨av, h1, rfl⟩ := q_go h
    exact sound_build hT hop hrow hdn h1
  case buildSlice t len ps =>
    split at h
    case h_2 => cases h
    rename_i d row hd hrow
    exact sound_buildSlice hT hop hrow hd hdn h
  case load t x =>
    split at h
    case h_2 => cases h
    rename_i row hrow
    obtain ⟨av, h1, rfl⟩ := q_go h
    exact sound_load hT hop hrow hdn h1
  case store t x y =>
    split at h
    case h_2 => cases h
    rename_i row hd hrow
    rw [Prog.go_bind] at h
    cases hs : (storeQ row (evalA st.tmps x) (evalA st.tmps y)).go st.roots with
    | none => rw [hs] at h; cases h
    | some ws =>
      rw [hs] at h; cases h
      exact sound_storeQ hT hop hrow hd hs
  case nilCheck x => obtain ⟨av, h1, rfl⟩ := q_go h; exact sound_nil hop hdn h1
  case binOp op xt x y yt => obtain ⟨av, h1, rfl⟩ := q_go h; exact sound_bin hT hop hdn h1
  case unOp op t x => obtain ⟨av, h1, rfl⟩ := q_go h; exact sound_un hop hdn h1
  case convert s t x =>
    split at h
    case h_2 => cases h
    rename_i rs rd hrs hrd
    obtain ⟨av, h1, rfl⟩ := q_go h
    exact sound_conv hT hop hrs hrd hdn h1
  case makeFunc fn fst cap =>
    cases fn <;> simp only at h <;> try (cases h; done)
    exact sound_makeFunc hop hdn h0
  case makeSlice t l c =>
    split at h
    case h_2 => cases h
    rename_i d row hd hrow
    split at h
    case h_2 => cases h
    rename_i e te he
    split at h
    case h_2 => cases h
    rename_i re hre
    exact sound_make hT hop hrow he hre hd hdn h
  case slice t x lo hi mx =>
    cases mx with
    | some _ => cases h
    | none =>
      simp only at h
      split at h
      case h_2 => cases h
      rename_i row hrow
      exact sound_slice hT hop hrow hdn h
  case fieldAddr s x i =>
    split at h
    case h_2 => cases h
    rename_i row hrow
    obtain ⟨av, h1, rfl⟩ := q_go h
    exact sound_fieldAddr hT hop hrow hdn h1
  case field s x i =>
    split at h
    case h_2 => cases h
    rename_i row hrow
    obtain ⟨av, h1, rfl⟩ := q_go h
    exact sound_field hT hop hrow hdn h1
  case indexAddr t x i =>
    split at h
    case h_2 => cases h
    rename_i row hrow
    obtain ⟨av, h1, rfl⟩ := q_go h
    exact sound_indexAddr hT hop hrow hdn h1
  case index t x i =>
    split at h
    case h_2 => cases h
    rename_i row hrow
    obtain ⟨av, h1, rfl⟩ := q_go h
    exact sound_index hT hop hrow hdn h1
  case extract x i => obtain ⟨av, h1, rfl⟩ := q_go h; exact sound_extract hop hdn h1
  case call c =>
    cases hc : c.callee with
    | value f => exact sound_call hK hop hc hdn h0
    | invoke r m => rw [hc] at h; cases h
    | builtin b =>
      rw [hc] at h
      cases b <;> simp only at h <;> try (cases h; done)
      case len =>
        split at h
        case h_2 => cases h
        rename_i x t hx ht
        split at h
        case h_2 => cases h
        rename_i row hrow
        obtain ⟨av, h1, rfl⟩ := q_go h
        exact sound_len hT (by rw [hop, call_eta c hc hx ht]) hrow hdn h1
      case append =>
        split at h
        case h_2 => cases h
        rename_i d x y t tx hd hx ht
        split at h
        case h_2 => cases h
        rename_i row rx hrow hrx
        cases hk : kindOk rx with
        | false => rw [hk] at h; cases h
        | true =>
          rw [hk] at h
          simp only [cond_true] at h
          split at h
          case h_2 => cases h
          rename_i e te he
          split at h
          case h_2 => cases h
          rename_i re hre
          exact sound_append hT hop hc hx ht hrow hrx hk he hre hd hdn h
      case min =>
        split at h
        case h_2 => cases h
        rename_i k x l hl
        obtain ⟨av, h1, rfl⟩ := q_go h
        exact sound_mm (mx := false) hop hc hdn hl h1
      case max =>
        split at h
        case h_2 => cases h
        rename_i k x l hl
        obtain ⟨av, h1, rfl⟩ := q_go h
        exact sound_mm (mx := true) hop hc hdn hl h1
/-- A function whose code runs as told keeps its contract. -/
theorem fun_holds {P : Program} {T : List (TypeId × TRow)} {K : Cons} {L : Loops} {ids : List Nat} {f : FuncId} {fn : Func} {c : Con} (hT : TabOK P T) (hmo : P.follows .mixedOrders = true) (hK : ∀ f key con, K f key = some con → CallOK P f con)
    (hf : P.funcs[f]? = some fn) (hname : (fn.name == "runtime.NumGoroutine") = false) (hck : funOk fn c = true) (hrun : ∀ x, runF T K L ids fn c x = c.fn x) : CallOK P f c :=
  fun_ok hT hmo hf hname hck (fun C e => all_sound (by rw [e]; exact hT) (by rw [e]; exact hK)) hrun
end Go.Proofs.Ytabjfkongckhaaa.Vm
