/- Operations: elements, lengths, cuts, parts of tuples and structs. -/
import Derived.Test.YtabjfkongckhaaaVmJ
namespace Go.Proofs.Ytabjfkongckhaaa.Vm
open Go Go.RowKit
set_option linter.unusedVariables false

def nthA : AV → Nat → Option AV
  | .consf a _, 0 => some a
  | .consf _ b, i + 1 => nthA b i
  | _, _ => none
def extractP (x : AV) (i : Nat) : Prog AV := match x with
  | .tup c => match nthA c i with
    | some a => .ret a
    | none => .fail
  | _ => .fail
/-- The size of an element of a slice type, as the table has it. -/
def elemSz (row : TRow) : Option (TypeId × Ty) := match row.ty with
  | .sl _ e te => some (e, te)
  | _ => none
def inb (i : Int) (n : Nat) : Bool := decide (0 ≤ i) && decide (i < (n : Int))
def within {α : Type} (i : Int) (n : Nat) (k : Prog α) : Prog α := .test (inb i n) k .fail
def indexAddrP (row : TRow) (x i : AV) : Prog AV := match elemSz row, i with
  | some (_, re), .sh (.int _) n => match x with
    | .sh (.sl _ e te) xs => bif Nat.beq te.sz re.sz then within n (List.length xs) (.ret (.sptr te (List.getD xs (Int.toNat n) te.dft))) else .fail
    | .al id p s (.sl true e te) => bif Nat.beq te.sz re.sz then withR id s (depth p + 1) true fun r => match getV r.v p with
      | some ⟨.sl true _ _, xs⟩ => within n (List.length xs) (.ret (.ptr id (p ++ [.idx (Int.toNat n)]) r.log.length))
      | _ => .fail else .fail
    | .cut id p s (.sl true e te) lo m => bif Nat.beq te.sz re.sz then withR id s (depth p + 1) true fun r => within n m (.ret (.ptr id (p ++ [.idx (lo + Int.toNat n)]) r.log.length)) else .fail
    | _ => .fail
  | _, _ => .fail
def lenP (row : TRow) (x : AV) : Prog AV := match x with
  | .sh (.sl _ _ _) xs => bif !row.ty.agg && (elemSz row).isSome then .ret (.sh (.int .i64) ((List.length xs : Nat) : Int)) else .fail
  | .nilsl => bif (elemSz row).isSome then .ret (.sh (.int .i64) 0) else .fail
  | .sh .str b => bif decide (row.ty = .str) then .ret (.sh (.int .i64) (((b : ByteArray).size : Nat) : Int)) else .fail
  | .al id p s (.sl true e te) => bif (elemSz row).isSome then withR id s (depth p + 1) true fun r => match getV r.v p with
    | some ⟨.sl true _ _, xs⟩ => .ret (.sh (.int .i64) ((List.length xs : Nat) : Int))
    | _ => .fail else .fail
  | .cut id p s _ lo m => bif (elemSz row).isSome then withR id s (depth p + 1) true fun r => .ret (.sh (.int .i64) (m : Int)) else .fail
  | _ => .fail

section
variable {C : Ctx} {st : St} {D : Nat → DRoot} {Sh : Nat → Prop} {F : List DV} {a : Act} {w w' : World} {T : List (TypeId × TRow)}

theorem avl_nth {R : Nat → Option Root} : ∀ {c : AV} {vs : List Value} {i : Nat} {x : AV}, AVL w Sh R D c vs → nthA c i = some x → ∃ v, vs[i]? = some v ∧ AVR w Sh R D x v
  | .consf a b, vs, 0, x, h, hi => by
    obtain ⟨v, vs', rfl, h0, h1⟩ := h
    cases hi
    exact ⟨v, rfl, avr_of_avs h0⟩
  | .consf a b, vs, i + 1, x, h, hi => by
    obtain ⟨v, vs', rfl, h0, h1⟩ := h
    obtain ⟨v', e1, e2⟩ := avl_nth (c := b) (vs := vs') (i := i) h1 hi
    exact ⟨v', by simpa using e1, e2⟩
  | .any, vs, i, x, h, hi | .sh _ _, vs, i, x, h, hi | .nilsl, vs, i, x, h, hi | .al _ _ _ _, vs, i, x, h, hi | .cut _ _ _ _ _ _, vs, i, x, h, hi | .nilf, vs, i, x, h, hi | .ptr _ _ _, vs, i, x, h, hi | .sptr _ _, vs, i, x, h, hi | .fn _ _, vs, i, x, h, hi | .tup _, vs, i, x, h, hi => by simp only [nthA] at hi; cases hi
theorem sound_extract {o : Oper} {x : Operand} {i : Nat} (ho : o.op = .extract x i) (hd : dstOk C.n o.dst = true) {av : AV} (h : (extractP (evalA st.tmps x) i).go st.roots = some av) : Sound C o st ⟨av, []⟩ := by
  refine sound_quiet hd (fun D Sh a w hR => ?_)
  have hx := hR.eval x
  unfold extractP at h
  split at h
  · rename_i c hc
    rw [hc] at hx
    obtain ⟨vs, hv, hl⟩ := hx
    cases hn : nthA c i with
    | none => rw [hn] at h; cases h
    | some y =>
      rw [hn] at h; cases h
      obtain ⟨v, h1, h2⟩ := avl_nth hl hn
      exact ⟨v, by simp only [execOp, ho, hv, Instr.extract, List.getElem?_toArray, h1, Sem.run_bind, Sem.run_pure, Result.andThen_ok], h2⟩
  · cases h

theorem within_go {α : Type} {i : Int} {n : Nat} {k : Prog α} {R : Nat → Option Root} {x : α} (h : (within i n k).go R = some x) : 0 ≤ i ∧ i < n ∧ k.go R = some x := by
  unfold within at h
  simp only [Prog.go] at h
  cases h1 : inb i n with
  | false => rw [h1] at h; cases h
  | true =>
    rw [h1] at h
    simp only [inb, Bool.and_eq_true, decide_eq_true_eq] at h1
    exact ⟨h1.1, h1.2, h⟩
theorem RowOK.elem {P : Program} {t : TypeId} {r : TRow} (h : RowOK P T t r) {e : TypeId} {te : Ty} (he : elemSz r = some (e, te)) : P.underlying t = some (.slice e) ∧ (∃ re, tget T e = some re ∧ re.ty = te) ∧ te.sz ≠ 0 ∧ te.plain = true := by
  have d := h.desc
  unfold elemSz at he
  unfold DescOK at d
  split at he
  · rename_i hty
    cases he
    rw [hty] at d
    obtain ⟨_, h1, re, h2, h3, h4, h5⟩ := d
    exact ⟨h1, ⟨re, h2, h3⟩, h4, h5⟩
  · cases he
/-- The slice that a slot holds, own. -/
theorem al_slice {R : Nat → Option Root} {id : Nat} {p : Path} {s : Nat} {e : TypeId} {te : Ty} {v : Value} {r : Root} (h : AVR w Sh R D (.al id p s (.sl true e te)) v) (hr : R id = some r) (hs : since r.log s (depth p + 1) true = true) :
    ∃ b A c ds, lookD (D id).dv (D id).base p = some (b, ⟨.sl true e te, ((A, c), ds)⟩) ∧ v = .slice A ds.length c := by
  obtain ⟨cs, ⟨_, r', hr', _, hal⟩, rfl⟩ := h
  rw [hr] at hr'; cases hr'
  obtain ⟨b, ⟨t, d⟩, hl, ht, rfl⟩ := hal hs
  cases ht
  obtain ⟨⟨A, c⟩, ds⟩ := d
  exact ⟨b, A, c, ds, hl, rfl⟩
theorem own_some {e : TypeId} {te : Ty} {A : Option Addr} {c : Nat} {ds : List te.dec} (hok : DV.OK w Sh ⟨.sl true e te, ((A, c), ds)⟩) {i : Nat} (hi : i < ds.length) : ∃ k o, A = some ⟨k, o, none⟩ := by
  rcases hok with ⟨h1, h2⟩ | ⟨b, o, row, hA, _⟩
  · have h2 : ds = [] := h2
    subst h2; cases hi
  · exact ⟨b, o, hA⟩
theorem sound_indexAddr (hT : TabOK C.P T) {o : Oper} {t : TypeId} {x i : Operand} (ho : o.op = .indexAddr t x i) {row : TRow} (hrow : tget T t = some row) {av : AV} (hd : dstOk C.n o.dst = true)
    (h : (indexAddrP row (evalA st.tmps x) (evalA st.tmps i)).go st.roots = some av) : Sound C o st ⟨av, []⟩ := by
  refine sound_quiet hd (fun D Sh a w hR => ?_)
  have hx := hR.eval x
  have hi := hR.eval i
  unfold indexAddrP at h
  split at h
  case h_2 => cases h
  rename_i e0 re k n he hin
  rw [hin] at hi
  have hiv := avr_int hi
  obtain ⟨hu, ⟨rre, hre1, hre2⟩, hre3, _⟩ := (hT t row hrow).elem he
  have hsz := (hT _ _ hre1).sizeOf w
  rw [hre2] at hsz
  have hex : ∀ (b o' m c : Nat), a.eval x = .slice (some ⟨b, o', none⟩) m c → 0 ≤ n → n < (m : Int) → (execOp a.eval o).run C.P w = .ok (.value (.pointer (some ⟨b, o' + n.toNat * re.sz, none⟩))) w := by
    intro b o' m c hxv h0 h1
    simp only [execOp, ho, Instr.indexAt, hxv, hiv, asIntOf, Sem.run_bind, Sem.run_pure, Result.andThen_ok, run_underlying hu, hsz, add_at, if_pos (And.intro h0 h1)]
  split at h
  · rename_i oo e te xs hxs
    rw [hxs] at hx
    cases hb : Nat.beq te.sz re.sz with
    | false => rw [hb] at h; cases h
    | true =>
      rw [hb] at h
      have hte := Nat.eq_of_beq_eq_true hb
      obtain ⟨h0, h1, h⟩ := within_go h
      cases h
      obtain ⟨cs, ⟨A, c, rfl, hl, hm, hr⟩, hv⟩ := hx
      have hlt : n.toNat < List.length xs := by omega
      obtain ⟨b, o', rfl, hbs, cc, hRR, hc⟩ := hr n.toNat _ (List.getElem?_eq_getElem hlt)
      refine ⟨_, hex b o' _ c hv h0 h1, ⟨_, ⟨b, o' + n.toNat * re.sz, cc, rfl, hbs, ?_, fun j u hj => ?_⟩, rfl⟩⟩
      · rw [List.getD_eq_getElem?_getD, List.getElem?_eq_getElem hlt]; exact hRR
      · rw [← hte]; exact hc j u hj
  · rename_i id p s e te hxs
    rw [hxs] at hx
    cases hb : Nat.beq te.sz re.sz with
    | false => rw [hb] at h; cases h
    | true =>
      rw [hb] at h
      have hte := Nat.eq_of_beq_eq_true hb
      obtain ⟨r, hr1, hs1, hs2, h⟩ := withR_go h
      obtain ⟨b, A, c, ds, hl, hv⟩ := al_slice hx hr1 hs2
      obtain ⟨hgv, hok, _⟩ := hR.look hr1 hl
      simp only [hgv] at h
      obtain ⟨h0, h1, h⟩ := within_go h
      cases h
      have hlen : (Ty.er (.sl true e te) ((A, c), ds)).length = ds.length := by simp only [Ty.er, List.length_map]
      have h0' : (0 : Int) ≤ (n : Int) := h0
      have h1' : (n : Int) < (ds.length : Int) := by rw [← hlen]; exact h1
      have hlt : Int.toNat n < ds.length := (Int.toNat_lt h0').2 h1'
      obtain ⟨k', o', rfl⟩ := own_some hok hlt
      refine ⟨_, hex k' o' _ c hv h0 h1', mk_ptr (u := ⟨te, ds[n.toNat]⟩) hr1 ?_⟩
      rw [lookD_append, hl]
      simp only [lookD, List.getElem?_eq_getElem hlt, hte]
  · rename_i id p s e te lo m hxs
    rw [hxs] at hx
    cases hb : Nat.beq te.sz re.sz with
    | false => rw [hb] at h; cases h
    | true =>
      rw [hb] at h
      have hte := Nat.eq_of_beq_eq_true hb
      obtain ⟨r, hr1, hs1, hs2, h⟩ := withR_go h
      obtain ⟨h0, h1, h⟩ := within_go h
      cases h
      obtain ⟨cs, ⟨r', hr', _, hcut⟩, hv⟩ := hx
      rw [hr1] at hr'; cases hr'
      obtain ⟨b, e2, te2, A, c, ds, htt, hl, hlm, A', rfl, hA⟩ := hcut hs2
      cases htt
      have hlt : lo + n.toNat < ds.length := by omega
      rcases hA with hA | ⟨k', o', rfl, rfl⟩
      · omega
      · have hp := hex k' (o' + lo * te.sz) m (c - lo) hv h0 h1
        rw [show o' + lo * te.sz + n.toNat * re.sz = o' + (lo + n.toNat) * te.sz by rw [hte, Nat.add_mul]; omega] at hp
        refine ⟨_, hp, mk_ptr (u := ⟨te, ds[lo + n.toNat]⟩) hr1 ?_⟩
        rw [lookD_append, hl]
        simp only [lookD, List.getElem?_eq_getElem hlt]
  · cases h

theorem run_len {P : Program} {t : TypeId} {ty : TypeId} {o : Oper} {x : Operand} (ho : o.op = .call { callee := .builtin .len, args := #[x], argTypes := #[t] }) {a : Act} {w : World} {n : Nat}
    (h : (∃ e A c, P.underlying t = some (.slice e) ∧ a.eval x = .slice A n c) ∨ (∃ b : ByteArray, P.underlying t = some .string ∧ a.eval x = .string b ∧ n = b.size)) : (execOp a.eval o).run P w = .ok (.value (.int .i64 n)) w := by
  rcases h with ⟨e, A, c, hu, hx⟩ | ⟨b, hu, hx, rfl⟩
  · simp [execOp, ho, resolve, invoke, builtin, Builtin.len_, hx, run_underlying hu, goInt]
  · simp [execOp, ho, resolve, invoke, builtin, Builtin.len_, hx, run_underlying hu, goInt]
theorem sound_len (hT : TabOK C.P T) {o : Oper} {t : TypeId} {x : Operand} (ho : o.op = .call { callee := .builtin .len, args := #[x], argTypes := #[t] }) {row : TRow} (hrow : tget T t = some row) {av : AV} (hd : dstOk C.n o.dst = true)
    (h : (lenP row (evalA st.tmps x)).go st.roots = some av) : Sound C o st ⟨av, []⟩ := by
  refine sound_quiet hd (fun D Sh a w hR => ?_)
  have hx := hR.eval x
  have hsl : (elemSz row).isSome = true → ∃ e, C.P.underlying t = some (.slice e) := by
    intro hs
    cases he : elemSz row with
    | none => rw [he] at hs; cases hs
    | some z => exact ⟨_, ((hT t row hrow).elem he).1⟩
  unfold lenP at h
  split at h
  · rename_i oo e te xs hxs
    rw [hxs] at hx
    cases hb : (!row.ty.agg && (elemSz row).isSome) with
    | false => rw [hb] at h; cases h
    | true =>
      rw [hb] at h; cases h
      rw [Bool.and_eq_true] at hb
      obtain ⟨e', hu⟩ := hsl hb.2
      obtain ⟨cs, ⟨A, c, rfl, _⟩, hv⟩ := hx
      exact ⟨_, run_len (ty := 0) ho (.inl ⟨e', A, c, hu, hv⟩), mk_int _ _⟩
  · rename_i hxs
    rw [hxs] at hx
    cases hb : (elemSz row).isSome with
    | false => rw [hb] at h; cases h
    | true =>
      rw [hb] at h; cases h
      obtain ⟨e', hu⟩ := hsl hb
      obtain ⟨cs, rfl, hv⟩ := hx
      exact ⟨_, run_len (ty := 0) (n := 0) ho (.inl ⟨e', none, 0, hu, hv⟩), mk_int _ _⟩
  · rename_i b hxs
    rw [hxs] at hx
    cases hb : decide (row.ty = .str) with
    | false => rw [hb] at h; cases h
    | true =>
      rw [hb] at h; cases h
      have hty := of_decide_eq_true hb
      have d := (hT t row hrow).desc
      unfold DescOK at d
      rw [hty] at d
      exact ⟨_, run_len (ty := 0) ho (.inr ⟨b, d, avr_str hx, rfl⟩), mk_int _ _⟩
  · rename_i id p s e te hxs
    rw [hxs] at hx
    cases hb : (elemSz row).isSome with
    | false => rw [hb] at h; cases h
    | true =>
      rw [hb] at h
      obtain ⟨e', hu⟩ := hsl hb
      obtain ⟨r, hr1, hs1, hs2, h⟩ := withR_go h
      obtain ⟨b, A, c, ds, hl, hv⟩ := al_slice hx hr1 hs2
      obtain ⟨hgv, hok, _⟩ := hR.look hr1 hl
      simp only [hgv] at h
      cases h
      have hlen : (Ty.er (.sl true e te) ((A, c), ds)).length = ds.length := by simp only [Ty.er, List.length_map]
      refine ⟨_, run_len (ty := 0) ho (.inl ⟨e', A, c, hu, hv⟩), ?_⟩
      show AVR w Sh st.roots D (.sh (.int .i64) (((Ty.er (.sl true e te) ((A, c), ds)).length : Nat) : Int)) _
      rw [hlen]; exact mk_int _ _
  · rename_i id p s tt lo m hxs
    rw [hxs] at hx
    cases hb : (elemSz row).isSome with
    | false => rw [hb] at h; cases h
    | true =>
      rw [hb] at h
      obtain ⟨r, hr1, hs1, hs2, h⟩ := withR_go h
      cases h
      obtain ⟨e', hu⟩ := hsl hb
      obtain ⟨cs, ⟨r', hr', _, hcut⟩, hv⟩ := hx
      rw [hr1] at hr'; cases hr'
      obtain ⟨b, e2, te2, A, c, ds, htt, hl, hlm, A', rfl, hA⟩ := hcut hs2
      exact ⟨_, run_len (ty := 0) ho (.inl ⟨e', A', c - lo, hu, hv⟩), mk_int _ _⟩
  · cases h
end
end Go.Proofs.Ytabjfkongckhaaa.Vm
