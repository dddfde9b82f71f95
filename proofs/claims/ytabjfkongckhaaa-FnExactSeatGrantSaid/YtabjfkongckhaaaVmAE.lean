/- Operations: append, joined; slices written out. -/
import Derived.Test.YtabjfkongckhaaaVmAD
namespace Go.Proofs.Ytabjfkongckhaaa.Vm
open Go Go.RowKit
set_option linter.unusedVariables false

theorem choose_idx {α β : Type} : ∀ {P : Nat → α → β → Prop} (l : List α), (∀ i a, l[i]? = some a → ∃ b, P i a b) → ∃ l' : List β, l'.length = l.length ∧ ∀ (i : Nat) (a : α) (b : β), l[i]? = some a → l'[i]? = some b → P i a b
  | P, [], _ => ⟨[], rfl, fun i a b h => by cases h⟩
  | P, x :: l, h => by
    obtain ⟨y, hy⟩ := h 0 x rfl
    obtain ⟨l', h1, h2⟩ := choose_idx (P := fun i => P (i + 1)) l (fun i a ha => h (i + 1) a (by simpa using ha))
    refine ⟨y :: l', by simp [h1], fun i a b ha hb => ?_⟩
    cases i with
    | zero => simp only [List.getElem?_cons_zero, Option.some.injEq] at ha hb; subst ha; subst hb; exact hy
    | succ i => exact h2 i a b (by simpa using ha) (by simpa using hb)
theorem map_of {α β : Type} {f : β → α} {l : List α} {l' : List β} (hl : l'.length = l.length) (h : ∀ (i : Nat) (a : α) (b : β), l[i]? = some a → l'[i]? = some b → f b = a) : l'.map f = l := by
  refine List.ext_getElem? fun i => ?_
  rw [List.getElem?_map]
  cases ha : l[i]? with
  | none =>
    have : l'[i]? = none := by rw [List.getElem?_eq_none_iff] at ha ⊢; omega
    rw [this]; rfl
  | some a =>
    have hlt : i < l'.length := by have := (List.getElem?_eq_some_iff.1 ha).1; omega
    have hb : l'[i]? = some l'[i] := List.getElem?_eq_getElem hlt
    rw [hb, Option.map_some, h i a _ ha hb]
theorem flat_bytes : ∀ l : List UInt8, flatC (.int .u8) ((l.map fun c => ((c.toNat : Nat) : Int)) : List Int) = l.map fun b => Value.int .u8 b.toNat
  | [] => rfl
  | c :: l => by
    show Value.int .u8 ((c.toNat : Nat) : Int) :: flatC (.int .u8) ((l.map fun c => ((c.toNat : Nat) : Int)) : List Int) = _
    rw [flat_bytes l]; rfl
section
variable {C : Ctx} {st : St} {D : Nat → DRoot} {Sh : Nat → Prop} {F : List DV} {a : Act} {w : World} {T : Nat → AV} {R : Nat → Option Root} {o : Oper}
/-- Shared rows, as elements in hand. -/
theorem rr_src {ob : Bool} {e : TypeId} {t : Ty} {xs : List t.den} {A : Option Addr} {c : Nat} (hp : t.plain = true) (hz : t.sz ≠ 0) (hRR : Ty.RR w Sh (.sl ob e t) xs [.slice A xs.length c]) (hF : RelF C st D Sh F a w) :
    ∃ es : List t.dec, es.map t.er = xs ∧ RelF C st D Sh (eHand t es ++ F) a w ∧ ∀ (P : Program) (tx : TypeId), Kind P tx → Src P t.sz tx (.slice A xs.length c) es.length (flatC t es) w := by
  obtain ⟨A0, c0, hc, h1, h2, h3⟩ := hRR
  simp only [List.cons.injEq, Value.slice.injEq, and_true] at hc
  obtain ⟨rfl, _, rfl⟩ := hc
  obtain ⟨es, l1, l2⟩ := choose_idx (P := fun i (x : t.den) (d : t.dec) => t.er d = x ∧ t.OK w Sh d ∧ t.foot d = [] ∧ ∃ b o, A = some ⟨b, o, none⟩ ∧ ∀ j v, (t.cs d)[j]? = some v → w.cell? ⟨b, o + i * t.sz + j, none⟩ = some v) xs (fun i x hx => by
    obtain ⟨b, o, hA, _, cc, hR, hcell⟩ := h3 i x hx
    obtain ⟨d, d1, d2, d3, d4⟩ := Ty.RR_dec hp hR
    exact ⟨d, d1, d3, d4, b, o, hA, by rw [d2]; exact hcell⟩)
  have hel : ∀ i d, es[i]? = some d → t.OK w Sh d ∧ t.foot d = [] ∧ ∃ b o, A = some ⟨b, o, none⟩ ∧ ∀ j v, (t.cs d)[j]? = some v → w.cell? ⟨b, o + i * t.sz + j, none⟩ = some v := by
    intro i d hi
    have hlt : i < xs.length := by have := (List.getElem?_eq_some_iff.1 hi).1; omega
    exact (l2 i _ d (List.getElem?_eq_getElem hlt) hi).2
  have hF' : RelF C st D Sh (eHand t es ++ F) a w := RelF.frees (fun d hd => by
    obtain ⟨i, hi⟩ := List.mem_iff_getElem?.1 hd
    exact ⟨(hel i d hi).1, (hel i d hi).2.1⟩) hF
  refine ⟨es, map_of l1 (fun i x d hx hd => (l2 i x d hx hd).1), hF', fun P tx hk => ?_⟩
  rw [← l1]
  exact src_of hk hz (fun i d hi => (hel i d hi).2.2) (el_one (fun v hv => hF'.fok v (List.mem_append_left _ hv)))
theorem srcP_ok {te : Ty} {y : AV} {ws ws' : Writes} {e2 : TypeId} {t2 : Ty} {ys : List t2.den} (h : (srcP te y ws).go R = some (⟨.sl true e2 t2, ys⟩, ws')) (hz : t2.sz ≠ 0) (hF : RelF C ⟨T, app ws R⟩ D Sh F a w) {v : Value} (hv : AVR w Sh (app ws R) D y v) :
    ∃ (D' : Nat → DRoot) (Sh' : Nat → Prop) (es : List t2.dec), es.map t2.er = ys ∧ (∀ b, Sh b → Sh' b) ∧ Keeps w w Sh Sh' (app ws R) (app ws' R) D D' ∧ RelF C ⟨T, app ws' R⟩ D' Sh' (eHand t2 es ++ F) a w ∧
      ∀ (P : Program) (tx : TypeId), Kind P tx → Src P t2.sz tx v es.length (flatC t2 es) w := by
  unfold srcP at h
  split at h
  · rename_i o e t xs
    cases hp : (Ty.sl o e t).plain with
    | false => rw [hp] at h; cases h
    | true =>
      rw [hp] at h
      cases h
      simp only [Ty.plain, Bool.and_eq_true] at hp
      obtain ⟨cs, hc, hvv⟩ := hv
      have hc' : Ty.RR w Sh (.sl o e2 t2) ys cs := hc
      obtain ⟨A, c, rfl, _⟩ := hc
      obtain ⟨es, g1, g2, g3⟩ := rr_src hp.2 hz hc' hF
      have hvv : v = .slice A (List.length ys) c := hvv
      rw [hvv]
      exact ⟨D, Sh, es, g1, fun _ h => h, Keeps.grow (fun _ _ => rfl), g2, g3⟩
  · cases h
    obtain ⟨cs, hc, hvv⟩ := hv
    cases hc
    have hvv : v = .slice none 0 0 := hvv
    rw [hvv]
    refine ⟨D, Sh, [], rfl, fun _ h => h, Keeps.grow (fun _ _ => rfl), hF, fun P tx hk => ?_⟩
    exact src_of (es := []) hk hz (fun i d hi => by cases hi) (fun u hu => by cases hu)
  · rename_i id p s o e t
    have hk := takeP_take h
    obtain ⟨cs, hc, hvv⟩ := hv
    obtain ⟨D', z, hz', hcs, hl, hg, K, F'⟩ := take_ok hk hF hc
    obtain ⟨zt, zd⟩ := z
    have hz' : (⟨zt, zt.er zd⟩ : V) = ⟨.sl true e2 t2, ys⟩ := hz'
    have hzt : zt = .sl true e2 t2 := congrArg V.t hz'
    subst hzt
    have hz' : (⟨.sl true e2 t2, (Ty.sl true e2 t2).er zd⟩ : V) = ⟨.sl true e2 t2, ys⟩ := hz'
    cases hz'
    obtain ⟨⟨A, c⟩, ds⟩ := zd
    have hvv2 : v = .slice A ds.length c := by
      rw [hvv, ← hcs]; rfl
    rw [hvv2]
    exact ⟨D', Sh, ds, rfl, fun _ h => h, K, F'.open, fun P tx hk => src_own hk hz (F'.fok ⟨.sl true e2 t2, ((A, c), ds)⟩ (by simp))⟩
  · rename_i id p s o' e' t0 lo n
    simp only [getR_go] at h
    cases hr : app ws R id with
    | none => rw [hr] at h; cases h
    | some r =>
      rw [hr] at h
      simp only at h
      cases hok : okR r s (depth p + 1) true with
      | false => rw [hok] at h; cases h
      | true =>
        rw [hok] at h
        simp only [cond_true] at h
        split at h
        case h_2 => cases h
        rename_i e t' xs hgv
        cases hfl : t'.flat with
        | true =>
          rw [hfl] at h
          simp only [cond_true] at h
          cases h
          obtain ⟨b, e1, te1, A, c, ds, A', htt, hl, hlm, hvv, hA⟩ := cut_look hv hr (okR_spec hok).2
          obtain ⟨hg, huok, _⟩ := hF.rel.look hr hl
          rw [hgv] at hg
          have hg : some (⟨.sl true e2 t2, xs⟩ : V) = some ⟨.sl true e1 te1, ds.map te1.er⟩ := hg
          cases hg
          have hpl : t2.plain = true := flat_plain hfl
          have hel : ∀ i d, ((ds.drop lo).take n)[i]? = some d → i < n ∧ ds[lo + i]? = some d := by
            intro i d hi
            rw [List.getElem?_take] at hi
            split at hi
            case isFalse => cases hi
            rename_i hlt
            rw [List.getElem?_drop] at hi
            exact ⟨hlt, hi⟩
          have hF' : RelF C ⟨T, app ws R⟩ D Sh (eHand t2 ((ds.drop lo).take n) ++ F) a w := RelF.frees (fun d hd => by
            obtain ⟨i, hi⟩ := List.mem_iff_getElem?.1 hd
            refine ⟨?_, Ty.plain_foot d hpl⟩
            rcases huok with ⟨_, hn⟩ | ⟨b, o, row, _, _, _, _, _, hx⟩
            · have hn : ds = [] := hn
              have := (hel i d hi).2
              rw [hn] at this; cases this
            · exact (hx _ d (hel i d hi).2).1) hF
          have hlen : ((ds.drop lo).take n).length = n := by rw [List.length_take, List.length_drop]; omega
          refine ⟨D, Sh, (ds.drop lo).take n, by rw [List.map_take, List.map_drop], fun _ h => h, Keeps.grow (fun _ _ => rfl), hF', fun P tx hk => ?_⟩
          rw [hvv]
          have := src_of (P := P) (tx := tx) (w := w) (A := A') (c := c - lo) (es := (ds.drop lo).take n) hk hz (fun i d hi => by
            obtain ⟨g1, g2⟩ := hel i d hi
            rcases hA with hA | ⟨k, o, hA, rfl⟩
            · omega
            · refine ⟨k, _, rfl, fun j v hj => ?_⟩
              rcases huok with ⟨_, hn⟩ | ⟨b', o'', row, hA2, hrow, _, _, _, hx⟩
              · have hn : ds = [] := hn
                rw [hn] at g2; cases g2
              · have hA2 : A = some ⟨b', o'', none⟩ := hA2
                rw [hA] at hA2; cases hA2
                rw [hrow.cell]
                have := (hx _ d g2).2 j v hj
                rw [show o + lo * t2.sz + i * t2.sz + j = o + (lo + i) * t2.sz + j by rw [Nat.add_mul]; omega]
                exact this) (el_one (fun v hv => hF'.fok v (List.mem_append_left _ hv)))
          rw [hlen] at this ⊢
          exact this
        | false =>
          rw [hfl] at h
          simp only [cond_false, Prog.go_bind] at h
          cases hq : (takeQ (.sl o' e' t0) (.cut id p s (.sl o' e' t0) lo n) ws).go R with
          | none => rw [hq] at h; cases h
          | some q =>
            obtain ⟨u, ws1⟩ := q
            rw [hq] at h
            simp only at h
            split at h
            case h_2 => cases h
            rename_i e3 t3 ys3
            cases hpl : t3.plain with
            | false => rw [hpl] at h; cases h
            | true =>
              rw [hpl] at h
              cases h
              obtain ⟨D1, Sh1, z, hzz, hvv, _, s1, K1, F1⟩ := takeQ_ok hq hF hv
              obtain ⟨zt, zd⟩ := z
              have hzt : zt = .sl false e2 t2 := congrArg V.t hzz
              subst hzt
              have hzz : (⟨.sl false e2 t2, zd.2⟩ : V) = ⟨.sl false e2 t2, ys⟩ := hzz
              cases hzz
              obtain ⟨⟨A, c⟩, xs3⟩ := zd
              have hRR : Ty.RR w Sh1 (.sl false e2 t2) xs3 [.slice A xs3.length c] := F1.fok ⟨.sl false e2 t2, ((A, c), xs3)⟩ (by simp)
              obtain ⟨es, g1, g2, g3⟩ := rr_src hpl hz hRR F1.drop
              have hvv : v = .slice A (List.length xs3) c := hvv
              rw [hvv]
              exact ⟨D1, Sh1, es, g1, s1, K1, g2, g3⟩
  · rename_i b
    cases h
    have e := avr_str hv
    subst e
    have hsz : b.size = (bytesL b).length := by
      unfold bytesL
      rw [List.length_map, Array.length_toList]; rfl
    have hfl : flatC (.int .u8) (bytesL b) = byteCells b := by
      exact flat_bytes b.data.toList
    refine ⟨D, Sh, bytesL b, List.map_id _, fun _ h => h, Keeps.grow (fun _ _ => rfl), RelF.frees (fun d _ => ⟨trivial, rfl⟩) hF, fun P tx hk => ?_⟩
    show Src P 1 tx (.string b) (bytesL b).length (flatC (.int .u8) (bytesL b)) w
    rw [hfl, ← hsz]
    exact ⟨hk, fun _ => rfl, firstCells_string b w, firstCells_string b w.drew, by rw [byteCells_length, Nat.mul_one], fun u hu => by
      obtain ⟨_, _, rfl⟩ := List.mem_map.1 hu
      rfl⟩
  · cases h
end
end Go.Proofs.Ytabjfkongckhaaa.Vm
