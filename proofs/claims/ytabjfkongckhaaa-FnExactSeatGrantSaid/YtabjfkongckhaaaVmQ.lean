/- Lowering: what was own is shared from now on, at some places; values taken so. -/
import Derived.Test.YtabjfkongckhaaaVmP
namespace Go.Proofs.Ytabjfkongckhaaa.Vm
open Go Go.RowKit
set_option linter.unusedVariables false

namespace Ty
theorem shr_shr : ∀ t : Ty, t.shr.shr = t.shr
  | .int _ | .bool | .str | .hole | .nil => rfl
  | .sl _ e t => by simp only [shr, shr_shr t]
  | .cons a r => by simp only [shr, shr_shr a, shr_shr r]
end Ty
theorem lowB_shr : ∀ {t t' : Ty}, lowB t t' = true → t.shr = t'.shr
  | .sl o e t, .sl o' e' t', h => by
    simp only [lowB, Bool.and_eq_true] at h
    obtain ⟨h1, h2⟩ := h
    have he := Nat.eq_of_beq_eq_true h1
    subst he
    cases o' with
    | true =>
      simp only [Bool.and_eq_true] at h2
      simp only [Ty.shr, lowB_shr h2.2]
    | false =>
      have h2 := of_decide_eq_true h2
      subst h2
      simp only [Ty.shr, Ty.shr_shr]
  | .cons a r, .cons a' r', h => by
    simp only [lowB, Bool.and_eq_true] at h
    simp only [Ty.shr, lowB_shr h.1, lowB_shr h.2]
  | .int _, t', h | .bool, t', h | .str, t', h | .hole, t', h | .nil, t', h => by
    have h : decide (_ = t') = true := h
    rw [← of_decide_eq_true h]
  | .sl _ _ _, .int _, h | .sl _ _ _, .bool, h | .sl _ _ _, .str, h | .sl _ _ _, .hole, h | .sl _ _ _, .nil, h | .sl _ _ _, .cons _ _, h => by
    have h := of_decide_eq_true (show decide (_ = _) = true from h); cases h
  | .cons _ _, .int _, h | .cons _ _, .bool, h | .cons _ _, .str, h | .cons _ _, .hole, h | .cons _ _, .nil, h | .cons _ _, .sl _ _ _, h => by
    have h := of_decide_eq_true (show decide (_ = _) = true from h); cases h
theorem lowB_refl : ∀ (t : Ty), (∀ e u, t ≠ .sl false e u) → True := fun _ _ => trivial

theorem choose_list {α β : Type} {P : α → β → Prop} : ∀ (l : List α), (∀ a ∈ l, ∃ b, P a b) → ∃ l' : List β, l'.length = l.length ∧ ∀ (i : Nat) (a : α) (b : β), l[i]? = some a → l'[i]? = some b → P a b
  | [], _ => ⟨[], rfl, fun i a b h => by cases h⟩
  | x :: l, h => by
    obtain ⟨y, hy⟩ := h x (by simp)
    obtain ⟨l', h1, h2⟩ := choose_list l (fun a ha => h a (by simp [ha]))
    refine ⟨y :: l', by simp [h1], fun i a b ha hb => ?_⟩
    cases i with
    | zero => simp only [List.getElem?_cons_zero, Option.some.injEq] at ha hb; subst ha; subst hb; exact hy
    | succ i => exact h2 i a b (by simpa using ha) (by simpa using hb)
theorem foot_list {α β : Type} {f : α → List Nat} {g : β → List Nat} : ∀ (l : List α) (l' : List β), l'.length = l.length → (∀ (i : Nat) (a : α) (b : β), l[i]? = some a → l'[i]? = some b → (∀ k ∈ g b, k ∈ f a) ∧ (g b).Nodup) → (l.flatMap f).Nodup →
    (l'.flatMap g).Nodup ∧ (∀ k ∈ l'.flatMap g, k ∈ l.flatMap f) ∧ ∀ (i : Nat) (a : α) (b : β), l[i]? = some a → l'[i]? = some b → ∀ k ∈ f a, k ∉ g b → k ∉ l'.flatMap g
  | [], [], _, _, _ => ⟨List.nodup_nil, (fun k h => by cases h), fun i a b h => by cases h⟩
  | [], y :: l', h, _, _ => by cases h
  | x :: l, [], h, _, _ => by cases h
  | x :: l, y :: l', hl, hp, hn => by
    have hn : (f x ++ l.flatMap f).Nodup := hn
    obtain ⟨n1, n2, n3⟩ := List.nodup_append.1 hn
    obtain ⟨h1, h2⟩ := hp 0 x y rfl rfl
    obtain ⟨i1, i2, i3⟩ := foot_list l l' (by simpa using hl) (fun i a b ha hb => hp (i + 1) a b (by simpa using ha) (by simpa using hb)) n2
    refine ⟨?_, fun k hk => ?_, fun i a b ha hb k hk hg => ?_⟩
    · show (g y ++ l'.flatMap g).Nodup
      exact List.nodup_append.2 ⟨h2, i1, fun k hk m hm => n3 k (h1 k hk) m (i2 m hm)⟩
    · have hk : k ∈ g y ++ l'.flatMap g := hk
      show k ∈ f x ++ l.flatMap f
      rcases List.mem_append.1 hk with hk | hk
      · exact List.mem_append_left _ (h1 k hk)
      · exact List.mem_append_right _ (i2 k hk)
    · show k ∉ g y ++ l'.flatMap g
      cases i with
      | zero =>
        simp only [List.getElem?_cons_zero, Option.some.injEq] at ha hb
        subst ha; subst hb
        intro hm
        rcases List.mem_append.1 hm with hm | hm
        · exact hg hm
        · exact n3 k hk k (i2 k hm) rfl
      | succ i =>
        intro hm
        have ha : l[i]? = some a := by simpa using ha
        rcases List.mem_append.1 hm with hm | hm
        · exact n3 k (h1 k hm) k (List.mem_flatMap.2 ⟨a, List.mem_of_getElem? ha, hk⟩) rfl
        · exact i3 i a b ha (by simpa using hb) k hk hg hm

namespace Ty
/-- What is lowered: the same cells; the blocks of what stays own. -/
def Lows (w : World) (Sh : Nat → Prop) {t t' : Ty} (h : t.shr = t'.shr) (d : t.dec) (d' : t'.dec) : Prop :=
  t'.er d' = cast (den_same h) (t.er d) ∧ t'.cs d' = t.cs d ∧ (∀ b ∈ t'.foot d', b ∈ t.foot d) ∧ (t'.foot d').Nodup ∧
    ∀ Sh' : Nat → Prop, (∀ b, Sh b → Sh' b) → (∀ b ∈ t.foot d, b ∉ t'.foot d' → Sh' b) → OK w Sh' t' d'
theorem lows_refl {w : World} {Sh : Nat → Prop} {t : Ty} {d : t.dec} (h : OK w Sh t d) (hn : (t.foot d).Nodup) : Lows w Sh (rfl : t.shr = t.shr) d d :=
  ⟨rfl, rfl, fun _ hb => hb, hn, fun Sh' hs _ => OK_frame (fun _ _ => rfl) hs (fun _ _ => rfl) h⟩
theorem lower {w : World} {Sh : Nat → Prop} : ∀ {t t' : Ty} (h : lowB t t' = true) {d : t.dec}, OK w Sh t d → (t.foot d).Nodup → ∃ d' : t'.dec, Lows w Sh (lowB_shr h) d d'
  | .sl o e t, .sl o' e' t', h, x, hok, hn => by
    have h0 := h
    simp only [lowB, Bool.and_eq_true] at h
    obtain ⟨h1, h2⟩ := h
    have he := Nat.eq_of_beq_eq_true h1
    subst he
    cases o' with
    | true =>
      simp only [Bool.and_eq_true] at h2
      obtain ⟨ho, h2⟩ := h2
      subst ho
      obtain ⟨⟨A, c⟩, ds⟩ := x
      have hs : t.shr = t'.shr := lowB_shr h2
      have hnf : ((A.map (·.block)).toList ++ ds.flatMap t.foot).Nodup := hn
      obtain ⟨n1, n2, n3⟩ := List.nodup_append.1 hnf
      have hel : ∀ d ∈ ds, ∃ d' : t'.dec, Lows w Sh hs d d' := by
        intro d hd
        have hnd : (t.foot d).Nodup := by
          obtain ⟨i, hi⟩ := List.mem_iff_getElem?.1 hd
          obtain ⟨M1, M2, m1, _⟩ := flatMap_set t.foot ds i hi
          exact nodup_mid (m1 ▸ n2)
        rcases hok with ⟨_, hnil⟩ | ⟨b, off, row, hA, hb, hl, hm, hr, hx⟩
        · have hnil : ds = [] := hnil
          subst hnil; cases hd
        · obtain ⟨i, hi⟩ := List.mem_iff_getElem?.1 hd
          exact lower h2 (hx i d hi).1 hnd
      obtain ⟨ds', l1, l2⟩ := choose_list ds hel
      obtain ⟨f1, f2, f3⟩ := foot_list (f := t.foot) (g := t'.foot) ds ds' l1 (fun i a b ha hb => ⟨(l2 i a b ha hb).2.2.1, (l2 i a b ha hb).2.2.2.1⟩) n2
      refine ⟨((A, c), ds'), ?_, ?_, fun b hb => ?_, ?_, fun Sh' hS hf => ?_⟩
      · show ds'.map t'.er = cast _ (ds.map t.er)
        rw [cast_list (den_same hs), List.map_map]
        refine List.ext_getElem? fun i => ?_
        rw [List.getElem?_map, List.getElem?_map]
        cases ha : ds[i]? with
        | none =>
          have : ds'[i]? = none := by rw [List.getElem?_eq_none_iff] at ha ⊢; omega
          rw [this]; rfl
        | some a =>
          have hlt : i < ds'.length := by have := (List.getElem?_eq_some_iff.1 ha).1; omega
          have hb : ds'[i]? = some ds'[i] := List.getElem?_eq_getElem hlt
          rw [hb]
          simp only [Option.map_some, Function.comp]
          rw [(l2 i a _ ha hb).1]
      · show [Value.slice A ds'.length c] = [Value.slice A ds.length c]
        rw [l1]
      · have hb : b ∈ (A.map (·.block)).toList ++ ds'.flatMap t'.foot := hb
        show b ∈ (A.map (·.block)).toList ++ ds.flatMap t.foot
        rcases List.mem_append.1 hb with hb | hb
        · exact List.mem_append_left _ hb
        · exact List.mem_append_right _ (f2 b hb)
      · show ((A.map (·.block)).toList ++ ds'.flatMap t'.foot).Nodup
        exact List.nodup_append.2 ⟨n1, f1, fun a ha b hb => n3 a ha b (f2 b hb)⟩
      · have hf : ∀ b ∈ (A.map (·.block)).toList ++ ds.flatMap t.foot, b ∉ (A.map (·.block)).toList ++ ds'.flatMap t'.foot → Sh' b := hf
        rcases hok with ⟨h1', hnil⟩ | ⟨b, off, row, hA, hb, hl, hm, hr, hx⟩
        · have hnil : ds = [] := hnil
          subst hnil
          exact .inl ⟨h1', List.eq_nil_of_length_eq_zero l1⟩
        · refine .inr ⟨b, off, row, hA, hb, by show ds'.length ≤ c; rw [l1]; exact hl, hm, by rw [← sz_same hs]; exact hr, fun i d' hi => ?_⟩
          have hlt : i < ds.length := by have := (List.getElem?_eq_some_iff.1 hi).1; have : i < ds'.length := this; omega
          have ha : ds[i]? = some ds[i] := List.getElem?_eq_getElem hlt
          have L := l2 i _ d' ha hi
          refine ⟨L.2.2.2.2 Sh' hS (fun k hk hk' => hf k (List.mem_append_right _ (List.mem_flatMap.2 ⟨_, List.mem_of_getElem? ha, hk⟩)) (fun hm' => ?_)), ?_⟩
          · rcases List.mem_append.1 hm' with hm' | hm'
            · exact n3 k hm' k (List.mem_flatMap.2 ⟨_, List.mem_of_getElem? ha, hk⟩) rfl
            · exact f3 i _ d' ha hi k hk hk' hm'
          · rw [L.2.1, ← sz_same hs]; exact (hx i _ ha).2
    | false =>
      have h2 := of_decide_eq_true h2
      subst h2
      cases o with
      | false =>
        obtain ⟨⟨A, c⟩, ds⟩ := x
        refine ⟨((A, c), cast (congrArg List (den_shr t).symm) (ds : List t.den)), ?_, ?_, fun b hb => hb, List.nodup_nil, fun Sh' hS _ => ?_⟩
        · rfl
        · show [Value.slice A (cast (congrArg List (den_shr t).symm) (ds : List t.den)).length c] = [Value.slice A ds.length c]
          rw [cast_list (den_shr t).symm, List.length_map]
        · have hok : RR w Sh (.sl false e t) ds [.slice A ds.length c] := hok
          have h3 := RR_same (t' := .sl false e t.shr) (lowB_shr h0) (RR_mono (fun _ _ => rfl) hS hok)
          show RR w Sh' (.sl false e t.shr) (cast (congrArg List (den_shr t).symm) (ds : List t.den)) [.slice A (cast (congrArg List (den_shr t).symm) (ds : List t.den)).length c]
          have hlen : (cast (congrArg List (den_shr t).symm) (ds : List t.den)).length = ds.length := by rw [cast_list (den_shr t).symm, List.length_map]
          rw [hlen]
          exact h3
      | true =>
        obtain ⟨⟨A, c⟩, ds⟩ := x
        refine ⟨((A, c), cast (congrArg List (den_shr t).symm) (ds.map t.er)), ?_, ?_, fun b hb => (by cases hb), List.nodup_nil, fun Sh' hS hf => ?_⟩
        · rfl
        · show [Value.slice A (cast (congrArg List (den_shr t).symm) (ds.map t.er)).length c] = [Value.slice A ds.length c]
          rw [cast_list (den_shr t).symm, List.length_map, List.length_map]
        · have h2' := OK_RR (t := .sl true e t) (d := ((A, c), ds)) hS hok (fun b hb => hf b hb (fun hm => by cases hm))
          have h3 := RR_same (t' := .sl false e t.shr) (lowB_shr h0) h2'
          show RR w Sh' (.sl false e t.shr) (cast (congrArg List (den_shr t).symm) (ds.map t.er)) [.slice A (cast (congrArg List (den_shr t).symm) (ds.map t.er)).length c]
          have hlen : (cast (congrArg List (den_shr t).symm) (ds.map t.er)).length = ds.length := by rw [cast_list (den_shr t).symm, List.length_map, List.length_map]
          rw [hlen]
          exact h3
  | .cons a r, .cons a' r', h, x, hok, hn => by
    simp only [lowB, Bool.and_eq_true] at h
    have hnf : (a.foot x.1 ++ r.foot x.2).Nodup := hn
    obtain ⟨n1, n2, n3⟩ := List.nodup_append.1 hnf
    obtain ⟨d1, e1, c1, s1, m1, o1⟩ := lower h.1 hok.1 n1
    obtain ⟨d2, e2, c2, s2, m2, o2⟩ := lower h.2 hok.2 n2
    refine ⟨(d1, d2), ?_, ?_, fun b hb => ?_, ?_, fun Sh' hS hf => ⟨o1 Sh' hS (fun b hb hb' => ?_), o2 Sh' hS (fun b hb hb' => ?_)⟩⟩
    · show (a'.er d1, r'.er d2) = cast _ (a.er x.1, r.er x.2)
      rw [cast_prod (den_same (lowB_shr h.1)) (den_same (lowB_shr h.2)), e1, e2]
    · show a'.cs d1 ++ r'.cs d2 = a.cs x.1 ++ r.cs x.2
      rw [c1, c2]
    · rcases List.mem_append.1 (show b ∈ a'.foot d1 ++ r'.foot d2 from hb) with hb | hb
      · exact List.mem_append_left _ (s1 b hb)
      · exact List.mem_append_right _ (s2 b hb)
    · exact List.nodup_append.2 ⟨m1, m2, fun k hk m hm => n3 k (s1 k hk) m (s2 m hm)⟩
    · refine hf b (List.mem_append_left _ hb) (fun hm => ?_)
      rcases List.mem_append.1 (show b ∈ a'.foot d1 ++ r'.foot d2 from hm) with hm | hm
      · exact hb' hm
      · exact n3 b hb b (s2 b hm) rfl
    · refine hf b (List.mem_append_right _ hb) (fun hm => ?_)
      rcases List.mem_append.1 (show b ∈ a'.foot d1 ++ r'.foot d2 from hm) with hm | hm
      · exact n3 b (s1 b hm) b hb rfl
      · exact hb' hm
  | .int k, t', h, x, hok, hn => by
    have e : Ty.int k = t' := of_decide_eq_true h
    subst e; exact ⟨x, lows_refl hok hn⟩
  | .bool, t', h, x, hok, hn => by
    have e : Ty.bool = t' := of_decide_eq_true h
    subst e; exact ⟨x, lows_refl hok hn⟩
  | .str, t', h, x, hok, hn => by
    have e : Ty.str = t' := of_decide_eq_true h
    subst e; exact ⟨x, lows_refl hok hn⟩
  | .hole, t', h, x, hok, hn => by
    have e : Ty.hole = t' := of_decide_eq_true h
    subst e; exact ⟨x, lows_refl hok hn⟩
  | .nil, t', h, x, hok, hn => by
    have e : Ty.nil = t' := of_decide_eq_true h
    subst e; exact ⟨x, lows_refl hok hn⟩
  | .sl _ _ _, .int _, h, _, _, _ | .sl _ _ _, .bool, h, _, _, _ | .sl _ _ _, .str, h, _, _, _ | .sl _ _ _, .hole, h, _, _, _ | .sl _ _ _, .nil, h, _, _, _ | .sl _ _ _, .cons _ _, h, _, _, _ => by
    have h := of_decide_eq_true (show decide (_ = _) = true from h); cases h
  | .cons _ _, .int _, h, _, _, _ | .cons _ _, .bool, h, _, _, _ | .cons _ _, .str, h, _, _, _ | .cons _ _, .hole, h, _, _, _ | .cons _ _, .nil, h, _, _, _ | .cons _ _, .sl _ _ _, h, _, _, _ => by
    have h := of_decide_eq_true (show decide (_ = _) = true from h); cases h
end Ty
end Go.Proofs.Ytabjfkongckhaaa.Vm
