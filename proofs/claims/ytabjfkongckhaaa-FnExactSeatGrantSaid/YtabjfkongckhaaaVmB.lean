/- Places in typed values: looking, putting, and what a change of memory at a place does to the whole. -/
import Derived.Test.YtabjfkongckhaaaVmA
namespace Go.Proofs.Ytabjfkongckhaaa.Vm
open Go Go.RowKit

structure V where
  t : Ty
  x : t.den
structure DV where
  t : Ty
  d : t.dec
def DV.er (v : DV) : V := ⟨v.t, v.t.er v.d⟩
def DV.cs (v : DV) : List Value := v.t.cs v.d
def DV.foot (v : DV) : List Nat := v.t.foot v.d
def DV.OK (w : World) (Sh : Nat → Prop) (v : DV) : Prop := Ty.OK w Sh v.t v.d

inductive Step where
  | fst
  | snd
  | idx (n : Nat)
abbrev Path := List Step
/-- How many arrays it goes through. -/
def depth : Path → Nat
  | [] => 0
  | .idx _ :: p => depth p + 1
  | _ :: p => depth p

def getV : V → Path → Option V
  | v, [] => some v
  | ⟨.cons a _, x⟩, .fst :: p => getV ⟨a, x.1⟩ p
  | ⟨.cons _ r, x⟩, .snd :: p => getV ⟨r, x.2⟩ p
  | ⟨.sl true _ t, xs⟩, .idx n :: p => getV ⟨t, xs.getD n t.dft⟩ p
  | _, _ => none
def putV : V → Path → V → Option V
  | _, [], u => some u
  | ⟨.cons a r, x⟩, .fst :: p, u => (putV ⟨a, x.1⟩ p u).map fun v => ⟨.cons v.t r, (v.x, x.2)⟩
  | ⟨.cons a r, x⟩, .snd :: p, u => (putV ⟨r, x.2⟩ p u).map fun v => ⟨.cons a v.t, (x.1, v.x)⟩
  | ⟨.sl true e t, xs⟩, .idx n :: p, u => (putV ⟨t, xs.getD n t.dft⟩ p u).bind fun v => if h : v.t = t then some ⟨.sl true e t, xs.set n (cast (congrArg Ty.den h) v.x)⟩ else none
  | _, _, _ => none
abbrev Base := Option (Nat × Nat)
def Base.up (b : Base) (n : Nat) : Base := b.map fun p => (p.1, p.2 + n)
def lookD : DV → Base → Path → Option (Base × DV)
  | v, b, [] => some (b, v)
  | ⟨.cons a _, x⟩, b, .fst :: p => lookD ⟨a, x.1⟩ b p
  | ⟨.cons a r, x⟩, b, .snd :: p => lookD ⟨r, x.2⟩ (Base.up b a.sz) p
  | ⟨.sl true _ t, x⟩, _, .idx n :: p => match x.1.1, x.2[n]? with
    | some a, some d => lookD ⟨t, d⟩ (some (a.block, a.off + n * t.sz)) p
    | _, _ => none
  | _, _, _ => none
def putD : DV → Path → DV → Option DV
  | _, [], u => some u
  | ⟨.cons a r, x⟩, .fst :: p, u => (putD ⟨a, x.1⟩ p u).map fun v => ⟨.cons v.t r, (v.d, x.2)⟩
  | ⟨.cons a r, x⟩, .snd :: p, u => (putD ⟨r, x.2⟩ p u).map fun v => ⟨.cons a v.t, (x.1, v.d)⟩
  | ⟨.sl true e t, x⟩, .idx n :: p, u => match x.2[n]? with
    | some d => (putD ⟨t, d⟩ p u).bind fun v => if h : v.t = t then some ⟨.sl true e t, (x.1, x.2.set n (cast (congrArg Ty.dec h) v.d))⟩ else none
    | none => none
  | _, _, _ => none

theorem getD_map {α β : Type} (f : α → β) (l : List α) (n : Nat) (b : β) {a : α} (h : l[n]? = some a) : (l.map f).getD n b = f a := by
  rw [List.getD_eq_getElem?_getD, List.getElem?_map, h]; rfl
theorem er_look : ∀ {p : Path} {v : DV} {b : Base} {b' : Base} {u : DV}, lookD v b p = some (b', u) → getV v.er p = some u.er
  | [], v, b, b', u, h => by cases h; rfl
  | .fst :: p, ⟨.cons a r, x⟩, b, b', u, h => by
    show getV (DV.er ⟨a, x.1⟩) p = _
    exact er_look (v := ⟨a, x.1⟩) (p := p) h
  | .snd :: p, ⟨.cons a r, x⟩, b, b', u, h => by
    show getV (DV.er ⟨r, x.2⟩) p = _
    exact er_look (v := ⟨r, x.2⟩) (p := p) h
  | .idx n :: p, ⟨.sl true e t, x⟩, b, b', u, h => by
    simp only [lookD] at h
    split at h
    · rename_i a d hA hd
      have := er_look h
      show getV ⟨t, (x.2.map t.er).getD n t.dft⟩ p = _
      rw [getD_map t.er x.2 n t.dft hd]
      exact this
    · cases h
theorem er_cast {t t' : Ty} (h : t' = t) (d : t'.dec) : t.er (cast (congrArg Ty.dec h) d) = cast (congrArg Ty.den h) (t'.er d) := by subst h; rfl
theorem er_put : ∀ {p : Path} {v : DV} {b : Base} {b' : Base} {u n : DV}, lookD v b p = some (b', u) → ∀ {v' : V}, putV v.er p n.er = some v' → ∃ w, putD v p n = some w ∧ w.er = v'
  | [], v, b, b', u, n, _, v', h => by cases h; exact ⟨n, rfl, rfl⟩
  | .fst :: p, ⟨.cons a r, x⟩, b, b', u, n, hl, v', h => by
    have h : (putV (DV.er ⟨a, x.1⟩) p n.er).map (fun v => (⟨.cons v.t r, (v.x, r.er x.2)⟩ : V)) = some v' := h
    obtain ⟨q, hq, rfl⟩ := Option.map_eq_some_iff.1 h
    obtain ⟨w, hw, rfl⟩ := er_put (v := ⟨a, x.1⟩) (p := p) hl hq
    exact ⟨⟨.cons w.t r, (w.d, x.2)⟩, by simp only [putD, hw, Option.map_some], rfl⟩
  | .snd :: p, ⟨.cons a r, x⟩, b, b', u, n, hl, v', h => by
    have h : (putV (DV.er ⟨r, x.2⟩) p n.er).map (fun v => (⟨.cons a v.t, (a.er x.1, v.x)⟩ : V)) = some v' := h
    obtain ⟨q, hq, rfl⟩ := Option.map_eq_some_iff.1 h
    obtain ⟨w, hw, rfl⟩ := er_put (v := ⟨r, x.2⟩) (p := p) hl hq
    exact ⟨⟨.cons a w.t, (x.1, w.d)⟩, by simp only [putD, hw, Option.map_some], rfl⟩
  | .idx k :: p, ⟨.sl true e t, x⟩, b, b', u, n, hl, v', h => by
    simp only [lookD] at hl
    split at hl
    · rename_i A d hA hd
      have h : (putV ⟨t, (x.2.map t.er).getD k t.dft⟩ p n.er).bind (fun v => if h : v.t = t then some (⟨.sl true e t, (x.2.map t.er).set k (cast (congrArg Ty.den h) v.x)⟩ : V) else none) = some v' := h
      rw [getD_map t.er x.2 k t.dft hd] at h
      obtain ⟨q, hq, h⟩ := Option.bind_eq_some_iff.1 h
      obtain ⟨w, hw, rfl⟩ := er_put hl hq
      split at h
      · rename_i ht
        cases h
        have ht : w.t = t := ht
        refine ⟨⟨.sl true e t, (x.1, x.2.set k (cast (congrArg Ty.dec ht) w.d))⟩, ?_, ?_⟩
        · simp only [putD, hd, hw, Option.bind_some, dif_pos ht]
        · simp only [DV.er, Ty.er, List.map_set, er_cast ht]
      · cases h
    · cases hl

theorem foot_cast {t t' : Ty} (h : t' = t) (d : t'.dec) : t.foot (cast (congrArg Ty.dec h) d) = t'.foot d := by subst h; rfl
theorem cs_cast {t t' : Ty} (h : t' = t) (d : t'.dec) : t.cs (cast (congrArg Ty.dec h) d) = t'.cs d := by subst h; rfl
theorem OK_cast {w : World} {Sh : Nat → Prop} {t t' : Ty} (h : t' = t) (d : t'.dec) : Ty.OK w Sh t (cast (congrArg Ty.dec h) d) ↔ Ty.OK w Sh t' d := by subst h; exact Iff.rfl
theorem flatMap_set {α β : Type} (f : α → List β) : ∀ (l : List α) (n : Nat) {a : α} (_ : l[n]? = some a), ∃ L1 L2, l.flatMap f = L1 ++ f a ++ L2 ∧ ∀ y, (l.set n y).flatMap f = L1 ++ f y ++ L2
  | [], _, _, h => by cases h
  | x :: l, 0, a, h => by cases h; exact ⟨[], l.flatMap f, by simp, fun y => by simp⟩
  | x :: l, n + 1, a, h => by
    obtain ⟨L1, L2, h1, h2⟩ := flatMap_set f l n (a := a) (by simpa using h)
    exact ⟨f x ++ L1, L2, by simp [h1], fun y => by simp [h2 y]⟩
/-- The blocks of the whole are those about the place, and the place's. -/
theorem foot_put : ∀ {p : Path} {v : DV} {b : Base} {b' : Base} {u : DV}, lookD v b p = some (b', u) → ∃ L1 L2, v.foot = L1 ++ u.foot ++ L2 ∧ ∀ n v', putD v p n = some v' → v'.foot = L1 ++ n.foot ++ L2
  | [], v, b, b', u, h => by cases h; exact ⟨[], [], by simp, fun n v' h => by cases h; simp⟩
  | .fst :: p, ⟨.cons a r, x⟩, b, b', u, h => by
    obtain ⟨L1, L2, h1, h2⟩ := foot_put (v := ⟨a, x.1⟩) (p := p) h
    refine ⟨L1, L2 ++ r.foot x.2, ?_, fun n v' h => ?_⟩
    · show a.foot x.1 ++ r.foot x.2 = _
      rw [show a.foot x.1 = _ from h1]; simp
    · obtain ⟨q, hq, rfl⟩ := Option.map_eq_some_iff.1 (h : (putD ⟨a, x.1⟩ p n).map _ = some v')
      show q.t.foot q.d ++ r.foot x.2 = _
      rw [show q.t.foot q.d = _ from h2 n q hq]; simp
  | .snd :: p, ⟨.cons a r, x⟩, b, b', u, h => by
    obtain ⟨L1, L2, h1, h2⟩ := foot_put (v := ⟨r, x.2⟩) (p := p) h
    refine ⟨a.foot x.1 ++ L1, L2, ?_, fun n v' h => ?_⟩
    · show a.foot x.1 ++ r.foot x.2 = _
      rw [show r.foot x.2 = _ from h1]; simp
    · obtain ⟨q, hq, rfl⟩ := Option.map_eq_some_iff.1 (h : (putD ⟨r, x.2⟩ p n).map _ = some v')
      show a.foot x.1 ++ q.t.foot q.d = _
      rw [show q.t.foot q.d = _ from h2 n q hq]; simp
  | .idx k :: p, ⟨.sl true e t, x⟩, b, b', u, h => by
    simp only [lookD] at h
    split at h
    · rename_i A d hA hd
      obtain ⟨L1, L2, h1, h2⟩ := foot_put h
      obtain ⟨M1, M2, m1, m2⟩ := flatMap_set t.foot x.2 k hd
      refine ⟨(x.1.1.map (·.block)).toList ++ M1 ++ L1, L2 ++ M2, ?_, fun n v' h => ?_⟩
      · show (x.1.1.map (·.block)).toList ++ x.2.flatMap t.foot = _
        rw [m1, show t.foot d = _ from h1]; simp
      · simp only [putD, hd] at h
        obtain ⟨q, hq, h⟩ := Option.bind_eq_some_iff.1 h
        split at h
        · rename_i ht
          cases h
          show (x.1.1.map (·.block)).toList ++ (x.2.set k _).flatMap t.foot = _
          rw [m2, foot_cast ht, show q.t.foot q.d = _ from h2 n q hq]; simp
        · cases h
    · cases h

/-- The cells from o on in block b say v. -/
def Loc (w : World) (b o : Nat) (v : DV) : Prop := ∃ row e, Row w b row e ∧ ∀ j u, v.cs[j]? = some u → row[o + j]? = some u
/-- What becomes of block b: the places from o on say n; no other place has turned. -/
def Turned (w w' : World) (b o sz : Nat) (n : DV) : Prop := ∀ row e, Row w b row e → ∃ row' : Array Value, Row w' b row' e ∧ row'.size = row.size ∧
  (∀ j, j < o ∨ o + sz ≤ j → row'[j]? = row[j]?) ∧ ∀ j u, n.cs[j]? = some u → row'[o + j]? = some u

theorem nodup_mid {α : Type} {A B C : List α} (h : (A ++ B ++ C).Nodup) : B.Nodup := (List.nodup_append.1 (List.nodup_append.1 h).1).2.1
theorem getElem?_set_self' {α : Type} {l : List α} {n : Nat} {a y : α} (h : l[n]? = some a) : (l.set n y)[n]? = some y := by
  rw [List.getElem?_set_self (List.getElem?_eq_some_iff.1 h).1]
theorem cells_at_append {a b : List Value} {row : Array Value} {o : Nat} : (∀ j u, (a ++ b)[j]? = some u → row[o + j]? = some u) ↔ (∀ j u, a[j]? = some u → row[o + j]? = some u) ∧ ∀ j u, b[j]? = some u → row[o + a.length + j]? = some u := by
  constructor
  · intro h
    refine ⟨fun j u hj => h j u ?_, fun j u hj => ?_⟩
    · rw [List.getElem?_append_left (List.getElem?_eq_some_iff.1 hj).1]; exact hj
    · have := h (a.length + j) u (by rw [List.getElem?_append_right (by omega)]; simpa using hj)
      rw [← this]; congr 1; omega
  · rintro ⟨h1, h2⟩ j u hj
    by_cases hlt : j < a.length
    · rw [List.getElem?_append_left hlt] at hj; exact h1 j u hj
    · rw [List.getElem?_append_right (by omega)] at hj
      have := h2 _ u hj
      rw [← this]; congr 1; omega

/-- A place lies where the whole lies, or in a block that the whole owns. -/
theorem look_block : ∀ {p : Path} {v : DV} {b : Base} {b' : Base} {u : DV}, lookD v b p = some (b', u) → ∀ k o, b' = some (k, o) → (∃ o', b = some (k, o')) ∨ k ∈ v.foot
  | [], v, b, b', u, h, k, o, hb => by cases h; exact .inl ⟨o, hb⟩
  | .fst :: p, ⟨.cons a r, x⟩, b, b', u, h, k, o, hb => by
    rcases look_block (v := ⟨a, x.1⟩) (p := p) h k o hb with h | h
    · exact .inl h
    · exact .inr (List.mem_append_left _ h)
  | .snd :: p, ⟨.cons a r, x⟩, b, b', u, h, k, o, hb => by
    rcases look_block (v := ⟨r, x.2⟩) (p := p) h k o hb with ⟨o', h⟩ | h
    · cases b with
      | none => cases h
      | some q => cases h; exact .inl ⟨_, rfl⟩
    · exact .inr (List.mem_append_right _ h)
  | .idx n :: p, ⟨.sl true e t, x⟩, b, b', u, h, k, o, hb => by
    simp only [lookD] at h
    split at h
    · rename_i A d hA hd
      rcases look_block h k o hb with ⟨o', h⟩ | h
      · cases h; exact .inr (List.mem_append_left _ (by rw [hA]; exact List.mem_singleton.2 rfl))
      · exact .inr (List.mem_append_right _ (List.mem_flatMap.2 ⟨d, List.mem_of_getElem? hd, h⟩))
    · cases h

theorem put_sz : ∀ {p : Path} {v : DV} {b b' : Base} {u n v' : DV}, lookD v b p = some (b', u) → n.t.sz = u.t.sz → putD v p n = some v' → v'.t.sz = v.t.sz
  | [], v, b, b', u, n, v', hl, hs, h => by cases hl; cases h; exact hs
  | .fst :: p, ⟨.cons a r, x⟩, b, b', u, n, v', hl, hs, h => by
    obtain ⟨q, hq, rfl⟩ := Option.map_eq_some_iff.1 (h : (putD ⟨a, x.1⟩ p n).map _ = some v')
    have := put_sz (v := ⟨a, x.1⟩) (p := p) hl hs hq
    show q.t.sz + r.sz = a.sz + r.sz
    rw [this]
  | .snd :: p, ⟨.cons a r, x⟩, b, b', u, n, v', hl, hs, h => by
    obtain ⟨q, hq, rfl⟩ := Option.map_eq_some_iff.1 (h : (putD ⟨r, x.2⟩ p n).map _ = some v')
    have := put_sz (v := ⟨r, x.2⟩) (p := p) hl hs hq
    show a.sz + q.t.sz = a.sz + r.sz
    rw [this]
  | .idx k :: p, ⟨.sl true e t, x⟩, b, b', u, n, v', hl, hs, h => by
    simp only [putD] at h
    split at h
    · obtain ⟨q, hq, h⟩ := Option.bind_eq_some_iff.1 h
      split at h
      · cases h; rfl
      · cases h
    · cases h

/-- Memory changes at a place (and in what the place owns) alone: the whole is what it was, with the new value put there. -/
theorem upd {w w' : World} {Sh Sh' : Nat → Prop} (hw : ∀ b, Sh b → w'.heap[b]? = w.heap[b]?) (hs : ∀ b, Sh b → Sh' b) :
    ∀ {p : Path} {v : DV} {b b' : Base} {u n v' : DV}, lookD v b p = some (b', u) → putD v p n = some v' → v.OK w Sh → v.foot.Nodup →
      (∀ k o, b = some (k, o) → Loc w k o v ∧ k ∉ v.foot) → n.t.sz = u.t.sz → n.OK w' Sh' →
      (∀ k, k ∈ v.foot → k ∉ u.foot → (∀ k' o', b' = some (k', o') → k ≠ k') → w'.heap[k]? = w.heap[k]?) →
      (∀ k o, b = some (k, o) → (∀ k' o', b' = some (k', o') → k ≠ k') → w'.heap[k]? = w.heap[k]?) →
      (∀ k' o', b' = some (k', o') → Turned w w' k' o' u.t.sz n) →
      v'.OK w' Sh' ∧ ∀ k o, b = some (k, o) → Turned w w' k o v.t.sz v'
  | [], v, b, b', u, n, v', hl, hp, hok, hnd, hb, hz, hn, h1, h2, h3 => by
    cases hl; cases hp
    exact ⟨hn, h3⟩
  | .fst :: p, ⟨.cons a r, x⟩, b, b', u, n, v', hl, hp, hok, hnd, hb, hz, hn, h1, h2, h3 => by
    have hl : lookD ⟨a, x.1⟩ b p = some (b', u) := hl
    obtain ⟨q, hq, rfl⟩ := Option.map_eq_some_iff.1 (hp : (putD ⟨a, x.1⟩ p n).map _ = some v')
    have hnd : (a.foot x.1 ++ r.foot x.2).Nodup := hnd
    obtain ⟨hnd1, hnd2, hdis⟩ := List.nodup_append.1 hnd
    have hsub : ∀ k, k ∈ u.foot → k ∈ a.foot x.1 := by
      obtain ⟨L1, L2, e, _⟩ := foot_put hl
      intro k hk; rw [show a.foot x.1 = _ from e]; simp [hk]
    have hblk := look_block hl
    obtain ⟨i1, i2⟩ := upd (v := ⟨a, x.1⟩) hw hs hl hq hok.1 hnd1 (fun k o hk => by
        obtain ⟨⟨row, e, hrow, hc⟩, hni⟩ := hb k o hk
        exact ⟨⟨row, e, hrow, (cells_at_append.1 hc).1⟩, fun hm => hni (List.mem_append_left _ hm)⟩) hz hn
      (fun k hk => h1 k (List.mem_append_left _ hk)) h2 h3
    refine ⟨⟨i1, Ty.OK_frame hw hs (fun k hk => h1 k (List.mem_append_right _ hk) (fun hk' => hdis k (hsub k hk') k hk rfl) (fun k' o' hb' he => ?_)) hok.2⟩, fun k o hk => ?_⟩
    · subst he
      rcases hblk k o' hb' with ⟨o2, ho2⟩ | hm
      · exact (hb k o2 ho2).2 (List.mem_append_right _ hk)
      · exact hdis k hm k hk rfl
    · intro row e hrow
      obtain ⟨row', hr', hsz, ho, hin⟩ := i2 k o hk row e hrow
      obtain ⟨⟨row0, e0, hrow0, hc⟩, _⟩ := hb k o hk
      obtain ⟨rfl, rfl⟩ := hrow.uniq hrow0
      have hc2 := (cells_at_append.1 (show ∀ j u, (a.cs x.1 ++ r.cs x.2)[j]? = some u → row[o + j]? = some u from hc)).2
      have hqs : q.t.sz = a.sz := put_sz hl hz hq
      refine ⟨row', hr', hsz, fun j hj => ho j ?_, ?_⟩
      · rcases hj with hj | hj
        · exact .inl hj
        · exact .inr (by show o + a.sz ≤ j; have : o + (a.sz + r.sz) ≤ j := hj; omega)
      · show ∀ j u, (q.t.cs q.d ++ r.cs x.2)[j]? = some u → row'[o + j]? = some u
        refine cells_at_append.2 ⟨hin, fun j u hj => ?_⟩
        rw [Ty.cs_len, hqs, ho _ (.inr (by show o + a.sz ≤ _; omega))]
        have := hc2 j u hj
        rwa [Ty.cs_len] at this
  | .snd :: p, ⟨.cons a r, x⟩, b, b', u, n, v', hl, hp, hok, hnd, hb, hz, hn, h1, h2, h3 => by
    have hl : lookD ⟨r, x.2⟩ (Base.up b a.sz) p = some (b', u) := hl
    obtain ⟨q, hq, rfl⟩ := Option.map_eq_some_iff.1 (hp : (putD ⟨r, x.2⟩ p n).map _ = some v')
    have hnd : (a.foot x.1 ++ r.foot x.2).Nodup := hnd
    obtain ⟨hnd1, hnd2, hdis⟩ := List.nodup_append.1 hnd
    have hsub : ∀ k, k ∈ u.foot → k ∈ r.foot x.2 := by
      obtain ⟨L1, L2, e, _⟩ := foot_put hl
      intro k hk; rw [show r.foot x.2 = _ from e]; simp [hk]
    have hblk := look_block hl
    obtain ⟨i1, i2⟩ := upd (v := ⟨r, x.2⟩) hw hs hl hq hok.2 hnd2 (fun k o hk => by
        cases b with
        | none => cases hk
        | some z =>
          obtain ⟨k0, o0⟩ := z
          have hk : some (k0, o0 + a.sz) = some (k, o) := hk
          simp only [Option.some.injEq, Prod.mk.injEq] at hk
          obtain ⟨rfl, rfl⟩ := hk
          obtain ⟨⟨row, e, hrow, hc⟩, hni⟩ := hb k0 o0 rfl
          refine ⟨⟨row, e, hrow, ?_⟩, fun hm => hni (List.mem_append_right _ hm)⟩
          have := (cells_at_append.1 (show ∀ j u, (a.cs x.1 ++ r.cs x.2)[j]? = some u → row[o0 + j]? = some u from hc)).2
          rwa [Ty.cs_len] at this) hz hn
      (fun k hk => h1 k (List.mem_append_right _ hk)) (fun k o hk => by
        cases b with
        | none => cases hk
        | some z =>
          obtain ⟨k0, o0⟩ := z
          have hk : some (k0, o0 + a.sz) = some (k, o) := hk
          simp only [Option.some.injEq, Prod.mk.injEq] at hk
          obtain ⟨rfl, rfl⟩ := hk
          exact h2 k0 o0 rfl) h3
    refine ⟨⟨Ty.OK_frame hw hs (fun k hk => h1 k (List.mem_append_left _ hk) (fun hk' => hdis k hk k (hsub k hk') rfl) (fun k' o' hb' he => ?_)) hok.1, i1⟩, fun k o hk => ?_⟩
    · subst he
      rcases hblk k o' hb' with ⟨o2, ho2⟩ | hm
      · cases b with
        | none => cases ho2
        | some z =>
          obtain ⟨k0, o0⟩ := z
          have ho2 : some (k0, o0 + a.sz) = some (k, o2) := ho2
          simp only [Option.some.injEq, Prod.mk.injEq] at ho2
          obtain ⟨rfl, rfl⟩ := ho2
          exact (hb k0 o0 rfl).2 (List.mem_append_left _ hk)
      · exact hdis k hk k hm rfl
    · intro row e hrow
      obtain ⟨row', hr', hsz, ho, hin⟩ := i2 k (o + a.sz) (by rw [hk]; rfl) row e hrow
      obtain ⟨⟨row0, e0, hrow0, hc⟩, _⟩ := hb k o hk
      obtain ⟨rfl, rfl⟩ := hrow.uniq hrow0
      have hc1 := (cells_at_append.1 (show ∀ j u, (a.cs x.1 ++ r.cs x.2)[j]? = some u → row[o + j]? = some u from hc)).1
      refine ⟨row', hr', hsz, fun j hj => ho j ?_, ?_⟩
      · rcases hj with hj | hj
        · exact .inl (by omega)
        · exact .inr (by show o + a.sz + r.sz ≤ j; have : o + (a.sz + r.sz) ≤ j := hj; omega)
      · show ∀ j u, (a.cs x.1 ++ q.t.cs q.d)[j]? = some u → row'[o + j]? = some u
        refine cells_at_append.2 ⟨fun j u hj => ?_, by rw [Ty.cs_len]; exact hin⟩
        have hj' : j < a.sz := by rw [← Ty.cs_len a x.1]; exact (List.getElem?_eq_some_iff.1 hj).1
        rw [ho _ (.inl (by omega))]
        exact hc1 j u hj
  | .idx i :: p, ⟨.sl true e t, x⟩, b, b', u, n, v', hl, hp, hok, hnd, hb, hz, hn, h1, h2, h3 => by
    simp only [lookD] at hl
    split at hl
    case h_2 => cases hl
    rename_i A d hA hd
    simp only [putD, hd] at hp
    obtain ⟨q, hq, hp⟩ := Option.bind_eq_some_iff.1 hp
    split at hp
    case isFalse => cases hp
    rename_i ht
    cases hp
    rcases hok with ⟨hn1, hn2⟩ | ⟨B, O, row, hB, hrow, hlen, hmax, hfit, hel⟩
    · rw [hn1] at hA; cases hA
    have hAB : A = ⟨B, O, none⟩ := by rw [hA] at hB; exact Option.some.inj hB
    subst hAB
    have hnd : ((x.1.1.map (·.block)).toList ++ x.2.flatMap t.foot).Nodup := hnd
    rw [hA] at hnd
    have hnd : (B :: x.2.flatMap t.foot).Nodup := hnd
    obtain ⟨hBn, hnd2⟩ := List.nodup_cons.1 hnd
    obtain ⟨M1, M2, m1, m2⟩ := flatMap_set t.foot x.2 i hd
    have hndd : (t.foot d).Nodup := nodup_mid (m1 ▸ hnd2)
    have hsub : ∀ k, k ∈ u.foot → k ∈ t.foot d := by
      obtain ⟨L1, L2, e, _⟩ := foot_put hl
      intro k hk; rw [show t.foot d = _ from e]; simp [hk]
    have hdf : ∀ k, k ∈ t.foot d → k ∈ x.2.flatMap t.foot := fun k hk => List.mem_flatMap.2 ⟨d, List.mem_of_getElem? hd, hk⟩
    have hfv : ∀ k, k ∈ x.2.flatMap t.foot → k ∈ DV.foot ⟨.sl true e t, x⟩ := fun k hk => List.mem_append_right _ hk
    have hBv : B ∈ DV.foot ⟨.sl true e t, x⟩ := List.mem_append_left _ (by rw [hA]; exact List.mem_singleton.2 rfl)
    have hblk := look_block hl
    obtain ⟨hokd, hcd⟩ := hel i d hd
    obtain ⟨i1, i2⟩ := upd (v := ⟨t, d⟩) hw hs hl hq hokd hndd (fun k o hk => by
        cases hk
        exact ⟨⟨row, e, hrow, hcd⟩, fun hm => hBn (hdf _ hm)⟩) hz hn
      (fun k hk => h1 k (hfv k (hdf k hk))) (fun k o hk hne => by cases hk; exact h1 B hBv (fun hm => hBn (hdf _ (hsub _ hm))) hne) h3
    obtain ⟨row', hr', hrs, hro, hri⟩ := i2 B _ rfl row e hrow
    have hqs : q.t.sz = t.sz := by rw [ht]
    have hother : ∀ (k : Nat), (∀ k' o', b' = some (k', o') → k ∉ x.2.flatMap t.foot → k ≠ B → k ≠ k') := by
      intro k k' o' hb' hk hkB he
      subst he
      rcases hblk k o' hb' with ⟨o2, ho2⟩ | hm
      · cases ho2; exact hkB rfl
      · exact hk (hdf _ hm)
    refine ⟨.inr ⟨B, O, row', hB, hr', by simpa using hlen, hmax, by rw [hrs]; exact hfit, fun j dj hj => ?_⟩, fun k o hk => ?_⟩
    · replace hj : (x.2.set i (cast (congrArg Ty.dec ht) q.d))[j]? = some dj := hj
      by_cases hij : i = j
      · subst hij
        rw [getElem?_set_self' hd] at hj
        cases hj
        exact ⟨(OK_cast ht q.d).2 i1, by rw [cs_cast ht]; exact hri⟩
      · rw [List.getElem?_set_ne hij] at hj
        obtain ⟨o1, o2⟩ := hel j dj hj
        have hfoot : ∀ k, k ∈ t.foot dj → k ∉ t.foot d := by
          intro k hk hk'
          have : (x.2.flatMap t.foot).Nodup := hnd2
          exact absurd rfl ((List.pairwise_flatMap.1 (by
            rw [List.Nodup] at this; exact this)).2 |> fun hpw => by
              have hjl := (List.getElem?_eq_some_iff.1 hj)
              have hil := (List.getElem?_eq_some_iff.1 hd)
              obtain ⟨hj1, hj2⟩ := hjl
              obtain ⟨hi1, hi2⟩ := hil
              rcases Nat.lt_or_gt_of_ne hij with hlt | hlt
              · have := (List.pairwise_iff_getElem.1 hpw) i j hi1 hj1 hlt
                exact this k (hi2 ▸ hk') k (hj2 ▸ hk)
              · have := (List.pairwise_iff_getElem.1 hpw) j i hj1 hi1 hlt
                exact this k (hj2 ▸ hk) k (hi2 ▸ hk'))
        have hmem : ∀ k, k ∈ t.foot dj → k ∈ x.2.flatMap t.foot := fun k hk => List.mem_flatMap.2 ⟨dj, List.mem_of_getElem? hj, hk⟩
        refine ⟨Ty.OK_frame hw hs (fun k hk => h1 k (hfv k (hmem k hk)) (fun hu => hfoot k hk (hsub k hu)) (fun k' o' hb' he => ?_)) o1, fun jj uu hjj => ?_⟩
        · subst he
          rcases hblk k o' hb' with ⟨o2, ho2⟩ | hm
          · cases ho2; exact hBn (hmem _ hk)
          · exact hfoot k hk hm
        · have hjs : jj < t.sz := by rw [← Ty.cs_len t dj]; exact (List.getElem?_eq_some_iff.1 hjj).1
          rw [hro]
          · exact o2 jj uu hjj
          · show _ < O + i * t.sz ∨ O + i * t.sz + t.sz ≤ _
            rcases Nat.lt_or_gt_of_ne hij with hlt | hlt
            · right
              have : (i + 1) * t.sz ≤ j * t.sz := Nat.mul_le_mul_right _ hlt
              rw [Nat.add_mul, Nat.one_mul] at this; omega
            · left
              have : (j + 1) * t.sz ≤ i * t.sz := Nat.mul_le_mul_right _ hlt
              rw [Nat.add_mul, Nat.one_mul] at this; omega
    · obtain ⟨⟨row0, e0, hrow0, hc⟩, hni⟩ := hb k o hk
      have hkB : k ≠ B := fun he => hni (he ▸ hBv)
      have hkf : k ∉ x.2.flatMap t.foot := fun hm => hni (hfv k hm)
      have hsame := h2 k o hk (fun k' o' hb' => hother k k' o' hb' hkf hkB)
      intro row1 e1 hrow1
      obtain ⟨rfl, rfl⟩ := hrow0.uniq hrow1
      refine ⟨row0, hrow0.frame hsame, rfl, fun _ _ => rfl, fun j uu hj => hc j uu ?_⟩
      show [Value.slice x.1.1 x.2.length x.1.2][j]? = some uu
      have hj : [Value.slice x.1.1 (x.2.set i (cast (congrArg Ty.dec ht) q.d)).length x.1.2][j]? = some uu := hj
      rwa [List.length_set] at hj
end Go.Proofs.Ytabjfkongckhaaa.Vm
