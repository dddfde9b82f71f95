/- What a store at one place leaves of the other places; roots made, handed on, and shared. -/
import Derived.Test.YtabjfkongckhaaaVmC
namespace Go.Proofs.Ytabjfkongckhaaa.Vm
open Go Go.RowKit
set_option linter.unusedVariables false

/-- Of one shape: a struct where a struct is, one cell where one cell is. -/
def like : Ty → Ty → Bool
  | .nil, .nil => true
  | .cons a r, .cons a' r' => like a a' && like r r'
  | .nil, _ => false
  | .cons _ _, _ => false
  | _, .nil => false
  | _, .cons _ _ => false
  | _, _ => true
theorem like_refl : ∀ t : Ty, like t t = true
  | .int _ | .bool | .str | .hole | .sl _ _ _ | .nil => rfl
  | .cons a r => by simp only [like, like_refl a, like_refl r, Bool.and_self]
theorem like_sz : ∀ {t t' : Ty}, like t t' = true → t.sz = t'.sz
  | .nil, .nil, _ => rfl
  | .cons a r, .cons a' r', h => by
    simp only [like, Bool.and_eq_true] at h
    simp only [Ty.sz, like_sz h.1, like_sz h.2]
  | .nil, .cons _ _, h => by cases h
  | .cons _ _, .nil, h => by cases h
  | .cons _ _, .int _, h | .cons _ _, .bool, h | .cons _ _, .str, h | .cons _ _, .hole, h | .cons _ _, .sl _ _ _, h => by cases h
  | .nil, .int _, h | .nil, .bool, h | .nil, .str, h | .nil, .hole, h | .nil, .sl _ _ _, h => by cases h
  | .int _, t', h | .bool, t', h | .str, t', h | .hole, t', h | .sl _ _ _, t', h => by cases t' <;> first | rfl | cases h
theorem like_agg : ∀ {t t' : Ty}, like t t' = true → t.agg = t'.agg
  | .nil, t', h => by cases t' <;> first | rfl | cases h
  | .cons a r, t', h => by cases t' <;> first | rfl | cases h
  | .int _, t', h | .bool, t', h | .str, t', h | .hole, t', h | .sl _ _ _, t', h => by cases t' <;> first | rfl | cases h

theorem flat_look : ∀ {p : Path} {v : DV} {b b' : Base} {u : DV}, v.t.flat = true → lookD v b p = some (b', u) → depth p = 0 ∧ u.t.flat = true
  | [], v, b, b', u, hf, h => by cases h; exact ⟨rfl, hf⟩
  | .fst :: p, ⟨.cons a r, x⟩, b, b', u, hf, h => by
    simp only [Ty.flat, Bool.and_eq_true] at hf
    exact flat_look (p := p) (v := ⟨a, x.1⟩) hf.1 h
  | .snd :: p, ⟨.cons a r, x⟩, b, b', u, hf, h => by
    simp only [Ty.flat, Bool.and_eq_true] at hf
    exact flat_look (p := p) (v := ⟨r, x.2⟩) hf.2 h
  | .idx i :: p, ⟨.sl true e t, x⟩, b, b', u, hf, h => by cases hf
theorem like_look : ∀ {p : Path} {v n : DV} {b b' : Base} {u : DV}, like n.t v.t = true → depth p = 0 → lookD v b p = some (b', u) → ∃ u', lookD n b p = some (b', u')
  | [], v, n, b, b', u, hl, hd, h => by cases h; exact ⟨n, rfl⟩
  | .fst :: p, ⟨.cons a r, x⟩, ⟨tn, y⟩, b, b', u, hl, hd, h => by
    cases tn with
    | cons a' r' =>
      simp only [like, Bool.and_eq_true] at hl
      exact like_look (p := p) (v := ⟨a, x.1⟩) (n := ⟨a', y.1⟩) hl.1 hd h
    | _ => cases hl
  | .snd :: p, ⟨.cons a r, x⟩, ⟨tn, y⟩, b, b', u, hl, hd, h => by
    cases tn with
    | cons a' r' =>
      simp only [like, Bool.and_eq_true] at hl
      obtain ⟨u', h'⟩ := like_look (p := p) (v := ⟨r, x.2⟩) (n := ⟨r', y.2⟩) hl.2 hd h
      refine ⟨u', ?_⟩
      show lookD ⟨r', y.2⟩ (Base.up b a'.sz) p = _
      rw [like_sz hl.1]; exact h'
    | _ => cases hl
  | .idx i :: p, v, n, b, b', u, hl, hd, h => by cases hd

theorem lookD_cast {t t' : Ty} (h : t' = t) (d : t'.dec) (b : Base) (p : Path) : lookD ⟨t, cast (congrArg Ty.dec h) d⟩ b p = lookD ⟨t', d⟩ b p := by subst h; rfl

/-- The place p behind a store at q: where it was; and what it says, where the store is deeper, or writes numbers alone. -/
def KeepAt (v v' : DV) (dq : Nat) (ff : Prop) : Prop := ∀ (p : Path) (b b' : Base) (u : DV), lookD v b p = some (b', u) →
    ((ff ∨ depth p ≤ dq) → ∃ u', lookD v' b p = some (b', u')) ∧
    ((ff ∧ u.t.agg = false ∧ u.t.flat = false ∨ depth p < dq) → ∃ u', lookD v' b p = some (b', u') ∧ u'.t = u.t ∧ u'.cs = u.cs)
theorem keep_nil {v n : DV} (hl : like n.t v.t = true) : KeepAt v n 0 (n.t.flat = true ∧ v.t.flat = true) := by
  intro p b b' u hu
  refine ⟨fun h => ?_, fun h => ?_⟩
  · have hd : depth p = 0 := by
      rcases h with h | h
      · exact (flat_look h.2 hu).1
      · exact Nat.le_zero.1 h
    exact like_look hl hd hu
  · rcases h with h | h
    · rw [(flat_look h.1.2 hu).2] at h; cases h.2.2
    · cases h
theorem keep_fst {a r : Ty} {x : (Ty.cons a r).dec} {z : DV} {dq : Nat} {ff : Prop} (hz : z.t.sz = a.sz) (K : KeepAt ⟨a, x.1⟩ z dq ff) : KeepAt ⟨.cons a r, x⟩ ⟨.cons z.t r, (z.d, x.2)⟩ dq ff := by
  intro p b b' u hu
  cases p with
  | nil =>
    cases hu
    refine ⟨fun _ => ⟨_, rfl⟩, fun h => ?_⟩
    rcases h with h | h
    · cases h.2.1
    · obtain ⟨u', h1, h2, h3⟩ := (K [] b b ⟨a, x.1⟩ rfl).2 (.inr h)
      cases h1
      refine ⟨_, rfl, ?_, ?_⟩
      · show Ty.cons z.t r = Ty.cons a r
        rw [h2]
      · show z.cs ++ r.cs x.2 = a.cs x.1 ++ r.cs x.2
        rw [h3]; rfl
  | cons s p =>
    cases s with
    | fst => exact K p b b' u hu
    | snd =>
      have : lookD ⟨.cons z.t r, (z.d, x.2)⟩ b (.snd :: p) = some (b', u) := by
        show lookD ⟨r, x.2⟩ (Base.up b z.t.sz) p = _
        rw [hz]; exact hu
      exact ⟨fun _ => ⟨u, this⟩, fun _ => ⟨u, this, rfl, rfl⟩⟩
    | idx i => cases hu
theorem keep_snd {a r : Ty} {x : (Ty.cons a r).dec} {z : DV} {dq : Nat} {ff : Prop} (K : KeepAt ⟨r, x.2⟩ z dq ff) : KeepAt ⟨.cons a r, x⟩ ⟨.cons a z.t, (x.1, z.d)⟩ dq ff := by
  intro p b b' u hu
  cases p with
  | nil =>
    cases hu
    refine ⟨fun _ => ⟨_, rfl⟩, fun h => ?_⟩
    rcases h with h | h
    · cases h.2.1
    · obtain ⟨u', h1, h2, h3⟩ := (K [] b b ⟨r, x.2⟩ rfl).2 (.inr h)
      cases h1
      refine ⟨_, rfl, ?_, ?_⟩
      · show Ty.cons a z.t = Ty.cons a r
        rw [h2]
      · show a.cs x.1 ++ z.cs = a.cs x.1 ++ r.cs x.2
        rw [h3]; rfl
  | cons s p =>
    cases s with
    | snd => exact K p _ b' u hu
    | fst =>
      have : lookD ⟨.cons a z.t, (x.1, z.d)⟩ b (.fst :: p) = some (b', u) := hu
      exact ⟨fun _ => ⟨u, this⟩, fun _ => ⟨u, this, rfl, rfl⟩⟩
    | idx i => cases hu
theorem keep_idx {e : TypeId} {t : Ty} {x : (Ty.sl true e t).dec} {j : Nat} {d : t.dec} {z : DV} {dq : Nat} {ff : Prop} (hd : x.2[j]? = some d) (ht : z.t = t) (K : KeepAt ⟨t, d⟩ z dq ff) :
    KeepAt ⟨.sl true e t, x⟩ ⟨.sl true e t, (x.1, x.2.set j (cast (congrArg Ty.dec ht) z.d))⟩ (dq + 1) ff := by
  intro p b b' u hu
  cases p with
  | nil =>
    cases hu
    have hc : DV.cs ⟨.sl true e t, (x.1, x.2.set j (cast (congrArg Ty.dec ht) z.d))⟩ = DV.cs ⟨.sl true e t, x⟩ := by
      show [Value.slice x.1.1 (x.2.set j _).length x.1.2] = [Value.slice x.1.1 x.2.length x.1.2]
      rw [List.length_set]
    exact ⟨fun _ => ⟨_, rfl⟩, fun _ => ⟨_, rfl, rfl, hc⟩⟩
  | cons s p =>
    cases s with
    | fst => cases hu
    | snd => cases hu
    | idx i =>
      cases hA : x.1.1 with
      | none => simp only [lookD, hA] at hu; cases hu
      | some A =>
        by_cases hij : j = i
        · subst hij
          have hu : lookD ⟨t, d⟩ (some (A.block, A.off + j * t.sz)) p = some (b', u) := by
            simp only [lookD, hA, hd] at hu; exact hu
          have hnew : lookD ⟨.sl true e t, (x.1, x.2.set j (cast (congrArg Ty.dec ht) z.d))⟩ b (.idx j :: p) = lookD z (some (A.block, A.off + j * t.sz)) p := by
            simp only [lookD, hA, getElem?_set_self' hd]
            exact lookD_cast ht z.d _ p
          rw [hnew]
          have IH := K p _ b' u hu
          refine ⟨fun h => IH.1 (h.imp (fun h => h) (fun h => ?_)), fun h => IH.2 (h.imp (fun h => h) (fun h => ?_))⟩
          · have h : depth p + 1 ≤ dq + 1 := h
            omega
          · have h : depth p + 1 < dq + 1 := h
            omega
        · have hnew : lookD ⟨.sl true e t, (x.1, x.2.set j (cast (congrArg Ty.dec ht) z.d))⟩ b (.idx i :: p) = some (b', u) := by
            simp only [lookD, hA, List.getElem?_set_ne hij] at hu ⊢
            exact hu
          exact ⟨fun _ => ⟨u, hnew⟩, fun _ => ⟨u, hnew, rfl, rfl⟩⟩
theorem keep_put (n : DV) : ∀ (q : Path) (v : DV) (b bq : Base) (uq v' : DV), lookD v b q = some (bq, uq) → putD v q n = some v' → like n.t uq.t = true → KeepAt v v' (depth q) (n.t.flat = true ∧ uq.t.flat = true) := by
  intro q
  induction q with
  | nil => intro v b bq uq v' hq hp hl; cases hq; cases hp; exact keep_nil hl
  | cons s q ih =>
    intro v b bq uq v' hq hp hl
    obtain ⟨t, x⟩ := v
    cases s with
    | fst =>
      cases t with
      | cons a r =>
        obtain ⟨z, hz, rfl⟩ := Option.map_eq_some_iff.1 (hp : (putD ⟨a, x.1⟩ q n).map _ = some v')
        exact keep_fst (put_sz (v := ⟨a, x.1⟩) (p := q) hq (like_sz hl) hz) (ih ⟨a, x.1⟩ b bq uq z hq hz hl)
      | _ => cases hq
    | snd =>
      cases t with
      | cons a r =>
        obtain ⟨z, hz, rfl⟩ := Option.map_eq_some_iff.1 (hp : (putD ⟨r, x.2⟩ q n).map _ = some v')
        exact keep_snd (ih ⟨r, x.2⟩ _ bq uq z hq hz hl)
      | _ => cases hq
    | idx j =>
      cases t with
      | sl o e t =>
        cases o with
        | false => cases hq
        | true =>
          simp only [lookD] at hq
          split at hq
          case h_2 => cases hq
          rename_i A d hA hd
          simp only [putD, hd] at hp
          obtain ⟨z, hz, hp⟩ := Option.bind_eq_some_iff.1 hp
          split at hp
          case isFalse => cases hp
          rename_i ht
          cases hp
          exact keep_idx hd ht (ih ⟨t, d⟩ _ bq uq z hq hz hl)
      | _ => cases hq
theorem bad1 {m : Nat} {ho : Bool} {e : Nat × Bool} (h : [e].all (fun e => !bad m ho e) = true) : (e.2 || !ho) = false ∨ m ≤ e.1 := by
  simp only [List.all_cons, List.all_nil, Bool.and_true, bad] at h
  cases h1 : (e.2 || !ho) with
  | false => exact .inl rfl
  | true =>
    right
    rw [h1, Bool.true_and] at h
    rcases Nat.lt_or_ge e.1 m with hlt | hge
    · have : Nat.blt e.1 m = true := by rw [Nat.blt_eq]; exact hlt
      rw [this] at h; cases h
    · exact hge
theorem ff_of {x y : Bool} (h : ¬ (x = true ∧ y = true)) : (!(x && y)) = true := by cases x <;> cases y <;> simp_all
/-- The slots, behind a store into one root. -/
theorem Keeps.store {w w' : World} {Sh Sh' : Nat → Prop} {R : Nat → Option Root} {D : Nat → DRoot} {id : Nat} {r r' : Root} {q : Path} {bq : Base} {uq n : DV} {dv' : DV} (d' : DRoot) (hsh : ∀ b, Sh b → w'.heap[b]? = w.heap[b]?) (hm : ∀ b, Sh b → Sh' b)
    (hr : R id = some r) (hq : lookD (D id).dv (D id).base q = some (bq, uq)) (hp : putD (D id).dv q n = some dv') (hl : like n.t uq.t = true)
    (hd : d'.dv = dv') (hb : d'.b = (D id).b) (hlog : r'.log = (depth q, !(n.t.flat && uq.t.flat)) :: r.log) : Keeps w w' Sh Sh' R (upt R id (some r')) D (upt D id d') where
  sh := hsh
  shm := hm
  root := fun i ri hri => by
    by_cases e : i = id
    · subst e
      rw [hr] at hri; cases hri
      refine ⟨r', [(depth q, !(n.t.flat && uq.t.flat))], upt_same _ _ _, hlog, fun p t hf hpre b u hu ht => ?_, fun p hpre k o u hu => ?_⟩
      · rw [upt_same]
        have hbase : d'.base = (D i).base := by rw [DRoot.base, hb]; rfl
        rw [hd, hbase]
        have h := (keep_put n q _ _ _ _ _ hq hp hl p _ _ _ hu).2 (by
          have hpre := bad1 hpre
          rw [ht]
          by_cases hff : n.t.flat = true ∧ uq.t.flat = true
          · by_cases ha : t.agg = true
            · right
              rcases hpre with hpre | hpre
              · simp [ha] at hpre
              · exact hpre
            · left; exact ⟨hff, by simpa using ha, hf⟩
          · right
            rcases hpre with hpre | hpre
            · have h2 := ff_of hff
              rw [h2] at hpre; cases hpre
            · exact hpre)
        obtain ⟨u', h1, h2, h3⟩ := h
        exact ⟨b, u', h1, h2.trans ht, h3⟩
      · rw [upt_same]
        have hbase : d'.base = (D i).base := by rw [DRoot.base, hb]; rfl
        rw [hd, hbase]
        exact (keep_put n q _ _ _ _ _ hq hp hl p _ _ _ hu).1 (by
          have hpre := bad1 hpre
          by_cases hff : n.t.flat = true ∧ uq.t.flat = true
          · exact .inl hff
          · right
            rcases hpre with hpre | hpre
            · have h2 := ff_of hff
              rw [h2] at hpre; cases hpre
            · exact hpre)
    · refine ⟨ri, [], (upt_ne _ _ e).trans hri, rfl, fun p t _ _ b u hu ht => ?_, fun p _ k o u hu => ?_⟩
      · rw [upt_ne _ _ e]; exact ⟨b, u, hu, ht, rfl⟩
      · rw [upt_ne _ _ e]; exact ⟨u, hu⟩
/-- A new root. -/
theorem Keeps.add {w w' : World} {Sh Sh' : Nat → Prop} {R : Nat → Option Root} {D : Nat → DRoot} {id : Nat} (r' : Option Root) (d' : DRoot) (hsh : ∀ b, Sh b → w'.heap[b]? = w.heap[b]?) (hm : ∀ b, Sh b → Sh' b) (hr : R id = none) :
    Keeps w w' Sh Sh' R (upt R id r') D (upt D id d') where
  sh := hsh
  shm := hm
  root := fun i ri hri => by
    have e : i ≠ id := fun e => by subst e; rw [hr] at hri; cases hri
    refine ⟨ri, [], (upt_ne _ _ e).trans hri, rfl, fun p t _ _ b u hu ht => ?_, fun p _ k o u hu => ?_⟩
    · rw [upt_ne _ _ e]; exact ⟨b, u, hu, ht, rfl⟩
    · rw [upt_ne _ _ e]; exact ⟨u, hu⟩
end Go.Proofs.Ytabjfkongckhaaa.Vm
