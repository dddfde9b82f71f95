/- Structs of whole numbers, compared. -/
import Derived.Test.YtabjfkongckhaaaVmI
import Derived.Laws.StructEq
namespace Go.Proofs.Ytabjfkongckhaaa.Vm
open Go Go.RowKit
set_option linter.unusedVariables false
namespace Ty
def ints : Ty → Bool
  | .nil => true
  | .cons (.int _) r => r.ints
  | _ => false
def eqX : (t : Ty) → t.den → t.den → Bool
  | .int _, x, y => (x : Int) == (y : Int)
  | .cons a r, x, y => a.eqX x.1 y.1 && r.eqX x.2 y.2
  | _, _, _ => true
end Ty
theorem run_eqFields {P : Program} {T : List (TypeId × TRow)} (hT : TabOK P T) {w : World} {Sh : Nat → Prop} {d : Nat} {xs ys : Array Value} : ∀ {off : Nat} {ty : Ty} {ts : List TypeId} {fs : List Field}, FldOK T off ty ts fs → ty.ints = true → ∀ {u v : ty.den} {cu cv : List Value}, Ty.RR w Sh ty u cu → Ty.RR w Sh ty v cv →
    (∀ j c, cu[j]? = some c → xs[off + j]? = some c) → (∀ j c, cv[j]? = some c → ys[off + j]? = some c) → (Op.eqFields (d + 1) xs ys fs).run P w = .ok (ty.eqX u v) w
  | off, .nil, [], [], _, _, u, v, cu, cv, _, _, _, _ => by simp [Op.eqFields, Ty.eqX]
  | off, .cons (.int k) r, t :: ts, f :: fs, h, hi, u, v, cu, cv, hu, hv, hx, hy => by
    obtain ⟨ht, ho, hn, ⟨rf, hr, hrt⟩, hz, hr'⟩ := h
    obtain ⟨c0, c1, rfl, hu0, hu1⟩ := hu
    obtain ⟨e0, e1, rfl, hv0, hv1⟩ := hv
    cases hu0; cases hv0
    subst ht
    have rk := hT _ rf hr
    have hk : P.underlying f.type = some (.int k) := by
      have := rk.desc
      unfold DescOK at this
      rw [hrt] at this; exact this
    have part1 : ∀ (zs : Array Value) (n : Int), zs[off]? = some (.int k n) → (part f.type zs f.offset).run P w = .ok (.int k n) w := by
      intro zs n hz
      unfold part
      simp only [Sem.run_bind, rk.isAgg, Result.andThen_ok, hrt, Ty.agg]
      rw [ho]
      simp [hz]
    have ih := run_eqFields (d := d) hT (off := off + 1) (ty := r) hr' hi (xs := xs) (ys := ys) hu1 hv1 (fun j c hj => by
        have := hx (j + 1) c (by simpa using hj)
        rw [← this]; congr 1; omega) (fun j c hj => by
        have := hy (j + 1) c (by simpa using hj)
        rw [← this]; congr 1; omega)
    rw [Op.eqFields]
    simp only [if_pos hn, Sem.run_bind, part1 xs _ (hx 0 _ rfl), part1 ys _ (hy 0 _ rfl), Result.andThen_ok, run_equalIn_int _ d f.type k k _ _ hk]
    show (if (!(u.1 == v.1)) = true then (pure false : Sem Bool) else Op.eqFields (d + 1) xs ys fs).run P w = .ok ((Ty.int k).eqX u.1 v.1 && r.eqX u.2 v.2) w
    have e : (Ty.int k).eqX u.1 v.1 = ((u.1 : Int) == (v.1 : Int)) := rfl
    rw [e]
    cases hb : ((u.1 : Int) == (v.1 : Int)) with
    | true => simpa using ih
    | false => simp
  | off, .nil, _ :: _, _, h, _, _, _, _, _, _, _, _, _ => by cases h
  | off, .nil, [], _ :: _, h, _, _, _, _, _, _, _, _, _ => by cases h
  | off, .cons _ _, [], _, h, _, _, _, _, _, _, _, _, _ => by cases h
  | off, .cons _ _, _ :: _, [], h, _, _, _, _, _, _, _, _, _ => by cases h
  | off, .cons .bool _, _ :: _, _ :: _, h, hi, _, _, _, _, _, _, _, _ => by cases hi
  | off, .cons .str _, _ :: _, _ :: _, h, hi, _, _, _, _, _, _, _, _ => by cases hi
  | off, .cons .hole _, _ :: _, _ :: _, h, hi, _, _, _, _, _, _, _, _ => by cases hi
  | off, .cons (.sl _ _ _) _, _ :: _, _ :: _, h, hi, _, _, _, _, _, _, _, _ => by cases hi
  | off, .cons .nil _, _ :: _, _ :: _, h, hi, _, _, _, _, _, _, _, _ => by cases hi
  | off, .cons (.cons _ _) _, _ :: _, _ :: _, h, hi, _, _, _, _, _, _, _, _ => by cases hi
  | off, .int _, _, _, h, _, _, _, _, _, _, _, _, _ | off, .bool, _, _, h, _, _, _, _, _, _, _, _, _ | off, .str, _, _, h, _, _, _, _, _, _, _, _, _ | off, .hole, _, _, h, _, _, _, _, _, _, _, _, _ | off, .sl _ _ _, _, _, h, _, _, _, _, _, _, _, _, _ => by cases h
/-- Two structs of whole numbers. -/
theorem run_eqStruct {P : Program} {T : List (TypeId × TRow)} (hT : TabOK P T) {w : World} {Sh : Nat → Prop} {xt : TypeId} {row : TRow} (hrow : tget T xt = some row) {a r : Ty} (hty : row.ty = .cons a r) (hi : (Ty.cons a r).ints = true) {u v : (Ty.cons a r).den} {cu cv : List Value} (hu : Ty.RR w Sh (.cons a r) u cu) (hv : Ty.RR w Sh (.cons a r) v cv) :
    (∀ op x y, (eqGuard op xt x y (.agg cu.toArray) (.agg cv.toArray)).run P w = .ok () w) ∧ (Op.equalIn 10000 xt (.agg cu.toArray) (.agg cv.toArray)).run P w = .ok ((Ty.cons a r).eqX u v) w := by
  have rk := hT _ row hrow
  have hag : row.ty.agg = true := by rw [hty]; rfl
  obtain ⟨g1, g2⟩ := rk.eqs hag
  obtain ⟨fs, hfs, hfo⟩ := rk.fields hag
  have hf : P.fieldsOf xt = fs := by simp [Program.fieldsOf, hfs]
  refine ⟨fun op x y => run_eqGuard_agg w op xt x y _ _ g2, ?_⟩
  rw [run_equalIn_struct w 9999 xt _ _ (by rw [hf]; exact hfs) g1, hf]
  rw [hty] at hfo
  exact run_eqFields (d := 9998) hT hfo hi hu hv (fun j c hj => by rw [Nat.zero_add]; simpa using hj) (fun j c hj => by rw [Nat.zero_add]; simpa using hj)
end Go.Proofs.Ytabjfkongckhaaa.Vm
