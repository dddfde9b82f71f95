/- What one operation does to slots and roots, as a program that asks for roots; first the operations that only compute. -/
import Derived.Test.YtabjfkongckhaaaVmF
namespace Go.Proofs.Ytabjfkongckhaaa.Vm
open Go Go.RowKit
set_option linter.unusedVariables false

inductive Prog (α : Type) : Type 1 where
  | ret (a : α)
  | fail
  | ask (id : Nat) (k : Option Root → Prog α)
  | test (b : Bool) (t e : Prog α)
  | use {γ : Type} (o : Option γ) (k : γ → Prog α)
namespace Prog
variable {α β : Type}
def bind : Prog α → (α → Prog β) → Prog β
  | .ret a, f => f a
  | .fail, _ => .fail
  | .ask id k, f => .ask id fun r => (k r).bind f
  | .test b t e, f => .test b (t.bind f) (e.bind f)
  | .use o k, f => .use o fun x => (k x).bind f
/-- What it answers. -/
def go (R : Nat → Option Root) : Prog α → Option α
  | .ret a => some a
  | .fail => none
  | .ask id k => (k (R id)).go R
  | .test b t e => bif b then t.go R else e.go R
  | .use o k => match o with
    | some x => (k x).go R
    | none => none
/-- Which roots it asks for. -/
def rds (R : Nat → Option Root) : Prog α → List Nat
  | .ret _ => []
  | .fail => []
  | .ask id k => id :: (k (R id)).rds R
  | .test b t e => bif b then t.rds R else e.rds R
  | .use o k => match o with
    | some x => (k x).rds R
    | none => []
/-- With what follows put behind each way. -/
def cps (R : Nat → Option Root) : Prog α → List Nat → (α → List Nat → Option β) → Option β
  | .ret a, l, f => f a l
  | .fail, _, _ => none
  | .ask id k, l, f => (k (R id)).cps R (id :: l) f
  | .test b t e, l, f => bif b then t.cps R l f else e.cps R l f
  | .use o k, l, f => match o with
    | some x => (k x).cps R l f
    | none => none
theorem cps_eq (R : Nat → Option Root) : ∀ (p : Prog α) (l : List Nat) (f : α → List Nat → Option β), p.cps R l f = match p.go R with
    | some a => f a ((p.rds R).reverse ++ l)
    | none => none
  | .ret a, l, f => rfl
  | .fail, _, _ => rfl
  | .ask id k, l, f => by
    show (k (R id)).cps R (id :: l) f = match (k (R id)).go R with
      | some a => f a ((id :: (k (R id)).rds R).reverse ++ l)
      | none => none
    rw [cps_eq R (k (R id))]
    cases (k (R id)).go R with
    | none => rfl
    | some a => simp
  | .test b t e, l, f => by
    cases b
    · exact cps_eq R e l f
    · exact cps_eq R t l f
  | .use o k, l, f => by
    cases o with
    | none => rfl
    | some x => exact cps_eq R (k x) l f
/-- It answers the same wherever the roots that it asks for are the same. -/
theorem go_congr {R R' : Nat → Option Root} : ∀ (p : Prog α), (∀ id ∈ p.rds R, R' id = R id) → p.go R' = p.go R ∧ p.rds R' = p.rds R
  | .ret a, _ => ⟨rfl, rfl⟩
  | .fail, _ => ⟨rfl, rfl⟩
  | .ask id k, h => by
    have e : R' id = R id := h id List.mem_cons_self
    have := go_congr (k (R id)) (fun i hi => h i (List.mem_cons_of_mem _ hi))
    show (k (R' id)).go R' = (k (R id)).go R ∧ id :: (k (R' id)).rds R' = id :: (k (R id)).rds R
    rw [e, this.1, this.2]; exact ⟨rfl, rfl⟩
  | .test b t e, h => by
    cases b
    · exact go_congr e h
    · exact go_congr t h
  | .use o k, h => by
    cases o with
    | none => exact ⟨rfl, rfl⟩
    | some x => exact go_congr (k x) h
theorem go_bind (R : Nat → Option Root) : ∀ (p : Prog α) (f : α → Prog β), (p.bind f).go R = match p.go R with
    | some a => (f a).go R
    | none => none
  | .ret a, f => rfl
  | .fail, _ => rfl
  | .ask id k, f => go_bind R (k (R id)) f
  | .test b t e, f => by
    cases b
    · exact go_bind R e f
    · exact go_bind R t f
  | .use o k, f => by
    cases o with
    | none => rfl
    | some x => exact go_bind R (k x) f
end Prog

abbrev Writes := List (Nat × Root)
def app : Writes → (Nat → Option Root) → Nat → Option Root
  | [], R => R
  | (i, r) :: ws, R => upt (app ws R) i (some r)
/-- An operation's outcome: what its slot holds then, and the roots that turn, the last one first. -/
structure Res where
  av : AV
  ws : Writes
def St.after (st : St) (dst : Option Tmp) (r : Res) : St := ⟨match dst with
  | some d => upt st.tmps d r.av
  | none => st.tmps, app r.ws st.roots⟩

def tget : List (TypeId × TRow) → TypeId → Option TRow
  | [], _ => none
  | (i, r) :: T, t => bif Nat.beq i t then some r else tget T t

def evalC : Value → AV
  | .int k n => .sh (.int k) n
  | .bool b => .sh .bool b
  | .string s => .sh .str s
  | .slice none 0 0 => .nilsl
  | _ => .any
def evalA (T : Nat → AV) : Operand → AV
  | .tmp t => T t
  | .const v => evalC v
  | .func f => .fn f .nilf
  | .global _ => .any

/-- What becomes of the machine's operation: its outcome is as told. -/
def Sound (C : Ctx) (o : Oper) (st : St) (res : Res) : Prop := ∀ (D : Nat → DRoot) (Sh : Nat → Prop) (a : Act) (w : World) (K : Act → World → Prop) (Q : Exit → Act → World → Prop), Rel C st D Sh a w →
  (∀ D' Sh' a' w', Rel C (st.after o.dst res) D' Sh' a' w' → K a' w') → o.wp C.P a w K Q
def dstOk (n : Nat) : Option Tmp → Bool
  | some d => Nat.blt d n
  | none => true

section
variable {C : Ctx} {st : St} {D : Nat → DRoot} {Sh : Nat → Prop} {a : Act} {w w' : World} {o : Oper}
theorem put_none (a : Act) (v : Value) : a.put none v = a := rfl
theorem Rel.set (h : Rel C st D Sh a w) {dst : Option Tmp} (hd : dstOk C.n dst = true) {x : AV} {v : Value} (hv : AVR w Sh st.roots D x v) : Rel C (st.after dst ⟨x, []⟩) D Sh (a.put dst v) w := by
  cases dst with
  | none => exact h
  | some d => exact h.put (by simpa [dstOk, Nat.blt_eq] using hd) hv
theorem wp_value {K : Act → World → Prop} {Q : Exit → Act → World → Prop} {v : Value} (h : (execOp a.eval o).run C.P w = .ok (.value v) w') (hK : K (a.put o.dst v) w') : o.wp C.P a w K Q := by
  unfold Oper.wp; rw [h]; exact hK
theorem wp_skip' {K : Act → World → Prop} {Q : Exit → Act → World → Prop} (h : (execOp a.eval o).run C.P w = .ok .skip w') (hK : K (a.put o.dst undef) w') : o.wp C.P a w K Q := by
  unfold Oper.wp; rw [h]; exact hK
/-- An operation that only computes. -/
theorem sound_quiet {x : AV} (hd : dstOk C.n o.dst = true)
    (h : ∀ (D : Nat → DRoot) (Sh : Nat → Prop) (a : Act) (w : World), Rel C st D Sh a w → ∃ v, (execOp a.eval o).run C.P w = .ok (.value v) w ∧ AVR w Sh st.roots D x v) : Sound C o st ⟨x, []⟩ := by
  intro D Sh a w K Q hR hK
  obtain ⟨v, hv, hr⟩ := h D Sh a w hR
  exact wp_value hv (hK D Sh _ _ (hR.set hd hr))

theorem avr_const (w : World) (Sh : Nat → Prop) (R : Nat → Option Root) (D : Nat → DRoot) (v : Value) : AVR w Sh R D (evalC v) v := by
  unfold evalC
  split <;> first | trivial | exact ⟨_, rfl, rfl⟩
theorem Rel.eval (h : Rel C st D Sh a w) (x : Operand) : AVR w Sh st.roots D (evalA st.tmps x) (a.eval x) := by
  cases x with
  | tmp t => exact h.tmp t
  | const v => exact avr_const w Sh _ D v
  | func f => exact ⟨_, ⟨[], rfl, rfl⟩, rfl⟩
  | global g => trivial
/-- A number, a flag, a text in a slot. -/
theorem avr_int {R : Nat → Option Root} {k : IntKind} {n : Int} {v : Value} (h : AVR w Sh R D (.sh (.int k) n) v) : v = .int k n := by
  obtain ⟨cs, hc, rfl⟩ := h; cases hc; rfl
theorem avr_bool {R : Nat → Option Root} {b : Bool} {v : Value} (h : AVR w Sh R D (.sh .bool b) v) : v = .bool b := by
  obtain ⟨cs, hc, rfl⟩ := h; cases hc; rfl
theorem avr_str {R : Nat → Option Root} {b : ByteArray} {v : Value} (h : AVR w Sh R D (.sh .str b) v) : v = .string b := by
  obtain ⟨cs, hc, rfl⟩ := h; cases hc; rfl
theorem mk_int {R : Nat → Option Root} (k : IntKind) (n : Int) : AVR w Sh R D (.sh (.int k) n) (.int k n) := ⟨_, rfl, rfl⟩
theorem mk_bool {R : Nat → Option Root} (b : Bool) : AVR w Sh R D (.sh .bool b) (.bool b) := ⟨_, rfl, rfl⟩
theorem mk_str {R : Nat → Option Root} (b : ByteArray) : AVR w Sh R D (.sh .str b) (.string b) := ⟨_, rfl, rfl⟩
end

/-! ### numbers -/
def ibits (op : BinOp) (k : IntKind) (x y : Int) : Int :=
  let a := BitVec.ofInt k.bits x
  let b := BitVec.ofInt k.bits y
  k.wrap (match op with
    | .and => a &&& b
    | .or => a ||| b
    | .xor => a ^^^ b
    | _ => a &&& ~~~b).toNat
def binInt (op : BinOp) (k : IntKind) (x y : Int) : Prog AV :=
  match op with
  | .add => .ret (.sh (.int k) (k.wrap (x + y)))
  | .sub => .ret (.sh (.int k) (k.wrap (x - y)))
  | .mul => .ret (.sh (.int k) (k.wrap (x * y)))
  | .quo => .test (y == 0) .fail (.ret (.sh (.int k) (k.wrap (x.tdiv y))))
  | .rem => .test (y == 0) .fail (.ret (.sh (.int k) (x.tmod y)))
  | .and => .ret (.sh (.int k) (ibits .and k x y))
  | .or => .ret (.sh (.int k) (ibits .or k x y))
  | .xor => .ret (.sh (.int k) (ibits .xor k x y))
  | .andNot => .ret (.sh (.int k) (ibits .andNot k x y))
  | .eql => .ret (.sh .bool (x == y))
  | .neq => .ret (.sh .bool (x != y))
  | .lss => .ret (.sh .bool (decide (x < y)))
  | .leq => .ret (.sh .bool (decide (x ≤ y)))
  | .gtr => .ret (.sh .bool (decide (x > y)))
  | .geq => .ret (.sh .bool (decide (x ≥ y)))
  | _ => .fail
def binShift (op : BinOp) (k : IntKind) (x y : Int) : Prog AV :=
  .test (decide (y < 0)) .fail (match op with
    | .shl => .ret (.sh (.int k) (k.wrap (x * 2 ^ (min y.toNat k.bits))))
    | .shr => .ret (.sh (.int k) (x.fdiv (2 ^ (min y.toNat k.bits))))
    | _ => .fail)
/-- '==' of what has no rows. -/
def eqX : (t : Ty) → t.den → t.den → Bool
  | .int _, x, y => (x : Int) == (y : Int)
  | .bool, x, y => (x : Bool) == (y : Bool)
  | .str, x, y => (x : ByteArray).toList == (y : ByteArray).toList
  | .cons a r, x, y => eqX a x.1 y.1 && eqX r x.2 y.2
  | .nil, _, _ => true
  | _, _, _ => false
def isShift : BinOp → Bool
  | .shl => true
  | .shr => true
  | _ => false
def binP (op : BinOp) (x y : AV) : Prog AV :=
  match x, y with
  | .sh (.int k) a, .sh (.int k') b => bif isShift op then binShift op k a b else bif decide (k = k') then binInt op k a b else .fail
  | .sh .bool a, .sh .bool b => match op with
    | .eql => .ret (.sh .bool ((a : Bool) == (b : Bool)))
    | .neq => .ret (.sh .bool (!((a : Bool) == (b : Bool))))
    | _ => .fail
  | .sh .str a, .sh .str b => match op with
    | .eql => .ret (.sh .bool ((a : ByteArray).toList == (b : ByteArray).toList))
    | .neq => .ret (.sh .bool (!((a : ByteArray).toList == (b : ByteArray).toList)))
    | _ => .fail
  | _, _ => .fail
def unP (op : UnOp) (x : AV) : Prog AV :=
  match op, x with
  | .neg, .sh (.int k) a => .ret (.sh (.int k) (k.wrap (0 - a)))
  | .xor, .sh (.int k) a => .ret (.sh (.int k) (ibits .xor k (if k.signed then -1 else k.max) a))
  | .not, .sh .bool b => .ret (.sh .bool (!(b : Bool)))
  | _, _ => .fail

theorem run_intOp {P : Program} {w : World} {op : BinOp} {k : IntKind} {x y : Int} {R : Nat → Option Root} {r : AV} (h : (binInt op k x y).go R = some r) {Sh : Nat → Prop} {D : Nat → DRoot} :
    ∃ v, (match op with
    | .add | .sub | .mul => Op.intArith op k x y
    | .quo | .rem => Op.intDiv op k x y
    | .and | .or | .xor | .andNot => Op.intBits op k x y
    | _ => Op.intCmp op x y : Sem Value).run P w = .ok v w ∧ AVR w Sh R D r v := by
  cases op <;> simp only [binInt, Prog.go] at h <;> try (cases h; done)
  case add => cases h; exact ⟨_, rfl, mk_int _ _⟩
  case sub => cases h; exact ⟨_, rfl, mk_int _ _⟩
  case mul => cases h; exact ⟨_, rfl, mk_int _ _⟩
  case quo =>
    cases hy : (y == 0) with
    | true => rw [hy] at h; cases h
    | false =>
      rw [hy] at h; cases h
      have : ¬ y = 0 := by simpa using hy
      exact ⟨.int k (k.wrap (x.tdiv y)), by simp [Op.intDiv, this], mk_int _ _⟩
  case rem =>
    cases hy : (y == 0) with
    | true => rw [hy] at h; cases h
    | false =>
      rw [hy] at h; cases h
      have : ¬ y = 0 := by simpa using hy
      exact ⟨.int k (x.tmod y), by simp [Op.intDiv, this], mk_int _ _⟩
  case and => cases h; exact ⟨_, rfl, mk_int _ _⟩
  case or => cases h; exact ⟨_, rfl, mk_int _ _⟩
  case xor => cases h; exact ⟨_, rfl, mk_int _ _⟩
  case andNot => cases h; exact ⟨_, rfl, mk_int _ _⟩
  case eql => cases h; exact ⟨_, rfl, mk_bool _⟩
  case neq => cases h; exact ⟨_, rfl, mk_bool _⟩
  case lss => cases h; exact ⟨_, rfl, mk_bool _⟩
  case leq => cases h; exact ⟨_, rfl, mk_bool _⟩
  case gtr => cases h; exact ⟨_, rfl, mk_bool _⟩
  case geq => cases h; exact ⟨_, rfl, mk_bool _⟩
theorem run_shiftOp {P : Program} {w : World} {op : BinOp} {k k' : IntKind} {x y : Int} {R : Nat → Option Root} {r : AV} (h : (binShift op k x y).go R = some r) {Sh : Nat → Prop} {D : Nat → DRoot} :
    ∃ v, (Op.shift op k x k' y).run P w = .ok v w ∧ AVR w Sh R D r v := by
  simp only [binShift, Prog.go] at h
  cases hy : decide (y < 0) with
  | true => rw [hy] at h; cases h
  | false =>
    rw [hy] at h
    have hn : ¬ y < 0 := by simpa using hy
    cases op <;> simp only [cond_false, Prog.go] at h <;> try (cases h; done)
    · cases h; exact ⟨.int k (k.wrap (x * 2 ^ (min y.toNat k.bits))), by simp [Op.shift, hn], mk_int _ _⟩
    · cases h; exact ⟨.int k (x.fdiv (2 ^ (min y.toNat k.bits))), by simp [Op.shift, hn], mk_int _ _⟩
theorem run_eqGuard {P : Program} {w : World} (op : BinOp) (t : TypeId) (x y : Operand) {a b : Value} (h : match a, b with
    | .nilIface, .nilIface => False
    | .agg _, .agg _ => False
    | _, _ => True) : (eqGuard op t x y a b).run P w = .ok () w := by
  cases op <;> first | rfl | (cases a <;> cases b <;> first | rfl | exact h.elim)
end Go.Proofs.Ytabjfkongckhaaa.Vm
