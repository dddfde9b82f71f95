/- What runs: contracts, operations, regions, code (definitions alone). -/
import Derived.Test.YtabjfkongckhaaaVmM
namespace Go.Proofs.Ytabjfkongckhaaa.Vm
open Go Go.RowKit
set_option linter.unusedVariables false

/-! ### what is handed to be read -/
inductive Pat where
  | val (t : Ty)
  | sptr (t : Ty)
  | fn (f : FuncId) (c : Pat)
  | nil
  | cons (a r : Pat)
namespace Pat
@[reducible] def den : Pat → Type
  | .val t => t.den
  | .sptr t => t.den
  | .fn _ c => c.den
  | .nil => Unit
  | .cons a r => a.den × r.den
def av : (p : Pat) → p.den → AV
  | .val t, x => .sh t x
  | .sptr t, x => .sptr t x
  | .fn f c, x => .fn f (c.av x)
  | .nil, _ => .nilf
  | .cons a r, x => .consf (a.av x.1) (r.av x.2)
end Pat
def asT (v : V) (t : Ty) : Option t.den := if h : v.t.shr = t.shr then some (cast (Ty.den_same h) v.x) else none
def okR (r : Root) (s m : Nat) (ho : Bool) : Bool := Nat.ble s r.log.length && since r.log s m ho
/-- A value to read: what the slot says, seen as shared. -/
def lendV : Ty → AV → Writes → Prog V
  | ty, .sh t x, ws => .ret ⟨t, x⟩
  | ty, .nilsl, ws => match ty with
    | .sl o e t => .ret ⟨.sl o e t, []⟩
    | _ => .fail
  | ty, .al id p s t, ws => getR ws id fun
    | some r => bif okR r s (depth p + 1) (!t.agg) then match getV r.v p with
        | some v => .ret v
        | none => .fail else .fail
    | none => .fail
  | ty, .cut id p s t lo n, ws => getR ws id fun
    | some r => bif okR r s (depth p + 1) true then match getV r.v p with
        | some ⟨.sl true e te, xs⟩ => .ret ⟨.sl false e te, List.take n (List.drop lo xs)⟩
        | _ => .fail else .fail
    | none => .fail
  | ty, .nilf, ws => match ty with
    | .nil => .ret ⟨.nil, ()⟩
    | _ => .fail
  | ty, .consf a b, ws => match ty with
    | .cons ta tb => (lendV ta a ws).bind fun u => (lendV tb b ws).bind fun v => .ret ⟨.cons u.t v.t, (u.x, v.x)⟩
    | _ => .fail
  | _, _, _ => .fail
def lendP : (p : Pat) → AV → Writes → Prog p.den
  | .val t, x, ws => (lendV t x ws).bind fun v => .use (asT v t) .ret
  | .sptr t, .sptr t' x, ws => .use (asT ⟨t', x⟩ t) .ret
  | .sptr t, .ptr id p s, ws => getR ws id fun
    | some r => bif okR r s (depth p) true then match getV r.v p with
        | some v => .use (asT v t) .ret
        | none => .fail else .fail
    | none => .fail
  | .fn f c, .fn g y, ws => bif Nat.beq f g then lendP c y ws else .fail
  | .nil, .nilf, ws => .ret ()
  | .cons a r, .consf x y, ws => (lendP a x ws).bind fun u => (lendP r y ws).bind fun v => .ret (u, v)
  | _, _, _ => .fail
/-- Which roots are read so. -/
def lent : AV → List Nat
  | .al id _ _ _ => [id]
  | .cut id _ _ _ _ _ => [id]
  | .ptr id _ _ => [id]
  | .consf a b => lent a ++ lent b
  | .fn _ c => lent c
  | _ => []

/-- Lower: shared where it was own, at some places; what lies behind a shared place is shared. -/
def lowB : Ty → Ty → Bool
  | .sl o e t, .sl o' e' t' => Nat.beq e e' && (match o' with
    | true => o && lowB t t'
    | false => decide (t.shr = t'))
  | .cons a r, .cons a' r' => lowB a a' && lowB r r'
  | t, t' => decide (t = t')
def meetT : Ty → Ty → Ty
  | .sl o e t, .sl o' e' t' => bif o && o' then .sl true e (meetT t t') else .sl false e t.shr
  | .cons a r, .cons a' r' => .cons (meetT a a') (meetT r r')
  | t, _ => t
def toT (v : V) (t : Ty) : Option t.den := bif lowB v.t t then asT v t else none
/-- Taken; what is cut out of own rows is shared from now on, with the rows. -/
def takeQ (ty : Ty) (x : AV) (ws : Writes) : Prog (V × Writes) := match x with
  | .cut id p s t lo n => getR ws id fun
    | some r => bif okR r s (depth p + 1) true then match getV r.v p with
        | some ⟨.sl true e te, xs⟩ => .use (asT ⟨.sl true e te, xs⟩ (.sl false e te.shr)) fun ys => bif like (.sl true e te) ty then match putV r.v p ⟨.sl false e te.shr, ys⟩ with
          | some v' => .ret (⟨.sl false e te.shr, List.take n (List.drop lo ys)⟩, (id, stored r p ⟨.sl false e te.shr, ys⟩ ⟨.sl true e te, xs⟩ v') :: ws)
          | none => .fail else .fail
        | _ => .fail else .fail
    | none => .fail
  | x => takeP ty x ws
def takeTo (t : Ty) (x : AV) (ws : Writes) : Prog (t.den × Writes) := match x, t with
  | .nilsl, .sl o e te => .ret (([] : List te.den), ws)
  | x, t => (takeQ t x ws).bind fun q => .use (toT q.1 t) fun y => .ret (y, q.2)
def fitV (d : Nat) (v : V) (t : Ty) : V := bif Nat.beq d 0 then v else match toT v t with
  | some x => ⟨t, x⟩
  | none => v
def storeQ (row : TRow) (x y : AV) : Prog Writes := (takeQ row.ty y []).bind fun q => match x with
  | .ptr id p s => getR q.2 id fun
    | some r => bif okR r s (depth p) true then match getV r.v p with
        | some u => bif like q.1.t u.t then match putV r.v p (fitV (depth p) q.1 u.t) with
            | some v' => .ret ((id, stored r p (fitV (depth p) q.1 u.t) u v') :: q.2)
            | none => .fail
          else .fail
        | none => .fail
      else .fail
    | none => .fail
  | _ => .fail

/-! ### contracts -/
inductive PK where
  /-- read -/
  | r (p : Pat)
  /-- handed over -/
  | o (t : Ty)
  /-- a pointer to a variable of the caller's own -/
  | p (t t' : Ty)
  /-- a value whose rows may be written -/
  | c (t : Ty)
namespace PK
@[reducible] def den : PK → Type
  | .r pt => pt.den
  | .o t => t.den
  | .p t _ => t.den
  | .c t => t.den
end PK
@[reducible] def argsT : List PK → Type
  | [] => Unit
  | k :: ks => k.den × argsT ks
@[reducible] def backs : List PK → List Ty
  | [] => []
  | .p _ t' :: ks => t' :: backs ks
  | .c t :: ks => t :: backs ks
  | _ :: ks => backs ks
@[reducible] def tysT : List Ty → Type
  | [] => Unit
  | [t] => t.den
  | t :: ts => t.den × tysT ts
/-- One result or none, several, a pointer to a new variable. -/
inductive RK where
  | one (t : Ty)
  | many (ts : List Ty)
  | ptr (t : Ty)
@[reducible] def RK.tys : RK → List Ty
  | .one t => [t]
  | .many ts => ts
  | .ptr t => [t]
@[reducible] def ansT (rk : RK) (ks : List PK) : Type := tysT (rk.tys ++ backs ks)
structure Con where
  ks : List PK
  rk : RK
  fn : argsT ks → Option (ansT rk ks)
abbrev Cons := FuncId → List Nat → Option Con

/-! ### loops -/
inductive Lp (X A : Type) where
  | again (x : X)
  | exit (x : X)
  | ret (a : A)
def iterO {X A : Type} (step : X → Option (Lp X A)) : Nat → X → Option (X ⊕ A)
  | 0, _ => none
  | n + 1, x => match step x with
    | some (.again x') => iterO step n x'
    | some (.exit x') => some (.inl x')
    | some (.ret a) => some (.inr a)
    | none => none
open Classical in
noncomputable def loopO {X A : Type} (step : X → Option (Lp X A)) (x : X) : Option (X ⊕ A) :=
  if h : ∃ y : X ⊕ A, ∃ n, iterO step n x = some y then some (Classical.choose h) else none
inductive Item where
  | pat (slot : Nat) (p : Pat)
  | own (slot : Nat) (t : Ty)
  | root (id : Nat) (blk : Bool) (t : Ty) (ps : List Nat)
@[reducible] def Item.den : Item → Type
  | .pat _ p => p.den
  | .own _ t => t.den
  | .root _ _ t _ => t.den
@[reducible] def itemsT : List Item → Type
  | [] => Unit
  | i :: is => i.den × itemsT is
structure Loop where
  items : List Item
  out : Nat
abbrev Loops := Nat → Option Loop
def ownId (slot : Nat) : Nat := 100000 + slot
def clean (log : List (Nat × Bool)) : List (Nat × Bool) := bif since log 0 1 false then [] else [(0, true)]
/-- The state that the items tell. -/
def rootAV (id : Nat) (blk : Bool) (t : Ty) : AV := bif blk then .ptr id [] 0 else .al id [] 0 t
def rootR (o : Option Root) (v : V) : Option Root := match o with
  | some r => some ⟨v, r.blk, clean r.log, r.org, r.pin⟩
  | none => none
def injT : (is : List Item) → itemsT is → Nat → AV
  | [], _, _ => .any
  | .pat s p :: is, x, t => bif Nat.beq s t then p.av x.1 else injT is x.2 t
  | .own s ty :: is, x, t => bif Nat.beq s t then .al (ownId s) [] 0 ty else injT is x.2 t
  | .root id blk ty ps :: is, x, t => bif ps.any (Nat.beq t) then rootAV id blk ty else injT is x.2 t
def injR (R0 : Nat → Option Root) : (is : List Item) → itemsT is → Nat → Option Root
  | [], _, _ => none
  | .pat s p :: is, x, id => injR R0 is x.2 id
  | .own s ty :: is, x, id => bif Nat.beq (ownId s) id then some ⟨⟨ty, x.1⟩, false, [], none, none⟩ else injR R0 is x.2 id
  | .root k blk ty ps :: is, x, id => bif Nat.beq k id then rootR (R0 k) ⟨ty, x.1⟩ else injR R0 is x.2 id
def inj (R0 : Nat → Option Root) (is : List Item) (x : itemsT is) : St := ⟨injT is x, injR R0 is x⟩
def canonV : Ty → AV → Option V
  | ty, .sh t x => some ⟨t, x⟩
  | .sl o e t, .nilsl => some ⟨.sl o e t, []⟩
  | .nil, .nilf => some ⟨.nil, ()⟩
  | .cons ta tb, .consf a b => match canonV ta a, canonV tb b with
    | some u, some v => some ⟨.cons u.t v.t, (u.x, v.x)⟩
    | _, _ => none
  | _, _ => none
def canon : (p : Pat) → AV → Option p.den
  | .val t, x => match canonV t x with
    | some v => asT v t
    | none => none
  | .sptr t, .sptr t' x => asT ⟨t', x⟩ t
  | .fn f c, .fn g y => bif Nat.beq f g then canon c y else none
  | .nil, .nilf => some ()
  | .cons a r, .consf x y => match canon a x, canon r y with
    | some u, some v => some (u, v)
    | _, _ => none
  | _, _ => none
def eqO : Option Nat → Option Nat → Bool
  | none, none => true
  | some a, some b => Nat.beq a b
  | _, _ => false
def eqBool : Bool → Bool → Bool
  | true, b => b
  | false, b => !b
/-- The root stands to the parameters as it stood at the first round's head. -/
def sameR (r0 r : Root) (t : Ty) : Bool := eqBool r0.blk r.blk && eqO r0.org r.org && eqO r0.pin r.pin && (r.org.isNone || (decide (r.v.t = t) && (!since r0.log 0 1 false || since r.log 0 1 false)))
/-- R0: the roots at the first round's head; R: the roots now. -/
def matchI (R0 : Nat → Option Root) (T : Nat → AV) (R : Nat → Option Root) : (i : Item) → Writes → Option (i.den × Writes)
  | .pat s p, ws => match canon p (T s) with
    | some x => some (x, ws)
    | none => none
  | .own s t, ws => bif t.flat then none else (takeTo t (T s) ws).go R
  | .root id blk t ps, ws => match R0 id, app ws R id with
    | some r0, some r => bif sameR r0 r t && eqBool blk r.blk && (blk || decide (r.v.t = t)) && ps.all (fun s => match T s with
        | .ptr j [] _ => blk && Nat.beq j id
        | .al j [] s' t' => !blk && Nat.beq j id && okR r s' 1 (!t'.agg) && decide (t' = t)
        | _ => false) then match toT r.v t with
      | some x => some (x, ws)
      | none => none else none
    | _, _ => none
def matchL (R0 : Nat → Option Root) (T : Nat → AV) (R : Nat → Option Root) : (is : List Item) → Writes → Option (itemsT is)
  | [], ws => some ()
  | i :: is, ws => match matchI R0 T R i ws with
    | some (x, ws') => match matchL R0 T R is ws' with
      | some y => some (x, y)
      | none => none
    | none => none
def itemIds : List Item → List Nat
  | [] => []
  | .pat _ _ :: is => itemIds is
  | .own s _ :: is => ownId s :: itemIds is
  | .root k _ _ _ :: is => k :: itemIds is
def isRoot : Item → Bool
  | .root _ _ _ _ => true
  | _ => false
def rootsLast : List Item → Bool
  | [] => true
  | i :: is => bif isRoot i then is.all isRoot else rootsLast is
def nodupN : List Nat → Bool
  | [] => true
  | x :: l => !l.any (Nat.beq x) && nodupN l
def itemsOk (is : List Item) : Bool := rootsLast is && nodupN (itemIds is)

/-! ### operations -/
def splitB (p : Prog Res) : Prog Res := p.bind fun r => match r.av with
  | .sh .bool b => .test (b : Bool) (.ret ⟨.sh .bool true, r.ws⟩) (.ret ⟨.sh .bool false, r.ws⟩)
  | _ => .ret r
def q (p : Prog AV) : Prog Res := p.bind fun a => .ret ⟨a, []⟩
def uni (t : Ty) : List V → Option (List t.den)
  | [] => some []
  | v :: vs => match toT v t, uni t vs with
    | some x, some xs => some (x :: xs)
    | _, _ => none
def meetL (t : Ty) : List V → Ty
  | [] => t
  | v :: vs => meetL (meetT t v.t) vs
def takeAll (te : Ty) : List AV → Writes → Prog (List V × Writes)
  | [], ws => .ret ([], ws)
  | x :: xs, ws => (takeP te x ws).bind fun u => (takeAll te xs u.2).bind fun v => .ret (u.1 :: v.1, v.2)
def seqParts (n : Nat) : List (Nat × Operand) → Bool
  | [] => true
  | (i, _) :: ps => Nat.beq i n && seqParts (n + 1) ps
def newRoot (d : Nat) (v : V) (ws : Writes) : Prog Res := getR ws d fun
  | none => .ret ⟨.al d [] 0 v.t, (d, ⟨v, false, [], none, none⟩) :: ws⟩
  | some _ => .fail
def buildSliceP (row : TRow) (len : Nat) (ps : List (Nat × Operand)) (ρ : Operand → AV) (d : Nat) : Prog Res := match elemSz row with
  | some (e, te) => bif seqParts 0 ps && Nat.beq ps.length len && Nat.ble (len * te.sz) 16777216 then (takeAll te (ps.map fun p => ρ p.2) []).bind fun w => match w.1 with
      | [] => newRoot d ⟨.sl true e te.own, []⟩ w.2
      | v :: vs => match uni (meetL v.t vs) (v :: vs) with
        | some xs => newRoot d ⟨.sl true e (meetL v.t vs), xs⟩ w.2
        | none => .fail
    else .fail
  | none => .fail
def bytesL (b : ByteArray) : List Int := b.data.toList.map fun c => ((c.toNat : Nat) : Int)
/-- What is appended. -/
def srcP (te : Ty) (y : AV) (ws : Writes) : Prog (V × Writes) := match y with
  | .sh (.sl o e t) xs => bif (Ty.sl o e t).plain then .ret (⟨.sl true e t, xs⟩, ws) else .fail
  | .nilsl => .ret (⟨.sl true 0 te.own, []⟩, ws)
  | .al id p s (.sl o e t) => takeP (.sl o e t) (.al id p s (.sl o e t)) ws
  | .cut id p s (.sl o' e' t0) lo n => getR ws id fun
    | some r => bif okR r s (depth p + 1) true then match getV r.v p with
        | some ⟨.sl true e t', xs⟩ => bif t'.flat then .ret (⟨.sl true e t', List.take n (List.drop lo xs)⟩, ws)
          else (takeQ (.sl o' e' t0) (.cut id p s (.sl o' e' t0) lo n) ws).bind fun u => match u.1 with
            | ⟨.sl false e2 t2, ys⟩ => bif t2.plain then .ret (⟨.sl true e2 t2, ys⟩, u.2) else .fail
            | _ => .fail
        | _ => .fail else .fail
    | none => .fail
  | .sh .str b => .ret (⟨.sl true 0 (.int .u8), bytesL b⟩, ws)
  | _ => .fail
def fits (n b : Nat) : Bool := decide (n * b ≤ 140737488355328)
def lowL (v : V) (t : Ty) : Option (List t.den) := match v with
  | ⟨.sl true e t1, xs⟩ => toT ⟨.sl true e t1, xs⟩ (.sl true e t)
  | _ => none
def appendP (row : TRow) (bytes : Nat) (x y : AV) (d : Nat) : Prog Res := match elemSz row with
  | some (e, te) => (takeP row.ty x []).bind fun u => (srcP te y u.2).bind fun v => match u.1, v.1 with
    | ⟨.sl true e1 t1, xs⟩, ⟨.sl true e2 t2, ys⟩ => bif Nat.beq t2.sz te.sz then match x with
      | .nilsl => .test (fits (List.length ys) bytes) (newRoot d ⟨.sl true e t2, ys⟩ v.2) .fail
      | _ => bif Nat.beq e1 e && Nat.beq t1.sz te.sz then match lowL ⟨.sl true e1 t1, xs⟩ (meetT t1 t2), lowL ⟨.sl true e2 t2, ys⟩ (meetT t1 t2) with
        | some xs', some ys' => .test (fits (List.length xs + List.length ys) bytes) (newRoot d ⟨.sl true e (meetT t1 t2), xs' ++ ys'⟩ v.2) .fail
        | _, _ => .fail
        else .fail
      else .fail
    | _, _ => .fail
  | none => .fail
def kindOk (r : TRow) : Bool := match r.ty with
  | .str => true
  | .sl _ _ _ => true
  | _ => false
def idx1 : AV → Option Int
  | .sh (.int _) n => some n
  | _ => none
def cutOk (l n : Int) (m : Nat) : Bool := decide (0 ≤ l) && decide (l ≤ n) && decide (n ≤ (m : Int))
def optI : Option AV → Option (Option Int)
  | none => some none
  | some a => match idx1 a with
    | some n => some (some n)
    | none => none
def sliceP (row : TRow) (x : AV) (lo hi : Option AV) : Prog Res := match elemSz row, optI lo, optI hi with
  | some (e, te), some l, some h => match x with
    | .sh (.sl o e' t) xs => bif Nat.beq t.sz te.sz then .test (cutOk (l.getD 0) (h.getD (List.length xs : Nat)) (List.length xs)) (.ret ⟨.sh (.sl o e' t) (List.take ((h.getD (List.length xs : Nat)).toNat - (l.getD 0).toNat) (List.drop (l.getD 0).toNat xs)), []⟩) .fail else .fail
    | .al id p s (.sl true e' t) => bif Nat.beq t.sz te.sz then withR id s (depth p + 1) true fun r => match getV r.v p with
      | some ⟨.sl true _ t', xs⟩ => .test (cutOk (l.getD 0) (h.getD (List.length xs : Nat)) (List.length xs))
          (.ret ⟨.cut id p r.log.length (.sl true e' t) (l.getD 0).toNat ((h.getD (List.length xs : Nat)).toNat - (l.getD 0).toNat), []⟩) .fail
      | _ => .fail
      else .fail
    | _ => .fail
  | _, _, _ => .fail
def toBytes (xs : List Int) : ByteArray := ⟨(xs.map fun n => UInt8.ofNat n.toNat).toArray⟩
def convP (rs rd : TRow) (x : AV) : Prog AV := match rd.ty, x with
  | .int k, .sh (.int _) n => .ret (.sh (.int k) (k.wrap n))
  | .str, x => match rs.ty with
    | .sl _ _ (.int .u8) => (lendV rs.ty x []).bind fun
      | ⟨.sl _ _ (.int .u8), xs⟩ => .ret (.sh .str (toBytes xs))
      | _ => .fail
    | _ => .fail
  | _, _ => .fail
/-- A text's bytes, in a new row. -/
def bytesP (rd : TRow) (b : ByteArray) (d : Nat) : Prog Res := match elemSz rd with
  | some (e, .int .u8) => .test (fits b.size 1) (newRoot d ⟨.sl true e (.int .u8), bytesL b⟩ []) .fail
  | _ => .fail
/-- A row of bytes that is converted to its own type. -/
def selfP (row : TRow) (x : AV) (d : Nat) : Prog Res := (takeP row.ty x []).bind fun u => match u.1 with
  | ⟨.sl true e (.int .u8), y :: ys⟩ => newRoot d ⟨.sl true e (.int .u8), y :: ys⟩ u.2
  | _ => .fail
def isBytes (row : TRow) : Bool := match row.ty with
  | .sl _ _ (.int .u8) => true
  | _ => false
def convQ (rs rd : TRow) (x : AV) (d : Option Tmp) : Prog Res := match rs.ty, x, d with
  | .str, .sh .str b, some d => bytesP rd b d
  | _, _, _ => q (convP rs rd x)
def byteAt (b : ByteArray) (n : Nat) : Int := ((b.data.toList.getD n 0).toNat : Int)
def indexP (row : TRow) (x i : AV) : Prog AV := match row.ty, x, i with
  | .str, .sh .str b, .sh (.int _) n => within n (b : ByteArray).size (.ret (.sh (.int .u8) (byteAt b (Int.toNat n))))
  | _, _, _ => .fail
def fieldP (row : TRow) (x : AV) (i : Nat) : Prog AV := bif row.ty.agg && Nat.blt i row.fs.length then match x with
  | .sh t x => bif like t row.ty then match getV ⟨t, x⟩ (fldP i) with
      | some v => .ret (.sh v.t v.x)
      | none => .fail else .fail
  | _ => .fail else .fail
def mxI (x y : Int) : Int := if y > x then y else x
def mnI (x y : Int) : Int := if y < x then y else x
def mmP (mx : Bool) : Int → IntKind → List AV → Prog AV
  | x, k, [] => .ret (.sh (.int k) x)
  | x, k, .sh (.int _) y :: l => mmP mx (bif mx then mxI x y else mnI x y) k l
  | _, _, _ => .fail
def nilP : AV → Prog AV
  | .ptr id p s => bif Nat.beq (depth p) 0 then .ret (.ptr id p s) else withR id s (depth p) true fun _ => .ret (.ptr id p s)
  | .sptr t x => .ret (.sptr t x)
  | _ => .fail
def capP : List AV → AV
  | [] => .nilf
  | a :: l => .consf a (capP l)
def capL : AV → List AV
  | .consf a b => a :: capL b
  | _ => []
/-- One cell each. -/
def capOk : AV → Bool
  | .any => false
  | .tup _ => false
  | .al _ _ _ _ => false
  | .cut _ _ _ _ _ _ => false
  | a => !a.agg
def capGood : AV → Bool
  | .nilf => true
  | .consf a b => capOk a && capGood b
  | _ => false
def fnKey : List AV → List Nat
  | [] => []
  | .fn f _ :: l => f :: fnKey l
  | _ :: l => fnKey l
/-! ### calls -/
/-- Where what comes back goes. -/
inductive Tgt where
  | root (id : Nat)
  | at (id : Nat) (p : Path)
def noshr : Ty → Bool
  | .sl o _ t => o && noshr t
  | .cons a r => noshr a && noshr r
  | _ => true
@[reducible] def PK.pre : PK → Type
  | .r pt => Option pt.den
  | .o t => t.den
  | .p t _ => t.den
  | .c _ => Unit
@[reducible] def preT : List PK → Type
  | [] => Unit
  | k :: ks => k.pre × preT ks
def isOwn : AV → Bool
  | .al _ _ _ _ => true
  | .cut _ _ _ _ _ _ => true
  | _ => false
def takeIf (strict : Bool) : (p : Pat) → AV → Writes → Prog (Option p.den × Writes)
  | .val t, x, ws => bif strict && isOwn x then (takeTo t x ws).bind fun u => .ret (some u.1, u.2) else .ret (none, ws)
  | _, _, ws => .ret (none, ws)
/-- First what is taken .. -/
def pre1 (strict : Bool) : (k : PK) → AV → Writes → Prog (k.pre × Writes)
  | .r p, x, ws => (takeIf strict p x ws).bind fun u => .ret ((u.1 : (PK.r p).pre), u.2)
  | .o t, x, ws => bif t.flat then .fail else (takeTo t x ws).bind fun u => .ret ((u.1 : (PK.o t).pre), u.2)
  | .p t t', .ptr id [] s, ws => getR ws id fun
      | some r => bif r.blk then match toT r.v t with
        | some x => bif decide (r.v.t = t) then .ret ((x : (PK.p t t').pre), (id, stolen r [] r.v r.v.hol) :: ws) else .fail
        | none => .fail else .fail
      | none => .fail
  | .c t, x, ws => .ret (((() : Unit) : (PK.c t).pre), ws)
  | _, _, _ => .fail
def preP (strict : Bool) : (ks : List PK) → List AV → Writes → Prog (preT ks × Writes)
  | [], [], ws => .ret ((), ws)
  | [], _ :: _, _ => .fail
  | k :: ks, x :: xs, ws => (pre1 strict k x ws).bind fun u => (preP strict ks xs u.2).bind fun v => .ret ((u.1, v.1), v.2)
  | _ :: _, [], _ => .fail
/-- .. then what is read. -/
def arg1 : (k : PK) → k.pre → AV → Writes → Prog (k.den × List Tgt × List Nat)
  | .r p, y, x, ws => match (y : Option p.den) with
    | some y => .ret ((y : (PK.r p).den), [], [])
    | none => (lendP p x ws).bind fun u => .ret ((u : (PK.r p).den), [], lent x)
  | .o t, y, x, ws => .ret (((y : t.den) : (PK.o t).den), [], [])
  | .p t t', y, .ptr id [] s, ws => .ret (((y : t.den) : (PK.p t t').den), [.root id], [])
  | .c t, _, .al id p s t', ws => getR ws id fun
      | some r => bif okR r s (depth p + 1) (!t'.agg) && !t.flat then match getV r.v p with
        | some v => if h : v.t = t then .ret ((cast (congrArg Ty.den h) v.x : (PK.c t).den), [.at id p], []) else .fail
        | none => .fail else .fail
      | none => .fail
  | _, _, _, _ => .fail
def argsP : (ks : List PK) → preT ks → List AV → Writes → Prog (argsT ks × List Tgt × List Nat)
  | [], _, _, ws => .ret ((), [], [])
  | k :: ks, y, x :: xs, ws => (arg1 k y.1 x ws).bind fun u => (argsP ks y.2 xs ws).bind fun v => .ret ((u.1, v.1), u.2.1 ++ v.2.1, u.2.2 ++ v.2.2)
  | _ :: _, _, [], _ => .fail
def tyW : List Ty → Ty
  | [] => .nil
  | t :: ts => .cons t (tyW ts)
/-- The several results of an answer, and what comes back behind them. -/
def cutB : (bs : List Ty) → tysT bs → List V
  | [], _ => []
  | [b], y => [⟨b, y⟩]
  | b :: c :: bs, y => ⟨b, y.1⟩ :: cutB (c :: bs) y.2
def cutA : (ts : List Ty) → (bs : List Ty) → tysT (ts ++ bs) → (tyW ts).den × List V
  | [], bs, y => ((), cutB bs y)
  | [t], [], y => ((y, ()), [])
  | [t], b :: bs, y => ((y.1, ()), cutB (b :: bs) y.2)
  | t :: u :: ts, bs, y => ((y.1, (cutA (u :: ts) bs y.2).1), (cutA (u :: ts) bs y.2).2)
def rowed (r : Root) (p : Path) (v' : V) : Root := { r with v := v', log := (depth p + 1, true) :: r.log }
def backP : List Tgt → List V → Writes → Prog Writes
  | [], [], ws => .ret ws
  | .root id :: gs, v :: vs, ws => getR ws id fun
    | some r => bif like v.t r.v.t then backP gs vs ((id, stored r [] v r.v v) :: ws) else .fail
    | none => .fail
  | .at id p :: gs, v :: vs, ws => getR ws id fun
    | some r => match putV r.v p v with
        | some v' => backP gs vs ((id, rowed r p v') :: ws)
        | none => .fail
    | none => .fail
  | _, _, _ => .fail
def resId (d i : Nat) : Nat := 200000 + 8 * d + i
/-- Several results: each that is own in a root of its own. -/
def landL (d : Nat) : Nat → (ts : List Ty) → (tyW ts).den → Writes → Prog (AV × Writes)
  | _, [], _, ws => .ret (.nilf, ws)
  | i, t :: ts, x, ws => bif t.plain then (landL d (i + 1) ts x.2 ws).bind fun u => .ret (.consf (.sh t x.1) u.1, u.2)
    else getR ws (resId d i) fun
      | none => (landL d (i + 1) ts x.2 ((resId d i, ⟨⟨t, x.1⟩, false, [], none, none⟩) :: ws)).bind fun u => .ret (.consf (.al (resId d i) [] 0 t) u.1, u.2)
      | some _ => .fail
def disj (a b : List Nat) : Bool := a.all fun x => !b.any (Nat.beq x)
def tgtIds : List Tgt → List Nat
  | [] => []
  | .root id :: l => id :: tgtIds l
  | .at id _ :: l => id :: tgtIds l
def landP (d : Option Tmp) : (rk : RK) → (tyW rk.tys).den → Writes → Prog Res
  | .ptr t, x, ws => match d with
    | some d => getR ws d fun
      | none => .ret ⟨.ptr d [] 0, (d, ⟨⟨t, x.1⟩, true, [], none, none⟩) :: ws⟩
      | some _ => .fail
    | none => .fail
  | .one t, x, ws => match d with
    | some d => bif t.plain then .ret ⟨.sh t x.1, ws⟩ else newRoot d ⟨t, x.1⟩ ws
    | none => .ret ⟨.any, ws⟩
  | .many ts, x, ws => match d with
    | some d => (landL d 0 ts x ws).bind fun u => .ret ⟨.tup u.1, u.2⟩
    | none => .ret ⟨.any, ws⟩
def wrIds : Writes → List Nat
  | [] => []
  | (i, _) :: l => i :: wrIds l
def strictC (c : Con) : Bool := !noshr (tyW c.rk.tys) || c.ks.any fun k => match k with
  | .p _ t' => !noshr t'
  | .c t => !noshr t
  | _ => false
def tgtOk (c : Con) (ws : Writes) (ls : List Nat) : List Tgt → Bool
  | [] => disj ls (wrIds ws)
  | [.root id] => disj ls (wrIds ws) && !ls.any (Nat.beq id)
  | [.at id _] => !ls.any (Nat.beq id) && (tyW c.rk.tys).flat && ws.isEmpty
  | _ => false
def callP (c : Con) (args : List AV) (d : Option Tmp) : Prog Res := (preP (strictC c) c.ks args []).bind fun u => (argsP c.ks u.1 args u.2).bind fun v =>
  bif tgtOk c u.2 v.2.2 v.2.1 && (!strictC c || v.2.2.isEmpty) then
    .use (c.fn v.1) fun y => (backP v.2.1 (cutA c.rk.tys (backs c.ks) y).2 u.2).bind fun ws => landP d c.rk (cutA c.rk.tys (backs c.ks) y).1 ws
  else .fail

def binQ (T : List (TypeId × TRow)) (xt : TypeId) (op : BinOp) (x y : AV) : Prog AV := binT T xt op x y
def opP (T : List (TypeId × TRow)) (K : Cons) (o : Oper) (ρ : Operand → AV) : Prog Res := match o.op with
  | .move x => .ret ⟨ρ x, []⟩
  | .assign x => .ret ⟨ρ x, []⟩
  | .pick c x y => q (pickP (ρ c) (ρ x) (ρ y))
  | .alloc e => match o.dst, tget T e with
    | some d, some row => allocP row d
    | _, _ => .fail
  | .box e x => match o.dst, tget T e with
    | some d, some row => boxP row (ρ x) d
    | _, _ => .fail
  | .build t ps => match tget T t with
    | some row => q (buildP row ρ ps.toList)
    | none => .fail
  | .buildSlice t len ps => match o.dst, tget T t with
    | some d, some row => buildSliceP row len ps.toList ρ d
    | _, _ => .fail
  | .load t x => match tget T t with
    | some row => q (loadP row (ρ x))
    | none => .fail
  | .store t x y => match o.dst, tget T t with
    | none, some row => (storeQ row (ρ x) (ρ y)).bind fun ws => .ret ⟨.any, ws⟩
    | _, _ => .fail
  | .nilCheck x => q (nilP (ρ x))
  | .binOp op xt x y _ => q (binQ T xt op (ρ x) (ρ y))
  | .unOp op _ x => q (unP op (ρ x))
  | .convert s t x => match tget T s, tget T t with
    | some rs, some rd => bif Nat.beq s t && isBytes rs then (match o.dst with
      | some d => selfP rs (ρ x) d
      | none => .fail) else convQ rs rd (ρ x) o.dst
    | _, _ => .fail
  | .makeFunc (.func f) fst cap => bif Nat.beq fst.size 0 && capGood (capP (cap.toList.map ρ)) then .ret ⟨.fn f (capP (cap.toList.map ρ)), []⟩ else .fail
  | .makeSlice t l c => match o.dst, tget T t with
    | some d, some row => match elemSz row with
      | some (e, _) => match tget T e with
        | some re => makeP row re.bytes (ρ l) (ρ c) d
        | none => .fail
      | none => .fail
    | _, _ => .fail
  | .slice t x lo hi none => match tget T t with
    | some row => sliceP row (ρ x) (lo.map ρ) (hi.map ρ)
    | none => .fail
  | .fieldAddr s x i => match tget T s with
    | some row => q (fieldAddrP row (ρ x) i)
    | none => .fail
  | .field s x i => match tget T s with
    | some row => q (fieldP row (ρ x) i)
    | none => .fail
  | .indexAddr t x i => match tget T t with
    | some row => q (indexAddrP row (ρ x) (ρ i))
    | none => .fail
  | .index t x i => match tget T t with
    | some row => q (indexP row (ρ x) (ρ i))
    | none => .fail
  | .extract x i => q (extractP (ρ x) i)
  | .call c => match c.callee with
    | .value f => match ρ f with
      | .fn g cap =>
        let args := c.args.toList.map ρ ++ capL cap
        match K g (fnKey args) with
        | some con => bif capGood cap then callP con args o.dst else .fail
        | none => .fail
      | _ => .fail
    | .builtin .len => match c.args.toList, c.argTypes.toList with
      | [x], [t] => match tget T t with
        | some row => q (lenP row (ρ x))
        | none => .fail
      | _, _ => .fail
    | .builtin .append => match o.dst, c.args.toList, c.argTypes.toList with
      | some d, [x, y], [t, tx] => match tget T t, tget T tx with
        | some row, some rx => bif kindOk rx then match elemSz row with
          | some (e, _) => match tget T e with
            | some re => appendP row re.bytes (ρ x) (ρ y) d
            | none => .fail
          | none => .fail
          else .fail
        | _, _ => .fail
      | _, _, _ => .fail
    | .builtin .min => match c.args.toList.map ρ with
      | .sh (.int k) x :: l => q (mmP false x k l)
      | _ => .fail
    | .builtin .max => match c.args.toList.map ρ with
      | .sh (.int k) x :: l => q (mmP true x k l)
      | _ => .fail
    | _ => .fail
  | _ => .fail

/-! ### regions -/
structure Rec where
  i : Nat
  dst : Option Tmp
  rd : List Tmp
  ask : List Nat
  wr : List Nat
def guards (all : List Oper) (i : Nat) : Bool := all.any fun o => match o.guard with
  | some (j, _) => Nat.beq j i
  | none => false
def opTmps : List Operand → List Tmp
  | [] => []
  | .tmp t :: l => t :: opTmps l
  | _ :: l => opTmps l
def looks (all : List Oper) (o : Oper) : List Tmp := opTmps o.op.operands.toList ++ (match o.guard with
  | some (g, _) => match all[g]? with
    | some og => match og.dst with
      | some d => [d]
      | none => []
    | none => []
  | none => [])
/-- Is the operation wanted? -/
def wantedP (all : List Oper) (T : Nat → AV) (o : Oper) : Option Bool := match o.guard with
  | none => some true
  | some (g, want) => match all[g]? with
    | some og => match og.dst with
      | some d => match T d with
        | .sh .bool b => some (match want with
          | true => (b : Bool)
          | false => !(b : Bool))
        | .tup .nilf => some false
        | _ => none
      | none => none
    | none => none
def runOps {A : Type} (T : List (TypeId × TRow)) (K : Cons) (all : List Oper) : Nat → List Oper → St → List Rec → (St → List Rec → Option A) → Option A
  | _, [], st, rs, k => k st rs
  | i, o :: os, st, rs, k => match wantedP all st.tmps o with
    | none => none
    | some w => bif w then
        (bif guards all i then splitB (opP T K o (evalA st.tmps)) else opP T K o (evalA st.tmps)).cps st.roots [] fun res ask =>
          runOps T K all (i + 1) os (st.after o.dst res) (⟨i, o.dst, looks all o, ask, wrIds res.ws⟩ :: rs) k
      else runOps T K all (i + 1) os (st.after o.dst ⟨.tup .nilf, []⟩) (⟨i, o.dst, looks all o, [], []⟩ :: rs) k
def memN (x : Nat) : List Nat → Bool
  | [] => false
  | y :: l => Nat.beq x y || memN x l
def meets (a b : List Nat) : Bool := a.any fun x => memN x b
/-- Two operations that may come in either order: do they leave each other alone? -/
def apart2 (x y : Rec) : Bool :=
  (match x.dst with
   | some d => !memN d y.rd && (match y.dst with
     | some e => !Nat.beq d e
     | none => true)
   | none => true) && (match y.dst with
   | some d => !memN d x.rd
   | none => true) && !meets x.wr y.ask && !meets x.wr y.wr && !meets x.ask y.wr
/-- What must come ahead, as bits. -/
def edgeM : List Edge → List Nat → Nat
  | [], _ => 0
  | e :: es, acc => bif Region.binds .any e then (2 ^ e.on ||| acc.getD e.on 0) ||| edgeM es acc else edgeM es acc
def masks : List Oper → List Nat → List Nat
  | [], acc => acc
  | o :: os, acc => masks os (acc ++ [edgeM o.after.toList acc])
def calm (bf : List Nat) : List Rec → Bool
  | [] => true
  | y :: l => l.all (fun x => Nat.testBit (bf.getD y.i 0) x.i || apart2 x y) && calm bf l

/-! ### code -/
inductive Ex where
  | normal
  | exit (id : Nat)
  | ret
def firstR : Code → Nat
  | .region id _ _ => id
  | .seq a _ => firstR a
  | .block _ c => firstR c
  | _ => 0
noncomputable def runC (T : List (TypeId × TRow)) (K : Cons) (L : Loops) : Code → {A : Type} → St → (Ex → St → Option A) → Option A
  | .skip, _, st, k => k .normal st
  | .region _ ops draw, _, st, k => runOps T K ops.toList 0 ops.toList st [] fun st' rs => bif !draw || calm (masks ops.toList []) rs then k .normal st' else none
  | .seq a b, _, st, k => runC T K L a st fun e st' => match e with
    | .normal => runC T K L b st' k
    | .exit j => k (.exit j) st'
    | .ret => k .ret st'
  | .cond c a b, _, st, k => match evalA st.tmps c with
    | .sh .bool x => bif (x : Bool) then runC T K L a st k else runC T K L b st k
    | _ => none
  | .block id c, _, st, k => runC T K L c st fun e st' => match e with
    | .normal => k .normal st'
    | .exit j => bif Nat.beq j id then k .normal st' else k (.exit j) st'
    | .ret => k .ret st'
  | .exit id, _, st, k => k (.exit id) st
  | .ret, _, st, k => k .ret st
  | .loop c, A, st, k => match L (firstR c) with
    | some l => match (bif itemsOk l.items then matchL st.roots st.tmps st.roots l.items [] else none) with
      | some x => match loopO (fun x => runC T K L c (A := Lp (itemsT l.items) A) (inj st.roots l.items x) fun e st' => match e with
          | .normal => match matchL st.roots st'.tmps st'.roots l.items [] with
            | some x => some (.again x)
            | none => none
          | .exit j => bif Nat.beq j l.out then match matchL st.roots st'.tmps st'.roots l.items [] with
            | some x => some (.exit x)
            | none => none else none
          | .ret => match k .ret st' with
            | some a => some (.ret a)
            | none => none) x with
        | some (.inl x) => k (.exit l.out) (inj st.roots l.items x)
        | some (.inr a) => some a
        | none => none
      | none => none
    | none => none
  | _, _, _, _ => none

/-! ### functions -/
def startT : Nat → (ks : List PK) → argsT ks → Nat → AV
  | _, [], _, _ => .any
  | n, k :: ks, x, t => bif Nat.beq n t then one n k x.1 else startT (n + 1) ks x.2 t
where one (n : Nat) : (k : PK) → k.den → AV
  | .r p, x => p.av x
  | .o t, _ => .al n [] 0 t
  | .p _ _, _ => .ptr n [] 0
  | .c t, _ => .al n [] 0 t
def startR : Nat → (ks : List PK) → argsT ks → Nat → Option Root
  | _, [], _, _ => none
  | n, k :: ks, x, t => bif Nat.beq n t then one n k x.1 else startR (n + 1) ks x.2 t
where one (n : Nat) : (k : PK) → k.den → Option Root
  | .r _, _ => none
  | .o t, x => some ⟨⟨t, x⟩, false, [], none, none⟩
  | .p t _, x => some ⟨⟨t, x⟩, true, [(0, true)], none, some n⟩
  | .c t, x => some ⟨⟨t, x⟩, false, [], some n, none⟩
def resP (T : List (TypeId × TRow)) (tmps : Nat → AV) : ResultVar → Prog AV
  | .tmp t => .ret (tmps t)
  | .cell a t => match tget T t with
    | some row => loadP row (tmps a)
    | none => .fail
def resL (T : List (TypeId × TRow)) (tmps : Nat → AV) : List ResultVar → (ts : List Ty) → Writes → Prog (tysT ts × Writes)
  | [], [], ws => .ret ((), ws)
  | [r], [t], ws => (resP T tmps r).bind fun a => takeTo t a ws
  | r :: s :: rs, t :: u :: ts, ws => (resP T tmps r).bind fun a => (takeTo t a ws).bind fun x => (resL T tmps (s :: rs) (u :: ts) x.2).bind fun y => .ret ((x.1, y.1), y.2)
  | _, _, _ => .fail
def exT (v : V) (t : Ty) : Option t.den := if h : v.t = t then some (cast (congrArg Ty.den h) v.x) else none
/-- The roots of the parameters that are handed back, in order. -/
def findOrg (R : Nat → Option Root) (org : Nat) (blk : Bool) : List Nat → Option V
  | [] => none
  | i :: l => match R i with
    | some r => bif (match (bif blk then r.pin else r.org) with
        | some j => Nat.beq j org
        | none => false) && (blk || since r.log 0 1 false) then some r.v else findOrg R org blk l
    | none => findOrg R org blk l
def joinA : (ts bs : List Ty) → tysT ts → tysT bs → tysT (ts ++ bs)
  | [], _, _, y => y
  | [t], [], x, _ => x
  | [t], _ :: _, x, y => (x, y)
  | t :: u :: ts, bs, x, y => (x.1, joinA (u :: ts) bs x.2 y)
def backL (R : Nat → Option Root) (ids : List Nat) : Nat → (ks : List PK) → Option (tysT (backs ks))
  | _, [] => some ()
  | n, .r _ :: ks => backL R ids (n + 1) ks
  | n, .o _ :: ks => backL R ids (n + 1) ks
  | n, .p _ t :: ks => match findOrg R n true ids with
    | some v => match exT v t, backL R ids (n + 1) ks with
      | some x, some y => some (joinA [t] (backs ks) x y)
      | _, _ => none
    | none => none
  | n, .c t :: ks => match findOrg R n false ids with
    | some v => match exT v t, backL R ids (n + 1) ks with
      | some x, some y => some (joinA [t] (backs ks) x y)
      | _, _ => none
    | none => none
def finish (T : List (TypeId × TRow)) (c : Con) (ids : List Nat) (rs : List ResultVar) (st : St) : Option (ansT c.rk c.ks) := match c.rk with
  | .one t => match (resL T st.tmps rs [t] []).go st.roots with
    | some (x, ws) => match backL (app ws st.roots) ids 0 c.ks with
      | some y => some (joinA [t] (backs c.ks) x y)
      | none => none
    | none => none
  | .many ts => match (resL T st.tmps rs ts []).go st.roots with
    | some (x, ws) => match backL (app ws st.roots) ids 0 c.ks with
      | some y => some (joinA ts (backs c.ks) x y)
      | none => none
    | none => none
  | .ptr t => match rs with
    | [.tmp s] => match st.tmps s with
      | .ptr id [] _ => match st.roots id with
        | some r => bif r.blk && r.org.isNone then match toT r.v t, backL st.roots ids 0 c.ks with
          | some x, some y => some (joinA [t] (backs c.ks) x y)
          | _, _ => none else none
        | none => none
      | _ => none
    | _ => none
noncomputable def runF (T : List (TypeId × TRow)) (K : Cons) (L : Loops) (ids : List Nat) (f : Func) (c : Con) (x : argsT c.ks) : Option (ansT c.rk c.ks) := match f.body with
  | some b => runC T K L b ⟨startT 0 c.ks x, startR 0 c.ks x⟩ fun e st => match e with
    | .exit _ => none
    | .normal => finish T c ids f.results.toList st
    | .ret => finish T c ids f.results.toList st
  | none => none
/-! ### words of what is printed -/
abbrev len {A : Type} (l : List A) : Int := ((List.length l : Nat) : Int)
abbrev blen (b : ByteArray) : Int := ((ByteArray.size b : Nat) : Int)
abbrev w64 (x : Int) : Int := IntKind.wrap .i64 x
def chk {A : Type} (b : Bool) (k : Option A) : Option A := bif b then k else none
def nchk {A : Type} (b : Bool) (k : Option A) : Option A := bif b then none else k
def afterO {X A : Type} (o : Option (X ⊕ A)) (k : X → Option A) : Option A := match o with
  | some (.inl x) => k x
  | some (.inr a) => some a
  | none => none
end Go.Proofs.Ytabjfkongckhaaa.Vm
