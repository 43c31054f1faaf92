/-
 Ground, second text: values as typed things, frames as lists of known slots, and what a walk of one operation asks.
-/
import Derived.Test.YtkehfflpbpdokaaGreatFxa
import Derived.WalkKit
namespace Go.Proofs.YtkehfflpbpdokaaGreat
structure Sl where
 a : Option Addr
 n : Nat
 c : Nat
@[reducible] def Sl.v (s : Sl) : Value := .slice s.a s.n s.c
structure Cod where
 α : Type
 enc : α → Value
 dec : Value → Option α
 ok : ∀ v x, dec v = some x → v = enc x
@[reducible] def cInt (k : IntKind) : Cod where
  α := Int
  enc := fun n => .int k n
  dec := fun v => match v with | .int k' n => (bif k' == k then some n else none) | _ => none
  ok := by
   intro v x h
   cases v <;> simp only [reduceCtorEq] at h
   rename_i k' n
   by_cases e : k' = k
   ·subst e; simp at h; rw [h]
   ·have : (k' == k) = false := by simpa using e
    rw [this] at h; cases h
@[reducible] def cBool : Cod where
  α := Bool
  enc := fun b => .bool b
  dec := fun v => match v with | .bool b => some b | _ => none
  ok := by intro v x h; cases v <;> simp only [reduceCtorEq, Option.some.injEq] at h; rw [h]
@[reducible] def cStr : Cod where
  α := ByteArray
  enc := fun s => .string s
  dec := fun v => match v with | .string s => some s | _ => none
  ok := by intro v x h; cases v <;> simp only [reduceCtorEq, Option.some.injEq] at h; rw [h]
@[reducible] def cSl : Cod where
  α := Sl
  enc := fun s => .slice s.a s.n s.c
  dec := fun v => match v with | .slice a n c => some ⟨a, n, c⟩ | _ => none
  ok := by intro v x h; cases v <;> simp only [reduceCtorEq, Option.some.injEq] at h; rw [← h]
@[reducible] def cPtr : Cod where
  α := Option Addr
  enc := fun p => .pointer p
  dec := fun v => match v with | .pointer p => some p | _ => none
  ok := by intro v x h; cases v <;> simp only [reduceCtorEq, Option.some.injEq] at h; rw [h]
@[reducible] def cMap : Cod where
  α := Option Nat
  enc := fun p => .map p
  dec := fun v => match v with | .map p => some p | _ => none
  ok := by intro v x h; cases v <;> simp only [reduceCtorEq, Option.some.injEq] at h; rw [h]
@[reducible] def cRaw : Cod where
  α := Value
  enc := fun v => v
  dec := fun v => some v
  ok := by intro v x h; exact Option.some.inj h
@[reducible] def cFnc : Cod where
  α := Fn × Array Value × Array Value
  enc := fun q => .func q.1 q.2.1 q.2.2
  dec := fun v => match v with | .func f i c => some (f, i, c) | _ => none
  ok := by intro v x h; cases v <;> simp only [reduceCtorEq, Option.some.injEq] at h; rw [← h]
@[reducible] def cArr : Cod where
  α := Array Value
  enc := fun p => .agg p
  dec := fun v => match v with | .agg p => some p | _ => none
  ok := by intro v x h; cases v <;> simp only [reduceCtorEq, Option.some.injEq] at h; rw [h]
@[reducible] def Cods.α : List Cod → Type
  | [] => Unit
  | [c] => c.α
  | c :: d :: r => c.α × Cods.α (d :: r)
@[reducible] def Cods.enc : (l : List Cod) → Cods.α l → List Value
  | [], _ => []
  | [c], x => [c.enc x]
  | c :: d :: r, x => c.enc x.1 :: Cods.enc (d :: r) x.2
@[reducible] def Cods.dec : (l : List Cod) → List Value → Option (Cods.α l)
  | [], vs => match vs with | [] => some () | _ => none
  | [c], vs => match vs with | [v] => c.dec v | _ => none
  | c :: d :: r, vs => match vs with
    | v :: vs => (match c.dec v with
      | some x => (match Cods.dec (d :: r) vs with | some y => some (x, y) | none => none)
      | none => none)
    | [] => none
theorem Cods.ok : ∀ (l : List Cod) (vs : List Value) (x : Cods.α l), Cods.dec l vs = some x → vs = Cods.enc l x
 | [], vs, x, h => by
   unfold Cods.dec at h
   cases vs with
   | nil => rfl
   | cons v r => cases h
 | [c], vs, x, h => by
   unfold Cods.dec at h
   match vs, h with
   | [v], h => exact congrArg (fun u => [u]) (c.ok v x h)
 | c :: d :: r, vs, x, h => by
   unfold Cods.dec at h
   match vs, h with
   | v :: vs, h =>
     revert h
     simp only
     split
     ·rename_i x1 hx
      split
      ·rename_i y1 hy
       intro h
       have e : (x1, y1) = x := Option.some.inj h
       subst e
       have e1 := c.ok v x1 hx
       have e2 := Cods.ok (d :: r) vs y1 hy
       show v :: vs = c.enc x1 :: Cods.enc (d :: r) y1
       rw [← e1, ← e2]
      ·intro h; cases h
     ·intro h; cases h
@[reducible] def cTup (l : List Cod) : Cod where
  α := Cods.α l
  enc := fun x => .tuple ⟨Cods.enc l x⟩
  dec := fun v => match v with | .tuple vs => Cods.dec l vs.toList | _ => none
  ok := by
   intro v x h
   cases v <;> simp only [reduceCtorEq] at h
   rename_i vs
   have := Cods.ok l vs.toList x h
   rw [← this]
@[reducible] def cAgg (l : List Cod) : Cod where
  α := Cods.α l
  enc := fun x => .agg ⟨Cods.enc l x⟩
  dec := fun v => match v with | .agg vs => Cods.dec l vs.toList | _ => none
  ok := by
   intro v x h
   cases v <;> simp only [reduceCtorEq] at h
   rename_i vs
   have := Cods.ok l vs.toList x h
   rw [← this]
@[reducible] def cNext : Cod where
  α := Bool × List Value
  enc := fun x => .tuple ⟨.bool x.1 :: x.2⟩
  dec := fun v => match v with | .tuple vs => (match vs.toList with | .bool b :: l => some (b, l) | _ => none) | _ => none
  ok := by
   intro v x h
   cases v <;> simp only [reduceCtorEq] at h
   rename_i vs
   split at h
   ·rename_i b l hl
    have e : (b, l) = x := Option.some.inj h
    subst e
    simp only
    rw [← hl]
   ·cases h
@[reducible] def cTwo : Cod where
  α := Value × Value
  enc := fun x => .tuple ⟨[x.1, x.2]⟩
  dec := fun v => match v with | .tuple vs => (match vs.toList with | [k, u] => some (k, u) | _ => none) | _ => none
  ok := by
   intro v x h
   cases v <;> simp only [reduceCtorEq] at h
   rename_i vs
   split at h
   ·rename_i k u hl
    have e : (k, u) = x := Option.some.inj h
    subst e
    simp only
    rw [← hl]
   ·cases h
def flatC (P : Program) : Nat → TypeId → Option (List Cod)
 | 0, _ => none
 | n + 1, t =>
   match P.underlying t with
   | some .bool => some [cBool]
   | some (.int k) => some [cInt k]
   | some .string => some [cStr]
   | some (.slice _) => some [cSl]
   | some (.pointer _) => some [cPtr]
   | some (.map _ _) => some [cMap]
   | some (.struct fs) => fs.toList.foldr (fun f acc => match flatC P n f.type, acc with | some x, some y => some (x ++ y) | _, _ => none) (some [])
   | some (.func _ _ _) => some [cRaw]
   | some (.interface _) => some [cRaw]
   | _ => none
def codT (P : Program) (t : TypeId) : Cod :=
 match P.underlying t with
 | some .bool => cBool
 | some (.int k) => cInt k
 | some .string => cStr
 | some (.slice _) => cSl
 | some (.pointer _) => cPtr
 | some (.map _ _) => cMap
 | some (.struct _) => (match flatC P 5 t with | some l => cAgg l | none => cArr)
 | some (.array _ _) => cArr
 | _ => cRaw
def codOf (P : Program) (t : TypeId) : Cod :=
 match P.underlying t with
 | some (.tuple ts) => cTup (ts.toList.map (codT P))
 | some (.func _ rs _) => (match rs.toList with | [] => cRaw | _ :: _ => cFnc)
 | _ => codT P t
def optK {α : Type} (p : Option α) (K : α → Prop) : Prop := match p with | some a => K a | none => False
def br (b : Bool) (A B : Prop) : Prop := match b with | true => A | false => B
theorem optK_some {α : Type} {p : Option α} {K : α → Prop} (h : optK p K) : ∃ a, p = some a ∧ K a := by
 cases p with
 | none => exact h.elim
 | some a => exact ⟨a, rfl, h⟩
theorem optK_mk {α : Type} {p : Option α} {K : α → Prop} (a : α) (e : p = some a) (h : K a) : optK p K := by subst e; exact h
theorem br_iff {b : Bool} {A B : Prop} : br b A B ↔ (b = true → A) ∧ (b = false → B) := by cases b <;> simp [br]
theorem br_mk {b : Bool} {A B : Prop} (h1 : b = true → A) (h2 : b = false → B) : br b A B := br_iff.2 ⟨h1, h2⟩
def iand (k : IntKind) (a b : Int) : Int := k.wrap ((BitVec.ofInt k.bits a &&& BitVec.ofInt k.bits b).toNat)
def ior (k : IntKind) (a b : Int) : Int := k.wrap ((BitVec.ofInt k.bits a ||| BitVec.ofInt k.bits b).toNat)
def ixor (k : IntKind) (a b : Int) : Int := k.wrap ((BitVec.ofInt k.bits a ^^^ BitVec.ofInt k.bits b).toNat)
def ishl (k : IntKind) (a y : Int) : Int := k.wrap (a * 2 ^ (min y.toNat k.bits))
def ishr (k : IntKind) (a y : Int) : Int := a.fdiv (2 ^ (min y.toNat k.bits))
def sget (s : ByteArray) (i : Nat) : UInt8 := s.data.getD i 0
def rd (M : Option (Heap → Prop)) (H : Heap) (p : Heap → Prop) : Prop := match M with | none => p H | some G => ∀ H', G H' → p H'
def pureV (c : Cod) (P : Program) (s : Sem Value) (K : c.α → Prop) : Prop := ∃ y : c.α, (∀ w : World, s.run P w = .ok (c.enc y) w) ∧ K y
def asT (c : Cod) (u : Value) (K : c.α → Prop) : Prop := ∃ y : c.α, u = c.enc y ∧ K y
def ld (c : Cod) (H : Heap) (a : Addr) (K : c.α → Prop) : Prop := ∃ x : c.α, hCell H a = some (c.enc x) ∧ K x
def ldC (c : Cod) (G : Heap → Prop) (a : Addr) (K : c.α → Prop) : Prop := ∃ x : c.α, (∀ H', G H' → hCell H' a = some (c.enc x)) ∧ K x
def hRow (H : Heap) (a : Addr) (n : Nat) (v : Value) : Prop := ∃ cs : Array Value, v = .agg cs ∧ cs.size = n ∧ ∀ i, i < n → hCell H (a.add i) = cs[i]?
def ldA (c : Cod) (n : Nat) (H : Heap) (a : Addr) (K : c.α → Prop) : Prop := ∃ x : c.α, hRow H a n (c.enc x) ∧ K x
def ldAC (c : Cod) (n : Nat) (G : Heap → Prop) (a : Addr) (K : c.α → Prop) : Prop := ∃ x : c.α, (∀ H', G H' → hRow H' a n (c.enc x)) ∧ K x
def isRd (P : Program) (s : Sem Value) (H : Heap) (v : Value) : Prop := ∀ w : World, w.heap = H → s.run P w = .ok v w
def rdV (c : Cod) (P : Program) (s : Sem Value) (H : Heap) (K : c.α → Prop) : Prop := ∃ x : c.α, isRd P s H (c.enc x) ∧ K x
def rdVC (c : Cod) (P : Program) (s : Sem Value) (G : Heap → Prop) (K : c.α → Prop) : Prop := ∃ x : c.α, (∀ H', G H' → isRd P s H' (c.enc x)) ∧ K x
def st (H : Heap) (a : Addr) (v : Value) (K : Heap → Prop) : Prop := plainV v = true ∧ (∃ u, hCell H a = some u) ∧ hFrozen H a = false ∧ K (hSet H a v)
def runS {α : Type} (P : Program) (s : Sem α) (H : Heap) (K : α → Heap → Prop) : Prop := ∀ w : World, w.heap = H → ∃ v w', s.run P w = .ok v w' ∧ K v w'.heap ∧ Alike w w'
def doT (c : Cod) (P : Program) (s : Sem Value) (H : Heap) (K : c.α → Heap → Prop) : Prop := runS P s H fun v H' => ∃ x : c.α, v = c.enc x ∧ K x H'
def doU (P : Program) (s : Sem Unit) (H : Heap) (K : Heap → Prop) : Prop := runS P s H fun _ H' => K H'
theorem runS_of_wpS {α : Type} {P : Program} {s : Sem α} {H : Heap} {K : α → Heap → Prop} (h : wpS P s H K) : runS P s H K := fun w hw => by subst hw; exact wpS_run s h
def zc (P : Program) (t : TypeId) : Array Value := match (P.info? t).bind (·.zero) with | some z => z.cells | none => #[]
def Spec (P : Program) (f : FuncId) (args : Array Value) (H : Heap) (R : Value → Heap → Prop) : Prop :=
 ∀ w : World, w.heap = H → Calls P f args w fun e w' => ∃ v, e = .returned v ∧ R v w'.heap ∧ Alike w w'
def SpecT (c : Cod) (P : Program) (f : FuncId) (args : Array Value) (H : Heap) (R : c.α → Heap → Prop) : Prop :=
 Spec P f args H fun v H' => ∃ x : c.α, v = c.enc x ∧ R x H'
theorem Spec.mono {P : Program} {f : FuncId} {args : Array Value} {H : Heap} {R R' : Value → Heap → Prop} (h : Spec P f args H R) (hr : ∀ v H', R v H' → R' v H') : Spec P f args H R' :=
 fun w hw => (h w hw).mono fun _ _ ⟨v, he, h1, h2⟩ => ⟨v, he, hr _ _ h1, h2⟩
def evalS {α : Type} (P : Program) : Sem α → Option α
 | .pure a => some a
 | .program k => evalS P (k P)
 | .mark _ k => evalS P k
 | _ => none
theorem evalS_run {α : Type} {P : Program} (s : Sem α) : ∀ {v : α}, evalS P s = some v → ∀ w : World, s.run P w = .ok v w := by
 induction s with
 | pure a => intro v h w; simp only [evalS, Option.some.injEq] at h; subst h; rfl
 | program k ih => intro v h w; exact ih P h w
 | mark m k ih => intro v h w; exact ih h w
 | _ => intro v h; cases h
def constNonzero : Operand → Bool
 | .const (.int _ (.ofNat (_ + 1))) => true
 | .const (.int _ (.negSucc _)) => true
 | _ => false
def constNonneg : Operand → Bool
 | .const (.int _ (.ofNat _)) => true
 | _ => false
def isTotal (P : Program) : Op → Bool
 | .move _ => true | .assign _ => true
 | .unOp .. => true | .fieldAddr .. => true | .extract .. => true
 | .makeFunc .. => true | .makeInterface .. => true
 | .field t _ _ => (flatC P 5 t).isSome
 | .build t _ => (match P.underlying t with | some (.struct _) => (flatC P 5 t).isSome | _ => true)
 | .binOp op t _ y _ =>
   match P.underlying t with
   | some (.int _) => (match op with
     | .quo => constNonzero y | .rem => constNonzero y | .shl => constNonneg y | .shr => constNonneg y
     | _ => true)
   | some .string => (match op with | .add => false | _ => true)
   | some .bool => true
   | _ => false
 | .convert src dst _ =>
   match P.underlying src, P.underlying dst with
   | some (.int _), some (.int _) => true
   | some .string, some .string => true
   | _, _ => false
 | .call { callee := .builtin .len, argTypes, .. } =>
   match (argTypes[0]?).bind P.underlying with
   | some (.map _ _) => false
   | _ => true
 | .call { callee := .builtin .cap, .. } => true
 | .call { callee := .builtin .min, .. } => true
 | .call { callee := .builtin .max, .. } => true
 | _ => false
def evalOp (P : Program) (o : Oper) (ρ : Operand → Value) : Option Value :=
 match evalS P (execOp ρ o) with
 | some (.value v) => some v
 | _ => none
theorem evalOp_run {P : Program} {o : Oper} {ρ : Operand → Value} {v : Value} (h : evalOp P o ρ = some v) (w : World) : (execOp ρ o).run P w = .ok (.value v) w := by
 unfold evalOp at h
 split at h
 ·rename_i u hu; rw [evalS_run _ hu w]; rw [Option.some.inj h]
 ·cases h
end Go.Proofs.YtkehfflpbpdokaaGreat
