/-
 Ground, third text: what a walk of one operation asks, and that it is enough.
-/
import Derived.Test.YtkehfflpbpdokaaGreatFxb
namespace Go.Proofs.YtkehfflpbpdokaaGreat
def pickV (t : Bool) (a b : Operand) (va vb : Value) : Value :=
 match va, vb with
 | .bool x, .bool y =>
   (match b with
   | .const (.bool false) => .bool (t && x)
   | _ => (match a with
     | .const (.bool true) => .bool (t || y)
     | _ => .bool (bif t then x else y)))
 | _, _ => match t with | true => va | false => vb
def slA (a : Option Addr) (cap l size : Nat) : Option Addr := if cap = l then a else a.map (·.add (l * size))
def slB (cap len : Nat) (lo hi : Option Value) (K : Nat → Nat → Prop) : Prop :=
 match hi with
 | none => (match lo with
   | none => K 0 len
   | some (.int _ l) => (0 ≤ l ∧ l ≤ (len : Int)) ∧ K l.toNat len
   | _ => False)
 | some (.int _ h) => (0 ≤ h ∧ h ≤ (cap : Int)) ∧ (match lo with
   | none => K 0 h.toNat
   | some (.int _ l) => (0 ≤ l ∧ l ≤ h) ∧ K l.toNat h.toNat
   | _ => False)
 | _ => False
def ifNil (v : Value) (K : Bool → Prop) : Prop := match v with | .nilIface => K true | .iface _ _ => K false | _ => False
def ifNilF (v : Value) (K : Bool → Prop) : Prop := match v with | .nilFunc => K true | .func _ _ _ => K false | _ => False
def nilChk (v : Value) (K : Value → Prop) : Prop := match v with
 | .pointer p => optK p fun a => K (.pointer (some a))
 | .func (.func f) a b => K (.func (.func f) a b)
 | .iface t x => K (.iface t x)
 | _ => False
def vcBinX (d : TypeDesc) (op : BinOp) (y : Operand) (vx vy : Value) (K : Value → Prop) : Prop :=
 match d with
 | .pointer _ => (match y with
   | .const (.pointer none) => (match op, vx with | .eql, .pointer a => K (.bool a.isNone) | .neq, .pointer a => K (.bool (!a.isNone)) | _, _ => False)
   | _ => False)
 | .slice _ => (match y with
   | .const (.slice none _ _) => (match op, vx with | .eql, .slice a _ _ => K (.bool a.isNone) | .neq, .slice a _ _ => K (.bool (!a.isNone)) | _, _ => False)
   | _ => False)
 | .map _ _ => (match y with
   | .const (.map none) => (match op, vx with | .eql, .map a => K (.bool a.isNone) | .neq, .map a => K (.bool (!a.isNone)) | _, _ => False)
   | _ => False)
 | .interface _ => (match y with
   | .const .nilIface => (match op with | .eql => ifNil vx fun b => K (.bool b) | .neq => ifNil vx fun b => K (.bool (!b)) | _ => False)
   | _ => False)
 | .func _ _ _ => (match y with
   | .const .nilFunc => (match op with | .eql => ifNilF vx fun b => K (.bool b) | .neq => ifNilF vx fun b => K (.bool (!b)) | _ => False)
   | _ => False)
 | .int _ => (match op with
   | .quo => (match vx, vy with | .int k a, .int k' b => (bif k == k' then b ≠ 0 ∧ K (.int k (k.wrap (a.tdiv b))) else False) | _, _ => False)
   | .rem => (match vx, vy with | .int k a, .int k' b => (bif k == k' then b ≠ 0 ∧ K (.int k (a.tmod b)) else False) | _, _ => False)
   | .shl => (match vx, vy with | .int k a, .int _ b => 0 ≤ b ∧ K (.int k (ishl k a b)) | _, _ => False)
   | .shr => (match vx, vy with | .int k a, .int _ b => 0 ≤ b ∧ K (.int k (ishr k a b)) | _, _ => False)
   | _ => False)
 | .string => (match op with
   | .add => (match vx, vy with | .string a, .string b => ((a.size + b.size : Nat) : Int) ≤ 9223372036854775807 ∧ K (.string (a ++ b)) | _, _ => False)
   | _ => False)
 | _ => False
def vcPureX (P : Program) (op : Op) (ρ : Operand → Value) (K : Value → Prop) : Prop :=
 match op with
 | .pick c a b => (match ρ c with | .bool t => K (pickV t a b (ρ a) (ρ b)) | _ => False)
 | .nilCheck x => nilChk (ρ x) K
 | .binOp op t x y _ => (match P.underlying t with
   | some d => vcBinX d op y (ρ x) (ρ y) K
   | none => False)
 | .indexAddr t x i => (match P.underlying t with
   | some (.slice el) => (match P.info? el with
     | some inf => (match ρ x, ρ i with
       | .slice a n _, .int _ ix => optK a fun ad => (0 ≤ ix ∧ ix < (n : Int)) ∧ K (.pointer (some (ad.add (ix.toNat * inf.size))))
       | _, _ => False)
     | none => False)
   | some (.array n el) => (match P.info? el with
     | some inf => (match ρ x, ρ i with
       | .pointer p, .int _ ix => optK p fun ad => (0 ≤ ix ∧ ix < (n : Int)) ∧ K (.pointer (some (ad.add (ix.toNat * inf.size))))
       | _, _ => False)
     | none => False)
   | _ => False)
 | .index t x i => (match P.underlying t with
   | some .string => (match ρ x, ρ i with
     | .string s, .int _ ix => (0 ≤ ix ∧ ix < (s.size : Int)) ∧ K (.int .u8 ((sget s ix.toNat).toNat : Int))
     | _, _ => False)
   | some (.array _ el) => pureV (codT P el) P (Instr.index t (ρ x) (ρ i)) fun y => K ((codT P el).enc y)
   | _ => False)
 | .slice t x lo hi none => (match P.underlying t with
   | some .string => (match ρ x with
     | .string s => slB s.size s.size (lo.map ρ) (hi.map ρ) fun l h => K (.string (s.extract l h))
     | _ => False)
   | some (.slice el) => (match P.info? el with
     | some inf => (match ρ x with
       | .slice a n c => slB c n (lo.map ρ) (hi.map ρ) fun l h => K (.slice (slA a c l inf.size) (h - l) (c - l))
       | _ => False)
     | none => False)
   | some (.array n el) => (match P.info? el with
     | some inf => (match ρ x with
       | .pointer p => optK p fun a => slB n n (lo.map ρ) (hi.map ρ) fun l h => K (.slice (slA (some a) n l inf.size) (h - l) (n - l))
       | _ => False)
     | none => False)
   | _ => False)
 | .slice t x lo (some hi) (some mx) => (match P.underlying t with
   | some (.slice el) => (match P.info? el with
     | some inf => (match ρ x, ρ hi, ρ mx with
       | .slice a _ c, .int _ h, .int _ m => (0 ≤ m ∧ m ≤ (c : Int)) ∧ (0 ≤ h ∧ h ≤ m) ∧ (match lo.map ρ with
         | none => K (.slice (slA a m.toNat 0 inf.size) (h.toNat - 0) (m.toNat - 0))
         | some (.int _ l) => (0 ≤ l ∧ l ≤ h) ∧ K (.slice (slA a m.toNat l.toNat inf.size) (h.toNat - l.toNat) (m.toNat - l.toNat))
         | _ => False)
       | _, _, _ => False)
     | none => False)
   | _ => False)
 | .sliceToArrayPointer t x => (match P.underlying t with
   | some (.array n _) => (match ρ x with | .slice a len _ => n ≤ len ∧ K (.pointer a) | _ => False)
   | _ => False)
 | .field t x f => (match P.underlying t with
   | some (.struct fs) => (match fs[f]? with
     | some fd => pureV (codT P fd.type) P (Instr.field t (ρ x) f) fun y => K ((codT P fd.type).enc y)
     | none => False)
   | _ => False)
 | .build t parts => pureV (codT P t) P (Instr.build t (parts.toList.map fun q => (q.1, ρ q.2)).toArray) fun y => K ((codT P t).enc y)
 | _ => False
theorem run_underlying' {P : Program} {t : TypeId} {d : TypeDesc} (h : P.underlying t = some d) (w : World) : (underlying t).run P w = .ok d w := by
 simp [underlying, h]
theorem run_sizeOf' {P : Program} {t : TypeId} {i : TypeInfo} (h : P.info? t = some i) (w : World) : (sizeOf t).run P w = .ok i.size w := by
 simp [sizeOf, typeInfo, h]
theorem slB_sound {P : Program} {isSlice : Bool} {cap len : Nat} {lo hi : Option Value} {K : Nat → Nat → Prop} (h : slB cap len lo hi K) :
  ∃ l u, (∀ w : World, (Instr.sliceBounds isSlice len cap lo hi none).run P w = .ok (l, u, cap) w) ∧ K l u := by
 unfold slB at h
 split at h
 ·split at h
  ·exact ⟨0, len, fun w => by simp [Instr.sliceBounds], h⟩
  ·rename_i k l
   obtain ⟨⟨h1, h2⟩, h3⟩ := h
   refine ⟨l.toNat, len, fun w => ?_, h3⟩
   simp [Instr.sliceBounds, Instr.sliceBound, asIntOf, h1, h2]
  ·exact h.elim
 ·rename_i k u
  obtain ⟨⟨h1, h2⟩, h3⟩ := h
  split at h3
  ·refine ⟨0, u.toNat, fun w => ?_, h3⟩
   cases isSlice <;> simp [Instr.sliceBounds, Instr.sliceBound, asIntOf, h1, h2]
  ·rename_i k' l
   obtain ⟨⟨h4, h5⟩, h6⟩ := h3
   obtain ⟨u, rfl⟩ := Int.eq_ofNat_of_zero_le h1
   obtain ⟨l, rfl⟩ := Int.eq_ofNat_of_zero_le h4
   have h7 : l ≤ u := by omega
   have h8 : u ≤ cap := by omega
   refine ⟨l, u, fun w => ?_, by simpa using h6⟩
   cases isSlice <;> simp [Instr.sliceBounds, Instr.sliceBound, asIntOf, h7, h8]
  ·exact h3.elim
 ·exact h.elim
theorem equalIn_ptr_nil {P : Program} {t e : TypeId} (hu : P.underlying t = some (.pointer e)) (a : Option Addr) (d : Nat) (w : World) : (Op.equalIn (d + 1) t (.pointer a) (.pointer none)).run P w = .ok a.isNone w := by
 cases a <;> simp [Op.equalIn, run_underlying' hu]
theorem equalIn_slice_nil {P : Program} {t e : TypeId} (hu : P.underlying t = some (.slice e)) (a : Option Addr) (n c n' c' d : Nat) (w : World) : (Op.equalIn (d + 1) t (.slice a n c) (.slice none n' c')).run P w = .ok a.isNone w := by
 cases a <;> simp [Op.equalIn, run_underlying' hu]
theorem equalIn_map_nil {P : Program} {t k e : TypeId} (hu : P.underlying t = some (.map k e)) (a : Option Nat) (d : Nat) (w : World) : (Op.equalIn (d + 1) t (.map a) (.map none)).run P w = .ok a.isNone w := by
 cases a <;> simp [Op.equalIn, run_underlying' hu]
theorem equalIn_iface_nil {P : Program} {t : TypeId} {ms : Array (String × TypeId)} (hu : P.underlying t = some (.interface ms)) (d : Nat) (w : World) : (Op.equalIn (d + 1) t .nilIface .nilIface).run P w = .ok true w ∧ ∀ u x, (Op.equalIn (d + 1) t (.iface u x) .nilIface).run P w = .ok false w := by
 refine ⟨?_, fun u x => ?_⟩ <;> simp [Op.equalIn, run_underlying' hu]
theorem equalIn_func_nil {P : Program} {t : TypeId} {ps rs : Array TypeId} {v : Bool} (hu : P.underlying t = some (.func ps rs v)) (d : Nat) (w : World) : (Op.equalIn (d + 1) t .nilFunc .nilFunc).run P w = .ok true w ∧ ∀ f a c, (Op.equalIn (d + 1) t (.func f a c) .nilFunc).run P w = .ok false w := by
 refine ⟨?_, fun f a c => ?_⟩ <;> simp [Op.equalIn, run_underlying' hu]
theorem vcBinX_sound {P : Program} {op : BinOp} {t : TypeId} {d : TypeDesc} {x y : Operand} {ρ : Operand → Value} {K : Value → Prop} (hρ : ∀ v, ρ (.const v) = v)
  (ht : P.underlying t = some d) (h : vcBinX d op y (ρ x) (ρ y) K) : ∃ v, (∀ w : World, (do eqGuard op t x y (ρ x) (ρ y); binOp op t (ρ x) (ρ y) : Sem Value).run P w = .ok v w) ∧ K v := by
 unfold vcBinX at h
 have keq : ∀ {k k' : IntKind} {A : Prop}, (bif k == k' then A else False) → k = k' ∧ A := by
  intro k k' A h
  by_cases e : k = k'
  ·subst e; simp at h; exact ⟨rfl, h⟩
  ·have : (k == k') = false := by simpa using e
   rw [this] at h; exact h.elim
 split at h
 ·split at h
  ·rw [hρ]
   split at h
   ·rename_i a hx
    rw [hx]
    exact ⟨_, fun w => by simp [eqGuard, binOp, Op.equal, Op.maxDepth, equalIn_ptr_nil ht], h⟩
   ·rename_i a hx
    rw [hx]
    exact ⟨_, fun w => by simp [eqGuard, binOp, Op.equal, Op.maxDepth, equalIn_ptr_nil ht], h⟩
   ·exact h.elim
  ·exact h.elim
 ·split at h
  ·rw [hρ]
   split at h
   ·rename_i a n c hx
    rw [hx]
    exact ⟨_, fun w => by simp [eqGuard, binOp, Op.equal, Op.maxDepth, equalIn_slice_nil ht], h⟩
   ·rename_i a n c hx
    rw [hx]
    exact ⟨_, fun w => by simp [eqGuard, binOp, Op.equal, Op.maxDepth, equalIn_slice_nil ht], h⟩
   ·exact h.elim
  ·exact h.elim
 ·split at h
  ·rw [hρ]
   split at h
   ·rename_i a hx
    rw [hx]
    exact ⟨_, fun w => by simp [eqGuard, binOp, Op.equal, Op.maxDepth, equalIn_map_nil ht], h⟩
   ·rename_i a hx
    rw [hx]
    exact ⟨_, fun w => by simp [eqGuard, binOp, Op.equal, Op.maxDepth, equalIn_map_nil ht], h⟩
   ·exact h.elim
  ·exact h.elim
 ·split at h
  ·rw [hρ]
   split at h
   ·unfold ifNil at h
    split at h
    ·rename_i hx
     rw [hx]
     exact ⟨_, fun w => by simp [eqGuard, binOp, Op.equal, Op.maxDepth, (equalIn_iface_nil ht _ _).1], h⟩
    ·rename_i hx
     rw [hx]
     exact ⟨_, fun w => by simp [eqGuard, binOp, Op.equal, Op.maxDepth, (equalIn_iface_nil ht _ _).2], h⟩
    ·exact h.elim
   ·unfold ifNil at h
    split at h
    ·rename_i hx
     rw [hx]
     exact ⟨_, fun w => by simp [eqGuard, binOp, Op.equal, Op.maxDepth, (equalIn_iface_nil ht _ _).1], h⟩
    ·rename_i hx
     rw [hx]
     exact ⟨_, fun w => by simp [eqGuard, binOp, Op.equal, Op.maxDepth, (equalIn_iface_nil ht _ _).2], h⟩
    ·exact h.elim
   ·exact h.elim
  ·exact h.elim
 ·split at h
  ·rw [hρ]
   split at h
   ·unfold ifNilF at h
    split at h
    ·rename_i hx
     rw [hx]
     exact ⟨_, fun w => by simp [eqGuard, binOp, Op.equal, Op.maxDepth, (equalIn_func_nil ht _ _).1], h⟩
    ·rename_i hx
     rw [hx]
     exact ⟨_, fun w => by simp [eqGuard, binOp, Op.equal, Op.maxDepth, (equalIn_func_nil ht _ _).2], h⟩
    ·exact h.elim
   ·unfold ifNilF at h
    split at h
    ·rename_i hx
     rw [hx]
     exact ⟨_, fun w => by simp [eqGuard, binOp, Op.equal, Op.maxDepth, (equalIn_func_nil ht _ _).1], h⟩
    ·rename_i hx
     rw [hx]
     exact ⟨_, fun w => by simp [eqGuard, binOp, Op.equal, Op.maxDepth, (equalIn_func_nil ht _ _).2], h⟩
    ·exact h.elim
   ·exact h.elim
  ·exact h.elim
 ·split at h
  ·split at h
   ·rename_i k a k' b hx hy
    rw [hx, hy]
    obtain ⟨rfl, h1, h2⟩ := keq h
    exact ⟨_, fun w => by simp [eqGuard, binOp, Op.intDiv, h1], h2⟩
   ·exact h.elim
  ·split at h
   ·rename_i k a k' b hx hy
    rw [hx, hy]
    obtain ⟨rfl, h1, h2⟩ := keq h
    exact ⟨_, fun w => by simp [eqGuard, binOp, Op.intDiv, h1], h2⟩
   ·exact h.elim
  ·split at h
   ·rename_i k a k' b hx hy
    rw [hx, hy]
    obtain ⟨h1, h2⟩ := h
    exact ⟨_, fun w => by simp [eqGuard, binOp, Op.shift, show ¬ b < 0 by omega]; rfl, h2⟩
   ·exact h.elim
  ·split at h
   ·rename_i k a k' b hx hy
    rw [hx, hy]
    obtain ⟨h1, h2⟩ := h
    exact ⟨_, fun w => by simp [eqGuard, binOp, Op.shift, show ¬ b < 0 by omega]; rfl, h2⟩
   ·exact h.elim
  ·exact h.elim
 ·split at h
  ·split at h
   ·rename_i a b hx hy
    rw [hx, hy]
    have h1 : (a.size : Int) + (b.size : Int) ≤ 9223372036854775807 := by have := h.1; omega
    exact ⟨_, fun w => by simp only [eqGuard, binOp, Op.stringOp, Sem.run_bind]; simp [h1], h.2⟩
   ·exact h.elim
  ·exact h.elim
 ·exact h.elim
theorem pickV_eq {t : Bool} {a b : Operand} {ρ : Operand → Value} (hρ : ∀ v, ρ (.const v) = v) : pickV t a b (ρ a) (ρ b) = if t then ρ a else ρ b := by
 unfold pickV
 split
 ·rename_i x y hx hy
  split
  ·have e := hρ (.bool false)
   rw [hy] at e
   have e2 : y = false := by simpa using e
   rw [hx, hy, e2]; cases t <;> simp
  ·split
   ·have e := hρ (.bool true)
    rw [hx] at e
    have e2 : x = true := by simpa using e
    rw [hx, hy, e2]; cases t <;> simp
   ·rw [hx, hy]; cases t <;> simp
 ·cases t <;> simp
theorem vcPureX_sound {P : Program} {o : Oper} {ρ : Operand → Value} {K : Value → Prop} (hρ : ∀ v, ρ (.const v) = v) (h : vcPureX P o.op ρ K) :
  ∃ v, (∀ w : World, (execOp ρ o).run P w = .ok (.value v) w) ∧ K v := by
 obtain ⟨dst, op, type, pos, after, guard⟩ := o
 simp only at h
 unfold vcPureX at h
 cases op <;> simp only at h <;> try exact h.elim
 case pick c a b =>
  split at h
  ·rename_i t hc
   rw [pickV_eq hρ] at h
   exact ⟨_, fun w => by simp [execOp, hc, asBool], h⟩
  ·exact h.elim
 case field t x f =>
  split at h
  ·split at h
   ·obtain ⟨y, h1, h2⟩ := h
    exact ⟨_, fun w => by simp only [execOp, Sem.run_bind, h1 w, Result.andThen_ok, Sem.run_pure], h2⟩
   ·exact h.elim
  ·exact h.elim
 case build t parts =>
  obtain ⟨y, h1, h2⟩ := h
  refine ⟨_, fun w => ?_, h2⟩
  have e : (parts.toList.map fun q => (q.1, ρ q.2)).toArray = parts.map fun (i, x) => (i, ρ x) := by apply Array.ext'; simp
  rw [e] at h1
  simp only [execOp, Sem.run_bind, h1 w, Result.andThen_ok, Sem.run_pure]
 case nilCheck x =>
  unfold nilChk at h
  split at h
  ·rename_i p hp
   obtain ⟨a, rfl, hk⟩ := optK_some h
   exact ⟨_, fun w => by simp only [execOp, hp]; rfl, hk⟩
  ·rename_i f a b hp
   exact ⟨_, fun w => by simp only [execOp, hp]; rfl, h⟩
  ·rename_i t x hp
   exact ⟨_, fun w => by simp only [execOp, hp]; rfl, h⟩
  ·exact h.elim
 case binOp op t x y yt =>
  split at h
  ·rename_i d hd
   obtain ⟨v, h1, h2⟩ := vcBinX_sound hρ hd h
   refine ⟨v, fun w => ?_, h2⟩
   have := h1 w
   simp only [execOp, Sem.run_bind] at this ⊢
   rw [this]; rfl
  ·exact h.elim
 case indexAddr t x i =>
  split at h
  ·rename_i el hu
   split at h
   ·rename_i inf hi
    split at h
    ·rename_i a n c k ix hx hix
     obtain ⟨ad, rfl, ⟨h1, h2⟩, hk⟩ := optK_some h
     refine ⟨_, fun w => ?_, hk⟩
     simp [execOp, Instr.indexAt, hx, hix, asIntOf, run_underlying' hu, run_sizeOf' hi, h1, h2]
    ·exact h.elim
   ·exact h.elim
  ·rename_i n el hu
   split at h
   ·rename_i inf hi
    split at h
    ·rename_i p k ix hx hix
     obtain ⟨ad, rfl, ⟨h1, h2⟩, hk⟩ := optK_some h
     refine ⟨_, fun w => ?_, hk⟩
     simp [execOp, Instr.indexAt, hx, hix, asIntOf, Instr.sureAddr, run_underlying' hu, run_sizeOf' hi, h1, h2]
    ·exact h.elim
   ·exact h.elim
  ·exact h.elim
 case index t x i =>
  split at h
  ·rename_i hu
   split at h
   ·rename_i s k ix hx hix
    obtain ⟨⟨h1, h2⟩, hk⟩ := h
    refine ⟨_, fun w => ?_, hk⟩
    have h3 : ix.toNat < s.size := by omega
    have h4 : s[ix.toNat]? = some (s[ix.toNat]'h3) := getElem?_pos s ix.toNat h3
    have h5 : sget s ix.toNat = s[ix.toNat]'h3 := by
     unfold sget
     rw [Array.getD_eq_getD_getElem?, Array.getElem?_eq_getElem h3]; rfl
    simp [execOp, Instr.index, hx, hix, asIntOf, run_underlying' hu, h1, h4, h5]
   ·exact h.elim
  ·obtain ⟨y, h1, h2⟩ := h
   exact ⟨_, fun w => by simp only [execOp, Sem.run_bind, h1 w, Result.andThen_ok, Sem.run_pure], h2⟩
  ·exact h.elim
 case slice t x lo hi mx =>
  cases mx with
  | some mx =>
    cases hi with
    | none => exact h.elim
    | some hi =>
    simp only at h
    split at h
    ·rename_i el hu
     split at h
     ·rename_i inf hin
      split at h
      ·rename_i a n c kh u km m hx hh hm
       obtain ⟨⟨h1, h2⟩, ⟨h3, h4⟩, h5⟩ := h
       obtain ⟨m, rfl⟩ := Int.eq_ofNat_of_zero_le h1
       obtain ⟨u, rfl⟩ := Int.eq_ofNat_of_zero_le h3
       have h6 : m ≤ c := by omega
       have h7 : u ≤ m := by omega
       split at h5
       ·rename_i hlo
        refine ⟨_, fun w => ?_, h5⟩
        simp only [execOp, Instr.sliceAt, Instr.slice, hx, Sem.run_bind, run_underlying' hu, Result.andThen_ok, hlo, Option.map_some, hh, hm]
        simp [Instr.sliceBounds, Instr.sliceBound, asIntOf, h6, h7, run_sizeOf' hin, slA]
       ·rename_i kl l hlo
        obtain ⟨⟨h8, h9⟩, h10⟩ := h5
        obtain ⟨l, rfl⟩ := Int.eq_ofNat_of_zero_le h8
        have h11 : l ≤ u := by omega
        refine ⟨_, fun w => ?_, h10⟩
        simp only [execOp, Instr.sliceAt, Instr.slice, hx, Sem.run_bind, run_underlying' hu, Result.andThen_ok, hlo, Option.map_some, hh, hm]
        simp [Instr.sliceBounds, Instr.sliceBound, asIntOf, h6, h7, h11, run_sizeOf' hin, slA]
       ·exact h5.elim
      ·exact h.elim
     ·exact h.elim
    ·exact h.elim
  | none =>
    simp only at h
    split at h
    ·rename_i hu
     split at h
     ·rename_i s hx
      obtain ⟨l, u, h1, h2⟩ := slB_sound (P := P) (isSlice := false) h
      refine ⟨_, fun w => ?_, h2⟩
      have h3 := h1 w
      simp only [execOp, Instr.sliceAt, Instr.slice, hx, Sem.run_bind, run_underlying' hu, Result.andThen_ok, Option.map_none]
      simp [h3]
     ·exact h.elim
    ·rename_i el hu
     split at h
     ·rename_i inf hi
      split at h
      ·rename_i a n c hx
       obtain ⟨l, u, h1, h2⟩ := slB_sound (P := P) (isSlice := true) h
       refine ⟨_, fun w => ?_, h2⟩
       have h3 := h1 w
       simp only [execOp, Instr.sliceAt, Instr.slice, hx, Sem.run_bind, run_underlying' hu, Result.andThen_ok, Option.map_none]
       simp [h3, run_sizeOf' hi, slA]
      ·exact h.elim
     ·exact h.elim
    ·rename_i n el hu
     split at h
     ·rename_i inf hi
      split at h
      ·rename_i p hx
       obtain ⟨a, rfl, hk⟩ := optK_some h
       obtain ⟨l, u, h1, h2⟩ := slB_sound (P := P) (isSlice := false) hk
       refine ⟨_, fun w => ?_, h2⟩
       have h3 := h1 w
       simp only [execOp, Instr.sliceAt, hx, Instr.sureAddr, Sem.run_bind, Sem.run_pure, run_underlying' hu, Result.andThen_ok, Option.map_none]
       simp [h3, run_sizeOf' hi, slA]
       split <;> rfl
      ·exact h.elim
     ·exact h.elim
    ·exact h.elim
 case sliceToArrayPointer t x =>
  split at h
  ·rename_i n el hu
   split at h
   ·rename_i a len c hx
    refine ⟨_, fun w => ?_, h.2⟩
    simp [execOp, Instr.arrayAt, hx, run_underlying' hu, show ¬ len < n by omega]
   ·exact h.elim
  ·exact h.elim
end Go.Proofs.YtkehfflpbpdokaaGreat
