/-
  Pages in plain words: their sum, what seals them, what opens them.
-/
import Derived.Test.YtjjfngnokbboeaaDoorFxk
import Derived.Test.YtjjfngnokbboeaaDoorDkm
namespace Go.Proofs.YtjjfngnokbboeaaDoor

/-! ### The sum -/

def poly : BitVec 32 := 0xedb88320#32
def bit1 (r : BitVec 32) : BitVec 32 := (r >>> 1) ^^^ (if r.getLsbD 0 then poly else 0#32)
def bit4 (r : BitVec 32) : BitVec 32 := bit1 (bit1 (bit1 (bit1 r)))
def crc8 (r : BitVec 32) (c : UInt8) : BitVec 32 := bit4 (bit4 (r ^^^ BitVec.ofNat 32 c.toNat))
def sumB (l : List UInt8) : BitVec 32 := ~~~ (l.foldl crc8 (BitVec.allOnes 32))
def stepsL : List (BitVec 32) := [0x00000000#32, 0x1db71064#32, 0x3b6e20c8#32, 0x26d930ac#32, 0x76dc4190#32, 0x6b6b51f4#32, 0x4db26158#32, 0x5005713c#32, 0xedb88320#32, 0xf00f9344#32, 0xd6d6a3e8#32, 0xcb61b38c#32, 0x9b64c2b0#32, 0x86d3d2d4#32, 0xa00ae278#32, 0xbdbdf21c#32]

theorem bit1_xor (a b : BitVec 32) : bit1 (a ^^^ b) = bit1 a ^^^ bit1 b := by
  unfold bit1
  rw [BitVec.ushiftRight_xor_distrib, BitVec.getLsbD_xor]
  generalize a >>> 1 = x
  generalize b >>> 1 = y
  cases a.getLsbD 0 <;> cases b.getLsbD 0 <;> simp
  · rw [BitVec.xor_assoc]
  · rw [BitVec.xor_assoc, BitVec.xor_assoc, BitVec.xor_comm y]
  · rw [BitVec.xor_assoc, ← BitVec.xor_assoc poly, BitVec.xor_comm poly y, BitVec.xor_assoc y, BitVec.xor_self, BitVec.xor_zero]
theorem bit4_xor (a b : BitVec 32) : bit4 (a ^^^ b) = bit4 a ^^^ bit4 b := by
  unfold bit4; simp only [bit1_xor]
theorem bit1_even {a : BitVec 32} (h : a.getLsbD 0 = false) : bit1 a = a >>> 1 := by
  unfold bit1; rw [h]; simp
theorem bit4_high {a : BitVec 32} (h : ∀ i, i < 4 → a.getLsbD i = false) : bit4 a = a >>> 4 := by
  have e1 : bit1 a = a >>> 1 := bit1_even (h 0 (by decide))
  have e2 : bit1 (a >>> 1) = a >>> 2 := by
    rw [bit1_even (by rw [BitVec.getLsbD_ushiftRight]; exact h 1 (by decide)), ← BitVec.shiftRight_add]
  have e3 : bit1 (a >>> 2) = a >>> 3 := by
    rw [bit1_even (by rw [BitVec.getLsbD_ushiftRight]; exact h 2 (by decide)), ← BitVec.shiftRight_add]
  have e4 : bit1 (a >>> 3) = a >>> 4 := by
    rw [bit1_even (by rw [BitVec.getLsbD_ushiftRight]; exact h 3 (by decide)), ← BitVec.shiftRight_add]
  unfold bit4
  rw [e1, e2, e3, e4]
theorem bit4_low : ∀ n : Nat, n < 16 → bit4 (BitVec.ofNat 32 n) = stepsL.getD n 0#32 := by decide
theorem split16 (r : BitVec 32) : r = (r &&& 0xfffffff0#32) ^^^ (r &&& 15#32) := by
  apply BitVec.eq_of_getLsbD_eq
  intro i hi
  rw [BitVec.getLsbD_xor, BitVec.getLsbD_and, BitVec.getLsbD_and]
  have : (0xfffffff0#32).getLsbD i = !((15#32).getLsbD i) := by
    revert i; decide
  rw [this]
  cases r.getLsbD i <;> cases (15#32).getLsbD i <;> rfl
theorem high_bits : ∀ i, i < 4 → (0xfffffff0#32).getLsbD i = false := by decide
theorem low15 (r : BitVec 32) : r &&& 15#32 = BitVec.ofNat 32 (r.toNat % 16) := by
  apply BitVec.eq_of_toNat_eq
  have h1 : (15#32).toNat = 2 ^ 4 - 1 := by decide
  rw [BitVec.toNat_and, h1, Nat.and_two_pow_sub_one_eq_mod, BitVec.toNat_ofNat]
  omega
theorem low15_high (r : BitVec 32) : (r &&& 15#32) >>> 4 = 0#32 := by
  rw [low15]
  apply BitVec.eq_of_toNat_eq
  rw [BitVec.toNat_ushiftRight, BitVec.toNat_ofNat, Nat.shiftRight_eq_div_pow]
  simp
  omega
/-- Half a byte at once. -/
theorem bit4_eq (r : BitVec 32) : bit4 r = (r >>> 4) ^^^ stepsL.getD (r.toNat % 16) 0#32 := by
  have h := split16 r
  have e1 : bit4 r = bit4 (r &&& 0xfffffff0#32) ^^^ bit4 (r &&& 15#32) := by rw [← bit4_xor, ← h]
  have e2 : r >>> 4 = (r &&& 0xfffffff0#32) >>> 4 := by
    conv => lhs; rw [h, BitVec.ushiftRight_xor_distrib, low15_high]
    simp
  rw [e1, e2, bit4_high (fun i hi => by rw [BitVec.getLsbD_and, high_bits i hi, Bool.and_false]), low15, bit4_low _ (Nat.mod_lt _ (by decide))]

/-! ### Sealing -/

def le4 (x : BitVec 32) : List UInt8 := [UInt8.ofNat x.toNat, UInt8.ofNat (x.toNat / 256), UInt8.ofNat (x.toNat / 65536), UInt8.ofNat (x.toNat / 16777216)]
def bodyP (kind : UInt8) (b : List UInt8) : List UInt8 := [UInt8.ofNat b.length, UInt8.ofNat (b.length / 256), kind, 157] ++ b ++ List.replicate (504 - b.length) 0
def sealP (kind : UInt8) (b : List UInt8) : List UInt8 := le4 (sumB (bodyP kind b)) ++ bodyP kind b
/-- What a page holds; none: it is torn. -/
def sizeP (p : List UInt8) : Nat := (p.getD 4 0).toNat + 256 * (p.getD 5 0).toNat
def openP (p : List UInt8) : Option (UInt8 × List UInt8) :=
  if sizeP p ≤ 504 ∧ sealP (p.getD 6 0) ((p.drop 8).take (sizeP p)) = p then some (p.getD 6 0, (p.drop 8).take (sizeP p)) else none

theorem bodyP_length {kind : UInt8} {b : List UInt8} (h : b.length ≤ 504) : (bodyP kind b).length = 508 := by
  simp [bodyP]; omega
theorem sealP_length {kind : UInt8} {b : List UInt8} (h : b.length ≤ 504) : (sealP kind b).length = 512 := by
  simp [sealP, bodyP_length h, le4]
theorem size_back {n : Nat} (h : n ≤ 504) : (UInt8.ofNat n).toNat + 256 * (UInt8.ofNat (n / 256)).toNat = n := by
  rw [UInt8.toNat_ofNat', UInt8.toNat_ofNat']; omega
/-- What is sealed opens. -/
theorem openP_sealP {kind : UInt8} {b : List UInt8} (h : b.length ≤ 504) : openP (sealP kind b) = some (kind, b) := by
  have h4 : (sealP kind b).getD 4 0 = UInt8.ofNat b.length := rfl
  have h5 : (sealP kind b).getD 5 0 = UInt8.ofNat (b.length / 256) := rfl
  have h6 : (sealP kind b).getD 6 0 = kind := rfl
  have hs : sizeP (sealP kind b) = b.length := by unfold sizeP; rw [h4, h5, size_back h]
  have hd : ((sealP kind b).drop 8).take b.length = b := by
    have : (sealP kind b).drop 8 = b ++ List.replicate (504 - b.length) 0 := rfl
    rw [this, List.take_left]
  unfold openP
  rw [hs, h6, hd, if_pos ⟨h, rfl⟩]
/-- When a page opens. -/
theorem openP_iff {p : List UInt8} (hp : p.length = 512) :
    (sizeP p ≤ 504 ∧ sealP (p.getD 6 0) ((p.drop 8).take (sizeP p)) = p) ↔ (p.take 4 = le4 (sumB (p.drop 4)) ∧ sizeP p ≤ 504 ∧ p.getD 7 0 = 157 ∧ ∀ c ∈ p.drop (8 + sizeP p), c = 0) := by
  match p, hp with
  | a0 :: a1 :: a2 :: a3 :: a4 :: a5 :: a6 :: a7 :: r, hp =>
    have hr : r.length = 504 := by simp at hp; exact hp
    have hs : sizeP (a0 :: a1 :: a2 :: a3 :: a4 :: a5 :: a6 :: a7 :: r) = a4.toNat + 256 * a5.toNat := rfl
    rw [hs]
    show (_ ∧ sealP a6 (r.take (a4.toNat + 256 * a5.toNat)) = _) ↔ ([a0, a1, a2, a3] = le4 (sumB (a4 :: a5 :: a6 :: a7 :: r)) ∧ _ ∧ a7 = 157 ∧ _)
    have hd : (a0 :: a1 :: a2 :: a3 :: a4 :: a5 :: a6 :: a7 :: r).drop (8 + (a4.toNat + 256 * a5.toNat)) = r.drop (a4.toNat + 256 * a5.toNat) := by
      rw [Nat.add_comm 8]; rfl
    rw [hd]
    generalize hn : a4.toNat + 256 * a5.toNat = n
    have h4 := a4.toNat_lt
    have h5 := a5.toNat_lt
    by_cases hle : n ≤ 504
    · have hl : (r.take n).length = n := by simp; omega
      have ha4 : UInt8.ofNat n = a4 := by
        apply UInt8.toNat_inj.1; rw [UInt8.toNat_ofNat']; omega
      have ha5 : UInt8.ofNat (n / 256) = a5 := by
        apply UInt8.toNat_inj.1; rw [UInt8.toNat_ofNat']; omega
      have hb : bodyP a6 (r.take n) = a4 :: a5 :: a6 :: 157 :: (r.take n ++ List.replicate (504 - n) 0) := by
        simp [bodyP, hl, ha4, ha5]
      have hz : (∀ c ∈ r.drop n, c = 0) ↔ r.take n ++ List.replicate (504 - n) 0 = r := by
        constructor
        · intro h
          have : List.replicate (504 - n) 0 = r.drop n := by
            symm; rw [List.eq_replicate_iff]; exact ⟨by simp; omega, h⟩
          rw [this, List.take_append_drop]
        · intro h c hc
          have e : r.drop n = List.replicate (504 - n) 0 := by
            conv => lhs; rw [← h]
            rw [List.drop_append_of_le_length (by omega), List.drop_of_length_le (by omega)]; simp
          rw [e] at hc
          exact (List.mem_replicate.1 hc).2
      rw [hz]
      unfold sealP
      rw [hb]
      constructor
      · rintro ⟨_, h⟩
        simp only [le4, List.cons_append, List.nil_append, List.cons.injEq] at h
        obtain ⟨e0, e1, e2, e3, _, _, _, e7, e8⟩ := h
        rw [e8] at e0 e1 e2 e3
        rw [← e7]
        refine ⟨?_, hle, rfl, e8⟩
        simp only [le4, e0, e1, e2, e3]
      · rintro ⟨h1, _, h2, h3⟩
        refine ⟨hle, ?_⟩
        rw [h3, ← h2, ← h1]; rfl
    · constructor
      · rintro ⟨h, _⟩; exact absurd h hle
      · rintro ⟨_, h, _⟩; exact absurd h hle

end Go.Proofs.YtjjfngnokbboeaaDoor

/-
  Manifests in plain words: their bytes, and what bytes tell.
-/
namespace Go.Proofs.YtjjfngnokbboeaaDoor

structure Sv where
  rel : ByteArray
  file : ByteArray
  rows : Int
structure Mf where
  opts : Int
  next : Int
  input : ByteArray
  terms : ByteArray
  rels : List Sv
def mf0 : Mf := ⟨0, 0, ByteArray.empty, ByteArray.empty, []⟩
def svE (a b : Sv) : Bool := decide (a.rel = b.rel) && decide (a.file = b.file) && decide (a.rows = b.rows)
theorem svE_iff {a b : Sv} : svE a b = true ↔ a = b := by
  cases a; cases b
  simp [svE, and_assoc]
instance : DecidableEq Sv := fun _ _ => decidable_of_iff _ svE_iff
def mfE (a b : Mf) : Bool := decide (a.opts = b.opts) && decide (a.next = b.next) && decide (a.input = b.input) && decide (a.terms = b.terms) && decide (a.rels = b.rels)
theorem mfE_iff {a b : Mf} : mfE a b = true ↔ a = b := by
  cases a; cases b
  simp [mfE, and_assoc]
instance : DecidableEq Mf := fun _ _ => decidable_of_iff _ mfE_iff

def svOK (x : Sv) : Bool := decide (x.rel.size ≠ 0) && decide (x.rel.size ≤ 65536) && decide (x.file.size ≠ 0) && decide (x.file.size ≤ 100) && decide (0 ≤ x.rows) && decide (x.rows ≤ 2147483647)
def mayM (m : Mf) : Bool := decide (0 ≤ m.next) && decide (m.next ≤ 256) && decide (m.input.size ≠ 0) && decide (m.input.size ≤ 100) && decide (m.terms.size ≤ 100) && decide (m.rels.length ≤ 256) && m.rels.all svOK

/-- A number in so many bytes, the highest first. -/
def beN : Nat → Nat → List UInt8
  | 0, _ => []
  | k + 1, n => UInt8.ofNat (n / 256 ^ k) :: beN k n
def deN (l : List UInt8) : Nat := l.foldl (fun a c => (a * 256 + c.toNat) % 18446744073709551616) 0
@[simp] theorem beN_length : ∀ (k n : Nat), (beN k n).length = k
  | 0, _ => rfl
  | k + 1, n => by simp [beN, beN_length k n]
theorem deN_be : ∀ (k n a : Nat), k ≤ 8 → a < 256 ^ (8 - k) → (beN k n).foldl (fun a c => (a * 256 + c.toNat) % 18446744073709551616) a = a * 256 ^ k + n % 256 ^ k
  | 0, n, a, _, _ => by simp [beN, Nat.mod_one]
  | k + 1, n, a, hk, ha => by
    have h8 : (256 : Nat) ^ 8 = 18446744073709551616 := by decide
    have e1 : 8 - k = 8 - (k + 1) + 1 := by omega
    have hp : (256 : Nat) ^ (8 - k) = 256 ^ (8 - (k + 1)) * 256 := by rw [e1, Nat.pow_succ]
    have hc : (UInt8.ofNat (n / 256 ^ k)).toNat = n / 256 ^ k % 256 := UInt8.toNat_ofNat' ..
    have hm : n / 256 ^ k % 256 < 256 := Nat.mod_lt _ (by decide)
    have hlt : a * 256 + n / 256 ^ k % 256 < 256 ^ (8 - k) := by
      rw [hp]; generalize (256 : Nat) ^ (8 - (k + 1)) = q at ha ⊢; omega
    have hle : (256 : Nat) ^ (8 - k) ≤ 18446744073709551616 := by rw [← h8]; exact Nat.pow_le_pow_right (by decide) (by omega)
    unfold beN
    rw [List.foldl_cons, hc, Nat.mod_eq_of_lt (Nat.lt_of_lt_of_le hlt hle), deN_be k n _ (by omega) hlt]
    have hmod : n % 256 ^ (k + 1) = n / 256 ^ k % 256 * 256 ^ k + n % 256 ^ k := by
      rw [Nat.pow_succ, Nat.mod_mul, Nat.mul_comm (256 ^ k)]; omega
    rw [hmod, Nat.add_mul, Nat.pow_succ, Nat.mul_assoc, Nat.mul_comm 256 (256 ^ k), Nat.add_assoc]
theorem deN_beN {k n : Nat} (hk : k ≤ 8) (hn : n < 256 ^ k) : deN (beN k n) = n := by
  unfold deN
  rw [deN_be k n 0 hk (Nat.pow_pos (by decide)), Nat.mod_eq_of_lt hn]; simp
theorem deN_lt : ∀ (l : List UInt8) (a : Nat), a < 256 ^ (8 - l.length) → l.length ≤ 8 → l.foldl (fun a c => (a * 256 + c.toNat) % 18446744073709551616) a < a * 256 ^ l.length + 256 ^ l.length
  | [], a, _, _ => by simp
  | c :: l, a, ha, hl => by
    have hc := c.toNat_lt
    have h8 : (256 : Nat) ^ 8 = 18446744073709551616 := by decide
    rw [List.length_cons] at ha hl
    have e1 : 8 - l.length = 8 - (l.length + 1) + 1 := by omega
    have hp : (256 : Nat) ^ (8 - l.length) = 256 ^ (8 - (l.length + 1)) * 256 := by rw [e1, Nat.pow_succ]
    have hlt : a * 256 + c.toNat < 256 ^ (8 - l.length) := by
      rw [hp]; generalize (256 : Nat) ^ (8 - (l.length + 1)) = q at ha ⊢; omega
    have hle : (256 : Nat) ^ (8 - l.length) ≤ 18446744073709551616 := by rw [← h8]; exact Nat.pow_le_pow_right (by decide) (by omega)
    rw [List.foldl_cons, Nat.mod_eq_of_lt (Nat.lt_of_lt_of_le hlt hle)]
    have ih := deN_lt l _ hlt (by omega)
    rw [List.length_cons, Nat.pow_succ]
    generalize 256 ^ l.length = p at ih ⊢
    have h1 : (a * 256 + c.toNat) * p + p ≤ (a * 256 + 255) * p + p := Nat.add_le_add_right (Nat.mul_le_mul_right _ (by omega)) _
    have h2 : (a * 256 + 255) * p + p = a * (p * 256) + p * 256 := by rw [Nat.add_mul, Nat.mul_assoc, Nat.mul_comm 256 p]; omega
    omega
theorem deN_four {l : List UInt8} (h : l.length ≤ 4) : deN l < 4294967296 := by
  have := deN_lt l 0 (Nat.pow_pos (by decide)) (by omega)
  have h2 : (256 : Nat) ^ l.length ≤ 256 ^ 4 := Nat.pow_le_pow_right (by decide) h
  unfold deN
  have h3 : (256 : Nat) ^ 4 = 4294967296 := by decide
  omega

def txtB (s : ByteArray) : List UInt8 := beN 4 s.size ++ s.data.toList
def svB (x : Sv) : List UInt8 := txtB x.rel ++ (txtB x.file ++ beN 4 x.rows.toNat)
def encM (m : Mf) : List UInt8 := 1 :: UInt8.ofNat m.opts.toNat :: (beN 4 m.next.toNat ++ (txtB m.input ++ (txtB m.terms ++ (beN 4 m.rels.length ++ m.rels.flatMap svB))))

/-! ### What is read; none: there was too little -/

def baOf (l : List UInt8) : ByteArray := ⟨l.toArray⟩
theorem baOf_data (s : ByteArray) : baOf s.data.toList = s := rfl
def mNum : Option (List UInt8) → Nat × Option (List UInt8)
  | none => (0, none)
  | some b => if b.length < 4 then (0, none) else (deN (b.take 4), some (b.drop 4))
def mTake (n : Nat) : Option (List UInt8) → List UInt8 × Option (List UInt8)
  | none => ([], none)
  | some b => if b.length < n then ([], none) else (b.take n, some (b.drop n))
def mTxt (s : Option (List UInt8)) : ByteArray × Option (List UInt8) := (baOf (mTake (mNum s).1 (mNum s).2).1, (mTake (mNum s).1 (mNum s).2).2)
def mSv (s : Option (List UInt8)) : Sv × Option (List UInt8) :=
  (⟨(mTxt s).1, (mTxt (mTxt s).2).1, ((mNum (mTxt (mTxt s).2).2).1 : Int)⟩, (mNum (mTxt (mTxt s).2).2).2)
def mSvs : Nat → Option (List UInt8) → List Sv × Option (List UInt8)
  | 0, s => ([], s)
  | _ + 1, none => ([], none)
  | k + 1, some b => ((mSv (some b)).1 :: (mSvs k (mSv (some b)).2).1, (mSvs k (mSv (some b)).2).2)
structure Rdm where
  n : Nat
  m : Mf
  s : Option (List UInt8)
def mHead (s : Option (List UInt8)) : (Nat × ByteArray × ByteArray × Nat) × Option (List UInt8) :=
  (((mNum s).1, (mTxt (mNum s).2).1, (mTxt (mTxt (mNum s).2).2).1, (mNum (mTxt (mTxt (mNum s).2).2).2).1), (mNum (mTxt (mTxt (mNum s).2).2).2).2)
def rdM (b : List UInt8) : Rdm :=
  ⟨(mHead (some (b.drop 2))).1.2.2.2, ⟨((b.getD 1 0).toNat : Int), ((mHead (some (b.drop 2))).1.1 : Int), (mHead (some (b.drop 2))).1.2.1, (mHead (some (b.drop 2))).1.2.2.1, (mSvs (min (mHead (some (b.drop 2))).1.2.2.2 257) (mHead (some (b.drop 2))).2).1⟩, (mSvs (min (mHead (some (b.drop 2))).1.2.2.2 257) (mHead (some (b.drop 2))).2).2⟩
def decM (b : List UInt8) : Option Mf :=
  if b.length < 2 ∨ b.getD 0 0 ≠ 1 then none
  else if (rdM b).s = some [] ∧ (rdM b).m.rels.length = (rdM b).n ∧ mayM (rdM b).m = true then some (rdM b).m else none

theorem mNum_be {n : Nat} (hn : n < 4294967296) (r : List UInt8) : mNum (some (beN 4 n ++ r)) = (n, some r) := by
  have hd : 256 ^ 4 = 4294967296 := by decide
  unfold mNum
  simp only
  rw [if_neg (by simp), List.take_left' (by simp), List.drop_left' (by simp), deN_beN (by decide) (by omega)]
theorem mTxt_b {s : ByteArray} (hs : s.size < 4294967296) (r : List UInt8) : mTxt (some (txtB s ++ r)) = (s, some r) := by
  unfold mTxt txtB
  rw [List.append_assoc, mNum_be hs]
  have hl : s.data.toList.length = s.size := by rw [Array.length_toList]; rfl
  unfold mTake
  simp only
  rw [if_neg (by rw [List.length_append, hl]; omega), List.take_left' hl, List.drop_left' hl]
  rfl
theorem mSv_b {x : Sv} (h : svOK x = true) (r : List UInt8) : mSv (some (svB x ++ r)) = (x, some r) := by
  unfold svOK at h
  simp only [Bool.and_eq_true, decide_eq_true_eq] at h
  unfold mSv svB
  rw [List.append_assoc, List.append_assoc, mTxt_b (by omega), mTxt_b (by omega), mNum_be (by omega)]
  have : ((x.rows.toNat : Nat) : Int) = x.rows := by omega
  rw [this]
theorem mSvs_b : ∀ (l : List Sv), (∀ x ∈ l, svOK x = true) → ∀ r, mSvs l.length (some (l.flatMap svB ++ r)) = (l, some r)
  | [], _, r => rfl
  | x :: l, h, r => by
    rw [List.length_cons, List.flatMap_cons, List.append_assoc]
    unfold mSvs
    rw [mSv_b (h x List.mem_cons_self), mSvs_b l (fun y hy => h y (List.mem_cons_of_mem _ hy))]
theorem dec_enc {m : Mf} (h : mayM m = true) (ho : 0 ≤ m.opts ∧ m.opts < 256) : decM (encM m) = some m := by
  have h0 := h
  unfold mayM at h
  simp only [Bool.and_eq_true, decide_eq_true_eq, List.all_eq_true] at h
  obtain ⟨⟨⟨⟨⟨⟨h1, h2⟩, h3⟩, h4⟩, h5⟩, h6⟩, h7⟩ := h
  have hd : (encM m).drop 2 = beN 4 m.next.toNat ++ (txtB m.input ++ (txtB m.terms ++ (beN 4 m.rels.length ++ m.rels.flatMap svB))) := rfl
  have hh : mHead (some ((encM m).drop 2)) = ((m.next.toNat, m.input, m.terms, m.rels.length), some (m.rels.flatMap svB)) := by
    rw [hd]
    unfold mHead
    rw [mNum_be (by omega)]
    simp only
    rw [mTxt_b (by omega)]
    simp only
    rw [mTxt_b (by omega)]
    simp only
    rw [mNum_be (by omega)]
  have hs := mSvs_b m.rels (fun x hx => h7 x hx) []
  rw [List.append_nil] at hs
  have hr : rdM (encM m) = ⟨m.rels.length, m, some []⟩ := by
    unfold rdM
    rw [hh]
    simp only
    rw [Nat.min_eq_left (by omega), hs]
    have e1 : (encM m).getD 1 0 = UInt8.ofNat m.opts.toNat := rfl
    have e2 : ((UInt8.ofNat m.opts.toNat).toNat : Int) = m.opts := by
      rw [UInt8.toNat_ofNat']; omega
    rw [e1, e2]
    have e3 : ((m.next.toNat : Nat) : Int) = m.next := by omega
    rw [e3]
  unfold decM
  rw [if_neg (by
    have : (encM m).length = ((encM m).drop 2).length + 2 := rfl
    have e0 : (encM m).getD 0 0 = 1 := rfl
    rw [e0]; simp; omega), hr]
  simp [h0]

/-! ### Pages of a byte file -/

def allM (b : List UInt8) : List UInt8 := beN 8 b.length ++ b
def pieces (l : List UInt8) : List (List UInt8) := (List.range ((l.length + 503) / 504)).map fun i => (l.drop (504 * i)).take 504
def wrPages (n : ByteArray) : List (List UInt8) → Nat → Dk → Dk × Int
  | [], _, d => (d, 0)
  | p :: ps, k, d => if (d.write n k (sealP 3 p)).2 ≠ 0 then d.write n k (sealP 3 p) else wrPages n ps (k + 1) (d.write n k (sealP 3 p)).1
def Dk.clear (d : Dk) (n : ByteArray) : Dk × Int := if (d.len n).2 = 0 then d.remove n else (d, 0)
def Dk.fill (d : Dk) (n : ByteArray) (b : List UInt8) : Dk × Int :=
  if (wrPages n (pieces (allM b)) 0 d).2 ≠ 0 then wrPages n (pieces (allM b)) 0 d else (wrPages n (pieces (allM b)) 0 d).1.sync n
def Dk.make (d : Dk) (n : ByteArray) (b : List UInt8) : Dk × Int :=
  if (d.create n).2 ≠ 0 then d.create n else (d.create n).1.fill n b
def Dk.putM (d : Dk) (n : ByteArray) (b : List UInt8) : Dk × Int :=
  if (d.clear n).2 ≠ 0 then d.clear n else (d.clear n).1.make n b
/-- What pages of bytes tell. -/
def tellP (l : List (List UInt8)) : Option (List (UInt8 × List UInt8)) := l.mapM openP
def wholeP (l : List (UInt8 × List UInt8)) : Bool := (l.dropLast.all fun x => decide (x.1 = 3) && decide (x.2.length = 504)) && ((l.drop (l.length - 1)).all fun x => decide (x.1 = 3) && decide (0 < x.2.length))
def bytesP (l : List (UInt8 × List UInt8)) : List UInt8 := l.flatMap (·.2)
def foundP (l : List (UInt8 × List UInt8)) : List UInt8 × Int :=
  if wholeP l = true ∧ 8 ≤ (bytesP l).length ∧ deN ((bytesP l).take 8) = (bytesP l).length - 8 then ((bytesP l).drop 8, 0) else ([], 280)
def Dk.pgs (d : Dk) (n : ByteArray) : List (List UInt8) := match d.idx n with | some i => (d.file i).pages.map (·.1) | none => []
def Dk.getM (d : Dk) (n : ByteArray) : List UInt8 × Int :=
  if (d.len n).2 ≠ 0 then ([], (d.len n).2) else match tellP (d.pgs n) with | none => ([], 20) | some l => foundP l

def nmM : ByteArray := ByteArray.mk #[109, 97, 110, 105, 102, 101, 115, 116]
def nmN : ByteArray := ByteArray.mk #[109, 97, 110, 105, 102, 101, 115, 116, 46, 110, 101, 119]
def Dk.commit (d : Dk) (m : Mf) : Dk × Int :=
  if mayM m = false then (d, 2) else if (d.putM nmN (encM m)).2 ≠ 0 then d.putM nmN (encM m) else (d.putM nmN (encM m)).1.rename nmN nmM
def Dk.foundM (d : Dk) : Option Mf := if (d.getM nmM).2 = 0 then decM (d.getM nmM).1 else none
def keeps : Option Mf → List UInt8 → Bool
  | none, _ => false
  | some m, n => decide (n = nmM.data.toList) || decide (n = m.input.data.toList) || decide (n = m.terms.data.toList) || m.rels.any fun x => decide (n = x.file.data.toList)
def Dk.sweep (f : Option Mf) : List (List UInt8) → Dk → Dk × Int
  | [], d => (d, 0)
  | n :: l, d => if keeps f n then Dk.sweep f l d else if (d.remove (baOf n)).2 ≠ 0 then d.remove (baOf n) else Dk.sweep f l (d.remove (baOf n)).1
theorem txtB_length (s : ByteArray) : (txtB s).length = 4 + s.size := by
  unfold txtB
  rw [List.length_append, beN_length, Array.length_toList]; rfl
theorem svB_length (x : Sv) : (svB x).length = 12 + x.rel.size + x.file.size := by
  unfold svB
  rw [List.length_append, List.length_append, txtB_length, txtB_length, beN_length]; omega
end Go.Proofs.YtjjfngnokbboeaaDoor

/-
  Byte files in plain words: what is put is what is told again; a crash may come between.
-/
namespace Go.Proofs.YtjjfngnokbboeaaDoor

/-! ### Pieces -/

theorem pieces_take (l : List UInt8) : ∀ n : Nat, ((List.range n).flatMap fun i => (l.drop (504 * i)).take 504) = l.take (504 * n)
  | 0 => by simp
  | n + 1 => by
    rw [List.range_succ, List.flatMap_append, pieces_take l n]
    simp only [List.flatMap_cons, List.flatMap_nil, List.append_nil]
    rw [Nat.mul_succ, List.take_add]
theorem pieces_flat (l : List UInt8) : (pieces l).flatten = l := by
  unfold pieces
  rw [← List.flatMap_def, pieces_take, List.take_of_length_le (by omega)]
theorem pieces_le {l p : List UInt8} (h : p ∈ pieces l) : p.length ≤ 504 := by
  unfold pieces at h
  obtain ⟨i, _, rfl⟩ := List.mem_map.1 h
  exact List.length_take_le _ _
theorem pieces_length (l : List UInt8) : (pieces l).length = (l.length + 503) / 504 := by simp [pieces]
theorem tellP_seal : ∀ (L : List (List UInt8)), (∀ p ∈ L, p.length ≤ 504) → tellP (L.map (sealP 3)) = some (L.map fun p => (3, p))
  | [], _ => rfl
  | p :: L, h => by
    have ih := tellP_seal L fun q hq => h q (List.mem_cons_of_mem _ hq)
    unfold tellP at ih ⊢
    rw [List.map_cons, List.mapM_cons, openP_sealP (h p List.mem_cons_self), ih]
    rfl
theorem pieces_last {l : List UInt8} (h : l ≠ []) : ∃ k, pieces l = ((List.range k).map fun i => (l.drop (504 * i)).take 504) ++ [l.drop (504 * k)] ∧ 504 * k < l.length ∧ l.length ≤ 504 * k + 504 := by
  have hl := List.length_pos_iff.2 h
  obtain ⟨k, hk⟩ : ∃ k, (l.length + 503) / 504 = k + 1 := ⟨(l.length + 503) / 504 - 1, by omega⟩
  refine ⟨k, ?_, by omega, by omega⟩
  unfold pieces
  rw [hk, List.range_succ, List.map_append, List.map_cons, List.map_nil, List.take_of_length_le (l := l.drop (504 * k)) (by rw [List.length_drop]; omega)]
theorem whole_pieces {l : List UInt8} (h : l ≠ []) : wholeP ((pieces l).map fun p => (3, p)) = true := by
  obtain ⟨k, e, h1, h2⟩ := pieces_last h
  rw [e, List.map_append, List.map_cons, List.map_nil]
  unfold wholeP
  rw [List.dropLast_concat]
  have e2 : ((((List.range k).map fun i => (l.drop (504 * i)).take 504).map fun p => ((3 : UInt8), p)) ++ [((3 : UInt8), l.drop (504 * k))]).length - 1 = (((List.range k).map fun i => (l.drop (504 * i)).take 504).map fun p => ((3 : UInt8), p)).length := by simp
  rw [e2, List.drop_left]
  simp only [Bool.and_eq_true, List.all_eq_true]
  refine ⟨fun x hx => ?_, fun x hx => ?_⟩
  · obtain ⟨p, hp, rfl⟩ := List.mem_map.1 hx
    obtain ⟨i, hi, rfl⟩ := List.mem_map.1 hp
    have hi := List.mem_range.1 hi
    simp; omega
  · simp at hx; subst hx; simp; omega
theorem bytes_pieces (L : List (List UInt8)) : bytesP (L.map fun p => ((3 : UInt8), p)) = L.flatten := by
  unfold bytesP
  induction L with
  | nil => rfl
  | cons p L ih => rw [List.map_cons, List.flatMap_cons, ih]; rfl
theorem found_pieces {b : List UInt8} (hb : b.length < 18446744073709551616) : foundP ((pieces (allM b)).map fun p => (3, p)) = (b, 0) := by
  have h0 : allM b ≠ [] := by
    intro q
    have := congrArg List.length q
    simp [allM] at this
  unfold foundP
  rw [whole_pieces h0, bytes_pieces, pieces_flat]
  have h8 : (256 : Nat) ^ 8 = 18446744073709551616 := by decide
  have e1 : (allM b).take 8 = beN 8 b.length := by unfold allM; exact List.take_left' (by simp)
  have e2 : (allM b).drop 8 = b := by unfold allM; exact List.drop_left' (by simp)
  have e3 : (allM b).length = 8 + b.length := by simp [allM]
  rw [e1, e2, e3, deN_beN (by decide) (by omega), if_pos ⟨rfl, by omega, by omega⟩]

/-! ### Changes of a disk that may crash -/

theorem Dk.step_res {d : Dk} (f : Dk → Dk) :
    (∃ t : Dk, t.files = d.files ∧ t.quota = d.quota ∧ t.down = d.down ∧ t.next = d.next ∧ t.most = d.most ∧ (d.crash = none → t.crash = none) ∧ d.step f = (f t, 0)) ∨ (d.step f = ({ d with down := true }, 4) ∧ d.crash ≠ none) := by
  unfold Dk.step Dk.change
  match hc : d.crash with
  | none =>
    left
    refine ⟨{ d with ops := w64 (d.ops + 1), crash := none }, rfl, rfl, rfl, rfl, rfl, fun _ => rfl, ?_⟩
    simp only
    rw [if_pos trivial]
  | some (i, k) =>
    by_cases hi : i = 0
    · right
      simp only
      rw [if_pos hi, if_neg (by simp)]
      exact ⟨rfl, by simp⟩
    · left
      refine ⟨{ d with crash := some (w64 (i - 1), k), ops := w64 (d.ops + 1) }, rfl, rfl, rfl, rfl, rfl, fun q => by simp at q, ?_⟩
      simp only
      rw [if_neg hi]
      simp only
      rw [if_pos trivial]

def usedL (fs : List Fl) : Nat := (fs.map fun f => f.pages.length).sum
theorem usedL_append (a b : List Fl) : usedL (a ++ b) = usedL a + usedL b := by simp [usedL]
theorem usedL_one (f : Fl) : usedL [f] = f.pages.length := by simp [usedL]
theorem Dk.used_L {d : Dk} {fs : List Fl} (h : d.files = fs) : d.used = usedL fs := by unfold Dk.used; rw [h]; rfl

/-- The last file is the one of this name. -/
structure Tail (d : Dk) (base : List Fl) (f : Fl) (n : ByteArray) : Prop where
  files : d.files = base ++ [f]
  name : f.name = n
  new : ∀ g ∈ base, g.name ≠ n

theorem idx_absent {fs : List Fl} {n : ByteArray} (h : ∀ g ∈ fs, g.name ≠ n) : fs.findIdx? (fun f => f.name.toList == n.toList) = none := by
  rw [List.findIdx?_eq_none_iff]
  intro g hg
  have : ¬ g.name.toList = n.toList := fun q => h g hg (ba_eq q)
  simpa using this
theorem Tail.idx {d : Dk} {base : List Fl} {f : Fl} {n : ByteArray} (h : Tail d base f n) : d.idx n = some base.length := by
  unfold Dk.idx
  rw [h.files, List.findIdx?_append, idx_absent h.new]
  simp [h.name]
theorem Tail.file {d : Dk} {base : List Fl} {f : Fl} {n : ByteArray} (h : Tail d base f n) : d.file base.length = f := by
  unfold Dk.file; rw [h.files]; simp [List.getD]
theorem modify_tail {α : Type} (u : α → α) : ∀ (l : List α) (a : α), (l ++ [a]).modify l.length u = l ++ [u a]
  | [], _ => rfl
  | _ :: l, a => by simp [modify_tail u l a]
theorem putP_end (l : List Pg) (no : Int) (b : Pg) : putP l ⟨no, l.length, b⟩ = l ++ [b] := by
  unfold putP
  simp only
  rw [show l.length + 1 - l.length = 1 by omega]
  simp

theorem write_tail {d : Dk} {base : List Fl} {f : Fl} {n : ByteArray} {p : List UInt8} (h : Tail d base f n) (hd : d.down = false) (hp : p.length ≤ 504) (hq : usedL base + f.pages.length < d.quota) :
    ((d.write n f.pages.length (sealP 3 p)).2 = 0 ∧ ∃ f', Tail (d.write n f.pages.length (sealP 3 p)).1 base f' n ∧ f'.synced = f.synced ∧ f'.pages.map (·.1) = f.pages.map (·.1) ++ [sealP 3 p] ∧ (d.write n f.pages.length (sealP 3 p)).1.down = false ∧ (d.write n f.pages.length (sealP 3 p)).1.quota = d.quota ∧
      (d.crash = none → (d.write n f.pages.length (sealP 3 p)).1.crash = none)) ∨
    (d.write n f.pages.length (sealP 3 p) = ({ d with down := true }, 4) ∧ d.crash ≠ none) := by
  have hs : (sealP 3 p).length = 512 := sealP_length hp
  have e : d.write n f.pages.length (sealP 3 p) = d.step fun t => (t.addW base.length ⟨t.next, f.pages.length, ⟨sealP 3 p, hs⟩⟩).setMost (max t.most (t.addW base.length ⟨t.next, f.pages.length, ⟨sealP 3 p, hs⟩⟩).used) := by
    unfold Dk.write
    rw [if_neg (by rw [hd]; simp), dif_pos hs, h.idx]
    simp only [h.file]
    rw [if_neg (by omega), if_neg (by rw [Dk.used_L h.files, usedL_append, usedL_one]; omega), Int.toNat_natCast]
  rw [e]
  rcases d.step_res (fun t => (t.addW base.length ⟨t.next, f.pages.length, ⟨sealP 3 p, hs⟩⟩).setMost (max t.most (t.addW base.length ⟨t.next, f.pages.length, ⟨sealP 3 p, hs⟩⟩).used)) with ⟨t, t1, t2, t3, t4, t5, t6, t7⟩ | q
  · left
    rw [t7]
    refine ⟨rfl, { f with log := f.log ++ [⟨t.next, f.pages.length, ⟨sealP 3 p, hs⟩⟩] }, ⟨?_, h.name, h.new⟩, rfl, ?_, t3.trans hd, t2, t6⟩
    · show t.files.modify _ _ = _
      rw [t1, h.files, modify_tail]
    · have : ({ f with log := f.log ++ [⟨t.next, f.pages.length, ⟨sealP 3 p, hs⟩⟩] } : Fl).pages = putP f.pages ⟨t.next, f.pages.length, ⟨sealP 3 p, hs⟩⟩ := by
        unfold Fl.pages; rw [List.foldl_append]; rfl
      rw [this, putP_end]; simp
  · exact .inr q

theorem wr_tail {base : List Fl} {n : ByteArray} : ∀ (ps : List (List UInt8)) (d : Dk) (f : Fl), (∀ p ∈ ps, p.length ≤ 504) → Tail d base f n → d.down = false → usedL base + f.pages.length + ps.length ≤ d.quota →
    ∃ f', Tail (wrPages n ps f.pages.length d).1 base f' n ∧ f'.synced = f.synced ∧ (wrPages n ps f.pages.length d).1.quota = d.quota ∧
      (((wrPages n ps f.pages.length d).2 = 0 ∧ (wrPages n ps f.pages.length d).1.down = false ∧ f'.pages.map (·.1) = f.pages.map (·.1) ++ ps.map (sealP 3) ∧ (d.crash = none → (wrPages n ps f.pages.length d).1.crash = none)) ∨
       ((wrPages n ps f.pages.length d).2 = 4 ∧ (wrPages n ps f.pages.length d).1.down = true ∧ d.crash ≠ none))
  | [], d, f, _, h, hd, _ => ⟨f, h, rfl, rfl, .inl ⟨rfl, hd, by simp, id⟩⟩
  | p :: ps, d, f, hp, h, hd, hq => by
    rw [List.length_cons] at hq
    unfold wrPages
    rcases write_tail (p := p) h hd (hp p List.mem_cons_self) (by omega) with ⟨e0, f1, t1, s1, g1, d1, q1, c1⟩ | ⟨e4, c4⟩
    · rw [if_neg (by rw [e0]; simp)]
      have hl : f1.pages.length = f.pages.length + 1 := by
        have := congrArg List.length g1; simpa using this
      obtain ⟨f2, t2, s2, q2, r2⟩ := wr_tail ps _ f1 (fun x hx => hp x (List.mem_cons_of_mem _ hx)) t1 d1 (by rw [q1, hl]; omega)
      rw [hl] at t2 q2 r2
      refine ⟨f2, t2, s2.trans s1, q2.trans q1, ?_⟩
      rcases r2 with ⟨a1, a2, a3, a4⟩ | ⟨a1, a2, a3⟩
      · exact .inl ⟨a1, a2, by rw [a3, g1]; simp, fun q => a4 (c1 q)⟩
      · exact .inr ⟨a1, a2, fun q => a3 (c1 q)⟩
    · rw [e4, if_pos (by simp)]
      exact ⟨f, ⟨h.files, h.name, h.new⟩, rfl, rfl, .inr ⟨rfl, rfl, c4⟩⟩

/-- A file is made and filled. -/
theorem make_tail {d : Dk} {n : ByteArray} {b : List UInt8} (hd : d.down = false) (hn : named n = true) (hno : ∀ g ∈ d.files, g.name ≠ n) (hf : d.files.length < 4096) (hq : usedL d.files + (pieces (allM b)).length ≤ d.quota) :
    ∃ rest, (d.make n b).1.files = d.files ++ rest ∧ (d.make n b).1.quota = d.quota ∧
      (((d.make n b).2 = 0 ∧ (d.make n b).1.down = false ∧ (∃ pg : List Pg, rest = [⟨n, pg, []⟩] ∧ pg.map (·.1) = (pieces (allM b)).map (sealP 3)) ∧ (d.crash = none → (d.make n b).1.crash = none)) ∨
       ((d.make n b).2 = 4 ∧ (d.make n b).1.down = true ∧ d.crash ≠ none ∧ (rest = [] ∨ ∃ f', rest = [f'] ∧ f'.name = n))) := by
  have ec : d.create n = d.step fun t => { t with files := t.files ++ [⟨n, [], []⟩] } := by
    unfold Dk.create
    rw [if_neg (by rw [hd]; simp), if_neg (by rw [hn]; simp), if_neg (by unfold Dk.idx; rw [idx_absent hno]; simp), if_neg (by omega)]
  unfold Dk.make
  rw [ec]
  rcases d.step_res (fun t => { t with files := t.files ++ [⟨n, [], []⟩] }) with ⟨t, t1, t2, t3, t4, t5, t6, t7⟩ | ⟨q1, q2⟩
  · rw [t7, if_neg (by simp)]
    simp only
    have T : Tail ({ t with files := t.files ++ [⟨n, [], []⟩] } : Dk) d.files ⟨n, [], []⟩ n := ⟨by show t.files ++ _ = _; rw [t1], rfl, hno⟩
    generalize hu : ({ t with files := t.files ++ [⟨n, [], []⟩] } : Dk) = u at *
    have ud : u.down = false := by rw [← hu]; exact t3.trans hd
    have uq : u.quota = d.quota := by rw [← hu]; exact t2
    have uc : d.crash = none → u.crash = none := by rw [← hu]; exact t6
    have h0 : (⟨n, [], []⟩ : Fl).pages.length = 0 := rfl
    obtain ⟨f', w1, w2, w3, w4⟩ := wr_tail (pieces (allM b)) u ⟨n, [], []⟩ (fun p hp => pieces_le hp) T ud (by rw [h0, uq]; omega)
    rw [h0] at w1 w3 w4
    unfold Dk.fill
    rcases w4 with ⟨a1, a2, a3, a4⟩ | ⟨a1, a2, a3⟩
    · rw [if_neg (by rw [a1]; simp)]
      generalize (wrPages n (pieces (allM b)) 0 u).1 = v at *
      have es : v.sync n = v.step fun t => t.upd d.files.length fun f => { f with synced := f.pages, log := [] } := by
        unfold Dk.sync
        rw [if_neg (by rw [a2]; simp), w1.idx]
      rw [es]
      rcases v.step_res (fun t => t.upd d.files.length fun f => { f with synced := f.pages, log := [] }) with ⟨z, z1, z2, z3, z4, z5, z6, z7⟩ | ⟨z1, z2⟩
      · rw [z7]
        refine ⟨[⟨n, f'.pages, []⟩], ?_, z2.trans (w3.trans uq), .inl ⟨rfl, z3.trans a2, ⟨f'.pages, rfl, by simpa [Fl.pages] using a3⟩, fun q => z6 (a4 (uc q))⟩⟩
        show z.files.modify _ _ = _
        rw [z1, w1.files, modify_tail, w1.name]
      · rw [z1]
        exact ⟨[f'], w1.files, w3.trans uq, .inr ⟨rfl, rfl, fun q => z2 (a4 (uc q)), .inr ⟨f', rfl, w1.name⟩⟩⟩
    · rw [if_pos (by rw [a1]; simp)]
      exact ⟨[f'], w1.files, w3.trans uq, .inr ⟨a1, a2, fun q => a3 (uc q), .inr ⟨f', rfl, w1.name⟩⟩⟩
  · rw [q1, if_pos (by simp)]
    exact ⟨[], by simp, rfl, .inr ⟨rfl, rfl, q2, .inl rfl⟩⟩

/-- What lies in a file is what is told. -/
theorem getM_of {d : Dk} {n : ByteArray} {b : List UInt8} {i : Nat} (hd : d.down = false) (hi : d.idx n = some i) (hp : (d.file i).pages.map (·.1) = (pieces (allM b)).map (sealP 3)) (hb : b.length < 18446744073709551616) : d.getM n = (b, 0) := by
  have hl : (d.len n).2 = 0 := by
    unfold Dk.len Dk.open; rw [if_neg (by rw [hd]; simp), hi]
  unfold Dk.getM
  rw [if_neg (by rw [hl]; simp)]
  have hg : d.pgs n = (pieces (allM b)).map (sealP 3) := by unfold Dk.pgs; rw [hi]; exact hp
  rw [hg, tellP_seal _ fun p hp => pieces_le hp]
  exact found_pieces hb
end Go.Proofs.YtjjfngnokbboeaaDoor
