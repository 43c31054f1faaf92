/-
 Pages in plain words: their sum, what seals them, what opens them.
-/
import Derived.Test.YtkehfflpbpdokaaGreatFxk
namespace Go.Proofs.YtkehfflpbpdokaaGreat
class Tab where
 l : List (BitVec 32)
def stepsL [Tab] : List (BitVec 32) := Tab.l
def bit4 [Tab] (r : BitVec 32) : BitVec 32 := (r >>> 4) ^^^ stepsL.getD (r.toNat % 16) 0#32
def crc8 [Tab] (r : BitVec 32) (c : UInt8) : BitVec 32 := bit4 (bit4 (r ^^^ BitVec.ofNat 32 c.toNat))
def sumB [Tab] (l : List UInt8) : BitVec 32 := ~~~ (l.foldl crc8 (BitVec.allOnes 32))
theorem low15 (r : BitVec 32) : r &&& 15#32 = BitVec.ofNat 32 (r.toNat % 16) := by
 apply BitVec.eq_of_toNat_eq
 have h1 : (15#32).toNat = 2 ^ 4 - 1 := by decide
 rw [BitVec.toNat_and, h1, Nat.and_two_pow_sub_one_eq_mod, BitVec.toNat_ofNat]
 omega
theorem bit4_eq [Tab] (r : BitVec 32) : bit4 r = (r >>> 4) ^^^ stepsL.getD (r.toNat % 16) 0#32 := rfl
def le4 (x : BitVec 32) : List UInt8 := [UInt8.ofNat x.toNat, UInt8.ofNat (x.toNat / 256), UInt8.ofNat (x.toNat / 65536), UInt8.ofNat (x.toNat / 16777216)]
def bodyP (kind : UInt8) (b : List UInt8) : List UInt8 := [UInt8.ofNat b.length, UInt8.ofNat (b.length / 256), kind, 157] ++ b ++ List.replicate (504 - b.length) 0
def sealP [Tab] (kind : UInt8) (b : List UInt8) : List UInt8 := le4 (sumB (bodyP kind b)) ++ bodyP kind b
def sizeP (p : List UInt8) : Nat := (p.getD 4 0).toNat + 256 * (p.getD 5 0).toNat
def openP [Tab] (p : List UInt8) : Option (UInt8 × List UInt8) :=
 if sizeP p ≤ 504 ∧ sealP (p.getD 6 0) ((p.drop 8).take (sizeP p)) = p then some (p.getD 6 0, (p.drop 8).take (sizeP p)) else none
theorem bodyP_length {kind : UInt8} {b : List UInt8} (h : b.length ≤ 504) : (bodyP kind b).length = 508 := by
 simp [bodyP]; omega
theorem sealP_length [Tab] {kind : UInt8} {b : List UInt8} (h : b.length ≤ 504) : (sealP kind b).length = 512 := by
 simp [sealP, bodyP_length h, le4]
theorem size_back {n : Nat} (h : n ≤ 504) : (UInt8.ofNat n).toNat + 256 * (UInt8.ofNat (n / 256)).toNat = n := by
 rw [UInt8.toNat_ofNat', UInt8.toNat_ofNat']; omega
theorem openP_sealP [Tab] {kind : UInt8} {b : List UInt8} (h : b.length ≤ 504) : openP (sealP kind b) = some (kind, b) := by
 have h4 : (sealP kind b).getD 4 0 = UInt8.ofNat b.length := rfl
 have h5 : (sealP kind b).getD 5 0 = UInt8.ofNat (b.length / 256) := rfl
 have h6 : (sealP kind b).getD 6 0 = kind := rfl
 have hs : sizeP (sealP kind b) = b.length := by unfold sizeP; rw [h4, h5, size_back h]
 have hd : ((sealP kind b).drop 8).take b.length = b := by
  have : (sealP kind b).drop 8 = b ++ List.replicate (504 - b.length) 0 := rfl
  rw [this, List.take_left]
 unfold openP
 rw [hs, h6, hd, if_pos ⟨h, rfl⟩]
theorem openP_iff [Tab] {p : List UInt8} (hp : p.length = 512) :
  (sizeP p ≤ 504 ∧ sealP (p.getD 6 0) ((p.drop 8).take (sizeP p)) = p) ↔ (p.take 4 = le4 (sumB (p.drop 4)) ∧ sizeP p ≤ 504 ∧ p.getD 7 0 = 157 ∧ ∀ c ∈ p.drop (8 + sizeP p), c = 0) := by
 match p, hp with
 | a0 :: a1 :: a2 :: a3 :: a4 :: a5 :: a6 :: a7 :: r, hp =>
   have hr : r.length = 504 := by simp at hp; exact hp
   have hs : sizeP (a0 :: a1 :: a2 :: a3 :: a4 :: a5 :: a6 :: a7 :: r) = a4.toNat + 256 * a5.toNat := rfl
   rw [hs]
   show (_ ∧ sealP a6 (r.take (a4.toNat + 256 * a5.toNat)) = _) ↔ ([a0, a1, a2, a3] = le4 (sumB (a4 :: a5 :: a6 :: a7 :: r)) ∧ _ ∧ a7 = 157 ∧ _)
   have hd : (a0 :: a1 :: a2 :: a3 :: a4 :: a5 :: a6 :: a7 :: r).drop (8 + (a4.toNat + 256 * a5.toNat)) = r.drop (a4.toNat + 256 * a5.toNat) := by
    rw [Nat.add_comm 8]; rfl
   rw [hd]
   generalize hn : a4.toNat + 256 * a5.toNat = n
   have h4 := a4.toNat_lt
   have h5 := a5.toNat_lt
   by_cases hle : n ≤ 504
   ·have hl : (r.take n).length = n := by simp; omega
    have ha4 : UInt8.ofNat n = a4 := by
     apply UInt8.toNat_inj.1; rw [UInt8.toNat_ofNat']; omega
    have ha5 : UInt8.ofNat (n / 256) = a5 := by
     apply UInt8.toNat_inj.1; rw [UInt8.toNat_ofNat']; omega
    have hb : bodyP a6 (r.take n) = a4 :: a5 :: a6 :: 157 :: (r.take n ++ List.replicate (504 - n) 0) := by
     simp [bodyP, hl, ha4, ha5]
    have hz : (∀ c ∈ r.drop n, c = 0) ↔ r.take n ++ List.replicate (504 - n) 0 = r := by
     constructor
     ·intro h
      have : List.replicate (504 - n) 0 = r.drop n := by
       symm; rw [List.eq_replicate_iff]; exact ⟨by simp; omega, h⟩
      rw [this, List.take_append_drop]
     ·intro h c hc
      have e : r.drop n = List.replicate (504 - n) 0 := by
       conv => lhs; rw [← h]
       rw [List.drop_append_of_le_length (by omega), List.drop_of_length_le (by omega)]; simp
      rw [e] at hc
      exact (List.mem_replicate.1 hc).2
    rw [hz]
    unfold sealP
    rw [hb]
    constructor
    ·rintro ⟨_, h⟩
     simp only [le4, List.cons_append, List.nil_append, List.cons.injEq] at h
     obtain ⟨e0, e1, e2, e3, _, _, _, e7, e8⟩ := h
     rw [e8] at e0 e1 e2 e3
     rw [← e7]
     refine ⟨?_, hle, rfl, e8⟩
     simp only [le4, e0, e1, e2, e3]
    ·rintro ⟨h1, _, h2, h3⟩
     refine ⟨hle, ?_⟩
     rw [h3, ← h2, ← h1]; rfl
   ·constructor
    ·rintro ⟨h, _⟩; exact absurd h hle
    ·rintro ⟨_, h, _⟩; exact absurd h hle
end Go.Proofs.YtkehfflpbpdokaaGreat
