/-
  As many files as there may be.
-/
import Derived.Test.YtnmaojkkfbajcaaGreatDmi
namespace Go.Proofs.YtnmaojkkfbajcaaGreat
open Go.MapKept

def nm2 (i : Nat) : List UInt8 := [UInt8.ofNat (97 + i / 256), UInt8.ofNat (i % 256)]
theorem nm2_inj {i j : Nat} (hi : i < 4096) (hj : j < 4096) (h : nm2 i = nm2 j) : i = j := by
  unfold nm2 at h
  simp only [List.cons.injEq, and_true] at h
  have h1 := congrArg UInt8.toNat h.1
  have h2 := congrArg UInt8.toNat h.2
  simp only [UInt8.toNat_ofNat'] at h1 h2
  omega
/-- A disk with the first 'i' files. -/
def sN (i : Nat) : Dk := { dk0 1 with files := (List.range i).map (fun k => ⟨strB (nm2 k), [], []⟩), ops := (i : Int) }
theorem sN_idx {i : Nat} {n : List UInt8} (h : ∀ k, k < i → nm2 k ≠ n) : (sN i).idx (strB n) = none := by
  cases hi : (sN i).idx (strB n) with
  | none => rfl
  | some j =>
    obtain ⟨f, hf, e⟩ := Dk.idx_some hi
    have hm := List.mem_of_getElem? hf
    obtain ⟨k, hk, rfl⟩ := List.mem_map.1 (show f ∈ (List.range i).map _ from hm)
    have : strB (nm2 k) = strB n := e
    have h2 := congrArg ByteArray.toList this
    rw [strB_list, strB_list] at h2
    exact absurd h2 (h k (List.mem_range.1 hk))
theorem sN_create {i : Nat} (hi : i < 4096) : (sN i).create (strB (nm2 i)) = (sN (i + 1), 0) := by
  unfold Dk.create
  have hd : (sN i).down = false := rfl
  have hn : named (strB (nm2 i)) = true := by unfold named; rw [strB_size]; rfl
  have hx : (sN i).idx (strB (nm2 i)) = none := sN_idx fun k hk e => by have := nm2_inj (by omega) hi e; omega
  have hl : (sN i).files.length = i := by simp [sN]
  rw [hd, hn, hx, hl]
  simp only [Bool.false_eq_true, if_false, Option.isSome_none]
  rw [if_neg (by simp), if_neg (by omega)]
  unfold Dk.step Dk.change
  have hc : (sN i).crash = none := rfl
  rw [hc]
  simp only [if_true]
  have ho : w64 ((sN i).ops + 1) = ((i + 1 : Nat) : Int) := by
    show IntKind.i64.wrap ((i : Int) + 1) = _
    exact succ64 i (by omega)
  rw [ho]
  unfold sN
  simp only [List.range_succ, List.map_append, List.map_cons, List.map_nil]
  rfl
theorem sN_full {n : List UInt8} (hn : n.length = 4) : ((sN 4096).create (strB n)).2 = 3 ∧ ((sN 4096).create (strB n)).1 = sN 4096 := by
  unfold Dk.create
  have hd : (sN 4096).down = false := rfl
  have h1 : named (strB n) = true := by unfold named; rw [strB_size, hn]; rfl
  have hx : (sN 4096).idx (strB n) = none := sN_idx fun k _ e => by rw [← e] at hn; simp [nm2] at hn
  have hl : (sN 4096).files.length = 4096 := by simp [sN]
  rw [hd, h1, hx, hl]
  exact ⟨rfl, rfl⟩
theorem sN_list : (sN 4096).list.length = 4096 := by
  unfold Dk.list
  have hd : (sN 4096).down = false := rfl
  rw [hd]
  simp only [Bool.false_eq_true, if_false]
  rw [(List.mergeSort_perm _ _).length_eq]
  simp [sN]

end Go.Proofs.YtnmaojkkfbajcaaGreat
