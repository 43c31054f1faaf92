/-
  The disk: List, over the library's sorted keys of a map.
-/
import Derived.Test.YtbgpkpbejldlcaaGreatDoorDkt
import Derived.Test.YtbgpkpbejldlcaaGreatDoorDkx
namespace Go.Proofs.YtbgpkpbejldlcaaGreatDoor
open Go.MapKept

def Dk.list (s : Dk) : List (List UInt8) := if s.down then [] else (s.files.map fun f => f.name.toList).mergeSort fun x y => decide (x ≤ y)

def nameOf (e : MapEntry) : List UInt8 := match keyName e.key with | some n => n.toList | none => []
theorem strB_toList (n : ByteArray) : strB n.toList = n := by
  unfold strB
  apply ByteArray.ext
  simp [ByteArray.toList_eq]

theorem texts_sorted_eq {l r : List (List UInt8)} (h : l.Perm r) : (l.mergeSort fun x y => decide (x ≤ y)) = r.mergeSort fun x y => decide (x ≤ y) := by
  have tr : ∀ a b c : List UInt8, decide (a ≤ b) = true → decide (b ≤ c) = true → decide (a ≤ c) = true := fun a b c h1 h2 => by simp only [decide_eq_true_eq] at *; exact List.le_trans h1 h2
  have to : ∀ a b : List UInt8, (decide (a ≤ b) || decide (b ≤ a)) = true := fun a b => by simp only [Bool.or_eq_true, decide_eq_true_eq]; exact List.le_total a b
  refine List.Perm.eq_of_pairwise (le := fun a b => decide (a ≤ b) = true) (fun a b _ _ h1 h2 => ?_) (List.pairwise_mergeSort tr to l) (List.pairwise_mergeSort tr to r) (((List.mergeSort_perm l _).trans h).trans (List.mergeSort_perm r _).symm)
  simp only [decide_eq_true_eq] at h1 h2
  exact List.le_antisymm h1 h2

end Go.Proofs.YtbgpkpbejldlcaaGreatDoor
