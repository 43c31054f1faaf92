/-
  Pieces of DiskKnown: a row at a quota.
-/
import Derived.Test.YtnmaojkkfbajcaaGreatDmk
namespace Go.Proofs.YtnmaojkkfbajcaaGreat
open Go.MapKept

set_option maxHeartbeats 1000000 in
theorem quota_ok {H0 H5 : Heap} {rb i : Nat} {y : Sl} {xs : List StepV} {quota : Int} {R : Bool → Heap → Prop} {N : Heap → Prop} (hi : i < 5) (hq : quota ≤ 9223372036854775807)
    (hcell : ∀ A, Mod (fun _ => False) H0 A → hCell A ((Addr.mk rb 0 none).add ((i : Int).toNat * 1)) = some (cSl.enc y)) (hx : RdE EStep H0 y.a xs) (hn : y.n = xs.length) (hcap : y.n = y.c) (hl : xs.length ≤ 1000) (hf : ∀ x ∈ xs, StepV.fine x)
    (m : Mod (fun _ => False) H0 H5) (hN : ∀ A, Mod (fun _ => False) H0 A → N A) :
    LoopVC Int (0 : Int) H5 fun next_3 k H6 => (0 ≤ (i : Int) ∧ (i : Int) < (5 : Int)) ∧ ld cSl H6 ((Addr.mk rb 0 none).add ((i : Int).toNat * 1)) fun (x : Sl) => br (decide (k ≤ (x.n : Int))) ((0 ≤ (i : Int) ∧ (i : Int) < (5 : Int)) ∧ ld cSl H6 ((Addr.mk rb 0 none).add ((i : Int).toNat * 1)) fun (x_1 : Sl) => (0 ≤ k ∧ k ≤ (x_1.c : Int)) ∧ fathomlaw01_DiskPlays.sp quota (Sl.mk (slA x_1.a x_1.c 0 7) (k.toNat - 0) (x_1.c - 0)) H6 fun (r : Bool) H7 => br (!r) (R false H7) (next_3 (IntKind.i64.wrap (k + (1 : Int))) H7)) ((0 ≤ (i : Int) ∧ (i : Int) < (5 : Int)) ∧ ld cSl H6 ((Addr.mk rb 0 none).add ((i : Int).toNat * 1)) fun (x_2 : Sl) => fathomlaw01_DiskKeeps.sp quota x_2 (5 : Int) H6 fun (r_1 : Bool) H8 => br (!r_1) (R false H8) ((0 ≤ (i : Int) ∧ (i : Int) < (5 : Int)) ∧ ld cSl H8 ((Addr.mk rb 0 none).add ((i : Int).toNat * 1)) fun (x_3 : Sl) => fathomlaw01_DiskQuota.sp quota x_3 (2 : Int) H8 fun (r_2 : Bool) H9 => br (!r_2) (R false H9) ((0 ≤ (i : Int) ∧ (i : Int) < (5 : Int)) ∧ ld cSl H9 ((Addr.mk rb 0 none).add ((i : Int).toNat * 1)) fun (x_4 : Sl) => fathomlaw01_DiskCrashes.sp quota x_4 (3 : Int) (1 : Int) H9 fun (r_3 : Bool) H10 => br (!r_3) (R false H10) (N H10)))) := by
  have hi5 : (0 ≤ (i : Int) ∧ (i : Int) < (5 : Int)) := ⟨by omega, by omega⟩
  refine loop_upto (xs.length + 1) (fun k z A => z = (k : Int) ∧ Mod (fun _ => False) H0 A) ⟨rfl, m⟩ ?_
  rintro k _ A next hk ⟨rfl, mA⟩ hnext
  have hxA : ∀ B, Mod (fun _ => False) H0 B → RdE EStep B y.a xs := fun B mB => Reads.mod hx mB fun _ _ => id
  refine ⟨hi5, y, hcell A mA, ?_⟩
  refine br_mk (fun hc => ?_) (fun hc => ?_)
  · have hlt : k < xs.length + 1 := by
      have : (k : Int) ≤ (y.n : Int) := by simpa using hc
      omega
    refine ⟨hi5, y, hcell A mA, ⟨by omega, by omega⟩, ?_⟩
    have hs : RdE EStep A (slA y.a y.c 0 7) (xs.take k) := by
      have := RdE.take (i := k) (RdE.drop (c := y.c) (i := 0) (hxA A mA) (by omega))
      rwa [List.drop_zero] at this
    refine DiskPlays_ok hq hs (by simp; omega) (fun x hx => hf x (List.mem_of_mem_take hx)) fun B e => br_f rfl (hnext hlt _ _ ⟨succ64 k (by omega), mA.trans e⟩)
  · refine ⟨hi5, y, hcell A mA, ?_⟩
    refine DiskKeeps_ok hq (hxA A mA) hn hf fun B e => br_f rfl ?_
    refine ⟨hi5, y, hcell B (mA.trans e), ?_⟩
    refine DiskQuota_ok hq (hxA B (mA.trans e)) hn (by omega) hf fun C e2 => br_f rfl ?_
    refine ⟨hi5, y, hcell C ((mA.trans e).trans e2), ?_⟩
    refine DiskCrashes_ok hq (hxA C ((mA.trans e).trans e2)) hn (by omega) hf fun D e3 => br_f rfl ?_
    exact hN D (((mA.trans e).trans e2).trans e3)

end Go.Proofs.YtnmaojkkfbajcaaGreat
