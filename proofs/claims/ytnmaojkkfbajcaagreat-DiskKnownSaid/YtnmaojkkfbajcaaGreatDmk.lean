/-
  Pieces of DiskKnown: literal rows; 4096 files.
-/
import Derived.Test.YtnmaojkkfbajcaaGreatDmj
namespace Go.Proofs.YtnmaojkkfbajcaaGreat
open Go.MapKept

theorem RowT.rdE {α : Type} {E : Enc α} {H : Heap} {b : Nat} {t : TypeId} {cs : Array Value} {xs : List α} (h : RowT H b t cs) (e : E.all xs = cs.toList) : RdE E H (some ⟨b, 0, none⟩) xs := by
  intro i v hv
  refine ⟨_, rfl, ?_⟩
  rw [add_lit0]
  refine h.cell ?_
  have hv' : (E.all xs)[i]? = some v := hv
  rw [e] at hv'
  simpa using hv'

set_option maxRecDepth 20000 in
set_option maxHeartbeats 1000000 in
theorem full_ok {F0 : Nat → Prop} {d : Nat} {H0 H : Heap} {R : Bool → Heap → Prop} {X : Heap → Prop} (a0 : DiskAt F0 H d (sN 0)) (m0 : Mod (fun _ => False) H0 H) (f0 : ∀ b, F0 b → H0.size ≤ b)
    (hK : ∀ F A, DiskAt F A d (sN 4096) → Mod (fun _ => False) H0 A → (∀ b, F b → H0.size ≤ b) → X A) :
    LoopVC Int (0 : Int) H fun next_6 i_1 H26 => br (decide (i_1 < (4096 : Int))) (newC H26 #[(.int .u8 (IntKind.u8.wrap (IntKind.i64.wrap ((97 : Int) + (IntKind.i64.wrap (Int.tdiv i_1 (256 : Int))))))), (.int .u8 (IntKind.u8.wrap (Int.tmod i_1 (256 : Int))))] ty_uint8 fun p_4 H27 => b2s H27 (some p_4) 2 fun (str : ByteArray) => disk_Disk_Create.sp (at0 d) str H27 fun (r_8 : Int) H28 => br (r_8 != (0 : Int)) (R false H28) (next_6 (IntKind.i64.wrap (i_1 + (1 : Int))) H28)) (X H26) := by
  obtain ⟨N, hN⟩ : ∃ N : Nat, N = 4096 := ⟨_, rfl⟩
  refine loop_upto N (fun k i A => i = (k : Int) ∧ ∃ F, DiskAt F A d (sN k) ∧ Mod (fun _ => False) H0 A ∧ ∀ b, F b → H0.size ≤ b) ⟨rfl, F0, a0, m0, f0⟩ ?_
  rintro k _ A next hk ⟨rfl, F, a, m, f⟩ hnext
  refine br_mk (fun hc => ?_) (fun hc => ?_)
  · have hlt : k < 4096 := by have : (k : Int) < 4096 := by simpa using hc
                              omega
    have e1 : IntKind.u8.wrap (IntKind.i64.wrap ((97 : Int) + (IntKind.i64.wrap (Int.tdiv (k : Int) (256 : Int))))) = ((UInt8.ofNat (97 + k / 256)).toNat : Int) := by
      have h1 : Int.tdiv (k : Int) 256 = ((k / 256 : Nat) : Int) := by
        rw [Int.tdiv_eq_ediv_of_nonneg (by omega)]; omega
      have h2 : IntKind.i64.wrap ((k / 256 : Nat) : Int) = ((k / 256 : Nat) : Int) := wrap64 (by omega) (by omega)
      rw [h1, h2, wrap64 (by omega) (by omega), UInt8.toNat_ofNat']
      unfold IntKind.wrap
      simp [IntKind.bits, IntKind.signed]
    have e2 : IntKind.u8.wrap (Int.tmod (k : Int) (256 : Int)) = ((UInt8.ofNat (k % 256)).toNat : Int) := by
      have h1 : Int.tmod (k : Int) 256 = ((k % 256 : Nat) : Int) := by
        rw [Int.tmod_eq_emod_of_nonneg (by omega)]; omega
      rw [h1, UInt8.toNat_ofNat']
      unfold IntKind.wrap
      simp [IntKind.bits, IntKind.signed]
    rw [e1, e2]
    refine newC_rowT fun H2 s2 r2 m2 => ?_
    have hb : Byts H2 (Sl.mk (some ⟨A.size, 0, none⟩) 2 2) (nm2 k) := by
      refine ⟨by simp [u8i, nm2], ?_⟩
      intro i v hv
      refine ⟨_, rfl, ?_⟩
      rw [add_lit0]
      refine r2.cell ?_
      have hv' : ([Value.int .u8 ((UInt8.ofNat (97 + k / 256)).toNat : Int), Value.int .u8 ((UInt8.ofNat (k % 256)).toNat : Int)] : List Value)[i]? = some v := hv
      simpa using hv'
    refine strB_eq (s := Sl.mk (some ⟨A.size, 0, none⟩) 2 2) hb ?_
    refine Create_ok (a.keep fun b hb hbl => m2.same b hbl id) fun F3 H3 a3 t3 => ?_
    rw [sN_create hlt] at a3 ⊢
    refine br_f (by simp) (hnext (by omega) _ _ ⟨succ64 k (by omega), F3, a3, (m.trans m2).grow t3.mod f, t3.fresh f (m.trans m2).size⟩)
  · have hge : k = 4096 := by have : ¬ ((k : Int) < 4096) := by simpa using hc
                              omega
    rw [hge] at a
    exact hK F A a m f

end Go.Proofs.YtnmaojkkfbajcaaGreat
