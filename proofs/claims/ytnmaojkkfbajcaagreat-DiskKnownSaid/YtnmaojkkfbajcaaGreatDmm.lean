/-
  DiskKnown: the closed statement.
-/
import Derived.Test.YtnmaojkkfbajcaaGreatDmo
import Derived.Test.YtnmaojkkfbajcaaGreatDkv
namespace Go.Proofs.YtnmaojkkfbajcaaGreat
open Go.MapKept

/-- The steps that lie in cells. -/
def decS : List Value → List StepV
  | .int _ a :: .string b :: .string c :: .int _ d :: .int _ e :: .bool f :: .int _ g :: r => (a, b, c, d, e, f, g) :: decS r
  | _ => []
def fineB (x : StepV) : Bool := decide (0 ≤ x.2.2.2.2.1) && decide (x.2.2.2.2.1 < 256) && decide (x.2.2.2.1 ≤ 9223372036854775807)
theorem fine_all {xs : List StepV} (h : xs.all fineB = true) : ∀ x ∈ xs, StepV.fine x := by
  intro x hx
  have := List.all_eq_true.1 h x hx
  unfold fineB at this
  simp only [Bool.and_eq_true, decide_eq_true_eq] at this
  exact ⟨this.1, this.2⟩

theorem Lays.mod {H0 H : Heap} {T : Laid} (h : Lays H0 T H) : Mod (fun _ => False) H0 H := ⟨by rw [h.size]; omega, fun b hb _ => h.old b hb⟩

/-- A row that lies there for good. -/
structure RowAt (H0 : Heap) (a : Addr) (y : Sl) (xs : List StepV) : Prop where
  cell : ∀ A, Mod (fun _ => False) H0 A → hCell A a = some (cSl.enc y)
  rd : RdE EStep H0 y.a xs
  n : y.n = xs.length
  cap : y.n = y.c
  len : xs.length ≤ 1000
  fine : ∀ x ∈ xs, StepV.fine x

theorem rowAt {H0 : Heap} {rb b n : Nat} {t : TypeId} {rcs cs : Array Value} {i : Nat} (hr : RowT H0 rb t rcs) (hi : rcs[i]? = some (.slice (some (Addr.mk b 0 none)) n n)) (h : RowT H0 b ty_fathomlaw01_Step cs)
    (e : EStep.all (decS cs.toList) = cs.toList) (hn : (decS cs.toList).length = n) (hl : n ≤ 1000) (hf : (decS cs.toList).all fineB = true) : RowAt H0 ((Addr.mk rb 0 none).add ((i : Int).toNat * 1)) (Sl.mk (some (Addr.mk b 0 none)) n n) (decS cs.toList) := by
  refine ⟨fun A hA => ?_, RowT.rdE h e, hn.symm, rfl, by omega, fine_all hf⟩
  rw [Int.toNat_natCast, Nat.mul_one, add_lit0]
  exact (hr.ext hA).cell hi

theorem litRow {H : Heap} {b : Nat} {t : TypeId} {cs : Array Value} (h : RowT H b t cs) (e : EStep.all (decS cs.toList) = cs.toList) : RdE EStep H (some ⟨b, 0, none⟩) (decS cs.toList) := RowT.rdE h e

theorem long_step (n : Nat) : strB (List.replicate n 120) ++ strB (List.replicate n 120) = strB (List.replicate (n + n) 120) := by
  rw [strB_append, List.replicate_append_replicate]

set_option maxRecDepth 20000 in
set_option maxHeartbeats 4000000 in
theorem DiskKnown_ok {H : Heap} {K : Bool → Heap → Prop} (hK : ∀ H', Mod (fun _ => False) H H' → K true H') : fathomlaw01_DiskKnown.sp H K := by
  refine fathomlaw01_DiskKnown.of ?_
  unfold fathomlaw01_DiskKnown.vc
  refine loop_upto 7 (fun k x A => A = H ∧ x = strB (List.replicate (2 ^ k) 120)) ⟨rfl, rfl⟩ ?_
  rintro k long A next hk ⟨hA, hlong⟩ hnext
  have hsz : long.size = 2 ^ k := by rw [hlong, strB_size]; simp
  have h7 : 2 ^ k ≤ 2 ^ 7 := Nat.pow_le_pow_right (by decide) hk
  refine br_mk (fun hc => ?_) (fun hc => ?_)
  · have hlt : k < 7 := by
      rcases Nat.lt_or_ge k 7 with h | h
      · exact h
      · have e : k = 7 := by omega
        have h2 : (long.size : Int) < 128 := by simpa using hc
        rw [hsz, e] at h2
        exact absurd h2 (by decide)
    refine ⟨by omega, hnext hlt _ _ ⟨hA, ?_⟩⟩
    rw [hlong, long_step, Nat.pow_succ, Nat.mul_two]
  have hge : 128 ≤ long.size := by
    have : ¬ ((long.size : Int) < 128) := by simpa using hc
    omega
  refine fun b0 _ => fun b1 _ => fun b2 _ => fun b3 _ => ?_
  refine ⟨⟨by omega, by omega⟩, ⟨by omega, by omega⟩, ⟨by omega, by omega⟩, ⟨by omega, by omega⟩, ⟨by omega, by omega⟩, ?_⟩
  refine fun b4 _ => fun rb _ => ?_
  intro H2 hl
  have M2 : Mod (fun _ => False) H H2 := by rw [← hA]; exact hl.mod
  have rr := hl.new _ List.mem_cons_self
  have r4 := hl.new _ (List.mem_cons_of_mem _ List.mem_cons_self)
  have r3 := hl.new _ (List.mem_cons_of_mem _ (List.mem_cons_of_mem _ List.mem_cons_self))
  have r2 := hl.new _ (List.mem_cons_of_mem _ (List.mem_cons_of_mem _ (List.mem_cons_of_mem _ List.mem_cons_self)))
  have r1 := hl.new _ (List.mem_cons_of_mem _ (List.mem_cons_of_mem _ (List.mem_cons_of_mem _ (List.mem_cons_of_mem _ List.mem_cons_self))))
  have r0 := hl.new _ (List.mem_cons_of_mem _ (List.mem_cons_of_mem _ (List.mem_cons_of_mem _ (List.mem_cons_of_mem _ (List.mem_cons_of_mem _ List.mem_cons_self)))))
  have row : ∀ i : Nat, i < 5 → ∃ y xs, RowAt H2 ((Addr.mk rb 0 none).add ((i : Int).toNat * 1)) y xs := by
    intro i hi
    match i, hi with
    | 0, _ => exact ⟨_, _, rowAt (i := 0) rr rfl r0 rfl rfl (by decide) rfl⟩
    | 1, _ => exact ⟨_, _, rowAt (i := 1) rr rfl r1 rfl rfl (by decide) rfl⟩
    | 2, _ => exact ⟨_, _, rowAt (i := 2) rr rfl r2 rfl rfl (by decide) rfl⟩
    | 3, _ => exact ⟨_, _, rowAt (i := 3) rr rfl r3 rfl rfl (by decide) rfl⟩
    | 4, _ => exact ⟨_, _, rowAt (i := 4) rr rfl r4 rfl rfl (by decide) rfl⟩
  clear rr r0 r1 r2 r3 r4 hl
  refine loop_upto 5 (fun k i A => i = (k : Int) ∧ Mod (fun _ => False) H2 A) ⟨rfl, .refl _ _⟩ ?_
  rintro i _ H3 next1 hi ⟨rfl, M3⟩ hnext1
  refine br_mk (fun hc => ?_) (fun hc => ?_)
  · have hlt : i < 5 := by have : (i : Int) < 5 := by simpa using hc
                           omega
    obtain ⟨y, xs, hrow⟩ := row i hlt
    refine newC_rowT fun H4 s4 r4 m4 => ?_
    refine loop_upto 6 (fun k z A => z = (k : Int) ∧ Mod (fun _ => False) H4 A) ⟨rfl, .refl _ _⟩ ?_
    rintro z _ H5 next2 hz ⟨rfl, M5⟩ hnext2
    have M25 := (M3.trans m4).trans M5
    refine br_mk (fun hc2 => ?_) (fun _ => hnext1 hlt _ _ ⟨succ64 i (by omega), M25⟩)
    have hlt2 : z < 6 := by have : (z : Int) < 6 := by simpa using hc2
                            omega
    refine ⟨⟨by omega, by omega⟩, ?_⟩
    have hquota : ∃ q : Int, q ≤ 9223372036854775807 ∧ hCell H5 ((Addr.mk H3.size 0 none).add ((z : Int).toNat * 1)) = some (.int .i64 q) := by
      rw [Int.toNat_natCast, Nat.mul_one, add_lit0]
      match z, hlt2 with
      | 0, _ => exact ⟨-1, by decide, (r4.ext M5).cell rfl⟩
      | 1, _ => exact ⟨0, by decide, (r4.ext M5).cell rfl⟩
      | 2, _ => exact ⟨1, by decide, (r4.ext M5).cell rfl⟩
      | 3, _ => exact ⟨2, by decide, (r4.ext M5).cell rfl⟩
      | 4, _ => exact ⟨9, by decide, (r4.ext M5).cell rfl⟩
      | 5, _ => exact ⟨1073741824, by decide, (r4.ext M5).cell rfl⟩
    obtain ⟨q, hq, hcq⟩ := hquota
    refine ⟨q, hcq, ?_⟩
    refine quota_ok (H0 := H5) hlt hq (fun A mA => hrow.cell A (M25.trans mA)) (Reads.mod hrow.rd M25 fun _ _ => id) hrow.n hrow.cap hrow.len hrow.fine (.refl _ _) fun A mA => ?_
    exact hnext2 hlt2 _ _ ⟨succ64 z (by omega), M5.trans mA⟩
  -- a name that is taken
  clear row hnext1
  have M3H := M2.trans M3
  refine newC_rowT fun H4 s4 r4 m4 => ?_
  have hxt := litRow r4 rfl
  refine DiskKeeps_ok (by omega) hxt rfl (fine_all rfl) fun H5 e5 => br_f rfl ?_
  refine DiskCrashes_ok (by omega) (Reads.mod hxt e5 fun _ _ => id) rfl (Nat.le_refl _) (fine_all rfl) fun H6 e6 => br_f rfl ?_
  refine DiskQuota_ok (by omega) (Reads.mod hxt (e5.trans e6) fun _ _ => id) rfl (Nat.le_refl _) (fine_all rfl) fun H7 e7 => br_f rfl ?_
  have M7 := (((M3H.trans m4).trans e5).trans e6).trans e7
  -- many writes
  refine newC_rowT fun H8 s8 r8 m8 => ?_
  have M8 := M7.trans m8
  have o8 : SlE EStep ty_fathomlaw01_Step H8 ⟨some ⟨H7.size, 0, none⟩, 1, 1⟩ (manyS 0) := RowT.slE (xs := manyS 0) r8 rfl (by decide)
  refine many_ok (H0 := H7) o8 m8 (by rintro b ⟨ad, e, rfl⟩; cases e; exact Nat.le_refl _) fun s9 i9 H9 o9 m9 f9 => ?_
  refine newC_rowT fun H10 s10 r10 m10 => ?_
  have M10 := (M7.trans m9).trans m10
  refine keeps_ok (H0 := H10) (Owns.ext o9 m10) (.refl _ _) (fun k hk => ?_) fun H11 m11 => ?_
  · have e : ∀ A, Mod (fun _ => False) H10 A → RowT A H9.size _ _ := fun A mA => r10.ext mA
    match k, hk with
    | 0, _ => exact ⟨9223372036854775808, fun A mA => by rw [add_lit0]; exact (e A mA).cell rfl⟩
    | 1, _ => exact ⟨9223372036854775809, fun A mA => by rw [add_lit0]; exact (e A mA).cell rfl⟩
    | 2, _ => exact ⟨2, fun A mA => by rw [add_lit0]; exact (e A mA).cell rfl⟩
    | 3, _ => exact ⟨18446744073709551614, fun A mA => by rw [add_lit0]; exact (e A mA).cell rfl⟩
  -- as many files as there may be
  have M11 := M10.trans m11
  refine New_ok (by omega) fun F d H12 a12 m12 f12 => ?_
  refine full_ok (H0 := H11) a12 m12 f12 fun F2 H13 a13 m13 f13 => ?_
  obtain ⟨c1, c2⟩ := sN_full (n := [109, 111, 114, 101]) rfl
  refine Create_ok (n := strB [109, 111, 114, 101]) a13 fun F3 H14 a14 t14 => ?_
  rw [c2] at a14
  rw [c1]
  refine br_t (by simp) ?_
  have M14 := m13.grow t14.mod f13
  refine List_ok a14 fun l H15 o15 m15 _ => ?_
  have hn := o15.n (by decide)
  rw [sN_list] at hn
  refine br_t (by simp [hn]) ?_
  refine DiskNone_ok ⟨by omega, by omega⟩ fun H16 m16 => br_t rfl ?_
  exact works_ok fun H17 m17 => hK H17 ((((M11.trans M14).trans m15).trans m16).trans m17)

end Go.Proofs.YtnmaojkkfbajcaaGreat
