/-
  A disk that is not there.
-/
import Derived.Test.YtnmaojkkfbajcaaGreatDku
namespace Go.Proofs.YtnmaojkkfbajcaaGreat
open Go.MapKept

theorem List_none {H : Heap} {K : Sl → Heap → Prop} (hK : K (Sl.mk none 0 0) H) : disk_Disk_List.sp none H K := by
  refine disk_Disk_List.of ?_
  unfold disk_Disk_List.vc
  exact ready_none (br_t rfl hK)
theorem Copy_none {H : Heap} {K : Option Addr → Heap → Prop} (hK : K none H) : disk_Disk_Copy.sp none H K := by
  refine disk_Disk_Copy.of ?_
  unfold disk_Disk_Copy.vc
  exact br_t rfl hK
theorem Used_none {H : Heap} {K : Int → Heap → Prop} (hK : K 0 H) : disk_Disk_Used.sp none H K := by
  refine disk_Disk_Used.of ?_
  unfold disk_Disk_Used.vc
  exact br_t rfl hK
theorem Most_none {H : Heap} {K : Int → Heap → Prop} (hK : K 0 H) : disk_Disk_Most.sp none H K := by
  refine disk_Disk_Most.of ?_
  unfold disk_Disk_Most.vc
  exact br_t rfl hK
theorem Quota_none {H : Heap} {K : Int → Heap → Prop} (hK : K 0 H) : disk_Disk_Quota.sp none H K := by
  refine disk_Disk_Quota.of ?_
  unfold disk_Disk_Quota.vc
  exact br_t rfl hK
theorem Ops_none {H : Heap} {K : Int → Heap → Prop} (hK : K 0 H) : disk_Disk_Ops.sp none H K := by
  refine disk_Disk_Ops.of ?_
  unfold disk_Disk_Ops.vc
  exact br_t rfl hK
theorem Down_none {H : Heap} {K : Bool → Heap → Prop} (hK : K false H) : disk_Disk_Down.sp none H K := by
  refine disk_Disk_Down.of ?_
  unfold disk_Disk_Down.vc
  exact br_f rfl hK

theorem DiskNone_ok {x : Int} {x1 x2 : ByteArray} {x3 x4 x6 : Int} {x5 : Bool} {H : Heap} {K : Bool → Heap → Prop} (h4 : 0 ≤ x4 ∧ x4 < 256) (hK : ∀ H', Mod (fun _ => False) H H' → K true H') : fathomlaw01_DiskNone.sp x x1 x2 x3 x4 x5 x6 H K := by
  refine fathomlaw01_DiskNone.of ?_
  unfold fathomlaw01_DiskNone.vc
  refine newC_rowT fun H1 s1 r1 m1 => ?_
  have ldA1 : ∀ {A : Heap} {K' : (Int × ByteArray × ByteArray × Int × Int × Bool × Int) → Prop}, RowT A H.size ty_fathomlaw01_Step #[(.int .i64 x), (.string x1), (.string x2), (.int .i64 x3), (.int .u8 x4), (.bool x5), (.int .u64 x6)] → K' (x, x1, x2, x3, x4, x5, x6) →
      ldA (cAgg [(cInt .i64), cStr, cStr, (cInt .i64), (cInt .u8), cBool, (cInt .u64)]) 7 A ⟨H.size, 0, none⟩ K' := fun r hk => r.ldA (x := (x, x1, x2, x3, x4, x5, x6)) rfl rfl hk
  refine r1.ld (c := cStr) (i := 1) (x := x1) rfl ?_
  refine r1.ld (c := cInt .i64) (i := 3) (x := x3) rfl ?_
  refine Read_none ?_
  refine r1.ld (c := cStr) (i := 1) (x := x1) rfl ?_
  refine Len_none ?_
  refine r1.ld (c := cInt .i64) (i := 3) (x := x3) rfl ?_
  refine r1.ld (c := cInt .u64) (i := 6) (x := x6) rfl ?_
  refine Crash_none ?_
  refine Restart_none ?_
  refine br_t rfl ?_
  refine List_none ?_
  refine br_t rfl ?_
  refine Used_none (br_t rfl ?_)
  refine Most_none (br_t rfl ?_)
  refine Quota_none (br_t rfl ?_)
  refine Ops_none (br_t rfl ?_)
  refine Down_none (br_t rfl ?_)
  refine Copy_none ?_
  refine ⟨fun A => RowT A H.size ty_fathomlaw01_Step #[(.int .i64 x), (.string x1), (.string x2), (.int .i64 x3), (.int .u8 x4), (.bool x5), (.int .u64 x6)], r1, ?_⟩
  refine br_t rfl ?_
  refine r1.ld (c := cStr) (i := 1) (x := x1) rfl ?_
  refine Create_none ⟨r1, br_t rfl ?_⟩
  refine ⟨x1, fun A hA => by rw [add_lit0]; exact hA.cell rfl, ?_⟩
  refine ⟨x3, fun A hA => by rw [add_lit0]; exact hA.cell rfl, ?_⟩
  refine ldA1 r1 ?_
  refine bytes_ok h4 fun b H2 o2 m2 f2 => ?_
  have r2 := r1.ext m2
  refine ⟨r2, Write_none ⟨r2, br_t rfl ?_⟩⟩
  refine r2.ld (c := cStr) (i := 1) (x := x1) rfl ?_
  refine Sync_none ⟨r2, br_t rfl ?_⟩
  refine r2.ld (c := cStr) (i := 1) (x := x1) rfl ?_
  refine ⟨x2, fun A hA => by rw [add_lit0]; exact hA.cell rfl, ?_⟩
  refine Rename_none (br_t rfl ?_)
  refine r2.ld (c := cStr) (i := 1) (x := x1) rfl ?_
  refine Remove_none (br_t rfl ?_)
  exact works_ok fun H3 m3 => hK H3 ((m1.trans m2).trans m3)

end Go.Proofs.YtnmaojkkfbajcaaGreat
